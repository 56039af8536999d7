/- Functions with other instructions at some places: well formed as before. Ways to a read, from their beginning on. The instruction that does nothing. What the pass 'fold' leaves, in plain words. num on the machine. Maps from whole numbers, as lists of pairs. Where blocks begin, in plain words. What the functions of 'ins' answer of single instructions. flow.Heads: where blocks begin. The register that an instruction writes. What 'kinds' answers. What 'other' answers; all of 'kinds'. Whether one instruction is well formed: 'right'. 'right', whole. A number in a list: the library's 'Contains'. Whether a function is well formed: 'Check': its lists of registers, parameters, rows. -/
import Derived.Test.YtgbajicpokolcaaWX
import Derived.Test.YtgbajicpokolcaaWTb
set_option linter.unusedSimpArgs false
set_option linter.unusedVariables false
set_option linter.unusedSectionVars false
namespace Go.Vm
theorem ylw {f : Fn} {C : List Ins} : ∀ (l : List Ins) (i : Nat), (∀ k x, l[k]? = some x → y13 f x = true ∧ y4y C (i + k) x = true) → y3x f C i l = true
  | [], _, _ => rfl
  | y :: l, i, h => by
    rw [y3x, (h 0 y rfl).1, ylw l (i + 1) (fun k x hx => by
      have := h (k + 1) x (by simpa using hx)
      rwa [show i + (k + 1) = i + 1 + k by omega] at this)]
    have := (h 0 y rfl).2
    rw [Nat.add_zero] at this
    rw [this]; rfl
theorem yqn {f : Fn} {i : Nat} (h : (lst f.code).length ≤ i) : yz f i = default := by
  rw [yz, List.getD_eq_getElem?_getD, List.getElem?_eq_none h]; rfl
structure Swap (f g : Fn) : Prop where
  regs : g.regs = f.regs
  params : g.params = f.params
  ret : g.ret = f.ret
  rows : g.rows = f.rows
  len : (lst g.code).length = (lst f.code).length
theorem Swap.refl (f : Fn) : Swap f f := ⟨rfl, rfl, rfl, rfl, rfl⟩
theorem Swap.trans {f g h : Fn} (a : Swap f g) (b : Swap g h) : Swap f h := ⟨b.regs.trans a.regs, b.params.trans a.params, b.ret.trans a.ret, b.rows.trans a.rows, b.len.trans a.len⟩
theorem yng {f g : Fn} (s : Swap f g) (x : Ins) : y13 g x = y13 f x := by
  unfold y13
  rw [s.regs, s.ret, s.len]
theorem y1ug {f g : Fn} (s : Swap f g) (hw : wf f = true) (h : ∀ i, i < (lst f.code).length → y13 f (yz g i) = true ∧ (ends (yz f i).op = true → ends (yz g i).op = true) ∧
    ((yz g i).op = 32 ↔ (yz f i).op = 32) ∧ (leads (yz g i).op = true → leads (yz f i).op = true ∧ (yz g i).t = (yz f i).t)) : wf g = true := by
  have w := y1gl hw
  have e32 : ∀ i : Nat, (yz g i).op = 32 ↔ (yz f i).op = 32 := fun i => by
    by_cases hi : i < (lst f.code).length
    · exact (h i hi).2.2.1
    · rw [yqn (f := g) (by rw [s.len]; omega), yqn (f := f) (by omega)]
  have hlast := (h ((lst f.code).length - 1) (by have := w.n1; omega)).2.1 w.last
  have hspot : ∀ i, i < (lst f.code).length → y4y (lst g.code) i (yz g i) = true := by
    intro i hi
    have h0 := w.spot i hi
    obtain ⟨_, _, h3, h4⟩ := h i hi
    unfold y4y at h0 ⊢
    rw [Bool.not_eq_true', Bool.or_eq_false_iff, Bool.and_eq_false_iff, Bool.and_eq_false_iff] at h0 ⊢
    refine ⟨?_, ?_⟩
    · rcases h0.1 with q | q
      · left
        simp only [decide_eq_false_iff_not] at q ⊢
        rwa [h3]
      · right
        rw [Bool.or_eq_false_iff] at q ⊢
        refine ⟨q.1, ?_⟩
        have he : ends (yz f (i - 1)).op = true := by simpa [yz] using q.2
        have := (h (i - 1) (by omega)).2.1 he
        simpa [yz] using this
    · cases hl : leads (yz g i).op with
      | false => exact .inl rfl
      | true =>
        right
        obtain ⟨a, b⟩ := h4 hl
        rcases h0.2 with h | h
        · rw [a] at h; cases h
        · simp only [decide_eq_false_iff_not] at h ⊢
          rw [b]
          exact fun e => h ((e32 _).1 e)
  have hw' := hw
  unfold wf at hw' ⊢
  rw [s.len, s.regs, s.ret, s.params, s.rows]
  simp only [Bool.and_eq_true] at hw' ⊢
  obtain ⟨⟨⟨⟨⟨⟨⟨⟨⟨h1, h2⟩, h3⟩, h4⟩, h5⟩, h6⟩, h7⟩, h8⟩, h9⟩, h10⟩ := hw'
  refine ⟨⟨⟨⟨⟨⟨⟨⟨⟨h1, h2⟩, h3⟩, h4⟩, h5⟩, hlast⟩, h7⟩, h8⟩, ylw _ 0 fun k x hx => ?_⟩, ?_⟩
  · have hk : k < (lst f.code).length := by rw [← s.len]; exact (List.getElem?_eq_some_iff.1 hx).1
    have e : yz g k = x := by rw [yz, List.getD_eq_getElem?_getD, hx]; rfl
    rw [Nat.zero_add, ← e]
    exact ⟨by rw [yng s]; exact (h k hk).1, hspot k hk⟩
  · rw [List.all_eq_true] at h10 ⊢
    intro r hr
    have := h10 r hr
    unfold y7s at this ⊢
    rw [s.len]
    rw [Bool.not_eq_true', Bool.or_eq_false_iff] at this ⊢
    refine ⟨this.1, ?_⟩
    have t2 := this.2
    simp only [decide_eq_false_iff_not, Classical.not_not] at t2 ⊢
    exact (e32 r.at_.toNat).2 t2
end Go.Vm
namespace Go.Vm
inductive Way (f : Fn) (r : Int) : Nat → Prop
  | use {i : Nat} : i < (lst f.code).length → r ∈ y1b9 f i → Way f r i
  | step {i : Nat} {j : Int} : i < (lst f.code).length → j ∈ yyi f r i → 0 ≤ j → j < (lst f.code).length → Way f r j.toNat → Way f r i
theorem Way.lt {f : Fn} {r : Int} {i : Nat} (h : Way f r i) : i < (lst f.code).length := by cases h <;> assumption
theorem y1h9 {f : Fn} {r : Nat} {A : List Int} : yxp f A r ↔ ∃ a ∈ A, 0 ≤ a ∧ a < (lst f.code).length ∧ Way f r a.toNat := by
  rw [y1bj f]
  constructor
  · rintro ⟨a, ha, a0, a1, k, hk, hu⟩
    refine ⟨a, ha, a0, a1, ?_⟩
    have key : ∀ {k : Nat}, Rch (lst f.code).length (yyi f r) [a] k → Way f r k → Way f r a.toNat := by
      intro k hk
      induction hk with
      | base hj j0 j1 =>
        rw [List.mem_singleton] at hj
        subst hj
        exact id
      | step h hj j0 j1 ih => exact fun w => ih (.step h.lt hj j0 j1 w)
    exact key hk (.use hk.lt hu)
  · rintro ⟨a, ha, a0, a1, w⟩
    refine ⟨a, ha, a0, a1, ?_⟩
    have key : ∀ {k : Nat}, Way f r k → ∀ {A : List Int}, Rch (lst f.code).length (yyi f r) A k → yxp f A r := by
      intro k w
      induction w with
      | use hi hu => exact fun h => ⟨_, h, hu⟩
      | step hi hj j0 j1 _ ih => exact fun h => ih (.step h hj j0 j1)
    exact key w (.base (by simp) a0 a1)
theorem y14n {f : Fn} {r : Nat} : badR f r ↔ 0 < (lst f.code).length ∧ Way f r 0 := by
  have : badR f r ↔ yxp f [0] r := Iff.rfl
  rw [this, y1h9]
  constructor
  · rintro ⟨a, ha, a0, a1, w⟩
    rw [List.mem_singleton] at ha
    subst ha
    exact ⟨by omega, w⟩
  · rintro ⟨h, w⟩
    exact ⟨0, by simp, by omega, by omega, w⟩
end Go.Vm
namespace Go.Vm
def nopI : Ins := ⟨33, 0, 0, 0, 0, 0, 0, [], none⟩
theorem y1ks : lst (uses nopI) = [] := by decide
theorem yy2 {f : Fn} : y13 f nopI = true := by
  simp [y13, nopI, yd, y1c, y9y, calls, y2h, leads]
end Go.Vm
namespace Go.Vm
def y19 (d n : Int) : Ins := ⟨1, d, 0, 0, 0, n, 0, [], none⟩
def y85 (t : Int) : Ins := ⟨27, 0, 0, 0, 0, 0, t, [], none⟩
abbrev Kn := List (Int × Int)
def y40 (x : Ins) (kn : Kn) : Ins :=
  if x.op = 6 then (match aget x.a kn with
    | some a => y19 x.d (yeb x.n a)
    | none => x)
  else if x.op = 5 then (match aget x.a kn with
    | some a => (match aget x.b kn with
      | some b => y19 x.d (twoM x.n a b)
      | none => x)
    | none => x)
  else if x.op = 4 then (match aget x.a kn with
    | some a => y19 x.d a
    | none => x)
  else if x.op = 28 then (match aget x.a kn with
    | some a => (match aget x.b kn with
      | some b => if y5v x.n a b then y85 x.t else nopI
      | none => x)
    | none => x)
  else x
def yao (y : Ins) (kn : Kn) : Kn := if 0 ≤ defr y then (if y.op = 1 then aset (defr y) y.n (adel (defr y) kn) else adel (defr y) kn) else kn
def yam (hd : Int → Bool) : Nat → Kn → List Ins → List Ins
  | _, _, [] => []
  | i, kn, x :: xs => y40 x (if hd i then [] else kn) :: yam hd (i + 1) (yao (y40 x (if hd i then [] else kn)) (if hd i then [] else kn)) xs
def ydw (f : Fn) (i : Int) : Bool := decide (i ∈ y53 f)
def yn8 (f : Fn) : List Ins := yam (ydw f) 0 [] (lst f.code)
theorem yia (hd : Int → Bool) : ∀ (l : List Ins) (i : Nat) (kn : Kn), (yam hd i kn l).length = l.length
  | [], _, _ => rfl
  | x :: l, i, kn => by rw [yam, List.length_cons, yia hd l, List.length_cons]
structure KnOk (f : Fn) (kn : Kn) : Prop where
  new : anew kn
  at_ : ∀ r v, aget r kn = some v → y24 v ∧ ¬ regK (lst f.regs) r = 3 ∧ (regK (lst f.regs) r = 2 ∨ y32 v)
theorem KnOk.nil (f : Fn) : KnOk f [] := ⟨trivial, fun r v h => by cases h⟩
structure Fold1 (f : Fn) (x y : Ins) : Prop where
  right : y13 f y = true
  n : y24 y.n
  s : y.s.length ≤ 9223372036854775807
  args : y.args = x.args ∨ y.args = none
  ends : ends x.op = true → ends y.op = true
  ctch : y.op = 32 ↔ x.op = 32
  lead : leads y.op = true → leads x.op = true ∧ y.t = x.t
  uses : ∀ u ∈ lst (uses y), u ∈ lst (uses x)
  def_ : defr y = defr x
  thr : throws y.op = throws x.op
  next : ∀ i to : Int, to ∈ y9l y i → to ∈ y9l x i
theorem Fold1.same {f : Fn} {x : Ins} (h : y13 f x = true) (hn : y24 x.n) (hs : x.s.length ≤ 9223372036854775807) : Fold1 f x x :=
  ⟨h, hn, hs, .inl rfl, id, Iff.rfl, fun h => ⟨h, rfl⟩, fun _ h => h, rfl, rfl, fun _ _ h => h⟩
theorem y51 {f : Fn} {d v : Int} (hd : inR (lst f.regs) d = true) (h3 : ¬ regK (lst f.regs) d = 3) (hv : regK (lst f.regs) d = 2 ∨ y32 v) : y13 f (y19 d v) = true := by
  have h2 : (decide (regK (lst f.regs) d = 2) || decide (v = IntKind.wrap .i64 (IntKind.wrap .i32 v))) = true := by
    rcases hv with h | h
    · simp [h]
    · simp [← ynz h]
  have ht : y2h (lst f.regs) f.ret (lst f.code).length (y19 d v) = true := by
    show (decide (¬ regK (lst f.regs) d = 3) && (decide (regK (lst f.regs) d = 2) || decide (v = IntKind.wrap .i64 (IntKind.wrap .i32 v)))) = true
    rw [decide_eq_true h3, h2]
    rfl
  rw [y13, ht]
  simp [y19, yd, y1c, y9y, calls, hd]
theorem ymr {f : Fn} {x : Ins} {v : Int} (hop : x.op = 4 ∨ x.op = 5 ∨ x.op = 6) (hv : y24 v) (hr : y13 f (y19 x.d v) = true) : Fold1 f x (y19 x.d v) := by
  refine ⟨hr, hv, Nat.zero_le _, .inr rfl, fun h => ?_, ⟨fun h => (by cases h), fun h => ?_⟩, fun h => (by cases h), fun u hu => (by revert hu; simp [y19, uses, calls, reads]), ?_, ?_, fun i to h => ?_⟩
  · rcases hop with e | e | e <;> rw [e] at h <;> cases h
  · rcases hop with e | e | e <;> rw [e] at h <;> cases h
  · have h1 : writes x.op = true := by rcases hop with e | e | e <;> rw [e] <;> decide
    rw [defr, defr, if_pos h1]; rfl
  · rcases hop with e | e | e <;> rw [e] <;> rfl
  · have : y9l (y19 x.d v) i = [i + 1] := rfl
    rw [this] at h
    have h2 : y9l x i = [i + 1] := by rcases hop with e | e | e <;> simp [y9l, e, leads, Go.Vm.ends]
    rw [h2]; exact h
theorem y1if {f : Fn} {x : Ins} {kn : Kn} (hx : y13 f x = true) (hn : y24 x.n) (hs : x.s.length ≤ 9223372036854775807) (K : KnOk f kn) : Fold1 f x (y40 x kn) := by
  have same := Fold1.same hx hn hs
  have hx' := hx
  simp only [y13, Bool.and_eq_true] at hx'
  obtain ⟨⟨⟨⟨⟨⟨q1, q2⟩, q3⟩, q4⟩, q5⟩, q6⟩, q7⟩ := hx'
  have fld : ∀ {k r : Int}, y1c (lst f.regs) k r = true → 0 ≤ k → inR (lst f.regs) r = true ∧ (0 < k → regK (lst f.regs) r = k) := by
    intro k r h hk
    simp only [y1c, Bool.or_eq_true, Bool.and_eq_true, decide_eq_true_eq] at h
    rcases h with h | h
    · omega
    · exact ⟨h.1, fun hp => by rcases h.2 with h2 | h2 <;> omega⟩
  unfold y40
  by_cases h6 : x.op = 6
  · rw [if_pos h6]
    cases ha : aget x.a kn with
    | none => exact same
    | some a =>
      have hk : yd x = ((numK x.n).2.2, (numK x.n).1, -1, -1, decide (¬ (numK x.n).1 = 0) && decide ((numK x.n).2.1 = 0)) := by simp [yd, h6]
      rw [hk] at q1 q2
      simp only [Bool.and_eq_true, decide_eq_true_eq] at q1 q2
      have nn := yeg x.n
      obtain ⟨hd, hd2⟩ := fld q2 nn.2.2
      have hc : (numK x.n).2.2 = 1 ∨ (numK x.n).2.2 = 2 := by
        revert q1
        unfold numK
        repeat' split
        all_goals simp
      have hd2 := hd2 (by omega)
      refine ymr (.inr (.inr h6)) (yxa _ _) (y51 hd (by omega) ?_)
      rcases hc with e | e
      · exact .inr (y1tt a e q1.2)
      · exact .inl (by omega)
  · rw [if_neg h6]
    by_cases h5 : x.op = 5
    · rw [if_pos h5]
      cases ha : aget x.a kn with
      | none => exact same
      | some a =>
        cases hb : aget x.b kn with
        | none => exact same
        | some b =>
          have hk : yd x = ((numK x.n).2.2, (numK x.n).1, (numK x.n).2.1, -1, decide (¬ (numK x.n).2.1 = 0)) := by simp [yd, h5]
          rw [hk] at q1 q2
          simp only [decide_eq_true_eq] at q1 q2
          have nn := yeg x.n
          obtain ⟨hd, hd2⟩ := fld q2 nn.2.2
          have hc : (numK x.n).2.2 = 1 ∨ (numK x.n).2.2 = 2 := by
            revert q1
            unfold numK
            repeat' split
            all_goals simp
          have hd2 := hd2 (by omega)
          refine ymr (.inr (.inl h5)) (y1ne _ (K.at_ _ _ ha).1) (y51 hd (by omega) ?_)
          rcases hc with e | e
          · exact .inr (y1qr a b e q1)
          · exact .inl (by omega)
    · rw [if_neg h5]
      by_cases h4 : x.op = 4
      · rw [if_pos h4]
        cases ha : aget x.a kn with
        | none => exact same
        | some a =>
          have hk : yd x = (0, 0, -1, -1, true) := by simp [yd, h4]
          rw [hk] at q2
          obtain ⟨hd, _⟩ := fld q2 (Int.le_refl _)
          have ht : regK (lst f.regs) x.d = regK (lst f.regs) x.a := by
            simp [y2h, h4] at q7
            exact q7
          obtain ⟨k1, k2, k3⟩ := K.at_ _ _ ha
          exact ymr (.inl h4) k1 (y51 hd (by rw [ht]; exact k2) (by rw [ht]; exact k3))
      · rw [if_neg h4]
        by_cases h28 : x.op = 28
        · rw [if_pos h28]
          cases ha : aget x.a kn with
          | none => exact same
          | some a =>
            cases hb : aget x.b kn with
            | none => exact same
            | some b =>
              have hdx : defr x = -1 := by simp [defr, h28, writes, calls]
              have hnx : ∀ i : Int, y9l x i = addN [i + 1] x.t := fun i => by simp [y9l, h28, leads, ends]
              have ha1 : ∀ (l : List Int) (j : Int), j ∈ addN l j := fun l j => by
                unfold addN; split
                · rename_i h; simpa using h
                · simp
              have ha2 : ∀ (l : List Int) (j k : Int), k ∈ l → k ∈ addN l j := fun l j k h => by
                unfold addN; split
                · exact h
                · simp [h]
              show Fold1 f x (if y5v x.n a b = true then y85 x.t else nopI)
              cases hh : y5v x.n a b with
              | true =>
                rw [if_pos rfl]
                have hr : y13 f (y85 x.t) = true := by
                  have ht := yf8 q7 (by simp [leads, h28])
                  simp [y13, y85, yd, y1c, y9y, calls, y2h, leads, ht.1, ht.2]
                refine ⟨hr, by show y24 0; decide, Nat.zero_le _, .inr rfl, fun h => rfl, ⟨(fun h => by cases h), (fun h => by rw [h28] at h; cases h)⟩, fun _ => ⟨by simp [leads, h28], rfl⟩, fun u hu => (by revert hu; simp [y85, uses, calls, reads]), by rw [hdx]; rfl, by rw [h28]; rfl, fun i to h => ?_⟩
                have : y9l (y85 x.t) i = [x.t] := rfl
                rw [this, List.mem_singleton] at h
                rw [hnx, h]
                exact ha1 _ _
              | false =>
                rw [if_neg Bool.false_ne_true]
                refine ⟨yy2, by show y24 0; decide, by decide, .inr rfl, (fun h => by rw [h28] at h; cases h), ⟨(fun h => by cases h), (fun h => by rw [h28] at h; cases h)⟩, fun h => (by cases h), fun u hu => (by rw [y1ks] at hu; cases hu), by rw [hdx]; rfl, by rw [h28]; rfl, fun i to h => ?_⟩
                have : y9l nopI i = [i + 1] := rfl
                rw [this, List.mem_singleton] at h
                rw [hnx, h]
                exact ha2 _ _ _ (by simp)
        · rw [if_neg h28]
          exact same
theorem y1sv {f : Fn} {y : Ins} {kn : Kn} (hy : y13 f y = true) (hn : y24 y.n) (K : KnOk f kn) : KnOk f (yao y kn) := by
  unfold yao
  split
  · have kd : KnOk f (adel (defr y) kn) := ⟨yl5 _ _ K.new, fun r v h => by
      rw [ye4 _ _ _ K.new] at h
      split at h
      · cases h
      · exact K.at_ r v h⟩
    split
    · rename_i h1
      refine ⟨ym9 _ _ _ kd.new, fun r v h => ?_⟩
      rw [ya0] at h
      split at h
      · rename_i e
        injection h with h
        subst h
        subst e
        have hd : defr y = y.d := by simp [defr, h1, writes]
        simp only [y13, Bool.and_eq_true] at hy
        have q7 := hy.2
        simp only [y2h, h1, if_true, Bool.and_eq_true, Bool.or_eq_true, decide_eq_true_eq] at q7
        rw [hd]
        refine ⟨hn, q7.1, q7.2.imp id fun h => ?_⟩
        rw [h]
        have := y38 y.n
        rw [y5l (y6p this)]
        exact this
      · exact kd.at_ r v h
    · exact kd
  · exact K
theorem ym6 {f : Fn} (hd : Int → Bool) : ∀ (l : List Ins) (i : Nat) (kn : Kn), (∀ x ∈ l, y13 f x = true ∧ y24 x.n ∧ x.s.length ≤ 9223372036854775807) → KnOk f kn → ∀ (k : Nat) (x : Ins), l[k]? = some x → ∃ y, (yam hd i kn l)[k]? = some y ∧ Fold1 f x y
  | [], _, _, _, _, _, _, h => by simp at h
  | z :: l, i, kn, hl, K, k, x, h => by
    have K1 : KnOk f (if hd i then [] else kn) := by
      split
      · exact KnOk.nil f
      · exact K
    obtain ⟨z1, z2, z3⟩ := hl z (by simp)
    have F := y1if z1 z2 z3 K1
    rw [yam]
    cases k with
    | zero =>
      simp only [List.getElem?_cons_zero, Option.some.injEq] at h
      subst h
      exact ⟨_, rfl, F⟩
    | succ k =>
      simp only [List.getElem?_cons_succ] at h ⊢
      exact ym6 hd l (i + 1) _ (fun x hx => hl x (by simp [hx])) (y1sv F.right F.n K1) k x h
structure FoldOk (f g : Fn) : Prop where
  swap : Swap f g
  at_ : ∀ i, i < (lst f.code).length → Fold1 f (yz f i) (yz g i)
theorem y1jm {f : Fn} (hw : wf f = true) (hf : ∀ x ∈ lst f.code, y24 x.n ∧ x.s.length ≤ 9223372036854775807) : FoldOk f (y5u f (yn8 f)) := by
  have w := y1gl hw
  refine ⟨⟨rfl, rfl, rfl, rfl, yia _ _ _ _⟩, fun i hi => ?_⟩
  have hx := y4e hi
  obtain ⟨y, h1, h2⟩ := ym6 (f := f) (ydw f) (lst f.code) 0 [] (fun x hx => by
    obtain ⟨k, hk, e⟩ := List.getElem_of_mem hx
    have := w.ins k hk
    rw [yz, List.getD_eq_getElem?_getD, List.getElem?_eq_getElem hk, e] at this
    exact ⟨this, hf x hx⟩) (KnOk.nil f) i _ hx
  have e : yz (y5u f (yn8 f)) i = y := by
    rw [yz, List.getD_eq_getElem?_getD]
    show ((yn8 f)[i]?).getD default = y
    rw [yn8, h1]; rfl
  rw [e]; exact h2
section
variable {f g : Fn} (k : FoldOk f g)
include k
theorem FoldOk.wf (hw : Go.Vm.wf f = true) : Go.Vm.wf g = true :=
  y1ug k.swap hw fun i hi => by
    have F := k.at_ i hi
    exact ⟨F.right, F.ends, F.ctch, F.lead⟩
theorem FoldOk.next {i to : Int} (h : to ∈ y4u g i) : to ∈ y4u f i := by
  unfold y4u at h ⊢
  rw [k.swap.len] at h
  split at h
  · cases h
  · rename_i hi
    rw [if_neg hi]
    exact (k.at_ i.toNat (by omega)).next _ _ h
theorem FoldOk.caught (i : Int) : y21 g i = y21 f i := by
  unfold y21
  rw [k.swap.len, k.swap.rows]
  by_cases h : i < 0 ∨ ((lst f.code).length : Int) ≤ i
  · rw [if_pos h, if_pos h]
  · rw [if_neg h, if_neg h, (k.at_ i.toNat (by omega)).thr]
theorem FoldOk.way {r : Int} {i : Nat} (h : Way g r i) : Way f r i := by
  induction h with
  | use hi hu =>
    rw [k.swap.len] at hi
    exact .use hi ((k.at_ _ hi).uses _ hu)
  | @step i j hi hj j0 j1 _ ih =>
    rw [k.swap.len] at hi j1
    refine .step hi ?_ j0 j1 ih
    have F := k.at_ i hi
    unfold yyi at hj ⊢
    rw [k.caught, F.def_] at hj
    rw [List.mem_append] at hj ⊢
    refine hj.imp id fun h => ?_
    split at h
    · cases h
    · rename_i hd
      rw [if_neg hd]
      exact k.next h
theorem FoldOk.set (hw : Go.Vm.wf f = true) (hs : setM f = true) : setM g = true := by
  unfold setM at hs ⊢
  rw [k.wf hw]
  rw [hw] at hs
  simp only [Bool.true_and, decide_eq_true_eq] at hs ⊢
  intro r h0 h1 hp hb
  rw [k.swap.regs] at h1
  rw [k.swap.params] at hp
  have e : ((r.toNat : Nat) : Int) = r := by omega
  rw [← e] at hb
  obtain ⟨b1, b2⟩ := y14n.1 hb
  rw [k.swap.len] at b1
  refine hs r h0 h1 hp ?_
  rw [← e]
  exact y14n.2 ⟨b1, k.way b2⟩
end
end Go.Vm
namespace Go.Vm
open Cel
theorem yg1 (k : IntKind) (a b : Int) : y2 .and (.int k a) (.int k b) = some (.int k (bI .and k a b)) := by simp [y2, y1p, y2a, bI, nOf]
theorem evOr (k : IntKind) (a b : Int) : y2 .or (.int k a) (.int k b) = some (.int k (bI .or k a b)) := by simp [y2, y1p, y2a, bI, nOf]
theorem y1wl (k : IntKind) (a b : Int) : y2 .xor (.int k a) (.int k b) = some (.int k (bI .xor k a b)) := by simp [y2, y1p, y2a, bI, nOf]
theorem y1yq (k : IntKind) (a b : Int) : y2 .add (.int k a) (.int k b) = some (.int k (bI .add k a b)) := by simp [y2, y1p, y2a, bI, nOf]
theorem y21o (k : IntKind) (a b : Int) : y2 .sub (.int k a) (.int k b) = some (.int k (bI .sub k a b)) := by simp [y2, y1p, y2a, bI, nOf]
theorem y1zf (k : IntKind) (a b : Int) : y2 .mul (.int k a) (.int k b) = some (.int k (bI .mul k a b)) := by simp [y2, y1p, y2a, bI, nOf]
theorem y1yh (k k' : IntKind) (a b : Int) (h : 0 ≤ b) : y2 .shl (.int k a) (.int k' b) = some (.int k (shI .shl k a b)) := by
  have : ¬ b < 0 := by omega
  simp [y2, y1p, y57, shI, nOf, this]
theorem y1mq (k k' : IntKind) (a b : Int) (h : 0 ≤ b) : y2 .shr (.int k a) (.int k' b) = some (.int k (shI .shr k a b)) := by
  have : ¬ b < 0 := by omega
  simp [y2, y1p, y57, shI, nOf, this]
theorem y1tu (b : Int) : 0 ≤ bI .and .u32 b 31 := by
  simp [bI, y2a, nOf, IntKind.wrap, IntKind.signed, IntKind.bits]; omega
theorem y1ua (b : Int) : 0 ≤ bI .and .u64 b 63 := by
  simp [bI, y2a, nOf, IntKind.wrap, IntKind.signed, IntKind.bits]; omega
theorem y1w2 (k : IntKind) (a : Int) : evUn .neg (.int k a) = some (.int k (k.wrap (-a))) := by simp [evUn]
theorem y1tg (c a b : Int) : (y5 E).p 129 [.int .i64 c, .int .i64 a, .int .i64 b] = some ⟨.bool (y5v c a b), [], true, [], []⟩ := by
  rw [y23s]
  unfold y5v
  by_cases h0 : c = 0
  · simp [yis, yjd, yj1, h0]
  by_cases h1 : c = 1
  · simp [yis, yjd, yj1, h1]
  by_cases h2 : c = 2
  · simp [yis, yjd, yj1, h2]
  by_cases h3 : c = 3
  · simp [yis, yjd, yj1, h3]
  by_cases h4 : c = 4
  · simp [yis, yjd, yj1, h4]
  by_cases h5 : c = 5
  · simp [yis, yjd, yj1, h5]
  simp [yis, yjd, yj1, h0, h1, h2, h3, h4, h5]
theorem y1wn (c a : Int) : (y5 E).p 127 [.int .i64 c, .int .i64 a] = some ⟨.int .i64 (yeb c a), [], true, [], []⟩ := by
  rw [y24v]
  unfold yeb
  by_cases h0 : c = 116
  · simp [yg7, yee, ygc, ygf, ygb, yfx, yfw, yg2, y92, h0, y1w2]
  by_cases h1 : c = 117
  · simp [yg7, yee, ygc, ygf, ygb, yfx, yfw, yg2, y92, h1, y1w2]
  by_cases h2 : c = 133
  · simp [yg7, yee, ygc, ygf, ygb, yfx, yfw, yg2, y92, h2]
  by_cases h3 : c = 136
  · simp [yg7, yee, ygc, ygf, ygb, yfx, yfw, yg2, y92, h3]
  by_cases h4 : c = 145
  · simp [yg7, yee, ygc, ygf, ygb, yfx, yfw, yg2, y92, h4]
  by_cases h5 : c = 146
  · simp [yg7, yee, ygc, ygf, ygb, yfx, yfw, yg2, y92, h5]
  by_cases h6 : c = 147
  · simp [yg7, yee, ygc, ygf, ygb, yfx, yfw, yg2, y92, h6]
  simp [yg7, yee, ygc, ygf, ygb, yfx, yfw, yg2, y92, h0, h1, h2, h3, h4, h5, h6]
theorem y17a (r : Bool) (a b : Int) : (y5 E).p 132 [.bool r, .int .i64 a, .int .i64 b] = some ⟨.int .i64 (divM r a b), [], true, [], []⟩ := by
  rw [y24c]
  unfold divM
  by_cases h0 : b = 0
  · simp [y16p, y191, y1an, y1gg, y14h, y11u, y17u, ymb, h0]
  by_cases h1 : b = -1
  · cases r <;> simp [y16p, y191, y1an, y1gg, y14h, y11u, y17u, ymb, h1, y1w2]
  have q1 : y2 .quo (.int .i64 a) (.int .i64 b) = some (.int .i64 (IntKind.wrap .i64 (a.tdiv b))) := by simp [y2, y1p, y2a, h0]
  have q2 : y2 .rem (.int .i64 a) (.int .i64 b) = some (.int .i64 (a.tmod b)) := by simp [y2, y1p, y2a, h0]
  cases r <;> simp [y16p, y191, y1an, y1gg, y14h, y11u, y17u, ymb, h0, h1, q1, q2]
theorem y1km (r : Bool) (a b : Int) (fb : Nat) (H : Heap) : y4 E (y5 E) fb none true 132 [.bool r, .int .i64 a, .int .i64 b] H = some (.int .i64 (divM r a b), H) :=
  y1s (fa := ⟨[.bool r, .int .i64 a, .int .i64 b], true, []⟩) rfl rfl rfl (y17a r a b) ⟨_, rfl, rfl⟩
set_option maxHeartbeats 1000000 in
theorem y25b (c a b : Int) : (y5 E).p 130 [.int .i64 c, .int .i32 a, .int .i32 b] = some ⟨.int .i32 (intM c a b), [], true, [], []⟩ := by
  rw [y23d]
  unfold intM
  have g1 := y1yh .i32 .u32 a _ (y1tu (IntKind.wrap .u32 b))
  have g2 := y1mq .i32 .u32 a _ (y1tu (IntKind.wrap .u32 b))
  have g3 := y1mq .u32 .u32 (IntKind.wrap .u32 a) _ (y1tu (IntKind.wrap .u32 b))
  by_cases h0 : c = 96
  · simp [ya5, y9q, ya7, ya4, yaa, yat, ya8, yb6, ybf, y59, y54, h0, y1yq, -yw]
  by_cases h1 : c = 100
  · simp [ya5, y9q, ya7, ya4, yaa, yat, ya8, yb6, ybf, y59, y54, h1, y21o, -ye2]
  by_cases h2 : c = 104
  · simp [ya5, y9q, ya7, ya4, yaa, yat, ya8, yb6, ybf, y59, y54, h2, y1zf, -yl8]
  by_cases h3 : c = 108
  · simp [ya5, y9q, ya7, ya4, yaa, yat, ya8, yb6, ybf, y59, y54, h3, y1km]
  by_cases h4 : c = 112
  · simp [ya5, y9q, ya7, ya4, yaa, yat, ya8, yb6, ybf, y59, y54, h4, y1km]
  by_cases h5 : c = 120
  · simp [ya5, y9q, ya7, ya4, yaa, yat, ya8, yb6, ybf, y59, y54, h5, yg1, g1]
  by_cases h6 : c = 122
  · simp [ya5, y9q, ya7, ya4, yaa, yat, ya8, yb6, ybf, y59, y54, h6, yg1, g2]
  by_cases h7 : c = 124
  · simp [ya5, y9q, ya7, ya4, yaa, yat, ya8, yb6, ybf, y59, y54, h7, yg1, g3]
  by_cases h8 : c = 126
  · simp [ya5, y9q, ya7, ya4, yaa, yat, ya8, yb6, ybf, y59, y54, h8, yg1]
  by_cases h9 : c = 128
  · simp [ya5, y9q, ya7, ya4, yaa, yat, ya8, yb6, ybf, y59, y54, h9, evOr]
  by_cases h10 : c = 130
  · simp [ya5, y9q, ya7, ya4, yaa, yat, ya8, yb6, ybf, y59, y54, h10, y1wl]
  simp [ya5, y9q, ya7, ya4, yaa, yat, ya8, yb6, ybf, y59, y54, h0, h1, h2, h3, h4, h5, h6, h7, h8, h9, h10]
set_option maxHeartbeats 1000000 in
theorem y21u (c a b : Int) : (y5 E).p 131 [.int .i64 c, .int .i64 a, .int .i64 b] = some ⟨.int .i64 (yy3 c a b), [], true, [], []⟩ := by
  rw [y24a]
  unfold yy3
  have g1 := y1yh .i64 .u64 a _ (y1ua (IntKind.wrap .u64 b))
  have g2 := y1mq .i64 .u64 a _ (y1ua (IntKind.wrap .u64 b))
  have g3 := y1mq .u64 .u64 (IntKind.wrap .u64 a) _ (y1ua (IntKind.wrap .u64 b))
  by_cases h0 : c = 97
  · simp [ya3, y9g, y9w, ya1, yb8, ya2, yb1, yak, yap, y5a, y58, h0, y1yq, -yw]
  by_cases h1 : c = 101
  · simp [ya3, y9g, y9w, ya1, yb8, ya2, yb1, yak, yap, y5a, y58, h1, y21o, -ye2]
  by_cases h2 : c = 105
  · simp [ya3, y9g, y9w, ya1, yb8, ya2, yb1, yak, yap, y5a, y58, h2, y1zf, -yl8]
  by_cases h3 : c = 109
  · simp [ya3, y9g, y9w, ya1, yb8, ya2, yb1, yak, yap, y5a, y58, h3, y1km]
  by_cases h4 : c = 113
  · simp [ya3, y9g, y9w, ya1, yb8, ya2, yb1, yak, yap, y5a, y58, h4, y1km]
  by_cases h5 : c = 121
  · simp [ya3, y9g, y9w, ya1, yb8, ya2, yb1, yak, yap, y5a, y58, h5, yg1, g1]
  by_cases h6 : c = 123
  · simp [ya3, y9g, y9w, ya1, yb8, ya2, yb1, yak, yap, y5a, y58, h6, yg1, g2]
  by_cases h7 : c = 125
  · simp [ya3, y9g, y9w, ya1, yb8, ya2, yb1, yak, yap, y5a, y58, h7, yg1, g3]
  by_cases h8 : c = 127
  · simp [ya3, y9g, y9w, ya1, yb8, ya2, yb1, yak, yap, y5a, y58, h8, yg1]
  by_cases h9 : c = 129
  · simp [ya3, y9g, y9w, ya1, yb8, ya2, yb1, yak, yap, y5a, y58, h9, evOr]
  by_cases h10 : c = 131
  · simp [ya3, y9g, y9w, ya1, yb8, ya2, yb1, yak, yap, y5a, y58, h10, y1wl]
  simp [ya3, y9g, y9w, ya1, yb8, ya2, yb1, yak, yap, y5a, y58, h0, h1, h2, h3, h4, h5, h6, h7, h8, h9, h10]
theorem y1x5 (c a b : Int) : (y5 E).p 128 [.int .i64 c, .int .i64 a, .int .i64 b] = some ⟨.int .i64 (twoM c a b), [], true, [], []⟩ := by
  rw [y24t]
  unfold twoM
  have cI : ∀ H, y4 E (y5 E) 0 none true 130 [.int .i64 c, .int .i32 (IntKind.wrap .i32 a), .int .i32 (IntKind.wrap .i32 b)] H = some (.int .i32 (intM c (IntKind.wrap .i32 a) (IntKind.wrap .i32 b)), H) := fun H =>
    y1s (fa := ⟨[.int .i64 c, .int .i32 (IntKind.wrap .i32 a), .int .i32 (IntKind.wrap .i32 b)], true, []⟩) rfl rfl rfl (y25b c _ _) ⟨_, rfl, rfl⟩
  have cL : ∀ H, y4 E (y5 E) 0 none true 131 [.int .i64 c, .int .i64 a, .int .i64 b] H = some (.int .i64 (yy3 c a b), H) := fun H =>
    y1s (fa := ⟨[.int .i64 c, .int .i64 a, .int .i64 b], true, []⟩) rfl rfl rfl (y21u c a b) ⟨_, rfl, rfl⟩
  by_cases h0 : c = 148
  · by_cases h1 : a < b
    · simp [yoj, yns, ynl, yoc, ymp, ymn, h0, h1]
    · by_cases h2 : b < a
      · simp [yoj, yns, ynl, yoc, ymp, ymn, h0, h1, h2]
      · simp [yoj, yns, ynl, yoc, ymp, ymn, h0, h1, h2]
  · by_cases h1 : bI .and .i64 c 1 = 0
    · simp only [yoj, yns, ynl, yoc, ymp, ymn, yl, h0, decide_false, y6, y1y, yg1, h1, decide_true, y1g, ylg, cI, yj, yh3, if_false, if_true]
    · simp only [yoj, yns, ynl, yoc, ymp, ymn, yl, h0, decide_false, y6, y1y, yg1, h1, cL, yj, yh3, if_false]
end Go.Vm
namespace Go.Vm
open Cel
section
variable {α : Type}
variable (vf : α → AV)
def mEnt (l : List (Int × α)) : List (AV × AV) := l.map fun p => (.int .i64 p.1, vf p.2)
theorem yfe (k : Int) : ∀ l : List (Int × α), mfind false [0] (.int .i64 k) (mEnt vf l) = some ((aget k l).map vf)
  | [] => rfl
  | (k', v') :: r => by
    have ih := yfe k r
    simp only [mEnt, List.map_cons, mfind, yj4, Bool.false_eq_true, if_false, y3h, if_true, aget] at ih ⊢
    by_cases e : k = k'
    · simp [e]
    · have : (k == k') = false := by simpa using e
      rw [this]
      simp only [if_neg e]
      exact ih
theorem yt6 (k : Int) (v : α) : ∀ l : List (Int × α), mset false [0] (.int .i64 k) (vf v) (mEnt vf l) = some (mEnt vf (aset k v l))
  | [] => rfl
  | (k', v') :: r => by
    have ih := yt6 k v r
    simp only [mEnt, List.map_cons, mset, yj4, Bool.false_eq_true, if_false, y3h, if_true, aset] at ih ⊢
    by_cases e : k = k'
    · simp [e]
    · have : (k == k') = false := by simpa using e
      rw [this]
      simp only [if_neg e, ih, Option.map_some, List.map_cons]
theorem ymi (k : Int) : ∀ l : List (Int × α), mdrop false [0] (.int .i64 k) (mEnt vf l) = some (mEnt vf (adel k l))
  | [] => rfl
  | (k', v') :: r => by
    have ih := ymi k r
    simp only [mEnt, List.map_cons, mdrop, yj4, Bool.false_eq_true, if_false, y3h, if_true, adel] at ih ⊢
    by_cases e : k = k'
    · simp [e]
    · have : (k == k') = false := by simpa using e
      rw [this]
      simp only [if_neg e, ih, Option.map_some, List.map_cons]
abbrev AM (g : Nat) (l : List (Int × α)) : AO := ⟨g, .map false (mEnt vf l)⟩
variable {vf}
theorem yar {H : Heap} {id g : Nat} {l : List (Int × α)} (h : H[id]? = some (AM vf g l)) : y9t H id g = some (false, mEnt vf l) := by
  simp [y9t, y3y, h]
theorem y1t2 {H : Heap} {id g : Nat} {l : List (Int × α)} (h : H[id]? = some (AM vf g l)) (z : AV) (k : Int) : y3t false [0] z false (.lm id g) (.int .i64 k) H = some (((aget k l).map vf).getD z) := by
  simp only [y3t, yar h, Option.map_some, yfe]
  cases aget k l <;> rfl
theorem y1kk {H : Heap} {id g : Nat} {l : List (Int × α)} (h : H[id]? = some (AM vf g l)) (z : AV) (k : Int) : y3t false [0] z true (.lm id g) (.int .i64 k) H = some (match aget k l with | some v => .tup [vf v, .bool true] | none => .tup [z, .bool false]) := by
  simp only [y3t, yar h, Option.map_some, yfe]
  cases aget k l <;> rfl
theorem y136 {H : Heap} {id g : Nat} {l : List (Int × α)} (h : H[id]? = some (AM vf g l)) (k : Int) (v : α) : y7f false [0] (.lm id g) (.int .i64 k) (vf v) H = some (.tup [], H.set id (AM vf g (aset k v l))) := by
  simp only [y7f, yar h, yt6, y5b, h]
theorem y1t5 {H : Heap} {id g : Nat} {l : List (Int × α)} (h : H[id]? = some (AM vf g l)) (k : Int) : y7y false [0] (.lm id g) (.int .i64 k) H = some (.tup [], H.set id (AM vf g (adel k l))) := by
  simp only [y7y, yar h, ymi, y5b, h]
theorem y1vg {H : Heap} {id g : Nat} {l : List (Int × α)} (h : H[id]? = some (AM vf g l)) : y99 (.lm id g) H = some (.tup [], H.set id (AM vf g [])) := by
  simp only [y99, yar h, y5b, h]; rfl
variable (vf) in
theorem y1oy {H : Heap} {fb j : Nat} {o : AO} (h : H[fb + j]? = some o) : mkmC fb (some j) H = some (.lm (fb + j) (o.gen + 1), H.set (fb + j) (AM vf (o.gen + 1) [])) := by
  have e : AM vf (o.gen + 1) [] = ⟨o.gen + 1, .map false []⟩ := rfl
  rw [e]
  simp [mkmC, place, h]
end
abbrev vI (n : Int) : AV := .int .i64 n
abbrev vB (b : Bool) : AV := .bool b
end Go.Vm
namespace Go.Vm
def putP (n : Nat) (p : Int) (a : List Bool) : List Bool := if 0 ≤ p ∧ p < n then a.set p.toNat true else a
def yxo (n i : Nat) (x : Ins) (a : List Bool) : List Bool :=
  if leads x.op || ends x.op then (if leads x.op then putP n x.t a else a).set (i + 1) true else (if leads x.op then putP n x.t a else a)
def hA1 (n : Nat) : Nat → List Ins → List Bool → List Bool
  | _, [], a => a
  | i, x :: r, a => hA1 n (i + 1) r (yxo n i x a)
def hA2 (n : Nat) : List Row → List Bool → List Bool
  | [], a => a
  | r :: rs, a => hA2 n rs (putP n r.at_ (putP n r.t (putP n r.f a)))
def hA0 (n : Nat) : List Bool := if 0 < n then (List.replicate (n + 1) false).set 0 true else List.replicate (n + 1) false
@[simp] theorem y22v (n : Nat) (p : Int) (a : List Bool) : (putP n p a).length = a.length := by unfold putP; split <;> simp
@[simp] theorem y1zg (n i : Nat) (x : Ins) (a : List Bool) : (yxo n i x a).length = a.length := by
  unfold yxo
  split <;> split <;> simp
theorem yjj (n : Nat) : ∀ (l : List Ins) (i : Nat) (a : List Bool), (hA1 n i l a).length = a.length
  | [], _, _ => rfl
  | x :: l, i, a => by rw [hA1, yjj]; simp
theorem y19n (n : Nat) : ∀ (l : List Row) (a : List Bool), (hA2 n l a).length = a.length
  | [], _ => rfl
  | x :: l, a => by rw [hA2, y19n]; simp
@[simp] theorem yjq (n : Nat) : (hA0 n).length = n + 1 := by unfold hA0; split <;> simp
theorem yoh {a : List Bool} {i j : Nat} (h : j < a.length) : (a.set i true)[j]? = some true ↔ a[j]? = some true ∨ i = j := by
  rw [List.getElem?_set]
  by_cases e : i = j
  · subst e; simp [h]
  · rw [if_neg e]; exact ⟨.inl, fun h => h.resolve_right e⟩
theorem ydc {n : Nat} {p : Int} {a : List Bool} {j : Nat} (h : j < a.length) : (putP n p a)[j]? = some true ↔ a[j]? = some true ∨ (0 ≤ p ∧ p < n ∧ p.toNat = j) := by
  unfold putP
  split
  · rename_i hc
    rw [yoh h]
    exact ⟨fun h => h.imp id fun e => ⟨hc.1, hc.2, e⟩, fun h => h.imp id fun e => e.2.2⟩
  · rename_i hc
    exact ⟨.inl, fun h => h.resolve_right fun e => hc ⟨e.1, e.2.1⟩⟩
def hitI (n i j : Nat) (x : Ins) : Prop := (leads x.op = true ∧ 0 ≤ x.t ∧ x.t < n ∧ x.t.toNat = j) ∨ ((leads x.op || ends x.op) = true ∧ i + 1 = j)
theorem y1cx {n i : Nat} {x : Ins} {a : List Bool} {j : Nat} (h : j < a.length) : (yxo n i x a)[j]? = some true ↔ a[j]? = some true ∨ hitI n i j x := by
  have h1 : (if leads x.op = true then putP n x.t a else a)[j]? = some true ↔ a[j]? = some true ∨ (leads x.op = true ∧ 0 ≤ x.t ∧ x.t < n ∧ x.t.toNat = j) := by
    split
    · rename_i hl
      rw [ydc h]; simp [hl]
    · rename_i hl
      simp [hl]
  unfold yxo hitI
  split
  · rename_i hc
    rw [yoh (by split <;> simp [h]), h1]
    simp only [hc, true_and, or_assoc]
  · rename_i hc
    rw [h1]
    simp only [hc, Bool.false_eq_true, false_and, or_false]
theorem y1ck {n j : Nat} : ∀ (l : List Ins) (i : Nat) (a : List Bool), j < a.length → ((hA1 n i l a)[j]? = some true ↔ a[j]? = some true ∨ ∃ k x, l[k]? = some x ∧ hitI n (i + k) j x)
  | [], i, a, h => by simp [hA1]
  | y :: l, i, a, h => by
    rw [hA1, y1ck l (i + 1) _ (by simpa using h), y1cx h, or_assoc]
    apply or_congr_right
    constructor
    · rintro (h | ⟨k, x, h1, h2⟩)
      · exact ⟨0, y, rfl, h⟩
      · exact ⟨k + 1, x, h1, by rw [show i + (k + 1) = i + 1 + k by omega]; exact h2⟩
    · rintro ⟨k, x, h1, h2⟩
      cases k with
      | zero => simp at h1; subst h1; exact .inl h2
      | succ k => exact .inr ⟨k, x, h1, by rw [show i + 1 + k = i + (k + 1) by omega]; exact h2⟩
def hitR (n j : Nat) (r : Row) : Prop := (0 ≤ r.f ∧ r.f < n ∧ r.f.toNat = j) ∨ (0 ≤ r.t ∧ r.t < n ∧ r.t.toNat = j) ∨ (0 ≤ r.at_ ∧ r.at_ < n ∧ r.at_.toNat = j)
theorem y15q {n j : Nat} : ∀ (l : List Row) (a : List Bool), j < a.length → ((hA2 n l a)[j]? = some true ↔ a[j]? = some true ∨ ∃ r ∈ l, hitR n j r)
  | [], a, h => by simp [hA2]
  | r :: l, a, h => by
    rw [hA2, y15q l _ (by simpa using h), ydc (by simpa using h), ydc (by simpa using h), ydc h]
    simp only [List.mem_cons, exists_eq_or_imp, hitR, or_assoc]
theorem y1vy {n j : Nat} (h : j < n) : (hA0 n)[j]? = some true ↔ j = 0 := by
  unfold hA0
  rw [if_pos (by omega), yoh (by simp; omega)]
  constructor
  · rintro (h | h)
    · rw [List.getElem?_replicate] at h; split at h <;> cases h
    · exact h.symm
  · exact fun e => .inr e.symm
def hA (f : Fn) : List Bool := hA2 (lst f.code).length (lst f.rows) (hA1 (lst f.code).length 0 (lst f.code) (hA0 (lst f.code).length))
theorem y20e (f : Fn) : (hA f).length = (lst f.code).length + 1 := by rw [hA, y19n, yjj, yjq]
theorem yyb (f : Fn) (i : Nat) : ycu f i = true ↔ i = 0 ∨ (leads (yz f (i - 1)).op || ends (yz f (i - 1)).op) = true ∨ (∃ x ∈ lst f.code, leads x.op = true ∧ x.t = i) ∨ ∃ r ∈ lst f.rows, r.f = i ∨ r.t = i ∨ r.at_ = i := by
  simp only [ycu, Bool.or_eq_true, decide_eq_true_eq, List.any_eq_true, Bool.and_eq_true, or_assoc]
theorem y217 (f : Fn) {j : Nat} (h : j < (lst f.code).length) : (hA f)[j]? = some (ycu f j) := by
  have hj : j < (hA f).length := by rw [y20e]; omega
  have key : (hA f)[j]? = some true ↔ ycu f j = true := by
    rw [hA, y15q _ _ (by rw [yjj, yjq]; omega), y1ck _ _ _ (by rw [yjq]; omega), y1vy h, yyb, or_assoc]
    by_cases j0 : j = 0
    · exact ⟨fun _ => .inl j0, fun _ => .inl j0⟩
    apply or_congr_right
    constructor
    · rintro (⟨k, x, h1, h2 | h2⟩ | ⟨r, h1, h2⟩)
      · exact .inr (.inl ⟨x, List.mem_of_getElem? h1, h2.1, by omega⟩)
      · left
        have : yz f (j - 1) = x := by
          rw [yz, List.getD_eq_getElem?_getD, show j - 1 = k by omega, h1]; rfl
        rw [this]; exact h2.1
      · refine .inr (.inr ⟨r, h1, ?_⟩)
        rcases h2 with h2 | h2 | h2
        · exact .inl (by omega)
        · exact .inr (.inl (by omega))
        · exact .inr (.inr (by omega))
    · rintro (h1 | ⟨x, h1, h2, h3⟩ | ⟨r, h1, h2⟩)
      · refine .inl ⟨j - 1, yz f (j - 1), y4e (by omega), .inr ⟨h1, by omega⟩⟩
      · obtain ⟨k, hk⟩ := List.getElem?_of_mem h1
        exact .inl ⟨k, x, hk, .inl ⟨h2, by omega, by omega, by omega⟩⟩
      · refine .inr ⟨r, h1, ?_⟩
        rcases h2 with h2 | h2 | h2
        · exact .inl ⟨by omega, by omega, by omega⟩
        · exact .inr (.inl ⟨by omega, by omega, by omega⟩)
        · exact .inr (.inr ⟨by omega, by omega, by omega⟩)
  rw [List.getElem?_eq_getElem hj] at key ⊢
  simp only [Option.some.injEq] at key ⊢
  cases hb : (hA f)[j] <;> cases hc : ycu f j <;> simp_all
end Go.Vm
namespace Go.Vm
open Cel
attribute [local simp] y4 y23 ym
@[simp] theorem y25w (x : Ins) : (y5 E).p 24 [.agg (enc x)] = some ⟨.bool (ends x.op), [], true, [], []⟩ := by
  rw [y250, y1vo]
  by_cases h1 : x.op = 27
  · simp [h1, ends]
  by_cases h2 : x.op = 30
  · simp [h2, ends]
  by_cases h3 : x.op = 31 <;> simp [h1, h2, h3, ends]
@[simp] theorem y246 (x : Ins) : (y5 E).p 22 [.agg (enc x)] = some ⟨.bool (leads x.op), [], true, [], []⟩ := by
  rw [y25h, y1ts]
  by_cases h1 : x.op = 27
  · simp [h1, leads]
  by_cases h2 : x.op = 28
  · simp [h2, leads]
  by_cases h3 : x.op = 29 <;> simp [h1, h2, h3, leads]
@[simp] theorem ynw (x : Ins) : (y5 E).p 17 [.agg (enc x)] = some ⟨.bool (calls x.op), [], true, [], []⟩ := by
  rw [y24p, y1qg]
  by_cases h1 : 23 ≤ x.op
  · by_cases h2 : x.op ≤ 26 <;> simp [h1, h2, calls]
  · simp [h1, calls]
end Go.Vm
namespace Go.Vm
open Cel
attribute [local simp] y4 y23 ym
abbrev HH (f : Fn) (a : List Bool) (o2 o3 o4 o5 o6 : AO) : Heap := [⟨1, .arr true false 5 [enc f]⟩, ⟨1, .arr false false 1 (a.map enc)⟩, o2, o3, o4, o5, o6]
theorem ixAt {n : Nat} {p : Int} (h0 : 0 ≤ p) (h1 : p < (n : Int)) (id g : Nat) (k : IntKind) : yi 1 (.ls id g 1 0 n) (.int k p) = some (.lp id g p.toNat 0) := by simp [yi, h0, h1]
theorem stHH (f : Fn) (a : List Bool) (o2 o3 o4 o5 o6 : AO) {j : Nat} (h : j < a.length) : evSt 1 (.lp 1 1 j 0) (.bool true) (HH f a o2 o3 o4 o5 o6) = some (.tup [], HH f (a.set j true) o2 o3 o4 o5 o6) :=
  ybu (α := Bool) (v := .bool true) (y := true) rfl h rfl
theorem yy7 (f : Fn) (o3 o4 o5 o6 : AO) (hl : (lst f.code).length ≤ 9223372036854775806) : ∀ (d i : Nat) (a : List Bool) (o2 : AO), i + d = (lst f.code).length → a.length = (lst f.code).length + 1 →
    ∃ o2', yfn (.lp 0 1 0 0) (.ls 1 1 1 0 ((lst f.code).length + 1)) (slA f.code) (.int .i64 (lst f.code).length) (.int .i64 i) (HH f a o2 o3 o4 o5 o6) =
      yly (.lp 0 1 0 0) (.ls 1 1 1 0 ((lst f.code).length + 1)) (HH f (hA1 (lst f.code).length i ((lst f.code).drop i) a) o2' o3 o4 o5 o6) := by
  intro d
  induction d with
  | zero =>
    intro i a o2 hi _
    have e1 : (lst f.code).drop i = [] := List.drop_eq_nil_of_le (by omega)
    have hn : ¬ ((i : Int) < ((lst f.code).length : Int)) := by omega
    rw [yid, e1]
    exact ⟨o2, by simp [ym1, ypj, hn, hA1]⟩
  | succ d ih =>
    intro i a o2 hi ha
    have hlt : i < (lst f.code).length := by omega
    have hc : ((i : Int) < ((lst f.code).length : Int)) := by omega
    have k1 := y6o (o := f.code) (i := i) (List.getElem?_eq_getElem hlt) .i64
    have hw := y1j hlt (by omega)
    rw [yid, List.drop_eq_getElem_cons hlt, hA1]
    generalize (lst f.code)[i] = x at *
    generalize hN : (lst f.code).length = n at *
    have e36 : ym1 (.lp 0 1 0 0) (.ls 1 1 1 0 (n + 1)) (slA f.code) (.int .i64 n) (.int .i64 i) (HH f a o2 o3 o4 o5 o6) =
        ycr (.lp 0 1 0 0) (.ls 1 1 1 0 (n + 1)) (.int .i64 i) (.lp 2 (o2.gen + 1) 0 0) (slA f.code) (.int .i64 n) (.int .i64 i) (HH f a ⟨o2.gen + 1, .arr true false 9 [enc x]⟩ o3 o4 o5 o6) := by
      simp [ym1, ypj, y13n, hc, k1]
    generalize hg : (o2.gen + 1) = g at *
    have e31 : ycr (.lp 0 1 0 0) (.ls 1 1 1 0 (n + 1)) (.int .i64 i) (.lp 2 g 0 0) (slA f.code) (.int .i64 n) (.int .i64 i) (HH f a ⟨g, .arr true false 9 [enc x]⟩ o3 o4 o5 o6) =
        yhw (.lp 0 1 0 0) (.ls 1 1 1 0 (n + 1)) (.int .i64 i) (.lp 2 g 0 0) (slA f.code) (.int .i64 n) (.int .i64 i) (HH f (if leads x.op = true then putP n x.t a else a) ⟨g, .arr true false 9 [enc x]⟩ o3 o4 o5 o6) := by
      cases hd : leads x.op with
      | false => simp [ycr, hd]
      | true =>
        rw [if_pos rfl, putP]
        by_cases h0 : 0 ≤ x.t
        rotate_left
        · rw [if_neg (fun h => h0 h.1)]
          simp [ycr, hd, h0]
        by_cases h1 : x.t < (n : Int)
        rotate_left
        · rw [if_neg (fun h => h1 h.2)]
          simp [ycr, hd, h0, h1, hN]
        rw [if_pos ⟨h0, h1⟩]
        have st := stHH f a ⟨g, .arr true false 9 [enc x]⟩ o3 o4 o5 o6 (j := x.t.toNat) (by omega)
        have ix := ixAt (n := n + 1) h0 (by omega) 1 1 .i64
        simp [ycr, hd, h0, h1, hN, ix, -y2i, st]
    have e30 : ∀ a : List Bool, a.length = n + 1 → yhw (.lp 0 1 0 0) (.ls 1 1 1 0 (n + 1)) (.int .i64 i) (.lp 2 g 0 0) (slA f.code) (.int .i64 n) (.int .i64 i) (HH f a ⟨g, .arr true false 9 [enc x]⟩ o3 o4 o5 o6) =
        yln (.lp 0 1 0 0) (.ls 1 1 1 0 (n + 1)) (slA f.code) (.int .i64 n) (.int .i64 i) (HH f (if (leads x.op || ends x.op) = true then a.set (i + 1) true else a) ⟨g, .arr true false 9 [enc x]⟩ o3 o4 o5 o6) := by
      intro a ha
      have st := stHH f a ⟨g, .arr true false 9 [enc x]⟩ o3 o4 o5 o6 (j := i + 1) (by omega)
      have ix := ixAt (n := n + 1) (p := (i : Int) + 1) (by omega) (by omega) 1 1 .i64
      rw [show ((i : Int) + 1).toNat = i + 1 by omega] at ix
      cases hd : leads x.op <;> cases he : ends x.op <;> simp [yhw, hd, he, hw, ix, -y2i, st]
    obtain ⟨o2', ih⟩ := ih (i + 1) (yxo n i x a) ⟨g, .arr true false 9 [enc x]⟩ (by omega) (by simpa using ha)
    push_cast at ih
    refine ⟨o2', ?_⟩
    rw [e36, e31, e30 _ (by split <;> simp [ha]), yln, yw, y6, hw, ← ih]
    rfl
theorem y0w (f : Fn) (v62 v63 v64 : AV) (o2 o3 o5 o6 : AO) (g : Nat) (P : List Int) (hP : P.length = 3) : ∀ (d k : Nat) (a : List Bool), k + d = 3 → a.length = (lst f.code).length + 1 →
    ybs (.lp 0 1 0 0) (.ls 1 1 1 0 ((lst f.code).length + 1)) v62 v63 v64 (.ls 4 g 1 0 3) (.int .i64 3) (.int .i64 k) (HH f a o2 o3 ⟨g, .arr false false 1 (P.map enc)⟩ o5 o6) =
      ywl (.lp 0 1 0 0) (.ls 1 1 1 0 ((lst f.code).length + 1)) v62 v63 v64 (HH f ((P.drop k).foldl (fun a p => putP (lst f.code).length p a) a) o2 o3 ⟨g, .arr false false 1 (P.map enc)⟩ o5 o6) := by
  intro d
  induction d with
  | zero =>
    intro k a hk _
    have e1 : P.drop k = [] := List.drop_eq_nil_of_le (by omega)
    have hn : ¬ ((k : Int) < 3) := by omega
    rw [yi5, e1]
    simp [yhe, ygg, hn]
  | succ d ih =>
    intro k a hk ha
    have hlt : k < P.length := by omega
    have hc : ((k : Int) < 3) := by omega
    have hw := y1j (n := 3) (i := k) (by omega) (by omega)
    have l1 : ∀ a, evLd false 1 (.lp 4 g k 0) (HH f a o2 o3 ⟨g, .arr false false 1 (P.map enc)⟩ o5 o6) = some (.int .i64 P[k]) := by
      intro a
      simp [evLd, yg, y3y, hlt]
    have ix : yi 1 (.ls 4 g 1 0 3) (.int .i64 (k : Int)) = some (.lp 4 g k 0) := by
      have := ixAt (n := 3) (p := (k : Int)) (by omega) (by omega) 4 g .i64
      simpa using this
    rw [yi5, List.drop_eq_getElem_cons hlt, List.foldl_cons]
    generalize P[k] = p at *
    have ih0 := fun a ha => ih (k + 1) a (by omega) ha
    push_cast at ih0
    rw [← ih0 _ (by simpa using ha), putP]
    by_cases h0 : 0 ≤ p
    rotate_left
    · rw [if_neg (fun h => h0 h.1)]
      simp [yhe, ygg, ylo, yhb, hc, ix, -y2k, l1, h0, hw]
    by_cases h1 : p < ((lst f.code).length : Int)
    rotate_left
    · rw [if_neg (fun h => h1 h.2)]
      have lb : ∀ a : List Bool, evLd false 1 (.lp 0 1 0 3) (HH f a o2 o3 ⟨g, .arr false false 1 (P.map enc)⟩ o5 o6) = some (slA f.code) := fun a => by simp
      simp [yhe, ygg, ylo, yhb, hc, ix, -y2k, l1, h0, h1, hw, lb]
    rw [if_pos ⟨h0, h1⟩]
    have lb : ∀ a : List Bool, evLd false 1 (.lp 0 1 0 3) (HH f a o2 o3 ⟨g, .arr false false 1 (P.map enc)⟩ o5 o6) = some (slA f.code) := fun a => by simp
    have st := stHH f a o2 o3 ⟨g, .arr false false 1 (P.map enc)⟩ o5 o6 (j := p.toNat) (by omega)
    have ix2 := ixAt (n := (lst f.code).length + 1) h0 (by omega) 1 1 .i64
    simp [yhe, ygg, ylo, yhb, hc, ix, -y2k, l1, h0, h1, hw, lb, ix2, -y2i, st]
theorem yyc (f : Fn) (o2 o5 o6 : AO) (hl : (lst f.rows).length ≤ 9223372036854775806) : ∀ (d k : Nat) (a : List Bool) (o3 o4 : AO), k + d = (lst f.rows).length → a.length = (lst f.code).length + 1 →
    ∃ o3' o4', yfv (.lp 0 1 0 0) (.ls 1 1 1 0 ((lst f.code).length + 1)) (slA f.rows) (.int .i64 (lst f.rows).length) (.int .i64 k) (HH f a o2 o3 o4 o5 o6) =
      yhv (.lp 0 1 0 0) (.ls 1 1 1 0 ((lst f.code).length + 1)) (HH f (hA2 (lst f.code).length ((lst f.rows).drop k) a) o2 o3' o4' o5 o6) := by
  intro d
  induction d with
  | zero =>
    intro k a o3 o4 hk _
    have e1 : (lst f.rows).drop k = [] := List.drop_eq_nil_of_le (by omega)
    have hn : ¬ ((k : Int) < ((lst f.rows).length : Int)) := by omega
    rw [yhc, e1]
    exact ⟨o3, o4, by simp [yk5, ypa, hn, hA2]⟩
  | succ d ih =>
    intro k a o3 o4 hk ha
    have hlt : k < (lst f.rows).length := by omega
    have hc : ((k : Int) < ((lst f.rows).length : Int)) := by omega
    have k1 := yiz (o := f.rows) (i := k) (List.getElem?_eq_getElem hlt) .i64
    have hw := y1j hlt (by omega)
    rw [yhc, List.drop_eq_getElem_cons hlt, hA2]
    generalize (lst f.rows)[k] = r at *
    have lit := y0w f (slA f.rows) (.int .i64 (lst f.rows).length) (.int .i64 k) o2 ⟨o3.gen + 1, .arr true false 4 [enc r]⟩ o5 o6 (o4.gen + 1) [r.f, r.t, r.at_] rfl 3 0 a (by omega) ha
    simp only [List.drop_zero, List.foldl_cons, List.foldl_nil, Int.ofNat_zero] at lit
    have e24 : yk5 (.lp 0 1 0 0) (.ls 1 1 1 0 ((lst f.code).length + 1)) (slA f.rows) (.int .i64 (lst f.rows).length) (.int .i64 k) (HH f a o2 o3 o4 o5 o6) =
        ybs (.lp 0 1 0 0) (.ls 1 1 1 0 ((lst f.code).length + 1)) (slA f.rows) (.int .i64 (lst f.rows).length) (.int .i64 k) (.ls 4 (o4.gen + 1) 1 0 3) (.int .i64 3) (.int .i64 0)
          (HH f a o2 ⟨o3.gen + 1, .arr true false 4 [enc r]⟩ ⟨o4.gen + 1, .arr false false 1 ([r.f, r.t, r.at_].map enc)⟩ o5 o6) := by
      simp [yk5, ypa, y14u, y1bk, hc, k1, y14, y1a]
    obtain ⟨o3', o4', ih⟩ := ih (k + 1) (putP (lst f.code).length r.at_ (putP (lst f.code).length r.t (putP (lst f.code).length r.f a))) ⟨o3.gen + 1, .arr true false 4 [enc r]⟩ ⟨o4.gen + 1, .arr false false 1 ([r.f, r.t, r.at_].map enc)⟩ (by omega) (by simpa using ha)
    push_cast at ih
    refine ⟨o3', o4', ?_⟩
    rw [e24, lit, ywl, yw, y6, hw, ih]
theorem yy6 (f : Fn) (o2 o3 o4 : AO) (hl : (lst f.code).length ≤ 274877906944) : ∀ (d k g : Nat) (o5 : AO), k + d = (lst f.code).length →
    ylm (.ls 1 1 1 0 ((lst f.code).length + 1)) (y17 Int 6 g (y49 f k)) (.int .i64 (lst f.code).length) (.int .i64 k) (HH f (hA f) o2 o3 o4 o5 (yr g D0 (y49 f k))) = some (exO (nz (y53 f))) := by
  intro d
  induction d with
  | zero =>
    intro k g o5 hk
    have hk' : k = (lst f.code).length := by omega
    have hn : ¬ ((k : Int) < ((lst f.code).length : Int)) := by omega
    have hx := y9p (H := HH f (hA f) o2 o3 o4 o5 (yr g D0 (y49 f k))) (j := 6) (g := g) (o := D0) (L := y49 f k) rfl
    rw [ykp, y53, ← hk', ← hx]
    simp [y19j, y14j, y1vi, hk']
  | succ d ih =>
    intro k g o5 hk
    have hlt : k < (lst f.code).length := by omega
    have hc : ((k : Int) < ((lst f.code).length : Int)) := by omega
    have hw := y1j hlt (by omega)
    have ix := ixAt (n := (lst f.code).length + 1) (p := (k : Int)) (by omega) (by omega) 1 1 .i64
    rw [show ((k : Int)).toNat = k by omega] at ix
    have hg := y217 f hlt
    have l1 : ∀ o5 o6, evLd false 1 (.lp 1 1 k 0) (HH f (hA f) o2 o3 o4 o5 o6) = some (.bool (ycu f k)) := by
      intro o5 o6
      simp [evLd, yg, y3y, hg]
    rw [ykp]
    have ih0 := fun g o5 => ih (k + 1) g o5 (by omega)
    push_cast at ih0
    simp only [y49] at ih0
    cases hh : ycu f k with
    | false =>
      have ih0 := ih0 g o5
      rw [hh] at ih0 l1
      simp only [Bool.false_eq_true, if_false, List.append_nil] at ih0
      simp [y19j, y14j, y1ke, y19v, hc, ix, -y2k, l1, hw, ih0]
    | true =>
      rw [hh] at ih0 l1
      simp only [if_true] at ih0
      obtain ⟨g', ha⟩ := y12f (H := HH f (hA f) o2 o3 o4 ⟨o5.gen + 1, .arr false false 1 [[.int .i64 k]]⟩ (yr g D0 (y49 f k))) (fb := 0) (j := 6) (g := g) (o := D0) (y := .ls 5 (o5.gen + 1) 1 0 1) (L := y49 f k) (n := k) (by simp) rfl (by have := yc9 f k; omega)
      have ha' : y2g 0 (some 6) 1 8 (y17 Int 6 g (y49 f k)) (.ls 5 (o5.gen + 1) 1 0 1) (HH f (hA f) o2 o3 o4 ⟨o5.gen + 1, .arr false false 1 [[.int .i64 k]]⟩ (yr g D0 (y49 f k))) = some (y17 Int 6 g' (y49 f k ++ [(k : Int)]), HH f (hA f) o2 o3 o4 ⟨o5.gen + 1, .arr false false 1 [[.int .i64 k]]⟩ (yr g' D0 (y49 f k ++ [(k : Int)]))) := ha
      simp [y19j, y14j, y1ke, y19v, hc, ix, -y2k, l1, hw, y14, y1a, ha', ih0]
theorem y1sk (f : Fn) (hc : (lst f.code).length ≤ 30000) (hr : (lst f.rows).length ≤ 1000000) : (y5 E).p 102 [.agg (enc f)] = some (exO (nz (y53 f))) := by
  rw [y23k]
  obtain ⟨o2, h1⟩ := yy7 f D0 D0 D0 D0 (by omega) _ 0 (hA0 (lst f.code).length) D0 (Nat.zero_add _) (by simp)
  obtain ⟨o3, o4, h2⟩ := yyc f o2 D0 D0 (by omega) _ 0 (hA1 (lst f.code).length 0 (lst f.code) (hA0 (lst f.code).length)) D0 D0 (Nat.zero_add _) (by rw [yjj, yjq])
  have h3 := yy6 f o2 o3 o4 (by omega) _ 0 0 D0 (Nat.zero_add _)
  simp only [List.drop_zero, Int.ofNat_zero, y49, y8k, yfu] at h1 h2 h3
  have e10 : yhv (.lp 0 1 0 0) (.ls 1 1 1 0 ((lst f.code).length + 1)) (HH f (hA f) o2 o3 o4 D0 D0) = some (exO (nz (y53 f))) := by
    simp [yhv, y1vj, h3]
  have e26 : yly (.lp 0 1 0 0) (.ls 1 1 1 0 ((lst f.code).length + 1)) (HH f (hA1 (lst f.code).length 0 (lst f.code) (hA0 (lst f.code).length)) o2 D0 D0 D0 D0) = some (exO (nz (y53 f))) := by
    rw [← e10, ← show _ = yhv _ _ (HH f (hA f) o2 o3 o4 D0 D0) from h2]
    simp [yly]
  have e38 : ykz (.lp 0 1 0 0) (.ls 1 1 1 0 ((lst f.code).length + 1)) (HH f (hA0 (lst f.code).length) D0 D0 D0 D0 D0) = some (exO (nz (y53 f))) := by
    rw [← e26, ← h1]
    simp [ykz]
  rw [← e38]
  have b1 : ((lst f.code).length : Int) + 1 ≤ 140737488355328 := by omega
  have b2 : ((lst f.code).length : Int) + 1 ≤ 4611686018427387904 := by omega
  have b3 : (0 : Int) ≤ ((lst f.code).length : Int) + 1 := by omega
  have b4 : (((lst f.code).length : Int) + 1).toNat = (lst f.code).length + 1 := by omega
  have hw : IntKind.wrap .i64 (((lst f.code).length : Int) + 1) = ((lst f.code).length : Int) + 1 := by rw [y27] <;> omega
  have e42 : yth (.agg (enc f)) [D0, D0, D0, D0, D0, D0, D0] = yk3 (.lp 0 1 0 0) (.ls 1 1 1 0 ((lst f.code).length + 1)) (HH f (List.replicate ((lst f.code).length + 1) false) D0 D0 D0 D0 D0) := by
    simp [yth, y1gc, mkSC, hw, b1, b2, b3, b4, HH]
  rw [e42]
  have l1 : ∀ (a : List Bool) (o2 o3 o4 o5 o6 : AO), evLd false 1 (.lp 0 1 0 3) (HH f a o2 o3 o4 o5 o6) = some (slA f.code) := fun a o2 o3 o4 o5 o6 => by simp
  by_cases h0 : 0 < (lst f.code).length
  · have h0' : (0 : Int) < ((lst f.code).length : Int) := by omega
    have st := stHH f (List.replicate ((lst f.code).length + 1) false) D0 D0 D0 D0 D0 (j := 0) (by simp)
    have ix := ixAt (n := (lst f.code).length + 1) (p := 0) (by omega) (by omega) 1 1 .i64
    simp only [yk3, yq, y6, l1, y3p, yae, h0', decide_true, y1g, ix, Int.toNat_zero, st, yj, hA0, h0, if_true, Nat.zero_add]
  · have h0' : ¬ (0 : Int) < ((lst f.code).length : Int) := by omega
    simp only [yk3, yq, y6, l1, y3p, yae, h0', decide_false, y1y, hA0, h0, if_false, Nat.zero_add]
end Go.Vm
namespace Go.Vm
open Cel
attribute [local simp] y4 y23 ym
@[simp] theorem y257 (x : Ins) : (y5 E).p 9 [.agg (enc x)] = some ⟨.int .i64 (defr x), [], true, [], []⟩ := by
  rw [y23g]
  rcases ydb x.op with h|h|h|h|h|h|h|h|h|h|h|h|h|h|h|h|h|h|h|h|h|h|h|h|h|h|h|h|h|h|h|h|h|h|h <;> first | (simp [h, defr, writes, calls, y14f, y1el, y7t, y1e7, y17l, y12m]; done) | (simp [lo_f h, defr, writes, calls, y14f, y1el, y7t, y1e7, y17l, y12m]; done) | simp [hi_f h, defr, writes, calls, y14f, y1el, y7t, y1e7, y17l, y12m]
end Go.Vm
namespace Go.Vm
open Cel
attribute [local simp] y4 y23 ym
@[simp] theorem y23f (a b c d : AV) (r : List AV) (h : r.length = 4) : yh 0 [a, b, c, d] r = [a, b, c, d] := by
  simp [yh, ← h]
@[simp] theorem y23o (h : Heap) (a b c d : Int) (o : Bool) : y7 h (.tup [.agg [.int .i64 a, .int .i64 b, .int .i64 c, .int .i64 d], .bool o]) = some (exK (a, b, c, d, o)) := rfl
@[simp] theorem y25s (a b c d : Int) : yb [.int .i64 0, .int .i64 0, .int .i64 0, .int .i64 0] [(0, 1, .int .i64 a), (1, 1, .int .i64 b), (2, 1, .int .i64 c), (3, 1, .int .i64 d)] = some (.agg [.int .i64 a, .int .i64 b, .int .i64 c, .int .i64 d]) := rfl
@[simp] theorem y23t : yb [.int .i64 0, .int .i64 0, .int .i64 0, .int .i64 0] [] = some (.agg [.int .i64 0, .int .i64 0, .int .i64 0, .int .i64 0]) := rfl
@[simp] theorem y25a (h : Heap) (a b c : Int) : fz h y1d (.tup [.int .i64 a, .int .i64 b, .int .i64 c]) = some ⟨.tup [.int .i64 a, .int .i64 b, .int .i64 c], true, []⟩ := rfl
@[simp] theorem y251 (h : Heap) (a b c d : Int) (o : Bool) : fz h y1d (.tup [.agg [.int .i64 a, .int .i64 b, .int .i64 c, .int .i64 d], .bool o]) = some ⟨.tup [.agg [.int .i64 a, .int .i64 b, .int .i64 c, .int .i64 d], .bool o], true, []⟩ := rfl
@[simp] theorem agg4 (a b c d : AV) : y41 true 4 [a, b, c, d] = some (.agg [a, b, c, d]) := rfl
set_option maxHeartbeats 4000000 in
theorem y1rt (x : Ins) (h : x.op = 1 ∨ x.op = 2 ∨ x.op = 3 ∨ x.op = 4 ∨ x.op = 7 ∨ x.op = 8 ∨ x.op = 9 ∨ x.op = 10 ∨ x.op = 11 ∨ x.op = 13 ∨ x.op = 14 ∨ x.op = 15 ∨ x.op = 16 ∨ x.op = 17 ∨ x.op = 18 ∨ x.op = 19 ∨ x.op = 20 ∨ x.op = 27 ∨ x.op = 31 ∨ x.op = 32 ∨ x.op = 33) : (y5 E).p 47 [.agg (enc x)] = some (exK (yd x)) := by
  rw [y1eq]
  rcases h with h|h|h|h|h|h|h|h|h|h|h|h|h|h|h|h|h|h|h|h|h <;> simp [h, yd5, ybz, yd3, yd0, yd9, yd2, yda, yd1, yd8, y7i, y6r, y75, y72, y6s, y76, y7c, y79, y7p, y7g, y7l, y7m, y7k, y73, y7r, y6u, y6q, y7o, y6v, y77, y5k, y7h, y7b, y6w, y71, y7e, y7q, y7j, y7n, y6t, y4n, y7d, y5w, y7a, y78, y6x, yp, y26, meets, ids1, yd]
theorem y1py (x : Ins) (hs : x.s.length ≤ 9223372036854775807) (h : x.op = 12 ∨ x.op = 21 ∨ x.op = 22) : (y5 E).p 47 [.agg (enc x)] = some (exK (yd x)) := by
  rw [y1eq]
  have ht := y203 x.s hs
  rcases h with h|h|h <;> simp [h, ht, yd5, ybz, yd3, yd0, yd9, yd2, yda, yd1, yd8, y7i, y6r, y75, y72, y6s, y76, y7c, y79, y7p, y7g, y7l, y7m, y7k, y73, y7r, y6u, y6q, y7o, y6v, y77, y5k, y7h, y7b, y6w, y71, y7e, y7q, y7j, y7n, y6t, y4n, y7d, y5w, y7a, y78, y6x, yp, y26, meets, ids1, yd]
theorem y1un (x : Ins) (hn : -9223372036854775808 ≤ x.n ∧ x.n < 9223372036854775808) (h : x.op = 5 ∨ x.op = 6) : (y5 E).p 47 [.agg (enc x)] = some (exK (yd x)) := by
  rw [y1eq]
  have hk := y1r2 x.n
  have hw := y27 hn.1 hn.2
  rcases h with h|h
  · simp [h, hk, hw, yd5, ybz, yd3, yd0, yd9, yd2, yda, yd1, yd8, y7i, y6r, y75, y72, y6s, y76, y7c, y79, y7p, y7g, y7l, y7m, y7k, y73, y7r, y6u, y6q, y7o, y6v, y77, y5k, y7h, y7b, y6w, y71, y7e, y7q, y7j, y7n, y6t, y4n, y7d, y5w, y7a, y78, y6x, yp, y26, meets, ids1, yd]
  · by_cases h0 : (numK x.n).1 = 0
    · simp [h, hk, hw, h0, yd5, ybz, yd3, yd0, yd9, yd2, yda, yd1, yd8, y7i, y6r, y75, y72, y6s, y76, y7c, y79, y7p, y7g, y7l, y7m, y7k, y73, y7r, y6u, y6q, y7o, y6v, y77, y5k, y7h, y7b, y6w, y71, y7e, y7q, y7j, y7n, y6t, y4n, y7d, y5w, y7a, y78, y6x, yp, y26, meets, ids1, yd]
    · simp [h, hk, hw, h0, yd5, ybz, yd3, yd0, yd9, yd2, yda, yd1, yd8, y7i, y6r, y75, y72, y6s, y76, y7c, y79, y7p, y7g, y7l, y7m, y7k, y73, y7r, y6u, y6q, y7o, y6v, y77, y5k, y7h, y7b, y6w, y71, y7e, y7q, y7j, y7n, y6t, y4n, y7d, y5w, y7a, y78, y6x, yp, y26, meets, ids1, yd]
theorem y1qi (x : Ins) (h : x.op = 28) : (y5 E).p 47 [.agg (enc x)] = some (exK (yd x)) := by
  rw [y1eq]
  by_cases h0 : 0 ≤ x.n
  · simp [h, h0, yd5, ybz, yd3, yd0, yd9, yd2, yda, yd1, yd8, y7i, y6r, y75, y72, y6s, y76, y7c, y79, y7p, y7g, y7l, y7m, y7k, y73, y7r, y6u, y6q, y7o, y6v, y77, y5k, y7h, y7b, y6w, y71, y7e, y7q, y7j, y7n, y6t, y4n, y7d, y5w, y7a, y78, y6x, yp, y26, meets, ids1, yd]
  · simp [h, h0, yd5, ybz, yd3, yd0, yd9, yd2, yda, yd1, yd8, y7i, y6r, y75, y72, y6s, y76, y7c, y79, y7p, y7g, y7l, y7m, y7k, y73, y7r, y6u, y6q, y7o, y6v, y77, y5k, y7h, y7b, y6w, y71, y7e, y7q, y7j, y7n, y6t, y4n, y7d, y5w, y7a, y78, y6x, yp, y26, meets, ids1, yd]
end Go.Vm
namespace Go.Vm
open Cel
attribute [local simp] y4 y23 ym
theorem y1nr (x : Ins) (h : x.op = 29) : (y5 E).p 51 [.agg (enc x)] = some (exK (yd x)) := by
  rw [y1ka]
  by_cases h0 : x.b = -1 <;> by_cases h1 : x.n = 0 <;> simp [h, h0, h1, ymq, yl1, yom, yn2, ykw, ymt, ynh, yk1, yn4, yf0, y94, yfc, yfp, yft, yfd, yej, ye5, ydo, yp, y26, meets, yd]
theorem y1jl (x : Ins) (h : x.op = 30) : (y5 E).p 51 [.agg (enc x)] = some (exK (yd x)) := by
  rw [y1ka]
  by_cases h0 : x.a = -1 <;> simp [h, h0, ymq, yl1, yom, yn2, ykw, ymt, ynh, yk1, yn4, yf0, y94, yfc, yfp, yft, yfd, yej, ye5, ydo, yp, y26, meets, yd]
set_option maxHeartbeats 4000000 in
theorem yjp (x : Ins) (h : x.op = 23 ∨ x.op = 24 ∨ x.op = 25 ∨ x.op = 26) : (y5 E).p 51 [.agg (enc x)] = some (exK (yd x)) := by
  rw [y1ka]
  have e1 : ((0 : Int) < ((lst x.args).length : Int)) = (0 < (lst x.args).length) := by simp
  have e2 : (((lst x.args).length : Int) ≤ (21 : Int)) = ((lst x.args).length ≤ 21) := by simp; omega
  by_cases h0 : x.d = -1 <;> by_cases h1 : 0 ≤ x.n <;> by_cases h2 : 0 < (lst x.args).length <;> rcases h with h|h|h|h <;> simp [h, h0, h1, h2, e1, e2, ymq, yl1, yom, yn2, ykw, ymt, ynh, yk1, yn4, yf0, y94, yfc, yfp, yft, yfd, yej, ye5, ydo, yp, y26, meets, yd]
theorem y1rv (x : Ins) (h : x.op < 1 ∨ 33 < x.op) : (y5 E).p 51 [.agg (enc x)] = some (exK (yd x)) := by
  rw [y1ka, yz1 h]
  rcases h with h|h
  · simp [lo_f h, ymq, yl1, yom, yn2, ykw, ymt, ynh, yk1, yn4, yf0, y94, yfc, yfp, yft, yfd, yej, ye5, ydo, yp, y26, meets]
  · simp [hi_f h, ymq, yl1, yom, yn2, ykw, ymt, ynh, yk1, yn4, yf0, y94, yfc, yfp, yft, yfd, yej, ye5, ydo, yp, y26, meets]
theorem y1si (x : Ins) (h : x.op = 29 ∨ x.op = 30 ∨ x.op = 23 ∨ x.op = 24 ∨ x.op = 25 ∨ x.op = 26 ∨ x.op < 1 ∨ 33 < x.op) : (y5 E).p 47 [.agg (enc x)] = some (exK (yd x)) := by
  have ho : (y5 E).p 51 [.agg (enc x)] = some (exK (yd x)) := by
    rcases h with h|h|h|h|h|h|h
    · exact y1nr x h
    · exact y1jl x h
    · exact yjp x (.inl h)
    · exact yjp x (.inr (.inl h))
    · exact yjp x (.inr (.inr (.inl h)))
    · exact yjp x (.inr (.inr (.inr h)))
    · exact y1rv x h
  rw [y1eq]
  generalize yd x = k at ho
  obtain ⟨a, b, c, d, o⟩ := k
  simp only [exK] at ho
  rcases h with h|h|h|h|h|h|h|h
  iterate 6 (simp [h, ho, yd5, ybz, yd3, yd0, yd9, yd2, yda, yd1, yd8, y7i, y6r, y75, y72, y6s, y76, y7c, y79, y7p, y7g, y7l, y7m, y7k, y73, y7r, y6u, y6q, y7o, y6v, y77, y5k, y7h, y7b, y6w, y71, y7e, y7q, y7j, y7n, y6t, y4n, y7d, y5w, y7a, y78, y6x, yp, y26, meets])
  · simp [lo_f h, ho, yd5, ybz, yd3, yd0, yd9, yd2, yda, yd1, yd8, y7i, y6r, y75, y72, y6s, y76, y7c, y79, y7p, y7g, y7l, y7m, y7k, y73, y7r, y6u, y6q, y7o, y6v, y77, y5k, y7h, y7b, y6w, y71, y7e, y7q, y7j, y7n, y6t, y4n, y7d, y5w, y7a, y78, y6x, yp, y26, meets]
  · simp [hi_f h, ho, yd5, ybz, yd3, yd0, yd9, yd2, yda, yd1, yd8, y7i, y6r, y75, y72, y6s, y76, y7c, y79, y7p, y7g, y7l, y7m, y7k, y73, y7r, y6u, y6q, y7o, y6v, y77, y5k, y7h, y7b, y6w, y71, y7e, y7q, y7j, y7n, y6t, y4n, y7d, y5w, y7a, y78, y6x, yp, y26, meets]
theorem y1uj (x : Ins) (hn : -9223372036854775808 ≤ x.n ∧ x.n < 9223372036854775808) (hs : x.s.length ≤ 9223372036854775807) : (y5 E).p 47 [.agg (enc x)] = some (exK (yd x)) := by
  by_cases h1 : x.op = 1 ∨ x.op = 2 ∨ x.op = 3 ∨ x.op = 4 ∨ x.op = 7 ∨ x.op = 8 ∨ x.op = 9 ∨ x.op = 10 ∨ x.op = 11 ∨ x.op = 13 ∨ x.op = 14 ∨ x.op = 15 ∨ x.op = 16 ∨ x.op = 17 ∨ x.op = 18 ∨ x.op = 19 ∨ x.op = 20 ∨ x.op = 27 ∨ x.op = 31 ∨ x.op = 32 ∨ x.op = 33
  · exact y1rt x h1
  by_cases h2 : x.op = 12 ∨ x.op = 21 ∨ x.op = 22
  · exact y1py x hs h2
  by_cases h3 : x.op = 5 ∨ x.op = 6
  · exact y1un x hn h3
  by_cases h4 : x.op = 28
  · exact y1qi x h4
  exact y1si x (by omega)
end Go.Vm
namespace Go.Vm
open Cel
attribute [local simp] y4 y23 ym
abbrev HR (f : Fn) (x : Ins) (a b c d : Int) : Heap := [⟨1, .arr true false 5 [enc f]⟩, ⟨1, .arr true false 9 [enc x]⟩, ⟨1, .arr true false 4 [[.int .i64 a, .int .i64 b, .int .i64 c, .int .i64 d]]⟩]
abbrev P0 : AV := .lp 0 1 0 0
abbrev P1 : AV := .lp 1 1 0 0
abbrev P2 : AV := .lp 2 1 0 0
theorem y9u {f : Fn} {r : Int} (h : inR (lst f.regs) r = true) : yi 1 (slA f.regs) (.int .i64 r) = some (.rp [.int .i64 (regK (lst f.regs) r)]) := by
  obtain ⟨h0, h1, h2⟩ := y1qq h
  exact y1ix h0 h2 .i64
theorem yob (f : Fn) (x : Ins) (a b c d : Int) (i : Nat) (w r : Int) (v26 : AV) (hi : i < 4) (hw : [a, b, c, d][i]? = some w) :
    yb9 P0 P1 P2 (.int .i64 i) (.int .i64 r) v26 (.int .i64 i) (HR f x a b c d) =
      if y1c (lst f.regs) w r then ym8 P0 P1 P2 v26 (.int .i64 i) (HR f x a b c d) else some ⟨.bool false, [], true, [], []⟩ := by
  have e1 : yj6 4 1 P2 (.int .i64 i) = some (.lp 2 1 0 i) := by
    have : ((i : Int) < (4 : Int)) := by omega
    simp [yj6, this]
  have e2 : ∀ f x, evLd false 1 (.lp 2 1 0 i) (HR f x a b c d) = some (.int .i64 w) := by
    intro f x
    simp only [y2k]
    have : (yg (HR f x a b c d) 2 1) = some (false, 4, [[.int .i64 a, .int .i64 b, .int .i64 c, .int .i64 d]]) := rfl
    rw [this]
    simp only [List.getElem?_cons_zero, y6a]
    match i, hi, hw with
    | 0, _, hw => simp at hw; simp [hw]
    | 1, _, hw => simp at hw; simp [hw]
    | 2, _, hw => simp at hw; simp [hw]
    | 3, _, hw => simp at hw; simp [hw]
  have e2 := e2 f x
  by_cases hw0 : w < 0
  · simp [yb9, e1, e2, y1c, hw0]
  by_cases h0 : r < 0
  · have : ¬ 0 ≤ r := by omega
    simp [yb9, yfa, e1, e2, y1c, hw0, h0, inR, this]
  by_cases h1 : r < ((lst f.regs).length : Int)
  · have h0' : 0 ≤ r := by omega
    have h1' : ¬ ((lst f.regs).length : Int) ≤ r := by omega
    have hin : inR (lst f.regs) r = true := by simp [inR, h0', h1]
    have hr := y9u hin
    by_cases h2 : 0 < w
    · have h2' : ¬ w ≤ 0 := by omega
      by_cases h3 : regK (lst f.regs) r = w
      · simp [yb9, yfa, e1, e2, y1c, hw0, h0, h1', h2, h2', hin, hr, h3]
      · simp [yb9, yfa, e1, e2, y1c, hw0, h0, h1', h2, h2', hin, hr, h3]
    · have h2' : w ≤ 0 := by omega
      simp [yb9, yfa, e1, e2, y1c, hw0, h0, h1', h2, h2', hin]
  · have h1' : ((lst f.regs).length : Int) ≤ r := by omega
    simp [yb9, yfa, e1, e2, y1c, hw0, h0, h1', h1, inR]
theorem yxv (f : Fn) (x : Ins) (a b c d : Int) (h1 : x.op = 1 → inR (lst f.regs) x.d = true) (h4 : x.op = 4 → inR (lst f.regs) x.d = true ∧ inR (lst f.regs) x.a = true) (h7 : x.op = 7 → inR (lst f.regs) x.a = true)
    (h30 : x.op = 30 → x.a = -1 ∨ inR (lst f.regs) x.a = true) :
    y7u P0 P1 (HR f x a b c d) = some ⟨.bool (y2h (lst f.regs) f.ret (lst f.code).length x), [], true, [], []⟩ := by
  by_cases o1 : x.op = 1
  · have hr := y9u (h1 o1)
    by_cases k3 : regK (lst f.regs) x.d = 3
    · simp [y7u, y2h, o1, hr, k3]
    · by_cases k2 : regK (lst f.regs) x.d = 2
      · simp [y7u, y2h, o1, hr, k2]
      · simp [y7u, y2h, o1, hr, k2, k3]
  by_cases o4 : x.op = 4
  · have hr := y9u (h4 o4).1
    have hr2 := y9u (h4 o4).2
    simp [y7u, y2h, o4, hr, hr2]
  by_cases o7 : x.op = 7
  · have hr := y9u (h7 o7)
    simp [y7u, y2h, o7, hr]
  by_cases o30 : x.op = 30
  · by_cases ha : x.a = -1
    · by_cases hz : f.ret = 0
      · simp [y7u, y2h, o30, ha, hz]
      · simp [y7u, y2h, o30, ha, hz]
    · have hr := y9u ((h30 o30).resolve_left ha)
      by_cases hz : f.ret = 0
      · simp [y7u, y2h, o30, ha, hz]
      · simp [y7u, y2h, o30, ha, hz, hr]
  · cases hl : leads x.op with
    | false => simp [y7u, y16c, y2h, o1, o4, o7, o30, hl]
    | true =>
      by_cases ht : 0 ≤ x.t
      · simp [y7u, y16c, y2h, o1, o4, o7, o30, hl, ht]
      · simp [y7u, y16c, y2h, o1, o4, o7, o30, hl, ht]
end Go.Vm
namespace Go.Vm
open Cel
attribute [local simp] y4 y23 ym
theorem ylc (f : Fn) (x : Ins) (a b c d : Int) (i : Nat) (r : Int) (v63 v64 : AV) :
    yfm P0 P1 (.int .i64 i) (.int .i64 r) v63 v64 (.int .i64 i) (HR f x a b c d) =
      if inR (lst f.regs) r && (!decide (i = 0) || !(decide (x.op = 24) || decide (x.op = 25)) || decide (regK (lst f.regs) r = 3)) then y1es P0 P1 v63 v64 (.int .i64 i) (HR f x a b c d) else some ⟨.bool false, [], true, [], []⟩ := by
  by_cases h0 : r < 0
  · have : ¬ 0 ≤ r := by omega
    simp [yfm, h0, inR, this]
  by_cases h1 : r < ((lst f.regs).length : Int)
  · have h0' : 0 ≤ r := by omega
    have h1' : ¬ ((lst f.regs).length : Int) ≤ r := by omega
    have hin : inR (lst f.regs) r = true := by simp [inR, h0', h1]
    have hr := y9u hin
    by_cases hi : i = 0
    · subst hi
      by_cases o1 : x.op = 24
      · by_cases h3 : regK (lst f.regs) r = 3
        · simp [yfm, h0, h1', hin, hr, o1, h3]
        · simp [yfm, h0, h1', hin, hr, o1, h3]
      · by_cases o2 : x.op = 25
        · by_cases h3 : regK (lst f.regs) r = 3
          · simp [yfm, h0, h1', hin, hr, o2, h3]
          · simp [yfm, h0, h1', hin, hr, o2, h3]
        · simp [yfm, h0, h1', hin, o1, o2]
    · have hi' : ¬ ((i : Int) = 0) := by omega
      simp [yfm, h0, h1', hin, hi, hi']
  · have h1' : ((lst f.regs).length : Int) ≤ r := by omega
    simp [yfm, h0, h1', h1, inR]
theorem yyo (f : Fn) (x : Ins) (a b c d : Int) (T : Bool) (hc : calls x.op = true) (hl : (lst x.args).length ≤ 9223372036854775807) (hT : y7u P0 P1 (HR f x a b c d) = some ⟨.bool T, [], true, [], []⟩) :
    ∀ (k i : Nat), i + k = (lst x.args).length → 0 < i →
    yeh P0 P1 (slA x.args) (.int .i64 (lst x.args).length) (.int .i64 i) (HR f x a b c d) = some ⟨.bool (((lst x.args).drop i).all (inR (lst f.regs)) && T), [], true, [], []⟩ := by
  intro k
  induction k with
  | zero =>
    intro i hi _
    have e1 : (lst x.args).drop i = [] := List.drop_eq_nil_of_le (by omega)
    have hn : ¬ ((i : Int) < ((lst x.args).length : Int)) := by omega
    rw [yey, e1]
    simp [ydq, yef, hn, hT]
  | succ k ih =>
    intro i hi h0
    have hlt : i < (lst x.args).length := by omega
    have hn : ((i : Int) < ((lst x.args).length : Int)) := by omega
    have e1 : ((lst x.args).drop i).all (inR (lst f.regs)) = (inR (lst f.regs) (lst x.args)[i] && ((lst x.args).drop (i + 1)).all (inR (lst f.regs))) := by rw [List.drop_eq_getElem_cons hlt, List.all_cons]
    have ih := ih (i + 1) (by omega) (by omega)
    push_cast at ih
    have k1 := yc1 (o := x.args) (i := i) (List.getElem?_eq_getElem hlt) .i64
    have hz : ¬ i = 0 := by omega
    rw [yey, e1]
    simp only [ydq, yef, yn, y6, hn, decide_true, y1g]
    simp only [y17c, k1, y6, yn3, y6a, List.head?_cons]
    simp only [yza]
    simp only [y2k]
    simp only [yiq, ydm]
    simp only [List.getElem?_cons_zero, List.drop_zero, yiw, y6]
    simp only [y4, ymv, if_true, y23, yx, ycw, y16, ynw, ym, yje, yj, Bool.true_or]
    simp only [y3d, y6, hc, Bool.not_true, y1y, ylc]
    cases inR (lst f.regs) (lst x.args)[i]
    · simp
    · simp [hz, y1es, y1j hlt hl, ih]
theorem yxg (f : Fn) (x : Ins) (a b c d : Int) (T : Bool) (hl : (lst x.args).length ≤ 9223372036854775807) (hT : y7u P0 P1 (HR f x a b c d) = some ⟨.bool T, [], true, [], []⟩) :
    ykd P0 P1 (HR f x a b c d) = some ⟨.bool (y9y (lst f.regs) x && T), [], true, [], []⟩ := by
  have e0 : ykd P0 P1 (HR f x a b c d) = yeh P0 P1 (slA x.args) (.int .i64 (lst x.args).length) (.int .i64 0) (HR f x a b c d) := by simp [ykd]
  rw [e0, yey]
  cases ha : lst x.args with
  | nil => simp [ydq, yef, hT, y9y, ymx, ha]
  | cons r rest =>
    have k1 := yc1 (o := x.args) (i := 0) (x := r) (by rw [ha]; rfl) .i64
    have k1 : yi 1 (slA x.args) (.int .i64 0) = some (.rp [.int .i64 r]) := k1
    have hn : ((0 : Int) < ((lst x.args).length : Int)) := by rw [ha]; simp
    have hra := ylc f x a b c d 0 r (slA x.args) (.int .i64 (lst x.args).length)
    simp only [Int.ofNat_zero, decide_true, Bool.not_true, Bool.false_or] at hra
    rw [← ha]
    cases hc : calls x.op with
    | false =>
      simp only [ydq, yef, yn, y6, hn, decide_true, y1g]
      simp only [y17c, k1, y6, yn3, y6a, List.head?_cons]
      simp only [yza]
      simp only [y2k]
      simp only [yiq, ydm]
      simp only [List.getElem?_cons_zero, List.drop_zero, yiw, y6]
      simp only [y4, ymv, if_true, y23, yx, ycw, y16, ynw, ym, yje, yj, Bool.true_or]
      simp only [y3d, y6, hc, Bool.not_false, y1g, hT, y9y, Bool.true_or, Bool.true_and]
    | true =>
      have hlp := yyo f x a b c d T hc hl hT rest.length 1 (by rw [ha]; simp; omega) (by omega)
      have hd : (lst x.args).drop 1 = rest := by rw [ha]; rfl
      rw [hd] at hlp
      have hlp : yeh P0 P1 (slA x.args) (.int .i64 (lst x.args).length) (.int .i64 1) (HR f x a b c d) = _ := hlp
      simp only [ydq, yef, yn, y6, hn, decide_true, y1g]
      simp only [y17c, k1, y6, yn3, y6a, List.head?_cons]
      simp only [yza]
      simp only [y2k]
      simp only [yiq, ydm]
      simp only [List.getElem?_cons_zero, List.drop_zero, yiw, y6]
      simp only [y4, ymv, if_true, y23, yx, ycw, y16, ynw, ym, yje, yj, Bool.true_or]
      simp only [y3d, y6, hc, Bool.not_true, y1y, hra]
      simp only [y9y, ymx, ha, List.all_cons]
      have hw : IntKind.wrap .i64 ((0 : Int) + 1) = 1 := y27 (n := 1) (by omega) (by omega)
      generalize (!(decide (x.op = 24) || decide (x.op = 25)) || decide (regK (lst f.regs) r = 3)) = B
      have hw2 : IntKind.wrap .i64 (1 : Int) = 1 := y27 (n := 1) (by omega) (by omega)
      cases inR (lst f.regs) r with
      | false => cases B <;> simp [hc]
      | true =>
        cases B with
        | false => simp [hc]
        | true =>
          simp only [Bool.and_self, if_true, y1es, yw, y6]
          rw [show IntKind.wrap .i64 ((0 : Int) + 1) = 1 from hw]
          rw [← ha, hlp]
          simp [hc]
theorem yzn (x : Ins) : (x.op = 1 → (yd x).1 = 0) ∧ (x.op = 4 → (yd x).1 = 0 ∧ (yd x).2.1 = 0) ∧ (x.op = 7 → (yd x).2.1 = 0) ∧ (x.op = 30 → x.a = -1 ∨ (yd x).2.1 = 0) := by
  refine ⟨fun h => ?_, fun h => ?_, fun h => ?_, fun h => ?_⟩ <;> simp [yd, h]
  by_cases ha : x.a = -1 <;> simp [ha]
theorem ybh {R : List Int} {w r : Int} (h : y1c R w r = true) (hw : w = 0) : inR R r = true := by
  subst hw
  simpa [y1c] using h
set_option maxHeartbeats 1000000 in
theorem y1rl (f : Fn) (x : Ins) (hn : -9223372036854775808 ≤ x.n ∧ x.n < 9223372036854775808) (hs : x.s.length ≤ 9223372036854775807) (hl : (lst x.args).length ≤ 9223372036854775807) :
    (y5 E).p 63 [.agg (enc f), .agg (enc x)] = some ⟨.bool (y13 f x), [], true, [], []⟩ := by
  have hk := y1uj x hn hs
  obtain ⟨q1, q4, q7, q30⟩ := yzn x
  rw [y233]
  have red : ∀ X : Option (Ex AV), y13 f x = y13 f x → True := fun _ _ => trivial
  have e0 : ym2 (.agg (enc f)) (.agg (enc x)) [⟨0, .dead⟩, ⟨0, .dead⟩, ⟨0, .dead⟩] =
      if (yd x).2.2.2.2 = true then y9e P0 P1 P2 (.agg [.int .i64 x.d, .int .i64 x.a, .int .i64 x.b, .int .i64 x.c]) (.int .i64 0) (HR f x (yd x).1 (yd x).2.1 (yd x).2.2.1 (yd x).2.2.2.1) else some ⟨.bool false, [], true, [], []⟩ := by
    unfold exK at hk
    generalize yd x = k at *
    obtain ⟨a, b, c, d, o⟩ := k
    simp only at hk ⊢
    cases o with
    | true => simp [ym2, yum, yva, y173, hk]
    | false => simp [ym2, yum, yva, hk]
  rw [e0, y13]
  cases hok : (yd x).2.2.2.2 with
  | false => simp
  | true =>
    simp only [if_true, Bool.true_and]
    have step : ∀ (i : Nat) (w r : Int), i < 4 → [(yd x).1, (yd x).2.1, (yd x).2.2.1, (yd x).2.2.2.1][i]? = some w → [x.d, x.a, x.b, x.c][i]? = some r →
        y9e P0 P1 P2 (.agg [.int .i64 x.d, .int .i64 x.a, .int .i64 x.b, .int .i64 x.c]) (.int .i64 i) (HR f x (yd x).1 (yd x).2.1 (yd x).2.2.1 (yd x).2.2.2.1) =
        if y1c (lst f.regs) w r then y9e P0 P1 P2 (.agg [.int .i64 x.d, .int .i64 x.a, .int .i64 x.b, .int .i64 x.c]) (.int .i64 (i + 1 : Nat)) (HR f x (yd x).1 (yd x).2.1 (yd x).2.2.1 (yd x).2.2.2.1) else some ⟨.bool false, [], true, [], []⟩ := by
      intro i w r hi hw hr
      have hc : ((i : Int) < (4 : Int)) := by omega
      have hv : yf9 false 4 1 (.agg [.int .i64 x.d, .int .i64 x.a, .int .i64 x.b, .int .i64 x.c]) (.int .i64 i) = some (.int .i64 r) := by
        match i, hi, hr with
        | 0, _, hr => simp at hr; simp [yf9, hr]
        | 1, _, hr => simp at hr; simp [yf9, hr]
        | 2, _, hr => simp at hr; simp [yf9, hr]
        | 3, _, hr => simp at hr; simp [yf9, hr]
      have hw2 : IntKind.wrap .i64 ((i : Int) + 1) = ((i + 1 : Nat) : Int) := by rw [y27] <;> omega
      rw [yhp]
      simp only [ysz, ywu, yn, y6, hc, decide_true, y1g]
      simp only [y171, hv, y6]
      rw [yob f x _ _ _ _ i w r _ hi hw]
      simp only [ym8, yw, y6, hw2]
    have s0 := step 0 _ _ (by omega) rfl rfl
    have s1 := step 1 _ _ (by omega) rfl rfl
    have s2 := step 2 _ _ (by omega) rfl rfl
    have s3 := step 3 _ _ (by omega) rfl rfl
    simp only [Int.ofNat_zero] at s0
    rw [s0]
    cases f0 : y1c (lst f.regs) (yd x).1 x.d with
    | false => simp
    | true =>
      simp only [if_true, Bool.true_and]
      rw [s1]
      cases f1 : y1c (lst f.regs) (yd x).2.1 x.a with
      | false => simp
      | true =>
        simp only [if_true, Bool.true_and]
        rw [s2]
        cases f2 : y1c (lst f.regs) (yd x).2.2.1 x.b with
        | false => simp
        | true =>
          simp only [if_true, Bool.true_and]
          rw [s3]
          cases f3 : y1c (lst f.regs) (yd x).2.2.2.1 x.c with
          | false => simp
          | true =>
            simp only [if_true, Bool.true_and]
            have ht := yxv f x (yd x).1 (yd x).2.1 (yd x).2.2.1 (yd x).2.2.2.1 (fun h => ybh f0 (q1 h)) (fun h => ⟨ybh f0 (q4 h).1, ybh f1 (q4 h).2⟩) (fun h => ybh f1 (q7 h)) (fun h => (q30 h).imp id fun h => ybh f1 h)
            rw [← yxg f x _ _ _ _ _ hl ht]
            rw [yhp]
            simp [ysz, ywu]
end Go.Vm
namespace Go.Vm
open Cel
attribute [local simp] y4 y23 ym
theorem y1y2 {α : Type} [Cel α] (o : Option (List α)) (i : Nat) (h : i ≤ (lst o).length) (k : IntKind) : ybc (es α) (slA o) none (some (.int k i)) = some (slA (o.map (List.take i))) := by
  have h2 : (0 : Int) ≤ (i : Int) ∧ (i : Int) ≤ ((lst o).length : Int) := by omega
  cases o with
  | none =>
    have : i = 0 := by simpa using h
    subst this
    simp [ybc, slA, yo0, y9x, ym0]
  | some L =>
    simp only [y8u] at h2
    simp [ybc, slA, yo0, y9x, ym0, h2, List.map_take]
theorem yyu (o : Option (List Int)) (r : Int) (hl : (lst o).length ≤ 9223372036854775807) (h : Heap) : ∀ (d i : Nat), i + d = (lst o).length →
    ∃ k : Int, ye8 (slA o) (.int .i64 r) (.int .i64 (lst o).length) (.int .i64 i) h = some ⟨.int .i64 k, [], true, [], []⟩ ∧ (0 ≤ k ↔ r ∈ (lst o).drop i) := by
  intro d
  induction d with
  | zero =>
    intro i hi
    have e1 : (lst o).drop i = [] := List.drop_eq_nil_of_le (by omega)
    have hn : ¬ ((i : Int) < ((lst o).length : Int)) := by omega
    rw [yi3, e1]
    exact ⟨-1, by simp [yij, yi9, ygy, yhm, ygk, yhn, ybv, hn], by simp⟩
  | succ d ih =>
    intro i hi
    have hlt : i < (lst o).length := by omega
    have hn : ((i : Int) < ((lst o).length : Int)) := by omega
    have k1 := yc1 (o := o) (i := i) (List.getElem?_eq_getElem hlt) .i64
    have hm : r ∈ (lst o).drop i ↔ r = (lst o)[i] ∨ r ∈ (lst o).drop (i + 1) := by rw [List.drop_eq_getElem_cons hlt, List.mem_cons]
    rw [yi3, hm]
    by_cases he : r = (lst o)[i]
    · exact ⟨i, by simp [yij, yi9, ygy, yhm, ygk, yhn, ybv, hn, k1, he], by simp [he]⟩
    · obtain ⟨k, h1, h2⟩ := ih (i + 1) (by omega)
      push_cast at h1
      refine ⟨k, ?_, ?_⟩
      · simp [yij, yi9, ygy, yhm, ygk, yhn, ybv, hn, k1, he, y1j hlt hl, h1]
      · rw [h2]; simp [he]
@[simp] theorem y8r (o : Option (List Int)) (r : Int) (hl : (lst o).length ≤ 9223372036854775807) : (y5 E).p 46 [slA o, .int .i64 r] = some ⟨.bool ((lst o).contains r), [], true, [], []⟩ := by
  obtain ⟨k, h1, h2⟩ := yyu o r hl [] (lst o).length 0 (by omega)
  simp only [Int.ofNat_zero, List.drop_zero] at h1 h2
  have hi : (y5 E).p 45 [slA o, .int .i64 r] = some ⟨.int .i64 k, [], true, [], []⟩ := by
    rw [y21v, ← h1]
    simp [yij, yi9, ygy, yhm, ygk, yhn, ybv]
  rw [y1x2]
  by_cases h0 : 0 ≤ k
  · have := h2.1 h0
    simp [yqk, hi, h0, this]
  · have : r ∉ lst o := fun h => h0 (h2.2 h)
    simp [yqk, hi, h0, this]
end Go.Vm
namespace Go.Vm
open Cel
attribute [local simp] y4 y23 ym
abbrev HC (f : Fn) (o1 o2 : AO) : Heap := [⟨1, .arr true false 5 [enc f]⟩, o1, o2]
abbrev E80 : Option (Ex AV) := some ⟨.int .i64 80, [], true, [], []⟩
abbrev E0 : Option (Ex AV) := some ⟨.int .i64 0, [], true, [], []⟩
theorem yyh (f : Fn) (o1 : AO) (n : Int) (hn : n = (lst f.code).length) (hl : (lst f.rows).length ≤ 9223372036854775807) : ∀ (d i : Nat) (o2 : AO), i + d = (lst f.rows).length →
    yh5 P0 (.int .i64 n) (slA f.rows) (.int .i64 (lst f.rows).length) (.int .i64 i) (HC f o1 o2) = if ((lst f.rows).drop i).all (y7s (lst f.code)) then E0 else E80 := by
  intro d
  induction d with
  | zero =>
    intro i o2 hi
    have e1 : (lst f.rows).drop i = [] := List.drop_eq_nil_of_le (by omega)
    have hn : ¬ ((i : Int) < ((lst f.rows).length : Int)) := by omega
    rw [yk9, e1]
    simp [y1l9, y1hz, y1q8, hn]
  | succ d ih =>
    intro i o2 hi
    have hlt : i < (lst f.rows).length := by omega
    have hc : ((i : Int) < ((lst f.rows).length : Int)) := by omega
    have k1 := yiz (o := f.rows) (i := i) (List.getElem?_eq_getElem hlt) .i64
    rw [yk9]
    have e1 : ((lst f.rows).drop i).all (y7s (lst f.code)) = (y7s (lst f.code) (lst f.rows)[i] && ((lst f.rows).drop (i + 1)).all (y7s (lst f.code))) := by rw [List.drop_eq_getElem_cons hlt, List.all_cons]
    rw [e1]
    generalize hr : (lst f.rows)[i] = r at *
    have ih := fun o2 => ih (i + 1) o2 (by omega)
    push_cast at ih
    subst hn
    simp only [y1l9, y1hz, yn, y6, hc, decide_true, y1g]
    by_cases h1 : r.f < 0
    · simp [yjm, k1, y7s, h1]
    by_cases h2 : r.t ≤ r.f
    · simp [yjm, k1, y7s, h1, h2]
    by_cases h3 : ((lst f.code).length : Int) < r.t
    · simp [yjm, k1, y7s, h1, h2, h3]
    by_cases h4 : r.at_ < 0
    · simp [yjm, k1, y7s, h1, h2, h3, h4]
    by_cases h5 : ((lst f.code).length : Int) ≤ r.at_
    · simp [yjm, k1, y7s, h1, h2, h3, h4, h5]
    · have hx : r.at_.toNat < (lst f.code).length := by omega
      have k2 := yde (o := f.code) (n := r.at_) (by omega) (List.getElem?_eq_getElem hx) .i64
      have hg : (lst f.code).getD r.at_.toNat default = (lst f.code)[r.at_.toNat] := by rw [List.getD_eq_getElem?_getD, List.getElem?_eq_getElem hx]; rfl
      by_cases h6 : ((lst f.code)[r.at_.toNat]).op = 32
      · simp [yjm, k1, y7s, h1, h2, h3, h4, h5, k2, h6, hx, y1v2, y1j hlt hl, ih]
      · simp [yjm, k1, y7s, h1, h2, h3, h4, h5, k2, h6, hx]
theorem yxy (f : Fn) (o1 o2 : AO) (n : Int) (hl : (lst f.regs).length ≤ 9223372036854775807) : ∀ (d i : Nat), i + d = (lst f.regs).length →
    yc6 P0 (.int .i64 n) (slA f.regs) (.int .i64 (lst f.regs).length) (.int .i64 i) (HC f o1 o2) = if ((lst f.regs).drop i).all (fun k => decide (1 ≤ k) && decide (k ≤ 3)) then yld P0 (.int .i64 n) (HC f o1 o2) else E80 := by
  intro d
  induction d with
  | zero =>
    intro i hi
    have e1 : (lst f.regs).drop i = [] := List.drop_eq_nil_of_le (by omega)
    have hn : ¬ ((i : Int) < ((lst f.regs).length : Int)) := by omega
    rw [yhf, e1]
    simp [ypq, yry, hn]
  | succ d ih =>
    intro i hi
    have hlt : i < (lst f.regs).length := by omega
    have hc : ((i : Int) < ((lst f.regs).length : Int)) := by omega
    have k1 := yc1 (o := f.regs) (i := i) (List.getElem?_eq_getElem hlt) .i64
    have e1 : ((lst f.regs).drop i).all (fun k => decide (1 ≤ k) && decide (k ≤ 3)) = ((decide (1 ≤ (lst f.regs)[i]) && decide ((lst f.regs)[i] ≤ 3)) && ((lst f.regs).drop (i + 1)).all (fun k => decide (1 ≤ k) && decide (k ≤ 3))) := by
      rw [List.drop_eq_getElem_cons hlt, List.all_cons]
    rw [yhf, e1]
    generalize hr : (lst f.regs)[i] = r at *
    have ih := ih (i + 1) (by omega)
    push_cast at ih
    simp only [ypq, yry, yn, y6, hc, decide_true, y1g]
    by_cases h1 : r < 1
    · have : ¬ 1 ≤ r := by omega
      simp [yl4, k1, h1, this]
    by_cases h2 : 3 < r
    · have : ¬ r ≤ 3 := by omega
      simp [yl4, k1, h1, h2, this]
    · have a1 : 1 ≤ r := by omega
      have a2 : r ≤ 3 := by omega
      simp [yl4, k1, h1, h2, a1, a2, y12d, y1j hlt hl, ih]
theorem ylt (f : Fn) (o1 o2 : AO) (n : Int) (hl : (lst f.params).length ≤ 9223372036854775807) : ∀ (d i : Nat), i + d = (lst f.params).length →
    ybp P0 (.int .i64 n) (slA f.params) (.int .i64 (lst f.params).length) (.int .i64 i) (HC f o1 o2) = if yeu (lst f.regs) i ((lst f.params).take i) ((lst f.params).drop i) then ymd P0 (.int .i64 n) (HC f o1 o2) else E80 := by
  intro d
  induction d with
  | zero =>
    intro i hi
    have e1 : (lst f.params).drop i = [] := List.drop_eq_nil_of_le (by omega)
    have hn : ¬ ((i : Int) < ((lst f.params).length : Int)) := by omega
    rw [yhj, e1]
    simp [yww, yt9, hn, yeu]
  | succ d ih =>
    intro i hi
    have hlt : i < (lst f.params).length := by omega
    have hc : ((i : Int) < ((lst f.params).length : Int)) := by omega
    have k1 := yc1 (o := f.params) (i := i) (List.getElem?_eq_getElem hlt) .i64
    have ks := y1y2 (α := Int) f.params i (by omega) .i64
    simp only [yr0] at ks
    have hlm : lst (f.params.map (List.take i)) = (lst f.params).take i := by cases f.params <;> simp
    have e1 : yeu (lst f.regs) i ((lst f.params).take i) ((lst f.params).drop i) = ((inR (lst f.regs) (lst f.params)[i] && !((lst f.params).take i).contains (lst f.params)[i] && decide (i ≤ 20)) && yeu (lst f.regs) (i + 1) ((lst f.params).take (i + 1)) ((lst f.params).drop (i + 1))) := by
      rw [List.drop_eq_getElem_cons hlt, yeu, List.take_append_getElem]
    rw [yhj, e1]
    have hct : (y5 E).p 46 [slA (f.params.map (List.take i)), .int .i64 (lst f.params)[i]] = some ⟨.bool (((lst f.params).take i).contains (lst f.params)[i]), [], true, [], []⟩ := by
      rw [y8r _ _ (by rw [hlm, List.length_take]; omega), hlm]
    generalize hr : (lst f.params)[i] = r at *
    generalize ((lst f.params).take i).contains r = B at *
    have ih := ih (i + 1) (by omega)
    push_cast at ih
    simp only [yww, yt9, yn, y6, hc, decide_true, y1g]
    have e20 : ((20 : Int) < (i : Int)) ↔ ¬ i ≤ 20 := by omega
    by_cases h1 : r < 0
    · have : ¬ 0 ≤ r := by omega
      simp [yf2, k1, inR, h1, this]
    by_cases h2 : ((lst f.regs).length : Int) ≤ r
    · have : ¬ r < ((lst f.regs).length : Int) := by omega
      simp [yf2, k1, inR, h1, h2, this]
    · have a1 : 0 ≤ r := by omega
      have a2 : r < ((lst f.regs).length : Int) := by omega
      cases B with
      | true => simp [yf2, k1, inR, h1, h2, a1, a2, ks, hct]
      | false =>
        by_cases h3 : i ≤ 20
        · have h3' : ¬ ((20 : Int) < (i : Int)) := by omega
          simp [yf2, k1, inR, h1, h2, a1, a2, ks, hct, h3, h3', y1du, y1j hlt hl, ih]
        · have h3' : ((20 : Int) < (i : Int)) := by omega
          simp [yf2, k1, inR, h1, h2, a1, a2, ks, hct, h3, h3']
theorem yxw {R : List Int} {ret : Int} {n : Nat} {x : Ins} (h : y2h R ret n x = true) (hl : leads x.op = true) : 0 ≤ x.t ∧ x.t < n := by
  have hne : ¬ x.op = 1 ∧ ¬ x.op = 4 ∧ ¬ x.op = 7 ∧ ¬ x.op = 30 := by
    simp only [leads, Bool.or_eq_true, decide_eq_true_eq] at hl
    omega
  simp only [y2h, hne, if_false, hl, Bool.not_true, Bool.false_or, Bool.and_eq_true, decide_eq_true_eq] at h
  exact h
theorem ynk {f : Fn} {x : Ins} (h : y13 f x = true) (hl : leads x.op = true) : 0 ≤ x.t ∧ x.t < (lst f.code).length := by
  simp only [y13, Bool.and_eq_true] at h
  exact yxw h.2 hl
structure InsFit (x : Ins) : Prop where
  n : -9223372036854775808 ≤ x.n ∧ x.n < 9223372036854775808
  s : x.s.length ≤ 9223372036854775807
  a : (lst x.args).length ≤ 9223372036854775807
theorem yz0 (f : Fn) (o2 : AO) (n : Int) (x : Ins) (i g : Nat) (v92 v93 v94 : AV) (hi : i < (lst f.code).length) (hl : (lst f.code).length ≤ 9223372036854775807) (ht : leads x.op = true → 0 ≤ x.t ∧ x.t < (lst f.code).length) :
    y95 P0 (.int .i64 n) (.int .i64 i) (.lp 1 g 0 0) v92 v93 v94 (HC f ⟨g, .arr true false 9 [enc x]⟩ o2) =
      if y4y (lst f.code) i x then yor P0 (.int .i64 n) v92 v93 v94 (HC f ⟨g, .arr true false 9 [enc x]⟩ o2) else E80 := by
  by_cases h32 : x.op = 32
  · have hld : leads x.op = false := by simp [leads, h32]
    by_cases h0 : i = 0
    · subst h0
      simp [y95, h32, y4y]
    · have h0' : ¬ ((i : Int) = 0) := by omega
      have hp : i - 1 < (lst f.code).length := by omega
      have k1 := y6o (o := f.code) (i := i - 1) (List.getElem?_eq_getElem hp) .i64
      have hw : IntKind.wrap .i64 ((i : Int) - 1) = ((i - 1 : Nat) : Int) := by rw [y27] <;> omega
      have hg : (lst f.code).getD (i - 1) default = (lst f.code)[i - 1] := by rw [List.getD_eq_getElem?_getD, List.getElem?_eq_getElem hp]; rfl
      have hld32 : leads 32 = false := by simp [leads]
      cases he : ends ((lst f.code)[i - 1]).op with
      | true => simp [y95, h32, y4y, h0, h0', hw, k1, hp, he, hld32]
      | false => simp [y95, h32, y4y, h0, h0', hw, k1, hp, he]
  · cases hld : leads x.op with
    | false => simp [y95, h32, y4y, hld]
    | true =>
      obtain ⟨t0, t1⟩ := ht hld
      have hx : x.t.toNat < (lst f.code).length := by omega
      have k2 := yde (o := f.code) (n := x.t) t0 (List.getElem?_eq_getElem hx) .i64
      by_cases h6 : ((lst f.code)[x.t.toNat]).op = 32
      · simp [y95, h32, y4y, hld, k2, h6, hx]
      · simp [y95, h32, y4y, hld, k2, h6, hx]
theorem yys (f : Fn) (o2 : AO) (n : Int) (hfit : ∀ x ∈ lst f.code, InsFit x) (hl : (lst f.code).length ≤ 9223372036854775807) : ∀ (d i : Nat) (o1 : AO), i + d = (lst f.code).length →
    ∃ o1', ybw P0 (.int .i64 n) (slA f.code) (.int .i64 (lst f.code).length) (.int .i64 i) (HC f o1 o2) = if y3x f (lst f.code) i ((lst f.code).drop i) then y1fe P0 (.int .i64 n) (HC f o1' o2) else E80 := by
  intro d
  induction d with
  | zero =>
    intro i o1 hi
    have e1 : (lst f.code).drop i = [] := List.drop_eq_nil_of_le (by omega)
    have hn : ¬ ((i : Int) < ((lst f.code).length : Int)) := by omega
    rw [yh7, e1]
    exact ⟨o1, by simp [ypy, ywr, hn, y3x]⟩
  | succ d ih =>
    intro i o1 hi
    have hlt : i < (lst f.code).length := by omega
    have hc : ((i : Int) < ((lst f.code).length : Int)) := by omega
    have k1 := y6o (o := f.code) (i := i) (List.getElem?_eq_getElem hlt) .i64
    have e1 : y3x f (lst f.code) i ((lst f.code).drop i) = (y13 f (lst f.code)[i] && y4y (lst f.code) i (lst f.code)[i] && y3x f (lst f.code) (i + 1) ((lst f.code).drop (i + 1))) := by
      rw [List.drop_eq_getElem_cons hlt, y3x]
    have fit := hfit _ (List.getElem_mem hlt)
    rw [yh7, e1]
    generalize hx : (lst f.code)[i] = x at *
    have hr := y1rl f x fit.n fit.s fit.a
    simp only [ypy, ywr, yn, y6, hc, decide_true, y1g]
    cases hok : y13 f x with
    | false =>
      rw [hok] at hr
      exact ⟨o1, by simp [ymc, yw9, k1, hr]⟩
    | true =>
      rw [hok] at hr
      have e13 : ∀ K : Option (Ex AV), ymc P0 (.int .i64 n) (slA f.code) (.int .i64 (lst f.code).length) (.int .i64 i) (HC f o1 o2) = y95 P0 (.int .i64 n) (.int .i64 i) (.lp 1 (o1.gen + 1) 0 0) (slA f.code) (.int .i64 (lst f.code).length) (.int .i64 i) (HC f ⟨o1.gen + 1, .arr true false 9 [enc x]⟩ o2) := by
        intro _
        simp [ymc, yw9, k1, hr]
      rw [e13 none]
      rw [yz0 f o2 n x i _ _ _ _ hlt hl (fun h => ynk hok h)]
      cases hs : y4y (lst f.code) i x with
      | false => exact ⟨o1, by simp⟩
      | true =>
        obtain ⟨o1', ih⟩ := ih (i + 1) ⟨o1.gen + 1, .arr true false 9 [enc x]⟩ (by omega)
        push_cast at ih
        exact ⟨o1', by simp [yor, y1j hlt hl, ih]⟩
structure FnFit (f : Fn) : Prop where
  ins : ∀ x ∈ lst f.code, InsFit x
  code : (lst f.code).length ≤ 9223372036854775807
  regs : (lst f.regs).length ≤ 9223372036854775807
  params : (lst f.params).length ≤ 9223372036854775807
  rows : (lst f.rows).length ≤ 9223372036854775807
theorem y1gd (f : Fn) (hf : FnFit f) (o1 o2 : AO) (n : Int) (hn : n = (lst f.code).length) :
    ygj P0 (.int .i64 n) (HC f o1 o2) = if (lst f.regs).all (fun k => decide (1 ≤ k) && decide (k ≤ 3)) && yeu (lst f.regs) 0 [] (lst f.params) && y3x f (lst f.code) 0 (lst f.code) && (lst f.rows).all (y7s (lst f.code)) then E0 else E80 := by
  have a1 := yxy f o1 o2 n hf.regs _ 0 (Nat.zero_add _)
  have a2 := ylt f o1 o2 n hf.params _ 0 (Nat.zero_add _)
  obtain ⟨o1', a3⟩ := yys f o2 n hf.ins hf.code _ 0 o1 (Nat.zero_add _)
  have a4 := yyh f o1' n hn hf.rows _ 0 o2 (Nat.zero_add _)
  simp only [Int.ofNat_zero, List.drop_zero, List.take_zero] at a1 a2 a3 a4
  have e1 : ygj P0 (.int .i64 n) (HC f o1 o2) = yc6 P0 (.int .i64 n) (slA f.regs) (.int .i64 (lst f.regs).length) (.int .i64 0) (HC f o1 o2) := by simp [ygj]
  have e2 : yld P0 (.int .i64 n) (HC f o1 o2) = ybp P0 (.int .i64 n) (slA f.params) (.int .i64 (lst f.params).length) (.int .i64 0) (HC f o1 o2) := by simp [yld]
  have e3 : ymd P0 (.int .i64 n) (HC f o1 o2) = ybw P0 (.int .i64 n) (slA f.code) (.int .i64 (lst f.code).length) (.int .i64 0) (HC f o1 o2) := by simp [ymd]
  have e4 : y1fe P0 (.int .i64 n) (HC f o1' o2) = yh5 P0 (.int .i64 n) (slA f.rows) (.int .i64 (lst f.rows).length) (.int .i64 0) (HC f o1' o2) := by simp [y1fe]
  rw [e1, a1, e2, a2, e3, a3, e4, a4]
  generalize (lst f.regs).all (fun k => decide (1 ≤ k) && decide (k ≤ 3)) = b1
  generalize yeu (lst f.regs) 0 [] (lst f.params) = b2
  generalize y3x f (lst f.code) 0 (lst f.code) = b3
  generalize (lst f.rows).all (y7s (lst f.code)) = b4
  cases b1 <;> cases b2 <;> cases b3 <;> cases b4 <;> rfl
set_option maxHeartbeats 1000000 in
theorem y16k (f : Fn) (hf : FnFit f) : (y5 E).p 8 [.agg (enc f)] = some ⟨.int .i64 (if wf f then 0 else 80), [], true, [], []⟩ := by
  rw [y234]
  have hall := y1gd f hf ⟨0, .dead⟩ ⟨0, .dead⟩ _ rfl
  by_cases h1 : (lst f.code).length < 1
  · have h1' : ((lst f.code).length : Int) < 1 := by omega
    have : ¬ 1 ≤ (lst f.code).length := by omega
    simp [y97, yb3, ybe, h1', wf, this]
  have h1' : ¬ ((lst f.code).length : Int) < 1 := by omega
  have g1 : 1 ≤ (lst f.code).length := by omega
  by_cases h2 : 20000 < (lst f.code).length
  · have h2' : (20000 : Int) < ((lst f.code).length : Int) := by omega
    have : ¬ (lst f.code).length ≤ 20000 := by omega
    simp [y97, yb3, ybe, h1', h2', wf, this]
  have h2' : ¬ (20000 : Int) < ((lst f.code).length : Int) := by omega
  have g2 : (lst f.code).length ≤ 20000 := by omega
  by_cases h3 : 20000 < (lst f.regs).length
  · have h3' : (20000 : Int) < ((lst f.regs).length : Int) := by omega
    have : ¬ (lst f.regs).length ≤ 20000 := by omega
    simp [y97, yb3, ybe, h1', h2', h3', wf, this]
  have h3' : ¬ (20000 : Int) < ((lst f.regs).length : Int) := by omega
  have g3 : (lst f.regs).length ≤ 20000 := by omega
  by_cases h4 : f.ret < 0
  · have : ¬ 0 ≤ f.ret := by omega
    simp [y97, yb3, ybe, h1', h2', h3', h4, wf, this]
  have g4 : 0 ≤ f.ret := by omega
  by_cases h5 : 3 < f.ret
  · have : ¬ f.ret ≤ 3 := by omega
    simp [y97, yb3, ybe, h1', h2', h3', h4, h5, wf, this]
  have g5 : f.ret ≤ 3 := by omega
  have hp : (lst f.code).length - 1 < (lst f.code).length := by omega
  have k1 := y6o (o := f.code) (i := (lst f.code).length - 1) (List.getElem?_eq_getElem hp) .i64
  have hw : IntKind.wrap .i64 (((lst f.code).length : Int) - 1) = (((lst f.code).length - 1 : Nat) : Int) := by rw [y27] <;> omega
  have hg : (lst f.code).getD ((lst f.code).length - 1) default = (lst f.code)[(lst f.code).length - 1] := by rw [List.getD_eq_getElem?_getD, List.getElem?_eq_getElem hp]; rfl
  cases he : ends ((lst f.code)[(lst f.code).length - 1]).op with
  | false =>
    have hwf : wf f = false := by rw [wf, hg, he]; simp
    rw [hwf]
    simp [y97, yb3, ybe, h1', h2', h3', h4, h5, hw, k1, he]
  | true =>
    have hwf : wf f = ((lst f.regs).all (fun k => decide (1 ≤ k) && decide (k ≤ 3)) && yeu (lst f.regs) 0 [] (lst f.params) && y3x f (lst f.code) 0 (lst f.code) && (lst f.rows).all (y7s (lst f.code))) := by
      rw [wf, hg, he]
      simp only [g1, g2, g3, g4, g5, decide_true, Bool.true_and]
    have e : y97 (.agg (enc f)) [⟨0, .dead⟩, ⟨0, .dead⟩, ⟨0, .dead⟩] = ygj P0 (.int .i64 (lst f.code).length) (HC f ⟨0, .dead⟩ ⟨0, .dead⟩) := by
      simp [y97, yb3, ybe, h1', h2', h3', h4, h5, hw, k1, he]
    rw [e, hall, hwf]
    split <;> rfl
end Go.Vm
