/- Functions with other instructions at some places: well formed as before. Ways to a read, from their beginning on. The instruction that does nothing. What the pass 'fold' leaves, in plain words. num on the machine. Maps from whole numbers, as lists of pairs. Where blocks begin, in plain words. What the functions of 'ins' answer of single instructions. flow.Heads: where blocks begin. The register that an instruction writes. What 'kinds' answers. What 'other' answers; all of 'kinds'. Whether one instruction is well formed: 'right'. 'right', whole. A number in a list: the library's 'Contains'. Whether a function is well formed: 'Check': its lists of registers, parameters, rows. -/
import Derived.Test.YtgbajicpokolcaaOX
import Derived.Test.YtgbajicpokolcaaOTb
set_option linter.unusedSimpArgs false
set_option linter.unusedVariables false
set_option linter.unusedSectionVars false
namespace Go.Vm
theorem yu1 {f : Fn} {C : List Ins} : ∀ (l : List Ins) (i : Nat), (∀ k x, l[k]? = some x → y14 f x = true ∧ y3f C (i + k) x = true) → y40 f C i l = true
  | [], _, _ => rfl
  | y :: l, i, h => by
    rw [y40, (h 0 y rfl).1, yu1 l (i + 1) (fun k x hx => by
      have := h (k + 1) x (by simpa using hx)
      rwa [show i + (k + 1) = i + 1 + k by omega] at this)]
    have := (h 0 y rfl).2
    rw [Nat.add_zero] at this
    rw [this]; rfl
theorem yxq {f : Fn} {i : Nat} (h : (lst f.code).length ≤ i) : yt f i = default := by
  rw [yt, List.getD_eq_getElem?_getD, List.getElem?_eq_none h]; rfl
structure Swap (f g : Fn) : Prop where
  regs : g.regs = f.regs
  params : g.params = f.params
  ret : g.ret = f.ret
  rows : g.rows = f.rows
  len : (lst g.code).length = (lst f.code).length
theorem Swap.refl (f : Fn) : Swap f f := ⟨rfl, rfl, rfl, rfl, rfl⟩
theorem Swap.trans {f g h : Fn} (a : Swap f g) (b : Swap g h) : Swap f h := ⟨b.regs.trans a.regs, b.params.trans a.params, b.ret.trans a.ret, b.rows.trans a.rows, b.len.trans a.len⟩
theorem yvb {f g : Fn} (s : Swap f g) (x : Ins) : y14 g x = y14 f x := by
  unfold y14
  rw [s.regs, s.ret, s.len]
theorem y2fi {f g : Fn} (s : Swap f g) (hw : wf f = true) (h : ∀ i, i < (lst f.code).length → y14 f (yt g i) = true ∧ (ends (yt f i).op = true → ends (yt g i).op = true) ∧
    ((yt g i).op = 32 ↔ (yt f i).op = 32) ∧ (leads (yt g i).op = true → leads (yt f i).op = true ∧ (yt g i).t = (yt f i).t)) : wf g = true := by
  have w := y1g4 hw
  have e32 : ∀ i : Nat, (yt g i).op = 32 ↔ (yt f i).op = 32 := fun i => by
    by_cases hi : i < (lst f.code).length
    · exact (h i hi).2.2.1
    · rw [yxq (f := g) (by rw [s.len]; omega), yxq (f := f) (by omega)]
  have hlast := (h ((lst f.code).length - 1) (by have := w.n1; omega)).2.1 w.last
  have hspot : ∀ i, i < (lst f.code).length → y3f (lst g.code) i (yt g i) = true := by
    intro i hi
    have h0 := w.spot i hi
    obtain ⟨_, _, h3, h4⟩ := h i hi
    unfold y3f at h0 ⊢
    rw [Bool.not_eq_true', Bool.or_eq_false_iff, Bool.and_eq_false_iff, Bool.and_eq_false_iff] at h0 ⊢
    refine ⟨?_, ?_⟩
    · rcases h0.1 with q | q
      · left
        simp only [decide_eq_false_iff_not] at q ⊢
        rwa [h3]
      · right
        rw [Bool.or_eq_false_iff] at q ⊢
        refine ⟨q.1, ?_⟩
        have he : ends (yt f (i - 1)).op = true := by simpa [yt] using q.2
        have := (h (i - 1) (by omega)).2.1 he
        simpa [yt] using this
    · cases hl : leads (yt g i).op with
      | false => exact .inl rfl
      | true =>
        right
        obtain ⟨a, b⟩ := h4 hl
        rcases h0.2 with h | h
        · rw [a] at h; cases h
        · simp only [decide_eq_false_iff_not] at h ⊢
          rw [b]
          exact fun e => h ((e32 _).1 e)
  have hw' := hw
  unfold wf at hw' ⊢
  rw [s.len, s.regs, s.ret, s.params, s.rows]
  simp only [Bool.and_eq_true] at hw' ⊢
  obtain ⟨⟨⟨⟨⟨⟨⟨⟨⟨h1, h2⟩, h3⟩, h4⟩, h5⟩, h6⟩, h7⟩, h8⟩, h9⟩, h10⟩ := hw'
  refine ⟨⟨⟨⟨⟨⟨⟨⟨⟨h1, h2⟩, h3⟩, h4⟩, h5⟩, hlast⟩, h7⟩, h8⟩, yu1 _ 0 fun k x hx => ?_⟩, ?_⟩
  · have hk : k < (lst f.code).length := by rw [← s.len]; exact (List.getElem?_eq_some_iff.1 hx).1
    have e : yt g k = x := by rw [yt, List.getD_eq_getElem?_getD, hx]; rfl
    rw [Nat.zero_add, ← e]
    exact ⟨by rw [yvb s]; exact (h k hk).1, hspot k hk⟩
  · rw [List.all_eq_true] at h10 ⊢
    intro r hr
    have := h10 r hr
    unfold y46 at this ⊢
    rw [s.len]
    rw [Bool.not_eq_true', Bool.or_eq_false_iff] at this ⊢
    refine ⟨this.1, ?_⟩
    have t2 := this.2
    simp only [decide_eq_false_iff_not, Classical.not_not] at t2 ⊢
    exact (e32 r.at_.toNat).2 t2
end Go.Vm
namespace Go.Vm
inductive Way (f : Fn) (r : Int) : Nat → Prop
  | use {i : Nat} : i < (lst f.code).length → r ∈ yj7 f i → Way f r i
  | step {i : Nat} {j : Int} : i < (lst f.code).length → j ∈ yhl f r i → 0 ≤ j → j < (lst f.code).length → Way f r j.toNat → Way f r i
theorem Way.lt {f : Fn} {r : Int} {i : Nat} (h : Way f r i) : i < (lst f.code).length := by cases h <;> assumption
theorem y27y {f : Fn} {r : Nat} {A : List Int} : y1ba f A r ↔ ∃ a ∈ A, 0 ≤ a ∧ a < (lst f.code).length ∧ Way f r a.toNat := by
  rw [y1qx f]
  constructor
  · rintro ⟨a, ha, a0, a1, k, hk, hu⟩
    refine ⟨a, ha, a0, a1, ?_⟩
    have key : ∀ {k : Nat}, Rch (lst f.code).length (yhl f r) [a] k → Way f r k → Way f r a.toNat := by
      intro k hk
      induction hk with
      | base hj j0 j1 =>
        rw [List.mem_singleton] at hj
        subst hj
        exact id
      | step h hj j0 j1 ih => exact fun w => ih (.step h.lt hj j0 j1 w)
    exact key hk (.use hk.lt hu)
  · rintro ⟨a, ha, a0, a1, w⟩
    refine ⟨a, ha, a0, a1, ?_⟩
    have key : ∀ {k : Nat}, Way f r k → ∀ {A : List Int}, Rch (lst f.code).length (yhl f r) A k → y1ba f A r := by
      intro k w
      induction w with
      | use hi hu => exact fun h => ⟨_, h, hu⟩
      | step hi hj j0 j1 _ ih => exact fun h => ih (.step h hj j0 j1)
    exact key w (.base (by simp) a0 a1)
theorem y1wh {f : Fn} {r : Nat} : badR f r ↔ 0 < (lst f.code).length ∧ Way f r 0 := by
  have : badR f r ↔ y1ba f [0] r := Iff.rfl
  rw [this, y27y]
  constructor
  · rintro ⟨a, ha, a0, a1, w⟩
    rw [List.mem_singleton] at ha
    subst ha
    exact ⟨by omega, w⟩
  · rintro ⟨h, w⟩
    exact ⟨0, by simp, by omega, by omega, w⟩
end Go.Vm
namespace Go.Vm
def nopI : Ins := ⟨33, 0, 0, 0, 0, 0, 0, [], none⟩
theorem y227 : lst (uses nopI) = [] := by decide
theorem y1ac {f : Fn} : y14 f nopI = true := by
  simp [y14, nopI, yg, y1g, y5v, calls, y2l, leads]
end Go.Vm
namespace Go.Vm
def yag (d n : Int) : Ins := ⟨1, d, 0, 0, 0, n, 0, [], none⟩
def ywk (t : Int) : Ins := ⟨27, 0, 0, 0, 0, 0, t, [], none⟩
abbrev Kn := List (Int × Int)
def y5l (x : Ins) (kn : Kn) : Ins :=
  if x.op = 6 then (match aget x.a kn with
    | some a => yag x.d (yjy x.n a)
    | none => x)
  else if x.op = 5 then (match aget x.a kn with
    | some a => (match aget x.b kn with
      | some b => yag x.d (twoM x.n a b)
      | none => x)
    | none => x)
  else if x.op = 4 then (match aget x.a kn with
    | some a => yag x.d a
    | none => x)
  else if x.op = 28 then (match aget x.a kn with
    | some a => (match aget x.b kn with
      | some b => if yip x.n a b then ywk x.t else nopI
      | none => x)
    | none => x)
  else x
def ydn (y : Ins) (kn : Kn) : Kn := if 0 ≤ defr y then (if y.op = 1 then aset (defr y) y.n (adel (defr y) kn) else adel (defr y) kn) else kn
def yf1 (hd : Int → Bool) : Nat → Kn → List Ins → List Ins
  | _, _, [] => []
  | i, kn, x :: xs => y5l x (if hd i then [] else kn) :: yf1 hd (i + 1) (ydn (y5l x (if hd i then [] else kn)) (if hd i then [] else kn)) xs
def ytw (f : Fn) (i : Int) : Bool := decide (i ∈ y7x f)
def y1as (f : Fn) : List Ins := yf1 (ytw f) 0 [] (lst f.code)
theorem yoa (hd : Int → Bool) : ∀ (l : List Ins) (i : Nat) (kn : Kn), (yf1 hd i kn l).length = l.length
  | [], _, _ => rfl
  | x :: l, i, kn => by rw [yf1, List.length_cons, yoa hd l, List.length_cons]
structure KnOk (f : Fn) (kn : Kn) : Prop where
  new : anew kn
  at_ : ∀ r v, aget r kn = some v → y4v v ∧ ¬ regK (lst f.regs) r = 3 ∧ (regK (lst f.regs) r = 2 ∨ y60 v)
theorem KnOk.nil (f : Fn) : KnOk f [] := ⟨trivial, fun r v h => by cases h⟩
structure Fold1 (f : Fn) (x y : Ins) : Prop where
  right : y14 f y = true
  n : y4v y.n
  s : y.s.length ≤ 9223372036854775807
  args : y.args = x.args ∨ y.args = none
  ends : ends x.op = true → ends y.op = true
  ctch : y.op = 32 ↔ x.op = 32
  lead : leads y.op = true → leads x.op = true ∧ y.t = x.t
  uses : ∀ u ∈ lst (uses y), u ∈ lst (uses x)
  def_ : defr y = defr x
  thr : throws y.op = throws x.op
  next : ∀ i to : Int, to ∈ yda y i → to ∈ yda x i
theorem Fold1.same {f : Fn} {x : Ins} (h : y14 f x = true) (hn : y4v x.n) (hs : x.s.length ≤ 9223372036854775807) : Fold1 f x x :=
  ⟨h, hn, hs, .inl rfl, id, Iff.rfl, fun h => ⟨h, rfl⟩, fun _ h => h, rfl, rfl, fun _ _ h => h⟩
theorem yde {f : Fn} {d v : Int} (hd : inR (lst f.regs) d = true) (h3 : ¬ regK (lst f.regs) d = 3) (hv : regK (lst f.regs) d = 2 ∨ y60 v) : y14 f (yag d v) = true := by
  have h2 : (decide (regK (lst f.regs) d = 2) || decide (v = IntKind.wrap .i64 (IntKind.wrap .i32 v))) = true := by
    rcases hv with h | h
    · simp [h]
    · simp [← y2bv h]
  have ht : y2l (lst f.regs) f.ret (lst f.code).length (yag d v) = true := by
    show (decide (¬ regK (lst f.regs) d = 3) && (decide (regK (lst f.regs) d = 2) || decide (v = IntKind.wrap .i64 (IntKind.wrap .i32 v)))) = true
    rw [decide_eq_true h3, h2]
    rfl
  rw [y14, ht]
  simp [yag, yg, y1g, y5v, calls, hd]
theorem yvt {f : Fn} {x : Ins} {v : Int} (hop : x.op = 4 ∨ x.op = 5 ∨ x.op = 6) (hv : y4v v) (hr : y14 f (yag x.d v) = true) : Fold1 f x (yag x.d v) := by
  refine ⟨hr, hv, Nat.zero_le _, .inr rfl, fun h => ?_, ⟨fun h => (by cases h), fun h => ?_⟩, fun h => (by cases h), fun u hu => (by revert hu; simp [yag, uses, calls, reads]), ?_, ?_, fun i to h => ?_⟩
  · rcases hop with e | e | e <;> rw [e] at h <;> cases h
  · rcases hop with e | e | e <;> rw [e] at h <;> cases h
  · have h1 : writes x.op = true := by rcases hop with e | e | e <;> rw [e] <;> decide
    rw [defr, defr, if_pos h1]; rfl
  · rcases hop with e | e | e <;> rw [e] <;> rfl
  · have : yda (yag x.d v) i = [i + 1] := rfl
    rw [this] at h
    have h2 : yda x i = [i + 1] := by rcases hop with e | e | e <;> simp [yda, e, leads, Go.Vm.ends]
    rw [h2]; exact h
theorem y22n {f : Fn} {x : Ins} {kn : Kn} (hx : y14 f x = true) (hn : y4v x.n) (hs : x.s.length ≤ 9223372036854775807) (K : KnOk f kn) : Fold1 f x (y5l x kn) := by
  have same := Fold1.same hx hn hs
  have hx' := hx
  simp only [y14, Bool.and_eq_true] at hx'
  obtain ⟨⟨⟨⟨⟨⟨q1, q2⟩, q3⟩, q4⟩, q5⟩, q6⟩, q7⟩ := hx'
  have fld : ∀ {k r : Int}, y1g (lst f.regs) k r = true → 0 ≤ k → inR (lst f.regs) r = true ∧ (0 < k → regK (lst f.regs) r = k) := by
    intro k r h hk
    simp only [y1g, Bool.or_eq_true, Bool.and_eq_true, decide_eq_true_eq] at h
    rcases h with h | h
    · omega
    · exact ⟨h.1, fun hp => by rcases h.2 with h2 | h2 <;> omega⟩
  unfold y5l
  by_cases h6 : x.op = 6
  · rw [if_pos h6]
    cases ha : aget x.a kn with
    | none => exact same
    | some a =>
      have hk : yg x = ((numK x.n).2.2, (numK x.n).1, -1, -1, decide (¬ (numK x.n).1 = 0) && decide ((numK x.n).2.1 = 0)) := by simp [yg, h6]
      rw [hk] at q1 q2
      simp only [Bool.and_eq_true, decide_eq_true_eq] at q1 q2
      have nn := yig x.n
      obtain ⟨hd, hd2⟩ := fld q2 nn.2.2
      have hc : (numK x.n).2.2 = 1 ∨ (numK x.n).2.2 = 2 := by
        revert q1
        unfold numK
        repeat' split
        all_goals simp
      have hd2 := hd2 (by omega)
      refine yvt (.inr (.inr h6)) (y1a3 _ _) (yde hd (by omega) ?_)
      rcases hc with e | e
      · exact .inr (y2ec a e q1.2)
      · exact .inl (by omega)
  · rw [if_neg h6]
    by_cases h5 : x.op = 5
    · rw [if_pos h5]
      cases ha : aget x.a kn with
      | none => exact same
      | some a =>
        cases hb : aget x.b kn with
        | none => exact same
        | some b =>
          have hk : yg x = ((numK x.n).2.2, (numK x.n).1, (numK x.n).2.1, -1, decide (¬ (numK x.n).2.1 = 0)) := by simp [yg, h5]
          rw [hk] at q1 q2
          simp only [decide_eq_true_eq] at q1 q2
          have nn := yig x.n
          obtain ⟨hd, hd2⟩ := fld q2 nn.2.2
          have hc : (numK x.n).2.2 = 1 ∨ (numK x.n).2.2 = 2 := by
            revert q1
            unfold numK
            repeat' split
            all_goals simp
          have hd2 := hd2 (by omega)
          refine yvt (.inr (.inl h5)) (y27c _ (K.at_ _ _ ha).1) (yde hd (by omega) ?_)
          rcases hc with e | e
          · exact .inr (y2dr a b e q1)
          · exact .inl (by omega)
    · rw [if_neg h5]
      by_cases h4 : x.op = 4
      · rw [if_pos h4]
        cases ha : aget x.a kn with
        | none => exact same
        | some a =>
          have hk : yg x = (0, 0, -1, -1, true) := by simp [yg, h4]
          rw [hk] at q2
          obtain ⟨hd, _⟩ := fld q2 (Int.le_refl _)
          have ht : regK (lst f.regs) x.d = regK (lst f.regs) x.a := by
            simp [y2l, h4] at q7
            exact q7
          obtain ⟨k1, k2, k3⟩ := K.at_ _ _ ha
          exact yvt (.inl h4) k1 (yde hd (by rw [ht]; exact k2) (by rw [ht]; exact k3))
      · rw [if_neg h4]
        by_cases h28 : x.op = 28
        · rw [if_pos h28]
          cases ha : aget x.a kn with
          | none => exact same
          | some a =>
            cases hb : aget x.b kn with
            | none => exact same
            | some b =>
              have hdx : defr x = -1 := by simp [defr, h28, writes, calls]
              have hnx : ∀ i : Int, yda x i = addN [i + 1] x.t := fun i => by simp [yda, h28, leads, ends]
              have ha1 : ∀ (l : List Int) (j : Int), j ∈ addN l j := fun l j => by
                unfold addN; split
                · rename_i h; simpa using h
                · simp
              have ha2 : ∀ (l : List Int) (j k : Int), k ∈ l → k ∈ addN l j := fun l j k h => by
                unfold addN; split
                · exact h
                · simp [h]
              show Fold1 f x (if yip x.n a b = true then ywk x.t else nopI)
              cases hh : yip x.n a b with
              | true =>
                rw [if_pos rfl]
                have hr : y14 f (ywk x.t) = true := by
                  have ht := yik q7 (by simp [leads, h28])
                  simp [y14, ywk, yg, y1g, y5v, calls, y2l, leads, ht.1, ht.2]
                refine ⟨hr, by show y4v 0; decide, Nat.zero_le _, .inr rfl, fun h => rfl, ⟨(fun h => by cases h), (fun h => by rw [h28] at h; cases h)⟩, fun _ => ⟨by simp [leads, h28], rfl⟩, fun u hu => (by revert hu; simp [ywk, uses, calls, reads]), by rw [hdx]; rfl, by rw [h28]; rfl, fun i to h => ?_⟩
                have : yda (ywk x.t) i = [x.t] := rfl
                rw [this, List.mem_singleton] at h
                rw [hnx, h]
                exact ha1 _ _
              | false =>
                rw [if_neg Bool.false_ne_true]
                refine ⟨y1ac, by show y4v 0; decide, by decide, .inr rfl, (fun h => by rw [h28] at h; cases h), ⟨(fun h => by cases h), (fun h => by rw [h28] at h; cases h)⟩, fun h => (by cases h), fun u hu => (by rw [y227] at hu; cases hu), by rw [hdx]; rfl, by rw [h28]; rfl, fun i to h => ?_⟩
                have : yda nopI i = [i + 1] := rfl
                rw [this, List.mem_singleton] at h
                rw [hnx, h]
                exact ha2 _ _ _ (by simp)
        · rw [if_neg h28]
          exact same
theorem y2h7 {f : Fn} {y : Ins} {kn : Kn} (hy : y14 f y = true) (hn : y4v y.n) (K : KnOk f kn) : KnOk f (ydn y kn) := by
  unfold ydn
  split
  · have kd : KnOk f (adel (defr y) kn) := ⟨ysg _ _ K.new, fun r v h => by
      rw [yjg _ _ _ K.new] at h
      split at h
      · cases h
      · exact K.at_ r v h⟩
    split
    · rename_i h1
      refine ⟨ysc _ _ _ kd.new, fun r v h => ?_⟩
      rw [yel] at h
      split at h
      · rename_i e
        injection h with h
        subst h
        subst e
        have hd : defr y = y.d := by simp [defr, h1, writes]
        simp only [y14, Bool.and_eq_true] at hy
        have q7 := hy.2
        simp only [y2l, h1, if_true, Bool.and_eq_true, Bool.or_eq_true, decide_eq_true_eq] at q7
        rw [hd]
        refine ⟨hn, q7.1, q7.2.imp id fun h => ?_⟩
        rw [h]
        have := y4c y.n
        rw [ydp (yez this)]
        exact this
      · exact kd.at_ r v h
    · exact kd
  · exact K
theorem yu5 {f : Fn} (hd : Int → Bool) : ∀ (l : List Ins) (i : Nat) (kn : Kn), (∀ x ∈ l, y14 f x = true ∧ y4v x.n ∧ x.s.length ≤ 9223372036854775807) → KnOk f kn → ∀ (k : Nat) (x : Ins), l[k]? = some x → ∃ y, (yf1 hd i kn l)[k]? = some y ∧ Fold1 f x y
  | [], _, _, _, _, _, _, h => by simp at h
  | z :: l, i, kn, hl, K, k, x, h => by
    have K1 : KnOk f (if hd i then [] else kn) := by
      split
      · exact KnOk.nil f
      · exact K
    obtain ⟨z1, z2, z3⟩ := hl z (by simp)
    have F := y22n z1 z2 z3 K1
    rw [yf1]
    cases k with
    | zero =>
      simp only [List.getElem?_cons_zero, Option.some.injEq] at h
      subst h
      exact ⟨_, rfl, F⟩
    | succ k =>
      simp only [List.getElem?_cons_succ] at h ⊢
      exact yu5 hd l (i + 1) _ (fun x hx => hl x (by simp [hx])) (y2h7 F.right F.n K1) k x h
structure FoldOk (f g : Fn) : Prop where
  swap : Swap f g
  at_ : ∀ i, i < (lst f.code).length → Fold1 f (yt f i) (yt g i)
theorem y22k {f : Fn} (hw : wf f = true) (hf : ∀ x ∈ lst f.code, y4v x.n ∧ x.s.length ≤ 9223372036854775807) : FoldOk f (y8a f (y1as f)) := by
  have w := y1g4 hw
  refine ⟨⟨rfl, rfl, rfl, rfl, yoa _ _ _ _⟩, fun i hi => ?_⟩
  have hx := y61 hi
  obtain ⟨y, h1, h2⟩ := yu5 (f := f) (ytw f) (lst f.code) 0 [] (fun x hx => by
    obtain ⟨k, hk, e⟩ := List.getElem_of_mem hx
    have := w.ins k hk
    rw [yt, List.getD_eq_getElem?_getD, List.getElem?_eq_getElem hk, e] at this
    exact ⟨this, hf x hx⟩) (KnOk.nil f) i _ hx
  have e : yt (y8a f (y1as f)) i = y := by
    rw [yt, List.getD_eq_getElem?_getD]
    show ((y1as f)[i]?).getD default = y
    rw [y1as, h1]; rfl
  rw [e]; exact h2
section
variable {f g : Fn} (k : FoldOk f g)
include k
theorem FoldOk.wf (hw : Go.Vm.wf f = true) : Go.Vm.wf g = true :=
  y2fi k.swap hw fun i hi => by
    have F := k.at_ i hi
    exact ⟨F.right, F.ends, F.ctch, F.lead⟩
theorem FoldOk.next {i to : Int} (h : to ∈ y3j g i) : to ∈ y3j f i := by
  unfold y3j at h ⊢
  rw [k.swap.len] at h
  split at h
  · cases h
  · rename_i hi
    rw [if_neg hi]
    exact (k.at_ i.toNat (by omega)).next _ _ h
theorem FoldOk.caught (i : Int) : y19 g i = y19 f i := by
  unfold y19
  rw [k.swap.len, k.swap.rows]
  by_cases h : i < 0 ∨ ((lst f.code).length : Int) ≤ i
  · rw [if_pos h, if_pos h]
  · rw [if_neg h, if_neg h, (k.at_ i.toNat (by omega)).thr]
theorem FoldOk.way {r : Int} {i : Nat} (h : Way g r i) : Way f r i := by
  induction h with
  | use hi hu =>
    rw [k.swap.len] at hi
    exact .use hi ((k.at_ _ hi).uses _ hu)
  | @step i j hi hj j0 j1 _ ih =>
    rw [k.swap.len] at hi j1
    refine .step hi ?_ j0 j1 ih
    have F := k.at_ i hi
    unfold yhl at hj ⊢
    rw [k.caught, F.def_] at hj
    rw [List.mem_append] at hj ⊢
    refine hj.imp id fun h => ?_
    split at h
    · cases h
    · rename_i hd
      rw [if_neg hd]
      exact k.next h
theorem FoldOk.set (hw : Go.Vm.wf f = true) (hs : setM f = true) : setM g = true := by
  unfold setM at hs ⊢
  rw [k.wf hw]
  rw [hw] at hs
  simp only [Bool.true_and, decide_eq_true_eq] at hs ⊢
  intro r h0 h1 hp hb
  rw [k.swap.regs] at h1
  rw [k.swap.params] at hp
  have e : ((r.toNat : Nat) : Int) = r := by omega
  rw [← e] at hb
  obtain ⟨b1, b2⟩ := y1wh.1 hb
  rw [k.swap.len] at b1
  refine hs r h0 h1 hp ?_
  rw [← e]
  exact y1wh.2 ⟨b1, k.way b2⟩
end
end Go.Vm
namespace Go.Vm
open Cel
theorem ylc (k : IntKind) (a b : Int) : y2 .and (.int k a) (.int k b) = some (.int k (bI .and k a b)) := by simp [y2, y2z, y3g, bI, nOf]
theorem evOr (k : IntKind) (a b : Int) : y2 .or (.int k a) (.int k b) = some (.int k (bI .or k a b)) := by simp [y2, y2z, y3g, bI, nOf]
theorem y2l2 (k : IntKind) (a b : Int) : y2 .xor (.int k a) (.int k b) = some (.int k (bI .xor k a b)) := by simp [y2, y2z, y3g, bI, nOf]
theorem y2o1 (k : IntKind) (a b : Int) : y2 .add (.int k a) (.int k b) = some (.int k (bI .add k a b)) := by simp [y2, y2z, y3g, bI, nOf]
theorem y2pd (k : IntKind) (a b : Int) : y2 .sub (.int k a) (.int k b) = some (.int k (bI .sub k a b)) := by simp [y2, y2z, y3g, bI, nOf]
theorem y2p8 (k : IntKind) (a b : Int) : y2 .mul (.int k a) (.int k b) = some (.int k (bI .mul k a b)) := by simp [y2, y2z, y3g, bI, nOf]
theorem y2q8 (k k' : IntKind) (a b : Int) (h : 0 ≤ b) : y2 .shl (.int k a) (.int k' b) = some (.int k (shI .shl k a b)) := by
  have : ¬ b < 0 := by omega
  simp [y2, y2z, y70, shI, nOf, this]
theorem y22u (k k' : IntKind) (a b : Int) (h : 0 ≤ b) : y2 .shr (.int k a) (.int k' b) = some (.int k (shI .shr k a b)) := by
  have : ¬ b < 0 := by omega
  simp [y2, y2z, y70, shI, nOf, this]
theorem y2j7 (b : Int) : 0 ≤ bI .and .u32 b 31 := by
  simp [bI, y3g, nOf, IntKind.wrap, IntKind.signed, IntKind.bits]; omega
theorem y2i3 (b : Int) : 0 ≤ bI .and .u64 b 63 := by
  simp [bI, y3g, nOf, IntKind.wrap, IntKind.signed, IntKind.bits]; omega
theorem y2g6 (k : IntKind) (a : Int) : evUn .neg (.int k a) = some (.int k (k.wrap (-a))) := by simp [evUn]
theorem y2e7 (c a b : Int) : (y7 E).p 129 [.int .i64 c, .int .i64 a, .int .i64 b] = some ⟨.bool (yip c a b), [], true, [], []⟩ := by
  rw [y2ua]
  unfold yip
  by_cases h0 : c = 0
  · simp [ypb, yp8, yp1, h0]
  by_cases h1 : c = 1
  · simp [ypb, yp8, yp1, h1]
  by_cases h2 : c = 2
  · simp [ypb, yp8, yp1, h2]
  by_cases h3 : c = 3
  · simp [ypb, yp8, yp1, h3]
  by_cases h4 : c = 4
  · simp [ypb, yp8, yp1, h4]
  by_cases h5 : c = 5
  · simp [ypb, yp8, yp1, h5]
  simp [ypb, yp8, yp1, h0, h1, h2, h3, h4, h5]
theorem y2my (c a : Int) : (y7 E).p 127 [.int .i64 c, .int .i64 a] = some ⟨.int .i64 (yjy c a), [], true, [], []⟩ := by
  rw [y2tw]
  unfold yjy
  by_cases h0 : c = 116
  · simp [ylb, ykx, yl6, yla, yle, yli, ylj, ylp, ycj, h0, y2g6]
  by_cases h1 : c = 117
  · simp [ylb, ykx, yl6, yla, yle, yli, ylj, ylp, ycj, h1, y2g6]
  by_cases h2 : c = 133
  · simp [ylb, ykx, yl6, yla, yle, yli, ylj, ylp, ycj, h2]
  by_cases h3 : c = 136
  · simp [ylb, ykx, yl6, yla, yle, yli, ylj, ylp, ycj, h3]
  by_cases h4 : c = 145
  · simp [ylb, ykx, yl6, yla, yle, yli, ylj, ylp, ycj, h4]
  by_cases h5 : c = 146
  · simp [ylb, ykx, yl6, yla, yle, yli, ylj, ylp, ycj, h5]
  by_cases h6 : c = 147
  · simp [ylb, ykx, yl6, yla, yle, yli, ylj, ylp, ycj, h6]
  simp [ylb, ykx, yl6, yla, yle, yli, ylj, ylp, ycj, h0, h1, h2, h3, h4, h5, h6]
theorem y1j3 (r : Bool) (a b : Int) : (y7 E).p 132 [.bool r, .int .i64 a, .int .i64 b] = some ⟨.int .i64 (divM r a b), [], true, [], []⟩ := by
  rw [y2rm]
  unfold divM
  by_cases h0 : b = 0
  · simp [y1e1, y1hd, y1x3, y1n0, y1us, y1ti, y1wp, yqm, h0]
  by_cases h1 : b = -1
  · cases r <;> simp [y1e1, y1hd, y1x3, y1n0, y1us, y1ti, y1wp, yqm, h1, y2g6]
  have q1 : y2 .quo (.int .i64 a) (.int .i64 b) = some (.int .i64 (IntKind.wrap .i64 (a.tdiv b))) := by simp [y2, y2z, y3g, h0]
  have q2 : y2 .rem (.int .i64 a) (.int .i64 b) = some (.int .i64 (a.tmod b)) := by simp [y2, y2z, y3g, h0]
  cases r <;> simp [y1e1, y1hd, y1x3, y1n0, y1us, y1ti, y1wp, yqm, h0, h1, q1, q2]
theorem y26l (r : Bool) (a b : Int) (fb : Nat) (H : Heap) : y5 E (y7 E) fb none true 132 [.bool r, .int .i64 a, .int .i64 b] H = some (.int .i64 (divM r a b), H) :=
  y1a (fa := ⟨[.bool r, .int .i64 a, .int .i64 b], true, []⟩) rfl rfl rfl (y1j3 r a b) ⟨_, rfl, rfl⟩
set_option maxHeartbeats 1000000 in
theorem y2ty (c a b : Int) : (y7 E).p 130 [.int .i64 c, .int .i32 a, .int .i32 b] = some ⟨.int .i32 (intM c a b), [], true, [], []⟩ := by
  rw [y2sb]
  unfold intM
  have g1 := y2q8 .i32 .u32 a _ (y2j7 (IntKind.wrap .u32 b))
  have g2 := y22u .i32 .u32 a _ (y2j7 (IntKind.wrap .u32 b))
  have g3 := y22u .u32 .u32 (IntKind.wrap .u32 a) _ (y2j7 (IntKind.wrap .u32 b))
  by_cases h0 : c = 96
  · simp [yf9, yd2, yff, yec, ye1, yey, yf5, yf8, yej, y74, y6y, h0, y2o1, -y1f]
  by_cases h1 : c = 100
  · simp [yf9, yd2, yff, yec, ye1, yey, yf5, yf8, yej, y74, y6y, h1, y2pd, -yf0]
  by_cases h2 : c = 104
  · simp [yf9, yd2, yff, yec, ye1, yey, yf5, yf8, yej, y74, y6y, h2, y2p8, -yq7]
  by_cases h3 : c = 108
  · simp [yf9, yd2, yff, yec, ye1, yey, yf5, yf8, yej, y74, y6y, h3, y26l]
  by_cases h4 : c = 112
  · simp [yf9, yd2, yff, yec, ye1, yey, yf5, yf8, yej, y74, y6y, h4, y26l]
  by_cases h5 : c = 120
  · simp [yf9, yd2, yff, yec, ye1, yey, yf5, yf8, yej, y74, y6y, h5, ylc, g1]
  by_cases h6 : c = 122
  · simp [yf9, yd2, yff, yec, ye1, yey, yf5, yf8, yej, y74, y6y, h6, ylc, g2]
  by_cases h7 : c = 124
  · simp [yf9, yd2, yff, yec, ye1, yey, yf5, yf8, yej, y74, y6y, h7, ylc, g3]
  by_cases h8 : c = 126
  · simp [yf9, yd2, yff, yec, ye1, yey, yf5, yf8, yej, y74, y6y, h8, ylc]
  by_cases h9 : c = 128
  · simp [yf9, yd2, yff, yec, ye1, yey, yf5, yf8, yej, y74, y6y, h9, evOr]
  by_cases h10 : c = 130
  · simp [yf9, yd2, yff, yec, ye1, yey, yf5, yf8, yej, y74, y6y, h10, y2l2]
  simp [yf9, yd2, yff, yec, ye1, yey, yf5, yf8, yej, y74, y6y, h0, h1, h2, h3, h4, h5, h6, h7, h8, h9, h10]
set_option maxHeartbeats 1000000 in
theorem y2of (c a b : Int) : (y7 E).p 131 [.int .i64 c, .int .i64 a, .int .i64 b] = some ⟨.int .i64 (y1ck c a b), [], true, [], []⟩ := by
  rw [y2rz]
  unfold y1ck
  have g1 := y2q8 .i64 .u64 a _ (y2i3 (IntKind.wrap .u64 b))
  have g2 := y22u .i64 .u64 a _ (y2i3 (IntKind.wrap .u64 b))
  have g3 := y22u .u64 .u64 (IntKind.wrap .u64 a) _ (y2i3 (IntKind.wrap .u64 b))
  by_cases h0 : c = 97
  · simp [yds, yd1, yew, yea, yet, ydu, yex, yfb, ydt, y79, y7d, h0, y2o1, -y1f]
  by_cases h1 : c = 101
  · simp [yds, yd1, yew, yea, yet, ydu, yex, yfb, ydt, y79, y7d, h1, y2pd, -yf0]
  by_cases h2 : c = 105
  · simp [yds, yd1, yew, yea, yet, ydu, yex, yfb, ydt, y79, y7d, h2, y2p8, -yq7]
  by_cases h3 : c = 109
  · simp [yds, yd1, yew, yea, yet, ydu, yex, yfb, ydt, y79, y7d, h3, y26l]
  by_cases h4 : c = 113
  · simp [yds, yd1, yew, yea, yet, ydu, yex, yfb, ydt, y79, y7d, h4, y26l]
  by_cases h5 : c = 121
  · simp [yds, yd1, yew, yea, yet, ydu, yex, yfb, ydt, y79, y7d, h5, ylc, g1]
  by_cases h6 : c = 123
  · simp [yds, yd1, yew, yea, yet, ydu, yex, yfb, ydt, y79, y7d, h6, ylc, g2]
  by_cases h7 : c = 125
  · simp [yds, yd1, yew, yea, yet, ydu, yex, yfb, ydt, y79, y7d, h7, ylc, g3]
  by_cases h8 : c = 127
  · simp [yds, yd1, yew, yea, yet, ydu, yex, yfb, ydt, y79, y7d, h8, ylc]
  by_cases h9 : c = 129
  · simp [yds, yd1, yew, yea, yet, ydu, yex, yfb, ydt, y79, y7d, h9, evOr]
  by_cases h10 : c = 131
  · simp [yds, yd1, yew, yea, yet, ydu, yex, yfb, ydt, y79, y7d, h10, y2l2]
  simp [yds, yd1, yew, yea, yet, ydu, yex, yfb, ydt, y79, y7d, h0, h1, h2, h3, h4, h5, h6, h7, h8, h9, h10]
theorem y2l8 (c a b : Int) : (y7 E).p 128 [.int .i64 c, .int .i64 a, .int .i64 b] = some ⟨.int .i64 (twoM c a b), [], true, [], []⟩ := by
  rw [y2ub]
  unfold twoM
  have cI : ∀ H, y5 E (y7 E) 0 none true 130 [.int .i64 c, .int .i32 (IntKind.wrap .i32 a), .int .i32 (IntKind.wrap .i32 b)] H = some (.int .i32 (intM c (IntKind.wrap .i32 a) (IntKind.wrap .i32 b)), H) := fun H =>
    y1a (fa := ⟨[.int .i64 c, .int .i32 (IntKind.wrap .i32 a), .int .i32 (IntKind.wrap .i32 b)], true, []⟩) rfl rfl rfl (y2ty c _ _) ⟨_, rfl, rfl⟩
  have cL : ∀ H, y5 E (y7 E) 0 none true 131 [.int .i64 c, .int .i64 a, .int .i64 b] H = some (.int .i64 (y1ck c a b), H) := fun H =>
    y1a (fa := ⟨[.int .i64 c, .int .i64 a, .int .i64 b], true, []⟩) rfl rfl rfl (y2of c a b) ⟨_, rfl, rfl⟩
  by_cases h0 : c = 148
  · by_cases h1 : a < b
    · simp [yx0, yvx, ywq, yvi, yx1, yvf, h0, h1]
    · by_cases h2 : b < a
      · simp [yx0, yvx, ywq, yvi, yx1, yvf, h0, h1, h2]
      · simp [yx0, yvx, ywq, yvi, yx1, yvf, h0, h1, h2]
  · by_cases h1 : bI .and .i64 c 1 = 0
    · simp only [yx0, yvx, ywq, yvi, yx1, yvf, y12, h0, decide_false, yb, y24, ylc, h1, decide_true, y1p, y1uj, cI, yy, yno, if_false, if_true]
    · simp only [yx0, yvx, ywq, yvi, yx1, yvf, y12, h0, decide_false, yb, y24, ylc, h1, cL, yy, yno, if_false]
end Go.Vm
namespace Go.Vm
open Cel
section
variable {α : Type}
variable (vf : α → AV)
def mEnt (l : List (Int × α)) : List (AV × AV) := l.map fun p => (.int .i64 p.1, vf p.2)
theorem yja (k : Int) : ∀ l : List (Int × α), mfind false [0] (.int .i64 k) (mEnt vf l) = some ((aget k l).map vf)
  | [] => rfl
  | (k', v') :: r => by
    have ih := yja k r
    simp only [mEnt, List.map_cons, mfind, ypp, Bool.false_eq_true, if_false, y4u, if_true, aget] at ih ⊢
    by_cases e : k = k'
    · simp [e]
    · have : (k == k') = false := by simpa using e
      rw [this]
      simp only [if_neg e]
      exact ih
theorem yzg (k : Int) (v : α) : ∀ l : List (Int × α), mset false [0] (.int .i64 k) (vf v) (mEnt vf l) = some (mEnt vf (aset k v l))
  | [] => rfl
  | (k', v') :: r => by
    have ih := yzg k v r
    simp only [mEnt, List.map_cons, mset, ypp, Bool.false_eq_true, if_false, y4u, if_true, aset] at ih ⊢
    by_cases e : k = k'
    · simp [e]
    · have : (k == k') = false := by simpa using e
      rw [this]
      simp only [if_neg e, ih, Option.map_some, List.map_cons]
theorem yrd (k : Int) : ∀ l : List (Int × α), mdrop false [0] (.int .i64 k) (mEnt vf l) = some (mEnt vf (adel k l))
  | [] => rfl
  | (k', v') :: r => by
    have ih := yrd k r
    simp only [mEnt, List.map_cons, mdrop, ypp, Bool.false_eq_true, if_false, y4u, if_true, adel] at ih ⊢
    by_cases e : k = k'
    · simp [e]
    · have : (k == k') = false := by simpa using e
      rw [this]
      simp only [if_neg e, ih, Option.map_some, List.map_cons]
abbrev AM (g : Nat) (l : List (Int × α)) : AO := ⟨g, .map false (mEnt vf l)⟩
variable {vf}
theorem yf7 {H : Heap} {id g : Nat} {l : List (Int × α)} (h : H[id]? = some (AM vf g l)) : ycu H id g = some (false, mEnt vf l) := by
  simp [ycu, y3m, h]
theorem y2gj {H : Heap} {id g : Nat} {l : List (Int × α)} (h : H[id]? = some (AM vf g l)) (z : AV) (k : Int) : y5d false [0] z false (.lm id g) (.int .i64 k) H = some (((aget k l).map vf).getD z) := by
  simp only [y5d, yf7 h, Option.map_some, yja]
  cases aget k l <;> rfl
theorem y284 {H : Heap} {id g : Nat} {l : List (Int × α)} (h : H[id]? = some (AM vf g l)) (z : AV) (k : Int) : y5d false [0] z true (.lm id g) (.int .i64 k) H = some (match aget k l with | some v => .tup [vf v, .bool true] | none => .tup [z, .bool false]) := by
  simp only [y5d, yf7 h, Option.map_some, yja]
  cases aget k l <;> rfl
theorem y1ir {H : Heap} {id g : Nat} {l : List (Int × α)} (h : H[id]? = some (AM vf g l)) (k : Int) (v : α) : ya5 false [0] (.lm id g) (.int .i64 k) (vf v) H = some (.tup [], H.set id (AM vf g (aset k v l))) := by
  simp only [ya5, yf7 h, yzg, y6x, h]
theorem y2ck {H : Heap} {id g : Nat} {l : List (Int × α)} (h : H[id]? = some (AM vf g l)) (k : Int) : yaz false [0] (.lm id g) (.int .i64 k) H = some (.tup [], H.set id (AM vf g (adel k l))) := by
  simp only [yaz, yf7 h, yrd, y6x, h]
theorem y2aq {H : Heap} {id g : Nat} {l : List (Int × α)} (h : H[id]? = some (AM vf g l)) : ycb (.lm id g) H = some (.tup [], H.set id (AM vf g [])) := by
  simp only [ycb, yf7 h, y6x, h]; rfl
variable (vf) in
theorem y2ao {H : Heap} {fb j : Nat} {o : AO} (h : H[fb + j]? = some o) : mkmC fb (some j) H = some (.lm (fb + j) (o.gen + 1), H.set (fb + j) (AM vf (o.gen + 1) [])) := by
  have e : AM vf (o.gen + 1) [] = ⟨o.gen + 1, .map false []⟩ := rfl
  rw [e]
  simp [mkmC, place, h]
end
abbrev vI (n : Int) : AV := .int .i64 n
abbrev vB (b : Bool) : AV := .bool b
end Go.Vm
namespace Go.Vm
def putP (n : Nat) (p : Int) (a : List Bool) : List Bool := if 0 ≤ p ∧ p < n then a.set p.toNat true else a
def y1a1 (n i : Nat) (x : Ins) (a : List Bool) : List Bool :=
  if leads x.op || ends x.op then (if leads x.op then putP n x.t a else a).set (i + 1) true else (if leads x.op then putP n x.t a else a)
def hA1 (n : Nat) : Nat → List Ins → List Bool → List Bool
  | _, [], a => a
  | i, x :: r, a => hA1 n (i + 1) r (y1a1 n i x a)
def hA2 (n : Nat) : List Row → List Bool → List Bool
  | [], a => a
  | r :: rs, a => hA2 n rs (putP n r.at_ (putP n r.t (putP n r.f a)))
def hA0 (n : Nat) : List Bool := if 0 < n then (List.replicate (n + 1) false).set 0 true else List.replicate (n + 1) false
@[simp] theorem y2r6 (n : Nat) (p : Int) (a : List Bool) : (putP n p a).length = a.length := by unfold putP; split <;> simp
@[simp] theorem y2po (n i : Nat) (x : Ins) (a : List Bool) : (y1a1 n i x a).length = a.length := by
  unfold y1a1
  split <;> split <;> simp
theorem ypt (n : Nat) : ∀ (l : List Ins) (i : Nat) (a : List Bool), (hA1 n i l a).length = a.length
  | [], _, _ => rfl
  | x :: l, i, a => by rw [hA1, ypt]; simp
theorem y1o6 (n : Nat) : ∀ (l : List Row) (a : List Bool), (hA2 n l a).length = a.length
  | [], _ => rfl
  | x :: l, a => by rw [hA2, y1o6]; simp
@[simp] theorem ypw (n : Nat) : (hA0 n).length = n + 1 := by unfold hA0; split <;> simp
theorem ywb {a : List Bool} {i j : Nat} (h : j < a.length) : (a.set i true)[j]? = some true ↔ a[j]? = some true ∨ i = j := by
  rw [List.getElem?_set]
  by_cases e : i = j
  · subst e; simp [h]
  · rw [if_neg e]; exact ⟨.inl, fun h => h.resolve_right e⟩
theorem yhm {n : Nat} {p : Int} {a : List Bool} {j : Nat} (h : j < a.length) : (putP n p a)[j]? = some true ↔ a[j]? = some true ∨ (0 ≤ p ∧ p < n ∧ p.toNat = j) := by
  unfold putP
  split
  · rename_i hc
    rw [ywb h]
    exact ⟨fun h => h.imp id fun e => ⟨hc.1, hc.2, e⟩, fun h => h.imp id fun e => e.2.2⟩
  · rename_i hc
    exact ⟨.inl, fun h => h.resolve_right fun e => hc ⟨e.1, e.2.1⟩⟩
def hitI (n i j : Nat) (x : Ins) : Prop := (leads x.op = true ∧ 0 ≤ x.t ∧ x.t < n ∧ x.t.toNat = j) ∨ ((leads x.op || ends x.op) = true ∧ i + 1 = j)
theorem y1hi {n i : Nat} {x : Ins} {a : List Bool} {j : Nat} (h : j < a.length) : (y1a1 n i x a)[j]? = some true ↔ a[j]? = some true ∨ hitI n i j x := by
  have h1 : (if leads x.op = true then putP n x.t a else a)[j]? = some true ↔ a[j]? = some true ∨ (leads x.op = true ∧ 0 ≤ x.t ∧ x.t < n ∧ x.t.toNat = j) := by
    split
    · rename_i hl
      rw [yhm h]; simp [hl]
    · rename_i hl
      simp [hl]
  unfold y1a1 hitI
  split
  · rename_i hc
    rw [ywb (by split <;> simp [h]), h1]
    simp only [hc, true_and, or_assoc]
  · rename_i hc
    rw [h1]
    simp only [hc, Bool.false_eq_true, false_and, or_false]
theorem y1sp {n j : Nat} : ∀ (l : List Ins) (i : Nat) (a : List Bool), j < a.length → ((hA1 n i l a)[j]? = some true ↔ a[j]? = some true ∨ ∃ k x, l[k]? = some x ∧ hitI n (i + k) j x)
  | [], i, a, h => by simp [hA1]
  | y :: l, i, a, h => by
    rw [hA1, y1sp l (i + 1) _ (by simpa using h), y1hi h, or_assoc]
    apply or_congr_right
    constructor
    · rintro (h | ⟨k, x, h1, h2⟩)
      · exact ⟨0, y, rfl, h⟩
      · exact ⟨k + 1, x, h1, by rw [show i + (k + 1) = i + 1 + k by omega]; exact h2⟩
    · rintro ⟨k, x, h1, h2⟩
      cases k with
      | zero => simp at h1; subst h1; exact .inl h2
      | succ k => exact .inr ⟨k, x, h1, by rw [show i + 1 + k = i + (k + 1) by omega]; exact h2⟩
def hitR (n j : Nat) (r : Row) : Prop := (0 ≤ r.f ∧ r.f < n ∧ r.f.toNat = j) ∨ (0 ≤ r.t ∧ r.t < n ∧ r.t.toNat = j) ∨ (0 ≤ r.at_ ∧ r.at_ < n ∧ r.at_.toNat = j)
theorem y1m0 {n j : Nat} : ∀ (l : List Row) (a : List Bool), j < a.length → ((hA2 n l a)[j]? = some true ↔ a[j]? = some true ∨ ∃ r ∈ l, hitR n j r)
  | [], a, h => by simp [hA2]
  | r :: l, a, h => by
    rw [hA2, y1m0 l _ (by simpa using h), yhm (by simpa using h), yhm (by simpa using h), yhm h]
    simp only [List.mem_cons, exists_eq_or_imp, hitR, or_assoc]
theorem y2gx {n j : Nat} (h : j < n) : (hA0 n)[j]? = some true ↔ j = 0 := by
  unfold hA0
  rw [if_pos (by omega), ywb (by simp; omega)]
  constructor
  · rintro (h | h)
    · rw [List.getElem?_replicate] at h; split at h <;> cases h
    · exact h.symm
  · exact fun e => .inr e.symm
def hA (f : Fn) : List Bool := hA2 (lst f.code).length (lst f.rows) (hA1 (lst f.code).length 0 (lst f.code) (hA0 (lst f.code).length))
theorem y2kd (f : Fn) : (hA f).length = (lst f.code).length + 1 := by rw [hA, y1o6, ypt, ypw]
theorem y1ai (f : Fn) (i : Nat) : yh3 f i = true ↔ i = 0 ∨ (leads (yt f (i - 1)).op || ends (yt f (i - 1)).op) = true ∨ (∃ x ∈ lst f.code, leads x.op = true ∧ x.t = i) ∨ ∃ r ∈ lst f.rows, r.f = i ∨ r.t = i ∨ r.at_ = i := by
  simp only [yh3, Bool.or_eq_true, decide_eq_true_eq, List.any_eq_true, Bool.and_eq_true, or_assoc]
theorem y2mm (f : Fn) {j : Nat} (h : j < (lst f.code).length) : (hA f)[j]? = some (yh3 f j) := by
  have hj : j < (hA f).length := by rw [y2kd]; omega
  have key : (hA f)[j]? = some true ↔ yh3 f j = true := by
    rw [hA, y1m0 _ _ (by rw [ypt, ypw]; omega), y1sp _ _ _ (by rw [ypw]; omega), y2gx h, y1ai, or_assoc]
    by_cases j0 : j = 0
    · exact ⟨fun _ => .inl j0, fun _ => .inl j0⟩
    apply or_congr_right
    constructor
    · rintro (⟨k, x, h1, h2 | h2⟩ | ⟨r, h1, h2⟩)
      · exact .inr (.inl ⟨x, List.mem_of_getElem? h1, h2.1, by omega⟩)
      · left
        have : yt f (j - 1) = x := by
          rw [yt, List.getD_eq_getElem?_getD, show j - 1 = k by omega, h1]; rfl
        rw [this]; exact h2.1
      · refine .inr (.inr ⟨r, h1, ?_⟩)
        rcases h2 with h2 | h2 | h2
        · exact .inl (by omega)
        · exact .inr (.inl (by omega))
        · exact .inr (.inr (by omega))
    · rintro (h1 | ⟨x, h1, h2, h3⟩ | ⟨r, h1, h2⟩)
      · refine .inl ⟨j - 1, yt f (j - 1), y61 (by omega), .inr ⟨h1, by omega⟩⟩
      · obtain ⟨k, hk⟩ := List.getElem?_of_mem h1
        exact .inl ⟨k, x, hk, .inl ⟨h2, by omega, by omega, by omega⟩⟩
      · refine .inr ⟨r, h1, ?_⟩
        rcases h2 with h2 | h2 | h2
        · exact .inl ⟨by omega, by omega, by omega⟩
        · exact .inr (.inl ⟨by omega, by omega, by omega⟩)
        · exact .inr (.inr ⟨by omega, by omega, by omega⟩)
  rw [List.getElem?_eq_getElem hj] at key ⊢
  simp only [Option.some.injEq] at key ⊢
  cases hb : (hA f)[j] <;> cases hc : yh3 f j <;> simp_all
end Go.Vm
namespace Go.Vm
open Cel
attribute [local simp] y5 y26 yj
@[simp] theorem y2va (x : Ins) : (y7 E).p 24 [.agg (enc x)] = some ⟨.bool (ends x.op), [], true, [], []⟩ := by
  rw [y2uw, y2e6]
  by_cases h1 : x.op = 27
  · simp [h1, ends]
  by_cases h2 : x.op = 30
  · simp [h2, ends]
  by_cases h3 : x.op = 31 <;> simp [h1, h2, h3, ends]
@[simp] theorem y2u6 (x : Ins) : (y7 E).p 22 [.agg (enc x)] = some ⟨.bool (leads x.op), [], true, [], []⟩ := by
  rw [y2s4, y2h0]
  by_cases h1 : x.op = 27
  · simp [h1, leads]
  by_cases h2 : x.op = 28
  · simp [h2, leads]
  by_cases h3 : x.op = 29 <;> simp [h1, h2, h3, leads]
@[simp] theorem yvy (x : Ins) : (y7 E).p 17 [.agg (enc x)] = some ⟨.bool (calls x.op), [], true, [], []⟩ := by
  rw [y2rq, y2i7]
  by_cases h1 : 23 ≤ x.op
  · by_cases h2 : x.op ≤ 26 <;> simp [h1, h2, calls]
  · simp [h1, calls]
end Go.Vm
namespace Go.Vm
open Cel
attribute [local simp] y5 y26 yj
abbrev HH (f : Fn) (a : List Bool) (o2 o3 o4 o5 o6 : AO) : Heap := [⟨1, .arr true false 5 [enc f]⟩, ⟨1, .arr false false 1 (a.map enc)⟩, o2, o3, o4, o5, o6]
theorem ixAt {n : Nat} {p : Int} (h0 : 0 ≤ p) (h1 : p < (n : Int)) (id g : Nat) (k : IntKind) : yp 1 (.ls id g 1 0 n) (.int k p) = some (.lp id g p.toNat 0) := by simp [yp, h0, h1]
theorem stHH (f : Fn) (a : List Bool) (o2 o3 o4 o5 o6 : AO) {j : Nat} (h : j < a.length) : evSt 1 (.lp 1 1 j 0) (.bool true) (HH f a o2 o3 o4 o5 o6) = some (.tup [], HH f (a.set j true) o2 o3 o4 o5 o6) :=
  yib (α := Bool) (v := .bool true) (y := true) rfl h rfl
theorem y1cw (f : Fn) (o3 o4 o5 o6 : AO) (hl : (lst f.code).length ≤ 9223372036854775806) : ∀ (d i : Nat) (a : List Bool) (o2 : AO), i + d = (lst f.code).length → a.length = (lst f.code).length + 1 →
    ∃ o2', yiu (.lp 0 1 0 0) (.ls 1 1 1 0 ((lst f.code).length + 1)) (slA f.code) (.int .i64 (lst f.code).length) (.int .i64 i) (HH f a o2 o3 o4 o5 o6) =
      yqb (.lp 0 1 0 0) (.ls 1 1 1 0 ((lst f.code).length + 1)) (HH f (hA1 (lst f.code).length i ((lst f.code).drop i) a) o2' o3 o4 o5 o6) := by
  intro d
  induction d with
  | zero =>
    intro i a o2 hi _
    have e1 : (lst f.code).drop i = [] := List.drop_eq_nil_of_le (by omega)
    have hn : ¬ ((i : Int) < ((lst f.code).length : Int)) := by omega
    rw [ymd, e1]
    exact ⟨o2, by simp [ytl, y18q, hn, hA1]⟩
  | succ d ih =>
    intro i a o2 hi ha
    have hlt : i < (lst f.code).length := by omega
    have hc : ((i : Int) < ((lst f.code).length : Int)) := by omega
    have k1 := y7i (o := f.code) (i := i) (List.getElem?_eq_getElem hlt) .i64
    have hw := y17 hlt (by omega)
    rw [ymd, List.drop_eq_getElem_cons hlt, hA1]
    generalize (lst f.code)[i] = x at *
    generalize hN : (lst f.code).length = n at *
    have e36 : ytl (.lp 0 1 0 0) (.ls 1 1 1 0 (n + 1)) (slA f.code) (.int .i64 n) (.int .i64 i) (HH f a o2 o3 o4 o5 o6) =
        ygt (.lp 0 1 0 0) (.ls 1 1 1 0 (n + 1)) (.int .i64 i) (.lp 2 (o2.gen + 1) 0 0) (slA f.code) (.int .i64 n) (.int .i64 i) (HH f a ⟨o2.gen + 1, .arr true false 9 [enc x]⟩ o3 o4 o5 o6) := by
      simp [ytl, y18q, y1sx, hc, k1]
    generalize hg : (o2.gen + 1) = g at *
    have e31 : ygt (.lp 0 1 0 0) (.ls 1 1 1 0 (n + 1)) (.int .i64 i) (.lp 2 g 0 0) (slA f.code) (.int .i64 n) (.int .i64 i) (HH f a ⟨g, .arr true false 9 [enc x]⟩ o3 o4 o5 o6) =
        ymr (.lp 0 1 0 0) (.ls 1 1 1 0 (n + 1)) (.int .i64 i) (.lp 2 g 0 0) (slA f.code) (.int .i64 n) (.int .i64 i) (HH f (if leads x.op = true then putP n x.t a else a) ⟨g, .arr true false 9 [enc x]⟩ o3 o4 o5 o6) := by
      cases hd : leads x.op with
      | false => simp [ygt, hd]
      | true =>
        rw [if_pos rfl, putP]
        by_cases h0 : 0 ≤ x.t
        rotate_left
        · rw [if_neg (fun h => h0 h.1)]
          simp [ygt, hd, h0]
        by_cases h1 : x.t < (n : Int)
        rotate_left
        · rw [if_neg (fun h => h1 h.2)]
          simp [ygt, hd, h0, h1, hN]
        rw [if_pos ⟨h0, h1⟩]
        have st := stHH f a ⟨g, .arr true false 9 [enc x]⟩ o3 o4 o5 o6 (j := x.t.toNat) (by omega)
        have ix := ixAt (n := n + 1) h0 (by omega) 1 1 .i64
        simp [ygt, hd, h0, h1, hN, ix, -y5o, st]
    have e30 : ∀ a : List Bool, a.length = n + 1 → ymr (.lp 0 1 0 0) (.ls 1 1 1 0 (n + 1)) (.int .i64 i) (.lp 2 g 0 0) (slA f.code) (.int .i64 n) (.int .i64 i) (HH f a ⟨g, .arr true false 9 [enc x]⟩ o3 o4 o5 o6) =
        yta (.lp 0 1 0 0) (.ls 1 1 1 0 (n + 1)) (slA f.code) (.int .i64 n) (.int .i64 i) (HH f (if (leads x.op || ends x.op) = true then a.set (i + 1) true else a) ⟨g, .arr true false 9 [enc x]⟩ o3 o4 o5 o6) := by
      intro a ha
      have st := stHH f a ⟨g, .arr true false 9 [enc x]⟩ o3 o4 o5 o6 (j := i + 1) (by omega)
      have ix := ixAt (n := n + 1) (p := (i : Int) + 1) (by omega) (by omega) 1 1 .i64
      rw [show ((i : Int) + 1).toNat = i + 1 by omega] at ix
      cases hd : leads x.op <;> cases he : ends x.op <;> simp [ymr, hd, he, hw, ix, -y5o, st]
    obtain ⟨o2', ih⟩ := ih (i + 1) (y1a1 n i x a) ⟨g, .arr true false 9 [enc x]⟩ (by omega) (by simpa using ha)
    push_cast at ih
    refine ⟨o2', ?_⟩
    rw [e36, e31, e30 _ (by split <;> simp [ha]), yta, y1f, yb, hw, ← ih]
    rfl
theorem y1t0 (f : Fn) (v62 v63 v64 : AV) (o2 o3 o5 o6 : AO) (g : Nat) (P : List Int) (hP : P.length = 3) : ∀ (d k : Nat) (a : List Bool), k + d = 3 → a.length = (lst f.code).length + 1 →
    yfh (.lp 0 1 0 0) (.ls 1 1 1 0 ((lst f.code).length + 1)) v62 v63 v64 (.ls 4 g 1 0 3) (.int .i64 3) (.int .i64 k) (HH f a o2 o3 ⟨g, .arr false false 1 (P.map enc)⟩ o5 o6) =
      y13p (.lp 0 1 0 0) (.ls 1 1 1 0 ((lst f.code).length + 1)) v62 v63 v64 (HH f ((P.drop k).foldl (fun a p => putP (lst f.code).length p a) a) o2 o3 ⟨g, .arr false false 1 (P.map enc)⟩ o5 o6) := by
  intro d
  induction d with
  | zero =>
    intro k a hk _
    have e1 : P.drop k = [] := List.drop_eq_nil_of_le (by omega)
    have hn : ¬ ((k : Int) < 3) := by omega
    rw [ync, e1]
    simp [yob, ynd, hn]
  | succ d ih =>
    intro k a hk ha
    have hlt : k < P.length := by omega
    have hc : ((k : Int) < 3) := by omega
    have hw := y17 (n := 3) (i := k) (by omega) (by omega)
    have l1 : ∀ a, evLd false 1 (.lp 4 g k 0) (HH f a o2 o3 ⟨g, .arr false false 1 (P.map enc)⟩ o5 o6) = some (.int .i64 P[k]) := by
      intro a
      simp [evLd, ym, y3m, hlt]
    have ix : yp 1 (.ls 4 g 1 0 3) (.int .i64 (k : Int)) = some (.lp 4 g k 0) := by
      have := ixAt (n := 3) (p := (k : Int)) (by omega) (by omega) 4 g .i64
      simpa using this
    rw [ync, List.drop_eq_getElem_cons hlt, List.foldl_cons]
    generalize P[k] = p at *
    have ih0 := fun a ha => ih (k + 1) a (by omega) ha
    push_cast at ih0
    rw [← ih0 _ (by simpa using ha), putP]
    by_cases h0 : 0 ≤ p
    rotate_left
    · rw [if_neg (fun h => h0 h.1)]
      simp [yob, ynd, yst, yof, hc, ix, -y31, l1, h0, hw]
    by_cases h1 : p < ((lst f.code).length : Int)
    rotate_left
    · rw [if_neg (fun h => h1 h.2)]
      have lb : ∀ a : List Bool, evLd false 1 (.lp 0 1 0 3) (HH f a o2 o3 ⟨g, .arr false false 1 (P.map enc)⟩ o5 o6) = some (slA f.code) := fun a => by simp
      simp [yob, ynd, yst, yof, hc, ix, -y31, l1, h0, h1, hw, lb]
    rw [if_pos ⟨h0, h1⟩]
    have lb : ∀ a : List Bool, evLd false 1 (.lp 0 1 0 3) (HH f a o2 o3 ⟨g, .arr false false 1 (P.map enc)⟩ o5 o6) = some (slA f.code) := fun a => by simp
    have st := stHH f a o2 o3 ⟨g, .arr false false 1 (P.map enc)⟩ o5 o6 (j := p.toNat) (by omega)
    have ix2 := ixAt (n := (lst f.code).length + 1) h0 (by omega) 1 1 .i64
    simp [yob, ynd, yst, yof, hc, ix, -y31, l1, h0, h1, hw, lb, ix2, -y5o, st]
theorem y1ci (f : Fn) (o2 o5 o6 : AO) (hl : (lst f.rows).length ≤ 9223372036854775806) : ∀ (d k : Nat) (a : List Bool) (o3 o4 : AO), k + d = (lst f.rows).length → a.length = (lst f.code).length + 1 →
    ∃ o3' o4', yjk (.lp 0 1 0 0) (.ls 1 1 1 0 ((lst f.code).length + 1)) (slA f.rows) (.int .i64 (lst f.rows).length) (.int .i64 k) (HH f a o2 o3 o4 o5 o6) =
      yn4 (.lp 0 1 0 0) (.ls 1 1 1 0 ((lst f.code).length + 1)) (HH f (hA2 (lst f.code).length ((lst f.rows).drop k) a) o2 o3' o4' o5 o6) := by
  intro d
  induction d with
  | zero =>
    intro k a o3 o4 hk _
    have e1 : (lst f.rows).drop k = [] := List.drop_eq_nil_of_le (by omega)
    have hn : ¬ ((k : Int) < ((lst f.rows).length : Int)) := by omega
    rw [ynf, e1]
    exact ⟨o3, o4, by simp [ysh, y15x, hn, hA2]⟩
  | succ d ih =>
    intro k a o3 o4 hk ha
    have hlt : k < (lst f.rows).length := by omega
    have hc : ((k : Int) < ((lst f.rows).length : Int)) := by omega
    have k1 := yfo (o := f.rows) (i := k) (List.getElem?_eq_getElem hlt) .i64
    have hw := y17 hlt (by omega)
    rw [ynf, List.drop_eq_getElem_cons hlt, hA2]
    generalize (lst f.rows)[k] = r at *
    have lit := y1t0 f (slA f.rows) (.int .i64 (lst f.rows).length) (.int .i64 k) o2 ⟨o3.gen + 1, .arr true false 4 [enc r]⟩ o5 o6 (o4.gen + 1) [r.f, r.t, r.at_] rfl 3 0 a (by omega) ha
    simp only [List.drop_zero, List.foldl_cons, List.foldl_nil, Int.ofNat_zero] at lit
    have e24 : ysh (.lp 0 1 0 0) (.ls 1 1 1 0 ((lst f.code).length + 1)) (slA f.rows) (.int .i64 (lst f.rows).length) (.int .i64 k) (HH f a o2 o3 o4 o5 o6) =
        yfh (.lp 0 1 0 0) (.ls 1 1 1 0 ((lst f.code).length + 1)) (slA f.rows) (.int .i64 (lst f.rows).length) (.int .i64 k) (.ls 4 (o4.gen + 1) 1 0 3) (.int .i64 3) (.int .i64 0)
          (HH f a o2 ⟨o3.gen + 1, .arr true false 4 [enc r]⟩ ⟨o4.gen + 1, .arr false false 1 ([r.f, r.t, r.at_].map enc)⟩ o5 o6) := by
      simp [ysh, y15x, y1eh, y1mk, hc, k1, yx, y18]
    obtain ⟨o3', o4', ih⟩ := ih (k + 1) (putP (lst f.code).length r.at_ (putP (lst f.code).length r.t (putP (lst f.code).length r.f a))) ⟨o3.gen + 1, .arr true false 4 [enc r]⟩ ⟨o4.gen + 1, .arr false false 1 ([r.f, r.t, r.at_].map enc)⟩ (by omega) (by simpa using ha)
    push_cast at ih
    refine ⟨o3', o4', ?_⟩
    rw [e24, lit, y13p, y1f, yb, hw, ih]
theorem y1aw (f : Fn) (o2 o3 o4 : AO) (hl : (lst f.code).length ≤ 274877906944) : ∀ (d k g : Nat) (o5 : AO), k + d = (lst f.code).length →
    yri (.ls 1 1 1 0 ((lst f.code).length + 1)) (y3s Int 6 g (y5x f k)) (.int .i64 (lst f.code).length) (.int .i64 k) (HH f (hA f) o2 o3 o4 o5 (y48 g D0 (y5x f k))) = some (exO (nz (y7x f))) := by
  intro d
  induction d with
  | zero =>
    intro k g o5 hk
    have hk' : k = (lst f.code).length := by omega
    have hn : ¬ ((k : Int) < ((lst f.code).length : Int)) := by omega
    have hx := ycz (H := HH f (hA f) o2 o3 o4 o5 (y48 g D0 (y5x f k))) (j := 6) (g := g) (o := D0) (L := y5x f k) rfl
    rw [yv2, y7x, ← hk', ← hx]
    simp [y1s1, y1x1, y2i2, hk']
  | succ d ih =>
    intro k g o5 hk
    have hlt : k < (lst f.code).length := by omega
    have hc : ((k : Int) < ((lst f.code).length : Int)) := by omega
    have hw := y17 hlt (by omega)
    have ix := ixAt (n := (lst f.code).length + 1) (p := (k : Int)) (by omega) (by omega) 1 1 .i64
    rw [show ((k : Int)).toNat = k by omega] at ix
    have hg := y2mm f hlt
    have l1 : ∀ o5 o6, evLd false 1 (.lp 1 1 k 0) (HH f (hA f) o2 o3 o4 o5 o6) = some (.bool (yh3 f k)) := by
      intro o5 o6
      simp [evLd, ym, y3m, hg]
    rw [yv2]
    have ih0 := fun g o5 => ih (k + 1) g o5 (by omega)
    push_cast at ih0
    simp only [y5x] at ih0
    cases hh : yh3 f k with
    | false =>
      have ih0 := ih0 g o5
      rw [hh] at ih0 l1
      simp only [Bool.false_eq_true, if_false, List.append_nil] at ih0
      simp [y1s1, y1x1, y1zn, y1i5, hc, ix, -y31, l1, hw, ih0]
    | true =>
      rw [hh] at ih0 l1
      simp only [if_true] at ih0
      obtain ⟨g', ha⟩ := y1pk (H := HH f (hA f) o2 o3 o4 ⟨o5.gen + 1, .arr false false 1 [[.int .i64 k]]⟩ (y48 g D0 (y5x f k))) (fb := 0) (j := 6) (g := g) (o := D0) (y := .ls 5 (o5.gen + 1) 1 0 1) (L := y5x f k) (n := k) (by simp) rfl (by have := ygd f k; omega)
      have ha' : y3t 0 (some 6) 1 8 (y3s Int 6 g (y5x f k)) (.ls 5 (o5.gen + 1) 1 0 1) (HH f (hA f) o2 o3 o4 ⟨o5.gen + 1, .arr false false 1 [[.int .i64 k]]⟩ (y48 g D0 (y5x f k))) = some (y3s Int 6 g' (y5x f k ++ [(k : Int)]), HH f (hA f) o2 o3 o4 ⟨o5.gen + 1, .arr false false 1 [[.int .i64 k]]⟩ (y48 g' D0 (y5x f k ++ [(k : Int)]))) := ha
      simp [y1s1, y1x1, y1zn, y1i5, hc, ix, -y31, l1, hw, yx, y18, ha', ih0]
theorem y2b0 (f : Fn) (hc : (lst f.code).length ≤ 30000) (hr : (lst f.rows).length ≤ 1000000) : (y7 E).p 102 [.agg (enc f)] = some (exO (nz (y7x f))) := by
  rw [y2t8]
  obtain ⟨o2, h1⟩ := y1cw f D0 D0 D0 D0 (by omega) _ 0 (hA0 (lst f.code).length) D0 (Nat.zero_add _) (by simp)
  obtain ⟨o3, o4, h2⟩ := y1ci f o2 D0 D0 (by omega) _ 0 (hA1 (lst f.code).length 0 (lst f.code) (hA0 (lst f.code).length)) D0 D0 (Nat.zero_add _) (by rw [ypt, ypw])
  have h3 := y1aw f o2 o3 o4 (by omega) _ 0 0 D0 (Nat.zero_add _)
  simp only [List.drop_zero, Int.ofNat_zero, y5x, yrv, yue] at h1 h2 h3
  have e10 : yn4 (.lp 0 1 0 0) (.ls 1 1 1 0 ((lst f.code).length + 1)) (HH f (hA f) o2 o3 o4 D0 D0) = some (exO (nz (y7x f))) := by
    simp [yn4, y2ih, h3]
  have e26 : yqb (.lp 0 1 0 0) (.ls 1 1 1 0 ((lst f.code).length + 1)) (HH f (hA1 (lst f.code).length 0 (lst f.code) (hA0 (lst f.code).length)) o2 D0 D0 D0 D0) = some (exO (nz (y7x f))) := by
    rw [← e10, ← show _ = yn4 _ _ (HH f (hA f) o2 o3 o4 D0 D0) from h2]
    simp [yqb]
  have e38 : ytg (.lp 0 1 0 0) (.ls 1 1 1 0 ((lst f.code).length + 1)) (HH f (hA0 (lst f.code).length) D0 D0 D0 D0 D0) = some (exO (nz (y7x f))) := by
    rw [← e26, ← h1]
    simp [ytg]
  rw [← e38]
  have b1 : ((lst f.code).length : Int) + 1 ≤ 140737488355328 := by omega
  have b2 : ((lst f.code).length : Int) + 1 ≤ 4611686018427387904 := by omega
  have b3 : (0 : Int) ≤ ((lst f.code).length : Int) + 1 := by omega
  have b4 : (((lst f.code).length : Int) + 1).toNat = (lst f.code).length + 1 := by omega
  have hw : IntKind.wrap .i64 (((lst f.code).length : Int) + 1) = ((lst f.code).length : Int) + 1 := by rw [y2v] <;> omega
  have e42 : y11t (.agg (enc f)) [D0, D0, D0, D0, D0, D0, D0] = yuh (.lp 0 1 0 0) (.ls 1 1 1 0 ((lst f.code).length + 1)) (HH f (List.replicate ((lst f.code).length + 1) false) D0 D0 D0 D0 D0) := by
    simp [y11t, y1yd, mkSC, hw, b1, b2, b3, b4, HH]
  rw [e42]
  have l1 : ∀ (a : List Bool) (o2 o3 o4 o5 o6 : AO), evLd false 1 (.lp 0 1 0 3) (HH f a o2 o3 o4 o5 o6) = some (slA f.code) := fun a o2 o3 o4 o5 o6 => by simp
  by_cases h0 : 0 < (lst f.code).length
  · have h0' : (0 : Int) < ((lst f.code).length : Int) := by omega
    have st := stHH f (List.replicate ((lst f.code).length + 1) false) D0 D0 D0 D0 D0 (j := 0) (by simp)
    have ix := ixAt (n := (lst f.code).length + 1) (p := 0) (by omega) (by omega) 1 1 .i64
    simp only [yuh, y1c, yb, l1, y3h, y4t, h0', decide_true, y1p, ix, Int.toNat_zero, st, yy, hA0, h0, if_true, Nat.zero_add]
  · have h0' : ¬ (0 : Int) < ((lst f.code).length : Int) := by omega
    simp only [yuh, y1c, yb, l1, y3h, y4t, h0', decide_false, y24, hA0, h0, if_false, Nat.zero_add]
end Go.Vm
namespace Go.Vm
open Cel
attribute [local simp] y5 y26 yj
@[simp] theorem y2m4 (x : Ins) : (y7 E).p 9 [.agg (enc x)] = some ⟨.int .i64 (defr x), [], true, [], []⟩ := by
  rw [y2rk]
  rcases ydj x.op with h|h|h|h|h|h|h|h|h|h|h|h|h|h|h|h|h|h|h|h|h|h|h|h|h|h|h|h|h|h|h|h|h|h|h <;> first | (simp [h, defr, writes, calls, y1nx, y1tr, yad, y1xg, y1jx, y1rp]; done) | (simp [lo_f h, defr, writes, calls, y1nx, y1tr, yad, y1xg, y1jx, y1rp]; done) | simp [hi_f h, defr, writes, calls, y1nx, y1tr, yad, y1xg, y1jx, y1rp]
end Go.Vm
namespace Go.Vm
open Cel
attribute [local simp] y5 y26 yj
@[simp] theorem y2s5 (a b c d : AV) (r : List AV) (h : r.length = 4) : y10 0 [a, b, c, d] r = [a, b, c, d] := by
  simp [y10, ← h]
@[simp] theorem y2rv (h : Heap) (a b c d : Int) (o : Bool) : yc h (.tup [.agg [.int .i64 a, .int .i64 b, .int .i64 c, .int .i64 d], .bool o]) = some (exK (a, b, c, d, o)) := rfl
@[simp] theorem y2v8 (a b c d : Int) : y11 [.int .i64 0, .int .i64 0, .int .i64 0, .int .i64 0] [(0, 1, .int .i64 a), (1, 1, .int .i64 b), (2, 1, .int .i64 c), (3, 1, .int .i64 d)] = some (.agg [.int .i64 a, .int .i64 b, .int .i64 c, .int .i64 d]) := rfl
@[simp] theorem y2sw : y11 [.int .i64 0, .int .i64 0, .int .i64 0, .int .i64 0] [] = some (.agg [.int .i64 0, .int .i64 0, .int .i64 0, .int .i64 0]) := rfl
@[simp] theorem y2uy (h : Heap) (a b c : Int) : fz h y1t (.tup [.int .i64 a, .int .i64 b, .int .i64 c]) = some ⟨.tup [.int .i64 a, .int .i64 b, .int .i64 c], true, []⟩ := rfl
@[simp] theorem y2t0 (h : Heap) (a b c d : Int) (o : Bool) : fz h y1t (.tup [.agg [.int .i64 a, .int .i64 b, .int .i64 c, .int .i64 d], .bool o]) = some ⟨.tup [.agg [.int .i64 a, .int .i64 b, .int .i64 c, .int .i64 d], .bool o], true, []⟩ := rfl
@[simp] theorem agg4 (a b c d : AV) : y6g true 4 [a, b, c, d] = some (.agg [a, b, c, d]) := rfl
set_option maxHeartbeats 4000000 in
theorem y2hl (x : Ins) (h : x.op = 1 ∨ x.op = 2 ∨ x.op = 3 ∨ x.op = 4 ∨ x.op = 7 ∨ x.op = 8 ∨ x.op = 9 ∨ x.op = 10 ∨ x.op = 11 ∨ x.op = 13 ∨ x.op = 14 ∨ x.op = 15 ∨ x.op = 16 ∨ x.op = 17 ∨ x.op = 18 ∨ x.op = 19 ∨ x.op = 20 ∨ x.op = 27 ∨ x.op = 31 ∨ x.op = 32 ∨ x.op = 33) : (y7 E).p 47 [.agg (enc x)] = some (exK (yg x)) := by
  rw [y1pq]
  rcases h with h|h|h|h|h|h|h|h|h|h|h|h|h|h|h|h|h|h|h|h|h <;> simp [h, yhe, yg1, yhb, yhc, yhd, yhi, yhj, yhk, yhf, y9x, y9u, y9p, y9n, y9i, y9s, ya9, y9b, y99, y9t, yaa, y9a, y9v, y9y, y9l, yab, y9h, ya4, y9m, y9q, y87, y9c, y9j, y9e, ya6, y9d, y9k, y98, y9f, y9z, y6d, ya8, y7t, y9o, ya2, ya3, yd, yl, meets, ids1, yg]
theorem y2gv (x : Ins) (hs : x.s.length ≤ 9223372036854775807) (h : x.op = 12 ∨ x.op = 21 ∨ x.op = 22) : (y7 E).p 47 [.agg (enc x)] = some (exK (yg x)) := by
  rw [y1pq]
  have ht := y2qe x.s hs
  rcases h with h|h|h <;> simp [h, ht, yhe, yg1, yhb, yhc, yhd, yhi, yhj, yhk, yhf, y9x, y9u, y9p, y9n, y9i, y9s, ya9, y9b, y99, y9t, yaa, y9a, y9v, y9y, y9l, yab, y9h, ya4, y9m, y9q, y87, y9c, y9j, y9e, ya6, y9d, y9k, y98, y9f, y9z, y6d, ya8, y7t, y9o, ya2, ya3, yd, yl, meets, ids1, yg]
theorem y2c0 (x : Ins) (hn : -9223372036854775808 ≤ x.n ∧ x.n < 9223372036854775808) (h : x.op = 5 ∨ x.op = 6) : (y7 E).p 47 [.agg (enc x)] = some (exK (yg x)) := by
  rw [y1pq]
  have hk := y2ht x.n
  have hw := y2v hn.1 hn.2
  rcases h with h|h
  · simp [h, hk, hw, yhe, yg1, yhb, yhc, yhd, yhi, yhj, yhk, yhf, y9x, y9u, y9p, y9n, y9i, y9s, ya9, y9b, y99, y9t, yaa, y9a, y9v, y9y, y9l, yab, y9h, ya4, y9m, y9q, y87, y9c, y9j, y9e, ya6, y9d, y9k, y98, y9f, y9z, y6d, ya8, y7t, y9o, ya2, ya3, yd, yl, meets, ids1, yg]
  · by_cases h0 : (numK x.n).1 = 0
    · simp [h, hk, hw, h0, yhe, yg1, yhb, yhc, yhd, yhi, yhj, yhk, yhf, y9x, y9u, y9p, y9n, y9i, y9s, ya9, y9b, y99, y9t, yaa, y9a, y9v, y9y, y9l, yab, y9h, ya4, y9m, y9q, y87, y9c, y9j, y9e, ya6, y9d, y9k, y98, y9f, y9z, y6d, ya8, y7t, y9o, ya2, ya3, yd, yl, meets, ids1, yg]
    · simp [h, hk, hw, h0, yhe, yg1, yhb, yhc, yhd, yhi, yhj, yhk, yhf, y9x, y9u, y9p, y9n, y9i, y9s, ya9, y9b, y99, y9t, yaa, y9a, y9v, y9y, y9l, yab, y9h, ya4, y9m, y9q, y87, y9c, y9j, y9e, ya6, y9d, y9k, y98, y9f, y9z, y6d, ya8, y7t, y9o, ya2, ya3, yd, yl, meets, ids1, yg]
theorem y2ca (x : Ins) (h : x.op = 28) : (y7 E).p 47 [.agg (enc x)] = some (exK (yg x)) := by
  rw [y1pq]
  by_cases h0 : 0 ≤ x.n
  · simp [h, h0, yhe, yg1, yhb, yhc, yhd, yhi, yhj, yhk, yhf, y9x, y9u, y9p, y9n, y9i, y9s, ya9, y9b, y99, y9t, yaa, y9a, y9v, y9y, y9l, yab, y9h, ya4, y9m, y9q, y87, y9c, y9j, y9e, ya6, y9d, y9k, y98, y9f, y9z, y6d, ya8, y7t, y9o, ya2, ya3, yd, yl, meets, ids1, yg]
  · simp [h, h0, yhe, yg1, yhb, yhc, yhd, yhi, yhj, yhk, yhf, y9x, y9u, y9p, y9n, y9i, y9s, ya9, y9b, y99, y9t, yaa, y9a, y9v, y9y, y9l, yab, y9h, ya4, y9m, y9q, y87, y9c, y9j, y9e, ya6, y9d, y9k, y98, y9f, y9z, y6d, ya8, y7t, y9o, ya2, ya3, yd, yl, meets, ids1, yg]
end Go.Vm
namespace Go.Vm
open Cel
attribute [local simp] y5 y26 yj
theorem y1zx (x : Ins) (h : x.op = 29) : (y7 E).p 51 [.agg (enc x)] = some (exK (yg x)) := by
  rw [y25i]
  by_cases h0 : x.b = -1 <;> by_cases h1 : x.n = 0 <;> simp [h, h0, h1, yx6, yqp, ywf, ywc, ysp, yw4, ywh, ysq, yw2, yjp, yco, yin, yio, yl2, yl3, yl0, yjs, yij, yd, yl, meets, yg]
theorem y27h (x : Ins) (h : x.op = 30) : (y7 E).p 51 [.agg (enc x)] = some (exK (yg x)) := by
  rw [y25i]
  by_cases h0 : x.a = -1 <;> simp [h, h0, yx6, yqp, ywf, ywc, ysp, yw4, ywh, ysq, yw2, yjp, yco, yin, yio, yl2, yl3, yl0, yjs, yij, yd, yl, meets, yg]
set_option maxHeartbeats 4000000 in
theorem ypr (x : Ins) (h : x.op = 23 ∨ x.op = 24 ∨ x.op = 25 ∨ x.op = 26) : (y7 E).p 51 [.agg (enc x)] = some (exK (yg x)) := by
  rw [y25i]
  have e1 : ((0 : Int) < ((lst x.args).length : Int)) = (0 < (lst x.args).length) := by simp
  have e2 : (((lst x.args).length : Int) ≤ (21 : Int)) = ((lst x.args).length ≤ 21) := by simp; omega
  by_cases h0 : x.d = -1 <;> by_cases h1 : 0 ≤ x.n <;> by_cases h2 : 0 < (lst x.args).length <;> rcases h with h|h|h|h <;> simp [h, h0, h1, h2, e1, e2, yx6, yqp, ywf, ywc, ysp, yw4, ywh, ysq, yw2, yjp, yco, yin, yio, yl2, yl3, yl0, yjs, yij, yd, yl, meets, yg]
theorem y2ex (x : Ins) (h : x.op < 1 ∨ 33 < x.op) : (y7 E).p 51 [.agg (enc x)] = some (exK (yg x)) := by
  rw [y25i, ymo h]
  rcases h with h|h
  · simp [lo_f h, yx6, yqp, ywf, ywc, ysp, yw4, ywh, ysq, yw2, yjp, yco, yin, yio, yl2, yl3, yl0, yjs, yij, yd, yl, meets]
  · simp [hi_f h, yx6, yqp, ywf, ywc, ysp, yw4, ywh, ysq, yw2, yjp, yco, yin, yio, yl2, yl3, yl0, yjs, yij, yd, yl, meets]
theorem y2ij (x : Ins) (h : x.op = 29 ∨ x.op = 30 ∨ x.op = 23 ∨ x.op = 24 ∨ x.op = 25 ∨ x.op = 26 ∨ x.op < 1 ∨ 33 < x.op) : (y7 E).p 47 [.agg (enc x)] = some (exK (yg x)) := by
  have ho : (y7 E).p 51 [.agg (enc x)] = some (exK (yg x)) := by
    rcases h with h|h|h|h|h|h|h
    · exact y1zx x h
    · exact y27h x h
    · exact ypr x (.inl h)
    · exact ypr x (.inr (.inl h))
    · exact ypr x (.inr (.inr (.inl h)))
    · exact ypr x (.inr (.inr (.inr h)))
    · exact y2ex x h
  rw [y1pq]
  generalize yg x = k at ho
  obtain ⟨a, b, c, d, o⟩ := k
  simp only [exK] at ho
  rcases h with h|h|h|h|h|h|h|h
  iterate 6 (simp [h, ho, yhe, yg1, yhb, yhc, yhd, yhi, yhj, yhk, yhf, y9x, y9u, y9p, y9n, y9i, y9s, ya9, y9b, y99, y9t, yaa, y9a, y9v, y9y, y9l, yab, y9h, ya4, y9m, y9q, y87, y9c, y9j, y9e, ya6, y9d, y9k, y98, y9f, y9z, y6d, ya8, y7t, y9o, ya2, ya3, yd, yl, meets])
  · simp [lo_f h, ho, yhe, yg1, yhb, yhc, yhd, yhi, yhj, yhk, yhf, y9x, y9u, y9p, y9n, y9i, y9s, ya9, y9b, y99, y9t, yaa, y9a, y9v, y9y, y9l, yab, y9h, ya4, y9m, y9q, y87, y9c, y9j, y9e, ya6, y9d, y9k, y98, y9f, y9z, y6d, ya8, y7t, y9o, ya2, ya3, yd, yl, meets]
  · simp [hi_f h, ho, yhe, yg1, yhb, yhc, yhd, yhi, yhj, yhk, yhf, y9x, y9u, y9p, y9n, y9i, y9s, ya9, y9b, y99, y9t, yaa, y9a, y9v, y9y, y9l, yab, y9h, ya4, y9m, y9q, y87, y9c, y9j, y9e, ya6, y9d, y9k, y98, y9f, y9z, y6d, ya8, y7t, y9o, ya2, ya3, yd, yl, meets]
theorem y2hm (x : Ins) (hn : -9223372036854775808 ≤ x.n ∧ x.n < 9223372036854775808) (hs : x.s.length ≤ 9223372036854775807) : (y7 E).p 47 [.agg (enc x)] = some (exK (yg x)) := by
  by_cases h1 : x.op = 1 ∨ x.op = 2 ∨ x.op = 3 ∨ x.op = 4 ∨ x.op = 7 ∨ x.op = 8 ∨ x.op = 9 ∨ x.op = 10 ∨ x.op = 11 ∨ x.op = 13 ∨ x.op = 14 ∨ x.op = 15 ∨ x.op = 16 ∨ x.op = 17 ∨ x.op = 18 ∨ x.op = 19 ∨ x.op = 20 ∨ x.op = 27 ∨ x.op = 31 ∨ x.op = 32 ∨ x.op = 33
  · exact y2hl x h1
  by_cases h2 : x.op = 12 ∨ x.op = 21 ∨ x.op = 22
  · exact y2gv x hs h2
  by_cases h3 : x.op = 5 ∨ x.op = 6
  · exact y2c0 x hn h3
  by_cases h4 : x.op = 28
  · exact y2ca x h4
  exact y2ij x (by omega)
end Go.Vm
namespace Go.Vm
open Cel
attribute [local simp] y5 y26 yj
abbrev HR (f : Fn) (x : Ins) (a b c d : Int) : Heap := [⟨1, .arr true false 5 [enc f]⟩, ⟨1, .arr true false 9 [enc x]⟩, ⟨1, .arr true false 4 [[.int .i64 a, .int .i64 b, .int .i64 c, .int .i64 d]]⟩]
abbrev P0 : AV := .lp 0 1 0 0
abbrev P1 : AV := .lp 1 1 0 0
abbrev P2 : AV := .lp 2 1 0 0
theorem ydd {f : Fn} {r : Int} (h : inR (lst f.regs) r = true) : yp 1 (slA f.regs) (.int .i64 r) = some (.rp [.int .i64 (regK (lst f.regs) r)]) := by
  obtain ⟨h0, h1, h2⟩ := yx3 h
  exact y146 h0 h2 .i64
theorem yw5 (f : Fn) (x : Ins) (a b c d : Int) (i : Nat) (w r : Int) (v26 : AV) (hi : i < 4) (hw : [a, b, c, d][i]? = some w) :
    ydz P0 P1 P2 (.int .i64 i) (.int .i64 r) v26 (.int .i64 i) (HR f x a b c d) =
      if y1g (lst f.regs) w r then ysz P0 P1 P2 v26 (.int .i64 i) (HR f x a b c d) else some ⟨.bool false, [], true, [], []⟩ := by
  have e1 : ypn 4 1 P2 (.int .i64 i) = some (.lp 2 1 0 i) := by
    have : ((i : Int) < (4 : Int)) := by omega
    simp [ypn, this]
  have e2 : ∀ f x, evLd false 1 (.lp 2 1 0 i) (HR f x a b c d) = some (.int .i64 w) := by
    intro f x
    simp only [y31]
    have : (ym (HR f x a b c d) 2 1) = some (false, 4, [[.int .i64 a, .int .i64 b, .int .i64 c, .int .i64 d]]) := rfl
    rw [this]
    simp only [List.getElem?_cons_zero, y94]
    match i, hi, hw with
    | 0, _, hw => simp at hw; simp [hw]
    | 1, _, hw => simp at hw; simp [hw]
    | 2, _, hw => simp at hw; simp [hw]
    | 3, _, hw => simp at hw; simp [hw]
  have e2 := e2 f x
  by_cases hw0 : w < 0
  · simp [ydz, e1, e2, y1g, hw0]
  by_cases h0 : r < 0
  · have : ¬ 0 ≤ r := by omega
    simp [ydz, ykr, e1, e2, y1g, hw0, h0, inR, this]
  by_cases h1 : r < ((lst f.regs).length : Int)
  · have h0' : 0 ≤ r := by omega
    have h1' : ¬ ((lst f.regs).length : Int) ≤ r := by omega
    have hin : inR (lst f.regs) r = true := by simp [inR, h0', h1]
    have hr := ydd hin
    by_cases h2 : 0 < w
    · have h2' : ¬ w ≤ 0 := by omega
      by_cases h3 : regK (lst f.regs) r = w
      · simp [ydz, ykr, e1, e2, y1g, hw0, h0, h1', h2, h2', hin, hr, h3]
      · simp [ydz, ykr, e1, e2, y1g, hw0, h0, h1', h2, h2', hin, hr, h3]
    · have h2' : w ≤ 0 := by omega
      simp [ydz, ykr, e1, e2, y1g, hw0, h0, h1', h2, h2', hin]
  · have h1' : ((lst f.regs).length : Int) ≤ r := by omega
    simp [ydz, ykr, e1, e2, y1g, hw0, h0, h1', h1, inR]
theorem y1a7 (f : Fn) (x : Ins) (a b c d : Int) (h1 : x.op = 1 → inR (lst f.regs) x.d = true) (h4 : x.op = 4 → inR (lst f.regs) x.d = true ∧ inR (lst f.regs) x.a = true) (h7 : x.op = 7 → inR (lst f.regs) x.a = true)
    (h30 : x.op = 30 → x.a = -1 ∨ inR (lst f.regs) x.a = true) :
    yac P0 P1 (HR f x a b c d) = some ⟨.bool (y2l (lst f.regs) f.ret (lst f.code).length x), [], true, [], []⟩ := by
  by_cases o1 : x.op = 1
  · have hr := ydd (h1 o1)
    by_cases k3 : regK (lst f.regs) x.d = 3
    · simp [yac, y2l, o1, hr, k3]
    · by_cases k2 : regK (lst f.regs) x.d = 2
      · simp [yac, y2l, o1, hr, k2]
      · simp [yac, y2l, o1, hr, k2, k3]
  by_cases o4 : x.op = 4
  · have hr := ydd (h4 o4).1
    have hr2 := ydd (h4 o4).2
    simp [yac, y2l, o4, hr, hr2]
  by_cases o7 : x.op = 7
  · have hr := ydd (h7 o7)
    simp [yac, y2l, o7, hr]
  by_cases o30 : x.op = 30
  · by_cases ha : x.a = -1
    · by_cases hz : f.ret = 0
      · simp [yac, y2l, o30, ha, hz]
      · simp [yac, y2l, o30, ha, hz]
    · have hr := ydd ((h30 o30).resolve_left ha)
      by_cases hz : f.ret = 0
      · simp [yac, y2l, o30, ha, hz]
      · simp [yac, y2l, o30, ha, hz, hr]
  · cases hl : leads x.op with
    | false => simp [yac, y1vy, y2l, o1, o4, o7, o30, hl]
    | true =>
      by_cases ht : 0 ≤ x.t
      · simp [yac, y1vy, y2l, o1, o4, o7, o30, hl, ht]
      · simp [yac, y1vy, y2l, o1, o4, o7, o30, hl, ht]
end Go.Vm
namespace Go.Vm
open Cel
attribute [local simp] y5 y26 yj
theorem yus (f : Fn) (x : Ins) (a b c d : Int) (i : Nat) (r : Int) (v63 v64 : AV) :
    yjh P0 P1 (.int .i64 i) (.int .i64 r) v63 v64 (.int .i64 i) (HR f x a b c d) =
      if inR (lst f.regs) r && (!decide (i = 0) || !(decide (x.op = 24) || decide (x.op = 25)) || decide (regK (lst f.regs) r = 3)) then y1ep P0 P1 v63 v64 (.int .i64 i) (HR f x a b c d) else some ⟨.bool false, [], true, [], []⟩ := by
  by_cases h0 : r < 0
  · have : ¬ 0 ≤ r := by omega
    simp [yjh, h0, inR, this]
  by_cases h1 : r < ((lst f.regs).length : Int)
  · have h0' : 0 ≤ r := by omega
    have h1' : ¬ ((lst f.regs).length : Int) ≤ r := by omega
    have hin : inR (lst f.regs) r = true := by simp [inR, h0', h1]
    have hr := ydd hin
    by_cases hi : i = 0
    · subst hi
      by_cases o1 : x.op = 24
      · by_cases h3 : regK (lst f.regs) r = 3
        · simp [yjh, h0, h1', hin, hr, o1, h3]
        · simp [yjh, h0, h1', hin, hr, o1, h3]
      · by_cases o2 : x.op = 25
        · by_cases h3 : regK (lst f.regs) r = 3
          · simp [yjh, h0, h1', hin, hr, o2, h3]
          · simp [yjh, h0, h1', hin, hr, o2, h3]
        · simp [yjh, h0, h1', hin, o1, o2]
    · have hi' : ¬ ((i : Int) = 0) := by omega
      simp [yjh, h0, h1', hin, hi, hi']
  · have h1' : ((lst f.regs).length : Int) ≤ r := by omega
    simp [yjh, h0, h1', h1, inR]
theorem y1d6 (f : Fn) (x : Ins) (a b c d : Int) (T : Bool) (hc : calls x.op = true) (hl : (lst x.args).length ≤ 9223372036854775807) (hT : yac P0 P1 (HR f x a b c d) = some ⟨.bool T, [], true, [], []⟩) :
    ∀ (k i : Nat), i + k = (lst x.args).length → 0 < i →
    yif P0 P1 (slA x.args) (.int .i64 (lst x.args).length) (.int .i64 i) (HR f x a b c d) = some ⟨.bool (((lst x.args).drop i).all (inR (lst f.regs)) && T), [], true, [], []⟩ := by
  intro k
  induction k with
  | zero =>
    intro i hi _
    have e1 : (lst x.args).drop i = [] := List.drop_eq_nil_of_le (by omega)
    have hn : ¬ ((i : Int) < ((lst x.args).length : Int)) := by omega
    rw [yk0, e1]
    simp [yiy, yjl, hn, hT]
  | succ k ih =>
    intro i hi h0
    have hlt : i < (lst x.args).length := by omega
    have hn : ((i : Int) < ((lst x.args).length : Int)) := by omega
    have e1 : ((lst x.args).drop i).all (inR (lst f.regs)) = (inR (lst f.regs) (lst x.args)[i] && ((lst x.args).drop (i + 1)).all (inR (lst f.regs))) := by rw [List.drop_eq_getElem_cons hlt, List.all_cons]
    have ih := ih (i + 1) (by omega) (by omega)
    push_cast at ih
    have k1 := y3e (o := x.args) (i := i) (List.getElem?_eq_getElem hlt) .i64
    have hz : ¬ i = 0 := by omega
    rw [yk0, e1]
    simp only [yiy, yjl, yo, yb, hn, decide_true, y1p]
    simp only [y1l8, k1, yb, yvd, y94, List.head?_cons]
    simp only [y1uc]
    simp only [y31]
    simp only [ypj, yfc]
    simp only [List.getElem?_cons_zero, List.drop_zero, yq1, yb]
    simp only [y5, yxc, if_true, y26, yz, yb1, y1b, yvy, yj, yp6, yy, Bool.true_or]
    simp only [y2h, yb, hc, Bool.not_true, y24, yus]
    cases inR (lst f.regs) (lst x.args)[i]
    · simp
    · simp [hz, y1ep, y17 hlt hl, ih]
theorem y1b9 (f : Fn) (x : Ins) (a b c d : Int) (T : Bool) (hl : (lst x.args).length ≤ 9223372036854775807) (hT : yac P0 P1 (HR f x a b c d) = some ⟨.bool T, [], true, [], []⟩) :
    ytu P0 P1 (HR f x a b c d) = some ⟨.bool (y5v (lst f.regs) x && T), [], true, [], []⟩ := by
  have e0 : ytu P0 P1 (HR f x a b c d) = yif P0 P1 (slA x.args) (.int .i64 (lst x.args).length) (.int .i64 0) (HR f x a b c d) := by simp [ytu]
  rw [e0, yk0]
  cases ha : lst x.args with
  | nil => simp [yiy, yjl, hT, y5v, yjf, ha]
  | cons r rest =>
    have k1 := y3e (o := x.args) (i := 0) (x := r) (by rw [ha]; rfl) .i64
    have k1 : yp 1 (slA x.args) (.int .i64 0) = some (.rp [.int .i64 r]) := k1
    have hn : ((0 : Int) < ((lst x.args).length : Int)) := by rw [ha]; simp
    have hra := yus f x a b c d 0 r (slA x.args) (.int .i64 (lst x.args).length)
    simp only [Int.ofNat_zero, decide_true, Bool.not_true, Bool.false_or] at hra
    rw [← ha]
    cases hc : calls x.op with
    | false =>
      simp only [yiy, yjl, yo, yb, hn, decide_true, y1p]
      simp only [y1l8, k1, yb, yvd, y94, List.head?_cons]
      simp only [y1uc]
      simp only [y31]
      simp only [ypj, yfc]
      simp only [List.getElem?_cons_zero, List.drop_zero, yq1, yb]
      simp only [y5, yxc, if_true, y26, yz, yb1, y1b, yvy, yj, yp6, yy, Bool.true_or]
      simp only [y2h, yb, hc, Bool.not_false, y1p, hT, y5v, Bool.true_or, Bool.true_and]
    | true =>
      have hlp := y1d6 f x a b c d T hc hl hT rest.length 1 (by rw [ha]; simp; omega) (by omega)
      have hd : (lst x.args).drop 1 = rest := by rw [ha]; rfl
      rw [hd] at hlp
      have hlp : yif P0 P1 (slA x.args) (.int .i64 (lst x.args).length) (.int .i64 1) (HR f x a b c d) = _ := hlp
      simp only [yiy, yjl, yo, yb, hn, decide_true, y1p]
      simp only [y1l8, k1, yb, yvd, y94, List.head?_cons]
      simp only [y1uc]
      simp only [y31]
      simp only [ypj, yfc]
      simp only [List.getElem?_cons_zero, List.drop_zero, yq1, yb]
      simp only [y5, yxc, if_true, y26, yz, yb1, y1b, yvy, yj, yp6, yy, Bool.true_or]
      simp only [y2h, yb, hc, Bool.not_true, y24, hra]
      simp only [y5v, yjf, ha, List.all_cons]
      have hw : IntKind.wrap .i64 ((0 : Int) + 1) = 1 := y2v (n := 1) (by omega) (by omega)
      generalize (!(decide (x.op = 24) || decide (x.op = 25)) || decide (regK (lst f.regs) r = 3)) = B
      have hw2 : IntKind.wrap .i64 (1 : Int) = 1 := y2v (n := 1) (by omega) (by omega)
      cases inR (lst f.regs) r with
      | false => cases B <;> simp [hc]
      | true =>
        cases B with
        | false => simp [hc]
        | true =>
          simp only [Bool.and_self, if_true, y1ep, y1f, yb]
          rw [show IntKind.wrap .i64 ((0 : Int) + 1) = 1 from hw]
          rw [← ha, hlp]
          simp [hc]
theorem y1lg (x : Ins) : (x.op = 1 → (yg x).1 = 0) ∧ (x.op = 4 → (yg x).1 = 0 ∧ (yg x).2.1 = 0) ∧ (x.op = 7 → (yg x).2.1 = 0) ∧ (x.op = 30 → x.a = -1 ∨ (yg x).2.1 = 0) := by
  refine ⟨fun h => ?_, fun h => ?_, fun h => ?_, fun h => ?_⟩ <;> simp [yg, h]
  by_cases ha : x.a = -1 <;> simp [ha]
theorem ye7 {R : List Int} {w r : Int} (h : y1g R w r = true) (hw : w = 0) : inR R r = true := by
  subst hw
  simpa [y1g] using h
set_option maxHeartbeats 1000000 in
theorem y2f4 (f : Fn) (x : Ins) (hn : -9223372036854775808 ≤ x.n ∧ x.n < 9223372036854775808) (hs : x.s.length ≤ 9223372036854775807) (hl : (lst x.args).length ≤ 9223372036854775807) :
    (y7 E).p 63 [.agg (enc f), .agg (enc x)] = some ⟨.bool (y14 f x), [], true, [], []⟩ := by
  have hk := y2hm x hn hs
  obtain ⟨q1, q4, q7, q30⟩ := y1lg x
  rw [y2tm]
  have red : ∀ X : Option (Ex AV), y14 f x = y14 f x → True := fun _ _ => trivial
  have e0 : ytp (.agg (enc f)) (.agg (enc x)) [⟨0, .dead⟩, ⟨0, .dead⟩, ⟨0, .dead⟩] =
      if (yg x).2.2.2.2 = true then ycs P0 P1 P2 (.agg [.int .i64 x.d, .int .i64 x.a, .int .i64 x.b, .int .i64 x.c]) (.int .i64 0) (HR f x (yg x).1 (yg x).2.1 (yg x).2.2.1 (yg x).2.2.2.1) else some ⟨.bool false, [], true, [], []⟩ := by
    unfold exK at hk
    generalize yg x = k at *
    obtain ⟨a, b, c, d, o⟩ := k
    simp only at hk ⊢
    cases o with
    | true => simp [ytp, y194, y13o, y1jq, hk]
    | false => simp [ytp, y194, y13o, hk]
  rw [e0, y14]
  cases hok : (yg x).2.2.2.2 with
  | false => simp
  | true =>
    simp only [if_true, Bool.true_and]
    have step : ∀ (i : Nat) (w r : Int), i < 4 → [(yg x).1, (yg x).2.1, (yg x).2.2.1, (yg x).2.2.2.1][i]? = some w → [x.d, x.a, x.b, x.c][i]? = some r →
        ycs P0 P1 P2 (.agg [.int .i64 x.d, .int .i64 x.a, .int .i64 x.b, .int .i64 x.c]) (.int .i64 i) (HR f x (yg x).1 (yg x).2.1 (yg x).2.2.1 (yg x).2.2.2.1) =
        if y1g (lst f.regs) w r then ycs P0 P1 P2 (.agg [.int .i64 x.d, .int .i64 x.a, .int .i64 x.b, .int .i64 x.c]) (.int .i64 (i + 1 : Nat)) (HR f x (yg x).1 (yg x).2.1 (yg x).2.2.1 (yg x).2.2.2.1) else some ⟨.bool false, [], true, [], []⟩ := by
      intro i w r hi hw hr
      have hc : ((i : Int) < (4 : Int)) := by omega
      have hv : ypa false 4 1 (.agg [.int .i64 x.d, .int .i64 x.a, .int .i64 x.b, .int .i64 x.c]) (.int .i64 i) = some (.int .i64 r) := by
        match i, hi, hr with
        | 0, _, hr => simp at hr; simp [ypa, hr]
        | 1, _, hr => simp at hr; simp [ypa, hr]
        | 2, _, hr => simp at hr; simp [ypa, hr]
        | 3, _, hr => simp at hr; simp [ypa, hr]
      have hw2 : IntKind.wrap .i64 ((i : Int) + 1) = ((i + 1 : Nat) : Int) := by rw [y2v] <;> omega
      rw [yml]
      simp only [yyv, y18k, yo, yb, hc, decide_true, y1p]
      simp only [y1jz, hv, yb]
      rw [yw5 f x _ _ _ _ i w r _ hi hw]
      simp only [ysz, y1f, yb, hw2]
    have s0 := step 0 _ _ (by omega) rfl rfl
    have s1 := step 1 _ _ (by omega) rfl rfl
    have s2 := step 2 _ _ (by omega) rfl rfl
    have s3 := step 3 _ _ (by omega) rfl rfl
    simp only [Int.ofNat_zero] at s0
    rw [s0]
    cases f0 : y1g (lst f.regs) (yg x).1 x.d with
    | false => simp
    | true =>
      simp only [if_true, Bool.true_and]
      rw [s1]
      cases f1 : y1g (lst f.regs) (yg x).2.1 x.a with
      | false => simp
      | true =>
        simp only [if_true, Bool.true_and]
        rw [s2]
        cases f2 : y1g (lst f.regs) (yg x).2.2.1 x.b with
        | false => simp
        | true =>
          simp only [if_true, Bool.true_and]
          rw [s3]
          cases f3 : y1g (lst f.regs) (yg x).2.2.2.1 x.c with
          | false => simp
          | true =>
            simp only [if_true, Bool.true_and]
            have ht := y1a7 f x (yg x).1 (yg x).2.1 (yg x).2.2.1 (yg x).2.2.2.1 (fun h => ye7 f0 (q1 h)) (fun h => ⟨ye7 f0 (q4 h).1, ye7 f1 (q4 h).2⟩) (fun h => ye7 f1 (q7 h)) (fun h => (q30 h).imp id fun h => ye7 f1 h)
            rw [← y1b9 f x _ _ _ _ _ hl ht]
            rw [yml]
            simp [yyv, y18k]
end Go.Vm
namespace Go.Vm
open Cel
attribute [local simp] y5 y26 yj
theorem y28q {α : Type} [Cel α] (o : Option (List α)) (i : Nat) (h : i ≤ (lst o).length) (k : IntKind) : yc9 (es α) (slA o) none (some (.int k i)) = some (slA (o.map (List.take i))) := by
  have h2 : (0 : Int) ≤ (i : Int) ∧ (i : Int) ≤ ((lst o).length : Int) := by omega
  cases o with
  | none =>
    have : i = 0 := by simpa using h
    subst this
    simp [yc9, slA, yva, ya7, yjt]
  | some L =>
    simp only [y63] at h2
    simp [yc9, slA, yva, ya7, yjt, h2, List.map_take]
theorem y1cx (o : Option (List Int)) (r : Int) (hl : (lst o).length ≤ 9223372036854775807) (h : Heap) : ∀ (d i : Nat), i + d = (lst o).length →
    ∃ k : Int, yi2 (slA o) (.int .i64 r) (.int .i64 (lst o).length) (.int .i64 i) h = some ⟨.int .i64 k, [], true, [], []⟩ ∧ (0 ≤ k ↔ r ∈ (lst o).drop i) := by
  intro d
  induction d with
  | zero =>
    intro i hi
    have e1 : (lst o).drop i = [] := List.drop_eq_nil_of_le (by omega)
    have hn : ¬ ((i : Int) < ((lst o).length : Int)) := by omega
    rw [yok, e1]
    exact ⟨-1, by simp [yoc, ylt, yo9, ylu, ynk, ymu, yfy, hn], by simp⟩
  | succ d ih =>
    intro i hi
    have hlt : i < (lst o).length := by omega
    have hn : ((i : Int) < ((lst o).length : Int)) := by omega
    have k1 := y3e (o := o) (i := i) (List.getElem?_eq_getElem hlt) .i64
    have hm : r ∈ (lst o).drop i ↔ r = (lst o)[i] ∨ r ∈ (lst o).drop (i + 1) := by rw [List.drop_eq_getElem_cons hlt, List.mem_cons]
    rw [yok, hm]
    by_cases he : r = (lst o)[i]
    · exact ⟨i, by simp [yoc, ylt, yo9, ylu, ynk, ymu, yfy, hn, k1, he], by simp [he]⟩
    · obtain ⟨k, h1, h2⟩ := ih (i + 1) (by omega)
      push_cast at h1
      refine ⟨k, ?_, ?_⟩
      · simp [yoc, ylt, yo9, ylu, ynk, ymu, yfy, hn, k1, he, y17 hlt hl, h1]
      · rw [h2]; simp [he]
@[simp] theorem ybq (o : Option (List Int)) (r : Int) (hl : (lst o).length ≤ 9223372036854775807) : (y7 E).p 46 [slA o, .int .i64 r] = some ⟨.bool ((lst o).contains r), [], true, [], []⟩ := by
  obtain ⟨k, h1, h2⟩ := y1cx o r hl [] (lst o).length 0 (by omega)
  simp only [Int.ofNat_zero, List.drop_zero] at h1 h2
  have hi : (y7 E).p 45 [slA o, .int .i64 r] = some ⟨.int .i64 k, [], true, [], []⟩ := by
    rw [y2pp, ← h1]
    simp [yoc, ylt, yo9, ylu, ynk, ymu, yfy]
  rw [y2mr]
  by_cases h0 : 0 ≤ k
  · have := h2.1 h0
    simp [y0l, hi, h0, this]
  · have : r ∉ lst o := fun h => h0 (h2.2 h)
    simp [y0l, hi, h0, this]
end Go.Vm
namespace Go.Vm
open Cel
attribute [local simp] y5 y26 yj
abbrev HC (f : Fn) (o1 o2 : AO) : Heap := [⟨1, .arr true false 5 [enc f]⟩, o1, o2]
abbrev E80 : Option (Ex AV) := some ⟨.int .i64 80, [], true, [], []⟩
abbrev E0 : Option (Ex AV) := some ⟨.int .i64 0, [], true, [], []⟩
theorem y1ab (f : Fn) (o1 : AO) (n : Int) (hn : n = (lst f.code).length) (hl : (lst f.rows).length ≤ 9223372036854775807) : ∀ (d i : Nat) (o2 : AO), i + d = (lst f.rows).length →
    ymw P0 (.int .i64 n) (slA f.rows) (.int .i64 (lst f.rows).length) (.int .i64 i) (HC f o1 o2) = if ((lst f.rows).drop i).all (y46 (lst f.code)) then E0 else E80 := by
  intro d
  induction d with
  | zero =>
    intro i o2 hi
    have e1 : (lst f.rows).drop i = [] := List.drop_eq_nil_of_le (by omega)
    have hn : ¬ ((i : Int) < ((lst f.rows).length : Int)) := by omega
    rw [ys8, e1]
    simp [y23k, y20d, y2iu, hn]
  | succ d ih =>
    intro i o2 hi
    have hlt : i < (lst f.rows).length := by omega
    have hc : ((i : Int) < ((lst f.rows).length : Int)) := by omega
    have k1 := yfo (o := f.rows) (i := i) (List.getElem?_eq_getElem hlt) .i64
    rw [ys8]
    have e1 : ((lst f.rows).drop i).all (y46 (lst f.code)) = (y46 (lst f.code) (lst f.rows)[i] && ((lst f.rows).drop (i + 1)).all (y46 (lst f.code))) := by rw [List.drop_eq_getElem_cons hlt, List.all_cons]
    rw [e1]
    generalize hr : (lst f.rows)[i] = r at *
    have ih := fun o2 => ih (i + 1) o2 (by omega)
    push_cast at ih
    subst hn
    simp only [y23k, y20d, yo, yb, hc, decide_true, y1p]
    by_cases h1 : r.f < 0
    · simp [yoq, k1, y46, h1]
    by_cases h2 : r.t ≤ r.f
    · simp [yoq, k1, y46, h1, h2]
    by_cases h3 : ((lst f.code).length : Int) < r.t
    · simp [yoq, k1, y46, h1, h2, h3]
    by_cases h4 : r.at_ < 0
    · simp [yoq, k1, y46, h1, h2, h3, h4]
    by_cases h5 : ((lst f.code).length : Int) ≤ r.at_
    · simp [yoq, k1, y46, h1, h2, h3, h4, h5]
    · have hx : r.at_.toNat < (lst f.code).length := by omega
      have k2 := y8e (o := f.code) (n := r.at_) (by omega) (List.getElem?_eq_getElem hx) .i64
      have hg : (lst f.code).getD r.at_.toNat default = (lst f.code)[r.at_.toNat] := by rw [List.getD_eq_getElem?_getD, List.getElem?_eq_getElem hx]; rfl
      by_cases h6 : ((lst f.code)[r.at_.toNat]).op = 32
      · simp [yoq, k1, y46, h1, h2, h3, h4, h5, k2, h6, hx, y2d8, y17 hlt hl, ih]
      · simp [yoq, k1, y46, h1, h2, h3, h4, h5, k2, h6, hx]
theorem y1b4 (f : Fn) (o1 o2 : AO) (n : Int) (hl : (lst f.regs).length ≤ 9223372036854775807) : ∀ (d i : Nat), i + d = (lst f.regs).length →
    yg6 P0 (.int .i64 n) (slA f.regs) (.int .i64 (lst f.regs).length) (.int .i64 i) (HC f o1 o2) = if ((lst f.regs).drop i).all (fun k => decide (1 ≤ k) && decide (k ≤ 3)) then yth P0 (.int .i64 n) (HC f o1 o2) else E80 := by
  intro d
  induction d with
  | zero =>
    intro i hi
    have e1 : (lst f.regs).drop i = [] := List.drop_eq_nil_of_le (by omega)
    have hn : ¬ ((i : Int) < ((lst f.regs).length : Int)) := by omega
    rw [yne, e1]
    simp [yy9, yzm, hn]
  | succ d ih =>
    intro i hi
    have hlt : i < (lst f.regs).length := by omega
    have hc : ((i : Int) < ((lst f.regs).length : Int)) := by omega
    have k1 := y3e (o := f.regs) (i := i) (List.getElem?_eq_getElem hlt) .i64
    have e1 : ((lst f.regs).drop i).all (fun k => decide (1 ≤ k) && decide (k ≤ 3)) = ((decide (1 ≤ (lst f.regs)[i]) && decide ((lst f.regs)[i] ≤ 3)) && ((lst f.regs).drop (i + 1)).all (fun k => decide (1 ≤ k) && decide (k ≤ 3))) := by
      rw [List.drop_eq_getElem_cons hlt, List.all_cons]
    rw [yne, e1]
    generalize hr : (lst f.regs)[i] = r at *
    have ih := ih (i + 1) (by omega)
    push_cast at ih
    simp only [yy9, yzm, yo, yb, hc, decide_true, y1p]
    by_cases h1 : r < 1
    · have : ¬ 1 ≤ r := by omega
      simp [yu4, k1, h1, this]
    by_cases h2 : 3 < r
    · have : ¬ r ≤ 3 := by omega
      simp [yu4, k1, h1, h2, this]
    · have a1 : 1 ≤ r := by omega
      have a2 : r ≤ 3 := by omega
      simp [yu4, k1, h1, h2, a1, a2, y1tm, y17 hlt hl, ih]
theorem yrb (f : Fn) (o1 o2 : AO) (n : Int) (hl : (lst f.params).length ≤ 9223372036854775807) : ∀ (d i : Nat), i + d = (lst f.params).length →
    yfj P0 (.int .i64 n) (slA f.params) (.int .i64 (lst f.params).length) (.int .i64 i) (HC f o1 o2) = if y8x (lst f.regs) i ((lst f.params).take i) ((lst f.params).drop i) then ytb P0 (.int .i64 n) (HC f o1 o2) else E80 := by
  intro d
  induction d with
  | zero =>
    intro i hi
    have e1 : (lst f.params).drop i = [] := List.drop_eq_nil_of_le (by omega)
    have hn : ¬ ((i : Int) < ((lst f.params).length : Int)) := by omega
    rw [ymj, e1]
    simp [yy8, y11k, hn, y8x]
  | succ d ih =>
    intro i hi
    have hlt : i < (lst f.params).length := by omega
    have hc : ((i : Int) < ((lst f.params).length : Int)) := by omega
    have k1 := y3e (o := f.params) (i := i) (List.getElem?_eq_getElem hlt) .i64
    have ks := y28q (α := Int) f.params i (by omega) .i64
    simp only [y28u] at ks
    have hlm : lst (f.params.map (List.take i)) = (lst f.params).take i := by cases f.params <;> simp
    have e1 : y8x (lst f.regs) i ((lst f.params).take i) ((lst f.params).drop i) = ((inR (lst f.regs) (lst f.params)[i] && !((lst f.params).take i).contains (lst f.params)[i] && decide (i ≤ 20)) && y8x (lst f.regs) (i + 1) ((lst f.params).take (i + 1)) ((lst f.params).drop (i + 1))) := by
      rw [List.drop_eq_getElem_cons hlt, y8x, List.take_append_getElem]
    rw [ymj, e1]
    have hct : (y7 E).p 46 [slA (f.params.map (List.take i)), .int .i64 (lst f.params)[i]] = some ⟨.bool (((lst f.params).take i).contains (lst f.params)[i]), [], true, [], []⟩ := by
      rw [ybq _ _ (by rw [hlm, List.length_take]; omega), hlm]
    generalize hr : (lst f.params)[i] = r at *
    generalize ((lst f.params).take i).contains r = B at *
    have ih := ih (i + 1) (by omega)
    push_cast at ih
    simp only [yy8, y11k, yo, yb, hc, decide_true, y1p]
    have e20 : ((20 : Int) < (i : Int)) ↔ ¬ i ≤ 20 := by omega
    by_cases h1 : r < 0
    · have : ¬ 0 ≤ r := by omega
      simp [yjo, k1, inR, h1, this]
    by_cases h2 : ((lst f.regs).length : Int) ≤ r
    · have : ¬ r < ((lst f.regs).length : Int) := by omega
      simp [yjo, k1, inR, h1, h2, this]
    · have a1 : 0 ≤ r := by omega
      have a2 : r < ((lst f.regs).length : Int) := by omega
      cases B with
      | true => simp [yjo, k1, inR, h1, h2, a1, a2, ks, hct]
      | false =>
        by_cases h3 : i ≤ 20
        · have h3' : ¬ ((20 : Int) < (i : Int)) := by omega
          simp [yjo, k1, inR, h1, h2, a1, a2, ks, hct, h3, h3', y1oc, y17 hlt hl, ih]
        · have h3' : ((20 : Int) < (i : Int)) := by omega
          simp [yjo, k1, inR, h1, h2, a1, a2, ks, hct, h3, h3']
theorem y1aq {R : List Int} {ret : Int} {n : Nat} {x : Ins} (h : y2l R ret n x = true) (hl : leads x.op = true) : 0 ≤ x.t ∧ x.t < n := by
  have hne : ¬ x.op = 1 ∧ ¬ x.op = 4 ∧ ¬ x.op = 7 ∧ ¬ x.op = 30 := by
    simp only [leads, Bool.or_eq_true, decide_eq_true_eq] at hl
    omega
  simp only [y2l, hne, if_false, hl, Bool.not_true, Bool.false_or, Bool.and_eq_true, decide_eq_true_eq] at h
  exact h
theorem yj2 {f : Fn} {x : Ins} (h : y14 f x = true) (hl : leads x.op = true) : 0 ≤ x.t ∧ x.t < (lst f.code).length := by
  simp only [y14, Bool.and_eq_true] at h
  exact y1aq h.2 hl
structure InsFit (x : Ins) : Prop where
  n : -9223372036854775808 ≤ x.n ∧ x.n < 9223372036854775808
  s : x.s.length ≤ 9223372036854775807
  a : (lst x.args).length ≤ 9223372036854775807
theorem y1bs (f : Fn) (o2 : AO) (n : Int) (x : Ins) (i g : Nat) (v92 v93 v94 : AV) (hi : i < (lst f.code).length) (hl : (lst f.code).length ≤ 9223372036854775807) (ht : leads x.op = true → 0 ≤ x.t ∧ x.t < (lst f.code).length) :
    ycf P0 (.int .i64 n) (.int .i64 i) (.lp 1 g 0 0) v92 v93 v94 (HC f ⟨g, .arr true false 9 [enc x]⟩ o2) =
      if y3f (lst f.code) i x then y15v P0 (.int .i64 n) v92 v93 v94 (HC f ⟨g, .arr true false 9 [enc x]⟩ o2) else E80 := by
  by_cases h32 : x.op = 32
  · have hld : leads x.op = false := by simp [leads, h32]
    by_cases h0 : i = 0
    · subst h0
      simp [ycf, h32, y3f]
    · have h0' : ¬ ((i : Int) = 0) := by omega
      have hp : i - 1 < (lst f.code).length := by omega
      have k1 := y7i (o := f.code) (i := i - 1) (List.getElem?_eq_getElem hp) .i64
      have hw : IntKind.wrap .i64 ((i : Int) - 1) = ((i - 1 : Nat) : Int) := by rw [y2v] <;> omega
      have hg : (lst f.code).getD (i - 1) default = (lst f.code)[i - 1] := by rw [List.getD_eq_getElem?_getD, List.getElem?_eq_getElem hp]; rfl
      have hld32 : leads 32 = false := by simp [leads]
      cases he : ends ((lst f.code)[i - 1]).op with
      | true => simp [ycf, h32, y3f, h0, h0', hw, k1, hp, he, hld32]
      | false => simp [ycf, h32, y3f, h0, h0', hw, k1, hp, he]
  · cases hld : leads x.op with
    | false => simp [ycf, h32, y3f, hld]
    | true =>
      obtain ⟨t0, t1⟩ := ht hld
      have hx : x.t.toNat < (lst f.code).length := by omega
      have k2 := y8e (o := f.code) (n := x.t) t0 (List.getElem?_eq_getElem hx) .i64
      by_cases h6 : ((lst f.code)[x.t.toNat]).op = 32
      · simp [ycf, h32, y3f, hld, k2, h6, hx]
      · simp [ycf, h32, y3f, hld, k2, h6, hx]
theorem y1cv (f : Fn) (o2 : AO) (n : Int) (hfit : ∀ x ∈ lst f.code, InsFit x) (hl : (lst f.code).length ≤ 9223372036854775807) : ∀ (d i : Nat) (o1 : AO), i + d = (lst f.code).length →
    ∃ o1', yfk P0 (.int .i64 n) (slA f.code) (.int .i64 (lst f.code).length) (.int .i64 i) (HC f o1 o2) = if y40 f (lst f.code) i ((lst f.code).drop i) then y1ni P0 (.int .i64 n) (HC f o1' o2) else E80 := by
  intro d
  induction d with
  | zero =>
    intro i o1 hi
    have e1 : (lst f.code).drop i = [] := List.drop_eq_nil_of_le (by omega)
    have hn : ¬ ((i : Int) < ((lst f.code).length : Int)) := by omega
    rw [yoe, e1]
    exact ⟨o1, by simp [y19l, y162, hn, y40]⟩
  | succ d ih =>
    intro i o1 hi
    have hlt : i < (lst f.code).length := by omega
    have hc : ((i : Int) < ((lst f.code).length : Int)) := by omega
    have k1 := y7i (o := f.code) (i := i) (List.getElem?_eq_getElem hlt) .i64
    have e1 : y40 f (lst f.code) i ((lst f.code).drop i) = (y14 f (lst f.code)[i] && y3f (lst f.code) i (lst f.code)[i] && y40 f (lst f.code) (i + 1) ((lst f.code).drop (i + 1))) := by
      rw [List.drop_eq_getElem_cons hlt, y40]
    have fit := hfit _ (List.getElem_mem hlt)
    rw [yoe, e1]
    generalize hx : (lst f.code)[i] = x at *
    have hr := y2f4 f x fit.n fit.s fit.a
    simp only [y19l, y162, yo, yb, hc, decide_true, y1p]
    cases hok : y14 f x with
    | false =>
      rw [hok] at hr
      exact ⟨o1, by simp [yr9, y13h, k1, hr]⟩
    | true =>
      rw [hok] at hr
      have e13 : ∀ K : Option (Ex AV), yr9 P0 (.int .i64 n) (slA f.code) (.int .i64 (lst f.code).length) (.int .i64 i) (HC f o1 o2) = ycf P0 (.int .i64 n) (.int .i64 i) (.lp 1 (o1.gen + 1) 0 0) (slA f.code) (.int .i64 (lst f.code).length) (.int .i64 i) (HC f ⟨o1.gen + 1, .arr true false 9 [enc x]⟩ o2) := by
        intro _
        simp [yr9, y13h, k1, hr]
      rw [e13 none]
      rw [y1bs f o2 n x i _ _ _ _ hlt hl (fun h => yj2 hok h)]
      cases hs : y3f (lst f.code) i x with
      | false => exact ⟨o1, by simp⟩
      | true =>
        obtain ⟨o1', ih⟩ := ih (i + 1) ⟨o1.gen + 1, .arr true false 9 [enc x]⟩ (by omega)
        push_cast at ih
        exact ⟨o1', by simp [y15v, y17 hlt hl, ih]⟩
structure FnFit (f : Fn) : Prop where
  ins : ∀ x ∈ lst f.code, InsFit x
  code : (lst f.code).length ≤ 9223372036854775807
  regs : (lst f.regs).length ≤ 9223372036854775807
  params : (lst f.params).length ≤ 9223372036854775807
  rows : (lst f.rows).length ≤ 9223372036854775807
theorem y1td (f : Fn) (hf : FnFit f) (o1 o2 : AO) (n : Int) (hn : n = (lst f.code).length) :
    yn6 P0 (.int .i64 n) (HC f o1 o2) = if (lst f.regs).all (fun k => decide (1 ≤ k) && decide (k ≤ 3)) && y8x (lst f.regs) 0 [] (lst f.params) && y40 f (lst f.code) 0 (lst f.code) && (lst f.rows).all (y46 (lst f.code)) then E0 else E80 := by
  have a1 := y1b4 f o1 o2 n hf.regs _ 0 (Nat.zero_add _)
  have a2 := yrb f o1 o2 n hf.params _ 0 (Nat.zero_add _)
  obtain ⟨o1', a3⟩ := y1cv f o2 n hf.ins hf.code _ 0 o1 (Nat.zero_add _)
  have a4 := y1ab f o1' n hn hf.rows _ 0 o2 (Nat.zero_add _)
  simp only [Int.ofNat_zero, List.drop_zero, List.take_zero] at a1 a2 a3 a4
  have e1 : yn6 P0 (.int .i64 n) (HC f o1 o2) = yg6 P0 (.int .i64 n) (slA f.regs) (.int .i64 (lst f.regs).length) (.int .i64 0) (HC f o1 o2) := by simp [yn6]
  have e2 : yth P0 (.int .i64 n) (HC f o1 o2) = yfj P0 (.int .i64 n) (slA f.params) (.int .i64 (lst f.params).length) (.int .i64 0) (HC f o1 o2) := by simp [yth]
  have e3 : ytb P0 (.int .i64 n) (HC f o1 o2) = yfk P0 (.int .i64 n) (slA f.code) (.int .i64 (lst f.code).length) (.int .i64 0) (HC f o1 o2) := by simp [ytb]
  have e4 : y1ni P0 (.int .i64 n) (HC f o1' o2) = ymw P0 (.int .i64 n) (slA f.rows) (.int .i64 (lst f.rows).length) (.int .i64 0) (HC f o1' o2) := by simp [y1ni]
  rw [e1, a1, e2, a2, e3, a3, e4, a4]
  generalize (lst f.regs).all (fun k => decide (1 ≤ k) && decide (k ≤ 3)) = b1
  generalize y8x (lst f.regs) 0 [] (lst f.params) = b2
  generalize y40 f (lst f.code) 0 (lst f.code) = b3
  generalize (lst f.rows).all (y46 (lst f.code)) = b4
  cases b1 <;> cases b2 <;> cases b3 <;> cases b4 <;> rfl
set_option maxHeartbeats 1000000 in
theorem y1wj (f : Fn) (hf : FnFit f) : (y7 E).p 8 [.agg (enc f)] = some ⟨.int .i64 (if wf f then 0 else 80), [], true, [], []⟩ := by
  rw [y2td]
  have hall := y1td f hf ⟨0, .dead⟩ ⟨0, .dead⟩ _ rfl
  by_cases h1 : (lst f.code).length < 1
  · have h1' : ((lst f.code).length : Int) < 1 := by omega
    have : ¬ 1 ≤ (lst f.code).length := by omega
    simp [ycl, yei, yfe, h1', wf, this]
  have h1' : ¬ ((lst f.code).length : Int) < 1 := by omega
  have g1 : 1 ≤ (lst f.code).length := by omega
  by_cases h2 : 20000 < (lst f.code).length
  · have h2' : (20000 : Int) < ((lst f.code).length : Int) := by omega
    have : ¬ (lst f.code).length ≤ 20000 := by omega
    simp [ycl, yei, yfe, h1', h2', wf, this]
  have h2' : ¬ (20000 : Int) < ((lst f.code).length : Int) := by omega
  have g2 : (lst f.code).length ≤ 20000 := by omega
  by_cases h3 : 20000 < (lst f.regs).length
  · have h3' : (20000 : Int) < ((lst f.regs).length : Int) := by omega
    have : ¬ (lst f.regs).length ≤ 20000 := by omega
    simp [ycl, yei, yfe, h1', h2', h3', wf, this]
  have h3' : ¬ (20000 : Int) < ((lst f.regs).length : Int) := by omega
  have g3 : (lst f.regs).length ≤ 20000 := by omega
  by_cases h4 : f.ret < 0
  · have : ¬ 0 ≤ f.ret := by omega
    simp [ycl, yei, yfe, h1', h2', h3', h4, wf, this]
  have g4 : 0 ≤ f.ret := by omega
  by_cases h5 : 3 < f.ret
  · have : ¬ f.ret ≤ 3 := by omega
    simp [ycl, yei, yfe, h1', h2', h3', h4, h5, wf, this]
  have g5 : f.ret ≤ 3 := by omega
  have hp : (lst f.code).length - 1 < (lst f.code).length := by omega
  have k1 := y7i (o := f.code) (i := (lst f.code).length - 1) (List.getElem?_eq_getElem hp) .i64
  have hw : IntKind.wrap .i64 (((lst f.code).length : Int) - 1) = (((lst f.code).length - 1 : Nat) : Int) := by rw [y2v] <;> omega
  have hg : (lst f.code).getD ((lst f.code).length - 1) default = (lst f.code)[(lst f.code).length - 1] := by rw [List.getD_eq_getElem?_getD, List.getElem?_eq_getElem hp]; rfl
  cases he : ends ((lst f.code)[(lst f.code).length - 1]).op with
  | false =>
    have hwf : wf f = false := by rw [wf, hg, he]; simp
    rw [hwf]
    simp [ycl, yei, yfe, h1', h2', h3', h4, h5, hw, k1, he]
  | true =>
    have hwf : wf f = ((lst f.regs).all (fun k => decide (1 ≤ k) && decide (k ≤ 3)) && y8x (lst f.regs) 0 [] (lst f.params) && y40 f (lst f.code) 0 (lst f.code) && (lst f.rows).all (y46 (lst f.code))) := by
      rw [wf, hg, he]
      simp only [g1, g2, g3, g4, g5, decide_true, Bool.true_and]
    have e : ycl (.agg (enc f)) [⟨0, .dead⟩, ⟨0, .dead⟩, ⟨0, .dead⟩] = yn6 P0 (.int .i64 (lst f.code).length) (HC f ⟨0, .dead⟩ ⟨0, .dead⟩) := by
      simp [ycl, yei, yfe, h1', h2', h3', h4, h5, hw, k1, he]
    rw [e, hall, hwf]
    split <;> rfl
end Go.Vm
