/- Functions with other instructions at some places: well formed as before. Ways to a read, from their beginning on. The instruction that does nothing. What the pass 'fold' leaves, in plain words. num on the machine. Maps from whole numbers, as lists of pairs. Where blocks begin, in plain words. What the functions of 'ins' answer of single instructions. flow.Heads: where blocks begin. The register that an instruction writes. What 'kinds' answers. What 'other' answers; all of 'kinds'. Whether one instruction is well formed: 'right'. 'right', whole. A number in a list: the library's 'Contains'. Whether a function is well formed: 'Check': its lists of registers, parameters, rows. -/
import Derived.Test.YtgbajicpokolcaaNX
import Derived.Test.YtgbajicpokolcaaNTb
set_option linter.unusedSimpArgs false
set_option linter.unusedVariables false
set_option linter.unusedSectionVars false
namespace Go.Vm
theorem yk9 {f : Fn} {C : List Ins} : ∀ (l : List Ins) (i : Nat), (∀ k x, l[k]? = some x → y20 f x = true ∧ y47 C (i + k) x = true) → y3o f C i l = true
  | [], _, _ => rfl
  | y :: l, i, h => by
    rw [y3o, (h 0 y rfl).1, yk9 l (i + 1) (fun k x hx => by
      have := h (k + 1) x (by simpa using hx)
      rwa [show i + (k + 1) = i + 1 + k by omega] at this)]
    have := (h 0 y rfl).2
    rw [Nat.add_zero] at this
    rw [this]; rfl
theorem yqp {f : Fn} {i : Nat} (h : (lst f.code).length ≤ i) : y1a f i = default := by
  rw [y1a, List.getD_eq_getElem?_getD, List.getElem?_eq_none h]; rfl
structure Swap (f g : Fn) : Prop where
  regs : g.regs = f.regs
  params : g.params = f.params
  ret : g.ret = f.ret
  rows : g.rows = f.rows
  len : (lst g.code).length = (lst f.code).length
theorem Swap.refl (f : Fn) : Swap f f := ⟨rfl, rfl, rfl, rfl, rfl⟩
theorem Swap.trans {f g h : Fn} (a : Swap f g) (b : Swap g h) : Swap f h := ⟨b.regs.trans a.regs, b.params.trans a.params, b.ret.trans a.ret, b.rows.trans a.rows, b.len.trans a.len⟩
theorem ymp {f g : Fn} (s : Swap f g) (x : Ins) : y20 g x = y20 f x := by
  unfold y20
  rw [s.regs, s.ret, s.len]
theorem y1t0 {f g : Fn} (s : Swap f g) (hw : wf f = true) (h : ∀ i, i < (lst f.code).length → y20 f (y1a g i) = true ∧ (ends (y1a f i).op = true → ends (y1a g i).op = true) ∧
    ((y1a g i).op = 32 ↔ (y1a f i).op = 32) ∧ (leads (y1a g i).op = true → leads (y1a f i).op = true ∧ (y1a g i).t = (y1a f i).t)) : wf g = true := by
  have w := y23b hw
  have e32 : ∀ i : Nat, (y1a g i).op = 32 ↔ (y1a f i).op = 32 := fun i => by
    by_cases hi : i < (lst f.code).length
    · exact (h i hi).2.2.1
    · rw [yqp (f := g) (by rw [s.len]; omega), yqp (f := f) (by omega)]
  have hlast := (h ((lst f.code).length - 1) (by have := w.n1; omega)).2.1 w.last
  have hspot : ∀ i, i < (lst f.code).length → y47 (lst g.code) i (y1a g i) = true := by
    intro i hi
    have h0 := w.spot i hi
    obtain ⟨_, _, h3, h4⟩ := h i hi
    unfold y47 at h0 ⊢
    rw [Bool.not_eq_true', Bool.or_eq_false_iff, Bool.and_eq_false_iff, Bool.and_eq_false_iff] at h0 ⊢
    refine ⟨?_, ?_⟩
    · rcases h0.1 with q | q
      · left
        simp only [decide_eq_false_iff_not] at q ⊢
        rwa [h3]
      · right
        rw [Bool.or_eq_false_iff] at q ⊢
        refine ⟨q.1, ?_⟩
        have he : ends (y1a f (i - 1)).op = true := by simpa [y1a] using q.2
        have := (h (i - 1) (by omega)).2.1 he
        simpa [y1a] using this
    · cases hl : leads (y1a g i).op with
      | false => exact .inl rfl
      | true =>
        right
        obtain ⟨a, b⟩ := h4 hl
        rcases h0.2 with h | h
        · rw [a] at h; cases h
        · simp only [decide_eq_false_iff_not] at h ⊢
          rw [b]
          exact fun e => h ((e32 _).1 e)
  have hw' := hw
  unfold wf at hw' ⊢
  rw [s.len, s.regs, s.ret, s.params, s.rows]
  simp only [Bool.and_eq_true] at hw' ⊢
  obtain ⟨⟨⟨⟨⟨⟨⟨⟨⟨h1, h2⟩, h3⟩, h4⟩, h5⟩, h6⟩, h7⟩, h8⟩, h9⟩, h10⟩ := hw'
  refine ⟨⟨⟨⟨⟨⟨⟨⟨⟨h1, h2⟩, h3⟩, h4⟩, h5⟩, hlast⟩, h7⟩, h8⟩, yk9 _ 0 fun k x hx => ?_⟩, ?_⟩
  · have hk : k < (lst f.code).length := by rw [← s.len]; exact (List.getElem?_eq_some_iff.1 hx).1
    have e : y1a g k = x := by rw [y1a, List.getD_eq_getElem?_getD, hx]; rfl
    rw [Nat.zero_add, ← e]
    exact ⟨by rw [ymp s]; exact (h k hk).1, hspot k hk⟩
  · rw [List.all_eq_true] at h10 ⊢
    intro r hr
    have := h10 r hr
    unfold y7f at this ⊢
    rw [s.len]
    rw [Bool.not_eq_true', Bool.or_eq_false_iff] at this ⊢
    refine ⟨this.1, ?_⟩
    have t2 := this.2
    simp only [decide_eq_false_iff_not, Classical.not_not] at t2 ⊢
    exact (e32 r.at_.toNat).2 t2
end Go.Vm
namespace Go.Vm
inductive Way (f : Fn) (r : Int) : Nat → Prop
  | use {i : Nat} : i < (lst f.code).length → r ∈ y1ae f i → Way f r i
  | step {i : Nat} {j : Int} : i < (lst f.code).length → j ∈ yyg f r i → 0 ≤ j → j < (lst f.code).length → Way f r j.toNat → Way f r i
theorem Way.lt {f : Fn} {r : Int} {i : Nat} (h : Way f r i) : i < (lst f.code).length := by cases h <;> assumption
theorem y1k9 {f : Fn} {r : Nat} {A : List Int} : yxf f A r ↔ ∃ a ∈ A, 0 ≤ a ∧ a < (lst f.code).length ∧ Way f r a.toNat := by
  rw [y17b f]
  constructor
  · rintro ⟨a, ha, a0, a1, k, hk, hu⟩
    refine ⟨a, ha, a0, a1, ?_⟩
    have key : ∀ {k : Nat}, Rch (lst f.code).length (yyg f r) [a] k → Way f r k → Way f r a.toNat := by
      intro k hk
      induction hk with
      | base hj j0 j1 =>
        rw [List.mem_singleton] at hj
        subst hj
        exact id
      | step h hj j0 j1 ih => exact fun w => ih (.step h.lt hj j0 j1 w)
    exact key hk (.use hk.lt hu)
  · rintro ⟨a, ha, a0, a1, w⟩
    refine ⟨a, ha, a0, a1, ?_⟩
    have key : ∀ {k : Nat}, Way f r k → ∀ {A : List Int}, Rch (lst f.code).length (yyg f r) A k → yxf f A r := by
      intro k w
      induction w with
      | use hi hu => exact fun h => ⟨_, h, hu⟩
      | step hi hj j0 j1 _ ih => exact fun h => ih (.step h hj j0 j1)
    exact key w (.base (by simp) a0 a1)
theorem y11j {f : Fn} {r : Nat} : badR f r ↔ 0 < (lst f.code).length ∧ Way f r 0 := by
  have : badR f r ↔ yxf f [0] r := Iff.rfl
  rw [this, y1k9]
  constructor
  · rintro ⟨a, ha, a0, a1, w⟩
    rw [List.mem_singleton] at ha
    subst ha
    exact ⟨by omega, w⟩
  · rintro ⟨h, w⟩
    exact ⟨0, by simp, by omega, by omega, w⟩
end Go.Vm
namespace Go.Vm
def nopI : Ins := ⟨33, 0, 0, 0, 0, 0, 0, [], none⟩
end Go.Vm
namespace Go.Vm
def yb (d n : Int) : Ins := ⟨1, d, 0, 0, 0, n, 0, [], none⟩
def y251 (t : Int) : Ins := ⟨27, 0, 0, 0, 0, 0, t, [], none⟩
abbrev Kn := List (Int × Int)
def y3k (x : Ins) (kn : Kn) : Ins :=
  if x.op = 6 then (match aget x.a kn with
    | some a => yb x.d (yuj x.n a)
    | none => x)
  else if x.op = 5 then (match aget x.a kn with
    | some a => (match aget x.b kn with
      | some b => yb x.d (twoM x.n a b)
      | none => x)
    | none => x)
  else if x.op = 4 then (match aget x.a kn with
    | some a => yb x.d a
    | none => x)
  else if x.op = 28 then (match aget x.a kn with
    | some a => (match aget x.b kn with
      | some b => if yl3 x.n a b then y251 x.t else nopI
      | none => x)
    | none => x)
  else x
def y9t (y : Ins) (kn : Kn) : Kn := if 0 ≤ defr y then (if y.op = 1 then aset (defr y) y.n (adel (defr y) kn) else adel (defr y) kn) else kn
def y8l (hd : Int → Bool) : Nat → Kn → List Ins → List Ins
  | _, _, [] => []
  | i, kn, x :: xs => y3k x (if hd i then [] else kn) :: y8l hd (i + 1) (y9t (y3k x (if hd i then [] else kn)) (if hd i then [] else kn)) xs
def yfn (f : Fn) (i : Int) : Bool := decide (i ∈ y5j f)
def y220 (f : Fn) : List Ins := y8l (yfn f) 0 [] (lst f.code)
structure KnOk (f : Fn) (kn : Kn) : Prop where
  new : anew kn
  at_ : ∀ r v, aget r kn = some v → y1j v ∧ ¬ regK (lst f.regs) r = 3 ∧ (regK (lst f.regs) r = 2 ∨ yl4 v)
theorem KnOk.nil (f : Fn) : KnOk f [] := ⟨trivial, fun r v h => by cases h⟩
structure Fold1 (f : Fn) (x y : Ins) : Prop where
  right : y20 f y = true
  n : y1j y.n
  s : y.s.length ≤ 9223372036854775807
  args : y.args = x.args ∨ y.args = none
  ends : ends x.op = true → ends y.op = true
  ctch : y.op = 32 ↔ x.op = 32
  lead : leads y.op = true → leads x.op = true ∧ y.t = x.t
  uses : ∀ u ∈ lst (uses y), u ∈ lst (uses x)
  def_ : defr y = defr x
  thr : throws y.op = throws x.op
  next : ∀ i to : Int, to ∈ y1n2 y i → to ∈ y1n2 x i
theorem Fold1.same {f : Fn} {x : Ins} (h : y20 f x = true) (hn : y1j x.n) (hs : x.s.length ≤ 9223372036854775807) : Fold1 f x x :=
  ⟨h, hn, hs, .inl rfl, id, Iff.rfl, fun h => ⟨h, rfl⟩, fun _ h => h, rfl, rfl, fun _ _ h => h⟩
theorem ye1 {f : Fn} {d v : Int} (hd : inR (lst f.regs) d = true) (h3 : ¬ regK (lst f.regs) d = 3) (hv : regK (lst f.regs) d = 2 ∨ yl4 v) : y20 f (yb d v) = true := by
  have h2 : (decide (regK (lst f.regs) d = 2) || decide (v = IntKind.wrap .i64 (IntKind.wrap .i32 v))) = true := by
    rcases hv with h | h
    · simp [h]
    · simp [← y1xx h]
  have ht : y38 (lst f.regs) f.ret (lst f.code).length (yb d v) = true := by
    show (decide (¬ regK (lst f.regs) d = 3) && (decide (regK (lst f.regs) d = 2) || decide (v = IntKind.wrap .i64 (IntKind.wrap .i32 v)))) = true
    rw [decide_eq_true h3, h2]
    rfl
  rw [y20, ht]
  simp [yb, yg, y1y, ydv, calls, hd]
structure FoldOk (f g : Fn) : Prop where
  swap : Swap f g
  at_ : ∀ i, i < (lst f.code).length → Fold1 f (y1a f i) (y1a g i)
section
variable {f g : Fn} (k : FoldOk f g)
include k
theorem FoldOk.wf (hw : Go.Vm.wf f = true) : Go.Vm.wf g = true :=
  y1t0 k.swap hw fun i hi => by
    have F := k.at_ i hi
    exact ⟨F.right, F.ends, F.ctch, F.lead⟩
theorem FoldOk.next {i to : Int} (h : to ∈ yyf g i) : to ∈ yyf f i := by
  unfold yyf at h ⊢
  rw [k.swap.len] at h
  split at h
  · cases h
  · rename_i hi
    rw [if_neg hi]
    exact (k.at_ i.toNat (by omega)).next _ _ h
theorem FoldOk.caught (i : Int) : ybk g i = ybk f i := by
  unfold ybk
  rw [k.swap.len, k.swap.rows]
  by_cases h : i < 0 ∨ ((lst f.code).length : Int) ≤ i
  · rw [if_pos h, if_pos h]
  · rw [if_neg h, if_neg h, (k.at_ i.toNat (by omega)).thr]
theorem FoldOk.way {r : Int} {i : Nat} (h : Way g r i) : Way f r i := by
  induction h with
  | use hi hu =>
    rw [k.swap.len] at hi
    exact .use hi ((k.at_ _ hi).uses _ hu)
  | @step i j hi hj j0 j1 _ ih =>
    rw [k.swap.len] at hi j1
    refine .step hi ?_ j0 j1 ih
    have F := k.at_ i hi
    unfold yyg at hj ⊢
    rw [k.caught, F.def_] at hj
    rw [List.mem_append] at hj ⊢
    refine hj.imp id fun h => ?_
    split at h
    · cases h
    · rename_i hd
      rw [if_neg hd]
      exact k.next h
theorem FoldOk.set (hw : Go.Vm.wf f = true) (hs : setM f = true) : setM g = true := by
  unfold setM at hs ⊢
  rw [k.wf hw]
  rw [hw] at hs
  simp only [Bool.true_and, decide_eq_true_eq] at hs ⊢
  intro r h0 h1 hp hb
  rw [k.swap.regs] at h1
  rw [k.swap.params] at hp
  have e : ((r.toNat : Nat) : Int) = r := by omega
  rw [← e] at hb
  obtain ⟨b1, b2⟩ := y11j.1 hb
  rw [k.swap.len] at b1
  refine hs r h0 h1 hp ?_
  rw [← e]
  exact y11j.2 ⟨b1, k.way b2⟩
end
end Go.Vm
namespace Go.Vm
open Cel
theorem yfo (k : IntKind) (a b : Int) : y2 .and (.int k a) (.int k b) = some (.int k (bI .and k a b)) := by simp [y2, y18, y1z, bI, nOf]
theorem evOr (k : IntKind) (a b : Int) : y2 .or (.int k a) (.int k b) = some (.int k (bI .or k a b)) := by simp [y2, y18, y1z, bI, nOf]
theorem y261 (k : IntKind) (a b : Int) : y2 .xor (.int k a) (.int k b) = some (.int k (bI .xor k a b)) := by simp [y2, y18, y1z, bI, nOf]
theorem y245 (k : IntKind) (a b : Int) : y2 .add (.int k a) (.int k b) = some (.int k (bI .add k a b)) := by simp [y2, y18, y1z, bI, nOf]
theorem y23e (k : IntKind) (a b : Int) : y2 .sub (.int k a) (.int k b) = some (.int k (bI .sub k a b)) := by simp [y2, y18, y1z, bI, nOf]
theorem y1zz (k : IntKind) (a b : Int) : y2 .mul (.int k a) (.int k b) = some (.int k (bI .mul k a b)) := by simp [y2, y18, y1z, bI, nOf]
theorem y239 (k k' : IntKind) (a b : Int) (h : 0 ≤ b) : y2 .shl (.int k a) (.int k' b) = some (.int k (shI .shl k a b)) := by
  have : ¬ b < 0 := by omega
  simp [y2, y18, y5y, shI, nOf, this]
theorem y1ld (k k' : IntKind) (a b : Int) (h : 0 ≤ b) : y2 .shr (.int k a) (.int k' b) = some (.int k (shI .shr k a b)) := by
  have : ¬ b < 0 := by omega
  simp [y2, y18, y5y, shI, nOf, this]
theorem y1ve (b : Int) : 0 ≤ bI .and .u32 b 31 := by
  simp [bI, y1z, nOf, IntKind.wrap, IntKind.signed, IntKind.bits]; omega
theorem y1te (b : Int) : 0 ≤ bI .and .u64 b 63 := by
  simp [bI, y1z, nOf, IntKind.wrap, IntKind.signed, IntKind.bits]; omega
theorem y1x6 (k : IntKind) (a : Int) : evUn .neg (.int k a) = some (.int k (k.wrap (-a))) := by simp [evUn]
theorem y1si (c a b : Int) : (y6 E).p 129 [.int .i64 c, .int .i64 a, .int .i64 b] = some ⟨.bool (yl3 c a b), [], true, [], []⟩ := by
  rw [y29r]
  unfold yl3
  by_cases h0 : c = 0
  · simp [yjb, yit, yie, h0]
  by_cases h1 : c = 1
  · simp [yjb, yit, yie, h1]
  by_cases h2 : c = 2
  · simp [yjb, yit, yie, h2]
  by_cases h3 : c = 3
  · simp [yjb, yit, yie, h3]
  by_cases h4 : c = 4
  · simp [yjb, yit, yie, h4]
  by_cases h5 : c = 5
  · simp [yjb, yit, yie, h5]
  simp [yjb, yit, yie, h0, h1, h2, h3, h4, h5]
theorem y205 (c a : Int) : (y6 E).p 127 [.int .i64 c, .int .i64 a] = some ⟨.int .i64 (yuj c a), [], true, [], []⟩ := by
  rw [y2a4]
  unfold yuj
  by_cases h0 : c = 116
  · simp [yfv, yex, yfu, yg3, yfm, yfx, yfq, yg4, y93, h0, y1x6]
  by_cases h1 : c = 117
  · simp [yfv, yex, yfu, yg3, yfm, yfx, yfq, yg4, y93, h1, y1x6]
  by_cases h2 : c = 133
  · simp [yfv, yex, yfu, yg3, yfm, yfx, yfq, yg4, y93, h2]
  by_cases h3 : c = 136
  · simp [yfv, yex, yfu, yg3, yfm, yfx, yfq, yg4, y93, h3]
  by_cases h4 : c = 145
  · simp [yfv, yex, yfu, yg3, yfm, yfx, yfq, yg4, y93, h4]
  by_cases h5 : c = 146
  · simp [yfv, yex, yfu, yg3, yfm, yfx, yfq, yg4, y93, h5]
  by_cases h6 : c = 147
  · simp [yfv, yex, yfu, yg3, yfm, yfx, yfq, yg4, y93, h6]
  simp [yfv, yex, yfu, yg3, yfm, yfx, yfq, yg4, y93, h0, h1, h2, h3, h4, h5, h6]
theorem y19w (r : Bool) (a b : Int) : (y6 E).p 132 [.bool r, .int .i64 a, .int .i64 b] = some ⟨.int .i64 (divM r a b), [], true, [], []⟩ := by
  rw [y29x]
  unfold divM
  by_cases h0 : b = 0
  · simp [y1aa, y12t, y1aj, y146, y1bx, y133, y1eq, ym5, h0]
  by_cases h1 : b = -1
  · cases r <;> simp [y1aa, y12t, y1aj, y146, y1bx, y133, y1eq, ym5, h1, y1x6]
  have q1 : y2 .quo (.int .i64 a) (.int .i64 b) = some (.int .i64 (IntKind.wrap .i64 (a.tdiv b))) := by simp [y2, y18, y1z, h0]
  have q2 : y2 .rem (.int .i64 a) (.int .i64 b) = some (.int .i64 (a.tmod b)) := by simp [y2, y18, y1z, h0]
  cases r <;> simp [y1aa, y12t, y1aj, y146, y1bx, y133, y1eq, ym5, h0, h1, q1, q2]
theorem y1ko (r : Bool) (a b : Int) (fb : Nat) (H : Heap) : y4 E (y6 E) fb none true 132 [.bool r, .int .i64 a, .int .i64 b] H = some (.int .i64 (divM r a b), H) :=
  yp (fa := ⟨[.bool r, .int .i64 a, .int .i64 b], true, []⟩) rfl rfl rfl (y19w r a b) ⟨_, rfl, rfl⟩
set_option maxHeartbeats 1000000 in
theorem y29l (c a b : Int) : (y6 E).p 130 [.int .i64 c, .int .i32 a, .int .i32 b] = some ⟨.int .i32 (intM c a b), [], true, [], []⟩ := by
  rw [y28y]
  unfold intM
  have g1 := y239 .i32 .u32 a _ (y1ve (IntKind.wrap .u32 b))
  have g2 := y1ld .i32 .u32 a _ (y1ve (IntKind.wrap .u32 b))
  have g3 := y1ld .u32 .u32 (IntKind.wrap .u32 a) _ (y1ve (IntKind.wrap .u32 b))
  by_cases h0 : c = 96
  · simp [yav, y9m, ya3, y9z, ya9, y9p, yak, ya5, yay, y4y, y4w, h0, y245, -yn]
  by_cases h1 : c = 100
  · simp [yav, y9m, ya3, y9z, ya9, y9p, yak, ya5, yay, y4y, y4w, h1, y23e, -y37]
  by_cases h2 : c = 104
  · simp [yav, y9m, ya3, y9z, ya9, y9p, yak, ya5, yay, y4y, y4w, h2, y1zz, -ylg]
  by_cases h3 : c = 108
  · simp [yav, y9m, ya3, y9z, ya9, y9p, yak, ya5, yay, y4y, y4w, h3, y1ko]
  by_cases h4 : c = 112
  · simp [yav, y9m, ya3, y9z, ya9, y9p, yak, ya5, yay, y4y, y4w, h4, y1ko]
  by_cases h5 : c = 120
  · simp [yav, y9m, ya3, y9z, ya9, y9p, yak, ya5, yay, y4y, y4w, h5, yfo, g1]
  by_cases h6 : c = 122
  · simp [yav, y9m, ya3, y9z, ya9, y9p, yak, ya5, yay, y4y, y4w, h6, yfo, g2]
  by_cases h7 : c = 124
  · simp [yav, y9m, ya3, y9z, ya9, y9p, yak, ya5, yay, y4y, y4w, h7, yfo, g3]
  by_cases h8 : c = 126
  · simp [yav, y9m, ya3, y9z, ya9, y9p, yak, ya5, yay, y4y, y4w, h8, yfo]
  by_cases h9 : c = 128
  · simp [yav, y9m, ya3, y9z, ya9, y9p, yak, ya5, yay, y4y, y4w, h9, evOr]
  by_cases h10 : c = 130
  · simp [yav, y9m, ya3, y9z, ya9, y9p, yak, ya5, yay, y4y, y4w, h10, y261]
  simp [yav, y9m, ya3, y9z, ya9, y9p, yak, ya5, yay, y4y, y4w, h0, h1, h2, h3, h4, h5, h6, h7, h8, h9, h10]
set_option maxHeartbeats 1000000 in
theorem y24c (c a b : Int) : (y6 E).p 131 [.int .i64 c, .int .i64 a, .int .i64 b] = some ⟨.int .i64 (y9k c a b), [], true, [], []⟩ := by
  rw [y288]
  unfold y9k
  have g1 := y239 .i64 .u64 a _ (y1te (IntKind.wrap .u64 b))
  have g2 := y1ld .i64 .u64 a _ (y1te (IntKind.wrap .u64 b))
  have g3 := y1ld .u64 .u64 (IntKind.wrap .u64 a) _ (y1te (IntKind.wrap .u64 b))
  by_cases h0 : c = 97
  · simp [ya8, y95, y9x, yb0, yae, y9o, ya1, yb1, ya7, y51, y4x, h0, y245, -yn]
  by_cases h1 : c = 101
  · simp [ya8, y95, y9x, yb0, yae, y9o, ya1, yb1, ya7, y51, y4x, h1, y23e, -y37]
  by_cases h2 : c = 105
  · simp [ya8, y95, y9x, yb0, yae, y9o, ya1, yb1, ya7, y51, y4x, h2, y1zz, -ylg]
  by_cases h3 : c = 109
  · simp [ya8, y95, y9x, yb0, yae, y9o, ya1, yb1, ya7, y51, y4x, h3, y1ko]
  by_cases h4 : c = 113
  · simp [ya8, y95, y9x, yb0, yae, y9o, ya1, yb1, ya7, y51, y4x, h4, y1ko]
  by_cases h5 : c = 121
  · simp [ya8, y95, y9x, yb0, yae, y9o, ya1, yb1, ya7, y51, y4x, h5, yfo, g1]
  by_cases h6 : c = 123
  · simp [ya8, y95, y9x, yb0, yae, y9o, ya1, yb1, ya7, y51, y4x, h6, yfo, g2]
  by_cases h7 : c = 125
  · simp [ya8, y95, y9x, yb0, yae, y9o, ya1, yb1, ya7, y51, y4x, h7, yfo, g3]
  by_cases h8 : c = 127
  · simp [ya8, y95, y9x, yb0, yae, y9o, ya1, yb1, ya7, y51, y4x, h8, yfo]
  by_cases h9 : c = 129
  · simp [ya8, y95, y9x, yb0, yae, y9o, ya1, yb1, ya7, y51, y4x, h9, evOr]
  by_cases h10 : c = 131
  · simp [ya8, y95, y9x, yb0, yae, y9o, ya1, yb1, ya7, y51, y4x, h10, y261]
  simp [ya8, y95, y9x, yb0, yae, y9o, ya1, yb1, ya7, y51, y4x, h0, h1, h2, h3, h4, h5, h6, h7, h8, h9, h10]
theorem y24y (c a b : Int) : (y6 E).p 128 [.int .i64 c, .int .i64 a, .int .i64 b] = some ⟨.int .i64 (twoM c a b), [], true, [], []⟩ := by
  rw [y282]
  unfold twoM
  have cI : ∀ H, y4 E (y6 E) 0 none true 130 [.int .i64 c, .int .i32 (IntKind.wrap .i32 a), .int .i32 (IntKind.wrap .i32 b)] H = some (.int .i32 (intM c (IntKind.wrap .i32 a) (IntKind.wrap .i32 b)), H) := fun H =>
    yp (fa := ⟨[.int .i64 c, .int .i32 (IntKind.wrap .i32 a), .int .i32 (IntKind.wrap .i32 b)], true, []⟩) rfl rfl rfl (y29l c _ _) ⟨_, rfl, rfl⟩
  have cL : ∀ H, y4 E (y6 E) 0 none true 131 [.int .i64 c, .int .i64 a, .int .i64 b] H = some (.int .i64 (y9k c a b), H) := fun H =>
    yp (fa := ⟨[.int .i64 c, .int .i64 a, .int .i64 b], true, []⟩) rfl rfl rfl (y24c c a b) ⟨_, rfl, rfl⟩
  by_cases h0 : c = 148
  · by_cases h1 : a < b
    · simp [yml, ymn, ynk, ynv, ymm, yo2, h0, h1]
    · by_cases h2 : b < a
      · simp [yml, ymn, ynk, ynv, ymm, yo2, h0, h1, h2]
      · simp [yml, ymn, ynk, ynv, ymm, yo2, h0, h1, h2]
  · by_cases h1 : bI .and .i64 c 1 = 0
    · simp only [yml, ymn, ynk, ynv, ymm, yo2, y9, h0, decide_false, y3, y15, yfo, h1, decide_true, yx, y4n, cI, yc, ygs, if_false, if_true]
    · simp only [yml, ymn, ynk, ynv, ymm, yo2, y9, h0, decide_false, y3, y15, yfo, h1, cL, yc, ygs, if_false]
end Go.Vm
namespace Go.Vm
open Cel
section
variable {α : Type}
variable (vf : α → AV)
def mEnt (l : List (Int × α)) : List (AV × AV) := l.map fun p => (.int .i64 p.1, vf p.2)
theorem ye8 (k : Int) : ∀ l : List (Int × α), mfind false [0] (.int .i64 k) (mEnt vf l) = some ((aget k l).map vf)
  | [] => rfl
  | (k', v') :: r => by
    have ih := ye8 k r
    simp only [mEnt, List.map_cons, mfind, yiv, Bool.false_eq_true, if_false, y3g, if_true, aget] at ih ⊢
    by_cases e : k = k'
    · simp [e]
    · have : (k == k') = false := by simpa using e
      rw [this]
      simp only [if_neg e]
      exact ih
theorem ytg (k : Int) (v : α) : ∀ l : List (Int × α), mset false [0] (.int .i64 k) (vf v) (mEnt vf l) = some (mEnt vf (aset k v l))
  | [] => rfl
  | (k', v') :: r => by
    have ih := ytg k v r
    simp only [mEnt, List.map_cons, mset, yiv, Bool.false_eq_true, if_false, y3g, if_true, aset] at ih ⊢
    by_cases e : k = k'
    · simp [e]
    · have : (k == k') = false := by simpa using e
      rw [this]
      simp only [if_neg e, ih, Option.map_some, List.map_cons]
theorem ykc (k : Int) : ∀ l : List (Int × α), mdrop false [0] (.int .i64 k) (mEnt vf l) = some (mEnt vf (adel k l))
  | [] => rfl
  | (k', v') :: r => by
    have ih := ykc k r
    simp only [mEnt, List.map_cons, mdrop, yiv, Bool.false_eq_true, if_false, y3g, if_true, adel] at ih ⊢
    by_cases e : k = k'
    · simp [e]
    · have : (k == k') = false := by simpa using e
      rw [this]
      simp only [if_neg e, ih, Option.map_some, List.map_cons]
abbrev AM (g : Nat) (l : List (Int × α)) : AO := ⟨g, .map false (mEnt vf l)⟩
variable {vf}
theorem y9w {H : Heap} {id g : Nat} {l : List (Int × α)} (h : H[id]? = some (AM vf g l)) : y9g H id g = some (false, mEnt vf l) := by
  simp [y9g, y2x, h]
theorem y1yn {H : Heap} {id g : Nat} {l : List (Int × α)} (h : H[id]? = some (AM vf g l)) (z : AV) (k : Int) : y3s false [0] z false (.lm id g) (.int .i64 k) H = some (((aget k l).map vf).getD z) := by
  simp only [y3s, y9w h, Option.map_some, ye8]
  cases aget k l <;> rfl
theorem y1pu {H : Heap} {id g : Nat} {l : List (Int × α)} (h : H[id]? = some (AM vf g l)) (z : AV) (k : Int) : y3s false [0] z true (.lm id g) (.int .i64 k) H = some (match aget k l with | some v => .tup [vf v, .bool true] | none => .tup [z, .bool false]) := by
  simp only [y3s, y9w h, Option.map_some, ye8]
  cases aget k l <;> rfl
theorem y156 {H : Heap} {id g : Nat} {l : List (Int × α)} (h : H[id]? = some (AM vf g l)) (k : Int) (v : α) : y6s false [0] (.lm id g) (.int .i64 k) (vf v) H = some (.tup [], H.set id (AM vf g (aset k v l))) := by
  simp only [y6s, y9w h, ytg, y55, h]
theorem y1ti {H : Heap} {id g : Nat} {l : List (Int × α)} (h : H[id]? = some (AM vf g l)) (k : Int) : y84 false [0] (.lm id g) (.int .i64 k) H = some (.tup [], H.set id (AM vf g (adel k l))) := by
  simp only [y84, y9w h, ykc, y55, h]
theorem y1t1 {H : Heap} {id g : Nat} {l : List (Int × α)} (h : H[id]? = some (AM vf g l)) : y8p (.lm id g) H = some (.tup [], H.set id (AM vf g [])) := by
  simp only [y8p, y9w h, y55, h]; rfl
variable (vf) in
theorem y1q5 {H : Heap} {fb j : Nat} {o : AO} (h : H[fb + j]? = some o) : mkmC fb (some j) H = some (.lm (fb + j) (o.gen + 1), H.set (fb + j) (AM vf (o.gen + 1) [])) := by
  have e : AM vf (o.gen + 1) [] = ⟨o.gen + 1, .map false []⟩ := rfl
  rw [e]
  simp [mkmC, place, h]
end
abbrev vI (n : Int) : AV := .int .i64 n
abbrev vB (b : Bool) : AV := .bool b
end Go.Vm
namespace Go.Vm
def putP (n : Nat) (p : Int) (a : List Bool) : List Bool := if 0 ≤ p ∧ p < n then a.set p.toNat true else a
def yyh (n i : Nat) (x : Ins) (a : List Bool) : List Bool :=
  if leads x.op || ends x.op then (if leads x.op then putP n x.t a else a).set (i + 1) true else (if leads x.op then putP n x.t a else a)
def hA1 (n : Nat) : Nat → List Ins → List Bool → List Bool
  | _, [], a => a
  | i, x :: r, a => hA1 n (i + 1) r (yyh n i x a)
def hA2 (n : Nat) : List Row → List Bool → List Bool
  | [], a => a
  | r :: rs, a => hA2 n rs (putP n r.at_ (putP n r.t (putP n r.f a)))
def hA0 (n : Nat) : List Bool := if 0 < n then (List.replicate (n + 1) false).set 0 true else List.replicate (n + 1) false
@[simp] theorem y27j (n : Nat) (p : Int) (a : List Bool) : (putP n p a).length = a.length := by unfold putP; split <;> simp
@[simp] theorem y266 (n i : Nat) (x : Ins) (a : List Bool) : (yyh n i x a).length = a.length := by
  unfold yyh
  split <;> split <;> simp
theorem yil (n : Nat) : ∀ (l : List Ins) (i : Nat) (a : List Bool), (hA1 n i l a).length = a.length
  | [], _, _ => rfl
  | x :: l, i, a => by rw [hA1, yil]; simp
theorem yzr (n : Nat) : ∀ (l : List Row) (a : List Bool), (hA2 n l a).length = a.length
  | [], _ => rfl
  | x :: l, a => by rw [hA2, yzr]; simp
@[simp] theorem yid (n : Nat) : (hA0 n).length = n + 1 := by unfold hA0; split <;> simp
theorem yn2 {a : List Bool} {i j : Nat} (h : j < a.length) : (a.set i true)[j]? = some true ↔ a[j]? = some true ∨ i = j := by
  rw [List.getElem?_set]
  by_cases e : i = j
  · subst e; simp [h]
  · rw [if_neg e]; exact ⟨.inl, fun h => h.resolve_right e⟩
theorem ycx {n : Nat} {p : Int} {a : List Bool} {j : Nat} (h : j < a.length) : (putP n p a)[j]? = some true ↔ a[j]? = some true ∨ (0 ≤ p ∧ p < n ∧ p.toNat = j) := by
  unfold putP
  split
  · rename_i hc
    rw [yn2 h]
    exact ⟨fun h => h.imp id fun e => ⟨hc.1, hc.2, e⟩, fun h => h.imp id fun e => e.2.2⟩
  · rename_i hc
    exact ⟨.inl, fun h => h.resolve_right fun e => hc ⟨e.1, e.2.1⟩⟩
def hitI (n i j : Nat) (x : Ins) : Prop := (leads x.op = true ∧ 0 ≤ x.t ∧ x.t < n ∧ x.t.toNat = j) ∨ ((leads x.op || ends x.op) = true ∧ i + 1 = j)
theorem y1fu {n i : Nat} {x : Ins} {a : List Bool} {j : Nat} (h : j < a.length) : (yyh n i x a)[j]? = some true ↔ a[j]? = some true ∨ hitI n i j x := by
  have h1 : (if leads x.op = true then putP n x.t a else a)[j]? = some true ↔ a[j]? = some true ∨ (leads x.op = true ∧ 0 ≤ x.t ∧ x.t < n ∧ x.t.toNat = j) := by
    split
    · rename_i hl
      rw [ycx h]; simp [hl]
    · rename_i hl
      simp [hl]
  unfold yyh hitI
  split
  · rename_i hc
    rw [yn2 (by split <;> simp [h]), h1]
    simp only [hc, true_and, or_assoc]
  · rename_i hc
    rw [h1]
    simp only [hc, Bool.false_eq_true, false_and, or_false]
theorem y1ex {n j : Nat} : ∀ (l : List Ins) (i : Nat) (a : List Bool), j < a.length → ((hA1 n i l a)[j]? = some true ↔ a[j]? = some true ∨ ∃ k x, l[k]? = some x ∧ hitI n (i + k) j x)
  | [], i, a, h => by simp [hA1]
  | y :: l, i, a, h => by
    rw [hA1, y1ex l (i + 1) _ (by simpa using h), y1fu h, or_assoc]
    apply or_congr_right
    constructor
    · rintro (h | ⟨k, x, h1, h2⟩)
      · exact ⟨0, y, rfl, h⟩
      · exact ⟨k + 1, x, h1, by rw [show i + (k + 1) = i + 1 + k by omega]; exact h2⟩
    · rintro ⟨k, x, h1, h2⟩
      cases k with
      | zero => simp at h1; subst h1; exact .inl h2
      | succ k => exact .inr ⟨k, x, h1, by rw [show i + 1 + k = i + (k + 1) by omega]; exact h2⟩
def hitR (n j : Nat) (r : Row) : Prop := (0 ≤ r.f ∧ r.f < n ∧ r.f.toNat = j) ∨ (0 ≤ r.t ∧ r.t < n ∧ r.t.toNat = j) ∨ (0 ≤ r.at_ ∧ r.at_ < n ∧ r.at_.toNat = j)
theorem y115 {n j : Nat} : ∀ (l : List Row) (a : List Bool), j < a.length → ((hA2 n l a)[j]? = some true ↔ a[j]? = some true ∨ ∃ r ∈ l, hitR n j r)
  | [], a, h => by simp [hA2]
  | r :: l, a, h => by
    rw [hA2, y115 l _ (by simpa using h), ycx (by simpa using h), ycx (by simpa using h), ycx h]
    simp only [List.mem_cons, exists_eq_or_imp, hitR, or_assoc]
theorem y1yb {n j : Nat} (h : j < n) : (hA0 n)[j]? = some true ↔ j = 0 := by
  unfold hA0
  rw [if_pos (by omega), yn2 (by simp; omega)]
  constructor
  · rintro (h | h)
    · rw [List.getElem?_replicate] at h; split at h <;> cases h
    · exact h.symm
  · exact fun e => .inr e.symm
def hA (f : Fn) : List Bool := hA2 (lst f.code).length (lst f.rows) (hA1 (lst f.code).length 0 (lst f.code) (hA0 (lst f.code).length))
theorem y20b (f : Fn) : (hA f).length = (lst f.code).length + 1 := by rw [hA, yzr, yil, yid]
theorem yy3 (f : Fn) (i : Nat) : y92 f i = true ↔ i = 0 ∨ (leads (y1a f (i - 1)).op || ends (y1a f (i - 1)).op) = true ∨ (∃ x ∈ lst f.code, leads x.op = true ∧ x.t = i) ∨ ∃ r ∈ lst f.rows, r.f = i ∨ r.t = i ∨ r.at_ = i := by
  simp only [y92, Bool.or_eq_true, decide_eq_true_eq, List.any_eq_true, Bool.and_eq_true, or_assoc]
theorem y25h (f : Fn) {j : Nat} (h : j < (lst f.code).length) : (hA f)[j]? = some (y92 f j) := by
  have hj : j < (hA f).length := by rw [y20b]; omega
  have key : (hA f)[j]? = some true ↔ y92 f j = true := by
    rw [hA, y115 _ _ (by rw [yil, yid]; omega), y1ex _ _ _ (by rw [yid]; omega), y1yb h, yy3, or_assoc]
    by_cases j0 : j = 0
    · exact ⟨fun _ => .inl j0, fun _ => .inl j0⟩
    apply or_congr_right
    constructor
    · rintro (⟨k, x, h1, h2 | h2⟩ | ⟨r, h1, h2⟩)
      · exact .inr (.inl ⟨x, List.mem_of_getElem? h1, h2.1, by omega⟩)
      · left
        have : y1a f (j - 1) = x := by
          rw [y1a, List.getD_eq_getElem?_getD, show j - 1 = k by omega, h1]; rfl
        rw [this]; exact h2.1
      · refine .inr (.inr ⟨r, h1, ?_⟩)
        rcases h2 with h2 | h2 | h2
        · exact .inl (by omega)
        · exact .inr (.inl (by omega))
        · exact .inr (.inr (by omega))
    · rintro (h1 | ⟨x, h1, h2, h3⟩ | ⟨r, h1, h2⟩)
      · refine .inl ⟨j - 1, y1a f (j - 1), yd5 (by omega), .inr ⟨h1, by omega⟩⟩
      · obtain ⟨k, hk⟩ := List.getElem?_of_mem h1
        exact .inl ⟨k, x, hk, .inl ⟨h2, by omega, by omega, by omega⟩⟩
      · refine .inr ⟨r, h1, ?_⟩
        rcases h2 with h2 | h2 | h2
        · exact .inl ⟨by omega, by omega, by omega⟩
        · exact .inr (.inl ⟨by omega, by omega, by omega⟩)
        · exact .inr (.inr ⟨by omega, by omega, by omega⟩)
  rw [List.getElem?_eq_getElem hj] at key ⊢
  simp only [Option.some.injEq] at key ⊢
  cases hb : (hA f)[j] <;> cases hc : y92 f j <;> simp_all
end Go.Vm
namespace Go.Vm
open Cel
attribute [local simp] y4 y2f yy
@[simp] theorem y2b2 (x : Ins) : (y6 E).p 24 [.agg (enc x)] = some ⟨.bool (ends x.op), [], true, [], []⟩ := by
  rw [y2a5, y1ws]
  by_cases h1 : x.op = 27
  · simp [h1, ends]
  by_cases h2 : x.op = 30
  · simp [h2, ends]
  by_cases h3 : x.op = 31 <;> simp [h1, h2, h3, ends]
@[simp] theorem y29c (x : Ins) : (y6 E).p 22 [.agg (enc x)] = some ⟨.bool (leads x.op), [], true, [], []⟩ := by
  rw [y2aj, y1yh]
  by_cases h1 : x.op = 27
  · simp [h1, leads]
  by_cases h2 : x.op = 28
  · simp [h2, leads]
  by_cases h3 : x.op = 29 <;> simp [h1, h2, h3, leads]
@[simp] theorem yn4 (x : Ins) : (y6 E).p 17 [.agg (enc x)] = some ⟨.bool (calls x.op), [], true, [], []⟩ := by
  rw [y284, y1vf]
  by_cases h1 : 23 ≤ x.op
  · by_cases h2 : x.op ≤ 26 <;> simp [h1, h2, calls]
  · simp [h1, calls]
end Go.Vm
namespace Go.Vm
open Cel
attribute [local simp] y4 y2f yy
abbrev HH (f : Fn) (a : List Bool) (o2 o3 o4 o5 o6 : AO) : Heap := [⟨1, .arr true false 5 [enc f]⟩, ⟨1, .arr false false 1 (a.map enc)⟩, o2, o3, o4, o5, o6]
theorem ixAt {n : Nat} {p : Int} (h0 : 0 ≤ p) (h1 : p < (n : Int)) (id g : Nat) (k : IntKind) : yv 1 (.ls id g 1 0 n) (.int k p) = some (.lp id g p.toNat 0) := by simp [yv, h0, h1]
theorem stHH (f : Fn) (a : List Bool) (o2 o3 o4 o5 o6 : AO) {j : Nat} (h : j < a.length) : evSt 1 (.lp 1 1 j 0) (.bool true) (HH f a o2 o3 o4 o5 o6) = some (.tup [], HH f (a.set j true) o2 o3 o4 o5 o6) :=
  y19q (α := Bool) (v := .bool true) (y := true) rfl h rfl
theorem yys (f : Fn) (o3 o4 o5 o6 : AO) (hl : (lst f.code).length ≤ 9223372036854775806) : ∀ (d i : Nat) (a : List Bool) (o2 : AO), i + d = (lst f.code).length → a.length = (lst f.code).length + 1 →
    ∃ o2', ye0 (.lp 0 1 0 0) (.ls 1 1 1 0 ((lst f.code).length + 1)) (slA f.code) (.int .i64 (lst f.code).length) (.int .i64 i) (HH f a o2 o3 o4 o5 o6) =
      yky (.lp 0 1 0 0) (.ls 1 1 1 0 ((lst f.code).length + 1)) (HH f (hA1 (lst f.code).length i ((lst f.code).drop i) a) o2' o3 o4 o5 o6) := by
  intro d
  induction d with
  | zero =>
    intro i a o2 hi _
    have e1 : (lst f.code).drop i = [] := List.drop_eq_nil_of_le (by omega)
    have hn : ¬ ((i : Int) < ((lst f.code).length : Int)) := by omega
    rw [yh3, e1]
    exact ⟨o2, by simp [ylf, ysh, hn, hA1]⟩
  | succ d ih =>
    intro i a o2 hi ha
    have hlt : i < (lst f.code).length := by omega
    have hc : ((i : Int) < ((lst f.code).length : Int)) := by omega
    have k1 := ybn (o := f.code) (i := i) (List.getElem?_eq_getElem hlt) .i64
    have hw := y2b hlt (by omega)
    rw [yh3, List.drop_eq_getElem_cons hlt, hA1]
    generalize (lst f.code)[i] = x at *
    generalize hN : (lst f.code).length = n at *
    have e36 : ylf (.lp 0 1 0 0) (.ls 1 1 1 0 (n + 1)) (slA f.code) (.int .i64 n) (.int .i64 i) (HH f a o2 o3 o4 o5 o6) =
        yc2 (.lp 0 1 0 0) (.ls 1 1 1 0 (n + 1)) (.int .i64 i) (.lp 2 (o2.gen + 1) 0 0) (slA f.code) (.int .i64 n) (.int .i64 i) (HH f a ⟨o2.gen + 1, .arr true false 9 [enc x]⟩ o3 o4 o5 o6) := by
      simp [ylf, ysh, y1h6, hc, k1]
    generalize hg : (o2.gen + 1) = g at *
    have e31 : yc2 (.lp 0 1 0 0) (.ls 1 1 1 0 (n + 1)) (.int .i64 i) (.lp 2 g 0 0) (slA f.code) (.int .i64 n) (.int .i64 i) (HH f a ⟨g, .arr true false 9 [enc x]⟩ o3 o4 o5 o6) =
        yhh (.lp 0 1 0 0) (.ls 1 1 1 0 (n + 1)) (.int .i64 i) (.lp 2 g 0 0) (slA f.code) (.int .i64 n) (.int .i64 i) (HH f (if leads x.op = true then putP n x.t a else a) ⟨g, .arr true false 9 [enc x]⟩ o3 o4 o5 o6) := by
      cases hd : leads x.op with
      | false => simp [yc2, hd]
      | true =>
        rw [if_pos rfl, putP]
        by_cases h0 : 0 ≤ x.t
        rotate_left
        · rw [if_neg (fun h => h0 h.1)]
          simp [yc2, hd, h0]
        by_cases h1 : x.t < (n : Int)
        rotate_left
        · rw [if_neg (fun h => h1 h.2)]
          simp [yc2, hd, h0, h1, hN]
        rw [if_pos ⟨h0, h1⟩]
        have st := stHH f a ⟨g, .arr true false 9 [enc x]⟩ o3 o4 o5 o6 (j := x.t.toNat) (by omega)
        have ix := ixAt (n := n + 1) h0 (by omega) 1 1 .i64
        simp [yc2, hd, h0, h1, hN, ix, -y40, st]
    have e30 : ∀ a : List Bool, a.length = n + 1 → yhh (.lp 0 1 0 0) (.ls 1 1 1 0 (n + 1)) (.int .i64 i) (.lp 2 g 0 0) (slA f.code) (.int .i64 n) (.int .i64 i) (HH f a ⟨g, .arr true false 9 [enc x]⟩ o3 o4 o5 o6) =
        ym8 (.lp 0 1 0 0) (.ls 1 1 1 0 (n + 1)) (slA f.code) (.int .i64 n) (.int .i64 i) (HH f (if (leads x.op || ends x.op) = true then a.set (i + 1) true else a) ⟨g, .arr true false 9 [enc x]⟩ o3 o4 o5 o6) := by
      intro a ha
      have st := stHH f a ⟨g, .arr true false 9 [enc x]⟩ o3 o4 o5 o6 (j := i + 1) (by omega)
      have ix := ixAt (n := n + 1) (p := (i : Int) + 1) (by omega) (by omega) 1 1 .i64
      rw [show ((i : Int) + 1).toNat = i + 1 by omega] at ix
      cases hd : leads x.op <;> cases he : ends x.op <;> simp [yhh, hd, he, hw, ix, -y40, st]
    obtain ⟨o2', ih⟩ := ih (i + 1) (yyh n i x a) ⟨g, .arr true false 9 [enc x]⟩ (by omega) (by simpa using ha)
    push_cast at ih
    refine ⟨o2', ?_⟩
    rw [e36, e31, e30 _ (by split <;> simp [ha]), ym8, yn, y3, hw, ← ih]
    rfl
theorem y190 (f : Fn) (v62 v63 v64 : AV) (o2 o3 o5 o6 : AO) (g : Nat) (P : List Int) (hP : P.length = 3) : ∀ (d k : Nat) (a : List Bool), k + d = 3 → a.length = (lst f.code).length + 1 →
    ybe (.lp 0 1 0 0) (.ls 1 1 1 0 ((lst f.code).length + 1)) v62 v63 v64 (.ls 4 g 1 0 3) (.int .i64 3) (.int .i64 k) (HH f a o2 o3 ⟨g, .arr false false 1 (P.map enc)⟩ o5 o6) =
      yvi (.lp 0 1 0 0) (.ls 1 1 1 0 ((lst f.code).length + 1)) v62 v63 v64 (HH f ((P.drop k).foldl (fun a p => putP (lst f.code).length p a) a) o2 o3 ⟨g, .arr false false 1 (P.map enc)⟩ o5 o6) := by
  intro d
  induction d with
  | zero =>
    intro k a hk _
    have e1 : P.drop k = [] := List.drop_eq_nil_of_le (by omega)
    have hn : ¬ ((k : Int) < 3) := by omega
    rw [yhu, e1]
    simp [ygf, yh2, hn]
  | succ d ih =>
    intro k a hk ha
    have hlt : k < P.length := by omega
    have hc : ((k : Int) < 3) := by omega
    have hw := y2b (n := 3) (i := k) (by omega) (by omega)
    have l1 : ∀ a, evLd false 1 (.lp 4 g k 0) (HH f a o2 o3 ⟨g, .arr false false 1 (P.map enc)⟩ o5 o6) = some (.int .i64 P[k]) := by
      intro a
      simp [evLd, yk, y2x, hlt]
    have ix : yv 1 (.ls 4 g 1 0 3) (.int .i64 (k : Int)) = some (.lp 4 g k 0) := by
      have := ixAt (n := 3) (p := (k : Int)) (by omega) (by omega) 4 g .i64
      simpa using this
    rw [yhu, List.drop_eq_getElem_cons hlt, List.foldl_cons]
    generalize P[k] = p at *
    have ih0 := fun a ha => ih (k + 1) a (by omega) ha
    push_cast at ih0
    rw [← ih0 _ (by simpa using ha), putP]
    by_cases h0 : 0 ≤ p
    rotate_left
    · rw [if_neg (fun h => h0 h.1)]
      simp [ygf, yh2, yke, yg6, hc, ix, -y2l, l1, h0, hw]
    by_cases h1 : p < ((lst f.code).length : Int)
    rotate_left
    · rw [if_neg (fun h => h1 h.2)]
      have lb : ∀ a : List Bool, evLd false 1 (.lp 0 1 0 3) (HH f a o2 o3 ⟨g, .arr false false 1 (P.map enc)⟩ o5 o6) = some (slA f.code) := fun a => by simp
      simp [ygf, yh2, yke, yg6, hc, ix, -y2l, l1, h0, h1, hw, lb]
    rw [if_pos ⟨h0, h1⟩]
    have lb : ∀ a : List Bool, evLd false 1 (.lp 0 1 0 3) (HH f a o2 o3 ⟨g, .arr false false 1 (P.map enc)⟩ o5 o6) = some (slA f.code) := fun a => by simp
    have st := stHH f a o2 o3 ⟨g, .arr false false 1 (P.map enc)⟩ o5 o6 (j := p.toNat) (by omega)
    have ix2 := ixAt (n := (lst f.code).length + 1) h0 (by omega) 1 1 .i64
    simp [ygf, yh2, yke, yg6, hc, ix, -y2l, l1, h0, h1, hw, lb, ix2, -y40, st]
theorem yxt (f : Fn) (o2 o5 o6 : AO) (hl : (lst f.rows).length ≤ 9223372036854775806) : ∀ (d k : Nat) (a : List Bool) (o3 o4 : AO), k + d = (lst f.rows).length → a.length = (lst f.code).length + 1 →
    ∃ o3' o4', ydt (.lp 0 1 0 0) (.ls 1 1 1 0 ((lst f.code).length + 1)) (slA f.rows) (.int .i64 (lst f.rows).length) (.int .i64 k) (HH f a o2 o3 o4 o5 o6) =
      yhd (.lp 0 1 0 0) (.ls 1 1 1 0 ((lst f.code).length + 1)) (HH f (hA2 (lst f.code).length ((lst f.rows).drop k) a) o2 o3' o4' o5 o6) := by
  intro d
  induction d with
  | zero =>
    intro k a o3 o4 hk _
    have e1 : (lst f.rows).drop k = [] := List.drop_eq_nil_of_le (by omega)
    have hn : ¬ ((k : Int) < ((lst f.rows).length : Int)) := by omega
    rw [yhk, e1]
    exact ⟨o3, o4, by simp [yl5, yvc, hn, hA2]⟩
  | succ d ih =>
    intro k a o3 o4 hk ha
    have hlt : k < (lst f.rows).length := by omega
    have hc : ((k : Int) < ((lst f.rows).length : Int)) := by omega
    have k1 := y16u (o := f.rows) (i := k) (List.getElem?_eq_getElem hlt) .i64
    have hw := y2b hlt (by omega)
    rw [yhk, List.drop_eq_getElem_cons hlt, hA2]
    generalize (lst f.rows)[k] = r at *
    have lit := y190 f (slA f.rows) (.int .i64 (lst f.rows).length) (.int .i64 k) o2 ⟨o3.gen + 1, .arr true false 4 [enc r]⟩ o5 o6 (o4.gen + 1) [r.f, r.t, r.at_] rfl 3 0 a (by omega) ha
    simp only [List.drop_zero, List.foldl_cons, List.foldl_nil, Int.ofNat_zero] at lit
    have e24 : yl5 (.lp 0 1 0 0) (.ls 1 1 1 0 ((lst f.code).length + 1)) (slA f.rows) (.int .i64 (lst f.rows).length) (.int .i64 k) (HH f a o2 o3 o4 o5 o6) =
        ybe (.lp 0 1 0 0) (.ls 1 1 1 0 ((lst f.code).length + 1)) (slA f.rows) (.int .i64 (lst f.rows).length) (.int .i64 k) (.ls 4 (o4.gen + 1) 1 0 3) (.int .i64 3) (.int .i64 0)
          (HH f a o2 ⟨o3.gen + 1, .arr true false 4 [enc r]⟩ ⟨o4.gen + 1, .arr false false 1 ([r.f, r.t, r.at_].map enc)⟩ o5 o6) := by
      simp [yl5, yvc, y165, y1c5, hc, k1, y12, y2v]
    obtain ⟨o3', o4', ih⟩ := ih (k + 1) (putP (lst f.code).length r.at_ (putP (lst f.code).length r.t (putP (lst f.code).length r.f a))) ⟨o3.gen + 1, .arr true false 4 [enc r]⟩ ⟨o4.gen + 1, .arr false false 1 ([r.f, r.t, r.at_].map enc)⟩ (by omega) (by simpa using ha)
    push_cast at ih
    refine ⟨o3', o4', ?_⟩
    rw [e24, lit, yvi, yn, y3, hw, ih]
theorem yy2 (f : Fn) (o2 o3 o4 : AO) (hl : (lst f.code).length ≤ 274877906944) : ∀ (d k g : Nat) (o5 : AO), k + d = (lst f.code).length →
    ym9 (.ls 1 1 1 0 ((lst f.code).length + 1)) (y1o Int 6 g (y3d f k)) (.int .i64 (lst f.code).length) (.int .i64 k) (HH f (hA f) o2 o3 o4 o5 (y3v g D0 (y3d f k))) = some (exO (nz (y5j f))) := by
  intro d
  induction d with
  | zero =>
    intro k g o5 hk
    have hk' : k = (lst f.code).length := by omega
    have hn : ¬ ((k : Int) < ((lst f.code).length : Int)) := by omega
    have hx := yoa (H := HH f (hA f) o2 o3 o4 o5 (y3v g D0 (y3d f k))) (j := 6) (g := g) (o := D0) (L := y3d f k) rfl
    rw [ykt, y5j, ← hk', ← hx]
    simp [y13i, y1fq, y1ty, hk']
  | succ d ih =>
    intro k g o5 hk
    have hlt : k < (lst f.code).length := by omega
    have hc : ((k : Int) < ((lst f.code).length : Int)) := by omega
    have hw := y2b hlt (by omega)
    have ix := ixAt (n := (lst f.code).length + 1) (p := (k : Int)) (by omega) (by omega) 1 1 .i64
    rw [show ((k : Int)).toNat = k by omega] at ix
    have hg := y25h f hlt
    have l1 : ∀ o5 o6, evLd false 1 (.lp 1 1 k 0) (HH f (hA f) o2 o3 o4 o5 o6) = some (.bool (y92 f k)) := by
      intro o5 o6
      simp [evLd, yk, y2x, hg]
    rw [ykt]
    have ih0 := fun g o5 => ih (k + 1) g o5 (by omega)
    push_cast at ih0
    simp only [y3d] at ih0
    cases hh : y92 f k with
    | false =>
      have ih0 := ih0 g o5
      rw [hh] at ih0 l1
      simp only [Bool.false_eq_true, if_false, List.append_nil] at ih0
      simp [y13i, y1fq, y1lh, y180, hc, ix, -y2l, l1, hw, ih0]
    | true =>
      rw [hh] at ih0 l1
      simp only [if_true] at ih0
      obtain ⟨g', ha⟩ := yb5 (H := HH f (hA f) o2 o3 o4 ⟨o5.gen + 1, .arr false false 1 [[.int .i64 k]]⟩ (y3v g D0 (y3d f k))) (fb := 0) (j := 6) (g := g) (o := D0) (y := .ls 5 (o5.gen + 1) 1 0 1) (L := y3d f k) (n := k) (by simp) rfl (by have := ybd f k; omega)
      have ha' : y2k 0 (some 6) 1 8 (y1o Int 6 g (y3d f k)) (.ls 5 (o5.gen + 1) 1 0 1) (HH f (hA f) o2 o3 o4 ⟨o5.gen + 1, .arr false false 1 [[.int .i64 k]]⟩ (y3v g D0 (y3d f k))) = some (y1o Int 6 g' (y3d f k ++ [(k : Int)]), HH f (hA f) o2 o3 o4 ⟨o5.gen + 1, .arr false false 1 [[.int .i64 k]]⟩ (y3v g' D0 (y3d f k ++ [(k : Int)]))) := ha
      simp [y13i, y1fq, y1lh, y180, hc, ix, -y2l, l1, hw, y12, y2v, ha', ih0]
theorem y1s6 (f : Fn) (hc : (lst f.code).length ≤ 30000) (hr : (lst f.rows).length ≤ 1000000) : (y6 E).p 102 [.agg (enc f)] = some (exO (nz (y5j f))) := by
  rw [y27p]
  obtain ⟨o2, h1⟩ := yys f D0 D0 D0 D0 (by omega) _ 0 (hA0 (lst f.code).length) D0 (Nat.zero_add _) (by simp)
  obtain ⟨o3, o4, h2⟩ := yxt f o2 D0 D0 (by omega) _ 0 (hA1 (lst f.code).length 0 (lst f.code) (hA0 (lst f.code).length)) D0 D0 (Nat.zero_add _) (by rw [yil, yid])
  have h3 := yy2 f o2 o3 o4 (by omega) _ 0 0 D0 (Nat.zero_add _)
  simp only [List.drop_zero, Int.ofNat_zero, y3d, y19s, y13z] at h1 h2 h3
  have e10 : yhd (.lp 0 1 0 0) (.ls 1 1 1 0 ((lst f.code).length + 1)) (HH f (hA f) o2 o3 o4 D0 D0) = some (exO (nz (y5j f))) := by
    simp [yhd, y1u0, h3]
  have e26 : yky (.lp 0 1 0 0) (.ls 1 1 1 0 ((lst f.code).length + 1)) (HH f (hA1 (lst f.code).length 0 (lst f.code) (hA0 (lst f.code).length)) o2 D0 D0 D0 D0) = some (exO (nz (y5j f))) := by
    rw [← e10, ← show _ = yhd _ _ (HH f (hA f) o2 o3 o4 D0 D0) from h2]
    simp [yky]
  have e38 : ymg (.lp 0 1 0 0) (.ls 1 1 1 0 ((lst f.code).length + 1)) (HH f (hA0 (lst f.code).length) D0 D0 D0 D0 D0) = some (exO (nz (y5j f))) := by
    rw [← e26, ← h1]
    simp [ymg]
  rw [← e38]
  have b1 : ((lst f.code).length : Int) + 1 ≤ 140737488355328 := by omega
  have b2 : ((lst f.code).length : Int) + 1 ≤ 4611686018427387904 := by omega
  have b3 : (0 : Int) ≤ ((lst f.code).length : Int) + 1 := by omega
  have b4 : (((lst f.code).length : Int) + 1).toNat = (lst f.code).length + 1 := by omega
  have hw : IntKind.wrap .i64 (((lst f.code).length : Int) + 1) = ((lst f.code).length : Int) + 1 := by rw [y16] <;> omega
  have e42 : yop (.agg (enc f)) [D0, D0, D0, D0, D0, D0, D0] = yk0 (.lp 0 1 0 0) (.ls 1 1 1 0 ((lst f.code).length + 1)) (HH f (List.replicate ((lst f.code).length + 1) false) D0 D0 D0 D0 D0) := by
    simp [yop, y17e, mkSC, hw, b1, b2, b3, b4, HH]
  rw [e42]
  have l1 : ∀ (a : List Bool) (o2 o3 o4 o5 o6 : AO), evLd false 1 (.lp 0 1 0 3) (HH f a o2 o3 o4 o5 o6) = some (slA f.code) := fun a o2 o3 o4 o5 o6 => by simp
  by_cases h0 : 0 < (lst f.code).length
  · have h0' : (0 : Int) < ((lst f.code).length : Int) := by omega
    have st := stHH f (List.replicate ((lst f.code).length + 1) false) D0 D0 D0 D0 D0 (j := 0) (by simp)
    have ix := ixAt (n := (lst f.code).length + 1) (p := 0) (by omega) (by omega) 1 1 .i64
    simp only [yk0, y14, y3, l1, y2u, yed, h0', decide_true, yx, ix, Int.toNat_zero, st, yc, hA0, h0, if_true, Nat.zero_add]
  · have h0' : ¬ (0 : Int) < ((lst f.code).length : Int) := by omega
    simp only [yk0, y14, y3, l1, y2u, yed, h0', decide_false, y15, hA0, h0, if_false, Nat.zero_add]
end Go.Vm
namespace Go.Vm
open Cel
attribute [local simp] y4 y2f yy
@[simp] theorem y27w (x : Ins) : (y6 E).p 9 [.agg (enc x)] = some ⟨.int .i64 (defr x), [], true, [], []⟩ := by
  rw [y29t]
  rcases yjj x.op with h|h|h|h|h|h|h|h|h|h|h|h|h|h|h|h|h|h|h|h|h|h|h|h|h|h|h|h|h|h|h|h|h|h|h <;> first | (simp [h, defr, writes, calls, y17i, y16f, y7d, y138, y16v, y18q]; done) | (simp [lo_f h, defr, writes, calls, y17i, y16f, y7d, y138, y16v, y18q]; done) | simp [hi_f h, defr, writes, calls, y17i, y16f, y7d, y138, y16v, y18q]
end Go.Vm
namespace Go.Vm
open Cel
attribute [local simp] y4 y2f yy
@[simp] theorem y2ag (a b c d : AV) (r : List AV) (h : r.length = 4) : ym 0 [a, b, c, d] r = [a, b, c, d] := by
  simp [ym, ← h]
@[simp] theorem y287 (h : Heap) (a b c d : Int) (o : Bool) : y7 h (.tup [.agg [.int .i64 a, .int .i64 b, .int .i64 c, .int .i64 d], .bool o]) = some (exK (a, b, c, d, o)) := rfl
@[simp] theorem y2b4 (a b c d : Int) : yh [.int .i64 0, .int .i64 0, .int .i64 0, .int .i64 0] [(0, 1, .int .i64 a), (1, 1, .int .i64 b), (2, 1, .int .i64 c), (3, 1, .int .i64 d)] = some (.agg [.int .i64 a, .int .i64 b, .int .i64 c, .int .i64 d]) := rfl
@[simp] theorem y28c : yh [.int .i64 0, .int .i64 0, .int .i64 0, .int .i64 0] [] = some (.agg [.int .i64 0, .int .i64 0, .int .i64 0, .int .i64 0]) := rfl
@[simp] theorem y2al (h : Heap) (a b c : Int) : fz h y1i (.tup [.int .i64 a, .int .i64 b, .int .i64 c]) = some ⟨.tup [.int .i64 a, .int .i64 b, .int .i64 c], true, []⟩ := rfl
@[simp] theorem y2a6 (h : Heap) (a b c d : Int) (o : Bool) : fz h y1i (.tup [.agg [.int .i64 a, .int .i64 b, .int .i64 c, .int .i64 d], .bool o]) = some ⟨.tup [.agg [.int .i64 a, .int .i64 b, .int .i64 c, .int .i64 d], .bool o], true, []⟩ := rfl
@[simp] theorem agg4 (a b c d : AV) : y4m true 4 [a, b, c, d] = some (.agg [a, b, c, d]) := rfl
set_option maxHeartbeats 4000000 in
theorem y1wt (x : Ins) (h : x.op = 1 ∨ x.op = 2 ∨ x.op = 3 ∨ x.op = 4 ∨ x.op = 7 ∨ x.op = 8 ∨ x.op = 9 ∨ x.op = 10 ∨ x.op = 11 ∨ x.op = 13 ∨ x.op = 14 ∨ x.op = 15 ∨ x.op = 16 ∨ x.op = 17 ∨ x.op = 18 ∨ x.op = 19 ∨ x.op = 20 ∨ x.op = 27 ∨ x.op = 31 ∨ x.op = 32 ∨ x.op = 33) : (y6 E).p 47 [.agg (enc x)] = some (exK (yg x)) := by
  rw [y17l]
  rcases h with h|h|h|h|h|h|h|h|h|h|h|h|h|h|h|h|h|h|h|h|h <;> simp [h, ycr, yb4, ycn, yco, ycw, ycu, ycp, ycv, ycm, y7a, y6g, y6u, y71, y6o, y6d, y73, y6c, y78, y70, y77, y6j, y6t, y6k, y6y, y6q, y74, y6l, y6m, y6v, y5g, y6e, y6r, y75, y7c, y6b, y6p, y6z, y6n, y79, y4g, y6x, y5d, y76, y6w, y72, yu, y29, meets, ids1, yg]
theorem y1us (x : Ins) (hs : x.s.length ≤ 9223372036854775807) (h : x.op = 12 ∨ x.op = 21 ∨ x.op = 22) : (y6 E).p 47 [.agg (enc x)] = some (exK (yg x)) := by
  rw [y17l]
  have ht := y20h x.s hs
  rcases h with h|h|h <;> simp [h, ht, ycr, yb4, ycn, yco, ycw, ycu, ycp, ycv, ycm, y7a, y6g, y6u, y71, y6o, y6d, y73, y6c, y78, y70, y77, y6j, y6t, y6k, y6y, y6q, y74, y6l, y6m, y6v, y5g, y6e, y6r, y75, y7c, y6b, y6p, y6z, y6n, y79, y4g, y6x, y5d, y76, y6w, y72, yu, y29, meets, ids1, yg]
theorem y1tu (x : Ins) (hn : -9223372036854775808 ≤ x.n ∧ x.n < 9223372036854775808) (h : x.op = 5 ∨ x.op = 6) : (y6 E).p 47 [.agg (enc x)] = some (exK (yg x)) := by
  rw [y17l]
  have hk := y1v0 x.n
  have hw := y16 hn.1 hn.2
  rcases h with h|h
  · simp [h, hk, hw, ycr, yb4, ycn, yco, ycw, ycu, ycp, ycv, ycm, y7a, y6g, y6u, y71, y6o, y6d, y73, y6c, y78, y70, y77, y6j, y6t, y6k, y6y, y6q, y74, y6l, y6m, y6v, y5g, y6e, y6r, y75, y7c, y6b, y6p, y6z, y6n, y79, y4g, y6x, y5d, y76, y6w, y72, yu, y29, meets, ids1, yg]
  · by_cases h0 : (numK x.n).1 = 0
    · simp [h, hk, hw, h0, ycr, yb4, ycn, yco, ycw, ycu, ycp, ycv, ycm, y7a, y6g, y6u, y71, y6o, y6d, y73, y6c, y78, y70, y77, y6j, y6t, y6k, y6y, y6q, y74, y6l, y6m, y6v, y5g, y6e, y6r, y75, y7c, y6b, y6p, y6z, y6n, y79, y4g, y6x, y5d, y76, y6w, y72, yu, y29, meets, ids1, yg]
    · simp [h, hk, hw, h0, ycr, yb4, ycn, yco, ycw, ycu, ycp, ycv, ycm, y7a, y6g, y6u, y71, y6o, y6d, y73, y6c, y78, y70, y77, y6j, y6t, y6k, y6y, y6q, y74, y6l, y6m, y6v, y5g, y6e, y6r, y75, y7c, y6b, y6p, y6z, y6n, y79, y4g, y6x, y5d, y76, y6w, y72, yu, y29, meets, ids1, yg]
theorem y1y0 (x : Ins) (h : x.op = 28) : (y6 E).p 47 [.agg (enc x)] = some (exK (yg x)) := by
  rw [y17l]
  by_cases h0 : 0 ≤ x.n
  · simp [h, h0, ycr, yb4, ycn, yco, ycw, ycu, ycp, ycv, ycm, y7a, y6g, y6u, y71, y6o, y6d, y73, y6c, y78, y70, y77, y6j, y6t, y6k, y6y, y6q, y74, y6l, y6m, y6v, y5g, y6e, y6r, y75, y7c, y6b, y6p, y6z, y6n, y79, y4g, y6x, y5d, y76, y6w, y72, yu, y29, meets, ids1, yg]
  · simp [h, h0, ycr, yb4, ycn, yco, ycw, ycu, ycp, ycv, ycm, y7a, y6g, y6u, y71, y6o, y6d, y73, y6c, y78, y70, y77, y6j, y6t, y6k, y6y, y6q, y74, y6l, y6m, y6v, y5g, y6e, y6r, y75, y7c, y6b, y6p, y6z, y6n, y79, y4g, y6x, y5d, y76, y6w, y72, yu, y29, meets, ids1, yg]
end Go.Vm
namespace Go.Vm
open Cel
attribute [local simp] y4 y2f yy
theorem y1jy (x : Ins) (h : x.op = 29) : (y6 E).p 51 [.agg (enc x)] = some (exK (yg x)) := by
  rw [y1kz]
  by_cases h0 : x.b = -1 <;> by_cases h1 : x.n = 0 <;> simp [h, h0, h1, yna, ylk, ymk, ymv, ylq, yn9, yob, yk7, ymr, ydr, y8m, ydo, yfh, yde, ydz, yf4, yf6, yf5, yu, y29, meets, yg]
theorem y1kv (x : Ins) (h : x.op = 30) : (y6 E).p 51 [.agg (enc x)] = some (exK (yg x)) := by
  rw [y1kz]
  by_cases h0 : x.a = -1 <;> simp [h, h0, yna, ylk, ymk, ymv, ylq, yn9, yob, yk7, ymr, ydr, y8m, ydo, yfh, yde, ydz, yf4, yf6, yf5, yu, y29, meets, yg]
set_option maxHeartbeats 4000000 in
theorem yj2 (x : Ins) (h : x.op = 23 ∨ x.op = 24 ∨ x.op = 25 ∨ x.op = 26) : (y6 E).p 51 [.agg (enc x)] = some (exK (yg x)) := by
  rw [y1kz]
  have e1 : ((0 : Int) < ((lst x.args).length : Int)) = (0 < (lst x.args).length) := by simp
  have e2 : (((lst x.args).length : Int) ≤ (21 : Int)) = ((lst x.args).length ≤ 21) := by simp; omega
  by_cases h0 : x.d = -1 <;> by_cases h1 : 0 ≤ x.n <;> by_cases h2 : 0 < (lst x.args).length <;> rcases h with h|h|h|h <;> simp [h, h0, h1, h2, e1, e2, yna, ylk, ymk, ymv, ylq, yn9, yob, yk7, ymr, ydr, y8m, ydo, yfh, yde, ydz, yf4, yf6, yf5, yu, y29, meets, yg]
theorem y1ul (x : Ins) (h : x.op < 1 ∨ 33 < x.op) : (y6 E).p 51 [.agg (enc x)] = some (exK (yg x)) := by
  rw [y1kz, yy8 h]
  rcases h with h|h
  · simp [lo_f h, yna, ylk, ymk, ymv, ylq, yn9, yob, yk7, ymr, ydr, y8m, ydo, yfh, yde, ydz, yf4, yf6, yf5, yu, y29, meets]
  · simp [hi_f h, yna, ylk, ymk, ymv, ylq, yn9, yob, yk7, ymr, ydr, y8m, ydo, yfh, yde, ydz, yf4, yf6, yf5, yu, y29, meets]
theorem y1sy (x : Ins) (h : x.op = 29 ∨ x.op = 30 ∨ x.op = 23 ∨ x.op = 24 ∨ x.op = 25 ∨ x.op = 26 ∨ x.op < 1 ∨ 33 < x.op) : (y6 E).p 47 [.agg (enc x)] = some (exK (yg x)) := by
  have ho : (y6 E).p 51 [.agg (enc x)] = some (exK (yg x)) := by
    rcases h with h|h|h|h|h|h|h
    · exact y1jy x h
    · exact y1kv x h
    · exact yj2 x (.inl h)
    · exact yj2 x (.inr (.inl h))
    · exact yj2 x (.inr (.inr (.inl h)))
    · exact yj2 x (.inr (.inr (.inr h)))
    · exact y1ul x h
  rw [y17l]
  generalize yg x = k at ho
  obtain ⟨a, b, c, d, o⟩ := k
  simp only [exK] at ho
  rcases h with h|h|h|h|h|h|h|h
  iterate 6 (simp [h, ho, ycr, yb4, ycn, yco, ycw, ycu, ycp, ycv, ycm, y7a, y6g, y6u, y71, y6o, y6d, y73, y6c, y78, y70, y77, y6j, y6t, y6k, y6y, y6q, y74, y6l, y6m, y6v, y5g, y6e, y6r, y75, y7c, y6b, y6p, y6z, y6n, y79, y4g, y6x, y5d, y76, y6w, y72, yu, y29, meets])
  · simp [lo_f h, ho, ycr, yb4, ycn, yco, ycw, ycu, ycp, ycv, ycm, y7a, y6g, y6u, y71, y6o, y6d, y73, y6c, y78, y70, y77, y6j, y6t, y6k, y6y, y6q, y74, y6l, y6m, y6v, y5g, y6e, y6r, y75, y7c, y6b, y6p, y6z, y6n, y79, y4g, y6x, y5d, y76, y6w, y72, yu, y29, meets]
  · simp [hi_f h, ho, ycr, yb4, ycn, yco, ycw, ycu, ycp, ycv, ycm, y7a, y6g, y6u, y71, y6o, y6d, y73, y6c, y78, y70, y77, y6j, y6t, y6k, y6y, y6q, y74, y6l, y6m, y6v, y5g, y6e, y6r, y75, y7c, y6b, y6p, y6z, y6n, y79, y4g, y6x, y5d, y76, y6w, y72, yu, y29, meets]
theorem y1xu (x : Ins) (hn : -9223372036854775808 ≤ x.n ∧ x.n < 9223372036854775808) (hs : x.s.length ≤ 9223372036854775807) : (y6 E).p 47 [.agg (enc x)] = some (exK (yg x)) := by
  by_cases h1 : x.op = 1 ∨ x.op = 2 ∨ x.op = 3 ∨ x.op = 4 ∨ x.op = 7 ∨ x.op = 8 ∨ x.op = 9 ∨ x.op = 10 ∨ x.op = 11 ∨ x.op = 13 ∨ x.op = 14 ∨ x.op = 15 ∨ x.op = 16 ∨ x.op = 17 ∨ x.op = 18 ∨ x.op = 19 ∨ x.op = 20 ∨ x.op = 27 ∨ x.op = 31 ∨ x.op = 32 ∨ x.op = 33
  · exact y1wt x h1
  by_cases h2 : x.op = 12 ∨ x.op = 21 ∨ x.op = 22
  · exact y1us x hs h2
  by_cases h3 : x.op = 5 ∨ x.op = 6
  · exact y1tu x hn h3
  by_cases h4 : x.op = 28
  · exact y1y0 x h4
  exact y1sy x (by omega)
end Go.Vm
namespace Go.Vm
open Cel
attribute [local simp] y4 y2f yy
abbrev HR (f : Fn) (x : Ins) (a b c d : Int) : Heap := [⟨1, .arr true false 5 [enc f]⟩, ⟨1, .arr true false 9 [enc x]⟩, ⟨1, .arr true false 4 [[.int .i64 a, .int .i64 b, .int .i64 c, .int .i64 d]]⟩]
abbrev P0 : AV := .lp 0 1 0 0
abbrev P1 : AV := .lp 1 1 0 0
abbrev P2 : AV := .lp 2 1 0 0
theorem y9j {f : Fn} {r : Int} (h : inR (lst f.regs) r = true) : yv 1 (slA f.regs) (.int .i64 r) = some (.rp [.int .i64 (regK (lst f.regs) r)]) := by
  obtain ⟨h0, h1, h2⟩ := y1yu h
  exact y1jk h0 h2 .i64
theorem ymj (f : Fn) (x : Ins) (a b c d : Int) (i : Nat) (w r : Int) (v26 : AV) (hi : i < 4) (hw : [a, b, c, d][i]? = some w) :
    yau P0 P1 P2 (.int .i64 i) (.int .i64 r) v26 (.int .i64 i) (HR f x a b c d) =
      if y1y (lst f.regs) w r then ylj P0 P1 P2 v26 (.int .i64 i) (HR f x a b c d) else some ⟨.bool false, [], true, [], []⟩ := by
  have e1 : y8k 4 1 P2 (.int .i64 i) = some (.lp 2 1 0 i) := by
    have : ((i : Int) < (4 : Int)) := by omega
    simp [y8k, this]
  have e2 : ∀ f x, evLd false 1 (.lp 2 1 0 i) (HR f x a b c d) = some (.int .i64 w) := by
    intro f x
    simp only [y2l]
    have : (yk (HR f x a b c d) 2 1) = some (false, 4, [[.int .i64 a, .int .i64 b, .int .i64 c, .int .i64 d]]) := rfl
    rw [this]
    simp only [List.getElem?_cons_zero, y7m]
    match i, hi, hw with
    | 0, _, hw => simp at hw; simp [hw]
    | 1, _, hw => simp at hw; simp [hw]
    | 2, _, hw => simp at hw; simp [hw]
    | 3, _, hw => simp at hw; simp [hw]
  have e2 := e2 f x
  by_cases hw0 : w < 0
  · simp [yau, e1, e2, y1y, hw0]
  by_cases h0 : r < 0
  · have : ¬ 0 ≤ r := by omega
    simp [yau, yds, e1, e2, y1y, hw0, h0, inR, this]
  by_cases h1 : r < ((lst f.regs).length : Int)
  · have h0' : 0 ≤ r := by omega
    have h1' : ¬ ((lst f.regs).length : Int) ≤ r := by omega
    have hin : inR (lst f.regs) r = true := by simp [inR, h0', h1]
    have hr := y9j hin
    by_cases h2 : 0 < w
    · have h2' : ¬ w ≤ 0 := by omega
      by_cases h3 : regK (lst f.regs) r = w
      · simp [yau, yds, e1, e2, y1y, hw0, h0, h1', h2, h2', hin, hr, h3]
      · simp [yau, yds, e1, e2, y1y, hw0, h0, h1', h2, h2', hin, hr, h3]
    · have h2' : w ≤ 0 := by omega
      simp [yau, yds, e1, e2, y1y, hw0, h0, h1', h2, h2', hin]
  · have h1' : ((lst f.regs).length : Int) ≤ r := by omega
    simp [yau, yds, e1, e2, y1y, hw0, h0, h1', h1, inR]
theorem yxn (f : Fn) (x : Ins) (a b c d : Int) (h1 : x.op = 1 → inR (lst f.regs) x.d = true) (h4 : x.op = 4 → inR (lst f.regs) x.d = true ∧ inR (lst f.regs) x.a = true) (h7 : x.op = 7 → inR (lst f.regs) x.a = true)
    (h30 : x.op = 30 → x.a = -1 ∨ inR (lst f.regs) x.a = true) :
    y7g P0 P1 (HR f x a b c d) = some ⟨.bool (y38 (lst f.regs) f.ret (lst f.code).length x), [], true, [], []⟩ := by
  by_cases o1 : x.op = 1
  · have hr := y9j (h1 o1)
    by_cases k3 : regK (lst f.regs) x.d = 3
    · simp [y7g, y38, o1, hr, k3]
    · by_cases k2 : regK (lst f.regs) x.d = 2
      · simp [y7g, y38, o1, hr, k2]
      · simp [y7g, y38, o1, hr, k2, k3]
  by_cases o4 : x.op = 4
  · have hr := y9j (h4 o4).1
    have hr2 := y9j (h4 o4).2
    simp [y7g, y38, o4, hr, hr2]
  by_cases o7 : x.op = 7
  · have hr := y9j (h7 o7)
    simp [y7g, y38, o7, hr]
  by_cases o30 : x.op = 30
  · by_cases ha : x.a = -1
    · by_cases hz : f.ret = 0
      · simp [y7g, y38, o30, ha, hz]
      · simp [y7g, y38, o30, ha, hz]
    · have hr := y9j ((h30 o30).resolve_left ha)
      by_cases hz : f.ret = 0
      · simp [y7g, y38, o30, ha, hz]
      · simp [y7g, y38, o30, ha, hz, hr]
  · cases hl : leads x.op with
    | false => simp [y7g, y11m, y38, o1, o4, o7, o30, hl]
    | true =>
      by_cases ht : 0 ≤ x.t
      · simp [y7g, y11m, y38, o1, o4, o7, o30, hl, ht]
      · simp [y7g, y11m, y38, o1, o4, o7, o30, hl, ht]
end Go.Vm
namespace Go.Vm
open Cel
attribute [local simp] y4 y2f yy
theorem ykz (f : Fn) (x : Ins) (a b c d : Int) (i : Nat) (r : Int) (v63 v64 : AV) :
    yet P0 P1 (.int .i64 i) (.int .i64 r) v63 v64 (.int .i64 i) (HR f x a b c d) =
      if inR (lst f.regs) r && (!decide (i = 0) || !(decide (x.op = 24) || decide (x.op = 25)) || decide (regK (lst f.regs) r = 3)) then y0f P0 P1 v63 v64 (.int .i64 i) (HR f x a b c d) else some ⟨.bool false, [], true, [], []⟩ := by
  by_cases h0 : r < 0
  · have : ¬ 0 ≤ r := by omega
    simp [yet, h0, inR, this]
  by_cases h1 : r < ((lst f.regs).length : Int)
  · have h0' : 0 ≤ r := by omega
    have h1' : ¬ ((lst f.regs).length : Int) ≤ r := by omega
    have hin : inR (lst f.regs) r = true := by simp [inR, h0', h1]
    have hr := y9j hin
    by_cases hi : i = 0
    · subst hi
      by_cases o1 : x.op = 24
      · by_cases h3 : regK (lst f.regs) r = 3
        · simp [yet, h0, h1', hin, hr, o1, h3]
        · simp [yet, h0, h1', hin, hr, o1, h3]
      · by_cases o2 : x.op = 25
        · by_cases h3 : regK (lst f.regs) r = 3
          · simp [yet, h0, h1', hin, hr, o2, h3]
          · simp [yet, h0, h1', hin, hr, o2, h3]
        · simp [yet, h0, h1', hin, o1, o2]
    · have hi' : ¬ ((i : Int) = 0) := by omega
      simp [yet, h0, h1', hin, hi, hi']
  · have h1' : ((lst f.regs).length : Int) ≤ r := by omega
    simp [yet, h0, h1', h1, inR]
theorem yz5 (f : Fn) (x : Ins) (a b c d : Int) (T : Bool) (hc : calls x.op = true) (hl : (lst x.args).length ≤ 9223372036854775807) (hT : y7g P0 P1 (HR f x a b c d) = some ⟨.bool T, [], true, [], []⟩) :
    ∀ (k i : Nat), i + k = (lst x.args).length → 0 < i →
    ydx P0 P1 (slA x.args) (.int .i64 (lst x.args).length) (.int .i64 i) (HR f x a b c d) = some ⟨.bool (((lst x.args).drop i).all (inR (lst f.regs)) && T), [], true, [], []⟩ := by
  intro k
  induction k with
  | zero =>
    intro i hi _
    have e1 : (lst x.args).drop i = [] := List.drop_eq_nil_of_le (by omega)
    have hn : ¬ ((i : Int) < ((lst x.args).length : Int)) := by omega
    rw [ye9, e1]
    simp [ydb, yeh, hn, hT]
  | succ k ih =>
    intro i hi h0
    have hlt : i < (lst x.args).length := by omega
    have hn : ((i : Int) < ((lst x.args).length : Int)) := by omega
    have e1 : ((lst x.args).drop i).all (inR (lst f.regs)) = (inR (lst f.regs) (lst x.args)[i] && ((lst x.args).drop (i + 1)).all (inR (lst f.regs))) := by rw [List.drop_eq_getElem_cons hlt, List.all_cons]
    have ih := ih (i + 1) (by omega) (by omega)
    push_cast at ih
    have k1 := y59 (o := x.args) (i := i) (List.getElem?_eq_getElem hlt) .i64
    have hz : ¬ i = 0 := by omega
    rw [ye9, e1]
    simp only [ydb, yeh, yf, y3, hn, decide_true, yx]
    simp only [y14f, k1, y3, yng, y7m, List.head?_cons]
    simp only [y13c]
    simp only [y2l]
    simp only [yin, ycz]
    simp only [List.getElem?_cons_zero, List.drop_zero, yj6, y3]
    simp only [y4, yoc, if_true, y2f, y10, ygp, y1c, yn4, yy, yip, yc, Bool.true_or]
    simp only [y49, y3, hc, Bool.not_true, y15, ykz]
    cases inR (lst f.regs) (lst x.args)[i]
    · simp
    · simp [hz, y0f, y2b hlt hl, ih]
theorem yz7 (f : Fn) (x : Ins) (a b c d : Int) (T : Bool) (hl : (lst x.args).length ≤ 9223372036854775807) (hT : y7g P0 P1 (HR f x a b c d) = some ⟨.bool T, [], true, [], []⟩) :
    yjp P0 P1 (HR f x a b c d) = some ⟨.bool (ydv (lst f.regs) x && T), [], true, [], []⟩ := by
  have e0 : yjp P0 P1 (HR f x a b c d) = ydx P0 P1 (slA x.args) (.int .i64 (lst x.args).length) (.int .i64 0) (HR f x a b c d) := by simp [yjp]
  rw [e0, ye9]
  cases ha : lst x.args with
  | nil => simp [ydb, yeh, hT, ydv, yo3, ha]
  | cons r rest =>
    have k1 := y59 (o := x.args) (i := 0) (x := r) (by rw [ha]; rfl) .i64
    have k1 : yv 1 (slA x.args) (.int .i64 0) = some (.rp [.int .i64 r]) := k1
    have hn : ((0 : Int) < ((lst x.args).length : Int)) := by rw [ha]; simp
    have hra := ykz f x a b c d 0 r (slA x.args) (.int .i64 (lst x.args).length)
    simp only [Int.ofNat_zero, decide_true, Bool.not_true, Bool.false_or] at hra
    rw [← ha]
    cases hc : calls x.op with
    | false =>
      simp only [ydb, yeh, yf, y3, hn, decide_true, yx]
      simp only [y14f, k1, y3, yng, y7m, List.head?_cons]
      simp only [y13c]
      simp only [y2l]
      simp only [yin, ycz]
      simp only [List.getElem?_cons_zero, List.drop_zero, yj6, y3]
      simp only [y4, yoc, if_true, y2f, y10, ygp, y1c, yn4, yy, yip, yc, Bool.true_or]
      simp only [y49, y3, hc, Bool.not_false, yx, hT, ydv, Bool.true_or, Bool.true_and]
    | true =>
      have hlp := yz5 f x a b c d T hc hl hT rest.length 1 (by rw [ha]; simp; omega) (by omega)
      have hd : (lst x.args).drop 1 = rest := by rw [ha]; rfl
      rw [hd] at hlp
      have hlp : ydx P0 P1 (slA x.args) (.int .i64 (lst x.args).length) (.int .i64 1) (HR f x a b c d) = _ := hlp
      simp only [ydb, yeh, yf, y3, hn, decide_true, yx]
      simp only [y14f, k1, y3, yng, y7m, List.head?_cons]
      simp only [y13c]
      simp only [y2l]
      simp only [yin, ycz]
      simp only [List.getElem?_cons_zero, List.drop_zero, yj6, y3]
      simp only [y4, yoc, if_true, y2f, y10, ygp, y1c, yn4, yy, yip, yc, Bool.true_or]
      simp only [y49, y3, hc, Bool.not_true, y15, hra]
      simp only [ydv, yo3, ha, List.all_cons]
      have hw : IntKind.wrap .i64 ((0 : Int) + 1) = 1 := y16 (n := 1) (by omega) (by omega)
      generalize (!(decide (x.op = 24) || decide (x.op = 25)) || decide (regK (lst f.regs) r = 3)) = B
      have hw2 : IntKind.wrap .i64 (1 : Int) = 1 := y16 (n := 1) (by omega) (by omega)
      cases inR (lst f.regs) r with
      | false => cases B <;> simp [hc]
      | true =>
        cases B with
        | false => simp [hc]
        | true =>
          simp only [Bool.and_self, if_true, y0f, yn, y3]
          rw [show IntKind.wrap .i64 ((0 : Int) + 1) = 1 from hw]
          rw [← ha, hlp]
          simp [hc]
theorem y1bl (x : Ins) : (x.op = 1 → (yg x).1 = 0) ∧ (x.op = 4 → (yg x).1 = 0 ∧ (yg x).2.1 = 0) ∧ (x.op = 7 → (yg x).2.1 = 0) ∧ (x.op = 30 → x.a = -1 ∨ (yg x).2.1 = 0) := by
  refine ⟨fun h => ?_, fun h => ?_, fun h => ?_, fun h => ?_⟩ <;> simp [yg, h]
  by_cases ha : x.a = -1 <;> simp [ha]
theorem yat {R : List Int} {w r : Int} (h : y1y R w r = true) (hw : w = 0) : inR R r = true := by
  subst hw
  simpa [y1y] using h
set_option maxHeartbeats 1000000 in
theorem y1y1 (f : Fn) (x : Ins) (hn : -9223372036854775808 ≤ x.n ∧ x.n < 9223372036854775808) (hs : x.s.length ≤ 9223372036854775807) (hl : (lst x.args).length ≤ 9223372036854775807) :
    (y6 E).p 63 [.agg (enc f), .agg (enc x)] = some ⟨.bool (y20 f x), [], true, [], []⟩ := by
  have hk := y1xu x hn hs
  obtain ⟨q1, q4, q7, q30⟩ := y1bl x
  rw [y28h]
  have red : ∀ X : Option (Ex AV), y20 f x = y20 f x → True := fun _ _ => trivial
  have e0 : ykk (.agg (enc f)) (.agg (enc x)) [⟨0, .dead⟩, ⟨0, .dead⟩, ⟨0, .dead⟩] =
      if (yg x).2.2.2.2 = true then y9l P0 P1 P2 (.agg [.int .i64 x.d, .int .i64 x.a, .int .i64 x.b, .int .i64 x.c]) (.int .i64 0) (HR f x (yg x).1 (yg x).2.1 (yg x).2.2.1 (yg x).2.2.2.1) else some ⟨.bool false, [], true, [], []⟩ := by
    unfold exK at hk
    generalize yg x = k at *
    obtain ⟨a, b, c, d, o⟩ := k
    simp only at hk ⊢
    cases o with
    | true => simp [ykk, ysm, yv5, y1am, hk]
    | false => simp [ykk, ysm, yv5, hk]
  rw [e0, y20]
  cases hok : (yg x).2.2.2.2 with
  | false => simp
  | true =>
    simp only [if_true, Bool.true_and]
    have step : ∀ (i : Nat) (w r : Int), i < 4 → [(yg x).1, (yg x).2.1, (yg x).2.2.1, (yg x).2.2.2.1][i]? = some w → [x.d, x.a, x.b, x.c][i]? = some r →
        y9l P0 P1 P2 (.agg [.int .i64 x.d, .int .i64 x.a, .int .i64 x.b, .int .i64 x.c]) (.int .i64 i) (HR f x (yg x).1 (yg x).2.1 (yg x).2.2.1 (yg x).2.2.2.1) =
        if y1y (lst f.regs) w r then y9l P0 P1 P2 (.agg [.int .i64 x.d, .int .i64 x.a, .int .i64 x.b, .int .i64 x.c]) (.int .i64 (i + 1 : Nat)) (HR f x (yg x).1 (yg x).2.1 (yg x).2.2.1 (yg x).2.2.2.1) else some ⟨.bool false, [], true, [], []⟩ := by
      intro i w r hi hw hr
      have hc : ((i : Int) < (4 : Int)) := by omega
      have hv : ydw false 4 1 (.agg [.int .i64 x.d, .int .i64 x.a, .int .i64 x.b, .int .i64 x.c]) (.int .i64 i) = some (.int .i64 r) := by
        match i, hi, hr with
        | 0, _, hr => simp at hr; simp [ydw, hr]
        | 1, _, hr => simp at hr; simp [ydw, hr]
        | 2, _, hr => simp at hr; simp [ydw, hr]
        | 3, _, hr => simp at hr; simp [ydw, hr]
      have hw2 : IntKind.wrap .i64 ((i : Int) + 1) = ((i + 1 : Nat) : Int) := by rw [y16] <;> omega
      rw [yhb]
      simp only [ytf, yvl, yf, y3, hc, decide_true, yx]
      simp only [y1cm, hv, y3]
      rw [ymj f x _ _ _ _ i w r _ hi hw]
      simp only [ylj, yn, y3, hw2]
    have s0 := step 0 _ _ (by omega) rfl rfl
    have s1 := step 1 _ _ (by omega) rfl rfl
    have s2 := step 2 _ _ (by omega) rfl rfl
    have s3 := step 3 _ _ (by omega) rfl rfl
    simp only [Int.ofNat_zero] at s0
    rw [s0]
    cases f0 : y1y (lst f.regs) (yg x).1 x.d with
    | false => simp
    | true =>
      simp only [if_true, Bool.true_and]
      rw [s1]
      cases f1 : y1y (lst f.regs) (yg x).2.1 x.a with
      | false => simp
      | true =>
        simp only [if_true, Bool.true_and]
        rw [s2]
        cases f2 : y1y (lst f.regs) (yg x).2.2.1 x.b with
        | false => simp
        | true =>
          simp only [if_true, Bool.true_and]
          rw [s3]
          cases f3 : y1y (lst f.regs) (yg x).2.2.2.1 x.c with
          | false => simp
          | true =>
            simp only [if_true, Bool.true_and]
            have ht := yxn f x (yg x).1 (yg x).2.1 (yg x).2.2.1 (yg x).2.2.2.1 (fun h => yat f0 (q1 h)) (fun h => ⟨yat f0 (q4 h).1, yat f1 (q4 h).2⟩) (fun h => yat f1 (q7 h)) (fun h => (q30 h).imp id fun h => yat f1 h)
            rw [← yz7 f x _ _ _ _ _ hl ht]
            rw [yhb]
            simp [ytf, yvl]
end Go.Vm
namespace Go.Vm
open Cel
attribute [local simp] y4 y2f yy
theorem y23k {α : Type} [Cel α] (o : Option (List α)) (i : Nat) (h : i ≤ (lst o).length) (k : IntKind) : ygj (es α) (slA o) none (some (.int k i)) = some (slA (o.map (List.take i))) := by
  have h2 : (0 : Int) ≤ (i : Int) ∧ (i : Int) ≤ ((lst o).length : Int) := by omega
  cases o with
  | none =>
    have : i = 0 := by simpa using h
    subst this
    simp [ygj, slA, yyl, yc6, ynn]
  | some L =>
    simp only [y5s] at h2
    simp [ygj, slA, yyl, yc6, ynn, h2, List.map_take]
theorem yxs (o : Option (List Int)) (r : Int) (hl : (lst o).length ≤ 9223372036854775807) (h : Heap) : ∀ (d i : Nat), i + d = (lst o).length →
    ∃ k : Int, ydq (slA o) (.int .i64 r) (.int .i64 (lst o).length) (.int .i64 i) h = some ⟨.int .i64 k, [], true, [], []⟩ ∧ (0 ≤ k ↔ r ∈ (lst o).drop i) := by
  intro d
  induction d with
  | zero =>
    intro i hi
    have e1 : (lst o).drop i = [] := List.drop_eq_nil_of_le (by omega)
    have hn : ¬ ((i : Int) < ((lst o).length : Int)) := by omega
    rw [ygn, e1]
    exact ⟨-1, by simp [ygw, ygd, yi0, yg5, yh1, yhi, yb6, hn], by simp⟩
  | succ d ih =>
    intro i hi
    have hlt : i < (lst o).length := by omega
    have hn : ((i : Int) < ((lst o).length : Int)) := by omega
    have k1 := y59 (o := o) (i := i) (List.getElem?_eq_getElem hlt) .i64
    have hm : r ∈ (lst o).drop i ↔ r = (lst o)[i] ∨ r ∈ (lst o).drop (i + 1) := by rw [List.drop_eq_getElem_cons hlt, List.mem_cons]
    rw [ygn, hm]
    by_cases he : r = (lst o)[i]
    · exact ⟨i, by simp [ygw, ygd, yi0, yg5, yh1, yhi, yb6, hn, k1, he], by simp [he]⟩
    · obtain ⟨k, h1, h2⟩ := ih (i + 1) (by omega)
      push_cast at h1
      refine ⟨k, ?_, ?_⟩
      · simp [ygw, ygd, yi0, yg5, yh1, yhi, yb6, hn, k1, he, y2b hlt hl, h1]
      · rw [h2]; simp [he]
@[simp] theorem yze (o : Option (List Int)) (r : Int) (hl : (lst o).length ≤ 9223372036854775807) : (y6 E).p 46 [slA o, .int .i64 r] = some ⟨.bool ((lst o).contains r), [], true, [], []⟩ := by
  obtain ⟨k, h1, h2⟩ := yxs o r hl [] (lst o).length 0 (by omega)
  simp only [Int.ofNat_zero, List.drop_zero] at h1 h2
  have hi : (y6 E).p 45 [slA o, .int .i64 r] = some ⟨.int .i64 k, [], true, [], []⟩ := by
    rw [y23s, ← h1]
    simp [ygw, ygd, yi0, yg5, yh1, yhi, yb6]
  rw [y22h]
  by_cases h0 : 0 ≤ k
  · have := h2.1 h0
    simp [yq6, hi, h0, this]
  · have : r ∉ lst o := fun h => h0 (h2.2 h)
    simp [yq6, hi, h0, this]
end Go.Vm
namespace Go.Vm
open Cel
attribute [local simp] y4 y2f yy
abbrev HC (f : Fn) (o1 o2 : AO) : Heap := [⟨1, .arr true false 5 [enc f]⟩, o1, o2]
abbrev E80 : Option (Ex AV) := some ⟨.int .i64 80, [], true, [], []⟩
abbrev E0 : Option (Ex AV) := some ⟨.int .i64 0, [], true, [], []⟩
theorem yz6 (f : Fn) (o1 : AO) (n : Int) (hn : n = (lst f.code).length) (hl : (lst f.rows).length ≤ 9223372036854775807) : ∀ (d i : Nat) (o2 : AO), i + d = (lst f.rows).length →
    ygh P0 (.int .i64 n) (slA f.rows) (.int .i64 (lst f.rows).length) (.int .i64 i) (HC f o1 o2) = if ((lst f.rows).drop i).all (y7f (lst f.code)) then E0 else E80 := by
  intro d
  induction d with
  | zero =>
    intro i o2 hi
    have e1 : (lst f.rows).drop i = [] := List.drop_eq_nil_of_le (by omega)
    have hn : ¬ ((i : Int) < ((lst f.rows).length : Int)) := by omega
    rw [yk2, e1]
    simp [y1le, y1jp, y1x1, hn]
  | succ d ih =>
    intro i o2 hi
    have hlt : i < (lst f.rows).length := by omega
    have hc : ((i : Int) < ((lst f.rows).length : Int)) := by omega
    have k1 := y16u (o := f.rows) (i := i) (List.getElem?_eq_getElem hlt) .i64
    rw [yk2]
    have e1 : ((lst f.rows).drop i).all (y7f (lst f.code)) = (y7f (lst f.code) (lst f.rows)[i] && ((lst f.rows).drop (i + 1)).all (y7f (lst f.code))) := by rw [List.drop_eq_getElem_cons hlt, List.all_cons]
    rw [e1]
    generalize hr : (lst f.rows)[i] = r at *
    have ih := fun o2 => ih (i + 1) o2 (by omega)
    push_cast at ih
    subst hn
    simp only [y1le, y1jp, yf, y3, hc, decide_true, yx]
    by_cases h1 : r.f < 0
    · simp [yjc, k1, y7f, h1]
    by_cases h2 : r.t ≤ r.f
    · simp [yjc, k1, y7f, h1, h2]
    by_cases h3 : ((lst f.code).length : Int) < r.t
    · simp [yjc, k1, y7f, h1, h2, h3]
    by_cases h4 : r.at_ < 0
    · simp [yjc, k1, y7f, h1, h2, h3, h4]
    by_cases h5 : ((lst f.code).length : Int) ≤ r.at_
    · simp [yjc, k1, y7f, h1, h2, h3, h4, h5]
    · have hx : r.at_.toNat < (lst f.code).length := by omega
      have k2 := ypa (o := f.code) (n := r.at_) (by omega) (List.getElem?_eq_getElem hx) .i64
      have hg : (lst f.code).getD r.at_.toNat default = (lst f.code)[r.at_.toNat] := by rw [List.getD_eq_getElem?_getD, List.getElem?_eq_getElem hx]; rfl
      by_cases h6 : ((lst f.code)[r.at_.toNat]).op = 32
      · simp [yjc, k1, y7f, h1, h2, h3, h4, h5, k2, h6, hx, y1y2, y2b hlt hl, ih]
      · simp [yjc, k1, y7f, h1, h2, h3, h4, h5, k2, h6, hx]
theorem yz1 (f : Fn) (o1 o2 : AO) (n : Int) (hl : (lst f.regs).length ≤ 9223372036854775807) : ∀ (d i : Nat), i + d = (lst f.regs).length →
    ybh P0 (.int .i64 n) (slA f.regs) (.int .i64 (lst f.regs).length) (.int .i64 i) (HC f o1 o2) = if ((lst f.regs).drop i).all (fun k => decide (1 ≤ k) && decide (k ≤ 3)) then yl0 P0 (.int .i64 n) (HC f o1 o2) else E80 := by
  intro d
  induction d with
  | zero =>
    intro i hi
    have e1 : (lst f.regs).drop i = [] := List.drop_eq_nil_of_le (by omega)
    have hn : ¬ ((i : Int) < ((lst f.regs).length : Int)) := by omega
    rw [yg9, e1]
    simp [yv9, yvf, hn]
  | succ d ih =>
    intro i hi
    have hlt : i < (lst f.regs).length := by omega
    have hc : ((i : Int) < ((lst f.regs).length : Int)) := by omega
    have k1 := y59 (o := f.regs) (i := i) (List.getElem?_eq_getElem hlt) .i64
    have e1 : ((lst f.regs).drop i).all (fun k => decide (1 ≤ k) && decide (k ≤ 3)) = ((decide (1 ≤ (lst f.regs)[i]) && decide ((lst f.regs)[i] ≤ 3)) && ((lst f.regs).drop (i + 1)).all (fun k => decide (1 ≤ k) && decide (k ≤ 3))) := by
      rw [List.drop_eq_getElem_cons hlt, List.all_cons]
    rw [yg9, e1]
    generalize hr : (lst f.regs)[i] = r at *
    have ih := ih (i + 1) (by omega)
    push_cast at ih
    simp only [yv9, yvf, yf, y3, hc, decide_true, yx]
    by_cases h1 : r < 1
    · have : ¬ 1 ≤ r := by omega
      simp [yk1, k1, h1, this]
    by_cases h2 : 3 < r
    · have : ¬ r ≤ 3 := by omega
      simp [yk1, k1, h1, h2, this]
    · have a1 : 1 ≤ r := by omega
      have a2 : r ≤ 3 := by omega
      simp [yk1, k1, h1, h2, a1, a2, y18n, y2b hlt hl, ih]
theorem ykl (f : Fn) (o1 o2 : AO) (n : Int) (hl : (lst f.params).length ≤ 9223372036854775807) : ∀ (d i : Nat), i + d = (lst f.params).length →
    ybt P0 (.int .i64 n) (slA f.params) (.int .i64 (lst f.params).length) (.int .i64 i) (HC f o1 o2) = if yei (lst f.regs) i ((lst f.params).take i) ((lst f.params).drop i) then yle P0 (.int .i64 n) (HC f o1 o2) else E80 := by
  intro d
  induction d with
  | zero =>
    intro i hi
    have e1 : (lst f.params).drop i = [] := List.drop_eq_nil_of_le (by omega)
    have hn : ¬ ((i : Int) < ((lst f.params).length : Int)) := by omega
    rw [ygb, e1]
    simp [yqn, yra, hn, yei]
  | succ d ih =>
    intro i hi
    have hlt : i < (lst f.params).length := by omega
    have hc : ((i : Int) < ((lst f.params).length : Int)) := by omega
    have k1 := y59 (o := f.params) (i := i) (List.getElem?_eq_getElem hlt) .i64
    have ks := y23k (α := Int) f.params i (by omega) .i64
    simp only [y250] at ks
    have hlm : lst (f.params.map (List.take i)) = (lst f.params).take i := by cases f.params <;> simp
    have e1 : yei (lst f.regs) i ((lst f.params).take i) ((lst f.params).drop i) = ((inR (lst f.regs) (lst f.params)[i] && !((lst f.params).take i).contains (lst f.params)[i] && decide (i ≤ 20)) && yei (lst f.regs) (i + 1) ((lst f.params).take (i + 1)) ((lst f.params).drop (i + 1))) := by
      rw [List.drop_eq_getElem_cons hlt, yei, List.take_append_getElem]
    rw [ygb, e1]
    have hct : (y6 E).p 46 [slA (f.params.map (List.take i)), .int .i64 (lst f.params)[i]] = some ⟨.bool (((lst f.params).take i).contains (lst f.params)[i]), [], true, [], []⟩ := by
      rw [yze _ _ (by rw [hlm, List.length_take]; omega), hlm]
    generalize hr : (lst f.params)[i] = r at *
    generalize ((lst f.params).take i).contains r = B at *
    have ih := ih (i + 1) (by omega)
    push_cast at ih
    simp only [yqn, yra, yf, y3, hc, decide_true, yx]
    have e20 : ((20 : Int) < (i : Int)) ↔ ¬ i ≤ 20 := by omega
    by_cases h1 : r < 0
    · have : ¬ 0 ≤ r := by omega
      simp [yf3, k1, inR, h1, this]
    by_cases h2 : ((lst f.regs).length : Int) ≤ r
    · have : ¬ r < ((lst f.regs).length : Int) := by omega
      simp [yf3, k1, inR, h1, h2, this]
    · have a1 : 0 ≤ r := by omega
      have a2 : r < ((lst f.regs).length : Int) := by omega
      cases B with
      | true => simp [yf3, k1, inR, h1, h2, a1, a2, ks, hct]
      | false =>
        by_cases h3 : i ≤ 20
        · have h3' : ¬ ((20 : Int) < (i : Int)) := by omega
          simp [yf3, k1, inR, h1, h2, a1, a2, ks, hct, h3, h3', y13t, y2b hlt hl, ih]
        · have h3' : ((20 : Int) < (i : Int)) := by omega
          simp [yf3, k1, inR, h1, h2, a1, a2, ks, hct, h3, h3']
theorem yyk {R : List Int} {ret : Int} {n : Nat} {x : Ins} (h : y38 R ret n x = true) (hl : leads x.op = true) : 0 ≤ x.t ∧ x.t < n := by
  have hne : ¬ x.op = 1 ∧ ¬ x.op = 4 ∧ ¬ x.op = 7 ∧ ¬ x.op = 30 := by
    simp only [leads, Bool.or_eq_true, decide_eq_true_eq] at hl
    omega
  simp only [y38, hne, if_false, hl, Bool.not_true, Bool.false_or, Bool.and_eq_true, decide_eq_true_eq] at h
  exact h
theorem yo7 {f : Fn} {x : Ins} (h : y20 f x = true) (hl : leads x.op = true) : 0 ≤ x.t ∧ x.t < (lst f.code).length := by
  simp only [y20, Bool.and_eq_true] at h
  exact yyk h.2 hl
structure InsFit (x : Ins) : Prop where
  n : -9223372036854775808 ≤ x.n ∧ x.n < 9223372036854775808
  s : x.s.length ≤ 9223372036854775807
  a : (lst x.args).length ≤ 9223372036854775807
theorem yxw (f : Fn) (o2 : AO) (n : Int) (x : Ins) (i g : Nat) (v92 v93 v94 : AV) (hi : i < (lst f.code).length) (hl : (lst f.code).length ≤ 9223372036854775807) (ht : leads x.op = true → 0 ≤ x.t ∧ x.t < (lst f.code).length) :
    y8y P0 (.int .i64 n) (.int .i64 i) (.lp 1 g 0 0) v92 v93 v94 (HC f ⟨g, .arr true false 9 [enc x]⟩ o2) =
      if y47 (lst f.code) i x then yq1 P0 (.int .i64 n) v92 v93 v94 (HC f ⟨g, .arr true false 9 [enc x]⟩ o2) else E80 := by
  by_cases h32 : x.op = 32
  · have hld : leads x.op = false := by simp [leads, h32]
    by_cases h0 : i = 0
    · subst h0
      simp [y8y, h32, y47]
    · have h0' : ¬ ((i : Int) = 0) := by omega
      have hp : i - 1 < (lst f.code).length := by omega
      have k1 := ybn (o := f.code) (i := i - 1) (List.getElem?_eq_getElem hp) .i64
      have hw : IntKind.wrap .i64 ((i : Int) - 1) = ((i - 1 : Nat) : Int) := by rw [y16] <;> omega
      have hg : (lst f.code).getD (i - 1) default = (lst f.code)[i - 1] := by rw [List.getD_eq_getElem?_getD, List.getElem?_eq_getElem hp]; rfl
      have hld32 : leads 32 = false := by simp [leads]
      cases he : ends ((lst f.code)[i - 1]).op with
      | true => simp [y8y, h32, y47, h0, h0', hw, k1, hp, he, hld32]
      | false => simp [y8y, h32, y47, h0, h0', hw, k1, hp, he]
  · cases hld : leads x.op with
    | false => simp [y8y, h32, y47, hld]
    | true =>
      obtain ⟨t0, t1⟩ := ht hld
      have hx : x.t.toNat < (lst f.code).length := by omega
      have k2 := ypa (o := f.code) (n := x.t) t0 (List.getElem?_eq_getElem hx) .i64
      by_cases h6 : ((lst f.code)[x.t.toNat]).op = 32
      · simp [y8y, h32, y47, hld, k2, h6, hx]
      · simp [y8y, h32, y47, hld, k2, h6, hx]
theorem yz8 (f : Fn) (o2 : AO) (n : Int) (hfit : ∀ x ∈ lst f.code, InsFit x) (hl : (lst f.code).length ≤ 9223372036854775807) : ∀ (d i : Nat) (o1 : AO), i + d = (lst f.code).length →
    ∃ o1', yb8 P0 (.int .i64 n) (slA f.code) (.int .i64 (lst f.code).length) (.int .i64 i) (HC f o1 o2) = if y3o f (lst f.code) i ((lst f.code).drop i) then y1ei P0 (.int .i64 n) (HC f o1' o2) else E80 := by
  intro d
  induction d with
  | zero =>
    intro i o1 hi
    have e1 : (lst f.code).drop i = [] := List.drop_eq_nil_of_le (by omega)
    have hn : ¬ ((i : Int) < ((lst f.code).length : Int)) := by omega
    rw [yh0, e1]
    exact ⟨o1, by simp [yr1, ytx, hn, y3o]⟩
  | succ d ih =>
    intro i o1 hi
    have hlt : i < (lst f.code).length := by omega
    have hc : ((i : Int) < ((lst f.code).length : Int)) := by omega
    have k1 := ybn (o := f.code) (i := i) (List.getElem?_eq_getElem hlt) .i64
    have e1 : y3o f (lst f.code) i ((lst f.code).drop i) = (y20 f (lst f.code)[i] && y47 (lst f.code) i (lst f.code)[i] && y3o f (lst f.code) (i + 1) ((lst f.code).drop (i + 1))) := by
      rw [List.drop_eq_getElem_cons hlt, y3o]
    have fit := hfit _ (List.getElem_mem hlt)
    rw [yh0, e1]
    generalize hx : (lst f.code)[i] = x at *
    have hr := y1y1 f x fit.n fit.s fit.a
    simp only [yr1, ytx, yf, y3, hc, decide_true, yx]
    cases hok : y20 f x with
    | false =>
      rw [hok] at hr
      exact ⟨o1, by simp [ylw, yv0, k1, hr]⟩
    | true =>
      rw [hok] at hr
      have e13 : ∀ K : Option (Ex AV), ylw P0 (.int .i64 n) (slA f.code) (.int .i64 (lst f.code).length) (.int .i64 i) (HC f o1 o2) = y8y P0 (.int .i64 n) (.int .i64 i) (.lp 1 (o1.gen + 1) 0 0) (slA f.code) (.int .i64 (lst f.code).length) (.int .i64 i) (HC f ⟨o1.gen + 1, .arr true false 9 [enc x]⟩ o2) := by
        intro _
        simp [ylw, yv0, k1, hr]
      rw [e13 none]
      rw [yxw f o2 n x i _ _ _ _ hlt hl (fun h => yo7 hok h)]
      cases hs : y47 (lst f.code) i x with
      | false => exact ⟨o1, by simp⟩
      | true =>
        obtain ⟨o1', ih⟩ := ih (i + 1) ⟨o1.gen + 1, .arr true false 9 [enc x]⟩ (by omega)
        push_cast at ih
        exact ⟨o1', by simp [yq1, y2b hlt hl, ih]⟩
structure FnFit (f : Fn) : Prop where
  ins : ∀ x ∈ lst f.code, InsFit x
  code : (lst f.code).length ≤ 9223372036854775807
  regs : (lst f.regs).length ≤ 9223372036854775807
  params : (lst f.params).length ≤ 9223372036854775807
  rows : (lst f.rows).length ≤ 9223372036854775807
theorem y15z (f : Fn) (hf : FnFit f) (o1 o2 : AO) (n : Int) (hn : n = (lst f.code).length) :
    ygk P0 (.int .i64 n) (HC f o1 o2) = if (lst f.regs).all (fun k => decide (1 ≤ k) && decide (k ≤ 3)) && yei (lst f.regs) 0 [] (lst f.params) && y3o f (lst f.code) 0 (lst f.code) && (lst f.rows).all (y7f (lst f.code)) then E0 else E80 := by
  have a1 := yz1 f o1 o2 n hf.regs _ 0 (Nat.zero_add _)
  have a2 := ykl f o1 o2 n hf.params _ 0 (Nat.zero_add _)
  obtain ⟨o1', a3⟩ := yz8 f o2 n hf.ins hf.code _ 0 o1 (Nat.zero_add _)
  have a4 := yz6 f o1' n hn hf.rows _ 0 o2 (Nat.zero_add _)
  simp only [Int.ofNat_zero, List.drop_zero, List.take_zero] at a1 a2 a3 a4
  have e1 : ygk P0 (.int .i64 n) (HC f o1 o2) = ybh P0 (.int .i64 n) (slA f.regs) (.int .i64 (lst f.regs).length) (.int .i64 0) (HC f o1 o2) := by simp [ygk]
  have e2 : yl0 P0 (.int .i64 n) (HC f o1 o2) = ybt P0 (.int .i64 n) (slA f.params) (.int .i64 (lst f.params).length) (.int .i64 0) (HC f o1 o2) := by simp [yl0]
  have e3 : yle P0 (.int .i64 n) (HC f o1 o2) = yb8 P0 (.int .i64 n) (slA f.code) (.int .i64 (lst f.code).length) (.int .i64 0) (HC f o1 o2) := by simp [yle]
  have e4 : y1ei P0 (.int .i64 n) (HC f o1' o2) = ygh P0 (.int .i64 n) (slA f.rows) (.int .i64 (lst f.rows).length) (.int .i64 0) (HC f o1' o2) := by simp [y1ei]
  rw [e1, a1, e2, a2, e3, a3, e4, a4]
  generalize (lst f.regs).all (fun k => decide (1 ≤ k) && decide (k ≤ 3)) = b1
  generalize yei (lst f.regs) 0 [] (lst f.params) = b2
  generalize y3o f (lst f.code) 0 (lst f.code) = b3
  generalize (lst f.rows).all (y7f (lst f.code)) = b4
  cases b1 <;> cases b2 <;> cases b3 <;> cases b4 <;> rfl
set_option maxHeartbeats 1000000 in
theorem y1v3 (f : Fn) (hf : FnFit f) : (y6 E).p 8 [.agg (enc f)] = some ⟨.int .i64 (if wf f then 0 else 80), [], true, [], []⟩ := by
  rw [y28s]
  have hall := y15z f hf ⟨0, .dead⟩ ⟨0, .dead⟩ _ rfl
  by_cases h1 : (lst f.code).length < 1
  · have h1' : ((lst f.code).length : Int) < 1 := by omega
    have : ¬ 1 ≤ (lst f.code).length := by omega
    simp [y8z, yai, yaj, h1', wf, this]
  have h1' : ¬ ((lst f.code).length : Int) < 1 := by omega
  have g1 : 1 ≤ (lst f.code).length := by omega
  by_cases h2 : 20000 < (lst f.code).length
  · have h2' : (20000 : Int) < ((lst f.code).length : Int) := by omega
    have : ¬ (lst f.code).length ≤ 20000 := by omega
    simp [y8z, yai, yaj, h1', h2', wf, this]
  have h2' : ¬ (20000 : Int) < ((lst f.code).length : Int) := by omega
  have g2 : (lst f.code).length ≤ 20000 := by omega
  by_cases h3 : 20000 < (lst f.regs).length
  · have h3' : (20000 : Int) < ((lst f.regs).length : Int) := by omega
    have : ¬ (lst f.regs).length ≤ 20000 := by omega
    simp [y8z, yai, yaj, h1', h2', h3', wf, this]
  have h3' : ¬ (20000 : Int) < ((lst f.regs).length : Int) := by omega
  have g3 : (lst f.regs).length ≤ 20000 := by omega
  by_cases h4 : f.ret < 0
  · have : ¬ 0 ≤ f.ret := by omega
    simp [y8z, yai, yaj, h1', h2', h3', h4, wf, this]
  have g4 : 0 ≤ f.ret := by omega
  by_cases h5 : 3 < f.ret
  · have : ¬ f.ret ≤ 3 := by omega
    simp [y8z, yai, yaj, h1', h2', h3', h4, h5, wf, this]
  have g5 : f.ret ≤ 3 := by omega
  have hp : (lst f.code).length - 1 < (lst f.code).length := by omega
  have k1 := ybn (o := f.code) (i := (lst f.code).length - 1) (List.getElem?_eq_getElem hp) .i64
  have hw : IntKind.wrap .i64 (((lst f.code).length : Int) - 1) = (((lst f.code).length - 1 : Nat) : Int) := by rw [y16] <;> omega
  have hg : (lst f.code).getD ((lst f.code).length - 1) default = (lst f.code)[(lst f.code).length - 1] := by rw [List.getD_eq_getElem?_getD, List.getElem?_eq_getElem hp]; rfl
  cases he : ends ((lst f.code)[(lst f.code).length - 1]).op with
  | false =>
    have hwf : wf f = false := by rw [wf, hg, he]; simp
    rw [hwf]
    simp [y8z, yai, yaj, h1', h2', h3', h4, h5, hw, k1, he]
  | true =>
    have hwf : wf f = ((lst f.regs).all (fun k => decide (1 ≤ k) && decide (k ≤ 3)) && yei (lst f.regs) 0 [] (lst f.params) && y3o f (lst f.code) 0 (lst f.code) && (lst f.rows).all (y7f (lst f.code))) := by
      rw [wf, hg, he]
      simp only [g1, g2, g3, g4, g5, decide_true, Bool.true_and]
    have e : y8z (.agg (enc f)) [⟨0, .dead⟩, ⟨0, .dead⟩, ⟨0, .dead⟩] = ygk P0 (.int .i64 (lst f.code).length) (HC f ⟨0, .dead⟩ ⟨0, .dead⟩) := by
      simp [y8z, yai, yaj, h1', h2', h3', h4, h5, hw, k1, he]
    rw [e, hall, hwf]
    split <;> rfl
end Go.Vm
