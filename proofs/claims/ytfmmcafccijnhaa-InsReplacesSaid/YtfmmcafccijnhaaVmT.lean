/- The value machine: operations whose order is open. -/
import Derived.Test.YtfmmcafccijnhaaVmQ
import Derived.Test.YtfmmcafccijnhaaVmS
namespace Go.Vm

variable {P : Program} {nm : Nat → Option Nat} {w : World} {F : Nat → Prop} {m : MapT} {h : Heap} {G : List Nat}

def direct (o : Oper) : List Nat := (o.after.toList.filter (Region.binds .any)).map (·.on)

/-- Of each operation, from the last to the first, those that come ahead of it: as bits. -/
def masks : Nat → List Oper → List Nat → List Nat
  | _, [], acc => acc
  | j, o :: os, acc =>
    match (direct o).foldl (fun m i => m ||| (2 ^ i ||| acc.getD (j - 1 - i) 0)) 0 with
    | 0 => masks (j + 1) os (0 :: acc)
    | m + 1 => masks (j + 1) os ((m + 1) :: acc)

def bitsOf (n m : Nat) : List Nat := (List.range n).filter fun i => m.testBit i

def ancs (os : List Oper) : List (List Nat) := (masks 0 os []).reverse.map (bitsOf os.length)

def okAnc (A : List (List Nat)) : Nat → List Oper → Bool
  | _, [] => true
  | j, o :: os => (direct o).all (fun k => decide (k < j)) && (A.getD j []).all (fun i => (direct o).contains i || (direct o).any fun k => (A.getD k []).contains i) && okAnc A (j + 1) os

def Opd.tm : Opd → List Nat
  | .t n => [n]
  | .c _ => []

def CI.reads (c : CI) : List Nat := c.op.opds.flatMap Opd.tm ++ (match c.g with
  | some (d, _) => [d]
  | none => [])

def CI.wr (c : CI) : List Nat := c.dst.toList

def tmApart (a b : CI) : Bool := !meets a.wr b.wr && !meets a.wr b.reads && !meets a.reads b.wr

def pairOk (A : List (List Nat)) (pairs : List (Nat × Nat)) (i j : Nat) (a b : CI) : Bool :=
  (A.getD j []).contains i || (tmApart a b && (a.op.isT || b.op.isT || (a.op.isL && b.op.isL) || pairs.contains (i, j)))

def pairsFrom (A : List (List Nat)) (pairs : List (Nat × Nat)) (i : Nat) (a : CI) : Nat → List CI → Bool
  | _, [] => true
  | j, b :: bs => pairOk A pairs i j a b && pairsFrom A pairs i a (j + 1) bs

def allPairs (A : List (List Nat)) (pairs : List (Nat × Nat)) : Nat → List CI → Bool
  | _, [] => true
  | i, a :: as => pairsFrom A pairs i a (i + 1) as && allPairs A pairs (i + 1) as

def chkDraw (P : Program) (nm : Nat → Option Nat) (N : Nat) (ops : Array Oper) (cs : List CI) (pairs : List (Nat × Nat)) : Bool :=
  chkCIs P nm N ops ops.toList cs && okAnc (ancs ops.toList) 0 ops.toList && allPairs (ancs ops.toList) pairs 0 cs

theorem okAnc_spec {A : List (List Nat)} : ∀ (os : List Oper) (j0 : Nat), okAnc A j0 os = true → ∀ (j : Nat) (o : Oper), os[j]? = some o →
    (∀ k, k ∈ direct o → k < j0 + j) ∧ ∀ i, i ∈ A.getD (j0 + j) [] → i ∈ direct o ∨ ∃ k, k ∈ direct o ∧ i ∈ A.getD k []
  | [], _, _, j, o, h => by simp at h
  | o0 :: os, j0, hk, j, o, h => by
    simp only [okAnc, Bool.and_eq_true, List.all_eq_true, decide_eq_true_eq, Bool.or_eq_true, List.contains_iff_mem, List.any_eq_true] at hk
    cases j with
    | zero =>
      simp only [List.getElem?_cons_zero, Option.some.injEq] at h
      subst h
      exact ⟨hk.1.1, fun i hi => hk.1.2 i hi⟩
    | succ j =>
      simp only [List.getElem?_cons_succ] at h
      have := okAnc_spec os (j0 + 1) hk.2 j o h
      rw [show j0 + 1 + j = j0 + (j + 1) by omega] at this
      exact this

theorem pairsFrom_spec {A : List (List Nat)} {pairs : List (Nat × Nat)} {i : Nat} {a : CI} : ∀ (bs : List CI) (j0 : Nat), pairsFrom A pairs i a j0 bs = true → ∀ (j : Nat) (b : CI), bs[j]? = some b → pairOk A pairs i (j0 + j) a b = true
  | [], _, _, j, b, h => by simp at h
  | b0 :: bs, j0, hk, j, b, h => by
    simp only [pairsFrom, Bool.and_eq_true] at hk
    cases j with
    | zero =>
      simp only [List.getElem?_cons_zero, Option.some.injEq] at h
      subst h
      exact hk.1
    | succ j =>
      simp only [List.getElem?_cons_succ] at h
      have := pairsFrom_spec bs (j0 + 1) hk.2 j b h
      rw [show j0 + 1 + j = j0 + (j + 1) by omega] at this
      exact this

theorem allPairs_spec {A : List (List Nat)} {pairs : List (Nat × Nat)} : ∀ (cs : List CI) (i0 : Nat), allPairs A pairs i0 cs = true → ∀ (i j : Nat) (a b : CI), i < j → cs[i]? = some a → cs[j]? = some b → pairOk A pairs (i0 + i) (i0 + j) a b = true
  | [], _, _, i, j, a, b, _, h, _ => by simp at h
  | c :: cs, i0, hk, i, j, a, b, hij, ha, hb => by
    simp only [allPairs, Bool.and_eq_true] at hk
    cases j with
    | zero => omega
    | succ j =>
      simp only [List.getElem?_cons_succ] at hb
      cases i with
      | zero =>
        simp only [List.getElem?_cons_zero, Option.some.injEq] at ha
        subst ha
        have := pairsFrom_spec cs (i0 + 1) hk.1 j b hb
        rw [show i0 + 1 + j = i0 + (j + 1) by omega] at this
        exact this
      | succ i =>
        simp only [List.getElem?_cons_succ] at ha
        have := allPairs_spec cs (i0 + 1) hk.2 i j a b (by omega) ha hb
        rw [show i0 + 1 + i = i0 + (i + 1) by omega, show i0 + 1 + j = i0 + (j + 1) by omega] at this
        exact this

theorem meets_false {a b : List Nat} (h : (!meets a b) = true) {x : Nat} (ha : x ∈ a) : x ∉ b := by
  intro hb
  simp only [meets, Bool.not_eq_true', List.any_eq_false, Bool.not_eq_true] at h
  have := h x ha
  rw [List.contains_eq_mem] at this
  simp [hb] at this

/-- The run in the order of the text: each state, and what each operation looks at and turns. -/
structure Trace (E : Env) (C : Calls2) (fb : Nat) (cs : List CI) (S : Nat → St) (fp : Nat → List Nat × List Nat) : Prop where
  step : ∀ (j : Nat) (c : CI), cs[j]? = some c → fpCI E C fb c (S j) = some (fp j) ∧ stepCI E C fb c (S j) = some (S (j + 1))

theorem runFp_trace {E : Env} {C : Calls2} {fb : Nat} : ∀ (cs : List CI) (s s' : St) (fs : List (List Nat × List Nat)), runFp E C fb cs s = some (s', fs) →
    ∃ S fp, Trace E C fb cs S fp ∧ S 0 = s ∧ S cs.length = s' ∧ ∀ (j : Nat) (f : List Nat × List Nat), j < cs.length → fs[j]? = some f → f = fp j
  | [], s, s', fs, h => by
    simp only [runFp] at h
    injection h with h
    injection h with h1 h2
    exact ⟨fun _ => s, fun _ => ([], []), ⟨fun j c hc => by simp at hc⟩, rfl, h1, fun j f hj => by simp at hj⟩
  | c :: cs, s, s', fs, h => by
    simp only [runFp] at h
    split at h
    · rename_i f s1 hf hs
      split at h
      · rename_i s2 fs2 hr
        injection h with h
        injection h with h1 h2
        subst h1; subst h2
        obtain ⟨S, fp, T, e0, e1, e2⟩ := runFp_trace cs s1 s2 fs2 hr
        refine ⟨fun j => match j with | 0 => s | j + 1 => S j, fun j => match j with | 0 => f | j + 1 => fp j, ⟨fun j c' hc => ?_⟩, rfl, e1, fun j f' hj hf' => ?_⟩
        · cases j with
          | zero =>
            simp only [List.getElem?_cons_zero, Option.some.injEq] at hc
            subst hc
            simp only
            rw [e0]
            exact ⟨hf, hs⟩
          | succ j => exact T.step j c' (by simpa using hc)
        · cases j with
          | zero => simp at hf'; exact hf'.symm
          | succ j => exact e2 j f' (by simp at hj; omega) (by simpa using hf')
      · cases h
    · cases h

theorem tget_tput (d : Option Nat) (v : AV) (t : Tmps) (x : Nat) : tget (tput d v t) x = if d = some x then v else tget t x := by
  cases d with
  | none => simp [tput]
  | some d =>
    simp only [tput, tget, Option.some.injEq]

theorem opd_ev {t t2 : Tmps} {x : Opd} (h : ∀ n, n ∈ x.tm → tget t n = tget t2 n) : x.ev t = x.ev t2 := by
  cases x with
  | t n => exact h n (by simp [Opd.tm])
  | c v => rfl

theorem wants_congr {t t2 : Tmps} {g : Option (Nat × Bool)} (h : ∀ d want, g = some (d, want) → tget t d = tget t2 d) : wants t g = wants t2 g := by
  cases g with
  | none => rfl
  | some p =>
    obtain ⟨d, want⟩ := p
    simp only [wants, h d want rfl]

/-- One operation in another state that agrees with where it looks and turns. -/
theorem step_local {E : Env} {C : Calls2} {fb : Nat} {c : CI} {s s' s2 : St} {f : List Nat × List Nat} (hf : fpCI E C fb c s = some f) (hx : stepCI E C fb c s = some s') (ht : ∀ x, x ∈ c.reads → tget s2.t x = tget s.t x)
    (hl : s2.h.length = s.h.length) (he : ∀ id, id ∈ f.1 ∨ id ∈ f.2 → s2.h[id]? = s.h[id]?) :
    ∃ s2', stepCI E C fb c s2 = some s2' ∧ (∀ x, x ∈ c.wr → tget s2'.t x = tget s'.t x) ∧ (∀ x, x ∉ c.wr → tget s2'.t x = tget s2.t x) ∧ Loc2 f.2 s'.h s2.h s2'.h := by
  have hw : wants s2.t c.g = wants s.t c.g := wants_congr fun d want e => ht d (by simp [CI.reads, e])
  have ho : ∀ x, x ∈ c.op.opds → x.ev s2.t = x.ev s.t := fun x hx => opd_ev fun n hn => ht n (List.mem_append_left _ (List.mem_flatMap.2 ⟨x, hx, hn⟩))
  unfold fpCI at hf
  unfold stepCI at hx ⊢
  rw [hw]
  split at hx
  · rename_i hwt
    rw [hwt] at hf
    simp only at hf
    split at hx
    · rename_i v h' hv
      injection hx with hx
      subst hx
      obtain ⟨h2', p1, p2⟩ := evOp_local hl hf he hv
      rw [evOp_congr (t := s2.t) (t2 := s.t) ho, p1]
      refine ⟨_, rfl, fun x hx => ?_, fun x hx => ?_, p2⟩
      · rw [tget_tput, tget_tput]
        simp only [CI.wr, Option.mem_toList, Option.mem_def] at hx
        rw [if_pos hx, if_pos hx]
      · rw [tget_tput]
        simp only [CI.wr, Option.mem_toList, Option.mem_def] at hx
        rw [if_neg hx]
    · cases hx
  · rename_i hwt
    rw [hwt] at hf
    simp only at hf
    injection hf with hf
    subst hf
    injection hx with hx
    subst hx
    refine ⟨_, rfl, fun x hx => ?_, fun x hx => ?_, Loc2.refl _ _⟩
    · rw [tget_tput, tget_tput]
      simp only [CI.wr, Option.mem_toList, Option.mem_def] at hx
      rw [if_pos hx, if_pos hx]
    · rw [tget_tput]
      simp only [CI.wr, Option.mem_toList, Option.mem_def] at hx
      rw [if_neg hx]
  · cases hx

/-- What a step in the text's order leaves as it was. -/
theorem Trace.keep {E : Env} {C : Calls2} {fb : Nat} {cs : List CI} {S : Nat → St} {fp : Nat → List Nat × List Nat} (T : Trace E C fb cs S fp) {j : Nat} {c : CI} (hc : cs[j]? = some c) :
    (∀ x, x ∉ c.wr → tget (S (j + 1)).t x = tget (S j).t x) ∧ (S (j + 1)).h.length = (S j).h.length ∧ ∀ id, id ∉ (fp j).2 → (S (j + 1)).h[id]? = (S j).h[id]? := by
  obtain ⟨h1, h2⟩ := T.step j c hc
  obtain ⟨s2', p1, p2, p3, p4⟩ := step_local h1 h2 (fun _ _ => rfl) rfl (fun _ _ => rfl)
  rw [h2] at p1
  injection p1 with p1
  subst p1
  exact ⟨p3, p4.1, p4.2.2⟩

/-- A place whose content is told by the text's order, as far as the operations done say. -/
def AsText {α : Type} (n : Nat) (wr : Nat → Prop) (D : Nat → Prop) (val : Nat → α) (cur : α) : Prop := ∀ j, j ≤ n → (∀ k, k < n → wr k → (D k ↔ k < j)) → cur = val j

theorem val_keep {α : Type} {n : Nat} {wr : Nat → Prop} {val : Nat → α} (hk : ∀ k, k < n → ¬ wr k → val (k + 1) = val k) {i : Nat} : ∀ (d : Nat), i + d ≤ n → (∀ k, i ≤ k → k < i + d → ¬ wr k) → val (i + d) = val i
  | 0, _, _ => rfl
  | d + 1, hn, hw => by
    rw [show i + (d + 1) = i + d + 1 by omega, hk (i + d) (by omega) (hw _ (by omega) (by omega))]
    exact val_keep hk d (by omega) (fun k h1 h2 => hw k h1 (by omega))

theorem AsText.start {α : Type} {n : Nat} {wr : Nat → Prop} {D : Nat → Prop} {val : Nat → α} (hk : ∀ k, k < n → ¬ wr k → val (k + 1) = val k) (hD : ∀ k, ¬ D k) : AsText n wr D val (val 0) := by
  intro j hj hw
  have := val_keep (i := 0) hk j (by omega) (fun k _ hlt hwr => hD k ((hw k (by omega) hwr).2 (by omega)))
  rw [Nat.zero_add] at this
  exact this.symm

theorem AsText.at {α : Type} {n : Nat} {wr : Nat → Prop} {D : Nat → Prop} {val : Nat → α} {cur : α} (h : AsText n wr D val cur) {i : Nat} (hi : i < n) (hDi : ¬ D i) (hlo : ∀ k, k < i → wr k → D k) (hhi : ∀ k, i < k → k < n → wr k → ¬ D k) :
    cur = val i := by
  refine h i (by omega) fun k hk hw => ?_
  rcases Nat.lt_trichotomy k i with hlt | rfl | hgt
  · exact ⟨fun _ => hlt, fun _ => hlo k hlt hw⟩
  · exact ⟨fun h => (hDi h).elim, fun h => by omega⟩
  · exact ⟨fun h => (hhi k hgt hk hw h).elim, fun h => by omega⟩

theorem AsText.done {α : Type} {n : Nat} {wr : Nat → Prop} {D D' : Nat → Prop} {val : Nat → α} {cur cur' : α} (hk : ∀ k, k < n → ¬ wr k → val (k + 1) = val k) (h : AsText n wr D val cur) {i : Nat} (hi : i < n) (hD' : ∀ k, D' k ↔ D k ∨ k = i)
    (hhi : wr i → ∀ k, i < k → k < n → wr k → ¬ D k) (h1 : wr i → cur' = val (i + 1)) (h2 : ¬ wr i → cur' = cur) : AsText n wr D' val cur' := by
  intro j hj hw
  by_cases hwi : wr i
  · have hij : i < j := (hw i hi hwi).1 ((hD' i).2 (.inr rfl))
    rw [h1 hwi]
    have := val_keep (i := i + 1) hk (j - (i + 1)) (by omega) (fun k k1 k2 k3 => hhi hwi k (by omega) (by omega) k3 (by
      have := (hD' k).1 ((hw k (by omega) k3).2 (by omega))
      rcases this with h | h
      · exact h
      · omega))
    rw [show i + 1 + (j - (i + 1)) = j by omega] at this
    exact this.symm
  · rw [h2 hwi]
    refine h j hj fun k hk2 hwk => ?_
    rw [← hw k hk2 hwk, hD']
    constructor
    · exact .inl
    · rintro (h | rfl)
      · exact h
      · exact (hwi hwk).elim

/-- A state that is reached in another order, with the operations D done. -/
structure DState (cs : List CI) (S : Nat → St) (fp : Nat → List Nat × List Nat) (D : Nat → Prop) (s : St) : Prop where
  len : s.h.length = (S 0).h.length
  t : ∀ x, AsText cs.length (fun k => ∃ c, cs[k]? = some c ∧ x ∈ c.wr) D (fun j => tget (S j).t x) (tget s.t x)
  o : ∀ id, AsText cs.length (fun k => id ∈ (fp k).2) D (fun j => (S j).h[id]?) s.h[id]?

theorem get_of_lt {cs : List CI} {k : Nat} (h : k < cs.length) : ∃ c, cs[k]? = some c := ⟨cs[k], List.getElem?_eq_getElem h⟩

section
variable {E : Env} {C : Calls2} {fb : Nat} {cs : List CI} {S : Nat → St} {fp : Nat → List Nat × List Nat}

theorem Trace.keepT (T : Trace E C fb cs S fp) (x : Nat) (k : Nat) (hk : k < cs.length) (hw : ¬ ∃ c, cs[k]? = some c ∧ x ∈ c.wr) : tget (S (k + 1)).t x = tget (S k).t x := by
  obtain ⟨c, hc⟩ := get_of_lt hk
  exact (T.keep hc).1 x (fun h => hw ⟨c, hc, h⟩)

theorem Trace.keepO (T : Trace E C fb cs S fp) (id : Nat) (k : Nat) (hk : k < cs.length) (hw : id ∉ (fp k).2) : (S (k + 1)).h[id]? = (S k).h[id]? := by
  obtain ⟨c, hc⟩ := get_of_lt hk
  exact (T.keep hc).2.2 id hw

theorem Trace.len (T : Trace E C fb cs S fp) : ∀ (k : Nat), k ≤ cs.length → (S k).h.length = (S 0).h.length
  | 0, _ => rfl
  | k + 1, hk => by
    obtain ⟨c, hc⟩ := get_of_lt (show k < cs.length by omega)
    rw [(T.keep hc).2.1, T.len k (by omega)]

/-- What two operations that no order binds have to do with one another: nothing. -/
structure Free (cs : List CI) (fp : Nat → List Nat × List Nat) (i j : Nat) : Prop where
  t : ∀ a b, cs[i]? = some a → cs[j]? = some b → ∀ x, (x ∈ a.wr → x ∉ b.wr ∧ x ∉ b.reads) ∧ (x ∈ a.reads → x ∉ b.wr)
  o : ∀ id, (id ∈ (fp i).2 → id ∉ (fp j).1 ∧ id ∉ (fp j).2) ∧ (id ∈ (fp i).1 → id ∉ (fp j).2)

theorem fpCI_T {c : CI} {s : St} {f : List Nat × List Nat} (hT : c.op.isT = true) (hf : fpCI E C fb c s = some f) : f = ([], []) := by
  unfold fpCI at hf
  split at hf
  · rw [fpOf_isT hT] at hf; injection hf with hf; exact hf.symm
  · injection hf with hf; exact hf.symm
  · cases hf

theorem fpCI_L {c : CI} {s : St} {f : List Nat × List Nat} (hT : c.op.isL = true) (hf : fpCI E C fb c s = some f) : f.2 = [] := by
  unfold fpCI at hf
  split at hf
  · exact fpOf_isL hT hf
  · injection hf with hf; rw [← hf]
  · cases hf

theorem pair_free {A : List (List Nat)} {pairs : List (Nat × Nat)} (T : Trace E C fb cs S fp) {fs : List (List Nat × List Nat)} (hfs : ∀ (j : Nat) (f : List Nat × List Nat), j < cs.length → fs[j]? = some f → f = fp j) (hp : pairsOk fs pairs = true)
    {i j : Nat} {a b : CI} (ha : cs[i]? = some a) (hb : cs[j]? = some b) (hk : pairOk A pairs i j a b = true) : i ∈ A.getD j [] ∨ Free cs fp i j := by
  simp only [pairOk, Bool.or_eq_true, Bool.and_eq_true, List.contains_iff_mem] at hk
  rcases hk with hk | ⟨h1, h2⟩
  · exact .inl hk
  refine .inr ⟨fun a' b' ha' hb' x => ?_, fun id => ?_⟩
  · rw [ha] at ha'; injection ha' with ha'; subst ha'
    rw [hb] at hb'; injection hb' with hb'; subst hb'
    simp only [tmApart, Bool.and_eq_true] at h1
    exact ⟨fun hx => ⟨meets_false h1.1.1 hx, meets_false h1.1.2 hx⟩, fun hx => meets_false h1.2 hx⟩
  · have fa := (T.step i a ha).1
    have fb' := (T.step j b hb).1
    rcases h2 with ((h2 | h2) | h2) | h2
    · rw [fpCI_T h2 fa]; exact ⟨(fun h => by cases h), (fun h => by cases h)⟩
    · rw [fpCI_T h2 fb']; exact ⟨(fun h => ⟨(fun h => by cases h), (fun h => by cases h)⟩), (fun h => (fun h => by cases h))⟩
    · rw [fpCI_L h2.1 fa, fpCI_L h2.2 fb']; exact ⟨(fun h => by cases h), (fun h => (fun h => by cases h))⟩
    · simp only [pairsOk, List.all_eq_true] at hp
      have := hp _ h2
      simp only at this
      split at this
      · rename_i x y hx hy
        have e1 := hfs i x (List.getElem?_eq_some_iff.1 ha).1 hx
        have e2 := hfs j y (List.getElem?_eq_some_iff.1 hb).1 hy
        subst e1; subst e2
        simp only [fpApart, Bool.and_eq_true] at this
        exact ⟨fun h => ⟨meets_false this.1.1 h, meets_false this.1.2 h⟩, fun h => meets_false this.2 h⟩
      · cases this

theorem Free.symm {i j : Nat} (h : Free cs fp i j) : Free cs fp j i := by
  refine ⟨fun a b ha hb x => ?_, fun id => ?_⟩
  · have := h.t b a hb ha x
    exact ⟨fun hx => ⟨fun hy => (this.1 hy).1 hx, fun hy => this.2 hy hx⟩, fun hx hy => (this.1 hy).2 hx⟩
  · have := h.o id
    exact ⟨fun hx => ⟨fun hy => this.2 hy hx, fun hy => (this.1 hy).2 hx⟩, fun hx hy => (this.1 hy).1 hx⟩

/-- A step in another order. -/
theorem dstep (T : Trace E C fb cs S fp) {D : Nat → Prop} {s : St} (R : DState cs S fp D s) {i : Nat} {c : CI} (hc : cs[i]? = some c) (hDi : ¬ D i)
    (hlo : ∀ k, k < i → ¬ D k → Free cs fp k i) (hhi : ∀ k, i < k → k < cs.length → D k → Free cs fp k i) :
    ∃ s2, stepCI E C fb c s = some s2 ∧ ∀ D' : Nat → Prop, (∀ k, D' k ↔ D k ∨ k = i) → DState cs S fp D' s2 := by
  have hi : i < cs.length := (List.getElem?_eq_some_iff.1 hc).1
  obtain ⟨h1, h2⟩ := T.step i c hc
  have clT : ∀ x, (x ∈ c.reads ∨ x ∈ c.wr) → (∀ k, k < i → (∃ b, cs[k]? = some b ∧ x ∈ b.wr) → D k) ∧ ∀ k, i < k → k < cs.length → (∃ b, cs[k]? = some b ∧ x ∈ b.wr) → ¬ D k := by
    intro x hx
    refine ⟨fun k hk ⟨b, hb, hw⟩ => Classical.byContradiction fun hn => ?_, fun k hk hkn ⟨b, hb, hw⟩ hD => ?_⟩
    · have := ((hlo k hk hn).t b c hb hc x).1 hw
      rcases hx with hx | hx
      · exact this.2 hx
      · exact this.1 hx
    · have := ((hhi k hk hkn hD).t b c hb hc x).1 hw
      rcases hx with hx | hx
      · exact this.2 hx
      · exact this.1 hx
  have clO : ∀ id, (id ∈ (fp i).1 ∨ id ∈ (fp i).2) → (∀ k, k < i → id ∈ (fp k).2 → D k) ∧ ∀ k, i < k → k < cs.length → id ∈ (fp k).2 → ¬ D k := by
    intro id hx
    refine ⟨fun k hk hw => Classical.byContradiction fun hn => ?_, fun k hk hkn hw hD => ?_⟩
    · have := ((hlo k hk hn).o id).1 hw
      rcases hx with hx | hx
      · exact this.1 hx
      · exact this.2 hx
    · have := ((hhi k hk hkn hD).o id).1 hw
      rcases hx with hx | hx
      · exact this.1 hx
      · exact this.2 hx
  obtain ⟨s2, p1, p2, p3, p4⟩ := step_local (s2 := s) h1 h2 (fun x hx => (R.t x).at hi hDi (clT x (.inl hx)).1 (clT x (.inl hx)).2) (by rw [R.len, T.len i (by omega)])
    (fun id hid => (R.o id).at hi hDi (clO id hid).1 (clO id hid).2)
  refine ⟨s2, p1, fun D' hD' => ⟨by rw [p4.1, R.len], fun x => ?_, fun id => ?_⟩⟩
  · refine (R.t x).done (T.keepT x) hi hD' (fun hw => ?_) (fun hw => ?_) (fun hw => ?_)
    · obtain ⟨c', hc', hx⟩ := hw
      rw [hc] at hc'; injection hc' with hc'; subst hc'
      exact (clT x (.inr hx)).2
    · obtain ⟨c', hc', hx⟩ := hw
      rw [hc] at hc'; injection hc' with hc'; subst hc'
      exact p2 x hx
    · exact p3 x (fun hx => hw ⟨c, hc, hx⟩)
  · exact (R.o id).done (T.keepO id) hi hD' (fun hw => (clO id (.inr hw)).2) (fun hw => p4.2.1 id hw) (fun hw => p4.2.2 id hw)

end

theorem filter_lt {α : Type} {p q : α → Bool} : ∀ (l : List α), (∀ x, q x = true → p x = true) → (∃ x, x ∈ l ∧ p x = true ∧ q x = false) → (l.filter q).length < (l.filter p).length
  | [], _, h => by obtain ⟨x, hx, _⟩ := h; cases hx
  | y :: l, hq, h => by
    have le : ∀ (l : List α), (l.filter q).length ≤ (l.filter p).length := by
      intro l
      induction l with
      | nil => simp
      | cons z l ih =>
        simp only [List.filter_cons]
        cases hz : q z with
        | true => rw [hq z hz]; simpa using ih
        | false => cases p z <;> simp <;> omega
    simp only [List.filter_cons]
    cases hy : q y with
    | true =>
      rw [hq y hy]
      obtain ⟨x, hx, h1, h2⟩ := h
      have := filter_lt l hq ⟨x, by
        rcases List.mem_cons.1 hx with rfl | hx
        · rw [hy] at h2; cases h2
        · exact hx, h1, h2⟩
      simpa using this
    | false =>
      cases hp : p y with
      | true => have := le l; simp; omega
      | false =>
        obtain ⟨x, hx, h1, h2⟩ := h
        have := filter_lt l hq ⟨x, by
          rcases List.mem_cons.1 hx with rfl | hx
          · rw [hp] at h1; cases h1
          · exact hx, h1, h2⟩
        simpa using this

def unl (n : Nat) (listed : Array Bool) : Nat := ((List.range n).filter fun j => !listed.getD j false).length

theorem chkCIs_spec {N : Nat} {ops : Array Oper} : ∀ (os : List Oper) (cs : List CI), chkCIs P nm N ops os cs = true → os.length = cs.length ∧ ∀ (j : Nat) (o : Oper) (c : CI), os[j]? = some o → cs[j]? = some c → chkCI P nm N ops o c = true
  | [], [], _ => ⟨rfl, fun j o c h => by simp at h⟩
  | o :: os, c :: cs, h => by
    simp only [chkCIs, Bool.and_eq_true] at h
    obtain ⟨h1, h2⟩ := chkCIs_spec os cs h.2
    refine ⟨by simp [h1], fun j o' c' ho hc => ?_⟩
    cases j with
    | zero => simp at ho hc; subst ho; subst hc; exact h.1
    | succ j => exact h2 j o' c' (by simpa using ho) (by simpa using hc)
  | [], _ :: _, h => by cases h
  | _ :: _, [], h => by cases h

theorem SR.same {N : Nat} {a : Act} {s s' : St} (R : SR nm N w F m a s) (h1 : s.h = s'.h) (h2 : ∀ x, tget s.t x = tget s'.t x) : SR nm N w F m a s' :=
  ⟨h1 ▸ R.inv, fun i => by have := R.t i; rw [h1, h2] at this; exact this, R.size, R.defers⟩

theorem draw_any (H : NmOk P nm) {E : Env} {C : Calls2} (hP : PSound P nm C.p) (hI : ISound P nm C.i) {N : Nat} {ops : Array Oper} {fb : Nat} {Q : Exit → Act → World → Prop} {cs : List CI} {S : Nat → St} {fp : Nat → List Nat × List Nat}
    (T : Trace E C fb cs S fp) (hn : ops.size = cs.length) (hc : ∀ (j : Nat) (o : Oper) (c : CI), ops[j]? = some o → cs[j]? = some c → chkCI P nm N ops o c = true)
    {A : List (List Nat)} (hA : ∀ (j : Nat) (o : Oper), ops[j]? = some o → (∀ k, k ∈ direct o → k < j) ∧ ∀ i, i ∈ A.getD j [] → i ∈ direct o ∨ ∃ k, k ∈ direct o ∧ i ∈ A.getD k [])
    (hF : ∀ i j, i < j → j < cs.length → i ∈ A.getD j [] ∨ Free cs fp i j) :
    ∀ (fuel : Nat) (listed : Array Bool) (a : Act) (s : St) (w : World) (F : Nat → Prop) (m : MapT), listed.size = ops.size → unl ops.size listed ≤ fuel →
      (∀ (j : Nat) (o : Oper), ops[j]? = some o → listed.getD j false = true → ∀ k, k ∈ direct o → listed.getD k false = true) →
      DState cs S fp (fun k => listed.getD k false = true) s → SR nm N w F m a s →
      (∀ a' w' F' m', SR nm N w' F' m' a' (S cs.length) → Tr w F m (gens s.h) w' F' m' (gens (S cs.length).h) → Q .normal a' w') → wpAny P .any ops Q fuel listed a w := by
  -- all is done where nothing is ready
  have hdone : ∀ (listed : Array Bool) (a : Act) (s : St) (w : World) (F : Nat → Prop) (m : MapT), listed.size = ops.size → DState cs S fp (fun k => listed.getD k false = true) s → SR nm N w F m a s →
      (∀ a' w' F' m', SR nm N w' F' m' a' (S cs.length) → Tr w F m (gens s.h) w' F' m' (gens (S cs.length).h) → Q .normal a' w') → (∀ j, j < ops.size → listed.getD j false = true) → Q .normal a w := by
    intro listed a s w F m hsz hD R hQ hall
    have e1 : s.h = (S cs.length).h := List.ext_getElem? fun id => hD.o id cs.length (Nat.le_refl _) fun k hk _ => ⟨fun _ => hk, fun _ => hall k (by omega)⟩
    have e2 : ∀ x, tget s.t x = tget (S cs.length).t x := fun x => hD.t x cs.length (Nat.le_refl _) fun k hk _ => ⟨fun _ => hk, fun _ => hall k (by omega)⟩
    exact hQ a w F m (R.same e1 e2) (e1 ▸ Tr.refl _ _ _ _)
  have hready : ∀ (listed : Array Bool), listed.size = ops.size → (∃ j, j < ops.size ∧ listed.getD j false = false) → Region.ready .any ops listed ≠ [] := by
    intro listed hsz ⟨j, hj, hf⟩ he
    have key : ∀ (n j : Nat), j < n → j < ops.size → listed.getD j false = true := by
      intro n
      induction n with
      | zero => intro j h; omega
      | succ n ih =>
        intro j hjn hj
        cases hl : listed.getD j false with
        | true => rfl
        | false =>
          have hmem : j ∈ Region.ready .any ops listed := by
            rw [mem_ready]
            have hlt : j < listed.size := by omega
            have ho : ops[j]? = some ops[j] := Array.getElem?_eq_getElem hj
            refine ⟨by simp [hlt] at hl ⊢; exact hl, ops[j], ho, fun e hea heb => ?_⟩
            have hd : e.on ∈ direct ops[j] := List.mem_map.2 ⟨e, List.mem_filter.2 ⟨by simpa using hea, heb⟩, rfl⟩
            have := (hA j _ ho).1 _ hd
            exact ih e.on (by omega) (by omega)
          rw [he] at hmem
          cases hmem
    rw [key ops.size j hj hj] at hf
    cases hf
  intro fuel
  induction fuel with
  | zero =>
    intro listed a s w F m hsz hfu hcl hD R hQ
    have hall : ∀ j, j < ops.size → listed.getD j false = true := by
      intro j hj
      cases hl : listed.getD j false with
      | true => rfl
      | false =>
        have : j ∈ (List.range ops.size).filter fun j => !listed.getD j false := List.mem_filter.2 ⟨List.mem_range.2 hj, by rw [hl]; rfl⟩
        have := List.length_pos_of_mem this
        unfold unl at hfu
        omega
    refine ⟨?_, hdone listed a s w F m hsz hD R hQ hall⟩
    cases hr : Region.ready .any ops listed with
    | nil => rfl
    | cons x xs =>
      have : x ∈ Region.ready .any ops listed := by rw [hr]; simp
      obtain ⟨h1, o, ho, _⟩ := mem_ready.1 this
      have hx := (Array.getElem?_eq_some_iff.1 ho).1
      have h2 := hall x hx
      have hlt : x < listed.size := by omega
      simp [hlt] at h1 h2
      rw [h1] at h2
      cases h2
  | succ fuel ih =>
    intro listed a s w F m hsz hfu hcl hD R hQ
    refine ⟨fun he => hdone listed a s w F m hsz hD R hQ fun j hj => ?_, fun i hi => ?_⟩
    · cases hl : listed.getD j false with
      | true => rfl
      | false => exact (hready listed hsz ⟨j, hj, hl⟩ he).elim
    · obtain ⟨h1, o, ho, hdeps⟩ := mem_ready.1 hi
      have hin := (Array.getElem?_eq_some_iff.1 ho).1
      have hlt : i < listed.size := by omega
      have hDi : listed.getD i false = false := by simp [hlt] at h1 ⊢; exact h1
      obtain ⟨c, hcc⟩ := get_of_lt (show i < cs.length by omega)
      have hdir : ∀ k, k ∈ direct o → listed.getD k false = true := by
        intro k hk
        obtain ⟨e, he, rfl⟩ := List.mem_map.1 hk
        obtain ⟨he1, he2⟩ := List.mem_filter.1 he
        exact hdeps e (by simpa using he1) he2
      have hanc : ∀ (n j : Nat) (o : Oper), j < n → ops[j]? = some o → (∀ k, k ∈ direct o → listed.getD k false = true) → ∀ k, k ∈ A.getD j [] → listed.getD k false = true := by
        intro n
        induction n with
        | zero => intro j o h; omega
        | succ n ihn =>
          intro j o hjn ho hd k hk
          rcases (hA j o ho).2 k hk with h | ⟨k2, h2, h3⟩
          · exact hd k h
          · have hk2 := (hA j o ho).1 k2 h2
            have ho2 : ops[k2]? = some (ops[k2]'(by have := (Array.getElem?_eq_some_iff.1 ho).1; omega)) := Array.getElem?_eq_getElem _
            exact ihn k2 _ (by omega) ho2 (hcl k2 _ ho2 (hd k2 h2)) k h3
      obtain ⟨s2, p1, p2⟩ := dstep T hD hcc (by rw [hDi]; exact Bool.false_ne_true) (fun k hk hnk => by
          rcases hF k i hk (by omega) with h | h
          · exact (hnk (hanc (i + 1) i o (by omega) ho hdir k h)).elim
          · exact h) (fun k hk hkn hDk => by
          rcases hF i k hk hkn with h | h
          · have hok : ops[k]? = some (ops[k]'(by omega)) := Array.getElem?_eq_getElem _
            have := hanc (k + 1) k _ (by omega) hok (hcl k _ hok hDk) i h
            rw [hDi] at this
            cases this
          · exact h.symm)
      have hst := step_sound H hP hI R (hc i o c ho hcc) p1 (next := wpAny P .any ops Q fuel (listed.setIfInBounds i true)) (Q := Q) (fun a' w' F' m' R' T' => by
        have hset : ∀ k, (listed.setIfInBounds i true).getD k false = true ↔ listed.getD k false = true ∨ k = i := by
          intro k
          by_cases hki : i = k
          · subst hki
            simp [hlt]
          · rw [getD_set_ne false hki]
            constructor
            · exact .inl
            · rintro (h | h)
              · exact h
              · exact (hki h.symm).elim
        refine ih _ a' s2 w' F' m' (by simp [hsz]) ?_ ?_ (p2 _ hset) R' (fun a2 w2 F2 m2 R2 T2 => hQ a2 w2 F2 m2 R2 (T'.trans T2))
        · have : unl ops.size (listed.setIfInBounds i true) < unl ops.size listed := by
            unfold unl
            refine filter_lt _ (fun x hx => ?_) ⟨i, List.mem_range.2 hin, by rw [hDi]; rfl, by rw [(hset i).2 (.inr rfl)]; rfl⟩
            cases hl : listed.getD x false with
            | false => rfl
            | true => rw [(hset x).2 (.inl hl)] at hx; cases hx
          omega
        · intro j o' ho' hj k hk
          rw [hset]
          rcases (hset j).1 hj with h | h
          · exact .inl (hcl j o' ho' h k hk)
          · subst h
            rw [ho] at ho'
            injection ho' with ho'
            subst ho'
            exact .inl (hdir k hk))
      unfold wpOp
      simp only [ho]
      split
      · rename_i hw; rw [if_pos hw] at hst; exact .inl hst
      · rename_i hw; rw [if_neg hw] at hst; exact hst

theorem draw_sound (H : NmOk P nm) {E : Env} {C : Calls2} (hP : PSound P nm C.p) (hI : ISound P nm C.i) {N : Nat} {ops : Array Oper} {fb id : Nat} {Q : Exit → Act → World → Prop} {cs : List CI} {pairs : List (Nat × Nat)} {a : Act} {s s' : St}
    (hc : chkDraw P nm N ops cs pairs = true) (R : SR nm N w F m a s) (hx : runDraw E C fb cs pairs s = some s')
    (hQ : ∀ a' w' F' m', SR nm N w' F' m' a' s' → Tr w F m (gens s.h) w' F' m' (gens s'.h) → Q .normal a' w') : (Code.region id ops true).wp P Q a w := by
  unfold runDraw at hx
  split at hx
  · rename_i s1 fs hrun
    split at hx
    · rename_i hpairs
      injection hx with hx
      subst hx
      simp only [chkDraw, Bool.and_eq_true] at hc
      obtain ⟨⟨h1, h2⟩, h3⟩ := hc
      obtain ⟨S, fp, T, e0, e1, e2⟩ := runFp_trace cs s s1 fs hrun
      obtain ⟨hlen, hcis⟩ := chkCIs_spec _ _ h1
      have hlen' : ops.size = cs.length := by simpa using hlen
      subst e0
      subst e1
      refine wp_region_any H.1 ?_
      have hh : ({ w with drawn := w.drawn + 1 } : World).heap = w.heap := rfl
      have hz : ∀ k, (Array.replicate ops.size false).getD k false = false := by
        intro k
        rw [Array.getD_eq_getD_getElem?, Array.getElem?_replicate]
        split <;> rfl
      refine draw_any H hP hI T hlen' (fun j o c ho hc => hcis j o c (by simpa using ho) hc) (A := ancs ops.toList) (fun j o ho => by
          have := okAnc_spec ops.toList 0 h2 j o (by simpa using ho)
          rwa [Nat.zero_add] at this) (fun i j hij hj => by
          obtain ⟨ca, ha⟩ := get_of_lt (show i < cs.length by omega)
          obtain ⟨cb, hb⟩ := get_of_lt hj
          have := allPairs_spec cs 0 h3 i j ca cb hij ha hb
          rw [Nat.zero_add, Nat.zero_add] at this
          exact pair_free T e2 hpairs ha hb this) ops.size _ a (S 0) _ F m (by simp) ?_ (fun j o _ hj => by rw [hz] at hj; cases hj) ?_ ?_ ?_
      · unfold unl
        exact Nat.le_trans (List.length_filter_le _ _) (by simp)
      · exact ⟨rfl, fun x => AsText.start (T.keepT x) (fun k hk => by rw [hz] at hk; cases hk), fun id => AsText.start (T.keepO id) (fun k hk => by rw [hz] at hk; cases hk)⟩
      · exact ⟨R.inv.heap hh, R.t.tr R.inv.bd (Tr.heap hh rfl rfl rfl), R.size, R.defers⟩
      · exact fun a' w' F' m' R' T' => hQ a' w' F' m' R' ((Tr.heap hh rfl rfl rfl).trans T')
    · cases hx
  · cases hx

end Go.Vm
