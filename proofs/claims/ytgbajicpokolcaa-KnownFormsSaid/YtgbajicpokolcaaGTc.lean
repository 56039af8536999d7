/- The table of the pass 'known', in plain words: facts flow from place to place until they stay. What a callee made, as the caller's own: a list, or nothing. Heaps that grow: what lies where, behind one more object, behind one that is turned. Clones of lists of numbers. Clones of lists of instructions, of rows. Functions whose lists are not too long. ins.Copy: a function's copy. A function whose lists lie in objects of one's own: how it reads, how it is handed out, how a copy comes to lie so. A pass: a function as a variable of one's own, its lists in objects of one's own. Boxes of an instruction. Maps from facts on the machine. The facts of the pass 'known' on the machine: what is checked; what holds on both ways. What the functions of 'ins' answer of single instructions. The register that an instruction writes. The facts of the pass 'known' on the machine: what holds behind an instruction. -/
import Derived.Test.YtgbajicpokolcaaGX
import Derived.Test.YtgbajicpokolcaaGTb
set_option linter.unusedSimpArgs false
set_option linter.unusedVariables false
set_option linter.unusedSectionVars false
namespace Go.Vm
abbrev KTab := List (Option Fs)
def kAt (T : KTab) (i : Nat) : Option Fs := T[i]?.join
def ye6 (s : Fs) (to : Int) (p : KTab × List Int) : KTab × List Int :=
  match kAt p.1 to.toNat with
  | none => (p.1.set to.toNat (some s), p.2 ++ [to])
  | some t => if (y4m t s).length = t.length then p else (p.1.set to.toNat (some (y4m t s)), p.2 ++ [to])
def y4i (s : Fs) : List Int → KTab × List Int → KTab × List Int
  | [], p => p
  | to :: l, p => y4i s l (ye6 s to p)
theorem yfe {T : KTab} {i j : Nat} {x : Option Fs} (hi : i < T.length) : kAt (T.set i x) j = if i = j then x else kAt T j := by
  unfold kAt
  rw [List.getElem?_set]
  by_cases e : i = j
  · subst e; simp [hi]
  · simp [e]
theorem y21s {T : KTab} {i : Nat} {s : Fs} (h : kAt T i = some s) : T[i]? = some (some s) := by
  unfold kAt at h
  cases hT : T[i]? with
  | none => rw [hT] at h; cases h
  | some o => rw [hT] at h; have : o = some s := h; rw [this]
theorem y27b {T : KTab} {i : Nat} {s : Fs} (h : kAt T i = some s) : i < T.length := (List.getElem?_eq_some_iff.1 (y21s h)).1
def SubK (t s : Fs) : Prop := ∀ c ∈ t, c ∈ s
theorem SubK.refl (t : Fs) : SubK t t := fun _ h => h
theorem SubK.trans {a b c : Fs} (h : SubK a b) (h' : SubK b c) : SubK a c := fun x hx => h' x (h x hx)
def yc6 (f : Fn) : Nat → Fa → Prop
  | 0, _ => False
  | k + 1, c => ymw f (k + 1) = false ∧ (ofM (yh f k) = some c ∨ (yc6 f k c ∧ (defr (yh f k) < 0 ∨ (c.2.1 ≠ defr (yh f k) ∧ c.2.2 ≠ defr (yh f k)))))
structure TOkK (f : Fn) (T : KTab) : Prop where
  len : T.length = (lst f.code).length
  rows : ∀ (i : Nat) s, kAt T i = some s → s.Nodup ∧ FsIn (lst f.regs).length s ∧ ∀ c, yc6 f i c → c ∈ s
  zero : kAt T 0 = some []
def LeK (a b : KTab) : Prop := ∀ (i : Nat) s, kAt a i = some s → ∃ t, kAt b i = some t ∧ SubK t s
theorem LeK.refl (a : KTab) : LeK a a := fun _ s h => ⟨s, h, .refl _⟩
theorem LeK.trans {a b c : KTab} (h : LeK a b) (h' : LeK b c) : LeK a c := fun i s hs => by
  obtain ⟨t, h1, h2⟩ := h i s hs
  obtain ⟨u, h3, h4⟩ := h' i t h1
  exact ⟨u, h3, h4.trans h2⟩
def AtK (T : KTab) (to : Int) (s : Fs) : Prop := ∃ t, kAt T to.toNat = some t ∧ SubK t s
theorem AtK.mono {a b : KTab} (h : LeK a b) {to : Int} {s : Fs} (hs : AtK a to s) : AtK b to s := by
  obtain ⟨t, h1, h2⟩ := hs
  obtain ⟨u, h3, h4⟩ := h _ _ h1
  exact ⟨u, h3, h4.trans h2⟩
def wtK (B : Nat) : Option Fs → Nat
  | none => B + 1
  | some s => s.length
def potK (B : Nat) (T : KTab) : Nat := (T.map (wtK B)).sum
theorem y21b {B : Nat} {T : KTab} {i : Nat} {y : Option Fs} (h : i < T.length) : potK B (T.set i y) + wtK B (kAt T i) = potK B T + wtK B y := by
  unfold potK
  induction T generalizing i with
  | nil => simp at h
  | cons a T ih =>
    cases i with
    | zero =>
      simp only [List.set_cons_zero, List.map_cons, List.sum_cons]
      have : kAt (a :: T) 0 = a := rfl
      rw [this]
      omega
    | succ i =>
      have := ih (i := i) (by simpa using h)
      have e : kAt (a :: T) (i + 1) = kAt T i := by simp [kAt]
      rw [e]
      simp only [List.set_cons_succ, List.map_cons, List.sum_cons]
      omega
def bK (f : Fn) : Nat := bndK (lst f.regs).length
structure FlowKR (f : Fn) (J : Int → Prop) (p q : KTab × List Int) : Prop where
  ok : TOkK f q.1
  le : LeK p.1 q.1
  work : ∀ (i : Nat) t, kAt q.1 i = some t → kAt p.1 i = some t ∨ (i : Int) ∈ q.2
  keep : ∀ j, j ∈ p.2 → j ∈ q.2
  fresh : ∀ j, j ∈ q.2 → j ∈ p.2 ∨ (0 ≤ j ∧ j < (lst f.code).length ∧ kAt q.1 j.toNat ≠ none)
  pot : 2 * potK (bK f) q.1 + q.2.length ≤ 2 * potK (bK f) p.1 + p.2.length
theorem FlowKR.refl {f : Fn} {J : Int → Prop} {p : KTab × List Int} (h : TOkK f p.1) : FlowKR f J p p :=
  ⟨h, .refl _, fun _ _ h => .inl h, fun _ h => h, fun _ h => .inl h, Nat.le_refl _⟩
theorem FlowKR.trans {f : Fn} {J J' : Int → Prop} {p q u : KTab × List Int} (h : FlowKR f J p q) (h' : FlowKR f J' q u) : FlowKR f J p u := by
  refine ⟨h'.ok, h.le.trans h'.le, fun i t ht => ?_, fun j hj => h'.keep j (h.keep j hj), fun j hj => ?_, Nat.le_trans h'.pot h.pot⟩
  · rcases h'.work i t ht with h1 | h1
    · rcases h.work i t h1 with h2 | h2
      · exact .inl h2
      · exact .inr (h'.keep _ h2)
    · exact .inr h1
  · rcases h'.fresh j hj with h1 | h1
    · rcases h.fresh j h1 with h2 | ⟨a, b, c⟩
      · exact .inl h2
      · refine .inr ⟨a, b, fun e => c ?_⟩
        cases hc : kAt q.1 j.toNat with
        | none => rfl
        | some t =>
          obtain ⟨v, hv, _⟩ := h'.le _ _ hc
          rw [e] at hv; cases hv
    · exact .inr h1
structure FsOk (f : Fn) (s : Fs) : Prop where
  nd : s.Nodup
  fin : FsIn (lst f.regs).length s
theorem FsOk.len {f : Fn} {s : Fs} (h : FsOk f s) : s.length ≤ bK f := y2j4 h.nd h.fin
theorem ybz {f : Fn} {s : Fs} {to : Int} {p : KTab × List Int} (hp : TOkK f p.1) (hs : FsOk f s) (hl : ∀ c, yc6 f to.toNat c → c ∈ s) (h0 : 0 ≤ to) (h1 : to < (lst f.code).length) :
    FlowKR f (· = to) p (ye6 s to p) ∧ AtK (ye6 s to p).1 to s := by
  obtain ⟨T, W⟩ := p
  simp only at hp
  have hlt : to.toNat < T.length := by rw [hp.len]; omega
  have main : ∀ n : Fs, to.toNat ≠ 0 → FsOk f n → (∀ c, yc6 f to.toNat c → c ∈ n) → SubK n s → (∀ t, kAt T to.toNat = some t → SubK n t) → n.length + 1 ≤ wtK (bK f) (kAt T to.toNat) →
      FlowKR f (· = to) (T, W) (T.set to.toNat (some n), W ++ [to]) ∧ AtK (T.set to.toNat (some n)) to s := by
    intro n t0 hn hln hsub hsub2 hw
    have hpot := y21b (B := bK f) (y := some n) hlt
    have at_ : ∀ j, kAt (T.set to.toNat (some n)) j = if to.toNat = j then some n else kAt T j := fun j => yfe hlt
    have hlen : (T.set to.toNat (some n)).length = T.length := List.length_set
    generalize T.set to.toNat (some n) = T' at *
    have here : kAt T' to.toNat = some n := by rw [at_, if_pos rfl]
    refine ⟨⟨⟨by rw [hlen]; exact hp.len, fun i t ht => ?_, ?_⟩, fun i t ht => ?_, fun i t ht => ?_, fun j hj => List.mem_append_left _ hj, fun j hj => ?_, ?_⟩, _, here, hsub⟩
    · rw [at_] at ht
      split at ht
      · rename_i e
        injection ht with ht; subst ht; subst e; exact ⟨hn.nd, hn.fin, hln⟩
      · exact hp.rows i t ht
    · rw [at_, if_neg t0]; exact hp.zero
    · simp only at ht ⊢
      rw [at_]
      by_cases e : to.toNat = i
      · rw [if_pos e]
        subst e
        exact ⟨_, rfl, hsub2 t ht⟩
      · rw [if_neg e]; exact ⟨t, ht, .refl _⟩
    · simp only at ht ⊢
      rw [at_] at ht
      split at ht
      · rename_i e
        right
        rw [List.mem_append, List.mem_singleton]
        right; omega
      · exact .inl ht
    · simp only at hj ⊢
      rcases List.mem_append.1 hj with h | h
      · exact .inl h
      · rw [List.mem_singleton] at h
        subst h
        exact .inr ⟨h0, h1, by rw [here]; simp⟩
    · simp only [List.length_append, List.length_singleton]
      have e : wtK (bK f) (some n) = n.length := rfl
      rw [e] at hpot
      omega
  unfold ye6
  simp only
  cases ho : kAt T to.toNat with
  | none =>
    simp only
    refine main s (fun e => by rw [e, hp.zero] at ho; cases ho) hs hl (.refl _) (fun t ht => by rw [ho] at ht; cases ht) ?_
    rw [ho]
    have := hs.len
    simp only [wtK]
    omega
  | some t =>
    simp only
    obtain ⟨a1, a2, a3⟩ := hp.rows _ t ho
    split
    · rename_i hc
      exact ⟨.refl hp, _, ho, fun c hcm => y230 hc hcm⟩
    · rename_i hc
      have hm := y1f5 t s
      refine main (y4m t s) (fun e => ?_) ⟨yw5 a1, fun c hc => a2 c (y7k.1 hc).1⟩ (fun c h => y7k.2 ⟨a3 c h, hl c h⟩) (fun c hc => (y7k.1 hc).2) (fun t' ht c hc => ?_) ?_
      · rw [e, hp.zero] at ho
        injection ho with ho
        subst ho
        exact hc rfl
      · rw [ho] at ht
        injection ht with ht
        subst ht
        exact (y7k.1 hc).1
      · rw [ho]
        show _ ≤ t.length
        omega
theorem y90 {f : Fn} {s : Fs} (hs : FsOk f s) : ∀ (l : List Int) (p : KTab × List Int), TOkK f p.1 → (∀ to ∈ l, 0 ≤ to ∧ to < (lst f.code).length ∧ ∀ c, yc6 f to.toNat c → c ∈ s) →
    FlowKR f (fun _ => True) p (y4i s l p) ∧ ∀ to ∈ l, AtK (y4i s l p).1 to s
  | [], p, hp, _ => ⟨.refl hp, fun _ h => by cases h⟩
  | to :: l, p, hp, hl => by
    have ht := hl to (by simp)
    obtain ⟨a1, a2⟩ := ybz hp hs ht.2.2 ht.1 ht.2.1
    obtain ⟨b1, b2⟩ := y90 hs l (ye6 s to p) a1.ok (fun t ht => hl t (by simp [ht]))
    refine ⟨(FlowKR.trans (J := fun _ => True) ⟨a1.ok, a1.le, a1.work, a1.keep, a1.fresh, a1.pot⟩ b1), fun t ht => ?_⟩
    rcases List.mem_cons.1 ht with rfl | ht
    · exact a2.mono b1.le
    · exact b2 t ht
theorem y1a2 (t : Fs) : y4m t t = t := by
  unfold y4m
  rw [List.filter_eq_self]
  intro c hc
  simpa using hc
theorem ymz {t : Fs} {to : Int} {i : Nat} {p : KTab × List Int} (h : kAt p.1 i = some t) (hto : 0 ≤ to ∧ to < p.1.length) : kAt (ye6 t to p).1 i = some t := by
  unfold ye6
  split
  · rename_i ho
    simp only
    rw [yfe (by omega)]
    by_cases e : to.toNat = i
    · rw [e, h] at ho; cases ho
    · rw [if_neg e]; exact h
  · rename_i t' ho
    split
    · exact h
    · rename_i hc
      simp only
      rw [yfe (by omega)]
      by_cases e : to.toNat = i
      · exfalso
        rw [e, h] at ho
        injection ho with ho
        subst ho
        exact hc (by rw [y1a2])
      · rw [if_neg e]; exact h
theorem y1bi {f : Fn} (w : Wf f) {i : Nat} (hi : i < (lst f.code).length) {to : Int} (h : to ∈ yp f i) {c : Fa} : ¬ yc6 f to.toNat c := by
  intro hl
  have hto := w.caught h
  cases hk : to.toNat with
  | zero => rw [hk] at hl; exact hl
  | succ k =>
    rw [hk] at hl
    obtain ⟨hh, _⟩ := hl
    rw [← hk] at hh
    have hn : ¬ ymw f to.toNat = true := by rw [hh]; simp
    apply hn
    rw [yny]
    right; right; right
    unfold yp at h
    split at h
    · cases h
    · split at h
      · rcases y7u h with h | ⟨r, h1, h2⟩
        · cases h
        · exact ⟨r, h1, .inr (.inr (by omega))⟩
      · cases h
theorem y22c {f : Fn} (w : Wf f) {i : Nat} (hi : i < (lst f.code).length) {to : Int} (h : to ∈ y26 f i) {s : Fs} (hs : ∀ c, yc6 f i c → c ∈ s) : ∀ c, yc6 f to.toNat c → c ∈ behK s (yh f i) := by
  intro c hl
  have hto := w.next hi h
  cases hk : to.toNat with
  | zero => rw [hk] at hl; exact hl.elim
  | succ k =>
    rw [hk] at hl
    obtain ⟨hh, hl⟩ := hl
    rw [← hk] at hh
    obtain ⟨e1, _⟩ := y2jg hi (.inr h) hto.1 hh
    have e2 : k = i := by omega
    subst e2
    rcases hl with hl | ⟨hl, hd⟩
    · exact y22t hl
    · exact y1iv (hs c hl) hd
theorem yix {f : Fn} {t : Fs} {i : Nat} (ht : FsOk f t) : ∀ (l : List Int) (p : KTab × List Int), TOkK f p.1 → (∀ to ∈ l, 0 ≤ to ∧ to < (lst f.code).length ∧ ∀ c, yc6 f to.toNat c → c ∈ t) → kAt p.1 i = some t → kAt (y4i t l p).1 i = some t
  | [], _, _, _, h => h
  | to :: l, p, hp, hl, h => by
    have b := hl to (by simp)
    exact yix ht l _ (ybz hp ht b.2.2 b.1 b.2.1).1.ok (fun x hx => hl x (by simp [hx])) (ymz h (by rw [hp.len]; exact ⟨b.1, b.2.1⟩))
def y1te (f : Fn) (T : KTab) (i : Nat) (t : Fs) : Prop := (∀ to ∈ yp f i, AtK T to t) ∧ ∀ to ∈ y26 f i, AtK T to (behK t (yh f i))
structure InvK (f : Fn) (p : KTab × List Int) : Prop where
  ok : TOkK f p.1
  wk : ∀ j ∈ p.2, 0 ≤ j ∧ j < (lst f.code).length ∧ kAt p.1 j.toNat ≠ none
  closed : ∀ (i : Nat) t, kAt p.1 i = some t → (i : Int) ∈ p.2 ∨ y1te f p.1 i t
def tK (T : KTab) (i : Nat) : Fs := (kAt T i).getD []
def rndK (f : Fn) (i : Nat) (p : KTab × List Int) : KTab × List Int := y4i (behK (tK p.1 i) (yh f i)) (y26 f i) (y4i (tK p.1 i) (yp f i) p)
def meaK (f : Fn) (p : KTab × List Int) : Nat := 2 * potK (bK f) p.1 + p.2.length
theorem notN {α : Type} {o : Option α} (h : o ≠ none) : ∃ x, o = some x := by
  cases o with
  | none => exact (h rfl).elim
  | some x => exact ⟨x, rfl⟩
theorem LeK.nn {a b : KTab} (h : LeK a b) {i : Nat} (hi : kAt a i ≠ none) : kAt b i ≠ none := by
  obtain ⟨s, hs⟩ := notN hi
  obtain ⟨t, ht, _⟩ := h i s hs
  rw [ht]; simp
theorem yqk {f : Fn} (w : Wf f) {p : KTab × List Int} (hp : TOkK f p.1) {i : Nat} {t : Fs} (hi : i < (lst f.code).length) (ht : kAt p.1 i = some t) :
    FlowKR f (fun _ => True) p (rndK f i p) ∧ y1te f (rndK f i p).1 i t ∧
      TOkK f (y4i t (yp f i) p).1 ∧ kAt (y4i t (yp f i) p).1 i = some t ∧ FsOk f t ∧ FsOk f (behK t (yh f i)) ∧
      (∀ to ∈ yp f i, 0 ≤ to ∧ to < (lst f.code).length ∧ ∀ c, yc6 f to.toNat c → c ∈ t) ∧ (∀ to ∈ y26 f i, 0 ≤ to ∧ to < (lst f.code).length ∧ ∀ c, yc6 f to.toNat c → c ∈ behK t (yh f i)) := by
  have e : tK p.1 i = t := by rw [tK, ht]; rfl
  obtain ⟨h1, h2, h3⟩ := hp.rows i t ht
  have hc : ∀ to ∈ yp f i, 0 ≤ to ∧ to < (lst f.code).length ∧ ∀ c, yc6 f to.toNat c → c ∈ t := fun to h => ⟨(w.caught h).1, (w.caught h).2, fun c hl => (y1bi w hi h hl).elim⟩
  have hn : ∀ to ∈ y26 f i, 0 ≤ to ∧ to < (lst f.code).length ∧ ∀ c, yc6 f to.toNat c → c ∈ behK t (yh f i) := fun to h => ⟨(w.next hi h).1, (w.next hi h).2, y22c w hi h h3⟩
  have ht0 : FsOk f t := ⟨h1, h2⟩
  have hb : FsOk f (behK t (yh f i)) := ⟨y1b2 _ h1, y287 w hi h2⟩
  obtain ⟨a1, a2⟩ := y90 ht0 (yp f i) p hp hc
  have a3 := yix ht0 (yp f i) p hp hc ht
  obtain ⟨b1, b2⟩ := y90 hb (y26 f i) _ a1.ok hn
  rw [rndK, e]
  exact ⟨a1.trans b1, ⟨fun to h => (a2 to h).mono b1.le, b2⟩, a1.ok, a3, ht0, hb, hc, hn⟩
theorem y1yk {f : Fn} (w : Wf f) {T : KTab} {W : List Int} {i : Int} (h : InvK f (T, W ++ [i])) : InvK f (rndK f i.toNat (T, W)) ∧ meaK f (rndK f i.toNat (T, W)) < meaK f (T, W ++ [i]) := by
  obtain ⟨i0, i1, hn⟩ := h.wk i (by simp)
  obtain ⟨t, ht⟩ := notN hn
  simp only at ht
  have e : ((i.toNat : Nat) : Int) = i := by omega
  obtain ⟨a, c, _⟩ := yqk w (p := (T, W)) h.ok (by omega) ht
  generalize rndK f i.toNat (T, W) = q at *
  refine ⟨⟨a.ok, fun j hj => ?_, fun k s hs => ?_⟩, ?_⟩
  · rcases a.fresh j hj with h1 | h1
    · have := h.wk j (by simp [h1])
      exact ⟨this.1, this.2.1, a.le.nn this.2.2⟩
    · exact h1
  · rcases a.work k s hs with h1 | h1
    · simp only at h1
      rcases h.closed k s h1 with h2 | h2
      · simp only [List.mem_append, List.mem_singleton] at h2
        rcases h2 with h2 | h2
        · exact .inl (a.keep _ h2)
        · have : k = i.toNat := by omega
          subst this
          rw [ht] at h1
          injection h1 with h1
          subst h1
          exact .inr c
      · exact .inr ⟨fun to h => (h2.1 to h).mono a.le, fun to h => (h2.2 to h).mono a.le⟩
    · exact .inl h1
  · have := a.pot
    unfold meaK
    simp only [List.length_append, List.length_singleton] at this ⊢
    omega
def y5m (f : Fn) : KTab := (List.replicate (lst f.code).length none).set 0 (some [])
theorem yyh {f : Fn} (w : Wf f) (i : Nat) : kAt (y5m f) i = if i = 0 then some [] else none := by
  rw [y5m, yfe (by rw [List.length_replicate]; exact w.n1)]
  by_cases e : i = 0
  · subst e; simp
  · rw [if_neg (fun h => e h.symm), if_neg e]
    unfold kAt
    rw [List.getElem?_replicate]
    split <;> rfl
theorem y2id {f : Fn} (w : Wf f) : InvK f (y5m f, [0]) := by
  have at_ := yyh w
  have hn : ∀ i : Nat, kAt (y5m f) i ≠ none → i = 0 := fun i h => by
    rw [at_] at h
    split at h
    · assumption
    · exact (h rfl).elim
  refine ⟨⟨by simp [y5m], fun i s h => ?_, by rw [at_, if_pos rfl]⟩, fun j hj => ?_, fun i t h => ?_⟩
  · have h0 := hn i (by rw [h]; simp)
    subst h0
    rw [at_, if_pos rfl] at h
    injection h with h
    subst h
    exact ⟨List.nodup_nil, fun c hc => (by cases hc), fun c hc => hc.elim⟩
  · rw [List.mem_singleton] at hj
    subst hj
    have := w.n1
    refine ⟨by omega, by omega, ?_⟩
    rw [at_]; simp
  · have h0 := hn i (by rw [h]; simp)
    subst h0
    simp
theorem yll {B : Nat} : ∀ {T : KTab}, (∀ o ∈ T, wtK B o ≤ B + 1) → potK B T ≤ T.length * (B + 1)
  | [], _ => by simp [potK]
  | o :: T, h => by
    have h1 := h o (by simp)
    have h2 := yll (T := T) (fun x hx => h x (by simp [hx]))
    unfold potK at h2 ⊢
    rw [List.map_cons, List.sum_cons, List.length_cons, Nat.succ_mul]
    omega
theorem y1ck {f : Fn} (h1 : (lst f.code).length ≤ 400) (h2 : (lst f.regs).length ≤ 100) : meaK f (y5m f, [0]) ≤ 1000000000 := by
  have hp : potK (bK f) (y5m f) ≤ (y5m f).length * (bK f + 1) := by
    refine yll fun o ho => ?_
    unfold y5m at ho
    rcases List.mem_or_eq_of_mem_set ho with h | h
    · rw [(List.mem_replicate.1 h).2]; exact Nat.le_refl _
    · subst h
      exact Nat.zero_le _
  have hl : (y5m f).length = (lst f.code).length := by simp [y5m]
  rw [hl] at hp
  have hb : bK f ≤ 40400 := by
    unfold bK bndK
    have : (lst f.regs).length * ((lst f.regs).length + 1) ≤ 100 * 101 := Nat.mul_le_mul h2 (by omega)
    omega
  have hm : (lst f.code).length * (bK f + 1) ≤ 400 * 40401 := Nat.mul_le_mul h1 (by omega)
  unfold meaK
  simp only [List.length_singleton]
  omega
end Go.Vm
namespace Go.Vm
open Cel
section
variable {α : Type} [Cel α]
def ownV (j g : Nat) : Option (List α) → AV
  | none => .nils
  | some L => .ls j g (es α) 0 L.length
def ownO (g : Nat) (d : AO) : Option (List α) → AO
  | none => d
  | some L => ⟨g, .arr false false (es α) (L.map enc)⟩
def exV (k : Nat) : Option (List α) → AV
  | none => .nils
  | some L => .ls k 0 (es α) 0 L.length
def exOs : Option (List α) → List OC
  | none => []
  | some L => [.arr false false (es α) (L.map enc)]
def ownI (j : Nat) : Option (List α) → List Nat
  | none => []
  | some _ => [j]
@[simp] theorem y2a0 (j g : Nat) (o : Option (List α)) : cellsOf (ownV j g o) = [ownV j g o] := by cases o <;> rfl
@[simp] theorem y2mw (j g : Nat) (o : Option (List α)) : y1a (ownV j g o) = true := by cases o <;> rfl
@[simp] theorem y2hj (j g : Nat) (o : Option (List α)) : known (ownV j g o) = true := by cases o <;> rfl
@[simp] theorem y1fm (j g : Nat) (o : Option (List α)) (H : Heap) : y10 1 (ownV j g o) H = some (.int .i64 (lst o).length) := by cases o <;> rfl
theorem yc1 {H : Heap} {i : Nat} {o : AO} (h : H[i]? = some o) : H.set i o = H := by
  refine List.ext_getElem? fun k => ?_
  rw [List.getElem?_set]
  split
  · rename_i e; subst e
    rw [if_pos (List.getElem?_eq_some_iff.1 h).1, h]
  · rfl
theorem yhe {E : Env} {C : Calls2} {fb j f : Nat} {args : List AV} {H : Heap} {fa : Fz (List AV)} {N : Option (List α)} {o : AO} (hE : E.pure f = true) (ha : ym (fz H y19) args = some fa) (hc : C.p f fa.v = some (exO N))
    (hf : fa.ids = []) (ho : H[fb + j]? = some o) : y9 E C fb (some j) false f args H = some (ownV (fb + j) (o.gen + 1) N, H.set (fb + j) (ownO (o.gen + 1) o N)) := by
  simp only [y9, hE, Bool.false_and, Bool.not_false, Bool.and_self, if_true, y2a, ha, hc]
  have hfr : ((exO N).fresh || fa.ids.isEmpty) = true := by rw [hf]; simp
  simp only [hfr, if_true]
  cases N with
  | none =>
    simp only [exO, y2b, Bool.false_eq_true, if_false, ownV, ownO, yc1 ho]
    rfl
  | some L => simp only [Bool.false_eq_true, if_false, yxw, ho, y171, ownV, ownO]
theorem y11c {E : Env} {C : Calls2} {fb j f : Nat} {args : List AV} {H : Heap} {fa : Fz (List AV)} {N : Option (List α)} (hE : E.pure f = true) (ha : ym (fz H y19) args = some fa) (hc : C.p f fa.v = some (exO N))
    (hf : fa.ids = []) : y4l E C fb (some j) false f args H = some ([], ownI (fb + j) N) := by
  cases N with
  | none => simp [y4l, hE, ha, hc, hf, exO, ownI]
  | some L => simp [y4l, hE, ha, hc, hf, exO, ownI]
theorem y118 {H : Heap} {j g : Nat} {d : AO} {L : List α} (h : H[j]? = some (ownO g d (some L))) : yn H j g = some (false, es α, L.map enc) := by
  simp [yn, y3m, h, ownO]
theorem y1sz {H : Heap} {j g k : Nat} {d : AO} {o : Option (List α)} (h : H[j]? = some (ownO g d o)) : fz H (k + 2) (ownV j g o) = some ⟨slA o, (lst o).all scal, ownI j o⟩ := by
  cases o with
  | none => rfl
  | some L =>
    rw [ownV, y2lr, y118 h]
    simp only [List.drop_zero, Nat.zero_add, List.length_map, Nat.le_refl, and_self, if_true, y7o, y250]
    simp [slA, ownI]
theorem yen {H : Heap} {j g k : Nat} {d : AO} {o : Option (List α)} (h : H[j]? = some (ownO g d o)) (os : List OC) :
    expo H (k + 1) (ownV j g o) os = some ⟨exV os.length o, os ++ exOs o, (lst o).all scal, ownI j o, []⟩ := by
  cases o with
  | none => simp [ownV, expo, pure1, exV, exOs, ownI]
  | some L =>
    rw [ownV, y2fj, y118 h]
    simp only [List.drop_zero, Nat.zero_add, List.length_map, Nat.le_refl, and_self, if_true, y7o, y1gd]
    rfl
end
theorem y14l {rows : List (List AV)} {i : Nat} {r : List AV} (h : rows[i]? = some r) : rows.set i r = rows := by
  refine List.ext_getElem? fun k => ?_
  rw [List.getElem?_set]
  split
  · rename_i e; subst e
    rw [if_pos (List.getElem?_eq_some_iff.1 h).1, h]
  · rfl
theorem yrg {H : Heap} {id g es : Nat} {fz : Bool} {rows : List (List AV)} (h : yn H id g = some (fz, es, rows)) : y27 H id rows = H := by
  unfold yn y3m at h
  cases ho : H[id]? with
  | none => rw [ho] at h; simp at h
  | some o =>
    obtain ⟨g', c⟩ := o
    rw [ho] at h
    by_cases hg : g' = g
    · cases c with
      | arr bx fz' es' rows' =>
        simp only [hg, if_true, Option.some.injEq, Prod.mk.injEq] at h
        obtain ⟨rfl, rfl, rfl⟩ := h
        simp only [y27, ho]
        exact yc1 ho
      | dead => simp [hg] at h
      | map _ _ => simp [hg] at h
    · simp [hg] at h
def y2o (f : Fn) : Ex AV :=
  ⟨.agg [exV 0 f.regs, exV (exOs f.regs).length f.params, .int .i64 f.ret, exV (exOs f.regs ++ exOs f.params).length f.code, exV (exOs f.regs ++ exOs f.params ++ exOs f.code).length f.rows],
    exOs f.regs ++ exOs f.params ++ exOs f.code ++ exOs f.rows, (lst f.code).all scal && (lst f.rows).all scal, [], []⟩
theorem y2ay {α : Type} [Cel α] (o : Option (List α)) (A B : List OC) (L : List α) (h : o = some L) : (y2j (A ++ exOs o ++ B))[A.length]? = some (ownO 0 ⟨0, .dead⟩ o) := by
  subst h
  simp [y2j, exOs, ownO]
theorem y16z {α : Type} [Cel α] (o : Option (List α)) (A B : List OC) (k : Nat) : fz (y2j (A ++ exOs o ++ B)) (k + 2) (exV A.length o) = some ⟨slA o, (lst o).all scal, ownI A.length o⟩ := by
  cases ho : o with
  | none => rfl
  | some L => exact y1sz (g := 0) (o := some L) (by have := y2ay o A B L ho; rwa [ho] at this)
theorem ynm (f : Fn) : y1rw (y2o f) (.agg (enc f)) := by
  have h1 := y16z f.regs [] (exOs f.params ++ exOs f.code ++ exOs f.rows) 9
  have h2 := y16z f.params (exOs f.regs) (exOs f.code ++ exOs f.rows) 9
  have h3 := y16z f.code (exOs f.regs ++ exOs f.params) (exOs f.rows) 9
  have h4 := y16z f.rows (exOs f.regs ++ exOs f.params ++ exOs f.code) [] 9
  simp only [List.nil_append, List.append_nil, List.append_assoc, List.length_nil, List.length_append] at h1 h2 h3 h4
  have hi : fz (y2j (y2o f).objs) 11 (.int .i64 f.ret) = some ⟨.int .i64 f.ret, true, []⟩ := rfl
  refine ⟨_, (ykj _ 11 _).trans (by
    simp only [y2o, yr, List.append_assoc, List.length_append] at hi ⊢
    simp only [h1, h2, h3, h4, hi, y18]
    rfl), rfl⟩
theorem y24 {E : Env} {C : Calls2} {fb f : Nat} {args : List AV} {h : Heap} {fa : Fz (List AV)} {r : Ex AV} {v : AV} (hE : E.pure f = true) (ha : ym (fz h y19) args = some fa) (hf : fa.ids = [])
    (hc : C.p f fa.v = some r) (hr : y1rw r v) (sl : Option Nat := none) (hsl : sl = none := by rfl) : y9 E C fb sl true f args h = some (v, h) := by
  subst hsl
  obtain ⟨q, h1, h2⟩ := hr
  simp [y9, hE, y2a, ha, hc, hf, h1, h2]
theorem y1ww {E : Env} {C : Calls2} {fb f : Nat} {args : List AV} {h : Heap} {fa : Fz (List AV)} {r : Ex AV} (hE : E.pure f = true) (ha : ym (fz h y19) args = some fa) (hf : fa.ids = [])
    (hc : C.p f fa.v = some r) (sl : Option Nat := none) (hsl : sl = none := by rfl) : y4l E C fb sl true f args h = some ([], []) := by
  subst hsl
  simp [y4l, hE, ha, hc, hf]
end Go.Vm
namespace Go.Vm
open Cel
theorem y4c {H : Heap} {a : Nat} {x : AO} (h : a < H.length) : (H.set a x)[a]? = some x := by simp [h]
theorem yx {H : Heap} {a b : Nat} {x : AO} (h : a ≠ b) : (H.set a x)[b]? = H[b]? := List.getElem?_set_ne h
theorem y1av {H : Heap} {n b : Nat} (h : b < H.length) : (H ++ yv n)[b]? = H[b]? := List.getElem?_append_left h
theorem y24t {H : Heap} {n j : Nat} (h : j < n) : (H ++ yv n)[H.length + j]? = some ⟨0, .dead⟩ := by
  rw [List.getElem?_append_right (by omega), Nat.add_sub_cancel_left, yv, List.getElem?_replicate, if_pos h]
theorem y3t {H : Heap} {a : Nat} {x : AO} (h : H[a]? = some x) : a < H.length := (List.getElem?_eq_some_iff.1 h).1
theorem yui {H : Heap} {fb j : Nat} {o : AO} (n : Int) (h : H[fb + j]? = some o) : y12 fb (some j) 1 1 [.int .i64 0] [(0, .int .i64 n)] H = some (.ls (fb + j) (o.gen + 1) 1 0 1, H.set (fb + j) (AI (o.gen + 1) [n])) := by
  simp [y12, y1f, y46, place, h]
  rfl
theorem y1ey {α : Type} [Cel α] {H : Heap} {id g : Nat} {L : List α} (h : H[id]? = some ⟨g, .arr false false (es α) (L.map enc)⟩) : y3q H (es α) (.ls id g (es α) 0 L.length) = some (L.map enc) := by
  simp [y3q, yn, y3m, h]
theorem y27a {α : Type} [Cel α] {H : Heap} {id g k : Nat} {L : List α} (h : H[id]? = some ⟨g, .arr false false (es α) (L.map enc)⟩) : fz H (k + 2) (.ls id g (es α) 0 L.length) = some ⟨slA (some L), L.all scal, [id]⟩ :=
  y1sz (o := some L) (d := ⟨0, .dead⟩) h
theorem ysw {α : Type} [Cel α] {E : Env} {C : Calls2} {fb j f : Nat} {args : List AV} {H : Heap} {fa : Fz (List AV)} {N : Option (List α)} {o : AO} (hE : E.pure f = true) (ha : ym (fz H y19) args = some fa) (hc : C.p f fa.v = some (exO N))
    (hf : (lst N).all scal = true) (ho : H[fb + j]? = some o) : y9 E C fb (some j) false f args H = some (ownV (fb + j) (o.gen + 1) N, H.set (fb + j) (ownO (o.gen + 1) o N)) := by
  simp only [y9, hE, Bool.false_and, Bool.not_false, Bool.and_self, if_true, y2a, ha, hc]
  have hfr : ((exO N).fresh || fa.ids.isEmpty) = true := by rw [yrc, hf]; rfl
  simp only [hfr, if_true]
  cases N with
  | none =>
    simp only [exO, y2b, Bool.false_eq_true, if_false, ownV, ownO, yc1 ho]
    rfl
  | some L => simp only [Bool.false_eq_true, if_false, yxw, ho, y171, ownV, ownO]
theorem yca {H : Heap} {id g i es : Nat} {rows : List (List AV)} {v : AV} (h : H[id]? = some ⟨g, .arr false false es rows⟩) (hx : rows[i]? = some [v]) : evLd false 1 (.lp id g i 0) H = some v := by
  have hr : yn H id g = some (false, es, rows) := by simp [yn, y3m, h]
  rw [y3e, hr]
  simp [hx]
theorem y15r {H : Heap} {id g i : Nat} {rows : List (List AV)} {v w : AV} (h : H[id]? = some ⟨g, .arr false false 1 rows⟩) (hx : rows[i]? = some [w]) (hv : cellsOf v = [v]) (hl : y1a v = true) :
    evSt 1 (.lp id g i 0) v H = some (.tup [], H.set id ⟨g, .arr false false 1 (rows.set i [v])⟩) := by
  have hr : yn H id g = some (false, 1, rows) := by simp [yn, y3m, h]
  rw [y67, hr]
  simp only [hx, hv]
  rw [if_pos ⟨rfl, Nat.le_refl _, by simp [hl]⟩]
  rw [show y16 0 [v] [w] = [v] from rfl, y27, h]
end Go.Vm
namespace Go.Vm
open Cel
attribute [local simp] y9 y2a yu
theorem y14r {n b : Nat} (hb : b ≤ 200) (h : n ≤ 2 ^ 38) : (2 * n + 512) * b ≤ 281474976710656 := by
  have e : (2:Nat)^38 = 274877906944 := by decide
  have h1 : (2 * n + 512) ≤ 549755814400 := by omega
  have : (2 * n + 512) * b ≤ 549755814400 * 200 := Nat.mul_le_mul h1 hb
  omega
@[simp] theorem y8l (o : Option (List Int)) (h : (lst o).length ≤ 17592186043904) : (yb E).p 39 [slA o] = some (exO o) := by
  rw [y2h1]
  cases o with
  | none => simp [y16f, yy9, y18q]; rfl
  | some L =>
    simp only [y5z] at h
    have h1 : (2 * L.length + 512) * 8 ≤ 281474976710656 := by omega
    simp [y16f, yy9, y18q, y12, y1f, y3y, h1]
    exact y38 (α := Int) (by simp)
end Go.Vm
namespace Go.Vm
open Cel
attribute [local simp] y9 y2a yu
@[simp] theorem ywj (o : Option (List Ins)) (h : (lst o).length ≤ 2 ^ 38) : (yb E).p 40 [slA o] = some (exO o) := by
  rw [y2l7]
  cases o with
  | none => simp [y12f, y14z, y0z]; rfl
  | some L =>
    have h1 := y14r (b := 96) (by omega) h
    simp only [y5z] at h1
    simp [y12f, y14z, y0z, y12, y1f, y3y, h1]
    exact y38 (α := Ins) (by simp)
@[simp] theorem yvj (o : Option (List Row)) (h : (lst o).length ≤ 2 ^ 38) : (yb E).p 41 [slA o] = some (exO o) := by
  rw [y2i3]
  cases o with
  | none => simp [y14h, yzp, y168]; rfl
  | some L =>
    have h1 := y14r (b := 40) (by omega) h
    simp only [y5z] at h1
    simp [y14h, yzp, y168, y12, y1f, y3y, h1]
    exact y38 (α := Row) (by simp)
end Go.Vm
namespace Go.Vm
structure FnSm (f : Fn) : Prop where
  regs : (lst f.regs).length ≤ 17592186043904
  params : (lst f.params).length ≤ 17592186043904
  code : (lst f.code).length ≤ 2 ^ 38
  rows : (lst f.rows).length ≤ 2 ^ 38
  args : ∀ x ∈ lst f.code, (lst x.args).length ≤ 17592186043904
abbrev y17k (f : Fn) : Prop := ∀ x ∈ lst f.code, (lst x.args).length ≤ 17592186043904
end Go.Vm
namespace Go.Vm
open Cel
attribute [local simp] yu
abbrev fnA (f : Fn) : AV := .agg [ownV 2 1 f.regs, ownV 3 1 f.params, .int .i64 f.ret, ownV 4 1 f.code, ownV 5 1 f.rows]
abbrev HCp (f : Fn) (o1 : AO) : Heap := [⟨1, .arr true false 5 [enc f]⟩, o1, ownO 1 ⟨0, .dead⟩ f.regs, ownO 1 ⟨0, .dead⟩ f.params, ownO 1 ⟨0, .dead⟩ f.code, ownO 1 ⟨0, .dead⟩ f.rows, ⟨1, .arr true false 5 [cellsOf (fnA f)]⟩]
theorem y1l1 (f : Fn) (hs : FnSm f) (v2 : AV) (o1 : AO) : ∀ (d i : Nat), i + d = (lst f.code).length →
    yqx v2 (.lp 6 1 0 0) (.int .i64 (lst f.code).length) (.int .i64 i) (HCp f o1) = y1ko v2 (.lp 6 1 0 0) (HCp f o1) := by
  have e38 : (2:Nat) ^ 38 = 274877906944 := by decide
  intro d
  induction d with
  | zero =>
    intro i hi
    have hn : ¬ ((i : Int) < ((lst f.code).length : Int)) := by omega
    rw [yuo]
    simp [y23p, y25d, hn]
  | succ d ih =>
    intro i hi
    have hlt : i < (lst f.code).length := by omega
    have hc : ((i : Int) < ((lst f.code).length : Int)) := by omega
    have hl : (lst f.code).length ≤ 9223372036854775807 := by have := hs.code; omega
    have hw := y1p hlt hl
    obtain ⟨L, hL⟩ : ∃ L, f.code = some L := by
      cases hf : f.code with
      | none => rw [hf] at hlt; exact absurd hlt (Nat.not_lt_zero _)
      | some L => exact ⟨L, rfl⟩
    have ih := ih (i + 1) (by omega)
    push_cast at ih
    have hx : L[i]? = some (lst f.code)[i] := by
      simp only [hL, y5z] at hlt ⊢
      exact List.getElem?_eq_getElem hlt
    have ha := hs.args _ (List.getElem_mem hlt)
    generalize (lst f.code)[i] = x at *
    have k39 := y8l x.args ha
    have lA : evLd false 1 (.lp 6 1 0 3) (HCp f o1) = some (ownV 4 1 f.code) := rfl
    have ix : yw 9 (ownV 4 1 f.code) (.int .i64 (i : Int)) = some (.lp 4 1 i 0) := by
      have : i < L.length := (List.getElem?_eq_some_iff.1 hx).1
      simp [hL, ownV, yw, this]
    have hr : yn (HCp f o1) 4 1 = some (false, 9, L.map enc) := by
      simp [yn, y3m, hL, ownO]
    have hg : (L.map (enc (α := Ins)))[i]? = some (enc x) := by simp [hx]
    have lB : evLd false 1 (.lp 4 1 i 8) (HCp f o1) = some (slA x.args) := by
      rw [y3e, hr]
      simp only [hg, y7i]
      rfl
    have ha1 : ym (fz (HCp f o1) y19) [slA x.args] = some ⟨[slA x.args], (lst x.args).isEmpty && true, []⟩ := by
      rw [yr, y24d, y18]; rfl
    have c1 := y24 (E := E) (C := yb E) (fb := 0) (sl := none) (f := 39) (v := slA x.args) rfl ha1 rfl k39 ⟨_, ym9 _, rfl⟩
    have f1 := y1ww (E := E) (C := yb E) (fb := 0) (sl := none) (f := 39) rfl ha1 rfl k39
    have st : evSt 1 (.lp 4 1 i 8) (slA x.args) (HCp f o1) = some (.tup [], HCp f o1) := by
      rw [y67, hr]
      simp only [hg, y1ac]
      rw [if_pos ⟨rfl, by rw [len]; exact Nat.le_refl _, by simp⟩]
      rw [show y16 8 [slA x.args] (enc x) = enc x from rfl, y14l hg]
      rw [yrg hr]
    have hp : yg [([], []), (ids1 (.lp 6 1 0 3), []), ([], []), ([], []), (ids1 (.lp 6 1 0 3), []), ([], []), ([], []), ([], []), (ids1 (.lp 4 1 i 8), []), ([], []), ([], []), ([], []), ([], ids1 (.lp 4 1 i 8))] [(1, 9)] = true := by simp [yg, yt, meets]
    rw [yuo]
    simp only [y23p, yq, y7, y25d, hc, decide_true, y1k, y2g6, y51, lA, ix, lB, f1, ypf, c1, ye, st, hp, y2ij, y2ew, y2e, hw, ih, Nat.zero_add]
theorem y2h6 (f : Fn) (hs : FnSm f) : (yb E).p 13 [.agg (enc f)] = some (y2o f) := by
  rw [y2np]
  have k1 := y8l f.regs hs.regs
  have k2 := y8l f.params hs.params
  have k3 := ywj f.code hs.code
  have k4 := yvj f.rows hs.rows
  have lp := y1l1 f hs (.lp 1 1 0 0) ⟨1, .arr true false 5 [[.nils, .nils, .int .i64 0, .nils, .nils]]⟩ _ 0 (Nat.zero_add _)
  have ha1 : ∀ (o : Option (List Int)) (H : Heap), ym (fz H y19) [slA o] = some ⟨[slA o], (lst o).isEmpty && true, []⟩ := fun o H => by
    rw [yr, y24d, y18]; rfl
  have ha2 : ∀ (o : Option (List Ins)) (H : Heap), ym (fz H y19) [slA o] = some ⟨[slA o], (lst o).isEmpty && true, []⟩ := fun o H => by
    rw [yr, y24d, y18]; rfl
  have ha3 : ∀ (o : Option (List Row)) (H : Heap), ym (fz H y19) [slA o] = some ⟨[slA o], (lst o).isEmpty && true, []⟩ := fun o H => by
    rw [yr, y24d, y18]; rfl
  have l0 : ∀ (j : Nat) (t : Heap), evLd false 1 (.lp 0 1 0 j) (⟨1, .arr true false 5 [enc f]⟩ :: t) = ((enc f).drop j).head? := fun j t => by simp [evLd]
  have e11 : yyu (.agg (enc f)) [⟨0, .dead⟩, ⟨0, .dead⟩, ⟨0, .dead⟩, ⟨0, .dead⟩, ⟨0, .dead⟩, ⟨0, .dead⟩, ⟨0, .dead⟩] =
      yu7 (.lp 0 1 0 0) (.lp 1 1 0 0) [⟨1, .arr true false 5 [enc f]⟩, ⟨1, .arr true false 5 [[.nils, .nils, .int .i64 0, .nils, .nils]]⟩, ⟨0, .dead⟩, ⟨0, .dead⟩, ⟨0, .dead⟩, ⟨0, .dead⟩, ⟨0, .dead⟩] := by
    simp [yyu]
  rw [e11]
  have c1 := yhe (E := E) (C := yb E) (fb := 0) (j := 2) (f := 39) (H := [⟨1, .arr true false 5 [enc f]⟩, ⟨1, .arr true false 5 [[.nils, .nils, .int .i64 0, .nils, .nils]]⟩, ⟨0, .dead⟩, ⟨0, .dead⟩, ⟨0, .dead⟩, ⟨0, .dead⟩, ⟨0, .dead⟩]) rfl (ha1 f.regs _) k1 rfl rfl
  have f1 := fun H => y11c (E := E) (C := yb E) (fb := 0) (j := 2) (f := 39) (H := H) rfl (ha1 f.regs H) k1 rfl
  have c2 := yhe (E := E) (C := yb E) (fb := 0) (j := 3) (f := 39) (H := [⟨1, .arr true false 5 [enc f]⟩, ⟨1, .arr true false 5 [[.nils, .nils, .int .i64 0, .nils, .nils]]⟩, ownO 1 ⟨0, .dead⟩ f.regs, ⟨0, .dead⟩, ⟨0, .dead⟩, ⟨0, .dead⟩, ⟨0, .dead⟩]) rfl (ha1 f.params _) k2 rfl rfl
  have f2 := fun H => y11c (E := E) (C := yb E) (fb := 0) (j := 3) (f := 39) (H := H) rfl (ha1 f.params H) k2 rfl
  have c3 := yhe (E := E) (C := yb E) (fb := 0) (j := 4) (f := 40) (H := [⟨1, .arr true false 5 [enc f]⟩, ⟨1, .arr true false 5 [[.nils, .nils, .int .i64 0, .nils, .nils]]⟩, ownO 1 ⟨0, .dead⟩ f.regs, ownO 1 ⟨0, .dead⟩ f.params, ⟨0, .dead⟩, ⟨0, .dead⟩, ⟨0, .dead⟩]) rfl (ha2 f.code _) k3 rfl rfl
  have f3 := fun H => y11c (E := E) (C := yb E) (fb := 0) (j := 4) (f := 40) (H := H) rfl (ha2 f.code H) k3 rfl
  have c4 := yhe (E := E) (C := yb E) (fb := 0) (j := 5) (f := 41) (H := [⟨1, .arr true false 5 [enc f]⟩, ⟨1, .arr true false 5 [[.nils, .nils, .int .i64 0, .nils, .nils]]⟩, ownO 1 ⟨0, .dead⟩ f.regs, ownO 1 ⟨0, .dead⟩ f.params, ownO 1 ⟨0, .dead⟩ f.code, ⟨0, .dead⟩, ⟨0, .dead⟩]) rfl (ha3 f.rows _) k4 rfl rfl
  have f4 := fun H => y11c (E := E) (C := yb E) (fb := 0) (j := 5) (f := 41) (H := H) rfl (ha3 f.rows H) k4 rfl
  simp only [Nat.zero_add, List.set_cons_zero, List.set_cons_succ] at c1 c2 c3 c4 f1 f2 f3 f4
  have hb : y13 [.nils, .nils, .int .i64 0, .nils, .nils] [(0, 1, ownV 2 1 f.regs), (1, 1, ownV 3 1 f.params), (2, 1, .int .i64 f.ret), (3, 1, ownV 4 1 f.code), (4, 1, ownV 5 1 f.rows)] = some (fnA f) := by
    simp [y13, y5j, y16]
    rfl
  have nc : ∀ (h0 : AO) (o1 : AO) (o2 o3 o4 o5 : AO), newC 0 (some 6) [.nils, .nils, .int .i64 0, .nils, .nils] [h0, o1, o2, o3, o4, o5, ⟨0, .dead⟩] = some (.lp 6 1 0 0, [h0, o1, o2, o3, o4, o5, ⟨1, .arr true false 5 [[.nils, .nils, .int .i64 0, .nils, .nils]]⟩]) := fun _ _ _ _ _ _ => rfl
  have st : ∀ (h0 : AO) (o1 : AO) (o2 o3 o4 o5 : AO), evSt 5 (.lp 6 1 0 0) (fnA f) [h0, o1, o2, o3, o4, o5, ⟨1, .arr true false 5 [[.nils, .nils, .int .i64 0, .nils, .nils]]⟩] = some (.tup [], [h0, o1, o2, o3, o4, o5, ⟨1, .arr true false 5 [cellsOf (fnA f)]⟩]) := by
    intro h0 o1 o2 o3 o4 o5
    simp [y67, y16]
  have hp : yg [([], []), (ids1 (.lp 0 1 0 0), []), ([], ownI 2 f.regs), ([], []), (ids1 (.lp 0 1 0 1), []), ([], ownI 3 f.params), ([], []), (ids1 (.lp 0 1 0 2), []), ([], []), (ids1 (.lp 0 1 0 3), []), ([], ownI 4 f.code), ([], []), (ids1 (.lp 0 1 0 4), []), ([], ownI 5 f.rows), ([], []), ([], [6]), ([], ids1 (.lp 6 1 0 0))]
      [(2, 4), (2, 7), (5, 7), (2, 9), (5, 9), (7, 10), (2, 12), (5, 12), (10, 12), (7, 13), (1, 15), (2, 15), (4, 15), (5, 15), (7, 15), (9, 15), (10, 15), (12, 15), (13, 15)] = true := by
    cases f.regs <;> cases f.params <;> cases f.code <;> cases f.rows <;> rfl
  have e10 : yu7 (.lp 0 1 0 0) (.lp 1 1 0 0) [⟨1, .arr true false 5 [enc f]⟩, ⟨1, .arr true false 5 [[.nils, .nils, .int .i64 0, .nils, .nils]]⟩, ⟨0, .dead⟩, ⟨0, .dead⟩, ⟨0, .dead⟩, ⟨0, .dead⟩, ⟨0, .dead⟩] =
      y1lh (.lp 1 1 0 0) (.lp 6 1 0 0) (HCp f ⟨1, .arr true false 5 [[.nils, .nils, .int .i64 0, .nils, .nils]]⟩) := by
    have d0 : ((enc f).drop 0).head? = some (slA f.regs) := rfl
    have d1 : ((enc f).drop 1).head? = some (slA f.params) := rfl
    have d2 : ((enc f).drop 2).head? = some (.int .i64 f.ret) := rfl
    have d3 : ((enc f).drop 3).head? = some (slA f.code) := rfl
    have d4 : ((enc f).drop 4).head? = some (slA f.rows) := rfl
    simp only [yu7, y51, y7, Nat.zero_add, l0, d0, d1, d2, d3, d4, f1, ypf, c1, ye, f2, c2, f3, c3, f4, c4, hb, nc, st, hp, y2ij]
  have lC : evLd false 1 (.lp 6 1 0 3) (HCp f ⟨1, .arr true false 5 [[.nils, .nils, .int .i64 0, .nils, .nils]]⟩) = some (ownV 4 1 f.code) := rfl
  have e8 : y1lh (.lp 1 1 0 0) (.lp 6 1 0 0) (HCp f ⟨1, .arr true false 5 [[.nils, .nils, .int .i64 0, .nils, .nils]]⟩) = y1ko (.lp 1 1 0 0) (.lp 6 1 0 0) (HCp f ⟨1, .arr true false 5 [[.nils, .nils, .int .i64 0, .nils, .nils]]⟩) := by
    rw [← lp]
    simp only [y1lh, y51, y7, Nat.zero_add, lC, y1fm]
    rfl
  rw [e10, e8]
  have l6 : ∀ o1, evLd true 5 (.lp 6 1 0 0) (HCp f o1) = some (fnA f) := fun o1 => rfl
  have st1 : evSt 5 (.lp 1 1 0 0) (fnA f) (HCp f ⟨1, .arr true false 5 [[.nils, .nils, .int .i64 0, .nils, .nils]]⟩) = some (.tup [], HCp f ⟨1, .arr true false 5 [cellsOf (fnA f)]⟩) := by
    simp [y67, y16]
  have l7 : evLd true 5 (.lp 1 1 0 0) (HCp f ⟨1, .arr true false 5 [cellsOf (fnA f)]⟩) = some (fnA f) := rfl
  simp only [y1ko, l6, y7, st1, ye, l7]
  have x1 := fun os => yen (α := Int) (H := HCp f ⟨1, .arr true false 5 [cellsOf (fnA f)]⟩) (j := 2) (g := 1) (k := 10) (d := ⟨0, .dead⟩) (o := f.regs) rfl os
  have x2 := fun os => yen (α := Int) (H := HCp f ⟨1, .arr true false 5 [cellsOf (fnA f)]⟩) (j := 3) (g := 1) (k := 10) (d := ⟨0, .dead⟩) (o := f.params) rfl os
  have x3 := fun os => yen (α := Ins) (H := HCp f ⟨1, .arr true false 5 [cellsOf (fnA f)]⟩) (j := 4) (g := 1) (k := 10) (d := ⟨0, .dead⟩) (o := f.code) rfl os
  have x4 := fun os => yen (α := Row) (H := HCp f ⟨1, .arr true false 5 [cellsOf (fnA f)]⟩) (j := 5) (g := 1) (k := 10) (d := ⟨0, .dead⟩) (o := f.rows) rfl os
  have xi := fun os => y1vo (v := .int .i64 f.ret) rfl (HCp f ⟨1, .arr true false 5 [cellsOf (fnA f)]⟩) 10 os
  rw [yi1]
  simp only [y5n, x1, x2, x3, x4, xi, List.nil_append]
  have ap : y4v (ownI 2 f.regs ++ (ownI 3 f.params ++ ([] ++ (ownI 4 f.code ++ (ownI 5 f.rows ++ []))))) ([] ++ ([] ++ ([] ++ ([] ++ ([] ++ []))))) = true := by
    cases f.regs <;> cases f.params <;> cases f.code <;> cases f.rows <;> rfl
  have sc : (lst f.regs).all scal = true := by simp
  have sc2 : (lst f.params).all scal = true := by simp
  simp only [List.nil_append] at ap
  rw [if_pos ap]
  simp [y2o, sc, sc2]
end Go.Vm
namespace Go.Vm
open Cel
def hasL (f : Fn) : Nat → Bool
  | 0 => f.regs.isSome
  | 1 => f.params.isSome
  | 2 => f.code.isSome
  | _ => f.rows.isSome
structure FnAt (H : Heap) (f : Fn) (p g : Nat → Nat) : Prop where
  regs : ∀ L, f.regs = some L → H[p 0]? = some ⟨g 0, .arr false false 1 (L.map enc)⟩
  params : ∀ L, f.params = some L → H[p 1]? = some ⟨g 1, .arr false false 1 (L.map enc)⟩
  code : ∀ L, f.code = some L → H[p 2]? = some ⟨g 2, .arr false false 9 (L.map enc)⟩
  rows : ∀ L, f.rows = some L → H[p 3]? = some ⟨g 3, .arr false false 4 (L.map enc)⟩
  ne : ∀ i j, i < 4 → j < 4 → i ≠ j → hasL f i = true → hasL f j = true → p i ≠ p j
def fnC (f : Fn) (p g : Nat → Nat) : List AV := [ownV (p 0) (g 0) f.regs, ownV (p 1) (g 1) f.params, .int .i64 f.ret, ownV (p 2) (g 2) f.code, ownV (p 3) (g 3) f.rows]
abbrev fnV (f : Fn) (p g : Nat → Nat) : AV := .agg (fnC f p g)
section
variable {α : Type} [Cel α]
theorem ypd {H : Heap} {j g k : Nat} {o : Option (List α)} (h : ∀ L, o = some L → H[j]? = some ⟨g, .arr false false (es α) (L.map enc)⟩) : fz H (k + 2) (ownV j g o) = some ⟨slA o, (lst o).all scal, ownI j o⟩ := by
  cases o with
  | none => rfl
  | some L => exact y1sz (d := ⟨0, .dead⟩) (o := some L) (h L rfl)
theorem ydw {H : Heap} {j g k : Nat} {o : Option (List α)} (h : ∀ L, o = some L → H[j]? = some ⟨g, .arr false false (es α) (L.map enc)⟩) (os : List OC) :
    expo H (k + 1) (ownV j g o) os = some ⟨exV os.length o, os ++ exOs o, (lst o).all scal, ownI j o, []⟩ := by
  cases o with
  | none => simp [ownV, expo, pure1, exV, exOs, ownI]
  | some L => exact yen (d := ⟨0, .dead⟩) (o := some L) (h L rfl) os
end
section
variable {H : Heap} {f : Fn} {p g : Nat → Nat} (A : FnAt H f p g)
include A
theorem FnAt.fz : ∃ fr ids, fz H y19 (fnV f p g) = some ⟨.agg (enc f), fr, ids⟩ := by
  have h1 := ypd (k := 9) A.regs
  have h2 := ypd (k := 9) A.params
  have h3 := ypd (k := 9) A.code
  have h4 := ypd (k := 9) A.rows
  have hi : Go.Vm.fz H 11 (.int .i64 f.ret) = some ⟨.int .i64 f.ret, true, []⟩ := rfl
  refine ⟨_, _, (ykj _ 11 _).trans (by
    simp only [fnC, yr, h1, h2, h3, h4, hi, y18]
    rfl)⟩
theorem FnAt.expo : yf H (fnV f p g) = some (y2o f) := by
  have x1 := fun os => ydw (k := 10) A.regs os
  have x2 := fun os => ydw (k := 10) A.params os
  have x3 := fun os => ydw (k := 10) A.code os
  have x4 := fun os => ydw (k := 10) A.rows os
  have xi := fun os => y1vo (v := .int .i64 f.ret) rfl H 10 os
  rw [yi1]
  simp only [fnC, y5n, x1, x2, x3, x4, xi, List.nil_append]
  have ap : y4v (ownI (p 0) f.regs ++ (ownI (p 1) f.params ++ ([] ++ (ownI (p 2) f.code ++ (ownI (p 3) f.rows ++ []))))) ([] ++ ([] ++ ([] ++ ([] ++ ([] ++ []))))) = true := by
    have n := A.ne
    have n01 := n 0 1 (by omega) (by omega) (by omega)
    have n02 := n 0 2 (by omega) (by omega) (by omega)
    have n03 := n 0 3 (by omega) (by omega) (by omega)
    have n12 := n 1 2 (by omega) (by omega) (by omega)
    have n13 := n 1 3 (by omega) (by omega) (by omega)
    have n23 := n 2 3 (by omega) (by omega) (by omega)
    simp only [hasL] at n01 n02 n03 n12 n13 n23
    cases h1 : f.regs <;> cases h2 : f.params <;> cases h3 : f.code <;> cases h4 : f.rows <;>
      (rw [h1, h2] at n01; rw [h1, h3] at n02; rw [h1, h4] at n03; rw [h2, h3] at n12; rw [h2, h4] at n13; rw [h3, h4] at n23; simp [ownI, y4v] at *; try simp_all)
  have sc : (lst f.regs).all scal = true := by simp
  have sc2 : (lst f.params).all scal = true := by simp
  simp only [List.nil_append] at ap
  rw [if_pos ap]
  simp [y2o, sc, sc2]
theorem FnAt.set {a : Nat} {x : AO} (h : ∀ i, i < 4 → hasL f i = true → p i ≠ a) : FnAt (H.set a x) f p g := by
  refine ⟨fun L e => ?_, fun L e => ?_, fun L e => ?_, fun L e => ?_, A.ne⟩
  · rw [yx (fun e' => h 0 (by omega) (by simp [hasL, e]) e'.symm)]; exact A.regs L e
  · rw [yx (fun e' => h 1 (by omega) (by simp [hasL, e]) e'.symm)]; exact A.params L e
  · rw [yx (fun e' => h 2 (by omega) (by simp [hasL, e]) e'.symm)]; exact A.code L e
  · rw [yx (fun e' => h 3 (by omega) (by simp [hasL, e]) e'.symm)]; exact A.rows L e
theorem FnAt.setCode {L L' : List Ins} (hL : f.code = some L) : FnAt (H.set (p 2) ⟨g 2, .arr false false 9 (L'.map enc)⟩) { f with code := some L' } p g := by
  have hc : hasL f 2 = true := by simp [hasL, hL]
  have hk : ∀ i, hasL { f with code := some L' } i = hasL f i := by
    intro i
    match i with
    | 0 => rfl
    | 1 => rfl
    | 2 => simp [hasL, hL]
    | i + 3 => rfl
  refine ⟨fun L e => ?_, fun L e => ?_, fun L e => ?_, fun L e => ?_, fun i j h1 h2 h3 h4 h5 => A.ne i j h1 h2 h3 (by rw [← hk]; exact h4) (by rw [← hk]; exact h5)⟩
  · rw [yx (A.ne 2 0 (by omega) (by omega) (by omega) hc (by have e' : f.regs = some L := e; simp [hasL, e']))]; exact A.regs L e
  · rw [yx (A.ne 2 1 (by omega) (by omega) (by omega) hc (by have e' : f.params = some L := e; simp [hasL, e']))]; exact A.params L e
  · have : L' = L := by simpa using e
    subst this
    exact y4c (y3t (A.code _ hL))
  · rw [yx (A.ne 2 3 (by omega) (by omega) (by omega) hc (by have e' : f.rows = some L := e; simp [hasL, e']))]; exact A.rows L e
end
def gAt (H : Heap) (k : Nat) : Nat := ((H[k]?).getD ⟨0, .dead⟩).gen + 1
def okO (o : OC) : Prop := okOC o = true ∧ ∀ tab, y4t tab o = o
theorem ygs {fb : Nat} : ∀ (O : List OC) (j : Nat) (tab : List (Nat × Nat)) (H : Heap), (∀ o ∈ O, okO o) → fb + j + O.length ≤ H.length →
    ∃ H', y2b fb (some j) O tab H = some (tab ++ (List.range O.length).map (fun i => (fb + j + i, gAt H (fb + j + i))), H') ∧ H'.length = H.length ∧
      (∀ i o, O[i]? = some o → H'[fb + j + i]? = some ⟨gAt H (fb + j + i), o⟩) ∧ ∀ k, k < fb + j ∨ fb + j + O.length ≤ k → H'[k]? = H[k]?
  | [], j, tab, H, _, _ => ⟨H, by simp [y2b], rfl, fun i o h => by simp at h, fun _ _ => rfl⟩
  | o :: O, j, tab, H, ho, hl => by
    have h0 := ho o (by simp)
    simp only [List.length_cons] at hl
    obtain ⟨x, hx⟩ : ∃ x, H[fb + j]? = some x := ⟨_, List.getElem?_eq_getElem (by omega)⟩
    have hg : gAt H (fb + j) = x.gen + 1 := by simp [gAt, hx]
    obtain ⟨H', e1, e2, e3, e4⟩ := ygs (fb := fb) O (j + 1) (tab ++ [(fb + j, x.gen + 1)]) (H.set (fb + j) ⟨x.gen + 1, o⟩) (fun o h => ho o (by simp [h])) (by rw [List.length_set]; omega)
    have hgs : ∀ i, gAt (H.set (fb + j) ⟨x.gen + 1, o⟩) (fb + (j + 1) + i) = gAt H (fb + j + (i + 1)) := by
      intro i
      unfold gAt
      rw [yx (by omega), show fb + (j + 1) + i = fb + j + (i + 1) by omega]
    refine ⟨H', ?_, by rw [e2, List.length_set], fun i o' hi => ?_, fun k hk => ?_⟩
    · rw [y2b, h0.2, h0.1]
      simp only [if_true, place, hx, Option.map_some]
      rw [e1]
      simp only [List.length_cons, List.range_succ_eq_map, List.map_cons, List.map_map, Nat.add_zero, hg, List.append_assoc, List.singleton_append, Option.some.injEq, Prod.mk.injEq, and_true]
      congr 2
      refine List.map_congr_left fun i _ => ?_
      simp only [Function.comp, hgs]
      rw [show fb + (j + 1) + i = fb + j + (i + 1) by omega]
    · cases i with
      | zero =>
        simp only [List.getElem?_cons_zero, Option.some.injEq] at hi
        subst hi
        rw [e4 _ (.inl (by omega))]
        simp only [Nat.add_zero]
        rw [y4c (by omega), hg]
      | succ i =>
        simp only [List.getElem?_cons_succ] at hi
        have := e3 i o' hi
        rw [hgs] at this
        rw [show fb + j + (i + 1) = fb + (j + 1) + i by omega]
        rw [show fb + j + (i + 1) = fb + (j + 1) + i by omega] at this
        exact this
    · simp only [List.length_cons] at hk
      rw [e4 k (by omega), yx (by omega)]
section
variable {α : Type} [Cel α]
theorem yoz (o : Option (List α)) : ∀ x ∈ exOs o, okO x := by
  cases o with
  | none => intro x h; cases h
  | some L =>
    intro x h
    simp only [exOs, List.mem_singleton] at h
    subst h
    exact ⟨rfl, fun _ => rfl⟩
theorem ydu {tab : List (Nat × Nat)} {o : Option (List α)} {k id g : Nat} (h : ∀ L, o = some L → tab[k]? = some (id, g)) : y2n tab (exV k o) = ownV id g o := by
  cases o with
  | none => rfl
  | some L => simp [exV, y2n, h L rfl, ownV]
theorem yhd (o : Option (List α)) : (exOs o).length = if o.isSome then 1 else 0 := by cases o <;> rfl
end
def cnt (f : Fn) : Nat → Nat
  | 0 => 0
  | 1 => (exOs f.regs).length
  | 2 => (exOs f.regs ++ exOs f.params).length
  | _ => (exOs f.regs ++ exOs f.params ++ exOs f.code).length
theorem ywr {α : Type} (A B C : List α) (x : α) (h : B = [x]) : (A ++ B ++ C)[A.length]? = some x := by
  subst h; simp
theorem y1f6 {f : Fn} (hs : FnSm f) {H : Heap} {fb j : Nat} (hl : fb + j + 4 ≤ H.length) : ∃ H' p g, y9 E (yb E) fb (some j) false 13 [.agg (enc f)] H = some (fnV f p g, H') ∧ FnAt H' f p g ∧ H'.length = H.length ∧
    (∀ i, i < 4 → hasL f i = true → fb + j ≤ p i ∧ p i < fb + j + 4) ∧ ∀ k, k < fb + j ∨ fb + j + 4 ≤ k → H'[k]? = H[k]? := by
  have ha : ym (fz H y19) [.agg (enc f)] = some ⟨[.agg (enc f)], scal f && true, []⟩ := by
    rw [yr, ya7, y18]; rfl
  have hlen : (y2o f).objs.length ≤ 4 := by
    simp only [y2o, List.length_append, yhd]
    repeat' split
    all_goals omega
  obtain ⟨H', e1, e2, e3, e4⟩ := ygs (fb := fb) (y2o f).objs j [] H (by
    intro o ho
    simp only [y2o, List.mem_append] at ho
    rcases ho with ((ho | ho) | ho) | ho
    · exact yoz _ o ho
    · exact yoz _ o ho
    · exact yoz _ o ho
    · exact yoz _ o ho) (by omega)
  have ob : ∀ (i : Nat) (x : OC), (y2o f).objs[cnt f i]? = some x → H'[fb + j + cnt f i]? = some ⟨gAt H (fb + j + cnt f i), x⟩ := fun i x h => e3 _ x h
  have o0 : ∀ L, f.regs = some L → (y2o f).objs[cnt f 0]? = some (.arr false false 1 (L.map enc)) := fun L h => by
    simp only [y2o, cnt, h, exOs]; rfl
  have o1 : ∀ L, f.params = some L → (y2o f).objs[cnt f 1]? = some (.arr false false 1 (L.map enc)) := fun L h => by
    simp only [y2o, cnt]
    rw [List.append_assoc, List.append_assoc, ← List.append_assoc]
    exact ywr _ _ _ _ (by rw [h]; rfl)
  have o2 : ∀ L, f.code = some L → (y2o f).objs[cnt f 2]? = some (.arr false false 9 (L.map enc)) := fun L h => by
    simp only [y2o, cnt]
    exact ywr _ _ _ _ (by rw [h]; rfl)
  have o3 : ∀ L, f.rows = some L → (y2o f).objs[cnt f 3]? = some (.arr false false 4 (L.map enc)) := fun L h => by
    simp only [y2o, cnt]
    have := ywr (exOs f.regs ++ exOs f.params ++ exOs f.code) (exOs f.rows) [] (.arr false false 4 (L.map enc)) (by rw [h]; rfl)
    rwa [List.append_nil] at this
  have hlt : ∀ i, i < 4 → hasL f i = true → cnt f i < (y2o f).objs.length := by
    intro i hi hh
    have key : ∀ {x : OC}, (y2o f).objs[cnt f i]? = some x → cnt f i < (y2o f).objs.length := fun h => (List.getElem?_eq_some_iff.1 h).1
    match i, hi with
    | 0, _ => obtain ⟨L, h⟩ := Option.isSome_iff_exists.1 hh; exact key (o0 L h)
    | 1, _ => obtain ⟨L, h⟩ := Option.isSome_iff_exists.1 hh; exact key (o1 L h)
    | 2, _ => obtain ⟨L, h⟩ := Option.isSome_iff_exists.1 hh; exact key (o2 L h)
    | 3, _ => obtain ⟨L, h⟩ := Option.isSome_iff_exists.1 hh; exact key (o3 L h)
  have tb : ∀ k, k < (y2o f).objs.length → ([] ++ (List.range (y2o f).objs.length).map fun i => (fb + j + i, gAt H (fb + j + i)))[k]? = some (fb + j + k, gAt H (fb + j + k)) := fun k hk => by simp [hk]
  refine ⟨H', fun i => fb + j + cnt f i, fun i => gAt H (fb + j + cnt f i), ?_, ⟨fun L h => ob 0 _ (o0 L h), fun L h => ob 1 _ (o1 L h), fun L h => ob 2 _ (o2 L h), fun L h => ob 3 _ (o3 L h), ?_⟩, e2, fun i hi hh => ⟨by show fb + j ≤ fb + j + cnt f i; omega, by have := hlt i hi hh; show fb + j + cnt f i < fb + j + 4; omega⟩, fun k hk => e4 k (by omega)⟩
  · simp only [y9, show E.pure 13 = true from rfl, Bool.false_and, Bool.not_false, Bool.and_self, if_true, y2a, ha, y2h6 f hs, List.isEmpty_nil, Bool.or_true, Bool.false_eq_true, if_false, e1]
    generalize hT : ([] ++ (List.range (y2o f).objs.length).map fun i => (fb + j + i, gAt H (fb + j + i))) = T at *
    have r0 := ydu (tab := T) (o := f.regs) (k := cnt f 0) (id := fb + j + cnt f 0) (g := gAt H (fb + j + cnt f 0)) (fun L h => tb _ (hlt 0 (by omega) (by simp [hasL, h])))
    have r1 := ydu (tab := T) (o := f.params) (k := cnt f 1) (id := fb + j + cnt f 1) (g := gAt H (fb + j + cnt f 1)) (fun L h => tb _ (hlt 1 (by omega) (by simp [hasL, h])))
    have r2 := ydu (tab := T) (o := f.code) (k := cnt f 2) (id := fb + j + cnt f 2) (g := gAt H (fb + j + cnt f 2)) (fun L h => tb _ (hlt 2 (by omega) (by simp [hasL, h])))
    have r3 := ydu (tab := T) (o := f.rows) (k := cnt f 3) (id := fb + j + cnt f 3) (g := gAt H (fb + j + cnt f 3)) (fun L h => tb _ (hlt 3 (by omega) (by simp [hasL, h])))
    have ri : y2n T (.int .i64 f.ret) = .int .i64 f.ret := rfl
    have hv : (y2o f).v = .agg [exV (cnt f 0) f.regs, exV (cnt f 1) f.params, .int .i64 f.ret, exV (cnt f 2) f.code, exV (cnt f 3) f.rows] := rfl
    rw [hv]
    simp only [reloc, y8s, List.map_cons, List.map_nil, r0, r1, r2, r3, ri]
    rfl
  · have h1 := yhd f.regs
    have h2 := yhd f.params
    have h3 := yhd f.code
    intro i k hi hk hne h4 h5
    have c0 : cnt f 0 = 0 := rfl
    have c1 : cnt f 1 = (exOs f.regs).length := rfl
    have c2 : cnt f 2 = (exOs f.regs).length + (exOs f.params).length := by simp [cnt]
    have c3 : cnt f 3 = (exOs f.regs).length + (exOs f.params).length + (exOs f.code).length := by simp [cnt]; omega
    show fb + j + cnt f i ≠ fb + j + cnt f k
    have a0 : hasL f 0 = true → (exOs f.regs).length = 1 := fun h => h1.trans (if_pos h)
    have a1 : hasL f 1 = true → (exOs f.params).length = 1 := fun h => h2.trans (if_pos h)
    have a2 : hasL f 2 = true → (exOs f.code).length = 1 := fun h => h3.trans (if_pos h)
    match i, k, hi, hk with
    | 0, 0, _, _ => omega
    | 0, 1, _, _ => have := a0 h4; omega
    | 0, 2, _, _ => have := a0 h4; omega
    | 0, 3, _, _ => have := a0 h4; omega
    | 1, 0, _, _ => have := a0 h5; omega
    | 1, 1, _, _ => omega
    | 1, 2, _, _ => have := a1 h4; omega
    | 1, 3, _, _ => have := a1 h4; omega
    | 2, 0, _, _ => have := a0 h5; omega
    | 2, 1, _, _ => have := a1 h5; omega
    | 2, 2, _, _ => omega
    | 2, 3, _, _ => have := a2 h4; omega
    | 3, 0, _, _ => have := a0 h5; omega
    | 3, 1, _, _ => have := a1 h5; omega
    | 3, 2, _, _ => have := a2 h5; omega
    | 3, 3, _, _ => omega
theorem yp5 {E : Env} {C : Calls2} {fb f : Nat} {args : List AV} {h : Heap} {fa : Fz (List AV)} {r : Ex AV} {v : AV} (hE : E.pure f = true) (ha : ym (fz h y19) args = some fa) (hf : r.fresh = true)
    (hc : C.p f fa.v = some r) (hr : y1rw r v) (sl : Option Nat := none) (hsl : sl = none := by rfl) : y9 E C fb sl true f args h = some (v, h) := by
  subst hsl
  obtain ⟨q, h1, h2⟩ := hr
  simp [y9, hE, y2a, ha, hc, hf, h1, h2]
end Go.Vm
namespace Go.Vm
open Cel
theorem y24n {f : Fn} {L L' : List Ins} (p g : Nat → Nat) (h : L.length = L'.length) : fnC (yda f L) p g = fnC (yda f L') p g := by
  simp [fnC, yda, ownV, h]
structure DSt (H : Heap) (f : Fn) (p g : Nat → Nat) (n : Nat) : Prop where
  at_ : FnAt H f p g
  box : H[0]? = some ⟨1, .arr true false 5 [fnC f p g]⟩
  res : ∃ c, H[1]? = some ⟨1, .arr true false 5 [c]⟩ ∧ c.length = 5
  len : n ≤ H.length
  lo : ∀ i, i < 4 → hasL f i = true → 2 ≤ p i ∧ p i < 6
theorem ypy (f : Fn) (p g : Nat → Nat) : (fnC f p g).length = 5 := rfl
theorem y15m (f : Fn) (p g : Nat → Nat) : (fnC f p g).all y1a = true := by simp [fnC]
theorem y1w1 {H : Heap} {a : Nat} {c : List AV} (h : H[a]? = some ⟨1, .arr true false 5 [c]⟩) (hl : c.length = 5) : evLd true 5 (.lp a 1 0 0) H = some (.agg c) := by
  have hr : yn H a 1 = some (false, 5, [c]) := by simp [yn, y3m, h]
  rw [y3e, hr]
  simp only [List.getElem?_cons_zero, List.drop_zero, y6q, if_true, hl, Nat.le_refl]
  rw [List.take_of_length_le (by omega)]
theorem y24s {H : Heap} {a k : Nat} {c : List AV} {v : AV} (h : H[a]? = some ⟨1, .arr true false 5 [c]⟩) (hv : c[k]? = some v) : evLd false 1 (.lp a 1 0 k) H = some v := by
  have hr : yn H a 1 = some (false, 5, [c]) := by simp [yn, y3m, h]
  rw [y3e, hr]
  simp only [List.getElem?_cons_zero, y7i, List.head?_drop, hv]
theorem y2d5 {H : Heap} {a : Nat} {c d : List AV} {v : AV} (h : H[a]? = some ⟨1, .arr true false 5 [c]⟩) (hl : c.length = 5) (hv : cellsOf v = d) (hd : d.length = 5) (hf : d.all y1a = true) :
    evSt 5 (.lp a 1 0 0) v H = some (.tup [], H.set a ⟨1, .arr true false 5 [d]⟩) := by
  have hr : yn H a 1 = some (false, 5, [c]) := by simp [yn, y3m, h]
  rw [y67, hr]
  simp only [List.getElem?_cons_zero, hv]
  rw [if_pos ⟨hd, by omega, hf⟩, yf2 (by rw [hd, hl]), y27, h]
  rfl
theorem y1mx {H : Heap} {a : Nat} {c d : List AV} (h : H[a]? = some ⟨1, .arr true false 5 [c]⟩) (hl : c.length = 5) (hd : d.length = 5) (hf : d.all y1a = true) :
    evSt 5 (.lp a 1 0 0) (.agg d) H = some (.tup [], H.set a ⟨1, .arr true false 5 [d]⟩) := y2d5 h hl rfl hd hf
theorem y2lt {H : Heap} {id g i : Nat} {L : List Ins} {x : Ins} (h : H[id]? = some ⟨g, .arr false false 9 (L.map enc)⟩) (hx : L[i]? = some x) : evLd true 9 (.lp id g i 0) H = some (.agg (enc x)) := by
  have hr : yn H id g = some (false, 9, L.map enc) := by simp [yn, y3m, h]
  have hg : (L.map (enc (α := Ins)))[i]? = some (enc x) := by simp [hx]
  rw [y3e, hr]
  simp only [hg, List.drop_zero, yp6]
theorem y269 {n i : Nat} (h : i < n) (id g e : Nat) (k : IntKind) : yw e (.ls id g e 0 n) (.int k i) = some (.lp id g i 0) := by
  have : (i : Int) < (n : Int) := by omega
  simp [yw, this]
section
variable {H : Heap} {f : Fn} {p g : Nat → Nat} {n : Nat} (D : DSt H f p g n)
include D
theorem DSt.ld : evLd true 5 (.lp 0 1 0 0) H = some (fnV f p g) := y1w1 D.box (ypy f p g)
theorem DSt.ldc : evLd false 1 (.lp 0 1 0 3) H = some (ownV (p 2) (g 2) f.code) := y24s D.box rfl
theorem DSt.set {a : Nat} {x : AO} (ha : 6 ≤ a) : DSt (H.set a x) f p g n := by
  refine ⟨D.at_.set fun i hi hh => ?_, by rw [yx (by omega)]; exact D.box, ?_, by rw [List.length_set]; exact D.len, D.lo⟩
  · have := D.lo i hi hh; omega
  · obtain ⟨c, h1, h2⟩ := D.res
    exact ⟨c, by rw [yx (by omega)]; exact h1, h2⟩
theorem DSt.setCode {L L' : List Ins} (hL : f.code = some L) (hl : L.length = L'.length) : DSt (H.set (p 2) ⟨g 2, .arr false false 9 (L'.map enc)⟩) (yda f L') p g n := by
  have hc : hasL f 2 = true := by simp [hasL, hL]
  have h2 := D.lo 2 (by omega) hc
  refine ⟨D.at_.setCode hL, ?_, ?_, by rw [List.length_set]; exact D.len, fun i hi hh => D.lo i hi ?_⟩
  · rw [yx (by omega), D.box]
    have := y24n (f := f) p g hl
    rw [yls hL] at this
    rw [this]
  · obtain ⟨c, h1, h2⟩ := D.res
    exact ⟨c, by rw [yx (by omega)]; exact h1, h2⟩
  · match i, hh with
    | 0, hh => exact hh
    | 1, hh => exact hh
    | 2, _ => exact hc
    | i + 3, hh => exact hh
theorem DSt.out : ∃ H', evSt 5 (.lp 1 1 0 0) (fnV f p g) H = some (.tup [], H') ∧ evLd true 5 (.lp 1 1 0 0) H' = some (fnV f p g) ∧ yf H' (fnV f p g) = some (y2o f) := by
  obtain ⟨c, h1, h2⟩ := D.res
  refine ⟨_, y1mx h1 h2 (ypy f p g) (y15m f p g), y1w1 (y4c (y3t h1)) (ypy f p g), FnAt.expo (D.at_.set fun i hi hh => ?_)⟩
  have := D.lo i hi hh; omega
theorem DSt.ix {L : List Ins} (hL : f.code = some L) {i : Nat} {x : Ins} (hx : L[i]? = some x) : evLd true 9 (.lp (p 2) (g 2) i 0) H = some (.agg (enc x)) := y2lt (D.at_.code L hL) hx
theorem DSt.st {L : List Ins} (hL : f.code = some L) {i : Nat} (hi : i < L.length) (y : Ins) : evSt 9 (.lp (p 2) (g 2) i 0) (.agg (enc y)) H = some (.tup [], H.set (p 2) ⟨g 2, .arr false false 9 ((L.set i y).map enc)⟩) :=
  ype (α := Ins) (D.at_.code L hL) hi rfl
theorem DSt.call {E : Env} {C : Calls2} {fb k : Nat} {r : Ex AV} {v : AV} (hE : E.pure k = true) (hf : r.fresh = true) (hc : C.p k [.agg (enc f)] = some r) (hr : y1rw r v) (sl : Option Nat := none) (hsl : sl = none := by rfl) : y9 E C fb sl true k [fnV f p g] H = some (v, H) := by
  subst hsl
  obtain ⟨fr, ids, hz⟩ := D.at_.fz
  refine yp5 (fa := ⟨[.agg (enc f)], fr && true, ids ++ []⟩) hE ?_ hf hc hr
  rw [yr, hz, y18]
theorem DSt.call2 {E : Env} {C : Calls2} {fb k : Nat} {r : Ex AV} {v : AV} {i : Int} (hE : E.pure k = true) (hf : r.fresh = true) (hc : C.p k [.agg (enc f), .int .i64 i] = some r) (hr : y1rw r v) (sl : Option Nat := none) (hsl : sl = none := by rfl) : y9 E C fb sl true k [fnV f p g, .int .i64 i] H = some (v, H) := by
  subst hsl
  obtain ⟨fr, ids, hz⟩ := D.at_.fz
  refine yp5 (fa := ⟨[.agg (enc f), .int .i64 i], fr && (true && true), ids ++ ([] ++ [])⟩) hE ?_ hf hc hr
  rw [yr, yr, hz, y1kw, y18]
end
theorem yhq {H T : Heap} {a : Nat} {x : AO} (h : H[a]? = some x) : (H ++ T)[a]? = some x := by
  rw [List.getElem?_append_left (y3t h)]; exact h
theorem FnAt.grow {H : Heap} {f : Fn} {p g : Nat → Nat} (A : FnAt H f p g) (T : Heap) : FnAt (H ++ T) f p g :=
  ⟨fun L e => yhq (A.regs L e), fun L e => yhq (A.params L e), fun L e => yhq (A.code L e), fun L e => yhq (A.rows L e), A.ne⟩
theorem DSt.grow {H : Heap} {f : Fn} {p g : Nat → Nat} {n : Nat} (D : DSt H f p g n) (T : Heap) : DSt (H ++ T) f p g n := by
  obtain ⟨c, h1, h2⟩ := D.res
  exact ⟨D.at_.grow T, yhq D.box, ⟨c, yhq h1, h2⟩, by rw [List.length_append]; have := D.len; omega, D.lo⟩
theorem y19r {f : Fn} (hs : FnSm f) {H : Heap} (h0 : H[0]? = some (AB f)) (h1 : ∃ c, H[1]? = some ⟨1, .arr true false 5 [c]⟩ ∧ c.length = 5) {n : Nat} (hn : 6 ≤ n) (hl : n ≤ H.length) :
    ∃ H1 H2 p g, y9 E (yb E) 0 (some 2) false 13 [.agg (enc f)] H = some (fnV f p g, H1) ∧ evSt 5 (.lp 0 1 0 0) (fnV f p g) H1 = some (.tup [], H2) ∧ DSt H2 f p g n ∧ H2.length = H.length ∧ ∀ k, 6 ≤ k → H2[k]? = H[k]? := by
  obtain ⟨H1, p, g, e1, A, e2, e3, e4⟩ := y1f6 hs (H := H) (fb := 0) (j := 2) (by omega)
  have hb : H1[0]? = some ⟨1, .arr true false 5 [enc f]⟩ := by rw [e4 0 (.inl (by omega)), h0]
  refine ⟨H1, _, p, g, e1, y1mx hb rfl (ypy f p g) (y15m f p g), ⟨A.set fun i hi hh => ?_, y4c (y3t hb), ?_, by rw [List.length_set, e2]; exact hl, fun i hi hh => by have := e3 i hi hh; omega⟩, by rw [List.length_set, e2], fun k hk => ?_⟩
  · have := e3 i hi hh; omega
  · obtain ⟨c, c1, c2⟩ := h1
    exact ⟨c, by rw [yx (by omega), e4 1 (.inl (by omega))]; exact c1, c2⟩
  · rw [yx (by omega), e4 k (.inr (by omega))]
end Go.Vm
namespace Go.Vm
open Cel
abbrev y1ad : List AV := [.int .i64 0, .int .i64 0, .int .i64 0, .int .i64 0, .int .i64 0, .int .i64 0, .int .i64 0, .str [], .nils]
theorem ld_x {H : Heap} {id g k : Nat} {x : Ins} {v : AV} (h : H[id]? = some (AX g x)) (hv : (enc x)[k]? = some v) : evLd false 1 (.lp id g 0 k) H = some v := by
  have hr : yn H id g = some (false, 9, [enc x]) := by simp [yn, y3m, h]
  rw [y3e, hr]
  simp only [List.getElem?_cons_zero, y7i, List.head?_drop, hv]
theorem y2hw {H : Heap} {id g : Nat} {x : Ins} (h : H[id]? = some (AX g x)) : evLd true 9 (.lp id g 0 0) H = some (.agg (enc x)) := by
  have hr : yn H id g = some (false, 9, [enc x]) := by simp [yn, y3m, h]
  simp [y3e, hr]
theorem y2p3 {H : Heap} {id g : Nat} {x y : Ins} {v : AV} (h : H[id]? = some (AX g x)) (hv : cellsOf v = enc y) : evSt 9 (.lp id g 0 0) v H = some (.tup [], H.set id (AX g y)) := by
  have hr : yn H id g = some (false, 9, [enc x]) := by simp [yn, y3m, h]
  rw [y67, hr]
  simp only [List.getElem?_cons_zero, hv]
  rw [if_pos ⟨rfl, by rw [ywl]; exact Nat.le_refl _, y24v y⟩, yf2 (by rw [ywl, ywl]), y27, h]
  rfl
theorem st_x {H : Heap} {id g : Nat} {x y : Ins} (h : H[id]? = some (AX g x)) : evSt 9 (.lp id g 0 0) (.agg (enc y)) H = some (.tup [], H.set id (AX g y)) := y2p3 h rfl
theorem y2no {H : Heap} {fb j : Nat} {o : AO} (h : H[fb + j]? = some o) : newC fb (some j) y1ad H = some (.lp (fb + j) (o.gen + 1) 0 0, H.set (fb + j) (AX (o.gen + 1) default)) := by
  simp [h]
  rfl
end Go.Vm
namespace Go.Vm
open Cel
abbrev cF (c : Fa) : List AV := [.int .i64 c.1, .int .i64 c.2.1, .int .i64 c.2.2]
abbrev vFa (c : Fa) : AV := .agg (cF c)
def mE (s : Fs) : List (AV × AV) := s.map fun c => (vFa c, .bool true)
theorem yvq (c : Fa) (s : Fs) : mE (c :: s) = (vFa c, .bool true) :: mE s := rfl
theorem y27d (s : Fs) : (mE s).length = s.length := List.length_map _
theorem yol (a b : Fa) : y39 true [0, 0, 0] (vFa a) (vFa b) = some (decide (a = b)) := by
  obtain ⟨a1, a2, a3⟩ := a
  obtain ⟨b1, b2, b3⟩ := b
  simp only [y39, yk, y1r, if_true]
  congr 1
  rw [Bool.eq_iff_iff]
  simp
theorem ypz (c : Fa) : ∀ s : Fs, mfind true [0, 0, 0] (vFa c) (mE s) = some (if c ∈ s then some (.bool true) else none)
  | [] => rfl
  | b :: s => by
    have ih := ypz c s
    simp only [mE, List.map_cons, mfind] at ih ⊢
    rw [yol]
    by_cases e : c = b
    · rw [decide_eq_true e]; simp [e]
    · rw [decide_eq_false e]
      simp only
      rw [ih]
      simp [e]
theorem y1l9 (c : Fa) : ∀ s : Fs, mset true [0, 0, 0] (vFa c) (.bool true) (mE s) = some (mE (fput c s))
  | [] => rfl
  | b :: s => by
    have ih := y1l9 c s
    simp only [mE, List.map_cons, mset] at ih ⊢
    rw [yol]
    by_cases e : c = b
    · rw [decide_eq_true e]
      subst e
      simp [fput]
    · rw [decide_eq_false e]
      simp only
      rw [ih]
      simp only [Option.map_some, fput, List.mem_cons, e, false_or]
      split <;> simp
theorem y16t (c : Fa) : ∀ s : Fs, mdrop true [0, 0, 0] (vFa c) (mE s) = some (mE (s.erase c))
  | [] => rfl
  | b :: s => by
    have ih := y16t c s
    simp only [mE, List.map_cons, mdrop] at ih ⊢
    rw [yol]
    by_cases e : c = b
    · rw [decide_eq_true e]
      subst e
      simp
    · rw [decide_eq_false e]
      simp only
      rw [ih, List.erase_cons_tail (by simpa using fun h => e h.symm)]
      rfl
abbrev AK (g : Nat) (s : Fs) : AO := ⟨g, .map false (mE s)⟩
theorem yg6 {H : Heap} {id g : Nat} {s : Fs} (h : H[id]? = some (AK g s)) : yc7 H id g = some (false, mE s) := by simp [yc7, y3m, h]
theorem y25m {H : Heap} (c : Fa) (s : Fs) : y6r true [0, 0, 0] (.bool false) false (.rm (mE s)) (vFa c) H = some (.bool (decide (c ∈ s))) := by
  simp only [y6r, ypz]
  by_cases e : c ∈ s <;> simp [e]
theorem y2e9 {H : Heap} {id g : Nat} {s : Fs} (h : H[id]? = some (AK g s)) (c : Fa) : y6r true [0, 0, 0] (.bool false) false (.lm id g) (vFa c) H = some (.bool (decide (c ∈ s))) := by
  simp only [y6r, yg6 h, Option.map_some, ypz]
  by_cases e : c ∈ s <;> simp [e]
theorem yxg {H : Heap} {id g : Nat} {s : Fs} (h : H[id]? = some (AK g s)) (c : Fa) : y6f true [0, 0, 0] (.lm id g) (vFa c) (.bool true) H = some (.tup [], H.set id (AK g (fput c s))) := by
  simp only [y6f, yg6 h, y1l9, y7y, h]
theorem y2l1 {H : Heap} {id g : Nat} {s : Fs} (h : H[id]? = some (AK g s)) (c : Fa) : ycl true [0, 0, 0] (.lm id g) (vFa c) H = some (.tup [], H.set id (AK g (s.erase c))) := by
  simp only [ycl, yg6 h, y16t, y7y, h]
theorem y1uw (s : Fs) : ((mE s).all fun p => yh8 p.1 && yh8 p.2) = true := by
  rw [List.all_eq_true]
  intro p hp
  obtain ⟨c, _, rfl⟩ := List.mem_map.1 hp
  rfl
theorem yox (k : Nat) (H : Heap) : ∀ s : Fs, ym (y1az H (k + 2)) (mE s) = some ⟨mE s, true, []⟩
  | [] => rfl
  | c :: s => by
    have ih := yox k H s
    have e1 : y1az H (k + 2) (vFa c, .bool true) = some ⟨(vFa c, .bool true), true, []⟩ := rfl
    simp only [mE, List.map_cons] at ih ⊢
    rw [yr, e1, ih]
    rfl
theorem y25r {H : Heap} {id g : Nat} {s : Fs} (k : Nat) (h : H[id]? = some (AK g s)) : fz H (k + 3) (.lm id g) = some ⟨.rm (mE s), true, [id]⟩ := by
  have e := yox k H s
  have e2 : fz H (k + 3) (.lm id g) = match yc7 H id g with
      | some (_, es) => match ym (y1az H (k + 2)) es with
        | some r => some ⟨.rm r.v, r.fresh, id :: r.ids⟩
        | none => none
      | none => none := rfl
  rw [e2, yg6 h]
  simp only [e]
theorem y279 {H : Heap} {id g : Nat} {s : Fs} (h : H[id]? = some (AK g s)) : yf H (.lm id g) = some ⟨.lm 0 0, [.map false (mE s)], true, [], []⟩ := by
  have e : expo H y19 (.lm id g) [] = some ⟨.lm 0 0, [.map false (mE s)], true, [id], []⟩ := by
    have := yox 10 H s
    unfold y19 expo
    simp only [yg6 h]
    rw [show y19 = 10 + 2 from rfl, this]
    rfl
  rw [yf, e]
  rfl
abbrev exK2 (s : Fs) : Ex AV := ⟨.lm 0 0, [.map false (mE s)], true, [], []⟩
theorem y2bp (s : Fs) : fz (y2j [.map false (mE s)]) y19 (.lm 0 0) = some ⟨.rm (mE s), true, [0]⟩ := y25r 9 rfl
theorem y13k (s : Fs) : (yb E).p 161 [.rm (mE s)] = some (exK2 s) := by
  rw [yf7, y5p, show E.fn 161 = none by kernel_rfl]
  have e : xpM 161 161 [.rm (mE s)] = some (exK2 s) := by rw [xpM, if_pos ⟨rfl, y1uw s⟩]
  have c : xpC 161 [.rm (mE s)] = none := rfl
  first
    | exact e
    | (show xpOr (xpM 161) xpC 161 [.rm (mE s)] = _; rw [xpOr, e])
    | (show xpOr xpC (xpM 161) 161 [.rm (mE s)] = _; rw [xpOr, c]; exact e)
theorem y21l {α β : Type} {f : α → β} {l : List α} : ∀ {π : List β}, π.Perm (l.map f) → ∃ l' : List α, l'.Perm l ∧ π = l'.map f := by
  intro π hp
  have h0 : All2 (fun a b => b = f a) l (l.map f) := .of (by simp) fun i a b h1 h2 => by
    rw [List.getElem?_map, h1] at h2
    simpa using h2.symm
  obtain ⟨q, h1, h2⟩ := yr6 hp.symm h0
  refine ⟨q, h1, List.ext_getElem? fun i => ?_⟩
  rw [List.getElem?_map]
  cases ha : q[i]? with
  | none =>
    rw [List.getElem?_eq_none (by rw [← h2.length]; exact List.getElem?_eq_none_iff.1 ha)]
    rfl
  | some a =>
    have hi := (List.getElem?_eq_some_iff.1 ha).1
    have hp2 : i < π.length := by rw [← h2.length]; exact hi
    have hb : π[i]? = some π[i] := List.getElem?_eq_getElem hp2
    rw [hb, h2.get ha hb]; rfl
theorem y2kr {step : Heap → AV × AV → Option Heap} {s : Fs} {h : Heap} (R : Fs → Heap) (h1 : ∀ l : Fs, l.Perm s → mfold step (mE l) h = some (R l)) (h2 : ∀ l : Fs, l.Perm s → yfr (R l) (R s)) : mall step (mE s) h = some (R s) := by
  rw [yad]
  refine ⟨h1 s (.refl s), fun π hp => ?_⟩
  obtain ⟨l, hl, rfl⟩ := y21l hp
  exact ⟨R l, h1 l hl, h2 l hl⟩
theorem y2aw {α : Type} {step : AV × AV → Heap → Option Heap} {s : Fs} {h : Heap} {K : Heap → Option α} (R : Fs → Heap) (h1 : ∀ l : Fs, l.Perm s → mfold (fun h q => step q h) (mE l) h = some (R l)) (h2 : ∀ l : Fs, l.Perm s → yfr (R l) (R s)) :
    orm (.rm (mE s)) step h K = K (R s) := by
  simp only [orm]
  rw [y2kr R h1 h2]
theorem yfr.refl (h : Heap) : yfr h h := fun i => ytl.refl _
end Go.Vm
namespace Go.Vm
open Cel
abbrev AC (g : Nat) (c : Fa) : AO := ⟨g, .arr true false 3 [cF c]⟩
abbrev zF : Fa := (0, 0, 0)
theorem y1ag {H : Heap} {j : Nat} {o : AO} (h : H[0 + j]? = some o) : newC 0 (some j) [.int .i64 0, .int .i64 0, .int .i64 0] H = some (.lp (0 + j) (o.gen + 1) 0 0, H.set (0 + j) (AC (o.gen + 1) zF)) := by
  simp only [Nat.zero_add] at h
  simp [h]
theorem ld_c {H : Heap} {id g k : Nat} {c : Fa} {v : AV} (h : H[id]? = some (AC g c)) (hv : (cF c)[k]? = some v) : evLd false 1 (.lp id g 0 k) H = some v := by
  have hr : yn H id g = some (false, 3, [cF c]) := by simp [yn, y3m, h]
  rw [y3e, hr]
  simp only [List.getElem?_cons_zero, y7i, List.head?_drop, hv]
theorem y23w {H : Heap} {id g : Nat} {c : Fa} (h : H[id]? = some (AC g c)) : evLd true 3 (.lp id g 0 0) H = some (vFa c) := by
  have hr : yn H id g = some (false, 3, [cF c]) := by simp [yn, y3m, h]
  rw [y3e, hr]
  rfl
theorem st_c {H : Heap} {id g : Nat} {c e : Fa} (h : H[id]? = some (AC g c)) : evSt 3 (.lp id g 0 0) (vFa e) H = some (.tup [], H.set id (AC g e)) := by
  have hr : yn H id g = some (false, 3, [cF c]) := by simp [yn, y3m, h]
  rw [y67, hr]
  simp only [List.getElem?_cons_zero, show cellsOf (vFa e) = cF e from rfl]
  rw [if_pos ⟨rfl, Nat.le_refl _, rfl⟩, y27, h]
  rfl
theorem bl_c (a b c : Int) : y13 [.int .i64 0, .int .i64 0, .int .i64 0] [(0, 1, .int .i64 a), (1, 1, .int .i64 b), (2, 1, .int .i64 c)] = some (.agg [.int .i64 a, .int .i64 b, .int .i64 c]) := rfl
def ofV (x : Ins) : AV := .tup [vFa ((ofM x).getD zF), .bool (ofM x).isSome]
theorem s_of (x : Ins) : (yb E).p 169 [.agg (enc x)] = some ⟨ofV x, [], true, [], []⟩ := by
  have n0 : newC 0 (some 0) (cellsOf (.agg (enc x))) [D0, D0] = some (.lp 0 1 0 0, [AX 1 x, D0]) := by simp
  have n1 := y1ag (H := [AX 1 x, D0]) (j := 1) (o := D0) rfl
  have l0 : evLd false 1 (.lp 0 1 0 0) [AX 1 x, AC 1 zF] = some (.int .i64 x.op) := rfl
  have l2 : evLd false 1 (.lp 0 1 0 2) [AX 1 x, AC 1 zF] = some (.int .i64 x.a) := rfl
  have l3 : evLd false 1 (.lp 0 1 0 3) [AX 1 x, AC 1 zF] = some (.int .i64 x.b) := rfl
  have f0 : evFa 0 (.lp 0 1 0 0) = some (.lp 0 1 0 0) := rfl
  have f2 : evFa 2 (.lp 0 1 0 0) = some (.lp 0 1 0 2) := rfl
  have f3 : evFa 3 (.lp 0 1 0 0) = some (.lp 0 1 0 3) := rfl
  have st : ∀ c : Fa, evSt 3 (.lp 1 1 0 0) (vFa c) [AX 1 x, AC 1 zF] = some (.tup [], [AX 1 x, AC 1 c]) := fun c => st_c rfl
  have la : ∀ c : Fa, evLd true 3 (.lp 1 1 0 0) [AX 1 x, AC 1 c] = some (vFa c) := fun c => rfl
  have ex : ∀ (c : Fa) (b : Bool) (H : Heap), yf H (.tup [vFa c, .bool b]) = some ⟨.tup [vFa c, .bool b], [], true, [], []⟩ := fun c b H => rfl
  have bl0 : y13 [.int .i64 0, .int .i64 0, .int .i64 0] [] = some (vFa zF) := rfl
  have one : ∀ v : AV, ywt (.lp 0 1 0 0) (.lp 1 1 0 0) v (.bool true) [AX 1 x, AC 1 zF] = some ⟨.tup [vFa (x.op, x.a, -1), .bool true], [], true, [], []⟩ := fun v => by
    rw [ywt, y1k, f0, y7, l0, y7, f2, y7, l2, y7, bl_c, y7, st (x.op, x.a, -1), ye, la, y7, ex]
  have e7 : y1y8 (.agg (enc x)) [⟨0, .dead⟩, ⟨0, .dead⟩] = y1zl (.lp 0 1 0 0) (.lp 1 1 0 0) (.int .i64 x.op) [AX 1 x, AC 1 zF] := by
    rw [y1y8, show ([⟨0, .dead⟩, ⟨0, .dead⟩] : Heap) = [D0, D0] from rfl, n0, ye, n1, ye]
    show y1y1 (.lp 0 1 0 0) (.lp 1 1 0 0) [AX 1 x, AC 1 zF] = _
    rw [y1y1, f0, y7, l0, y7]
  rw [y2qt, e7, y1zl, y17, y7]
  by_cases h7 : x.op = 7
  · have e : ofM x = some (x.op, x.a, -1) := by simp [ofM, h7]
    rw [decide_eq_true h7, y1k, one, ofV, e]; rfl
  rw [decide_eq_false h7, y25, y17, y7]
  by_cases h8 : x.op = 8
  · have e : ofM x = some (x.op, x.a, -1) := by simp [ofM, h8]
    rw [decide_eq_true h8, y1k, one, ofV, e]; rfl
  rw [decide_eq_false h8, y25, y17, y7]
  by_cases h10 : x.op = 10
  · have e : ofM x = some (x.op, x.a, -1) := by simp [ofM, h10]
    rw [decide_eq_true h10, one, ofV, e]; rfl
  rw [decide_eq_false h10, ywt, y25, y17, y7]
  by_cases h9 : x.op = 9
  · have e : ofM x = some (x.op, x.a, x.b) := by simp [ofM, h9]
    rw [decide_eq_true h9, y1k, f0, y7, l0, y7, f2, y7, l2, y7, f3, y7, l3, y7, bl_c, y7, st (x.op, x.a, x.b), ye, la, y7, ex, ofV, e]; rfl
  have e : ofM x = none := by simp [ofM, h7, h8, h9, h10]
  rw [decide_eq_false h9, y25, y2fn, bl0, y7, st zF, ye, la, y7, ex, ofV, e]; rfl
noncomputable def yha (s : Fs) : AV × AV → Heap → Option Heap := fun q h2 => ob (y40 0 (AV.tup [q.1, q.2])) fun v13 => oh (newC 0 (some 1) [.int .i64 0, .int .i64 0, .int .i64 0] h2) fun v6 h4 => oh (evSt 3 v6 v13 h4) fun _ h5 => y22o (.rm (mE s)) (.lm 0 1) v6 h5
theorem y18u (s : Fs) (g : Nat) (u : Fs) (c : Fa) (m : Fs) (hm : c ∉ m) (hu : u = y4m m s) :
    yha s (vFa c, .bool true) [AK 1 u, ⟨g, .dead⟩] =
      some [AK 1 (y4m (m ++ [c]) s), ⟨g + 1 + 1, .dead⟩] := by
  have x0 : y40 0 (AV.tup [vFa c, .bool true]) = some (vFa c) := rfl
  have n := y1ag (H := [AK 1 u, ⟨g, .dead⟩]) (j := 1) (o := ⟨g, .dead⟩) rfl
  have st := st_c (H := [AK 1 u, AC (g + 1) zF]) (id := 1) (g := g + 1) (c := zF) (e := c) rfl
  have la := y23w (H := [AK 1 u, AC (g + 1) c]) (id := 1) (g := g + 1) (c := c) rfl
  have st' : evSt 3 (.lp (0 + 1) (g + 1) 0 0) (vFa c) ([AK 1 u, ⟨g, .dead⟩].set (0 + 1) (AC (g + 1) zF)) = some (.tup [], [AK 1 u, AC (g + 1) c]) := st
  have la' : evLd true 3 (.lp (0 + 1) (g + 1) 0 0) [AK 1 u, AC (g + 1) c] = some (vFa c) := la
  simp only [yha, x0, y7, n, ye, st', y22o, la', y25m]
  have hap : y4m (m ++ [c]) s = y4m m s ++ (if c ∈ s then [c] else []) := by
    unfold y4m
    rw [List.filter_append]
    by_cases e : c ∈ s <;> simp [e]
  by_cases e : c ∈ s
  · rw [decide_eq_true e, y1k, yxg (H := [AK 1 u, AC (g + 1) c]) (id := 0) (g := 1) (s := u) rfl, ye, hap, if_pos e, hu]
    have hn : c ∉ y4m m s := fun h => hm (y7k.1 h).1
    have hp : fput c (y4m m s) = y4m m s ++ [c] := by rw [fput, if_neg hn]
    rw [hp]
    rfl
  · rw [decide_eq_false e, y25, hap, if_neg e, List.append_nil, hu]
    rfl
theorem y2f9 (t s : Fs) (ht : t.Nodup) : (yb E).p 170 [.rm (mE t), .rm (mE s)] = some (exK2 (y4m t s)) := by
  have mk : mkmC 0 (some 0) [D0, D0] = some (.lm 0 1, [AK 1 [], D0]) := rfl
  have fold : ∀ (l m : Fs) (g : Nat), (m ++ l).Nodup → mfold (fun (h : Heap) (q : AV × AV) => yha s q h) (mE l) [AK 1 (y4m m s), ⟨g, .dead⟩] =
      some [AK 1 (y4m (m ++ l) s), ⟨g + 2 * l.length, .dead⟩] := by
    intro l
    induction l with
    | nil => intro m g _; simp [mE, mfold]
    | cons c l ih =>
      intro m g hd
      have hc : c ∉ m := by
        rw [List.nodup_append] at hd
        exact fun h => hd.2.2 c h c (by simp) rfl
      have r := y18u s g (y4m m s) c m hc rfl
      rw [yvq, mfold, r]
      simp only
      rw [ih (m ++ [c]) (g + 1 + 1) (by rw [List.append_assoc]; exact hd), List.append_assoc]
      simp only [List.singleton_append, List.length_cons]
      congr 4
      omega
  rw [y2p2, y2eq, y2dz, show ([⟨0, .dead⟩, ⟨0, .dead⟩] : Heap) = [D0, D0] from rfl, mk, ye, y2fv]
  show orm (.rm (mE t)) (yha s) [AK 1 [], ⟨0, .dead⟩] (fun h3 => y20u (.lm 0 1) h3) = _
  refine (y2aw (h := [AK 1 [], ⟨0, .dead⟩]) (fun l => [AK 1 (y4m l s), ⟨0 + 2 * l.length, .dead⟩]) (fun l hl => fold l [] 0 (by rw [List.nil_append]; exact hl.nodup_iff.2 ht)) (fun l hl i => ?_)).trans ?_
  · have e : l.length = t.length := hl.length_eq
    have hp : (mE (y4m l s)).Perm (mE (y4m t s)) := (hl.filter _).map _
    match i with
    | 0 => exact ⟨rfl, .inr ⟨false, _, _, rfl, rfl, hp⟩⟩
    | 1 => rw [e]; exact ytl.refl _
    | i + 2 => exact ytl.refl _
  · rw [y20u]
    exact y279 (id := 0) (g := 1) rfl
end Go.Vm
namespace Go.Vm
open Cel
attribute [local simp] y9 y2a yu
@[simp] theorem y2rb (x : Ins) : (yb E).p 24 [.agg (enc x)] = some ⟨.bool (ends x.op), [], true, [], []⟩ := by
  rw [y2qr, y2cc]
  by_cases h1 : x.op = 27
  · simp [h1, ends]
  by_cases h2 : x.op = 30
  · simp [h2, ends]
  by_cases h3 : x.op = 31 <;> simp [h1, h2, h3, ends]
@[simp] theorem y2q4 (x : Ins) : (yb E).p 22 [.agg (enc x)] = some ⟨.bool (leads x.op), [], true, [], []⟩ := by
  rw [y2oi, y2dh]
  by_cases h1 : x.op = 27
  · simp [h1, leads]
  by_cases h2 : x.op = 28
  · simp [h2, leads]
  by_cases h3 : x.op = 29 <;> simp [h1, h2, h3, leads]
@[simp] theorem ywn (x : Ins) : (yb E).p 17 [.agg (enc x)] = some ⟨.bool (calls x.op), [], true, [], []⟩ := by
  rw [y2pw, y28l]
  by_cases h1 : 23 ≤ x.op
  · by_cases h2 : x.op ≤ 26 <;> simp [h1, h2, calls]
  · simp [h1, calls]
end Go.Vm
namespace Go.Vm
open Cel
attribute [local simp] y9 y2a yu
@[simp] theorem y2k4 (x : Ins) : (yb E).p 9 [.agg (enc x)] = some ⟨.int .i64 (defr x), [], true, [], []⟩ := by
  rw [y2po]
  rcases ydz x.op with h|h|h|h|h|h|h|h|h|h|h|h|h|h|h|h|h|h|h|h|h|h|h|h|h|h|h|h|h|h|h|h|h|h|h <;> first | (simp [h, defr, writes, calls, y1ni, y1gt, ya9, y1ta, y1ou, y1lq]; done) | (simp [lo_f h, defr, writes, calls, y1ni, y1gt, ya9, y1ta, y1ou, y1lq]; done) | simp [hi_f h, defr, writes, calls, y1ni, y1gt, ya9, y1ta, y1ou, y1lq]
end Go.Vm
namespace Go.Vm
open Cel
theorem y2mu (H : Heap) (s : Fs) : ∃ fr, ym (fz H y19) [.rm (mE s)] = some ⟨[.rm (mE s)], fr, []⟩ := ⟨_, rfl⟩
theorem y1ah {H : Heap} {fb j : Nat} {o : AO} (s : Fs) (h : H[fb + j]? = some o) : y9 E (yb E) fb (some j) false 161 [.rm (mE s)] H = some (.lm (fb + j) (o.gen + 1), H.set (fb + j) (AK (o.gen + 1) s)) := by
  obtain ⟨fr, hz⟩ := y2mu H s
  have ok : okOC (y4t [] (.map false (mE s))) = true := y1uw s
  have pl : place fb (some j) (y4t [] (.map false (mE s))) H = some (fb + j, o.gen + 1, H.set (fb + j) (AK (o.gen + 1) s)) := by
    rw [place, h]; rfl
  rw [y9, if_pos (by rfl), y2a, hz]
  simp only [y13k, Bool.true_or, if_true, Bool.false_eq_true, if_false, y2b, ok, pl]
  rfl
def delL (d : Int) : Fs → Fs → Fs
  | [], u => u
  | c :: l, u => delL d l (if hitF d c then u.erase c else u)
theorem ywf (d : Int) : ∀ (l u : Fs), u.Nodup → delL d l u = u.filter fun c => !(hitF d c && decide (c ∈ l))
  | [], u, _ => by
    rw [delL]
    exact (List.filter_eq_self.2 fun c _ => by simp).symm
  | c :: l, u, h => by
    rw [delL]
    by_cases e : hitF d c = true
    · rw [if_pos e, ywf d l _ (h.erase _), h.erase_eq_filter, List.filter_filter]
      refine List.filter_congr fun x _ => ?_
      by_cases e2 : x = c
      · subst e2; simp [e]
      · simp [e2]
    · rw [if_neg e, ywf d l _ h]
      refine List.filter_congr fun x _ => ?_
      by_cases e2 : x = c
      · subst e2; simp [e]
      · simp [e2]
theorem yom {d : Int} {l s : Fs} (hp : l.Perm s) (h : s.Nodup) : delL d l s = s.filter fun c => !hitF d c := by
  rw [ywf d l s h]
  refine List.filter_congr fun x hx => ?_
  rw [decide_eq_true (hp.mem_iff.2 hx), Bool.and_true]
noncomputable def ykm (d : Int) : AV × AV → Heap → Option Heap := fun q h8 => ob (y40 0 (AV.tup [q.1, q.2])) fun v41 => oh (newC 0 (some 3) [.int .i64 0, .int .i64 0, .int .i64 0] h8) fun v9 h10 => oh (evSt 3 v9 v41 h10) fun _ h11 => y13w (.lm 1 1) (.int .i64 d) v9 h11
section
variable (X B O : AO)
theorem y1t1 (d : Int) (g : Nat) (u : Fs) (c : Fa) : ykm d (vFa c, .bool true) [X, AK 1 u, B, ⟨g, .dead⟩, O] = some [X, AK 1 (if hitF d c then u.erase c else u), B, ⟨g + 1 + 1, .dead⟩, O] := by
  have x0 : y40 0 (AV.tup [vFa c, .bool true]) = some (vFa c) := rfl
  have n := y1ag (H := [X, AK 1 u, B, ⟨g, .dead⟩, O]) (j := 3) (o := ⟨g, .dead⟩) rfl
  have st : evSt 3 (.lp (0 + 3) (g + 1) 0 0) (vFa c) ([X, AK 1 u, B, ⟨g, .dead⟩, O].set (0 + 3) (AC (g + 1) zF)) = some (.tup [], [X, AK 1 u, B, AC (g + 1) c, O]) := st_c (H := [X, AK 1 u, B, AC (g + 1) zF, O]) (id := 3) (g := g + 1) (c := zF) (e := c) rfl
  have la : evLd true 3 (.lp (0 + 3) (g + 1) 0 0) [X, AK 1 u, B, AC (g + 1) c, O] = some (vFa c) := y23w (H := [X, AK 1 u, B, AC (g + 1) c, O]) (id := 3) (g := g + 1) (c := c) rfl
  have l1 : evLd false 1 (.lp (0 + 3) (g + 1) 0 1) [X, AK 1 u, B, AC (g + 1) c, O] = some (.int .i64 c.2.1) := ld_c (H := [X, AK 1 u, B, AC (g + 1) c, O]) (id := 3) (g := g + 1) (c := c) rfl rfl
  have l2 : evLd false 1 (.lp (0 + 3) (g + 1) 0 2) [X, AK 1 u, B, AC (g + 1) c, O] = some (.int .i64 c.2.2) := ld_c (H := [X, AK 1 u, B, AC (g + 1) c, O]) (id := 3) (g := g + 1) (c := c) rfl rfl
  have f1 : evFa 1 (.lp (0 + 3) (g + 1) 0 0) = some (.lp (0 + 3) (g + 1) 0 1) := rfl
  have f2 : evFa 2 (.lp (0 + 3) (g + 1) 0 0) = some (.lp (0 + 3) (g + 1) 0 2) := rfl
  have md := y2l1 (H := [X, AK 1 u, B, AC (g + 1) c, O]) (id := 1) (g := 1) (s := u) rfl c
  simp only [ykm, x0, y7, n, ye, st, y13w, f1, l1, y17]
  by_cases e1 : c.2.1 = d
  · have hh : hitF d c = true := by simp [hitF, e1]
    rw [if_pos hh]
    simp only [e1, decide_true, yog, y2c, y7, y1k, la, md, ye]
    rfl
  · by_cases e2 : c.2.2 = d
    · have hh : hitF d c = true := by simp [hitF, e2]
      rw [if_pos hh]
      simp only [e1, e2, decide_true, decide_false, yi4, f2, l2, y30, y7, y17, y1k, la, md, ye]
      rfl
    · have hh : hitF d c = false := by simp [hitF, e1, e2]
      rw [hh]
      simp only [e1, e2, decide_false, yi4, f2, l2, y30, y7, y17, y25]
      rfl
theorem y16s (d : Int) : ∀ (l u : Fs) (g : Nat), mfold (fun (h : Heap) (q : AV × AV) => ykm d q h) (mE l) [X, AK 1 u, B, ⟨g, .dead⟩, O] = some [X, AK 1 (delL d l u), B, ⟨g + 2 * l.length, .dead⟩, O]
  | [], u, g => rfl
  | c :: l, u, g => by
    rw [yvq, mfold, y1t1]
    simp only
    rw [y16s d l _ (g + 1 + 1), delL]
    simp only [List.length_cons]
    congr 6
    omega
theorem y256 {α : Type} (d : Int) {s : Fs} (hs : s.Nodup) (K : Heap → Option α) : orm (.rm (mE s)) (ykm d) [X, AK 1 s, B, D0, O] K = K [X, AK 1 (s.filter fun c => !hitF d c), B, ⟨2 * s.length, .dead⟩, O] := by
  have r := y2aw (step := ykm d) (K := K) (h := [X, AK 1 s, B, D0, O]) (fun l => [X, AK 1 (delL d l s), B, ⟨0 + 2 * l.length, .dead⟩, O]) (fun l _ => y16s X B O d l s 0) (fun l hl => by
    rw [yom hl hs, yom (.refl s) hs, hl.length_eq]
    exact .refl _)
  rw [r, yom (.refl s) hs, Nat.zero_add]
noncomputable def yim (d : Int) : AV × AV → Heap → Option Heap := fun q h2 => ob (y40 0 (AV.tup [q.1, q.2])) fun v63 => oh (newC 0 (some 4) [.int .i64 0, .int .i64 0, .int .i64 0] h2) fun v10 h4 => oh (evSt 3 v10 v63 h4) fun _ h5 => y1xr (.lp 0 1 0 0) (.lm 1 1) (.int .i64 d) v10 h5
theorem y1t2 (d : Int) (x : Ins) (g : Nat) (u : Fs) (c : Fa) : yim d (vFa c, .bool true) [AX 1 x, AK 1 u, B, O, ⟨g, .dead⟩] = some [AX 1 x, AK 1 (if movF x.a c then fput (c.1, d, -1) u else u), B, O, ⟨g + 1 + 1, .dead⟩] := by
  have x0 : y40 0 (AV.tup [vFa c, .bool true]) = some (vFa c) := rfl
  have n := y1ag (H := [AX 1 x, AK 1 u, B, O, ⟨g, .dead⟩]) (j := 4) (o := ⟨g, .dead⟩) rfl
  have st : evSt 3 (.lp (0 + 4) (g + 1) 0 0) (vFa c) ([AX 1 x, AK 1 u, B, O, ⟨g, .dead⟩].set (0 + 4) (AC (g + 1) zF)) = some (.tup [], [AX 1 x, AK 1 u, B, O, AC (g + 1) c]) := st_c (H := [AX 1 x, AK 1 u, B, O, AC (g + 1) zF]) (id := 4) (g := g + 1) (c := zF) (e := c) rfl
  have l0 : evLd false 1 (.lp (0 + 4) (g + 1) 0 0) [AX 1 x, AK 1 u, B, O, AC (g + 1) c] = some (.int .i64 c.1) := ld_c (H := [AX 1 x, AK 1 u, B, O, AC (g + 1) c]) (id := 4) (g := g + 1) (c := c) rfl rfl
  have l1 : evLd false 1 (.lp (0 + 4) (g + 1) 0 1) [AX 1 x, AK 1 u, B, O, AC (g + 1) c] = some (.int .i64 c.2.1) := ld_c (H := [AX 1 x, AK 1 u, B, O, AC (g + 1) c]) (id := 4) (g := g + 1) (c := c) rfl rfl
  have l2 : evLd false 1 (.lp (0 + 4) (g + 1) 0 2) [AX 1 x, AK 1 u, B, O, AC (g + 1) c] = some (.int .i64 c.2.2) := ld_c (H := [AX 1 x, AK 1 u, B, O, AC (g + 1) c]) (id := 4) (g := g + 1) (c := c) rfl rfl
  have lx : evLd false 1 (.lp 0 1 0 2) [AX 1 x, AK 1 u, B, O, AC (g + 1) c] = some (.int .i64 x.a) := rfl
  have fx : evFa 2 (.lp 0 1 0 0) = some (.lp 0 1 0 2) := rfl
  have f0 : evFa 0 (.lp (0 + 4) (g + 1) 0 0) = some (.lp (0 + 4) (g + 1) 0 0) := rfl
  have f1 : evFa 1 (.lp (0 + 4) (g + 1) 0 0) = some (.lp (0 + 4) (g + 1) 0 1) := rfl
  have f2 : evFa 2 (.lp (0 + 4) (g + 1) 0 0) = some (.lp (0 + 4) (g + 1) 0 2) := rfl
  have mp := yxg (H := [AX 1 x, AK 1 u, B, O, AC (g + 1) c]) (id := 1) (g := 1) (s := u) rfl (c.1, d, -1)
  simp only [yim, x0, y7, n, ye, st, y1xr, f1, l1, fx, lx, y17]
  by_cases e1 : c.2.1 = x.a
  · by_cases e2 : c.2.2 = -1
    · have hh : movF x.a c = true := by simp [movF, e1, e2]
      rw [if_pos hh]
      simp only [e1, e2, decide_true, ybm, f2, l2, y2c, y7, y17, y1k, f0, l0, bl_c, mp, ye]
      rfl
    · have hh : movF x.a c = false := by simp [movF, e2]
      rw [hh]
      simp only [e1, e2, decide_true, decide_false, ybm, f2, l2, y2c, y7, y17, y25]
      rfl
  · have hh : movF x.a c = false := by simp [movF, e1]
    rw [hh]
    simp only [e1, decide_false, yj5, y30, y7, y25]
    rfl
theorem y11e (d : Int) (x : Ins) {w : Fs} (hw : ∀ c ∈ w, c.2.1 ≠ d) : ∀ (l m : Fs) (g : Nat), (m ++ l).Nodup → mfold (fun (h : Heap) (q : AV × AV) => yim d q h) (mE l) [AX 1 x, AK 1 (w ++ movL m x.a d), B, O, ⟨g, .dead⟩] = some [AX 1 x, AK 1 (w ++ movL (m ++ l) x.a d), B, O, ⟨g + 2 * l.length, .dead⟩]
  | [], m, g, _ => by simp [mE, mfold]
  | c :: l, m, g, h => by
    have hc : c ∉ m := by
      rw [List.nodup_append] at h
      exact fun hm => h.2.2 c hm c (by simp) rfl
    rw [yvq, mfold, y1t2]
    simp only
    have e : (if movF x.a c = true then fput (c.1, d, -1) (w ++ movL m x.a d) else w ++ movL m x.a d) = w ++ movL (m ++ [c]) x.a d := by
      unfold movL
      rw [List.filter_append, List.map_append]
      by_cases e : movF x.a c = true
      · rw [if_pos e, fput, if_neg, List.append_assoc]
        · simp [e]
        · intro hm
          rcases List.mem_append.1 hm with hm | hm
          · exact hw _ hm rfl
          · obtain ⟨y, hy, e2⟩ := List.mem_map.1 hm
            rw [List.mem_filter] at hy
            obtain ⟨y1, y2, y3⟩ := y
            obtain ⟨c1, c2, c3⟩ := c
            simp only [movF, Bool.and_eq_true, decide_eq_true_eq] at hy e
            injection e2 with e2 _
            have e2 : y1 = c1 := e2
            apply hc
            rw [← e2, e.1, e.2, ← hy.2.1, ← hy.2.2]
            exact hy.1
      · rw [if_neg e]
        simp [e]
    rw [e, y11e d x hw l (m ++ [c]) (g + 1 + 1) (by rw [List.append_assoc]; exact h), List.append_assoc]
    simp only [List.singleton_append, List.length_cons]
    congr 7
    omega
theorem y1yb {α : Type} (d : Int) (x : Ins) {s w : Fs} (hs : s.Nodup) (hw : ∀ c ∈ w, c.2.1 ≠ d) (K : Heap → Option α) : orm (.rm (mE s)) (yim d) [AX 1 x, AK 1 w, B, O, D0] K = K [AX 1 x, AK 1 (w ++ movL s x.a d), B, O, ⟨2 * s.length, .dead⟩] := by
  have r := y2aw (step := yim d) (K := K) (s := s) (h := [AX 1 x, AK 1 w, B, O, D0]) (fun l => [AX 1 x, AK 1 (w ++ movL l x.a d), B, O, ⟨0 + 2 * l.length, .dead⟩]) (fun l hl => by
    have := y11e B O d x hw l [] 0 (by rw [List.nil_append]; exact hl.nodup_iff.2 hs)
    have e : w ++ movL [] x.a d = w := by rw [movL]; simp
    rw [e] at this
    exact this) (fun l hl i => by
    have hp : (mE (w ++ movL l x.a d)).Perm (mE (w ++ movL s x.a d)) := (List.Perm.append_left w ((hl.filter _).map _)).map _
    rw [hl.length_eq]
    match i with
    | 0 => exact ytl.refl _
    | 1 => exact ⟨rfl, .inr ⟨false, _, _, rfl, rfl, hp⟩⟩
    | i + 2 => exact ytl.refl _)
  rw [r, Nat.zero_add]
end
theorem y2f3 (x : Ins) (H : Heap) : ym (fz H y19) [.agg (enc x)] = some ⟨[.agg (enc x)], scal x && true, []⟩ := by
  rw [yr, ya7, y18]; rfl
theorem y2la (s : Fs) (x : Ins) (hs : s.Nodup) : (yb E).p 168 [.rm (mE s), .agg (enc x)] = some (exK2 (behK s x)) := by
  have n0 : newC 0 (some 0) (cellsOf (.agg (enc x))) [D0, D0, D0, D0, D0] = some (.lp 0 1 0 0, [AX 1 x, D0, D0, D0, D0]) := by simp
  have cl : y9 E (yb E) 0 (some 1) false 161 [.rm (mE s)] [AX 1 x, D0, D0, D0, D0] = some (.lm 1 1, [AX 1 x, AK 1 s, D0, D0, D0]) := y1ah (fb := 0) (j := 1) (o := D0) s rfl
  have lx : ∀ H : Heap, evLd true 9 (.lp 0 1 0 0) (AX 1 x :: H) = some (.agg (enc x)) := fun H => y2hw rfl
  have c169 : ∀ H, y9 E (yb E) 0 none true 169 [.agg (enc x)] H = some (ofV x, H) := fun H => y24 rfl (y2f3 x H) rfl (s_of x) ⟨_, rfl, rfl⟩
  have c9 : ∀ H, y9 E (yb E) 0 none true 9 [.agg (enc x)] H = some (.int .i64 (defr x), H) := fun H => y24 rfl (y2f3 x H) rfl (y2k4 x) ⟨_, rfl, rfl⟩
  have x0 : y40 0 (ofV x) = some (vFa ((ofM x).getD zF)) := rfl
  have x1 : y40 1 (ofV x) = some (.bool (ofM x).isSome) := rfl
  have n2 : newC 0 (some 2) [.int .i64 0, .int .i64 0, .int .i64 0] [AX 1 x, AK 1 s, D0, D0, D0] = some (.lp 2 1 0 0, [AX 1 x, AK 1 s, AC 1 zF, D0, D0]) := y1ag (H := [AX 1 x, AK 1 s, D0, D0, D0]) (j := 2) (o := D0) rfl
  have st : ∀ c : Fa, evSt 3 (.lp 2 1 0 0) (vFa c) [AX 1 x, AK 1 s, AC 1 zF, D0, D0] = some (.tup [], [AX 1 x, AK 1 s, AC 1 c, D0, D0]) := fun c => st_c (H := [AX 1 x, AK 1 s, AC 1 zF, D0, D0]) (id := 2) (g := 1) (c := zF) (e := c) rfl
  have l2 : ∀ c : Fa, evLd true 3 (.lp 2 1 0 0) [AX 1 x, AK 1 s, AC 1 c, D0, D0] = some (vFa c) := fun c => y23w (H := [AX 1 x, AK 1 s, AC 1 c, D0, D0]) (id := 2) (g := 1) (c := c) rfl
  have fx0 : evFa 0 (.lp 0 1 0 0) = some (.lp 0 1 0 0) := rfl
  have fx2 : evFa 2 (.lp 0 1 0 0) = some (.lp 0 1 0 2) := rfl
  have lo : ∀ H : Heap, evLd false 1 (.lp 0 1 0 0) (AX 1 x :: H) = some (.int .i64 x.op) := fun H => ld_x (H := AX 1 x :: H) (id := 0) (g := 1) rfl rfl
  have lA : ∀ H : Heap, evLd false 1 (.lp 0 1 0 2) (AX 1 x :: H) = some (.int .i64 x.a) := fun H => ld_x (H := AX 1 x :: H) (id := 0) (g := 1) rfl rfl
  have ex : ∀ (u : Fs) (a b c : AO), yf [AX 1 x, AK 1 u, a, b, c] (.lm 1 1) = some (exK2 u) := fun u a b c => y279 (H := [AX 1 x, AK 1 u, a, b, c]) (id := 1) (g := 1) rfl
  rw [y2pp, show ([⟨0, .dead⟩, ⟨0, .dead⟩, ⟨0, .dead⟩, ⟨0, .dead⟩, ⟨0, .dead⟩] : Heap) = [D0, D0, D0, D0, D0] from rfl, y1me, n0, ye, y1d4, cl, ye, y1kn, lx, y7, c169, ye, x0, y7, x1, y7, n2, ye, st, ye]
  cases hof : ofM x with
  | some c =>
    have hd := y266 hof
    have mp : y6f true [0, 0, 0] (.lm 1 1) (vFa c) (.bool true) [AX 1 x, AK 1 s, AC 1 c, D0, D0] = some (.tup [], [AX 1 x, AK 1 (fput c s), AC 1 c, D0, D0]) := yxg (H := [AX 1 x, AK 1 s, AC 1 c, D0, D0]) (id := 1) (g := 1) (s := s) rfl c
    have e : behK s x = fput c s := by rw [behK, hof]
    simp only [Option.isSome_some, Option.getD_some]
    rw [y1k, l2, y7, mp, ye, yrh, lx, y7, c9, ye, y12r, hd, yq, y7, decide_eq_true (by decide), y1k, ex, e]
  | none =>
    simp only [Option.isSome_none, Option.getD_none]
    rw [y25, yrh, lx, y7, c9, ye, y12r, yq, y7]
    by_cases hd : defr x < 0
    · have e : behK s x = s := by rw [behK, hof]; simp only; rw [if_pos hd]
      rw [decide_eq_true hd, y1k, ex, e]
    · rw [decide_eq_false hd, y25, y1kr, fx0, y7, lo, y7, y17, y7]
      have hf : ∀ c ∈ s.filter (fun c => !hitF (defr x) c), c.2.1 ≠ defr x := fun c hc e => by
        rw [List.mem_filter] at hc
        simp [hitF, e] at hc
      have loop : y17p (.rm (mE s)) (.lp 0 1 0 0) (.lm 1 1) (.int .i64 (defr x)) [AX 1 x, AK 1 s, AC 1 zF, D0, D0] =
          y1ip (.rm (mE s)) (.lp 0 1 0 0) (.lm 1 1) (.int .i64 (defr x)) (.int .i64 x.op) [AX 1 x, AK 1 (s.filter fun c => !hitF (defr x) c), AC 1 zF, ⟨2 * s.length, .dead⟩, D0] := by
        rw [y17p]
        refine (y256 (AX 1 x) (AC 1 zF) D0 (defr x) hs (fun h9 => y1xd (.rm (mE s)) (.lp 0 1 0 0) (.lm 1 1) (.int .i64 (defr x)) h9)).trans ?_
        rw [y1xd, fx0, y7, lo, y7]
      by_cases h4 : x.op = 4
      · rw [decide_eq_true h4]
        simp only [ybm, fx2, lA, y7, y17, y2c]
        by_cases ha : x.a = defr x
        · have e : behK s x = s := by rw [behK, hof]; simp only; rw [if_neg hd, if_pos ⟨h4, ha⟩]
          rw [decide_eq_true ha, y1k, ex, e]
        · have e : behK s x = s.filter (fun c => !hitF (defr x) c) ++ movL s x.a (defr x) := by rw [behK, hof]; simp only; rw [if_neg hd, if_neg (fun h => ha h.2), if_pos h4]
          rw [decide_eq_false ha, y25, loop, y1ip, y17, y7, decide_eq_true h4, y21x, y1k, y2b1]
          refine (y1yb (AC 1 zF) ⟨2 * s.length, .dead⟩ (defr x) x hs hf (fun h3 => yup (.lm 1 1) h3)).trans ?_
          rw [yup, ex, e]
      · rw [decide_eq_false h4]
        simp only [yj5, y7, y30]
        rw [y25, loop, y1ip, y17, y7, decide_eq_false h4, y21x, y25]
        have h14 : ¬ (x.op = 4 ∧ x.a = defr x) := fun h => h4 h.1
        have nl : ysy (.lm 1 1) (.int .i64 (defr x)) (.bool true) [AX 1 x, AK 1 (s.filter fun c => !hitF (defr x) c), AC 1 zF, ⟨2 * s.length, .dead⟩, D0] = some (exK2 (s.filter (fun c => !hitF (defr x) c) ++ [(8, defr x, -1)])) := by
          have mp : y6f true [0, 0, 0] (.lm 1 1) (vFa (8, defr x, -1)) (.bool true) [AX 1 x, AK 1 (s.filter fun c => !hitF (defr x) c), AC 1 zF, ⟨2 * s.length, .dead⟩, D0] = some (.tup [], [AX 1 x, AK 1 (fput (8, defr x, -1) (s.filter fun c => !hitF (defr x) c)), AC 1 zF, ⟨2 * s.length, .dead⟩, D0]) :=
            yxg (H := [AX 1 x, AK 1 (s.filter fun c => !hitF (defr x) c), AC 1 zF, ⟨2 * s.length, .dead⟩, D0]) (id := 1) (g := 1) rfl (8, defr x, -1)
          rw [ysy, y1k, bl_c, y7, mp, ye, yup, ex, fput, if_neg (fun h => hf _ h rfl)]
        have key : y219 (.lm 1 1) (.int .i64 (defr x)) (.int .i64 x.op) [AX 1 x, AK 1 (s.filter fun c => !hitF (defr x) c), AC 1 zF, ⟨2 * s.length, .dead⟩, D0] = some (exK2 (behK s x)) := by
          have e1 : (x.op = 20 ∨ x.op = 21 ∨ x.op = 3 ∨ x.op = 32) → behK s x = s.filter (fun c => !hitF (defr x) c) ++ [(8, defr x, -1)] := fun h => by rw [behK, hof]; simp only; rw [if_neg hd, if_neg h14, if_neg h4, if_pos h]
          have e2 : ¬ (x.op = 20 ∨ x.op = 21 ∨ x.op = 3 ∨ x.op = 32) → behK s x = s.filter (fun c => !hitF (defr x) c) := fun h => by rw [behK, hof]; simp only; rw [if_neg hd, if_neg h14, if_neg h4, if_neg h]
          rw [y219, y17, y7]
          by_cases h20 : x.op = 20
          · rw [decide_eq_true h20, y1k, nl, e1 (.inl h20)]
          rw [decide_eq_false h20, y25, y17, y7]
          by_cases h21 : x.op = 21
          · rw [decide_eq_true h21, y1k, nl, e1 (.inr (.inl h21))]
          rw [decide_eq_false h21, y25, y17, y7]
          by_cases h3 : x.op = 3
          · rw [decide_eq_true h3, y1k, nl, e1 (.inr (.inr (.inl h3)))]
          rw [decide_eq_false h3, y25, y17, y7]
          by_cases h32 : x.op = 32
          · rw [decide_eq_true h32, nl, e1 (.inr (.inr (.inr h32)))]
          rw [decide_eq_false h32, ysy, y25, yup, ex, e2 (by omega)]
        exact key
end Go.Vm
