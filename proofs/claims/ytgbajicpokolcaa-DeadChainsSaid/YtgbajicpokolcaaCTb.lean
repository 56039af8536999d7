/- Places that can be reached: a search with a stack, a search in rounds, a search that stops where something is found. Plain Lean; nothing here speaks of a program. Which places follow a place, in plain words. A function with other code. A pass: a function as a variable of one's own, its lists in objects of one's own. Sets of registers, 64 a word. What is told of types' descriptors. Names, the type at a text's beginning, types. What the stack's instructions over numbers take and give. What an instruction wants of its registers, in plain words. When an instruction, a function is well formed, in plain words. What a well formed function is like. Whether each register is written ahead of all that reads it, in plain words: by ways, and by what is set at each place. In a well formed function the registers that are read and written are registers, and the places that follow are places. Which registers are live, in plain words: by ways, and by what the sweeps over the table leave. What is live ahead of, behind and across a place, as tests. Functions with other instructions at some places: well formed as before. Ways to a read, from their beginning on. The instruction that does nothing. What the pass 'dead' leaves, in plain words. -/
import Derived.Test.YtgbajicpokolcaaCX
import Derived.Test.YtgbajicpokolcaaCTa
set_option linter.unusedSimpArgs false
set_option linter.unusedVariables false
set_option linter.unusedSectionVars false
namespace Go.Vm
section
variable (n : Nat) (S : Nat → List Int) (A : List Int)
inductive Rch : Nat → Prop
  | base {j : Int} : j ∈ A → 0 ≤ j → j < n → Rch j.toNat
  | step {i : Nat} {j : Int} : Rch i → j ∈ S i → 0 ≤ j → j < n → Rch j.toNat
def dfs : Nat → List Bool → List Int → Option (List Bool)
  | 0, _, _ => none
  | k + 1, seen, op => match op.getLast? with
    | none => some seen
    | some i => if i < 0 ∨ (n : Int) ≤ i ∨ seen.getD i.toNat true = true then dfs k seen op.dropLast else dfs k (seen.set i.toNat true) (op.dropLast ++ S i.toNat)
def unseen (seen : List Bool) : Nat := seen.countP (! ·)
end
section
variable {n : Nat} {S : Nat → List Int} {A : List Int}
theorem Rch.lt {i : Nat} (h : Rch n S A i) : i < n := by cases h <;> omega
theorem yiz {seen : List Bool} {i : Nat} (h : i < seen.length) (hs : seen[i] = false) : unseen (seen.set i true) + 1 = unseen seen := by
  unfold unseen
  induction seen generalizing i with
  | nil => simp at h
  | cons b l ih =>
    cases i with
    | zero => simp at hs; simp [hs]
    | succ i =>
      simp only [List.set_cons_succ, List.countP_cons]
      have := ih (i := i) (by simpa using h) (by simpa using hs)
      omega
theorem y4n {op : List Int} {i : Int} (h : op.getLast? = some i) : op = op.dropLast ++ [i] := by
  have hne : op ≠ [] := by intro e; rw [e] at h; cases h
  have := List.dropLast_concat_getLast hne
  rw [List.getLast?_eq_some_getLast hne] at h
  injection h with h
  rw [h] at this
  exact this.symm
theorem yd1 {op : List Int} {j : Int} (h : j ∈ op.dropLast) : j ∈ op := (List.dropLast_sublist op).mem h
theorem y20b {seen : List Bool} {i : Nat} (h : i < seen.length) (hs : ¬ seen.getD i true = true) : seen[i] = false := by
  rw [List.getD_eq_getElem?_getD, List.getElem?_eq_getElem h] at hs
  simpa using hs
theorem yjm {B : Nat} (hB : ∀ i, i < n → (S i).length ≤ B) : ∀ (k : Nat) (seen : List Bool) (op : List Int), seen.length = n → unseen seen * (B + 1) + op.length < k → ∃ r, dfs n S k seen op = some r
  | 0, _, _, _, h => by omega
  | k + 1, seen, op, hl, h => by
    rw [dfs]
    cases hop : op.getLast? with
    | none => exact ⟨seen, rfl⟩
    | some i =>
      have e := y4n hop
      have el : op.length = op.dropLast.length + 1 := by rw [e]; simp
      simp only
      split
      · exact yjm hB k seen op.dropLast hl (by omega)
      · rename_i hc
        have h0 : 0 ≤ i := by omega
        have h1 : i.toNat < n := by omega
        have hs := y20b (i := i.toNat) (by omega) (fun h => hc (.inr (.inr h)))
        have hu := yiz (by omega) hs
        have hb := hB i.toNat h1
        refine yjm hB k _ _ (by simpa using hl) ?_
        rw [List.length_append]
        rw [← hu, Nat.add_mul] at h
        omega
structure DfsI (n : Nat) (S : Nat → List Int) (A : List Int) (seen : List Bool) (op : List Int) : Prop where
  len : seen.length = n
  ok : ∀ i : Nat, seen[i]? = some true → Rch n S A i
  opn : ∀ j : Int, j ∈ op → 0 ≤ j → j < n → Rch n S A j.toNat
  cl : ∀ (i : Nat) (j : Int), seen[i]? = some true → j ∈ S i → 0 ≤ j → j < n → seen[j.toNat]? = some true ∨ j ∈ op
  st : ∀ j : Int, j ∈ A → 0 ≤ j → j < n → seen[j.toNat]? = some true ∨ j ∈ op
theorem DfsI.start : DfsI n S A (List.replicate n false) A where
  len := by simp
  ok i h := by rw [List.getElem?_replicate] at h; split at h <;> cases h
  opn j h h0 h1 := .base h h0 h1
  cl i j h := by rw [List.getElem?_replicate] at h; split at h <;> cases h
  st j h _ _ := .inr h
theorem DfsI.skip {seen : List Bool} {op : List Int} (I : DfsI n S A seen op) {i : Int} (hop : op.getLast? = some i) (hc : i < 0 ∨ (n : Int) ≤ i ∨ seen.getD i.toNat true = true) : DfsI n S A seen op.dropLast := by
  have e := y4n hop
  have key : ∀ j : Int, 0 ≤ j → j < n → (seen[j.toNat]? = some true ∨ j ∈ op) → seen[j.toNat]? = some true ∨ j ∈ op.dropLast := by
    intro j h0 h1 h
    rcases h with h | h
    · exact .inl h
    · rw [e, List.mem_append, List.mem_singleton] at h
      rcases h with h | rfl
      · exact .inr h
      · rcases hc with hc | hc | hc
        · omega
        · omega
        · left
          have : j.toNat < seen.length := by rw [I.len]; omega
          rw [List.getD_eq_getElem?_getD, List.getElem?_eq_getElem this] at hc
          rw [List.getElem?_eq_getElem this]
          simpa using hc
  exact ⟨I.len, I.ok, fun j hj => I.opn j (yd1 hj), fun i j h1 h2 h3 h4 => key j h3 h4 (I.cl i j h1 h2 h3 h4), fun j h1 h3 h4 => key j h3 h4 (I.st j h1 h3 h4)⟩
theorem DfsI.take {seen : List Bool} {op : List Int} (I : DfsI n S A seen op) {i : Int} (hop : op.getLast? = some i) (h0 : 0 ≤ i) (h1 : i < n) : DfsI n S A (seen.set i.toNat true) (op.dropLast ++ S i.toNat) := by
  have e := y4n hop
  have hi : Rch n S A i.toNat := I.opn i (by rw [e]; simp) h0 h1
  have hlt : i.toNat < seen.length := by rw [I.len]; omega
  have hset : ∀ j : Nat, (seen.set i.toNat true)[j]? = some true ↔ seen[j]? = some true ∨ j = i.toNat := by
    intro j
    rw [List.getElem?_set]
    by_cases hj : i.toNat = j
    · subst hj; simp [hlt]
    · rw [if_neg hj]
      exact ⟨.inl, fun h => h.resolve_right (fun e => hj e.symm)⟩
  have key : ∀ j : Int, 0 ≤ j → j < n → (seen[j.toNat]? = some true ∨ j ∈ op) → (seen.set i.toNat true)[j.toNat]? = some true ∨ j ∈ op.dropLast ++ S i.toNat := by
    intro j h2 h3 h
    rw [hset]
    rcases h with h | h
    · exact .inl (.inl h)
    · rw [e, List.mem_append, List.mem_singleton] at h
      rcases h with h | rfl
      · exact .inr (List.mem_append_left _ h)
      · exact .inl (.inr rfl)
  refine ⟨by simpa using I.len, fun j hj => ?_, fun j hj h2 h3 => ?_, fun k j hk hj h2 h3 => ?_, fun j hj h2 h3 => key j h2 h3 (I.st j hj h2 h3)⟩
  · rcases (hset j).1 hj with h | rfl
    · exact I.ok j h
    · exact hi
  · rcases List.mem_append.1 hj with h | h
    · exact I.opn j (yd1 h) h2 h3
    · exact .step hi h h2 h3
  · rcases (hset k).1 hk with h | rfl
    · exact key j h2 h3 (I.cl k j h hj h2 h3)
    · exact .inr (List.mem_append_right _ hj)
theorem DfsI.done {seen : List Bool} (I : DfsI n S A seen []) (i : Nat) : seen[i]? = some true ↔ Rch n S A i := by
  refine ⟨I.ok i, fun h => ?_⟩
  induction h with
  | base h h0 h1 => exact (I.st _ h h0 h1).resolve_right (by simp)
  | step _ hj h0 h1 ih => exact (I.cl _ _ ih hj h0 h1).resolve_right (by simp)
theorem yk7 : ∀ (k : Nat) (seen : List Bool) (op : List Int) (r : List Bool), DfsI n S A seen op → dfs n S k seen op = some r → r.length = n ∧ ∀ i : Nat, r[i]? = some true ↔ Rch n S A i
  | 0, _, _, _, _, h => by cases h
  | k + 1, seen, op, r, I, h => by
    rw [dfs] at h
    cases hop : op.getLast? with
    | none =>
      rw [hop] at h
      injection h with h
      subst h
      rw [List.getLast?_eq_none_iff] at hop
      subst hop
      exact ⟨I.len, I.done⟩
    | some i =>
      rw [hop] at h
      simp only at h
      split at h
      · rename_i hc
        exact yk7 k _ _ r (I.skip hop hc) h
      · rename_i hc
        exact yk7 k _ _ r (I.take hop (by omega) (by omega)) h
structure RI (n : Nat) (S : Nat → List Int) (A : List Int) (seen : List Bool) (s : List Bool × Bool) : Prop where
  len : s.1.length = n
  ok : ∀ i : Nat, s.1[i]? = some true → Rch n S A i
  up : ∀ i : Nat, seen[i]? = some true → s.1[i]? = some true
  un : unseen s.1 ≤ unseen seen
  lt : s.2 = true → unseen s.1 < unseen seen
  eq : s.2 = false → s.1 = seen
theorem y1fq {a b : List Bool} (hl : a.length = b.length) (h : ∀ i : Nat, a[i]? = some true ↔ b[i]? = some true) : a = b := by
  refine List.ext_getElem hl fun i h1 h2 => ?_
  have := h i
  rw [List.getElem?_eq_getElem h1, List.getElem?_eq_getElem h2] at this
  simp only [Option.some.injEq] at this
  cases ha : a[i] <;> cases hb : b[i] <;> simp_all
end
theorem yn3 {α : Type} {n k : Nat} {p q : Nat → α} {v : α} (hq : q k = v) (he : ∀ j, j ≠ k → q j = p j) : ((List.range n).map p).set k v = (List.range n).map q := by
  refine List.ext_getElem (by simp) fun i h1 h2 => ?_
  rw [List.getElem_set]
  simp only [List.getElem_map, List.getElem_range]
  by_cases e : k = i
  · rw [if_pos e, ← e, hq]
  · rw [if_neg e, he i (fun h => e h.symm)]
end Go.Vm
namespace Go.Vm
def addN (l : List Int) (j : Int) : List Int := if l.contains j then l else l ++ [j]
def yd (f : Fn) (i : Nat) : Ins := (lst f.code).getD i default
def yps (x : Ins) (i : Int) : List Int := if leads x.op then addN (if ends x.op then [] else [i + 1]) x.t else if ends x.op then [] else [i + 1]
def y1l (f : Fn) (i : Int) : List Int := if i < 0 ∨ ((lst f.code).length : Int) ≤ i then [] else yps (yd f i.toNat) i
def y2t (i : Int) : List Row → List Int → List Int
  | [], l => l
  | r :: rs, l => if r.f ≤ i ∧ i < r.t then (if r.c = [] then addN l r.at_ else y2t i rs (addN l r.at_)) else y2t i rs l
def yq (f : Fn) (i : Int) : List Int := if i < 0 ∨ ((lst f.code).length : Int) ≤ i then [] else if throws (yd f i.toNat).op then y2t i (lst f.rows) [] else []
def ycf (f : Fn) (i : Nat) : List Int := y1l f i ++ yq f i
theorem yxu (l : List Int) (j : Int) : (addN l j).length ≤ l.length + 1 := by
  unfold addN
  split <;> simp
theorem y19g (x : Ins) (i : Int) : (yps x i).length ≤ 2 := by
  unfold yps
  split
  · have := yxu (if ends x.op then [] else [i + 1]) x.t
    split at this <;> simp_all <;> omega
  · split <;> simp
theorem yek (f : Fn) (i : Int) : (y1l f i).length ≤ 2 := by
  unfold y1l
  split
  · simp
  · exact y19g _ _
theorem y9q (i : Int) : ∀ (rs : List Row) (l : List Int), (y2t i rs l).length ≤ l.length + rs.length
  | [], l => by simp [y2t]
  | r :: rs, l => by
    have h1 := yxu l r.at_
    have h2 := y9q i rs (addN l r.at_)
    have h3 := y9q i rs l
    unfold y2t
    simp only [List.length_cons]
    split
    · split <;> omega
    · omega
theorem yo4 (f : Fn) (i : Int) : (yq f i).length ≤ (lst f.rows).length := by
  unfold yq
  split
  · simp
  · split
    · have := y9q i (lst f.rows) []
      simpa using this
    · simp
theorem ym5 (f : Fn) (i : Nat) : (ycf f i).length ≤ (lst f.rows).length + 2 := by
  have h1 := yek f i
  have h2 := yo4 f i
  unfold ycf
  rw [List.length_append]
  omega
theorem y4m {f : Fn} {i : Nat} (h : i < (lst f.code).length) : (lst f.code)[i]? = some (yd f i) := by
  rw [yd, List.getD_eq_getElem?_getD, List.getElem?_eq_getElem h]; rfl
open Classical in
noncomputable def y9n (f : Fn) : List Bool := (List.range (lst f.code).length).map fun i => decide (Rch (lst f.code).length (ycf f) [0] i)
theorem yca (f : Fn) : (y9n f).length = (lst f.code).length := by simp [y9n]
theorem yig (f : Fn) (i : Nat) : (y9n f)[i]? = some true ↔ Rch (lst f.code).length (ycf f) [0] i := by
  unfold y9n
  by_cases h : i < (lst f.code).length
  · simp [h]
  · have : ¬ Rch (lst f.code).length (ycf f) [0] i := fun hr => h hr.lt
    simp [h, this]
theorem y19n {f : Fn} {r : List Bool} (hl : r.length = (lst f.code).length) (h : ∀ i : Nat, r[i]? = some true ↔ Rch (lst f.code).length (ycf f) [0] i) : r = y9n f :=
  y1fq (by rw [hl, yca]) fun i => (h i).trans (yig f i).symm
end Go.Vm
namespace Go.Vm
def yad (f : Fn) (L : List Ins) : Fn := { f with code := some L }
@[simp] theorem y27l (f : Fn) (L : List Ins) : lst (yad f L).code = L := rfl
theorem yce {f : Fn} {L : List Ins} (h : f.code = some L) : yad f L = f := by
  rw [yad, ← h]
end Go.Vm
namespace Go.Vm
open Cel
theorem y1s8 {f : Fn} {L L' : List Ins} (p g : Nat → Nat) (h : L.length = L'.length) : fnC (yad f L) p g = fnC (yad f L') p g := by
  simp [fnC, yad, ownV, h]
structure DSt (H : Heap) (f : Fn) (p g : Nat → Nat) (n : Nat) : Prop where
  at_ : FnAt H f p g
  box : H[0]? = some ⟨1, .arr true false 5 [fnC f p g]⟩
  res : ∃ c, H[1]? = some ⟨1, .arr true false 5 [c]⟩ ∧ c.length = 5
  len : n ≤ H.length
  lo : ∀ i, i < 4 → hasL f i = true → 2 ≤ p i ∧ p i < 6
theorem ykx (f : Fn) (p g : Nat → Nat) : (fnC f p g).length = 5 := rfl
theorem ytq (f : Fn) (p g : Nat → Nat) : (fnC f p g).all y11 = true := by simp [fnC]
theorem y15r {H : Heap} {a : Nat} {c : List AV} (h : H[a]? = some ⟨1, .arr true false 5 [c]⟩) (hl : c.length = 5) : evLd true 5 (.lp a 1 0 0) H = some (.agg c) := by
  have hr : ym H a 1 = some (false, 5, [c]) := by simp [ym, y2z, h]
  rw [y2n, hr]
  simp only [List.getElem?_cons_zero, List.drop_zero, y41, if_true, hl, Nat.le_refl]
  rw [List.take_of_length_le (by omega)]
theorem y1qe {H : Heap} {a k : Nat} {c : List AV} {v : AV} (h : H[a]? = some ⟨1, .arr true false 5 [c]⟩) (hv : c[k]? = some v) : evLd false 1 (.lp a 1 0 k) H = some v := by
  have hr : ym H a 1 = some (false, 5, [c]) := by simp [ym, y2z, h]
  rw [y2n, hr]
  simp only [List.getElem?_cons_zero, y8q, List.head?_drop, hv]
theorem y200 {H : Heap} {a : Nat} {c d : List AV} {v : AV} (h : H[a]? = some ⟨1, .arr true false 5 [c]⟩) (hl : c.length = 5) (hv : cellsOf v = d) (hd : d.length = 5) (hf : d.all y11 = true) :
    evSt 5 (.lp a 1 0 0) v H = some (.tup [], H.set a ⟨1, .arr true false 5 [d]⟩) := by
  have hr : ym H a 1 = some (false, 5, [c]) := by simp [ym, y2z, h]
  rw [y2o, hr]
  simp only [List.getElem?_cons_zero, hv]
  rw [if_pos ⟨hd, by omega, hf⟩, ygz (by rw [hd, hl]), y1r, h]
  rfl
theorem y1l7 {H : Heap} {a : Nat} {c d : List AV} (h : H[a]? = some ⟨1, .arr true false 5 [c]⟩) (hl : c.length = 5) (hd : d.length = 5) (hf : d.all y11 = true) :
    evSt 5 (.lp a 1 0 0) (.agg d) H = some (.tup [], H.set a ⟨1, .arr true false 5 [d]⟩) := y200 h hl rfl hd hf
theorem y25u {H : Heap} {id g i : Nat} {L : List Ins} {x : Ins} (h : H[id]? = some ⟨g, .arr false false 9 (L.map enc)⟩) (hx : L[i]? = some x) : evLd true 9 (.lp id g i 0) H = some (.agg (enc x)) := by
  have hr : ym H id g = some (false, 9, L.map enc) := by simp [ym, y2z, h]
  have hg : (L.map (enc (α := Ins)))[i]? = some (enc x) := by simp [hx]
  rw [y2n, hr]
  simp only [hg, List.drop_zero, ykh]
theorem y244 {n i : Nat} (h : i < n) (id g e : Nat) (k : IntKind) : yv e (.ls id g e 0 n) (.int k i) = some (.lp id g i 0) := by
  have : (i : Int) < (n : Int) := by omega
  simp [yv, this]
section
variable {H : Heap} {f : Fn} {p g : Nat → Nat} {n : Nat} (D : DSt H f p g n)
include D
theorem DSt.ld : evLd true 5 (.lp 0 1 0 0) H = some (fnV f p g) := y15r D.box (ykx f p g)
theorem DSt.ldc : evLd false 1 (.lp 0 1 0 3) H = some (ownV (p 2) (g 2) f.code) := y1qe D.box rfl
theorem DSt.set {a : Nat} {x : AO} (ha : 6 ≤ a) : DSt (H.set a x) f p g n := by
  refine ⟨D.at_.set fun i hi hh => ?_, by rw [y16 (by omega)]; exact D.box, ?_, by rw [List.length_set]; exact D.len, D.lo⟩
  · have := D.lo i hi hh; omega
  · obtain ⟨c, h1, h2⟩ := D.res
    exact ⟨c, by rw [y16 (by omega)]; exact h1, h2⟩
theorem DSt.setCode {L L' : List Ins} (hL : f.code = some L) (hl : L.length = L'.length) : DSt (H.set (p 2) ⟨g 2, .arr false false 9 (L'.map enc)⟩) (yad f L') p g n := by
  have hc : hasL f 2 = true := by simp [hasL, hL]
  have h2 := D.lo 2 (by omega) hc
  refine ⟨D.at_.setCode hL, ?_, ?_, by rw [List.length_set]; exact D.len, fun i hi hh => D.lo i hi ?_⟩
  · rw [y16 (by omega), D.box]
    have := y1s8 (f := f) p g hl
    rw [yce hL] at this
    rw [this]
  · obtain ⟨c, h1, h2⟩ := D.res
    exact ⟨c, by rw [y16 (by omega)]; exact h1, h2⟩
  · match i, hh with
    | 0, hh => exact hh
    | 1, hh => exact hh
    | 2, _ => exact hc
    | i + 3, hh => exact hh
theorem DSt.out : ∃ H', evSt 5 (.lp 1 1 0 0) (fnV f p g) H = some (.tup [], H') ∧ evLd true 5 (.lp 1 1 0 0) H' = some (fnV f p g) ∧ yf H' (fnV f p g) = some (y1v f) := by
  obtain ⟨c, h1, h2⟩ := D.res
  refine ⟨_, y1l7 h1 h2 (ykx f p g) (ytq f p g), y15r (y4e (y82 h1)) (ykx f p g), FnAt.expo (D.at_.set fun i hi hh => ?_)⟩
  have := D.lo i hi hh; omega
theorem DSt.ix {L : List Ins} (hL : f.code = some L) {i : Nat} {x : Ins} (hx : L[i]? = some x) : evLd true 9 (.lp (p 2) (g 2) i 0) H = some (.agg (enc x)) := y25u (D.at_.code L hL) hx
theorem DSt.st {L : List Ins} (hL : f.code = some L) {i : Nat} (hi : i < L.length) (y : Ins) : evSt 9 (.lp (p 2) (g 2) i 0) (.agg (enc y)) H = some (.tup [], H.set (p 2) ⟨g 2, .arr false false 9 ((L.set i y).map enc)⟩) :=
  y8c (α := Ins) (D.at_.code L hL) hi rfl
theorem DSt.call {E : Env} {C : Calls2} {fb k : Nat} {sl : Option Nat} {r : Ex AV} {v : AV} (hE : E.pure k = true) (hf : r.fresh = true) (hc : C.p k [.agg (enc f)] = some r) (hr : ync r v) : y6 E C fb sl true k [fnV f p g] H = some (v, H) := by
  obtain ⟨fr, ids, hz⟩ := D.at_.fz
  refine y1jp (fa := ⟨[.agg (enc f)], fr && true, ids ++ []⟩) hE ?_ hf hc hr
  rw [yh, hz, yx]
end
theorem y11q {f : Fn} (hs : FnSm f) {H : Heap} (h0 : H[0]? = some (AB f)) (h1 : ∃ c, H[1]? = some ⟨1, .arr true false 5 [c]⟩ ∧ c.length = 5) {n : Nat} (hn : 6 ≤ n) (hl : n ≤ H.length) :
    ∃ H1 H2 p g, y6 E (y8 E) 0 (some 2) false 13 [.agg (enc f)] H = some (fnV f p g, H1) ∧ evSt 5 (.lp 0 1 0 0) (fnV f p g) H1 = some (.tup [], H2) ∧ DSt H2 f p g n ∧ H2.length = H.length ∧ ∀ k, 6 ≤ k → H2[k]? = H[k]? := by
  obtain ⟨H1, p, g, e1, A, e2, e3, e4⟩ := y17t hs (H := H) (fb := 0) (j := 2) (by omega)
  have hb : H1[0]? = some ⟨1, .arr true false 5 [enc f]⟩ := by rw [e4 0 (.inl (by omega)), h0]
  refine ⟨H1, _, p, g, e1, y1l7 hb rfl (ykx f p g) (ytq f p g), ⟨A.set fun i hi hh => ?_, y4e (y82 hb), ?_, by rw [List.length_set, e2]; exact hl, fun i hi hh => by have := e3 i hi hh; omega⟩, by rw [List.length_set, e2], fun k hk => ?_⟩
  · have := e3 i hi hh; omega
  · obtain ⟨c, c1, c2⟩ := h1
    exact ⟨c, by rw [y16 (by omega), e4 1 (.inl (by omega))]; exact c1, c2⟩
  · rw [y16 (by omega), e4 k (.inr (by omega))]
end Go.Vm
namespace Go.Vm
abbrev Ws := List (BitVec 64)
def bit (s : Ws) (r : Nat) : Bool := (s.getD (r / 64) 0).getLsbD (r % 64)
def addW (s : Ws) (r : Nat) : Ws := s.set (r / 64) (s.getD (r / 64) 0 ||| BitVec.twoPow 64 (r % 64))
def y115 (s : Ws) (r : Nat) : Ws := s.set (r / 64) (s.getD (r / 64) 0 &&& ~~~ BitVec.twoPow 64 (r % 64))
def y37 (s t : Ws) : Ws := List.zipWith (· ||| ·) s t
def yco (s t : Ws) : Bool := (List.zipWith (fun a b => decide (b &&& ~~~ a ≠ 0)) s t).any id
def y21 (n : Nat) : Ws := List.replicate n 0
theorem yjr (s : Ws) (r : Nat) : (addW s r).length = s.length := by simp [addW]
theorem y1hd (s : Ws) (r : Nat) : (y115 s r).length = s.length := by simp [y115]
theorem y3k {s t : Ws} (h : s.length = t.length) : (y37 s t).length = s.length := by simp [y37, h]
theorem y1s0 (n r : Nat) : bit (y21 n) r = false := by
  simp only [bit, y21, List.getD_eq_getElem?_getD, List.getElem?_replicate]
  split <;> simp
theorem y1x8 {s : Ws} {r : Nat} (h : s.length ≤ r / 64) : bit s r = false := by
  simp [bit, List.getD_eq_getElem?_getD, List.getElem?_eq_none h]
theorem yqi {r q : Nat} (h1 : r / 64 = q / 64) (h2 : r % 64 = q % 64) : r = q := by omega
theorem y1yp {s : Ws} {r : Nat} (h : r / 64 < s.length) (q : Nat) : bit (addW s r) q = (bit s q || decide (q = r)) := by
  have hq : q % 64 < 64 := Nat.mod_lt _ (by omega)
  unfold bit addW
  rw [List.getD_eq_getElem?_getD, List.getElem?_set]
  by_cases e : r / 64 = q / 64
  · rw [if_pos e, if_pos h, ← e]
    simp only [Option.getD_some, BitVec.getLsbD_or, BitVec.getLsbD_twoPow]
    by_cases e2 : q = r
    · subst e2; simp [hq]
    · have : ¬ r % 64 = q % 64 := fun h' => e2 (yqi e h').symm
      simp [e2, this]
  · rw [if_neg e]
    have : ¬ q = r := fun h' => e (by rw [h'])
    simp [this, List.getD_eq_getElem?_getD]
theorem y1q8 {s : Ws} {r : Nat} (h : r / 64 < s.length) (q : Nat) : bit (y115 s r) q = (bit s q && decide (q ≠ r)) := by
  have hq : q % 64 < 64 := Nat.mod_lt _ (by omega)
  unfold bit y115
  rw [List.getD_eq_getElem?_getD, List.getElem?_set]
  by_cases e : r / 64 = q / 64
  · rw [if_pos e, if_pos h, ← e]
    simp only [Option.getD_some, BitVec.getLsbD_and, BitVec.getLsbD_not, BitVec.getLsbD_twoPow]
    by_cases e2 : q = r
    · subst e2; simp [hq]
    · have : ¬ r % 64 = q % 64 := fun h' => e2 (yqi e h').symm
      simp [e2, this, hq]
  · rw [if_neg e]
    have : ¬ q = r := fun h' => e (by rw [h'])
    simp [this, List.getD_eq_getElem?_getD]
theorem y8z {s t : Ws} (h : s.length = t.length) (q : Nat) : bit (y37 s t) q = (bit s q || bit t q) := by
  unfold bit y37
  simp only [List.getD_eq_getElem?_getD, List.getElem?_zipWith]
  by_cases hq : q / 64 < s.length
  · rw [List.getElem?_eq_getElem hq, List.getElem?_eq_getElem (by omega)]
    simp
  · rw [List.getElem?_eq_none (by omega), List.getElem?_eq_none (by omega)]
    simp
theorem y1b5 {s t : Ws} (h : s.length = t.length) : yco s t = true ↔ ∃ q, bit t q = true ∧ bit s q = false := by
  unfold yco
  rw [List.any_eq_true]
  constructor
  · rintro ⟨b, hb, h1⟩
    obtain ⟨k, hk⟩ := List.getElem?_of_mem hb
    rw [List.getElem?_zipWith] at hk
    cases hs : s[k]? with
    | none => rw [hs] at hk; simp at hk
    | some a =>
      cases ht : t[k]? with
      | none => rw [hs, ht] at hk; simp at hk
      | some c =>
        rw [hs, ht] at hk
        simp only [Option.some.injEq] at hk
        rw [← hk] at h1
        simp only [id, decide_eq_true_eq] at h1
        have : ∃ j, j < 64 ∧ (c &&& ~~~ a).getLsbD j = true := by
          refine Classical.byContradiction fun hn => h1 ?_
          refine BitVec.eq_of_getLsbD_eq fun j hj => ?_
          rw [show (0 : BitVec 64).getLsbD j = false by simp]
          rw [← Bool.not_eq_true]
          exact fun hb => hn ⟨j, hj, hb⟩
        obtain ⟨j, hj, hb⟩ := this
        rw [BitVec.getLsbD_and, BitVec.getLsbD_not, Bool.and_eq_true] at hb
        have e1 : (64 * k + j) / 64 = k := by omega
        have e2 : (64 * k + j) % 64 = j := by omega
        refine ⟨64 * k + j, ?_, ?_⟩
        · simp only [bit, e1, e2, List.getD_eq_getElem?_getD, ht, Option.getD_some]; exact hb.1
        · simp only [bit, e1, e2, List.getD_eq_getElem?_getD, hs, Option.getD_some]
          have := hb.2
          simpa [hj] using this
  · rintro ⟨q, h1, h2⟩
    have hq : q / 64 < t.length := by
      refine Classical.byContradiction fun hn => ?_
      rw [y1x8 (by omega)] at h1; cases h1
    have hqs : q / 64 < s.length := by omega
    refine ⟨true, List.mem_of_getElem? (i := q / 64) ?_, rfl⟩
    rw [List.getElem?_zipWith, List.getElem?_eq_getElem hq, List.getElem?_eq_getElem hqs]
    simp only [bit, List.getD_eq_getElem?_getD, List.getElem?_eq_getElem hq, List.getElem?_eq_getElem hqs, Option.getD_some] at h1 h2
    have : t[q / 64] &&& ~~~ s[q / 64] ≠ 0 := by
      intro e
      have := congrArg (fun w : BitVec 64 => w.getLsbD (q % 64)) e
      simp only [BitVec.getLsbD_and, BitVec.getLsbD_not, h1, h2] at this
      have hm : q % 64 < 64 := Nat.mod_lt _ (by omega)
      simp [hm] at this
    simp only [decide_eq_true this]
theorem yln {s t : Ws} (h : s.length = t.length) (hm : yco s t = false) : y37 s t = s := by
  refine List.ext_getElem (y3k h) fun k h1 h2 => ?_
  have hk : k < t.length := by omega
  simp only [y37, List.getElem_zipWith]
  have hz : t[k] &&& ~~~ s[k] = 0 := by
    refine Classical.byContradiction fun hn => ?_
    have : yco s t = true := by
      unfold yco
      rw [List.any_eq_true]
      refine ⟨true, List.mem_of_getElem? (i := k) ?_, rfl⟩
      rw [List.getElem?_zipWith, List.getElem?_eq_getElem hk, List.getElem?_eq_getElem h2]
      simp only [decide_eq_true (show t[k] &&& ~~~ s[k] ≠ 0 from hn)]
    rw [hm] at this; cases this
  refine BitVec.eq_of_getLsbD_eq fun j hj => ?_
  have := congrArg (fun w : BitVec 64 => w.getLsbD j) hz
  simp only [BitVec.getLsbD_and, BitVec.getLsbD_not, BitVec.getLsbD_or] at this ⊢
  cases ha : s[k].getLsbD j <;> cases hb : t[k].getLsbD j <;> simp_all
end Go.Vm
namespace Go.Vm
open Cel
attribute [local simp] y6 y1n yj
def okB (b : UInt8) : Bool := (decide (97 ≤ b.toNat) && decide (b.toNat ≤ 122)) || (decide (65 ≤ b.toNat) && decide (b.toNat ≤ 90)) || (decide (48 ≤ b.toNat) && decide (b.toNat ≤ 57)) || decide (b.toNat = 95) || decide (b.toNat = 36) || decide (b.toNat = 47)
def yb3 (s : List UInt8) : Bool := decide (1 ≤ s.length) && decide (s.length ≤ 60) && s.all okB
theorem y1k6 (s : List UInt8) (i : Nat) (hi : i < s.length) (v18 : AV) :
    q7_4 (.bool false) (.ls 0 1 1 0 s.length) v18 (.int .i64 i) [⟨1, .arr false false 1 (s.map fun b => [.int .u8 b.toNat])⟩] =
      if okB s[i] then q7_3 (.bool false) (.ls 0 1 1 0 s.length) v18 (.int .i64 i) [⟨1, .arr false false 1 (s.map fun b => [.int .u8 b.toNat])⟩] else some ⟨.bool false, [], true, [], []⟩ := by
  have hc : ((i : Int) < (s.length : Int)) := by omega
  generalize hb : s[i].toNat = n
  have e : (s.map fun b => ([.int .u8 b.toNat] : List AV))[i]? = some [.int .u8 (n : Int)] := by
    rw [List.getElem?_map, List.getElem?_eq_getElem hi, ← hb]; rfl
  have ho : okB s[i] = ((decide (97 ≤ n) && decide (n ≤ 122)) || (decide (65 ≤ n) && decide (n ≤ 90)) || (decide (48 ≤ n) && decide (n ≤ 57)) || decide (n = 95) || decide (n = 36) || decide (n = 47)) := by
    rw [okB, hb]
  rw [ho]
  have c1 : ∀ k : Nat, ((k : Int) ≤ (n : Int)) = (k ≤ n) := fun k => by simp
  have f1 : ((97 : Int) ≤ (n : Int)) = (97 ≤ n) := c1 97
  have f2 : ((65 : Int) ≤ (n : Int)) = (65 ≤ n) := c1 65
  have f3 : ((48 : Int) ≤ (n : Int)) = (48 ≤ n) := c1 48
  have g1 : ((n : Int) ≤ (122 : Int)) = (n ≤ 122) := by simp; omega
  have g2 : ((n : Int) ≤ (90 : Int)) = (n ≤ 90) := by simp; omega
  have g3 : ((n : Int) ≤ (57 : Int)) = (n ≤ 57) := by simp; omega
  have d1 : ((n : Int) = (95 : Int)) = (n = 95) := by simp; omega
  have d2 : ((n : Int) = (36 : Int)) = (n = 36) := by simp; omega
  have d3 : ((n : Int) = (47 : Int)) = (n = 47) := by simp; omega
  have step : ∀ (b1 b2 b3 b4 b5 b6 b7 b8 b9 : Bool), decide (97 ≤ n) = b1 → decide (n ≤ 122) = b2 → decide (65 ≤ n) = b3 → decide (n ≤ 90) = b4 → decide (48 ≤ n) = b5 → decide (n ≤ 57) = b6 → decide (n = 95) = b7 → decide (n = 36) = b8 → decide (n = 47) = b9 →
      q7_4 (.bool false) (.ls 0 1 1 0 s.length) v18 (.int .i64 i) [⟨1, .arr false false 1 (s.map fun b => [.int .u8 b.toNat])⟩] =
      if (b1 && b2) || (b3 && b4) || (b5 && b6) || b7 || b8 || b9 then q7_3 (.bool false) (.ls 0 1 1 0 s.length) v18 (.int .i64 i) [⟨1, .arr false false 1 (s.map fun b => [.int .u8 b.toNat])⟩] else some ⟨.bool false, [], true, [], []⟩ := by
    intro b1 b2 b3 b4 b5 b6 b7 b8 b9 h1 h2 h3 h4 h5 h6 h7 h8 h9
    rw [q7_4]
    have e0 : yv 1 (.ls 0 1 1 0 s.length) (.int .i64 i) = some (.lp 0 1 i 0) := by simp [yv, hc, hi]
    have tri : ∀ a b : Bool, (a = false) ∨ (a = true ∧ b = false) ∨ (a = true ∧ b = true) := by intro a b; cases a <;> cases b <;> simp
    have l1 : y5 .geq (.int .u8 (n : Int)) (.int .u8 97) = some (.bool b1) := by rw [y2m]; simp only [f1, h1]
    have l2 : y5 .leq (.int .u8 (n : Int)) (.int .u8 122) = some (.bool b2) := by rw [yel]; simp only [g1, h2]
    have l3 : y5 .geq (.int .u8 (n : Int)) (.int .u8 65) = some (.bool b3) := by rw [y2m]; simp only [f2, h3]
    have l4 : y5 .leq (.int .u8 (n : Int)) (.int .u8 90) = some (.bool b4) := by rw [yel]; simp only [g2, h4]
    have l5 : y5 .geq (.int .u8 (n : Int)) (.int .u8 48) = some (.bool b5) := by rw [y2m]; simp only [f3, h5]
    have l6 : y5 .leq (.int .u8 (n : Int)) (.int .u8 57) = some (.bool b6) := by rw [yel]; simp only [g3, h6]
    have l7 : y5 .eql (.int .u8 (n : Int)) (.int .u8 95) = some (.bool b7) := by rw [y3s]; simp only [d1, h7]
    have l8 : y5 .eql (.int .u8 (n : Int)) (.int .u8 36) = some (.bool b8) := by rw [y3s]; simp only [d2, h8]
    have l9 : y5 .eql (.int .u8 (n : Int)) (.int .u8 47) = some (.bool b9) := by rw [y3s]; simp only [d3, h9]
    clear h1 h2 h3 h4 h5 h6 h7 h8 h9
    simp only [e0, y9, y2n, yae, e, List.drop_zero, y8q, List.head?_cons, l1]
    generalize q7_3 (.bool false) (.ls 0 1 1 0 s.length) v18 (.int .i64 i) [⟨1, .arr false false 1 (s.map fun b => [.int .u8 b.toNat])⟩] = Z
    rcases tri b1 b2 with rfl | ⟨rfl, rfl⟩ | ⟨rfl, rfl⟩ <;> simp only [l2, ya2, ypb, ypg, yeg, yit, y9, y28, y30, y2y, y23, y2u, l3, y1i] <;> try (simp; done)
    all_goals rcases tri b3 b4 with rfl | ⟨rfl, rfl⟩ | ⟨rfl, rfl⟩ <;> simp only [l4, ya2, ypb, ypg, yeg, yit, y9, y28, y30, y2y, y23, y2u, l5, y1i] <;> try (simp; done)
    all_goals rcases tri b5 b6 with rfl | ⟨rfl, rfl⟩ | ⟨rfl, rfl⟩ <;> simp only [l6, ya2, ypb, ypg, yeg, yit, y9, y28, y30, y2y, y23, y2u, l7, y1i] <;> try (simp; done)
    all_goals cases b7 <;> simp only [ya2, ypb, ypg, yeg, yit, y9, y28, y30, y2y, y23, y2u, l8, y1i] <;> try (simp; done)
    all_goals cases b8 <;> simp only [ya2, ypb, ypg, yeg, yit, y9, y28, y30, y2y, y23, y2u, l9, y1i] <;> try (simp; done)
    all_goals cases b9 <;> simp
  exact step _ _ _ _ _ _ _ _ _ rfl rfl rfl rfl rfl rfl rfl rfl rfl
end Go.Vm
namespace Go.Vm
open Cel
attribute [local simp] y6 y1n yj
theorem y1ch (s : List UInt8) (hl : s.length ≤ 60) : ∀ (d i : Nat), i + d = s.length →
    y16f (.bool false) (.ls 0 1 1 0 s.length) (.int .i64 s.length) (.int .i64 i) [⟨1, .arr false false 1 (s.map fun b => [.int .u8 b.toNat])⟩] = some ⟨.bool ((s.drop i).all okB), [], true, [], []⟩ := by
  intro d
  induction d with
  | zero =>
    intro i hi
    have e1 : s.drop i = [] := List.drop_eq_nil_of_le (by omega)
    have hc : ¬ ((i : Int) < (s.length : Int)) := by omega
    rw [yri, e1]
    simp [q7_6, q7_5, q7_1, hc]
  | succ d ih =>
    intro i hi
    have hlt : i < s.length := by omega
    have hc : ((i : Int) < (s.length : Int)) := by omega
    have := ih (i + 1) (by omega)
    push_cast at this
    have e1 : (s.drop i).all okB = (okB s[i] && (s.drop (i + 1)).all okB) := by rw [List.drop_eq_getElem_cons hlt, List.all_cons]
    have hw : IntKind.wrap .i64 ((i : Int) + 1) = (i : Int) + 1 := y1o (by omega) (by omega)
    rw [yri, e1]
    simp only [q7_6, q7_5, yi, y9, hc, decide_true, y23, y1k6 s i hlt]
    cases okB s[i]
    · simp
    · simp [q7_3, hw, this]
@[simp] theorem y2en (s : List UInt8) : (y8 E).p 60 [.str s, .bool false] = some ⟨.bool (yb3 s), [], true, [], []⟩ := by
  rw [x_q7]
  by_cases h1 : ((s.length : Int) < 1)
  · have : ¬ 1 ≤ s.length := by omega
    simp [q7_1, q7_3, q7_4, q7_5, q7_6, q7_8, y1jl, y14e, h1, yb3, this]
  by_cases h2 : ((60 : Int) < (s.length : Int))
  · have : ¬ s.length ≤ 60 := by omega
    simp [q7_1, q7_3, q7_4, q7_5, q7_6, q7_8, y1jl, y14e, h1, h2, yb3, this]
  · have a1 : 1 ≤ s.length := by omega
    have a2 : s.length ≤ 60 := by omega
    have := y1ch s a2 s.length 0 (by omega)
    simp only [List.drop_zero] at this
    simp only [yb3, a1, a2, decide_true, Bool.true_and, ← this]
    simp [y14e, y1jl, q7_8, h1, h2, s2bC]
def lead : List UInt8 → Nat
  | [] => 0
  | c :: r => if c = 91 then lead r + 1 else 0
theorem yk5 : ∀ s : List UInt8, lead s ≤ s.length
  | [] => Nat.le_refl _
  | c :: r => by
    have := yk5 r
    simp only [lead, List.length_cons]
    split <;> omega
theorem y18k : ∀ {s : List UInt8} {i : Nat}, i < lead s → s[i]? = some 91
  | [], i, h => by simp [lead] at h
  | c :: r, i, h => by
    simp only [lead] at h
    split at h
    · rename_i e
      cases i with
      | zero => simp [e]
      | succ i => simpa using y18k (s := r) (by omega)
    · omega
theorem y14c : ∀ {s : List UInt8} {c : UInt8}, s[lead s]? = some c → c ≠ 91
  | [], c, h => by simp at h
  | d :: r, c, h => by
    simp only [lead] at h
    split at h
    · exact y14c (s := r) (by simpa using h)
    · rename_i e; simp at h; rw [← h]; exact e
def y112 (s : List UInt8) : Nat :=
  if 8 < lead s ∨ lead s = s.length then 0
  else if s[lead s]? = some 73 ∨ s[lead s]? = some 74 then lead s + 1
  else if s[lead s]? = some 76 then
    (if (s.drop (lead s + 1)).findIdx (· == 59) < (s.drop (lead s + 1)).length ∧ yb3 ((s.take (lead s + 1 + (s.drop (lead s + 1)).findIdx (· == 59))).drop (lead s + 1)) = true then lead s + 1 + (s.drop (lead s + 1)).findIdx (· == 59) + 1 else 0)
  else 0
theorem ixstr {s : List UInt8} {i : Nat} {c : UInt8} (h : s[i]? = some c) : y8a (.str s) (.int .i64 i) = some (.int .u8 c.toNat) := by
  simp [y8a, h]
theorem y6b (c : UInt8) (k : UInt8) : ((c.toNat : Int) = (k.toNat : Int)) ↔ c = k := by
  rw [Int.ofNat_inj]; exact ⟨fun h => UInt8.toNat_inj.1 h, fun h => by rw [h]⟩
theorem y15t (s : List UInt8) (hs : s.length ≤ 9223372036854775807) (h : Heap) : ∀ (d i : Nat), i + d = lead s → yl3 (.str s) (.int .i64 i) h = ygk (.str s) (.int .i64 (lead s)) h := by
  intro d
  induction d with
  | zero =>
    intro i hi
    obtain rfl : i = lead s := by omega
    rw [yn7]
    have := yk5 s
    by_cases hc : lead s < s.length
    · have e := List.getElem?_eq_getElem hc
      have hne := y14c e
      have hc' : ((lead s : Int) < (s.length : Int)) := by omega
      have hb : ¬ ((s[lead s].toNat : Int) = 91) := fun hh => hne ((y6b _ 91).1 hh)
      simp [y15v, hc', ixstr e, hb]
    · have hc' : ¬ ((lead s : Int) < (s.length : Int)) := by omega
      simp [y15v, hc']
  | succ d ih =>
    intro i hi
    have e := y18k (s := s) (i := i) (by omega)
    have := yk5 s
    have hc' : ((i : Int) < (s.length : Int)) := by omega
    have ih := ih (i + 1) (by omega)
    push_cast at ih
    rw [yn7]
    simp [y15v, hc', ixstr e, y1wy, y1j (show i < s.length by omega) hs, ih]
theorem y1ih (s : List UInt8) (hs : s.length ≤ 9223372036854775807) (n : Nat) (h : Heap) : ∀ (d i : Nat), n + 1 ≤ i → i + d = s.length →
    y1f2 (.str s) (.int .i64 n) (.int .i64 i) h =
      some ⟨.int .i64 (if (s.drop i).findIdx (· == 59) < (s.drop i).length ∧ yb3 ((s.take (i + (s.drop i).findIdx (· == 59))).drop (n + 1)) = true then (i + (s.drop i).findIdx (· == 59) + 1 : Nat) else (0 : Nat)), [], true, [], []⟩ := by
  intro d
  induction d with
  | zero =>
    intro i h1 hi
    rw [ysq]
    have e1 : s.drop i = [] := List.drop_eq_nil_of_le (by omega)
    have hc : ¬ ((i : Int) < (s.length : Int)) := by omega
    simp [y117, q9_1, hc, e1]
  | succ d ih =>
    intro i h1 hi
    rw [ysq]
    have hlt : i < s.length := by omega
    have e := List.getElem?_eq_getElem hlt
    have hc : ((i : Int) < (s.length : Int)) := by omega
    have hd : s.drop i = s[i] :: s.drop (i + 1) := List.drop_eq_getElem_cons hlt
    by_cases hb : s[i] = 59
    · have hb' : ((s[i].toNat : Int) = 59) := (y6b _ 59).2 hb
      have hf : (s.drop i).findIdx (· == 59) = 0 := by rw [hd, List.findIdx_cons]; simp [hb]
      have hw1 : IntKind.wrap .i64 ((n : Int) + 1) = (n : Int) + 1 := y1j (show n < s.length by omega) hs
      have hsl : yn5 (.str s) (some (.int .i64 ((n : Int) + 1))) (some (.int .i64 (i : Int))) = some (.str ((s.take i).drop (n + 1))) := by
        have a1 : ((0 : Int) ≤ (i : Int) ∧ (i : Int) ≤ (s.length : Int)) := by omega
        have a2 : ((0 : Int) ≤ (n : Int) + 1 ∧ (n : Int) + 1 ≤ (i : Int)) := by omega
        simp only [yn5, y9h, yl0, if_pos a1, Int.toNat_natCast, if_pos a2]
        rfl
      rw [hf]
      have hlen : 0 < (s.drop i).length := by rw [List.length_drop]; omega
      cases hn : yb3 ((s.take i).drop (n + 1)) with
      | true =>
        simp only [y117, q9_7, q9_6, q9_5, yb4, y9, yi, hc, decide_true, y23, ixstr e, y3s, hb', yy, hw1, hsl]
        simp [hn, hlt, y1j hlt hs]
        omega
      | false =>
        simp only [y117, q9_7, q9_6, q9_5, yb4, y9, yi, hc, decide_true, y23, ixstr e, y3s, hb', yy, hw1, hsl]
        simp [hn, q9_4]
    · have hb' : ¬ ((s[i].toNat : Int) = 59) := fun hh => hb ((y6b _ 59).1 hh)
      have hf : (s.drop i).findIdx (· == 59) = (s.drop (i + 1)).findIdx (· == 59) + 1 := by
        rw [hd, List.findIdx_cons]
        have : (s[i] == 59) = false := by simpa using hb
        rw [this]; rfl
      have hl : (s.drop i).length = (s.drop (i + 1)).length + 1 := by rw [hd]; rfl
      have ih := ih (i + 1) (by omega) (by omega)
      push_cast at ih
      rw [hf, hl]
      have e2 : i + ((s.drop (i + 1)).findIdx (· == 59) + 1) = i + 1 + (s.drop (i + 1)).findIdx (· == 59) := by omega
      rw [e2]
      simp only [y117, q9_7, q9_6, q9_3, yb4, y9, yi, hc, decide_true, y23, y2u, ixstr e, y3s, hb', decide_false, yy, y1j hlt hs, ih]
      simp only [Nat.add_lt_add_iff_right]
      push_cast
      rfl
@[simp] theorem y24h (s : List UInt8) (hs : s.length ≤ 9223372036854775807) : (y8 E).p 44 [.str s] = some ⟨.int .i64 (y112 s), [], true, [], []⟩ := by
  rw [x_q9]
  have h0 := y15t s hs [] (lead s) 0 (by omega)
  simp only [Int.ofNat_zero] at h0
  have hle := yk5 s
  have key : ygk (.str s) (.int .i64 (lead s)) [] = some ⟨.int .i64 (y112 s), [], true, [], []⟩ := by
    unfold y112
    by_cases h8 : 8 < lead s
    · have h8' : ((8 : Int) < (lead s : Int)) := by omega
      simp [ygk, h8', h8]
    by_cases hl : lead s = s.length
    · have h8' : ¬ ((8 : Int) < (lead s : Int)) := by omega
      have hl' : ((lead s : Int) = (s.length : Int)) := by omega
      have h9' : ¬ ((8 : Int) < (s.length : Int)) := by omega
      simp [ygk, h8', h9', hl', hl]
    · have h8' : ¬ ((8 : Int) < (lead s : Int)) := by omega
      have hl' : ¬ ((lead s : Int) = (s.length : Int)) := by omega
      have hlt : lead s < s.length := by omega
      have e := List.getElem?_eq_getElem hlt
      rw [if_neg (by simp [h8, hl]), e]
      have hw := y1j hlt hs
      by_cases c1 : s[lead s] = 73
      · have c1' : ((s[lead s].toNat : Int) = 73) := (y6b _ 73).2 c1
        simp [ygk, y11v, y0w, yoi, h8', hl', ixstr e, c1', c1, hw]
      by_cases c2 : s[lead s] = 74
      · have c2' : ((s[lead s].toNat : Int) = 74) := (y6b _ 74).2 c2
        simp [ygk, y11v, y0w, yoi, h8', hl', ixstr e, c2', c2, hw]
      have c1' : ¬ ((s[lead s].toNat : Int) = 73) := fun hh => c1 ((y6b _ 73).1 hh)
      have c2' : ¬ ((s[lead s].toNat : Int) = 74) := fun hh => c2 ((y6b _ 74).1 hh)
      by_cases c3 : s[lead s] = 76
      · have c3' : ((s[lead s].toNat : Int) = 76) := (y6b _ 76).2 c3
        have := y1ih s hs (lead s) [] _ (lead s + 1) (Nat.le_refl _) (show lead s + 1 + (s.length - (lead s + 1)) = s.length by omega)
        push_cast at this
        simp [ygk, y11v, y0w, yoi, y1q5, y1ri, y22s, h8', hl', ixstr e, c1', c2', c3', c1, c2, c3, hw, this]
        split <;> simp
      · have c3' : ¬ ((s[lead s].toNat : Int) = 76) := fun hh => c3 ((y6b _ 76).1 hh)
        simp [ygk, y11v, y0w, yoi, y1q5, y1ri, q9_1, h8', hl', ixstr e, c1', c2', c3', c1, c2, c3]
  rw [← key, ← h0]
  simp [y21j, y20m]
def yh8 (s : List UInt8) : Bool := decide (s ≠ []) && decide (y112 s = s.length)
@[simp] theorem y26k (s : List UInt8) (hs : s.length ≤ 9223372036854775807) : (y8 E).p 37 [.str s] = some ⟨.bool (yh8 s), [], true, [], []⟩ := by
  rw [x_q8]
  have h := y24h s hs
  by_cases h1 : s = []
  · simp [q8_1, h1, yh8]
  · have e : ((y112 s : Int) = (s.length : Int)) ↔ y112 s = s.length := by omega
    simp [q8_1, h1, yh8, h, e]
end Go.Vm
namespace Go.Vm
open Cel
attribute [local simp] y6 y1n yj
def numK (c : Int) : Int × Int × Int :=
  if c ∈ [96, 100, 104, 108, 112, 120, 122, 124, 126, 128, 130] then (1, 1, 1)
  else if c ∈ [97, 101, 105, 109, 113, 127, 129, 131] then (2, 2, 2)
  else if c ∈ [121, 123, 125] then (2, 1, 2)
  else if c = 148 then (2, 2, 1)
  else if c ∈ [116, 145, 146, 147] then (1, 0, 1)
  else if c = 117 then (2, 0, 2)
  else if c = 133 then (1, 0, 2)
  else if c = 136 then (2, 0, 1)
  else (0, 0, 0)
def y1ak (r : Option (Ex AV)) (k : Int × Int × Int) : Bool :=
  match r with
  | some ⟨.tup [.int .i64 a, .int .i64 b, .int .i64 c], [], true, [], []⟩ => a == k.1 && b == k.2.1 && c == k.2.2
  | _ => false
theorem y1eh {r : Option (Ex AV)} {k : Int × Int × Int} (h : y1ak r k = true) : r = some ⟨.tup [.int .i64 k.1, .int .i64 k.2.1, .int .i64 k.2.2], [], true, [], []⟩ := by
  unfold y1ak at h
  split at h
  · simp only [Bool.and_eq_true, beq_iff_eq] at h
    obtain ⟨⟨h1, h2⟩, h3⟩ := h
    rw [h1, h2, h3]
  · cases h
theorem yny {n : Nat} {f : Nat → Bool} (h : ((List.range n).all f) = true) (i : Nat) (hi : i < n) : f i = true := by
  rw [List.all_eq_true] at h
  exact h i (List.mem_range.2 hi)
theorem y26d : ((List.range 60).all fun i => y1ak ((both E 30).1.p 50 [.int .i64 (95 + i)]) (numK (95 + i))) = true := by kernel_rfl
theorem y1p2 {c : Int} (h : c < 96 ∨ 148 < c) : numK c = (0, 0, 0) := by
  simp only [numK, List.mem_cons, List.not_mem_nil, or_false]
  repeat' split
  all_goals first | rfl | omega
theorem y1yw (c : Int) : (y8 E).p 50 [.int .i64 c] = some ⟨.tup [.int .i64 (numK c).1, .int .i64 (numK c).2.1, .int .i64 (numK c).2.2], [], true, [], []⟩ := by
  by_cases h : c < 96 ∨ 148 < c
  · rw [y1p2 h, y2bd]
    have h2 : ∀ k : Int, 96 ≤ k → k ≤ 148 → ¬ c = k := by omega
    simp [y21d, y0j, y22k, y1xh, y201, y14n, y237, ygj, y1yh, y5s, y1ej, y19i, y18o, h2]
    rfl
  · have := yny y26d (c - 95).toNat (by omega)
    have e : (95 + ((c - 95).toNat : Int)) = c := by omega
    simp only [e] at this
    exact y1uj 30 (y1eh this)
end Go.Vm
namespace Go.Vm
def yo (x : Ins) : Int × Int × Int × Int × Bool :=
  match x.op with
  | 1 => (0, -1, -1, -1, true)
  | 2 => (3, -1, -1, -1, true)
  | 3 => (3, -1, -1, -1, true)
  | 4 => (0, 0, -1, -1, true)
  | 5 => ((numK x.n).2.2, (numK x.n).1, (numK x.n).2.1, -1, decide (¬ (numK x.n).2.1 = 0))
  | 6 => ((numK x.n).2.2, (numK x.n).1, -1, -1, decide (¬ (numK x.n).1 = 0) && decide ((numK x.n).2.1 = 0))
  | 7 => (-1, 0, -1, -1, true)
  | 8 => (-1, 3, -1, -1, true)
  | 9 => (-1, 3, 1, -1, true)
  | 10 => (-1, 1, -1, -1, true)
  | 11 => (-1, 3, 3, -1, true)
  | 12 => (-1, 3, -1, -1, yh8 x.s)
  | 13 => (0, 3, 1, -1, true)
  | 14 => (-1, 3, 1, 0, true)
  | 15 => (1, 3, -1, -1, true)
  | 16 => (0, 3, -1, -1, decide (0 ≤ x.n))
  | 17 => (-1, 3, 0, -1, decide (0 ≤ x.n))
  | 18 => (0, -1, -1, -1, true)
  | 19 => (-1, 0, -1, -1, true)
  | 20 => (3, -1, -1, -1, true)
  | 21 => (3, 1, -1, -1, yh8 x.s)
  | 22 => (1, 3, -1, -1, yh8 x.s)
  | 23 => (if x.d = -1 then -1 else 0, -1, -1, -1, decide (0 ≤ x.n) && decide ((lst x.args).length ≤ 21))
  | 24 => (if x.d = -1 then -1 else 0, -1, -1, -1, decide (0 < (lst x.args).length) && decide (0 ≤ x.n) && decide ((lst x.args).length ≤ 21))
  | 25 => (if x.d = -1 then -1 else 0, -1, -1, -1, decide (0 < (lst x.args).length) && decide ((lst x.args).length ≤ 21))
  | 26 => (if x.d = -1 then -1 else 0, -1, -1, -1, decide (0 ≤ x.n) && decide ((lst x.args).length ≤ 21))
  | 27 => (-1, -1, -1, -1, true)
  | 28 => (-1, 1, 1, -1, decide (0 ≤ x.n) && decide (x.n ≤ 5))
  | 29 => (-1, 3, if x.b = -1 then -1 else 3, -1, decide (x.n = 0) || decide (x.n = 1))
  | 30 => (-1, if x.a = -1 then -1 else 0, -1, -1, true)
  | 31 => (-1, 3, -1, -1, true)
  | 32 => (3, -1, -1, -1, true)
  | 33 => (-1, -1, -1, -1, true)
  | _ => (0, 0, 0, 0, false)
def exK (k : Int × Int × Int × Int × Bool) : Ex AV := ⟨.tup [.agg [.int .i64 k.1, .int .i64 k.2.1, .int .i64 k.2.2.1, .int .i64 k.2.2.2.1], .bool k.2.2.2.2], [], true, [], []⟩
theorem y0u {x : Ins} (h : x.op < 1 ∨ 33 < x.op) : yo x = (0, 0, 0, 0, false) := by
  unfold yo
  split <;> first | rfl | omega
end Go.Vm
namespace Go.Vm
def regK (R : List Int) (r : Int) : Int := if r < 0 then 0 else R.getD r.toNat 0
def inR (R : List Int) (r : Int) : Bool := decide (0 ≤ r) && decide (r < R.length)
def y2a (R : List Int) (w r : Int) : Bool := decide (w < 0) || (inR R r && (decide (w ≤ 0) || decide (regK R r = w)))
def yop (R : List Int) (x : Ins) : Bool :=
  match lst x.args with
  | [] => true
  | r :: _ => !(decide (x.op = 24) || decide (x.op = 25)) || decide (regK R r = 3)
def yfb (R : List Int) (x : Ins) : Bool := !calls x.op || (yop R x && (lst x.args).all (inR R))
def y3l (R : List Int) (ret : Int) (n : Nat) (x : Ins) : Bool :=
  if x.op = 1 then decide (¬ regK R x.d = 3) && (decide (regK R x.d = 2) || decide (x.n = IntKind.wrap .i64 (IntKind.wrap .i32 x.n)))
  else if x.op = 4 then decide (regK R x.d = regK R x.a)
  else if x.op = 7 then decide (¬ regK R x.a = 3)
  else if x.op = 30 then (decide (x.a = -1) == decide (ret = 0)) && (decide (x.a = -1) || decide (regK R x.a = ret))
  else !leads x.op || (decide (0 ≤ x.t) && decide (x.t < n))
def y2w (f : Fn) (x : Ins) : Bool :=
  (yo x).2.2.2.2 && y2a (lst f.regs) (yo x).1 x.d && y2a (lst f.regs) (yo x).2.1 x.a && y2a (lst f.regs) (yo x).2.2.1 x.b && y2a (lst f.regs) (yo x).2.2.2.1 x.c &&
    yfb (lst f.regs) x && y3l (lst f.regs) f.ret (lst f.code).length x
theorem y1dd {R : List Int} {r : Int} (h : inR R r = true) : 0 ≤ r ∧ r.toNat < R.length ∧ R[r.toNat]? = some (regK R r) := by
  simp only [inR, Bool.and_eq_true, decide_eq_true_eq] at h
  have h1 : r.toNat < R.length := by omega
  refine ⟨h.1, h1, ?_⟩
  rw [regK, if_neg (by omega), List.getD_eq_getElem?_getD, List.getElem?_eq_getElem h1]; rfl
def y1h6 (n : Nat) (t : Int) : Bool := decide (0 ≤ t) && decide (t < n)
def y4w (C : List Ins) (i : Nat) (x : Ins) : Bool :=
  !((decide (x.op = 32) && (decide (i = 0) || !ends ((C.getD (i - 1) default).op))) || (leads x.op && decide ((C.getD x.t.toNat default).op = 32)))
def y5c (f : Fn) (C : List Ins) : Nat → List Ins → Bool
  | _, [] => true
  | i, x :: r => y2w f x && y4w C i x && y5c f C (i + 1) r
def y7w (C : List Ins) (r : Row) : Bool :=
  !(decide (r.f < 0) || decide (r.t ≤ r.f) || decide ((C.length : Int) < r.t) || decide (r.at_ < 0) || decide ((C.length : Int) ≤ r.at_) || decide (¬ (C.getD r.at_.toNat default).op = 32))
def yeo (R : List Int) : Nat → List Int → List Int → Bool
  | _, _, [] => true
  | i, seen, p :: r => (inR R p && !seen.contains p && decide (i ≤ 20)) && yeo R (i + 1) (seen ++ [p]) r
def wf (f : Fn) : Bool :=
  decide (1 ≤ (lst f.code).length) && decide ((lst f.code).length ≤ 20000) && decide ((lst f.regs).length ≤ 20000) && decide (0 ≤ f.ret) && decide (f.ret ≤ 3) && ends ((lst f.code).getD ((lst f.code).length - 1) default).op &&
    (lst f.regs).all (fun k => decide (1 ≤ k) && decide (k ≤ 3)) && yeo (lst f.regs) 0 [] (lst f.params) && y5c f (lst f.code) 0 (lst f.code) && (lst f.rows).all (y7w (lst f.code))
end Go.Vm
namespace Go.Vm
theorem yff {f : Fn} {C : List Ins} : ∀ {l : List Ins} {i k : Nat} {x : Ins}, y5c f C i l = true → l[k]? = some x → y2w f x = true ∧ y4w C (i + k) x = true
  | [], _, _, _, _, h => by simp at h
  | y :: l, i, k, x, hk, h => by
    simp only [y5c, Bool.and_eq_true] at hk
    cases k with
    | zero => simp at h; subst h; exact hk.1
    | succ k =>
      have := yff hk.2 (by simpa using h)
      rwa [show i + 1 + k = i + (k + 1) by omega] at this
structure Wf (f : Fn) : Prop where
  n1 : 1 ≤ (lst f.code).length
  n2 : (lst f.code).length ≤ 20000
  regs : (lst f.regs).length ≤ 20000
  ret0 : 0 ≤ f.ret
  ret3 : f.ret ≤ 3
  last : ends (yd f ((lst f.code).length - 1)).op = true
  kinds : ∀ k ∈ lst f.regs, 1 ≤ k ∧ k ≤ 3
  pars : yeo (lst f.regs) 0 [] (lst f.params) = true
  ins : ∀ i, i < (lst f.code).length → y2w f (yd f i) = true
  spot : ∀ i, i < (lst f.code).length → y4w (lst f.code) i (yd f i) = true
  rows : ∀ r ∈ lst f.rows, y7w (lst f.code) r = true
theorem yo0 {f : Fn} (h : wf f = true) : Wf f := by
  simp only [wf, Bool.and_eq_true, decide_eq_true_eq, List.all_eq_true] at h
  obtain ⟨⟨⟨⟨⟨⟨⟨⟨⟨h1, h2⟩, h3⟩, h4⟩, h5⟩, h6⟩, h7⟩, h8⟩, h9⟩, h10⟩ := h
  refine ⟨h1, h2, h3, h4, h5, h6, h7, h8, fun i hi => ?_, fun i hi => ?_, h10⟩
  · exact (yff h9 (y4m hi)).1
  · have := (yff h9 (y4m hi)).2
    rwa [Nat.zero_add] at this
theorem yp6 {R : List Int} {ret : Int} {n : Nat} {x : Ins} (h : y3l R ret n x = true) (hl : leads x.op = true) : 0 ≤ x.t ∧ x.t < n := by
  have hne : ¬ x.op = 1 ∧ ¬ x.op = 4 ∧ ¬ x.op = 7 ∧ ¬ x.op = 30 := by
    simp only [leads, Bool.or_eq_true, decide_eq_true_eq] at hl
    omega
  simp only [y3l, hne, if_false, hl, Bool.not_true, Bool.false_or, Bool.and_eq_true, decide_eq_true_eq] at h
  exact h
theorem Wf.leads {f : Fn} (w : Wf f) {i : Nat} (hi : i < (lst f.code).length) (hl : Go.Vm.leads (yd f i).op = true) : 0 ≤ (yd f i).t ∧ (yd f i).t < (lst f.code).length := by
  have h := w.ins i hi
  simp only [y2w, Bool.and_eq_true] at h
  exact yp6 h.2 hl
structure RowIn (f : Fn) (r : Row) : Prop where
  f0 : 0 ≤ r.f
  ft : r.f < r.t
  tn : r.t ≤ (lst f.code).length
  a0 : 0 ≤ r.at_
  an : r.at_ < (lst f.code).length
  op : (yd f r.at_.toNat).op = 32
theorem Wf.row {f : Fn} (w : Wf f) {r : Row} (hr : r ∈ lst f.rows) : RowIn f r := by
  have h := w.rows r hr
  simp only [y7w, Bool.not_eq_true', Bool.or_eq_false_iff, decide_eq_false_iff_not, Classical.not_not] at h
  exact ⟨by omega, by omega, by omega, by omega, by omega, h.2⟩
end Go.Vm
namespace Go.Vm
def y5b (f : Fn) (i : Nat) : List Int := lst (uses (yd f i))
def ya7 (f : Fn) (r : Int) (i : Nat) : List Int := yq f i ++ if defr (yd f i) = r then [] else y1l f i
def badR (f : Fn) (r : Int) : Prop := ∃ i, Rch (lst f.code).length (ya7 f r) [0] i ∧ r ∈ y5b f i
def setP (f : Fn) : Prop := ∀ r : Int, 0 ≤ r → r < (lst f.regs).length → r ∉ lst f.params → ¬ badR f r
open Classical in
noncomputable def setM (f : Fn) : Bool := wf f && decide (setP f)
abbrev Tab := List (Option (List Bool))
def wt (R : Nat) : Option (List Bool) → Nat
  | none => R + 1
  | some s => s.countP id
def pot (R : Nat) (ins : Tab) : Nat := (ins.map (wt R)).sum
def LeB (t s : List Bool) : Prop := ∀ r : Nat, t[r]? = some true → s[r]? = some true
theorem LeB.refl (t : List Bool) : LeB t t := fun _ h => h
theorem LeB.trans {a b c : List Bool} (h : LeB a b) (h' : LeB b c) : LeB a c := fun r h1 => h' r (h r h1)
theorem ytn : ∀ {t s : List Bool}, t.length = s.length → LeB s t → (∃ r : Nat, t[r]? = some true ∧ s[r]? = some false) → s.countP id < t.countP id
  | [], [], _, _, ⟨r, h, _⟩ => by simp at h
  | a :: t, b :: s, hl, hle, ⟨r, h1, h2⟩ => by
    have hl' : t.length = s.length := by simpa using hl
    have hle' : LeB s t := fun q h => by have := hle (q + 1) (by simpa using h); simpa using this
    have le : ∀ {t s : List Bool}, t.length = s.length → LeB s t → s.countP id ≤ t.countP id := by
      intro t
      induction t with
      | nil => intro s hl _; rw [List.length_nil] at hl; rw [List.eq_nil_of_length_eq_zero hl.symm]; exact Nat.le_refl _
      | cons a t ih =>
        intro s hl hle
        cases s with
        | nil => simp at hl
        | cons b s =>
          have := ih (s := s) (by simpa using hl) (fun q h => by have := hle (q + 1) (by simpa using h); simpa using this)
          have h0 := hle 0
          simp only [List.countP_cons]
          cases a <;> cases b <;> simp_all <;> omega
    simp only [List.countP_cons]
    cases r with
    | zero =>
      simp at h1 h2
      subst h1; subst h2
      have := le hl' hle'
      simp; omega
    | succ r =>
      have := ytn hl' hle' ⟨r, by simpa using h1, by simpa using h2⟩
      have h0 := hle 0
      cases a <;> cases b <;> simp_all <;> omega
  | [], _ :: _, h, _, _ => by simp at h
  | _ :: _, [], h, _, _ => by simp at h
def LeT (a b : Tab) : Prop := ∀ (i : Nat) s, a[i]? = some (some s) → ∃ t, b[i]? = some (some t) ∧ LeB t s
theorem LeT.refl (a : Tab) : LeT a a := fun _ s h => ⟨s, h, .refl _⟩
theorem LeT.trans {a b c : Tab} (h : LeT a b) (h' : LeT b c) : LeT a c := fun i s hs => by
  obtain ⟨t, h1, h2⟩ := h i s hs
  obtain ⟨u, h3, h4⟩ := h' i t h1
  exact ⟨u, h3, h4.trans h2⟩
def LeAt (ins : Tab) (to : Int) (s : List Bool) : Prop := ∃ t, ins[to.toNat]? = some (some t) ∧ LeB t s
theorem LeAt.mono {a b : Tab} (h : LeT a b) {to : Int} {s : List Bool} (hs : LeAt a to s) : LeAt b to s := by
  obtain ⟨t, h1, h2⟩ := hs
  obtain ⟨u, h3, h4⟩ := h _ _ h1
  exact ⟨u, h3, h4.trans h2⟩
section
variable {n R : Nat}
structure TblOk (n R : Nat) (ins : Tab) : Prop where
  len : ins.length = n
  rows : ∀ (i : Nat) s, ins[i]? = some (some s) → s.length = R
structure MeetR (n R : Nat) (s : List Bool) (T : Int → Prop) (p q : Tab × List Int) : Prop where
  ok : TblOk n R q.1
  le : LeT p.1 q.1
  work : ∀ (i : Nat) t, q.1[i]? = some (some t) → p.1[i]? = some (some t) ∨ (i : Int) ∈ q.2
  keep : ∀ j, j ∈ p.2 → j ∈ q.2
  fresh : ∀ j, j ∈ q.2 → j ∈ p.2 ∨ (0 ≤ j ∧ j < n ∧ ∃ t, q.1[j.toNat]? = some (some t))
  src : ∀ (i r : Nat) t, q.1[i]? = some (some t) → t[r]? = some false → (∃ u, p.1[i]? = some (some u) ∧ u[r]? = some false) ∨ (s[r]? = some false ∧ T i)
  pot : 2 * pot R q.1 + q.2.length ≤ 2 * Go.Vm.pot R p.1 + p.2.length
theorem MeetR.refl {s : List Bool} {T : Int → Prop} {p : Tab × List Int} (h : TblOk n R p.1) : MeetR n R s T p p :=
  ⟨h, .refl _, fun _ _ h => .inl h, fun _ h => h, fun _ h => .inl h, fun _ _ _ h1 h2 => .inl ⟨_, h1, h2⟩, Nat.le_refl _⟩
theorem y1x3 {ins : Tab} {i : Nat} {x y : Option (List Bool)} (h : ins[i]? = some x) : pot R (ins.set i y) + wt R x = pot R ins + wt R y := by
  unfold pot
  induction ins generalizing i with
  | nil => simp at h
  | cons a ins ih =>
    cases i with
    | zero =>
      simp at h
      subst h
      simp only [List.set_cons_zero, List.map_cons, List.sum_cons]
      omega
    | succ i =>
      simp only [List.getElem?_cons_succ] at h
      have := ih h
      simp only [List.set_cons_succ, List.map_cons, List.sum_cons]
      omega
theorem MeetR.trans {s : List Bool} {T : Int → Prop} {p q u : Tab × List Int} (h : MeetR n R s T p q) (h' : MeetR n R s T q u) : MeetR n R s T p u := by
  refine ⟨h'.ok, h.le.trans h'.le, fun i t ht => ?_, fun j hj => h'.keep j (h.keep j hj), fun j hj => ?_, fun i r t ht hr => ?_, Nat.le_trans h'.pot h.pot⟩
  · rcases h'.work i t ht with h1 | h1
    · rcases h.work i t h1 with h2 | h2
      · exact .inl h2
      · exact .inr (h'.keep _ h2)
    · exact .inr h1
  · rcases h'.fresh j hj with h1 | h1
    · rcases h.fresh j h1 with h2 | ⟨a, b, t, ht⟩
      · exact .inl h2
      · obtain ⟨v, hv, _⟩ := h'.le _ _ ht
        exact .inr ⟨a, b, v, hv⟩
    · exact .inr h1
  · rcases h'.src i r t ht hr with ⟨v, h1, h2⟩ | h1
    · exact h.src i r v h1 h2
    · exact .inr h1
theorem MeetR.mono {s : List Bool} {T T' : Int → Prop} {p q : Tab × List Int} (h : MeetR n R s T p q) (hT : ∀ j, T j → T' j) : MeetR n R s T' p q :=
  ⟨h.ok, h.le, h.work, h.keep, h.fresh, fun i r t h1 h2 => (h.src i r t h1 h2).imp id fun x => ⟨x.1, hT _ x.2⟩, h.pot⟩
end
end Go.Vm
namespace Go.Vm
theorem y8y {R : List Int} {k r : Int} (h : y2a R k r = true) (hk : 0 ≤ k) : 0 ≤ r ∧ r < R.length := by
  simp only [y2a, Bool.or_eq_true, decide_eq_true_eq, Bool.and_eq_true, inR] at h
  omega
theorem yo2 (n : Int) : 0 ≤ (numK n).1 ∧ 0 ≤ (numK n).2.1 ∧ 0 ≤ (numK n).2.2 := by
  unfold numK
  repeat' split
  all_goals decide
set_option maxHeartbeats 4000000 in
theorem y11l {f : Fn} {x : Ins} (h : y2w f x = true) {u : Int} (hu : u ∈ lst (uses x)) : 0 ≤ u ∧ u < (lst f.regs).length := by
  simp only [y2w, Bool.and_eq_true] at h
  obtain ⟨⟨⟨⟨⟨⟨h0, h1⟩, h2⟩, h3⟩, h4⟩, h5⟩, h6⟩ := h
  by_cases hc : calls x.op = true
  · have hu' : u ∈ lst x.args := by simpa [uses, hc] using hu
    simp only [yfb, hc, Bool.not_true, Bool.false_or, Bool.and_eq_true, List.all_eq_true] at h5
    have := h5.2 u hu'
    simpa [inR] using this
  · have key : (u = x.a ∧ 0 ≤ (yo x).2.1) ∨ (u = x.b ∧ 0 ≤ (yo x).2.2.1) ∨ (u = x.c ∧ 0 ≤ (yo x).2.2.2.1) ∨ False := by
      rcases yas x.op with h|h|h|h|h|h|h|h|h|h|h|h|h|h|h|h|h|h|h|h|h|h|h|h|h|h|h|h|h|h|h|h|h|h|h
      all_goals first
        | (exfalso; simp [uses, reads, calls, h] at hu; done)
        | (exfalso; simp [calls, h] at hc; done)
        | (simp [uses, reads, calls, h] at hu; simp [yo, h] at h0 ⊢; first | omega | (rcases hu with rfl | rfl <;> simp [yo2]) | (rcases hu with rfl | rfl | rfl <;> simp) | (subst hu; simp [yo2]))
        | (simp [uses, reads, calls, h] at hu; simp [yo, h]; split at hu <;> simp_all; done)
        | (exfalso; simp [uses, reads, calls, lo_f h] at hu; done)
        | (exfalso; simp [uses, reads, calls, hi_f h] at hu; done)
        | skip
      · by_cases hb : x.b < 0
        · simp [uses, calls, h, hb] at hu
          exact .inl ⟨hu, by simp [yo, h]⟩
        · simp [uses, calls, h, hb] at hu
          rcases hu with hu | hu
          · exact .inl ⟨hu, by simp [yo, h]⟩
          · have : ¬ x.b = -1 := by omega
            exact .inr (.inl ⟨hu, by simp [yo, h, this]⟩)
      · by_cases ha : 0 ≤ x.a
        · simp [uses, calls, h, ha] at hu
          have : ¬ x.a = -1 := by omega
          exact .inl ⟨hu, by simp [yo, h, this]⟩
        · simp [uses, calls, h, ha] at hu
    rcases key with ⟨rfl, hk⟩ | ⟨rfl, hk⟩ | ⟨rfl, hk⟩ | hk
    · exact y8y h2 hk
    · exact y8y h3 hk
    · exact y8y h4 hk
    · exact hk.elim
set_option maxHeartbeats 4000000 in
theorem y1gr {f : Fn} {x : Ins} (h : y2w f x = true) (hd : ¬ defr x = -1) : 0 ≤ defr x ∧ defr x < (lst f.regs).length := by
  simp only [y2w, Bool.and_eq_true] at h
  obtain ⟨⟨⟨⟨⟨⟨h0, h1⟩, h2⟩, h3⟩, h4⟩, h5⟩, h6⟩ := h
  have key : defr x = x.d ∧ 0 ≤ (yo x).1 := by
    unfold defr at hd ⊢
    split at hd
    · rename_i hw
      rw [if_pos hw]
      refine ⟨rfl, ?_⟩
      rcases yas x.op with h|h|h|h|h|h|h|h|h|h|h|h|h|h|h|h|h|h|h|h|h|h|h|h|h|h|h|h|h|h|h|h|h|h|h
      all_goals first
        | (exfalso; simp [writes, calls, h] at hw; done)
        | (simp [yo, h, yo2, hd]; done)
        | (exfalso; simp [writes, calls, lo_f h] at hw; done)
        | (exfalso; simp [writes, calls, hi_f h] at hw; done)
    · exact (hd rfl).elim
  rw [key.1]
  exact y8y h1 key.2
theorem Wf.uses {f : Fn} (w : Wf f) {i : Nat} (hi : i < (lst f.code).length) {u : Int} (hu : u ∈ lst (Go.Vm.uses (yd f i))) : 0 ≤ u ∧ u < (lst f.regs).length := y11l (w.ins i hi) hu
theorem Wf.def {f : Fn} (w : Wf f) {i : Nat} (hi : i < (lst f.code).length) (hd : 0 ≤ defr (yd f i)) : defr (yd f i) < (lst f.regs).length := (y1gr (w.ins i hi) (by omega)).2
theorem yl1 {l : List Int} {j a : Int} (h : j ∈ addN l a) : j ∈ l ∨ j = a := by
  unfold addN at h
  split at h
  · exact .inl h
  · rw [List.mem_append, List.mem_singleton] at h; exact h
theorem Wf.next {f : Fn} (w : Wf f) {i : Nat} (hi : i < (lst f.code).length) {to : Int} (h : to ∈ y1l f i) : 0 ≤ to ∧ to < (lst f.code).length := by
  rw [y1l, if_neg (by omega), show ((i : Int)).toNat = i by omega] at h
  have hself : ∀ {j : Int}, j ∈ (if ends (yd f i).op = true then [] else [(i : Int) + 1]) → 0 ≤ j ∧ j < (lst f.code).length := by
    intro j hj
    split at hj
    · cases hj
    · rename_i he
      rw [List.mem_singleton] at hj
      subst hj
      refine ⟨by omega, ?_⟩
      by_cases e : i = (lst f.code).length - 1
      · subst e; exact (he w.last).elim
      · omega
  unfold yps at h
  split at h
  · rename_i hl
    rcases yl1 h with h | h
    · exact hself h
    · rw [h]; exact w.leads hi hl
  · exact hself h
theorem yc8 {i to : Int} : ∀ {rs : List Row} {l : List Int}, to ∈ y2t i rs l → to ∈ l ∨ ∃ r ∈ rs, r.at_ = to
  | [], l, h => .inl h
  | r :: rs, l, h => by
    unfold y2t at h
    split at h
    · split at h
      · rcases yl1 h with h | h
        · exact .inl h
        · exact .inr ⟨r, by simp, h.symm⟩
      · rcases yc8 h with h | ⟨r', h1, h2⟩
        · rcases yl1 h with h | h
          · exact .inl h
          · exact .inr ⟨r, by simp, h.symm⟩
        · exact .inr ⟨r', by simp [h1], h2⟩
    · rcases yc8 h with h | ⟨r', h1, h2⟩
      · exact .inl h
      · exact .inr ⟨r', by simp [h1], h2⟩
theorem Wf.caught {f : Fn} (w : Wf f) {i to : Int} (h : to ∈ yq f i) : 0 ≤ to ∧ to < (lst f.code).length := by
  rw [yq] at h
  split at h
  · cases h
  · split at h
    · rcases yc8 h with h | ⟨r, h1, h2⟩
      · cases h
      · have := w.row h1
        rw [← h2]; exact ⟨this.a0, this.an⟩
    · cases h
theorem yis {l : List Int} {j : Int} (h : l.Nodup) : (addN l j).Nodup := by
  unfold addN
  split
  · exact h
  · rename_i hc
    rw [List.nodup_append]
    refine ⟨h, by simp, fun a ha b hb => ?_⟩
    rw [List.mem_singleton] at hb
    subst hb
    rintro rfl
    exact hc (by simpa using ha)
theorem y69 {i : Int} : ∀ {rs : List Row} {l : List Int}, l.Nodup → (y2t i rs l).Nodup
  | [], _, h => h
  | r :: rs, l, h => by
    rw [y2t]
    split
    · split
      · exact yis h
      · exact y69 (yis h)
    · exact y69 h
theorem Wf.caught_len {f : Fn} (w : Wf f) (i : Int) : (yq f i).length ≤ 20000 := by
  have hd : (yq f i).Nodup := by
    rw [yq]
    split
    · simp
    · split
      · exact y69 (by simp)
      · simp
  have hs : yq f i ⊆ (List.range (lst f.code).length).map fun k => ((k : Nat) : Int) := by
    intro to ht
    have := w.caught ht
    rw [List.mem_map]
    exact ⟨to.toNat, List.mem_range.2 (by omega), by omega⟩
  have := hd.length_le_of_subset hs
  have hn := w.n2
  rw [List.length_map, List.length_range] at this
  omega
end Go.Vm
namespace Go.Vm
def y4a (f : Fn) (A : List Int) (r : Nat) : Prop := ∃ i, Rch (lst f.code).length (ya7 f r) A i ∧ (r : Int) ∈ y5b f i
theorem Rch.one {n : Nat} {S : Nat → List Int} {i k : Nat} : Rch n S [(i : Int)] k ↔ (k = i ∧ i < n) ∨ (i < n ∧ Rch n S (S i) k) := by
  constructor
  · intro h
    induction h with
    | base hj j0 j1 =>
      rw [List.mem_singleton] at hj
      subst hj
      exact .inl ⟨by omega, by omega⟩
    | step h hj j0 j1 ih =>
      rcases ih with ⟨e, hi⟩ | ⟨hi, h'⟩
      · subst e
        exact .inr ⟨hi, .base hj j0 j1⟩
      · exact .inr ⟨hi, .step h' hj j0 j1⟩
  · rintro (⟨e, hi⟩ | ⟨hi, h⟩)
    · subst e
      have := Rch.base (n := n) (S := S) (A := [(k : Int)]) (j := (k : Int)) (by simp) (by omega) (by omega)
      simpa using this
    · have hb : Rch n S [(i : Int)] i := by
        have := Rch.base (n := n) (S := S) (A := [(i : Int)]) (j := (i : Int)) (by simp) (by omega) (by omega)
        simpa using this
      induction h with
      | base hj j0 j1 => exact .step hb hj j0 j1
      | step h hj j0 j1 ih => exact .step ih hj j0 j1
theorem Rch.some_ {n : Nat} {S : Nat → List Int} {A : List Int} {k : Nat} : Rch n S A k ↔ ∃ a ∈ A, 0 ≤ a ∧ a < n ∧ Rch n S [a] k := by
  constructor
  · intro h
    induction h with
    | base hj j0 j1 => exact ⟨_, hj, j0, j1, .base (by simp) j0 j1⟩
    | step h hj j0 j1 ih =>
      obtain ⟨a, ha, a0, a1, h'⟩ := ih
      exact ⟨a, ha, a0, a1, .step h' hj j0 j1⟩
  · rintro ⟨a, ha, a0, a1, h⟩
    induction h with
    | base hj j0 j1 =>
      rw [List.mem_singleton] at hj
      subst hj
      exact .base ha j0 j1
    | step h hj j0 j1 ih => exact .step ih hj j0 j1
section
variable (f : Fn)
theorem y44 {A : List Int} {r : Nat} : y4a f A r ↔ ∃ a ∈ A, 0 ≤ a ∧ a < (lst f.code).length ∧ y4a f [a] r := by
  unfold y4a
  constructor
  · rintro ⟨i, h, hu⟩
    obtain ⟨a, ha, a0, a1, h'⟩ := Rch.some_.1 h
    exact ⟨a, ha, a0, a1, i, h', hu⟩
  · rintro ⟨a, ha, a0, a1, i, h', hu⟩
    exact ⟨i, Rch.some_.2 ⟨a, ha, a0, a1, h'⟩, hu⟩
theorem y1ro {i r : Nat} (hi : i < (lst f.code).length) : y4a f [(i : Int)] r ↔ (r : Int) ∈ y5b f i ∨ y4a f (yq f i) r ∨ (defr (yd f i) ≠ r ∧ y4a f (y1l f i) r) := by
  have key : y4a f [(i : Int)] r ↔ (r : Int) ∈ y5b f i ∨ y4a f (ya7 f r i) r := by
    unfold y4a
    constructor
    · rintro ⟨k, h, hu⟩
      rcases Rch.one.1 h with ⟨e, _⟩ | ⟨_, h'⟩
      · subst e; exact .inl hu
      · exact .inr ⟨k, h', hu⟩
    · rintro (hu | ⟨k, h', hu⟩)
      · exact ⟨i, Rch.one.2 (.inl ⟨rfl, hi⟩), hu⟩
      · exact ⟨k, Rch.one.2 (.inr ⟨hi, h'⟩), hu⟩
  rw [key, y44, y44, y44]
  unfold ya7
  constructor
  · rintro (h | ⟨a, ha, h⟩)
    · exact .inl h
    · rw [List.mem_append] at ha
      rcases ha with ha | ha
      · exact .inr (.inl ⟨a, ha, h⟩)
      · split at ha
        · cases ha
        · rename_i hd
          exact .inr (.inr ⟨hd, a, ha, h⟩)
  · rintro (h | ⟨a, ha, h⟩ | ⟨hd, a, ha, h⟩)
    · exact .inl h
    · exact .inr ⟨a, List.mem_append_left _ ha, h⟩
    · refine .inr ⟨a, List.mem_append_right _ ?_, h⟩
      rw [if_neg hd]; exact ha
structure Tb where
  b : List Ws
  a : List Ws
  h : List Ws
def rowW (l : List Ws) (i : Nat) : Ws := l.getD i []
def joins (l : List Ws) (ts : List Int) (s : Ws) : Ws := ts.foldl (fun s to => y37 s (rowW l to.toNat)) s
def adds (us : List Int) (s : Ws) : Ws := us.foldl (fun s u => addW s u.toNat) s
def y99 (d : Int) (s : Ws) : Ws := if 0 ≤ d then y115 s d.toNat else s
def aftT (t : Tb) (i : Nat) : Ws := joins t.b (y1l f i) (rowW t.a i)
def hanT (t : Tb) (i : Nat) : Ws := joins t.b (yq f i) (rowW t.h i)
def befT (t : Tb) (i : Nat) : Ws := adds (y5b f i) (y37 (y99 (defr (yd f i)) (aftT f t i)) (hanT f t i))
def y3v (t : Tb) (i : Nat) : Tb := ⟨t.b.set i (y37 (rowW t.b i) (befT f t i)), t.a.set i (aftT f t i), t.h.set i (hanT f t i)⟩
def ygp (t : Tb) (i : Nat) : Bool := yco (rowW t.b i) (befT f t i)
def y2i : Nat → Tb → Tb × Bool
  | 0, t => (t, false)
  | i + 1, t => ((y2i i (y3v f t i)).1, ygp f t i || (y2i i (y3v f t i)).2)
def ybc : Nat → Tb → Option Tb
  | 0, _ => none
  | k + 1, t => if (y2i f (lst f.code).length t).2 then ybc k (y2i f (lst f.code).length t).1 else some (y2i f (lst f.code).length t).1
structure TbOk (n W : Nat) (t : Tb) : Prop where
  b : t.b.length = n
  a : t.a.length = n
  h : t.h.length = n
  bw : ∀ i, i < n → (rowW t.b i).length = W
  aw : ∀ i, i < n → (rowW t.a i).length = W
  hw : ∀ i, i < n → (rowW t.h i).length = W
theorem y3y {l : List Ws} {i j : Nat} {x : Ws} (hi : i < l.length) : rowW (l.set i x) j = if j = i then x else rowW l j := by
  unfold rowW
  rw [List.getD_eq_getElem?_getD, List.getElem?_set]
  by_cases e : j = i
  · subst e; simp [hi]
  · rw [if_neg (fun h => e h.symm), if_neg e, List.getD_eq_getElem?_getD]
variable {W n : Nat} {l : List Ws}
theorem yfn : ∀ (ts : List Int) (s : Ws), s.length = W → (∀ i, i < n → (rowW l i).length = W) → (∀ to ∈ ts, 0 ≤ to ∧ to < n) → (joins l ts s).length = W
  | [], s, hs, _, _ => hs
  | to :: ts, s, hs, hl, ht => by
    have h1 := ht to (by simp)
    refine yfn ts _ ?_ hl fun t h => ht t (by simp [h])
    rw [y3k (by rw [hs, hl _ (by omega)]), hs]
theorem yfu : ∀ (ts : List Int) (s : Ws), s.length = W → (∀ i, i < n → (rowW l i).length = W) → (∀ to ∈ ts, 0 ≤ to ∧ to < n) → ∀ r, bit (joins l ts s) r = true ↔ bit s r = true ∨ ∃ to ∈ ts, bit (rowW l to.toNat) r = true
  | [], s, hs, _, _, r => by simp [joins]
  | to :: ts, s, hs, hl, ht, r => by
    have h1 := ht to (by simp)
    have e : s.length = (rowW l to.toNat).length := by rw [hs, hl _ (by omega)]
    have := yfu ts (y37 s (rowW l to.toNat)) (by rw [y3k e, hs]) hl (fun t h => ht t (by simp [h])) r
    have e2 : joins l (to :: ts) s = joins l ts (y37 s (rowW l to.toNat)) := rfl
    rw [e2, this, y8z e, Bool.or_eq_true]
    simp only [List.mem_cons]
    constructor
    · rintro ((h | h) | ⟨t, h, h'⟩)
      · exact .inl h
      · exact .inr ⟨to, .inl rfl, h⟩
      · exact .inr ⟨t, .inr h, h'⟩
    · rintro (h | ⟨t, (rfl | h), h'⟩)
      · exact .inl (.inl h)
      · exact .inl (.inr h')
      · exact .inr ⟨t, h, h'⟩
theorem yza : ∀ (us : List Int) (s : Ws), (adds us s).length = s.length
  | [], _ => rfl
  | u :: us, s => by
    have := yza us (addW s u.toNat)
    rw [yjr] at this
    exact this
theorem ytr : ∀ (us : List Int) (s : Ws), (∀ u ∈ us, 0 ≤ u ∧ u.toNat / 64 < s.length) → ∀ r, bit (adds us s) r = true ↔ bit s r = true ∨ ((r : Nat) : Int) ∈ us
  | [], s, _, r => by simp [adds]
  | u :: us, s, h, r => by
    have h1 := h u (by simp)
    have := ytr us (addW s u.toNat) (fun v hv => by rw [yjr]; exact h v (by simp [hv])) r
    have e2 : adds (u :: us) s = adds us (addW s u.toNat) := rfl
    rw [e2, this, y1yp h1.2, Bool.or_eq_true, decide_eq_true_eq, List.mem_cons]
    constructor
    · rintro ((h | h) | h)
      · exact .inl h
      · exact .inr (.inl (by omega))
      · exact .inr (.inr h)
    · rintro (h | h | h)
      · exact .inl (.inl h)
      · exact .inl (.inr (by omega))
      · exact .inr h
theorem y87 (d : Int) (s : Ws) : (y99 d s).length = s.length := by
  unfold y99
  split
  · exact y1hd _ _
  · rfl
theorem y1dt {d : Int} {s : Ws} (h : 0 ≤ d → d.toNat / 64 < s.length) (r : Nat) : bit (y99 d s) r = true ↔ bit s r = true ∧ d ≠ r := by
  unfold y99
  split
  · rename_i hd
    rw [y1q8 (h hd), Bool.and_eq_true, decide_eq_true_eq]
    have : r ≠ d.toNat ↔ d ≠ (r : Int) := by omega
    rw [this]
  · have : d ≠ (r : Int) := by omega
    simp [this]
end
end Go.Vm
namespace Go.Vm
open Classical in
noncomputable def aftR (f : Fn) (i r : Int) : Bool := decide (0 ≤ i) && (decide (i < (lst f.code).length) && (decide (0 ≤ r) && (decide (r < (lst f.regs).length) && decide (y4a f (y1l f i) r.toNat))))
end Go.Vm
namespace Go.Vm
theorem ynb {f : Fn} {C : List Ins} : ∀ (l : List Ins) (i : Nat), (∀ k x, l[k]? = some x → y2w f x = true ∧ y4w C (i + k) x = true) → y5c f C i l = true
  | [], _, _ => rfl
  | y :: l, i, h => by
    rw [y5c, (h 0 y rfl).1, ynb l (i + 1) (fun k x hx => by
      have := h (k + 1) x (by simpa using hx)
      rwa [show i + (k + 1) = i + 1 + k by omega] at this)]
    have := (h 0 y rfl).2
    rw [Nat.add_zero] at this
    rw [this]; rfl
theorem ywh {f : Fn} {i : Nat} (h : (lst f.code).length ≤ i) : yd f i = default := by
  rw [yd, List.getD_eq_getElem?_getD, List.getElem?_eq_none h]; rfl
structure Swap (f g : Fn) : Prop where
  regs : g.regs = f.regs
  params : g.params = f.params
  ret : g.ret = f.ret
  rows : g.rows = f.rows
  len : (lst g.code).length = (lst f.code).length
theorem Swap.refl (f : Fn) : Swap f f := ⟨rfl, rfl, rfl, rfl, rfl⟩
theorem Swap.trans {f g h : Fn} (a : Swap f g) (b : Swap g h) : Swap f h := ⟨b.regs.trans a.regs, b.params.trans a.params, b.ret.trans a.ret, b.rows.trans a.rows, b.len.trans a.len⟩
theorem yo8 {f g : Fn} (s : Swap f g) (x : Ins) : y2w g x = y2w f x := by
  unfold y2w
  rw [s.regs, s.ret, s.len]
theorem y1ze {f g : Fn} (s : Swap f g) (hw : wf f = true) (h : ∀ i, i < (lst f.code).length → y2w f (yd g i) = true ∧ (ends (yd f i).op = true → ends (yd g i).op = true) ∧
    ((yd g i).op = 32 ↔ (yd f i).op = 32) ∧ (leads (yd g i).op = true → leads (yd f i).op = true ∧ (yd g i).t = (yd f i).t)) : wf g = true := by
  have w := yo0 hw
  have e32 : ∀ i : Nat, (yd g i).op = 32 ↔ (yd f i).op = 32 := fun i => by
    by_cases hi : i < (lst f.code).length
    · exact (h i hi).2.2.1
    · rw [ywh (f := g) (by rw [s.len]; omega), ywh (f := f) (by omega)]
  have hlast := (h ((lst f.code).length - 1) (by have := w.n1; omega)).2.1 w.last
  have hspot : ∀ i, i < (lst f.code).length → y4w (lst g.code) i (yd g i) = true := by
    intro i hi
    have h0 := w.spot i hi
    obtain ⟨_, _, h3, h4⟩ := h i hi
    unfold y4w at h0 ⊢
    rw [Bool.not_eq_true', Bool.or_eq_false_iff, Bool.and_eq_false_iff, Bool.and_eq_false_iff] at h0 ⊢
    refine ⟨?_, ?_⟩
    · rcases h0.1 with q | q
      · left
        simp only [decide_eq_false_iff_not] at q ⊢
        rwa [h3]
      · right
        rw [Bool.or_eq_false_iff] at q ⊢
        refine ⟨q.1, ?_⟩
        have he : ends (yd f (i - 1)).op = true := by simpa [yd] using q.2
        have := (h (i - 1) (by omega)).2.1 he
        simpa [yd] using this
    · cases hl : leads (yd g i).op with
      | false => exact .inl rfl
      | true =>
        right
        obtain ⟨a, b⟩ := h4 hl
        rcases h0.2 with h | h
        · rw [a] at h; cases h
        · simp only [decide_eq_false_iff_not] at h ⊢
          rw [b]
          exact fun e => h ((e32 _).1 e)
  have hw' := hw
  unfold wf at hw' ⊢
  rw [s.len, s.regs, s.ret, s.params, s.rows]
  simp only [Bool.and_eq_true] at hw' ⊢
  obtain ⟨⟨⟨⟨⟨⟨⟨⟨⟨h1, h2⟩, h3⟩, h4⟩, h5⟩, h6⟩, h7⟩, h8⟩, h9⟩, h10⟩ := hw'
  refine ⟨⟨⟨⟨⟨⟨⟨⟨⟨h1, h2⟩, h3⟩, h4⟩, h5⟩, hlast⟩, h7⟩, h8⟩, ynb _ 0 fun k x hx => ?_⟩, ?_⟩
  · have hk : k < (lst f.code).length := by rw [← s.len]; exact (List.getElem?_eq_some_iff.1 hx).1
    have e : yd g k = x := by rw [yd, List.getD_eq_getElem?_getD, hx]; rfl
    rw [Nat.zero_add, ← e]
    exact ⟨by rw [yo8 s]; exact (h k hk).1, hspot k hk⟩
  · rw [List.all_eq_true] at h10 ⊢
    intro r hr
    have := h10 r hr
    unfold y7w at this ⊢
    rw [s.len]
    rw [Bool.not_eq_true', Bool.or_eq_false_iff] at this ⊢
    refine ⟨this.1, ?_⟩
    have t2 := this.2
    simp only [decide_eq_false_iff_not, Classical.not_not] at t2 ⊢
    exact (e32 r.at_.toNat).2 t2
end Go.Vm
namespace Go.Vm
inductive Way (f : Fn) (r : Int) : Nat → Prop
  | use {i : Nat} : i < (lst f.code).length → r ∈ y5b f i → Way f r i
  | step {i : Nat} {j : Int} : i < (lst f.code).length → j ∈ ya7 f r i → 0 ≤ j → j < (lst f.code).length → Way f r j.toNat → Way f r i
theorem Way.lt {f : Fn} {r : Int} {i : Nat} (h : Way f r i) : i < (lst f.code).length := by cases h <;> assumption
theorem ybr {f : Fn} {r : Nat} {A : List Int} : y4a f A r ↔ ∃ a ∈ A, 0 ≤ a ∧ a < (lst f.code).length ∧ Way f r a.toNat := by
  rw [y44 f]
  constructor
  · rintro ⟨a, ha, a0, a1, k, hk, hu⟩
    refine ⟨a, ha, a0, a1, ?_⟩
    have key : ∀ {k : Nat}, Rch (lst f.code).length (ya7 f r) [a] k → Way f r k → Way f r a.toNat := by
      intro k hk
      induction hk with
      | base hj j0 j1 =>
        rw [List.mem_singleton] at hj
        subst hj
        exact id
      | step h hj j0 j1 ih => exact fun w => ih (.step h.lt hj j0 j1 w)
    exact key hk (.use hk.lt hu)
  · rintro ⟨a, ha, a0, a1, w⟩
    refine ⟨a, ha, a0, a1, ?_⟩
    have key : ∀ {k : Nat}, Way f r k → ∀ {A : List Int}, Rch (lst f.code).length (ya7 f r) A k → y4a f A r := by
      intro k w
      induction w with
      | use hi hu => exact fun h => ⟨_, h, hu⟩
      | step hi hj j0 j1 _ ih => exact fun h => ih (.step h hj j0 j1)
    exact key w (.base (by simp) a0 a1)
theorem y1hh {f : Fn} {r : Nat} : badR f r ↔ 0 < (lst f.code).length ∧ Way f r 0 := by
  have : badR f r ↔ y4a f [0] r := Iff.rfl
  rw [this, ybr]
  constructor
  · rintro ⟨a, ha, a0, a1, w⟩
    rw [List.mem_singleton] at ha
    subst ha
    exact ⟨by omega, w⟩
  · rintro ⟨h, w⟩
    exact ⟨0, by simp, by omega, by omega, w⟩
end Go.Vm
namespace Go.Vm
def nopI : Ins := ⟨33, 0, 0, 0, 0, 0, 0, [], none⟩
theorem yu8 : lst (uses nopI) = [] := by decide
theorem y1bk : defr nopI = -1 := by decide
theorem y119 {f : Fn} : y2w f nopI = true := by
  simp [y2w, nopI, yo, y2a, yfb, calls, y3l, leads]
end Go.Vm
namespace Go.Vm
noncomputable def y20 (f : Fn) (i : Nat) : Bool := purel (yd f i).op && !aftR f i (yd f i).d
noncomputable def y3z (f : Fn) : Fn := { f with code := some ((List.range (lst f.code).length).map fun i => if y20 f i then nopI else yd f i) }
noncomputable def y9u (f : Fn) : Bool := (List.range (lst f.code).length).any (y20 f)
inductive DeadTo : Fn → Fn → Prop
  | done {f : Fn} : y9u f = false → DeadTo f f
  | more {f g : Fn} : y9u f = true → DeadTo (y3z f) g → DeadTo f g
theorem y8m {o : Int} (h : purel o = true) : ends o = false ∧ leads o = false ∧ throws o = false ∧ o ≠ 32 ∧ o ≠ 33 ∧ writes o = true := by
  simp only [purel, decide_eq_true_eq, List.mem_cons, List.not_mem_nil, or_false] at h
  rcases h with rfl | rfl | rfl | rfl | rfl | rfl | rfl | rfl | rfl | rfl | rfl <;> decide
section
variable (f : Fn)
theorem y2h : (lst (y3z f).code).length = (lst f.code).length := by simp [y3z]
theorem y98 : Swap f (y3z f) := ⟨rfl, rfl, rfl, rfl, y2h f⟩
theorem y3r {i : Nat} (hi : i < (lst f.code).length) : yd (y3z f) i = if y20 f i then nopI else yd f i := by
  simp [yd, y3z, List.getD_eq_getElem?_getD, hi]
variable {f}
theorem y3d {i : Nat} (h : y20 f i = true) : purel (yd f i).op = true := by
  simp only [y20, Bool.and_eq_true] at h
  exact h.1
theorem ykj (hw : wf f = true) : wf (y3z f) = true := by
  have w := yo0 hw
  refine y1ze (y98 f) hw fun i hi => ?_
  rw [y3r f hi]
  cases hd : y20 f i with
  | false => exact ⟨w.ins i hi, id, Iff.rfl, fun h => ⟨h, rfl⟩⟩
  | true =>
    obtain ⟨h1, h2, h3, h4, h5, _⟩ := y8m (y3d hd)
    rw [if_pos rfl]
    refine ⟨y119, (fun h => by rw [h1] at h; cases h), ⟨(fun h => by cases h), fun h => (h4 h).elim⟩, (fun h => by cases h)⟩
theorem yj2 (i : Int) : y1l (y3z f) i = y1l f i := by
  unfold y1l
  rw [y2h]
  by_cases h : i < 0 ∨ ((lst f.code).length : Int) ≤ i
  · rw [if_pos h, if_pos h]
  · rw [if_neg h, if_neg h, y3r f (by omega)]
    cases hd : y20 f i.toNat with
    | false => rfl
    | true =>
      obtain ⟨h1, h2, _⟩ := y8m (y3d hd)
      simp only [if_true, yps, h1, h2]
      rfl
theorem ynm (i : Int) : yq (y3z f) i = yq f i := by
  unfold yq
  rw [y2h]
  by_cases h : i < 0 ∨ ((lst f.code).length : Int) ≤ i
  · rw [if_pos h, if_pos h]
  · rw [if_neg h, if_neg h, y3r f (by omega)]
    cases hd : y20 f i.toNat with
    | false => rfl
    | true =>
      obtain ⟨_, _, h3, _⟩ := y8m (y3d hd)
      simp only [if_true, h3]
      rfl
theorem yp2 {i : Nat} (h : purel (yd f i).op = true) : yq f (i : Int) = [] := by
  obtain ⟨_, _, h3, _⟩ := y8m h
  unfold yq
  rw [Int.toNat_natCast, h3]
  split <;> rfl
theorem y1rr {x : Ins} (h : purel x.op = true) : defr x = x.d := by
  obtain ⟨_, _, _, _, _, h6⟩ := y8m h
  rw [defr, if_pos h6]
theorem yz3 (hw : wf f = true) {r : Nat} {i : Nat} (h : Way (y3z f) r i) : Way f r i := by
  have w := yo0 hw
  induction h with
  | use hi hu =>
    rw [y2h] at hi
    refine .use hi ?_
    rw [y5b, y3r f hi] at hu
    split at hu
    · rw [yu8] at hu; cases hu
    · exact hu
  | @step i j hi hj j0 j1 _ ih =>
    rw [y2h] at hi j1
    rw [ya7, ynm, yj2, y3r f hi] at hj
    cases hd : y20 f i with
    | false =>
      rw [hd] at hj
      exact .step hi (by rw [ya7]; exact hj) j0 j1 ih
    | true =>
      have hp := y3d hd
      rw [hd] at hj
      simp only [if_true, y1bk, show ¬ (-1 : Int) = (r : Int) by omega, if_false] at hj
      by_cases e : defr (yd f i) = r
      · -- it is live behind what was gone: but that isn't so
        rw [yp2 hp, List.nil_append] at hj
        have hdr := w.def hi (by rw [e]; omega)
        have e2 : (yd f i).d = r := by rw [← y1rr hp]; exact e
        simp only [y20, Bool.and_eq_true, Bool.not_eq_true'] at hd
        have := hd.2
        rw [e2] at this
        have hl : y4a f (y1l f i) r := ybr.2 ⟨j, hj, j0, j1, ih⟩
        unfold aftR at this
        rw [e] at hdr
        simp [hi, hdr, hl] at this
      · refine .step hi ?_ j0 j1 ih
        rw [ya7, if_neg e]
        exact hj
theorem y1dh (hw : wf f = true) (hs : setM f = true) : setM (y3z f) = true := by
  unfold setM at hs ⊢
  rw [ykj hw]
  rw [hw] at hs
  simp only [Bool.true_and, decide_eq_true_eq] at hs ⊢
  intro r h0 h1 hp hb
  have e : ((r.toNat : Nat) : Int) = r := by omega
  rw [← e] at hb
  obtain ⟨b1, b2⟩ := y1hh.1 hb
  rw [y2h] at b1
  refine hs r h0 h1 hp ?_
  rw [← e]
  exact y1hh.2 ⟨b1, yz3 hw b2⟩
theorem ymm (hw : wf f = true) {i r : Int} (h : aftR (y3z f) i r = true) : aftR f i r = true := by
  unfold aftR at h ⊢
  rw [y2h, yj2] at h
  simp only [Bool.and_eq_true, decide_eq_true_eq] at h ⊢
  refine ⟨h.1, h.2.1, h.2.2.1, h.2.2.2.1, ?_⟩
  obtain ⟨a, ha, a0, a1, w⟩ := ybr.1 h.2.2.2.2
  rw [y2h] at a1
  exact ybr.2 ⟨a, ha, a0, a1, yz3 hw w⟩
structure DeadOk (f g : Fn) : Prop where
  swap : Swap f g
  wf : wf g = true
  set : setM f = true → setM g = true
  aft : ∀ i r : Int, aftR g i r = true → aftR f i r = true
  at_ : ∀ i, i < (lst f.code).length → yd g i = yd f i ∨ (yd g i = nopI ∧ purel (yd f i).op = true)
  gone : ∀ i, i < (lst f.code).length → yd g i = yd f i ∨ aftR g i (yd f i).d = false
  left : y9u g = false
theorem DeadTo.ok {f g : Fn} (h : DeadTo f g) (hw : Go.Vm.wf f = true) : DeadOk f g := by
  induction h with
  | done hd => exact ⟨Swap.refl _, hw, id, fun _ _ => id, fun _ _ => .inl rfl, fun _ _ => .inl rfl, hd⟩
  | @more f g hd _ ih =>
    have k := ih (ykj hw)
    refine ⟨(y98 f).trans k.swap, k.wf, fun h => k.set (y1dh hw h), fun i r h => ymm hw (k.aft i r h), fun i hi => ?_, fun i hi => ?_, k.left⟩
    · have := k.at_ i (by rw [y2h]; exact hi)
      rw [y3r f hi] at this
      cases hd : y20 f i with
      | false =>
        rw [hd] at this
        exact this
      | true =>
        rw [hd] at this
        simp only [if_true] at this
        rcases this with h | h
        · exact .inr ⟨h, y3d hd⟩
        · exact .inr ⟨h.1, y3d hd⟩
    · have := k.gone i (by rw [y2h]; exact hi)
      rw [y3r f hi] at this
      cases hd : y20 f i with
      | false =>
        rw [hd] at this
        exact this
      | true =>
        right
        simp only [y20, Bool.and_eq_true, Bool.not_eq_true'] at hd
        rw [← Bool.not_eq_true]
        intro h
        have := ymm hw (k.aft _ _ h)
        rw [hd.2] at this
        cases this
def pures (f : Fn) : Nat := (List.range (lst f.code).length).countP fun i => purel (yd f i).op
theorem yox (hd : y9u f = true) : pures (y3z f) < pures f := by
  unfold pures
  rw [y2h]
  have le : ∀ i, i ∈ List.range (lst f.code).length → purel (yd (y3z f) i).op = true → purel (yd f i).op = true := by
    intro i hi h
    rw [y3r f (List.mem_range.1 hi)] at h
    split at h
    · cases h
    · exact h
  obtain ⟨i, hi, hdi⟩ := List.any_eq_true.1 hd
  have a1 : purel (yd f i).op = true := y3d hdi
  have a2 : purel (yd (y3z f) i).op = false := by
    rw [y3r f (List.mem_range.1 hi), hdi]; rfl
  generalize List.range (lst f.code).length = l at *
  induction l with
  | nil => cases hi
  | cons k l ih =>
    have le' : ∀ i, i ∈ l → purel (yd (y3z f) i).op = true → purel (yd f i).op = true := fun i hi => le i (by simp [hi])
    have mono : List.countP (fun i => purel (yd (y3z f) i).op) l ≤ List.countP (fun i => purel (yd f i).op) l := List.countP_mono_left le'
    rw [List.countP_cons, List.countP_cons]
    rcases List.mem_cons.1 hi with rfl | hi
    · rw [a1, a2]; simp; omega
    · have := ih le' hi
      have hk := le k (by simp)
      cases h1 : purel (yd (y3z f) k).op with
      | true => rw [hk h1]; simp; omega
      | false => simp only [Bool.false_eq_true, if_false, Nat.add_zero]; split <;> omega
end
theorem DeadTo.exists_ : ∀ (k : Nat) (f : Fn), pures f < k → ∃ g, DeadTo f g
  | 0, _, h => by omega
  | k + 1, f, h => by
    cases hd : y9u f with
    | false => exact ⟨f, .done hd⟩
    | true =>
      have := yox hd
      obtain ⟨g, hg⟩ := DeadTo.exists_ k (y3z f) (by omega)
      exact ⟨g, .more hd hg⟩
end Go.Vm
