/- Places that can be reached: a search with a stack, a search in rounds, a search that stops where something is found. Plain Lean; nothing here speaks of a program. Which places follow a place, in plain words. A pass: a function as a variable of one's own, its lists in objects of one's own. Sets of registers, 64 a word. What is told of types' descriptors. Names, the type at a text's beginning, types. What the stack's instructions over numbers take and give. What an instruction wants of its registers, in plain words. When an instruction, a function is well formed, in plain words. What a well formed function is like. Whether each register is written ahead of all that reads it, in plain words: by ways, and by what is set at each place. In a well formed function the registers that are read and written are registers, and the places that follow are places. Which registers are live, in plain words: by ways, and by what the sweeps over the table leave. What is live ahead of, behind and across a place, as tests. Functions with other instructions at some places: well formed as before. Ways to a read, from their beginning on. What the pass 'dead' leaves, in plain words. -/
import Derived.Test.YtgbajicpokolcaaBX
import Derived.Test.YtgbajicpokolcaaBTa
set_option linter.unusedSimpArgs false
set_option linter.unusedVariables false
set_option linter.unusedSectionVars false
namespace Go.Vm
section
variable (n : Nat) (S : Nat → List Int) (A : List Int)
inductive Rch : Nat → Prop
  | base {j : Int} : j ∈ A → 0 ≤ j → j < n → Rch j.toNat
  | step {i : Nat} {j : Int} : Rch i → j ∈ S i → 0 ≤ j → j < n → Rch j.toNat
def dfsF (hit : Nat → Bool) : Nat → List Bool → List Int → Option Bool
  | 0, _, _ => none
  | k + 1, seen, op => match op.getLast? with
    | none => some false
    | some i => if i < 0 ∨ (n : Int) ≤ i ∨ seen.getD i.toNat true = true then dfsF hit k seen op.dropLast
      else if hit i.toNat then some true else dfsF hit k (seen.set i.toNat true) (op.dropLast ++ S i.toNat)
def unseen (seen : List Bool) : Nat := seen.countP (! ·)
end
section
variable {n : Nat} {S : Nat → List Int} {A : List Int}
theorem Rch.lt {i : Nat} (h : Rch n S A i) : i < n := by cases h <;> omega
theorem yl3 {seen : List Bool} {i : Nat} (h : i < seen.length) (hs : seen[i] = false) : unseen (seen.set i true) + 1 = unseen seen := by
  unfold unseen
  induction seen generalizing i with
  | nil => simp at h
  | cons b l ih =>
    cases i with
    | zero => simp at hs; simp [hs]
    | succ i =>
      simp only [List.set_cons_succ, List.countP_cons]
      have := ih (i := i) (by simpa using h) (by simpa using hs)
      omega
theorem y4u {op : List Int} {i : Int} (h : op.getLast? = some i) : op = op.dropLast ++ [i] := by
  have hne : op ≠ [] := by intro e; rw [e] at h; cases h
  have := List.dropLast_concat_getLast hne
  rw [List.getLast?_eq_some_getLast hne] at h
  injection h with h
  rw [h] at this
  exact this.symm
theorem yg6 {op : List Int} {j : Int} (h : j ∈ op.dropLast) : j ∈ op := (List.dropLast_sublist op).mem h
theorem y2h0 {seen : List Bool} {i : Nat} (h : i < seen.length) (hs : ¬ seen.getD i true = true) : seen[i] = false := by
  rw [List.getD_eq_getElem?_getD, List.getElem?_eq_getElem h] at hs
  simpa using hs
structure DfsI (n : Nat) (S : Nat → List Int) (A : List Int) (seen : List Bool) (op : List Int) : Prop where
  len : seen.length = n
  ok : ∀ i : Nat, seen[i]? = some true → Rch n S A i
  opn : ∀ j : Int, j ∈ op → 0 ≤ j → j < n → Rch n S A j.toNat
  cl : ∀ (i : Nat) (j : Int), seen[i]? = some true → j ∈ S i → 0 ≤ j → j < n → seen[j.toNat]? = some true ∨ j ∈ op
  st : ∀ j : Int, j ∈ A → 0 ≤ j → j < n → seen[j.toNat]? = some true ∨ j ∈ op
theorem DfsI.start : DfsI n S A (List.replicate n false) A where
  len := by simp
  ok i h := by rw [List.getElem?_replicate] at h; split at h <;> cases h
  opn j h h0 h1 := .base h h0 h1
  cl i j h := by rw [List.getElem?_replicate] at h; split at h <;> cases h
  st j h _ _ := .inr h
theorem DfsI.skip {seen : List Bool} {op : List Int} (I : DfsI n S A seen op) {i : Int} (hop : op.getLast? = some i) (hc : i < 0 ∨ (n : Int) ≤ i ∨ seen.getD i.toNat true = true) : DfsI n S A seen op.dropLast := by
  have e := y4u hop
  have key : ∀ j : Int, 0 ≤ j → j < n → (seen[j.toNat]? = some true ∨ j ∈ op) → seen[j.toNat]? = some true ∨ j ∈ op.dropLast := by
    intro j h0 h1 h
    rcases h with h | h
    · exact .inl h
    · rw [e, List.mem_append, List.mem_singleton] at h
      rcases h with h | rfl
      · exact .inr h
      · rcases hc with hc | hc | hc
        · omega
        · omega
        · left
          have : j.toNat < seen.length := by rw [I.len]; omega
          rw [List.getD_eq_getElem?_getD, List.getElem?_eq_getElem this] at hc
          rw [List.getElem?_eq_getElem this]
          simpa using hc
  exact ⟨I.len, I.ok, fun j hj => I.opn j (yg6 hj), fun i j h1 h2 h3 h4 => key j h3 h4 (I.cl i j h1 h2 h3 h4), fun j h1 h3 h4 => key j h3 h4 (I.st j h1 h3 h4)⟩
theorem DfsI.take {seen : List Bool} {op : List Int} (I : DfsI n S A seen op) {i : Int} (hop : op.getLast? = some i) (h0 : 0 ≤ i) (h1 : i < n) : DfsI n S A (seen.set i.toNat true) (op.dropLast ++ S i.toNat) := by
  have e := y4u hop
  have hi : Rch n S A i.toNat := I.opn i (by rw [e]; simp) h0 h1
  have hlt : i.toNat < seen.length := by rw [I.len]; omega
  have hset : ∀ j : Nat, (seen.set i.toNat true)[j]? = some true ↔ seen[j]? = some true ∨ j = i.toNat := by
    intro j
    rw [List.getElem?_set]
    by_cases hj : i.toNat = j
    · subst hj; simp [hlt]
    · rw [if_neg hj]
      exact ⟨.inl, fun h => h.resolve_right (fun e => hj e.symm)⟩
  have key : ∀ j : Int, 0 ≤ j → j < n → (seen[j.toNat]? = some true ∨ j ∈ op) → (seen.set i.toNat true)[j.toNat]? = some true ∨ j ∈ op.dropLast ++ S i.toNat := by
    intro j h2 h3 h
    rw [hset]
    rcases h with h | h
    · exact .inl (.inl h)
    · rw [e, List.mem_append, List.mem_singleton] at h
      rcases h with h | rfl
      · exact .inr (List.mem_append_left _ h)
      · exact .inl (.inr rfl)
  refine ⟨by simpa using I.len, fun j hj => ?_, fun j hj h2 h3 => ?_, fun k j hk hj h2 h3 => ?_, fun j hj h2 h3 => key j h2 h3 (I.st j hj h2 h3)⟩
  · rcases (hset j).1 hj with h | rfl
    · exact I.ok j h
    · exact hi
  · rcases List.mem_append.1 hj with h | h
    · exact I.opn j (yg6 h) h2 h3
    · exact .step hi h h2 h3
  · rcases (hset k).1 hk with h | rfl
    · exact key j h2 h3 (I.cl k j h hj h2 h3)
    · exact .inr (List.mem_append_right _ hj)
theorem DfsI.done {seen : List Bool} (I : DfsI n S A seen []) (i : Nat) : seen[i]? = some true ↔ Rch n S A i := by
  refine ⟨I.ok i, fun h => ?_⟩
  induction h with
  | base h h0 h1 => exact (I.st _ h h0 h1).resolve_right (by simp)
  | step _ hj h0 h1 ih => exact (I.cl _ _ ih hj h0 h1).resolve_right (by simp)
theorem yhw {hit : Nat → Bool} {B : Nat} (hB : ∀ i, i < n → (S i).length ≤ B) : ∀ (k : Nat) (seen : List Bool) (op : List Int), seen.length = n → unseen seen * (B + 1) + op.length < k → ∃ r, dfsF n S hit k seen op = some r
  | 0, _, _, _, h => by omega
  | k + 1, seen, op, hl, h => by
    rw [dfsF]
    cases hop : op.getLast? with
    | none => exact ⟨false, rfl⟩
    | some i =>
      have e := y4u hop
      have el : op.length = op.dropLast.length + 1 := by rw [e]; simp
      simp only
      split
      · exact yhw hB k seen op.dropLast hl (by omega)
      · rename_i hc
        split
        · exact ⟨true, rfl⟩
        have h0 : 0 ≤ i := by omega
        have h1 : i.toNat < n := by omega
        have hs := y2h0 (i := i.toNat) (by omega) (fun h => hc (.inr (.inr h)))
        have hu := yl3 (by omega) hs
        have hb := hB i.toNat h1
        refine yhw hB k _ _ (by simpa using hl) ?_
        rw [List.length_append]
        rw [← hu, Nat.add_mul] at h
        omega
theorem yi6 {hit : Nat → Bool} : ∀ (k : Nat) (seen : List Bool) (op : List Int) (r : Bool), DfsI n S A seen op → (∀ i : Nat, seen[i]? = some true → hit i = false) → dfsF n S hit k seen op = some r → (r = true ↔ ∃ i, Rch n S A i ∧ hit i = true)
  | 0, _, _, _, _, _, h => by cases h
  | k + 1, seen, op, r, I, hh, h => by
    rw [dfsF] at h
    cases hop : op.getLast? with
    | none =>
      rw [hop] at h
      injection h with h
      subst h
      rw [List.getLast?_eq_none_iff] at hop
      subst hop
      refine ⟨(fun h => by cases h), fun ⟨i, h1, h2⟩ => ?_⟩
      rw [hh i ((I.done i).2 h1)] at h2
      exact h2
    | some i =>
      rw [hop] at h
      simp only at h
      split at h
      · rename_i hc
        exact yi6 k _ _ r (I.skip hop hc) hh h
      · rename_i hc
        split at h
        · rename_i ht
          injection h with h
          subst h
          have e := y4u hop
          exact ⟨fun _ => ⟨i.toNat, I.opn i (by rw [e]; simp) (by omega) (by omega), ht⟩, fun _ => rfl⟩
        · rename_i ht
          refine yi6 k _ _ r (I.take hop (by omega) (by omega)) (fun j hj => ?_) h
          rw [List.getElem?_set] at hj
          split at hj
          · rename_i e; subst e; simpa using ht
          · exact hh j hj
structure RI (n : Nat) (S : Nat → List Int) (A : List Int) (seen : List Bool) (s : List Bool × Bool) : Prop where
  len : s.1.length = n
  ok : ∀ i : Nat, s.1[i]? = some true → Rch n S A i
  up : ∀ i : Nat, seen[i]? = some true → s.1[i]? = some true
  un : unseen s.1 ≤ unseen seen
  lt : s.2 = true → unseen s.1 < unseen seen
  eq : s.2 = false → s.1 = seen
end
end Go.Vm
namespace Go.Vm
def addN (l : List Int) (j : Int) : List Int := if l.contains j then l else l ++ [j]
def yd (f : Fn) (i : Nat) : Ins := (lst f.code).getD i default
def ypq (x : Ins) (i : Int) : List Int := if leads x.op then addN (if ends x.op then [] else [i + 1]) x.t else if ends x.op then [] else [i + 1]
def y1m (f : Fn) (i : Int) : List Int := if i < 0 ∨ ((lst f.code).length : Int) ≤ i then [] else ypq (yd f i.toNat) i
def y32 (i : Int) : List Row → List Int → List Int
  | [], l => l
  | r :: rs, l => if r.f ≤ i ∧ i < r.t then (if r.c = [] then addN l r.at_ else y32 i rs (addN l r.at_)) else y32 i rs l
def y10 (f : Fn) (i : Int) : List Int := if i < 0 ∨ ((lst f.code).length : Int) ≤ i then [] else if throws (yd f i.toNat).op then y32 i (lst f.rows) [] else []
theorem y1yk (l : List Int) (j : Int) : (addN l j).length ≤ l.length + 1 := by
  unfold addN
  split <;> simp
theorem y1ht (x : Ins) (i : Int) : (ypq x i).length ≤ 2 := by
  unfold ypq
  split
  · have := y1yk (if ends x.op then [] else [i + 1]) x.t
    split at this <;> simp_all <;> omega
  · split <;> simp
theorem yea (f : Fn) (i : Int) : (y1m f i).length ≤ 2 := by
  unfold y1m
  split
  · simp
  · exact y1ht _ _
theorem y4a {f : Fn} {i : Nat} (h : i < (lst f.code).length) : (lst f.code)[i]? = some (yd f i) := by
  rw [yd, List.getD_eq_getElem?_getD, List.getElem?_eq_getElem h]; rfl
end Go.Vm
namespace Go.Vm
open Cel
def y7u (f : Fn) (L : List Ins) : Fn := { f with code := some L }
theorem y22v {f : Fn} {L L' : List Ins} (p g : Nat → Nat) (h : L.length = L'.length) : fnC (y7u f L) p g = fnC (y7u f L') p g := by
  simp [fnC, y7u, ownV, h]
@[simp] theorem y2i5 (f : Fn) (L : List Ins) : lst (y7u f L).code = L := rfl
theorem yft {f : Fn} {L : List Ins} (h : f.code = some L) : y7u f L = f := by
  rw [y7u, ← h]
structure DSt (H : Heap) (f : Fn) (p g : Nat → Nat) (n : Nat) : Prop where
  at_ : FnAt H f p g
  box : H[0]? = some ⟨1, .arr true false 5 [fnC f p g]⟩
  res : ∃ c, H[1]? = some ⟨1, .arr true false 5 [c]⟩ ∧ c.length = 5
  len : n ≤ H.length
  lo : ∀ i, i < 4 → hasL f i = true → 2 ≤ p i ∧ p i < 6
theorem yoo (f : Fn) (p g : Nat → Nat) : (fnC f p g).length = 5 := rfl
theorem y182 (f : Fn) (p g : Nat → Nat) : (fnC f p g).all y19 = true := by simp [fnC]
theorem y1qe {H : Heap} {a : Nat} {c : List AV} (h : H[a]? = some ⟨1, .arr true false 5 [c]⟩) (hl : c.length = 5) : evLd true 5 (.lp a 1 0 0) H = some (.agg c) := by
  have hr : yp H a 1 = some (false, 5, [c]) := by simp [yp, y3s, h]
  rw [y38, hr]
  simp only [List.getElem?_cons_zero, List.drop_zero, y63, if_true, hl, Nat.le_refl]
  rw [List.take_of_length_le (by omega)]
theorem y25m {H : Heap} {a k : Nat} {c : List AV} {v : AV} (h : H[a]? = some ⟨1, .arr true false 5 [c]⟩) (hv : c[k]? = some v) : evLd false 1 (.lp a 1 0 k) H = some v := by
  have hr : yp H a 1 = some (false, 5, [c]) := by simp [yp, y3s, h]
  rw [y38, hr]
  simp only [List.getElem?_cons_zero, ya1, List.head?_drop, hv]
theorem y2gi {H : Heap} {a : Nat} {c d : List AV} {v : AV} (h : H[a]? = some ⟨1, .arr true false 5 [c]⟩) (hl : c.length = 5) (hv : cellsOf v = d) (hd : d.length = 5) (hf : d.all y19 = true) :
    evSt 5 (.lp a 1 0 0) v H = some (.tup [], H.set a ⟨1, .arr true false 5 [d]⟩) := by
  have hr : yp H a 1 = some (false, 5, [c]) := by simp [yp, y3s, h]
  rw [y6o, hr]
  simp only [List.getElem?_cons_zero, hv]
  rw [if_pos ⟨hd, by omega, hf⟩, ymx (by rw [hd, hl]), y2g, h]
  rfl
theorem y1fd {H : Heap} {a : Nat} {c d : List AV} (h : H[a]? = some ⟨1, .arr true false 5 [c]⟩) (hl : c.length = 5) (hd : d.length = 5) (hf : d.all y19 = true) :
    evSt 5 (.lp a 1 0 0) (.agg d) H = some (.tup [], H.set a ⟨1, .arr true false 5 [d]⟩) := y2gi h hl rfl hd hf
theorem y2m6 {H : Heap} {id g i : Nat} {L : List Ins} {x : Ins} (h : H[id]? = some ⟨g, .arr false false 9 (L.map enc)⟩) (hx : L[i]? = some x) : evLd true 9 (.lp id g i 0) H = some (.agg (enc x)) := by
  have hr : yp H id g = some (false, 9, L.map enc) := by simp [yp, y3s, h]
  have hg : (L.map (enc (α := Ins)))[i]? = some (enc x) := by simp [hx]
  rw [y38, hr]
  simp only [hg, List.drop_zero, yom]
theorem y281 {n i : Nat} (h : i < n) (id g e : Nat) (k : IntKind) : yw e (.ls id g e 0 n) (.int k i) = some (.lp id g i 0) := by
  have : (i : Int) < (n : Int) := by omega
  simp [yw, this]
section
variable {H : Heap} {f : Fn} {p g : Nat → Nat} {n : Nat} (D : DSt H f p g n)
include D
theorem DSt.ld : evLd true 5 (.lp 0 1 0 0) H = some (fnV f p g) := y1qe D.box (yoo f p g)
theorem DSt.ldc : evLd false 1 (.lp 0 1 0 3) H = some (ownV (p 2) (g 2) f.code) := y25m D.box rfl
theorem DSt.set {a : Nat} {x : AO} (ha : 6 ≤ a) : DSt (H.set a x) f p g n := by
  refine ⟨D.at_.set fun i hi hh => ?_, by rw [y16 (by omega)]; exact D.box, ?_, by rw [List.length_set]; exact D.len, D.lo⟩
  · have := D.lo i hi hh; omega
  · obtain ⟨c, h1, h2⟩ := D.res
    exact ⟨c, by rw [y16 (by omega)]; exact h1, h2⟩
theorem DSt.setCode {L L' : List Ins} (hL : f.code = some L) (hl : L.length = L'.length) : DSt (H.set (p 2) ⟨g 2, .arr false false 9 (L'.map enc)⟩) (y7u f L') p g n := by
  have hc : hasL f 2 = true := by simp [hasL, hL]
  have h2 := D.lo 2 (by omega) hc
  refine ⟨D.at_.setCode hL, ?_, ?_, by rw [List.length_set]; exact D.len, fun i hi hh => D.lo i hi ?_⟩
  · rw [y16 (by omega), D.box]
    have := y22v (f := f) p g hl
    rw [yft hL] at this
    rw [this]
  · obtain ⟨c, h1, h2⟩ := D.res
    exact ⟨c, by rw [y16 (by omega)]; exact h1, h2⟩
  · match i, hh with
    | 0, hh => exact hh
    | 1, hh => exact hh
    | 2, _ => exact hc
    | i + 3, hh => exact hh
theorem DSt.out : ∃ H', evSt 5 (.lp 1 1 0 0) (fnV f p g) H = some (.tup [], H') ∧ evLd true 5 (.lp 1 1 0 0) H' = some (fnV f p g) ∧ yc H' (fnV f p g) = some (y2t f) := by
  obtain ⟨c, h1, h2⟩ := D.res
  refine ⟨_, y1fd h1 h2 (yoo f p g) (y182 f p g), y1qe (y4m (y7w h1)) (yoo f p g), FnAt.expo (D.at_.set fun i hi hh => ?_)⟩
  have := D.lo i hi hh; omega
theorem DSt.ix {L : List Ins} (hL : f.code = some L) {i : Nat} {x : Ins} (hx : L[i]? = some x) : evLd true 9 (.lp (p 2) (g 2) i 0) H = some (.agg (enc x)) := y2m6 (D.at_.code L hL) hx
theorem DSt.st {L : List Ins} (hL : f.code = some L) {i : Nat} (hi : i < L.length) (y : Ins) : evSt 9 (.lp (p 2) (g 2) i 0) (.agg (enc y)) H = some (.tup [], H.set (p 2) ⟨g 2, .arr false false 9 ((L.set i y).map enc)⟩) :=
  yfa (α := Ins) (D.at_.code L hL) hi rfl
theorem DSt.call {E : Env} {C : Calls2} {fb k : Nat} {sl : Option Nat} {r : Ex AV} {v : AV} (hE : E.pure k = true) (hf : r.fresh = true) (hc : C.p k [.agg (enc f)] = some r) (hr : y1ac r v) : y6 E C fb sl true k [fnV f p g] H = some (v, H) := by
  obtain ⟨fr, ids, hz⟩ := D.at_.fz
  refine yw0 (fa := ⟨[.agg (enc f)], fr && true, ids ++ []⟩) hE ?_ hf hc hr
  rw [ye, hz, yx]
end
theorem y1b4 {f : Fn} (hs : FnSm f) {H : Heap} (h0 : H[0]? = some (AB f)) (h1 : ∃ c, H[1]? = some ⟨1, .arr true false 5 [c]⟩ ∧ c.length = 5) {n : Nat} (hn : 6 ≤ n) (hl : n ≤ H.length) :
    ∃ H1 H2 p g, y6 E (y7 E) 0 (some 2) false 13 [.agg (enc f)] H = some (fnV f p g, H1) ∧ evSt 5 (.lp 0 1 0 0) (fnV f p g) H1 = some (.tup [], H2) ∧ DSt H2 f p g n ∧ H2.length = H.length ∧ ∀ k, 6 ≤ k → H2[k]? = H[k]? := by
  obtain ⟨H1, p, g, e1, A, e2, e3, e4⟩ := y1ov hs (H := H) (fb := 0) (j := 2) (by omega)
  have hb : H1[0]? = some ⟨1, .arr true false 5 [enc f]⟩ := by rw [e4 0 (.inl (by omega)), h0]
  refine ⟨H1, _, p, g, e1, y1fd hb rfl (yoo f p g) (y182 f p g), ⟨A.set fun i hi hh => ?_, y4m (y7w hb), ?_, by rw [List.length_set, e2]; exact hl, fun i hi hh => by have := e3 i hi hh; omega⟩, by rw [List.length_set, e2], fun k hk => ?_⟩
  · have := e3 i hi hh; omega
  · obtain ⟨c, c1, c2⟩ := h1
    exact ⟨c, by rw [y16 (by omega), e4 1 (.inl (by omega))]; exact c1, c2⟩
  · rw [y16 (by omega), e4 k (.inr (by omega))]
end Go.Vm
namespace Go.Vm
abbrev Ws := List (BitVec 64)
def bit (s : Ws) (r : Nat) : Bool := (s.getD (r / 64) 0).getLsbD (r % 64)
def addW (s : Ws) (r : Nat) : Ws := s.set (r / 64) (s.getD (r / 64) 0 ||| BitVec.twoPow 64 (r % 64))
def y1cb (s : Ws) (r : Nat) : Ws := s.set (r / 64) (s.getD (r / 64) 0 &&& ~~~ BitVec.twoPow 64 (r % 64))
def y45 (s t : Ws) : Ws := List.zipWith (· ||| ·) s t
def yen (s t : Ws) : Bool := (List.zipWith (fun a b => decide (b &&& ~~~ a ≠ 0)) s t).any id
def y2m (n : Nat) : Ws := List.replicate n 0
theorem yot (s : Ws) (r : Nat) : (addW s r).length = s.length := by simp [addW]
theorem y1sv (s : Ws) (r : Nat) : (y1cb s r).length = s.length := by simp [y1cb]
theorem y4r {s t : Ws} (h : s.length = t.length) : (y45 s t).length = s.length := by simp [y45, h]
theorem y21j (n r : Nat) : bit (y2m n) r = false := by
  simp only [bit, y2m, List.getD_eq_getElem?_getD, List.getElem?_replicate]
  split <;> simp
theorem y2c3 {s : Ws} {r : Nat} (h : s.length ≤ r / 64) : bit s r = false := by
  simp [bit, List.getD_eq_getElem?_getD, List.getElem?_eq_none h]
theorem y14x {r q : Nat} (h1 : r / 64 = q / 64) (h2 : r % 64 = q % 64) : r = q := by omega
theorem y2fn {s : Ws} {r : Nat} (h : r / 64 < s.length) (q : Nat) : bit (addW s r) q = (bit s q || decide (q = r)) := by
  have hq : q % 64 < 64 := Nat.mod_lt _ (by omega)
  unfold bit addW
  rw [List.getD_eq_getElem?_getD, List.getElem?_set]
  by_cases e : r / 64 = q / 64
  · rw [if_pos e, if_pos h, ← e]
    simp only [Option.getD_some, BitVec.getLsbD_or, BitVec.getLsbD_twoPow]
    by_cases e2 : q = r
    · subst e2; simp [hq]
    · have : ¬ r % 64 = q % 64 := fun h' => e2 (y14x e h').symm
      simp [e2, this]
  · rw [if_neg e]
    have : ¬ q = r := fun h' => e (by rw [h'])
    simp [this, List.getD_eq_getElem?_getD]
theorem y1z5 {s : Ws} {r : Nat} (h : r / 64 < s.length) (q : Nat) : bit (y1cb s r) q = (bit s q && decide (q ≠ r)) := by
  have hq : q % 64 < 64 := Nat.mod_lt _ (by omega)
  unfold bit y1cb
  rw [List.getD_eq_getElem?_getD, List.getElem?_set]
  by_cases e : r / 64 = q / 64
  · rw [if_pos e, if_pos h, ← e]
    simp only [Option.getD_some, BitVec.getLsbD_and, BitVec.getLsbD_not, BitVec.getLsbD_twoPow]
    by_cases e2 : q = r
    · subst e2; simp [hq]
    · have : ¬ r % 64 = q % 64 := fun h' => e2 (y14x e h').symm
      simp [e2, this, hq]
  · rw [if_neg e]
    have : ¬ q = r := fun h' => e (by rw [h'])
    simp [this, List.getD_eq_getElem?_getD]
theorem ybi {s t : Ws} (h : s.length = t.length) (q : Nat) : bit (y45 s t) q = (bit s q || bit t q) := by
  unfold bit y45
  simp only [List.getD_eq_getElem?_getD, List.getElem?_zipWith]
  by_cases hq : q / 64 < s.length
  · rw [List.getElem?_eq_getElem hq, List.getElem?_eq_getElem (by omega)]
    simp
  · rw [List.getElem?_eq_none (by omega), List.getElem?_eq_none (by omega)]
    simp
theorem y1u5 {s t : Ws} (h : s.length = t.length) : yen s t = true ↔ ∃ q, bit t q = true ∧ bit s q = false := by
  unfold yen
  rw [List.any_eq_true]
  constructor
  · rintro ⟨b, hb, h1⟩
    obtain ⟨k, hk⟩ := List.getElem?_of_mem hb
    rw [List.getElem?_zipWith] at hk
    cases hs : s[k]? with
    | none => rw [hs] at hk; simp at hk
    | some a =>
      cases ht : t[k]? with
      | none => rw [hs, ht] at hk; simp at hk
      | some c =>
        rw [hs, ht] at hk
        simp only [Option.some.injEq] at hk
        rw [← hk] at h1
        simp only [id, decide_eq_true_eq] at h1
        have : ∃ j, j < 64 ∧ (c &&& ~~~ a).getLsbD j = true := by
          refine Classical.byContradiction fun hn => h1 ?_
          refine BitVec.eq_of_getLsbD_eq fun j hj => ?_
          rw [show (0 : BitVec 64).getLsbD j = false by simp]
          rw [← Bool.not_eq_true]
          exact fun hb => hn ⟨j, hj, hb⟩
        obtain ⟨j, hj, hb⟩ := this
        rw [BitVec.getLsbD_and, BitVec.getLsbD_not, Bool.and_eq_true] at hb
        have e1 : (64 * k + j) / 64 = k := by omega
        have e2 : (64 * k + j) % 64 = j := by omega
        refine ⟨64 * k + j, ?_, ?_⟩
        · simp only [bit, e1, e2, List.getD_eq_getElem?_getD, ht, Option.getD_some]; exact hb.1
        · simp only [bit, e1, e2, List.getD_eq_getElem?_getD, hs, Option.getD_some]
          have := hb.2
          simpa [hj] using this
  · rintro ⟨q, h1, h2⟩
    have hq : q / 64 < t.length := by
      refine Classical.byContradiction fun hn => ?_
      rw [y2c3 (by omega)] at h1; cases h1
    have hqs : q / 64 < s.length := by omega
    refine ⟨true, List.mem_of_getElem? (i := q / 64) ?_, rfl⟩
    rw [List.getElem?_zipWith, List.getElem?_eq_getElem hq, List.getElem?_eq_getElem hqs]
    simp only [bit, List.getD_eq_getElem?_getD, List.getElem?_eq_getElem hq, List.getElem?_eq_getElem hqs, Option.getD_some] at h1 h2
    have : t[q / 64] &&& ~~~ s[q / 64] ≠ 0 := by
      intro e
      have := congrArg (fun w : BitVec 64 => w.getLsbD (q % 64)) e
      simp only [BitVec.getLsbD_and, BitVec.getLsbD_not, h1, h2] at this
      have hm : q % 64 < 64 := Nat.mod_lt _ (by omega)
      simp [hm] at this
    simp only [decide_eq_true this]
theorem yqh {s t : Ws} (h : s.length = t.length) (hm : yen s t = false) : y45 s t = s := by
  refine List.ext_getElem (y4r h) fun k h1 h2 => ?_
  have hk : k < t.length := by omega
  simp only [y45, List.getElem_zipWith]
  have hz : t[k] &&& ~~~ s[k] = 0 := by
    refine Classical.byContradiction fun hn => ?_
    have : yen s t = true := by
      unfold yen
      rw [List.any_eq_true]
      refine ⟨true, List.mem_of_getElem? (i := k) ?_, rfl⟩
      rw [List.getElem?_zipWith, List.getElem?_eq_getElem hk, List.getElem?_eq_getElem h2]
      simp only [decide_eq_true (show t[k] &&& ~~~ s[k] ≠ 0 from hn)]
    rw [hm] at this; cases this
  refine BitVec.eq_of_getLsbD_eq fun j hj => ?_
  have := congrArg (fun w : BitVec 64 => w.getLsbD j) hz
  simp only [BitVec.getLsbD_and, BitVec.getLsbD_not, BitVec.getLsbD_or] at this ⊢
  cases ha : s[k].getLsbD j <;> cases hb : t[k].getLsbD j <;> simp_all
end Go.Vm
namespace Go.Vm
open Cel
attribute [local simp] y6 y29 yl
def okB (b : UInt8) : Bool := (decide (97 ≤ b.toNat) && decide (b.toNat ≤ 122)) || (decide (65 ≤ b.toNat) && decide (b.toNat ≤ 90)) || (decide (48 ≤ b.toNat) && decide (b.toNat ≤ 57)) || decide (b.toNat = 95) || decide (b.toNat = 36) || decide (b.toNat = 47)
def y7r (s : List UInt8) : Bool := decide (1 ≤ s.length) && decide (s.length ≤ 60) && s.all okB
theorem y1w0 (s : List UInt8) (i : Nat) (hi : i < s.length) (v18 : AV) :
    q7_4 (.bool false) (.ls 0 1 1 0 s.length) v18 (.int .i64 i) [⟨1, .arr false false 1 (s.map fun b => [.int .u8 b.toNat])⟩] =
      if okB s[i] then q7_3 (.bool false) (.ls 0 1 1 0 s.length) v18 (.int .i64 i) [⟨1, .arr false false 1 (s.map fun b => [.int .u8 b.toNat])⟩] else some ⟨.bool false, [], true, [], []⟩ := by
  have hc : ((i : Int) < (s.length : Int)) := by omega
  generalize hb : s[i].toNat = n
  have e : (s.map fun b => ([.int .u8 b.toNat] : List AV))[i]? = some [.int .u8 (n : Int)] := by
    rw [List.getElem?_map, List.getElem?_eq_getElem hi, ← hb]; rfl
  have ho : okB s[i] = ((decide (97 ≤ n) && decide (n ≤ 122)) || (decide (65 ≤ n) && decide (n ≤ 90)) || (decide (48 ≤ n) && decide (n ≤ 57)) || decide (n = 95) || decide (n = 36) || decide (n = 47)) := by
    rw [okB, hb]
  rw [ho]
  have c1 : ∀ k : Nat, ((k : Int) ≤ (n : Int)) = (k ≤ n) := fun k => by simp
  have f1 : ((97 : Int) ≤ (n : Int)) = (97 ≤ n) := c1 97
  have f2 : ((65 : Int) ≤ (n : Int)) = (65 ≤ n) := c1 65
  have f3 : ((48 : Int) ≤ (n : Int)) = (48 ≤ n) := c1 48
  have g1 : ((n : Int) ≤ (122 : Int)) = (n ≤ 122) := by simp; omega
  have g2 : ((n : Int) ≤ (90 : Int)) = (n ≤ 90) := by simp; omega
  have g3 : ((n : Int) ≤ (57 : Int)) = (n ≤ 57) := by simp; omega
  have d1 : ((n : Int) = (95 : Int)) = (n = 95) := by simp; omega
  have d2 : ((n : Int) = (36 : Int)) = (n = 36) := by simp; omega
  have d3 : ((n : Int) = (47 : Int)) = (n = 47) := by simp; omega
  have step : ∀ (b1 b2 b3 b4 b5 b6 b7 b8 b9 : Bool), decide (97 ≤ n) = b1 → decide (n ≤ 122) = b2 → decide (65 ≤ n) = b3 → decide (n ≤ 90) = b4 → decide (48 ≤ n) = b5 → decide (n ≤ 57) = b6 → decide (n = 95) = b7 → decide (n = 36) = b8 → decide (n = 47) = b9 →
      q7_4 (.bool false) (.ls 0 1 1 0 s.length) v18 (.int .i64 i) [⟨1, .arr false false 1 (s.map fun b => [.int .u8 b.toNat])⟩] =
      if (b1 && b2) || (b3 && b4) || (b5 && b6) || b7 || b8 || b9 then q7_3 (.bool false) (.ls 0 1 1 0 s.length) v18 (.int .i64 i) [⟨1, .arr false false 1 (s.map fun b => [.int .u8 b.toNat])⟩] else some ⟨.bool false, [], true, [], []⟩ := by
    intro b1 b2 b3 b4 b5 b6 b7 b8 b9 h1 h2 h3 h4 h5 h6 h7 h8 h9
    rw [q7_4]
    have e0 : yw 1 (.ls 0 1 1 0 s.length) (.int .i64 i) = some (.lp 0 1 i 0) := by simp [yw, hc, hi]
    have tri : ∀ a b : Bool, (a = false) ∨ (a = true ∧ b = false) ∨ (a = true ∧ b = true) := by intro a b; cases a <;> cases b <;> simp
    have l1 : y5 .geq (.int .u8 (n : Int)) (.int .u8 97) = some (.bool b1) := by rw [y1l]; simp only [f1, h1]
    have l2 : y5 .leq (.int .u8 (n : Int)) (.int .u8 122) = some (.bool b2) := by rw [y5i]; simp only [g1, h2]
    have l3 : y5 .geq (.int .u8 (n : Int)) (.int .u8 65) = some (.bool b3) := by rw [y1l]; simp only [f2, h3]
    have l4 : y5 .leq (.int .u8 (n : Int)) (.int .u8 90) = some (.bool b4) := by rw [y5i]; simp only [g2, h4]
    have l5 : y5 .geq (.int .u8 (n : Int)) (.int .u8 48) = some (.bool b5) := by rw [y1l]; simp only [f3, h5]
    have l6 : y5 .leq (.int .u8 (n : Int)) (.int .u8 57) = some (.bool b6) := by rw [y5i]; simp only [g3, h6]
    have l7 : y5 .eql (.int .u8 (n : Int)) (.int .u8 95) = some (.bool b7) := by rw [y2h]; simp only [d1, h7]
    have l8 : y5 .eql (.int .u8 (n : Int)) (.int .u8 36) = some (.bool b8) := by rw [y2h]; simp only [d2, h8]
    have l9 : y5 .eql (.int .u8 (n : Int)) (.int .u8 47) = some (.bool b9) := by rw [y2h]; simp only [d3, h9]
    clear h1 h2 h3 h4 h5 h6 h7 h8 h9
    simp only [e0, y9, y38, ye8, e, List.drop_zero, ya1, List.head?_cons, l1]
    generalize q7_3 (.bool false) (.ls 0 1 1 0 s.length) v18 (.int .i64 i) [⟨1, .arr false false 1 (s.map fun b => [.int .u8 b.toNat])⟩] = Z
    rcases tri b1 b2 with rfl | ⟨rfl, rfl⟩ | ⟨rfl, rfl⟩ <;> simp only [l2, y55, yf1, yp4, y79, yd8, y9, y18, y1e, y3w, y2i, y39, l3, yy] <;> try (simp; done)
    all_goals rcases tri b3 b4 with rfl | ⟨rfl, rfl⟩ | ⟨rfl, rfl⟩ <;> simp only [l4, y55, yf1, yp4, y79, yd8, y9, y18, y1e, y3w, y2i, y39, l5, yy] <;> try (simp; done)
    all_goals rcases tri b5 b6 with rfl | ⟨rfl, rfl⟩ | ⟨rfl, rfl⟩ <;> simp only [l6, y55, yf1, yp4, y79, yd8, y9, y18, y1e, y3w, y2i, y39, l7, yy] <;> try (simp; done)
    all_goals cases b7 <;> simp only [y55, yf1, yp4, y79, yd8, y9, y18, y1e, y3w, y2i, y39, l8, yy] <;> try (simp; done)
    all_goals cases b8 <;> simp only [y55, yf1, yp4, y79, yd8, y9, y18, y1e, y3w, y2i, y39, l9, yy] <;> try (simp; done)
    all_goals cases b9 <;> simp
  exact step _ _ _ _ _ _ _ _ _ rfl rfl rfl rfl rfl rfl rfl rfl rfl
end Go.Vm
namespace Go.Vm
open Cel
attribute [local simp] y6 y29 yl
theorem y1ve (s : List UInt8) (hl : s.length ≤ 60) : ∀ (d i : Nat), i + d = s.length →
    y1t6 (.bool false) (.ls 0 1 1 0 s.length) (.int .i64 s.length) (.int .i64 i) [⟨1, .arr false false 1 (s.map fun b => [.int .u8 b.toNat])⟩] = some ⟨.bool ((s.drop i).all okB), [], true, [], []⟩ := by
  intro d
  induction d with
  | zero =>
    intro i hi
    have e1 : s.drop i = [] := List.drop_eq_nil_of_le (by omega)
    have hc : ¬ ((i : Int) < (s.length : Int)) := by omega
    rw [yyz, e1]
    simp [q7_6, q7_5, q7_1, hc]
  | succ d ih =>
    intro i hi
    have hlt : i < s.length := by omega
    have hc : ((i : Int) < (s.length : Int)) := by omega
    have := ih (i + 1) (by omega)
    push_cast at this
    have e1 : (s.drop i).all okB = (okB s[i] && (s.drop (i + 1)).all okB) := by rw [List.drop_eq_getElem_cons hlt, List.all_cons]
    have hw : IntKind.wrap .i64 ((i : Int) + 1) = (i : Int) + 1 := y2a (by omega) (by omega)
    rw [yyz, e1]
    simp only [q7_6, q7_5, yj, y9, hc, decide_true, y2i, y1w0 s i hlt]
    cases okB s[i]
    · simp
    · simp [q7_3, hw, this]
@[simp] theorem y2ti (s : List UInt8) : (y7 E).p 60 [.str s, .bool false] = some ⟨.bool (y7r s), [], true, [], []⟩ := by
  rw [x_q7]
  by_cases h1 : ((s.length : Int) < 1)
  · have : ¬ 1 ≤ s.length := by omega
    simp [q7_1, q7_3, q7_4, q7_5, q7_6, q7_8, y1fg, y1wc, h1, y7r, this]
  by_cases h2 : ((60 : Int) < (s.length : Int))
  · have : ¬ s.length ≤ 60 := by omega
    simp [q7_1, q7_3, q7_4, q7_5, q7_6, q7_8, y1fg, y1wc, h1, h2, y7r, this]
  · have a1 : 1 ≤ s.length := by omega
    have a2 : s.length ≤ 60 := by omega
    have := y1ve s a2 s.length 0 (by omega)
    simp only [List.drop_zero] at this
    simp only [y7r, a1, a2, decide_true, Bool.true_and, ← this]
    simp [y1wc, y1fg, q7_8, h1, h2, s2bC]
def lead : List UInt8 → Nat
  | [] => 0
  | c :: r => if c = 91 then lead r + 1 else 0
theorem yaa : ∀ s : List UInt8, lead s ≤ s.length
  | [] => Nat.le_refl _
  | c :: r => by
    have := yaa r
    simp only [lead, List.length_cons]
    split <;> omega
theorem yvz : ∀ {s : List UInt8} {i : Nat}, i < lead s → s[i]? = some 91
  | [], i, h => by simp [lead] at h
  | c :: r, i, h => by
    simp only [lead] at h
    split at h
    · rename_i e
      cases i with
      | zero => simp [e]
      | succ i => simpa using yvz (s := r) (by omega)
    · omega
theorem ywz : ∀ {s : List UInt8} {c : UInt8}, s[lead s]? = some c → c ≠ 91
  | [], c, h => by simp at h
  | d :: r, c, h => by
    simp only [lead] at h
    split at h
    · exact ywz (s := r) (by simpa using h)
    · rename_i e; simp at h; rw [← h]; exact e
def yqv (s : List UInt8) : Nat :=
  if 8 < lead s ∨ lead s = s.length then 0
  else if s[lead s]? = some 73 ∨ s[lead s]? = some 74 then lead s + 1
  else if s[lead s]? = some 76 then
    (if (s.drop (lead s + 1)).findIdx (· == 59) < (s.drop (lead s + 1)).length ∧ y7r ((s.take (lead s + 1 + (s.drop (lead s + 1)).findIdx (· == 59))).drop (lead s + 1)) = true then lead s + 1 + (s.drop (lead s + 1)).findIdx (· == 59) + 1 else 0)
  else 0
theorem ixstr {s : List UInt8} {i : Nat} {c : UInt8} (h : s[i]? = some c) : y3a (.str s) (.int .i64 i) = some (.int .u8 c.toNat) := by
  simp [y3a, h]
theorem y5m (c : UInt8) (k : UInt8) : ((c.toNat : Int) = (k.toNat : Int)) ↔ c = k := by
  rw [Int.ofNat_inj]; exact ⟨fun h => UInt8.toNat_inj.1 h, fun h => by rw [h]⟩
theorem y1f3 (s : List UInt8) (hs : s.length ≤ 9223372036854775807) (h : Heap) : ∀ (d i : Nat), i + d = lead s → ys4 (.str s) (.int .i64 i) h = yl1 (.str s) (.int .i64 (lead s)) h := by
  intro d
  induction d with
  | zero =>
    intro i hi
    obtain rfl : i = lead s := by omega
    rw [yqf]
    have := yaa s
    by_cases hc : lead s < s.length
    · have e := List.getElem?_eq_getElem hc
      have hne := ywz e
      have hc' : ((lead s : Int) < (s.length : Int)) := by omega
      have hb : ¬ ((s[lead s].toNat : Int) = 91) := fun hh => hne ((y5m _ 91).1 hh)
      simp [y1mm, hc', ixstr e, hb]
    · have hc' : ¬ ((lead s : Int) < (s.length : Int)) := by omega
      simp [y1mm, hc']
  | succ d ih =>
    intro i hi
    have e := yvz (s := s) (i := i) (by omega)
    have := yaa s
    have hc' : ((i : Int) < (s.length : Int)) := by omega
    have ih := ih (i + 1) (by omega)
    push_cast at ih
    rw [yqf]
    simp [y1mm, hc', ixstr e, y2cd, y1f (show i < s.length by omega) hs, ih]
theorem y1n9 (s : List UInt8) (hs : s.length ≤ 9223372036854775807) (n : Nat) (h : Heap) : ∀ (d i : Nat), n + 1 ≤ i → i + d = s.length →
    y1gk (.str s) (.int .i64 n) (.int .i64 i) h =
      some ⟨.int .i64 (if (s.drop i).findIdx (· == 59) < (s.drop i).length ∧ y7r ((s.take (i + (s.drop i).findIdx (· == 59))).drop (n + 1)) = true then (i + (s.drop i).findIdx (· == 59) + 1 : Nat) else (0 : Nat)), [], true, [], []⟩ := by
  intro d
  induction d with
  | zero =>
    intro i h1 hi
    rw [y15g]
    have e1 : s.drop i = [] := List.drop_eq_nil_of_le (by omega)
    have hc : ¬ ((i : Int) < (s.length : Int)) := by omega
    simp [y1be, q9_1, hc, e1]
  | succ d ih =>
    intro i h1 hi
    rw [y15g]
    have hlt : i < s.length := by omega
    have e := List.getElem?_eq_getElem hlt
    have hc : ((i : Int) < (s.length : Int)) := by omega
    have hd : s.drop i = s[i] :: s.drop (i + 1) := List.drop_eq_getElem_cons hlt
    by_cases hb : s[i] = 59
    · have hb' : ((s[i].toNat : Int) = 59) := (y5m _ 59).2 hb
      have hf : (s.drop i).findIdx (· == 59) = 0 := by rw [hd, List.findIdx_cons]; simp [hb]
      have hw1 : IntKind.wrap .i64 ((n : Int) + 1) = (n : Int) + 1 := y1f (show n < s.length by omega) hs
      have hsl : yef (.str s) (some (.int .i64 ((n : Int) + 1))) (some (.int .i64 (i : Int))) = some (.str ((s.take i).drop (n + 1))) := by
        have a1 : ((0 : Int) ≤ (i : Int) ∧ (i : Int) ≤ (s.length : Int)) := by omega
        have a2 : ((0 : Int) ≤ (n : Int) + 1 ∧ (n : Int) + 1 ≤ (i : Int)) := by omega
        simp only [yef, y98, yhq, if_pos a1, Int.toNat_natCast, if_pos a2]
        rfl
      rw [hf]
      have hlen : 0 < (s.drop i).length := by rw [List.length_drop]; omega
      cases hn : y7r ((s.take i).drop (n + 1)) with
      | true =>
        simp only [y1be, q9_7, q9_6, q9_5, y4s, y9, yj, hc, decide_true, y2i, ixstr e, y2h, hb', y1s, hw1, hsl]
        simp [hn, hlt, y1f hlt hs]
        omega
      | false =>
        simp only [y1be, q9_7, q9_6, q9_5, y4s, y9, yj, hc, decide_true, y2i, ixstr e, y2h, hb', y1s, hw1, hsl]
        simp [hn, q9_4]
    · have hb' : ¬ ((s[i].toNat : Int) = 59) := fun hh => hb ((y5m _ 59).1 hh)
      have hf : (s.drop i).findIdx (· == 59) = (s.drop (i + 1)).findIdx (· == 59) + 1 := by
        rw [hd, List.findIdx_cons]
        have : (s[i] == 59) = false := by simpa using hb
        rw [this]; rfl
      have hl : (s.drop i).length = (s.drop (i + 1)).length + 1 := by rw [hd]; rfl
      have ih := ih (i + 1) (by omega) (by omega)
      push_cast at ih
      rw [hf, hl]
      have e2 : i + ((s.drop (i + 1)).findIdx (· == 59) + 1) = i + 1 + (s.drop (i + 1)).findIdx (· == 59) := by omega
      rw [e2]
      simp only [y1be, q9_7, q9_6, q9_3, y4s, y9, yj, hc, decide_true, y2i, y39, ixstr e, y2h, hb', decide_false, y1s, y1f hlt hs, ih]
      simp only [Nat.add_lt_add_iff_right]
      push_cast
      rfl
@[simp] theorem y2m8 (s : List UInt8) (hs : s.length ≤ 9223372036854775807) : (y7 E).p 44 [.str s] = some ⟨.int .i64 (yqv s), [], true, [], []⟩ := by
  rw [x_q9]
  have h0 := y1f3 s hs [] (lead s) 0 (by omega)
  simp only [Int.ofNat_zero] at h0
  have hle := yaa s
  have key : yl1 (.str s) (.int .i64 (lead s)) [] = some ⟨.int .i64 (yqv s), [], true, [], []⟩ := by
    unfold yqv
    by_cases h8 : 8 < lead s
    · have h8' : ((8 : Int) < (lead s : Int)) := by omega
      simp [yl1, h8', h8]
    by_cases hl : lead s = s.length
    · have h8' : ¬ ((8 : Int) < (lead s : Int)) := by omega
      have hl' : ((lead s : Int) = (s.length : Int)) := by omega
      have h9' : ¬ ((8 : Int) < (s.length : Int)) := by omega
      simp [yl1, h8', h9', hl', hl]
    · have h8' : ¬ ((8 : Int) < (lead s : Int)) := by omega
      have hl' : ¬ ((lead s : Int) = (s.length : Int)) := by omega
      have hlt : lead s < s.length := by omega
      have e := List.getElem?_eq_getElem hlt
      rw [if_neg (by simp [h8, hl]), e]
      have hw := y1f hlt hs
      by_cases c1 : s[lead s] = 73
      · have c1' : ((s[lead s].toNat : Int) = 73) := (y5m _ 73).2 c1
        simp [yl1, y1e9, y1by, yxj, h8', hl', ixstr e, c1', c1, hw]
      by_cases c2 : s[lead s] = 74
      · have c2' : ((s[lead s].toNat : Int) = 74) := (y5m _ 74).2 c2
        simp [yl1, y1e9, y1by, yxj, h8', hl', ixstr e, c2', c2, hw]
      have c1' : ¬ ((s[lead s].toNat : Int) = 73) := fun hh => c1 ((y5m _ 73).1 hh)
      have c2' : ¬ ((s[lead s].toNat : Int) = 74) := fun hh => c2 ((y5m _ 74).1 hh)
      by_cases c3 : s[lead s] = 76
      · have c3' : ((s[lead s].toNat : Int) = 76) := (y5m _ 76).2 c3
        have := y1n9 s hs (lead s) [] _ (lead s + 1) (Nat.le_refl _) (show lead s + 1 + (s.length - (lead s + 1)) = s.length by omega)
        push_cast at this
        simp [yl1, y1e9, y1by, yxj, y24g, y20p, y2ej, h8', hl', ixstr e, c1', c2', c3', c1, c2, c3, hw, this]
        split <;> simp
      · have c3' : ¬ ((s[lead s].toNat : Int) = 76) := fun hh => c3 ((y5m _ 76).1 hh)
        simp [yl1, y1e9, y1by, yxj, y24g, y20p, q9_1, h8', hl', ixstr e, c1', c2', c3', c1, c2, c3]
  rw [← key, ← h0]
  simp [y29t, y2d6]
def y7k (s : List UInt8) : Bool := decide (s ≠ []) && decide (yqv s = s.length)
@[simp] theorem y2o3 (s : List UInt8) (hs : s.length ≤ 9223372036854775807) : (y7 E).p 37 [.str s] = some ⟨.bool (y7k s), [], true, [], []⟩ := by
  rw [x_q8]
  have h := y2m8 s hs
  by_cases h1 : s = []
  · simp [q8_1, h1, y7k]
  · have e : ((yqv s : Int) = (s.length : Int)) ↔ yqv s = s.length := by omega
    simp [q8_1, h1, y7k, h, e]
end Go.Vm
namespace Go.Vm
open Cel
attribute [local simp] y6 y29 yl
def numK (c : Int) : Int × Int × Int :=
  if c ∈ [96, 100, 104, 108, 112, 120, 122, 124, 126, 128, 130] then (1, 1, 1)
  else if c ∈ [97, 101, 105, 109, 113, 127, 129, 131] then (2, 2, 2)
  else if c ∈ [121, 123, 125] then (2, 1, 2)
  else if c = 148 then (2, 2, 1)
  else if c ∈ [116, 145, 146, 147] then (1, 0, 1)
  else if c = 117 then (2, 0, 2)
  else if c = 133 then (1, 0, 2)
  else if c = 136 then (2, 0, 1)
  else (0, 0, 0)
def yyc (r : Option (Ex AV)) (k : Int × Int × Int) : Bool :=
  match r with
  | some ⟨.tup [.int .i64 a, .int .i64 b, .int .i64 c], [], true, [], []⟩ => a == k.1 && b == k.2.1 && c == k.2.2
  | _ => false
theorem ysd {r : Option (Ex AV)} {k : Int × Int × Int} (h : yyc r k = true) : r = some ⟨.tup [.int .i64 k.1, .int .i64 k.2.1, .int .i64 k.2.2], [], true, [], []⟩ := by
  unfold yyc at h
  split at h
  · simp only [Bool.and_eq_true, beq_iff_eq] at h
    obtain ⟨⟨h1, h2⟩, h3⟩ := h
    rw [h1, h2, h3]
  · cases h
theorem yax {n : Nat} {f : Nat → Bool} (h : ((List.range n).all f) = true) (i : Nat) (hi : i < n) : f i = true := by
  rw [List.all_eq_true] at h
  exact h i (List.mem_range.2 hi)
theorem y2lu : ((List.range 60).all fun i => yyc ((both E 30).1.p 50 [.int .i64 (95 + i)]) (numK (95 + i))) = true := by kernel_rfl
theorem ygy {c : Int} (h : c < 96 ∨ 148 < c) : numK c = (0, 0, 0) := by
  simp only [numK, List.mem_cons, List.not_mem_nil, or_false]
  repeat' split
  all_goals first | rfl | omega
theorem y29z (c : Int) : (y7 E).p 50 [.int .i64 c] = some ⟨.tup [.int .i64 (numK c).1, .int .i64 (numK c).2.1, .int .i64 (numK c).2.2], [], true, [], []⟩ := by
  by_cases h : c < 96 ∨ 148 < c
  · rw [ygy h, y2po]
    have h2 : ∀ k : Int, 96 ≤ k → k ≤ 148 → ¬ c = k := by omega
    simp [y2db, y1e0, y2dc, y2aj, y2ed, y1jv, y2cn, yl0, y2a3, y7t, y1nt, y1tw, y1nh, h2]
    rfl
  · have := yax y2lu (c - 95).toNat (by omega)
    have e : (95 + ((c - 95).toNat : Int)) = c := by omega
    simp only [e] at this
    exact y00 30 (ysd this)
end Go.Vm
namespace Go.Vm
def yq (x : Ins) : Int × Int × Int × Int × Bool :=
  match x.op with
  | 1 => (0, -1, -1, -1, true)
  | 2 => (3, -1, -1, -1, true)
  | 3 => (3, -1, -1, -1, true)
  | 4 => (0, 0, -1, -1, true)
  | 5 => ((numK x.n).2.2, (numK x.n).1, (numK x.n).2.1, -1, decide (¬ (numK x.n).2.1 = 0))
  | 6 => ((numK x.n).2.2, (numK x.n).1, -1, -1, decide (¬ (numK x.n).1 = 0) && decide ((numK x.n).2.1 = 0))
  | 7 => (-1, 0, -1, -1, true)
  | 8 => (-1, 3, -1, -1, true)
  | 9 => (-1, 3, 1, -1, true)
  | 10 => (-1, 1, -1, -1, true)
  | 11 => (-1, 3, 3, -1, true)
  | 12 => (-1, 3, -1, -1, y7k x.s)
  | 13 => (0, 3, 1, -1, true)
  | 14 => (-1, 3, 1, 0, true)
  | 15 => (1, 3, -1, -1, true)
  | 16 => (0, 3, -1, -1, decide (0 ≤ x.n))
  | 17 => (-1, 3, 0, -1, decide (0 ≤ x.n))
  | 18 => (0, -1, -1, -1, true)
  | 19 => (-1, 0, -1, -1, true)
  | 20 => (3, -1, -1, -1, true)
  | 21 => (3, 1, -1, -1, y7k x.s)
  | 22 => (1, 3, -1, -1, y7k x.s)
  | 23 => (if x.d = -1 then -1 else 0, -1, -1, -1, decide (0 ≤ x.n) && decide ((lst x.args).length ≤ 21))
  | 24 => (if x.d = -1 then -1 else 0, -1, -1, -1, decide (0 < (lst x.args).length) && decide (0 ≤ x.n) && decide ((lst x.args).length ≤ 21))
  | 25 => (if x.d = -1 then -1 else 0, -1, -1, -1, decide (0 < (lst x.args).length) && decide ((lst x.args).length ≤ 21))
  | 26 => (if x.d = -1 then -1 else 0, -1, -1, -1, decide (0 ≤ x.n) && decide ((lst x.args).length ≤ 21))
  | 27 => (-1, -1, -1, -1, true)
  | 28 => (-1, 1, 1, -1, decide (0 ≤ x.n) && decide (x.n ≤ 5))
  | 29 => (-1, 3, if x.b = -1 then -1 else 3, -1, decide (x.n = 0) || decide (x.n = 1))
  | 30 => (-1, if x.a = -1 then -1 else 0, -1, -1, true)
  | 31 => (-1, 3, -1, -1, true)
  | 32 => (3, -1, -1, -1, true)
  | 33 => (-1, -1, -1, -1, true)
  | _ => (0, 0, 0, 0, false)
def exK (k : Int × Int × Int × Int × Bool) : Ex AV := ⟨.tup [.agg [.int .i64 k.1, .int .i64 k.2.1, .int .i64 k.2.2.1, .int .i64 k.2.2.2.1], .bool k.2.2.2.2], [], true, [], []⟩
theorem yof {x : Ins} (h : x.op < 1 ∨ 33 < x.op) : yq x = (0, 0, 0, 0, false) := by
  unfold yq
  split <;> first | rfl | omega
end Go.Vm
namespace Go.Vm
def regK (R : List Int) (r : Int) : Int := if r < 0 then 0 else R.getD r.toNat 0
def inR (R : List Int) (r : Int) : Bool := decide (0 ≤ r) && decide (r < R.length)
def y26 (R : List Int) (w r : Int) : Bool := decide (w < 0) || (inR R r && (decide (w ≤ 0) || decide (regK R r = w)))
def yjy (R : List Int) (x : Ins) : Bool :=
  match lst x.args with
  | [] => true
  | r :: _ => !(decide (x.op = 24) || decide (x.op = 25)) || decide (regK R r = 3)
def y6u (R : List Int) (x : Ins) : Bool := !calls x.op || (yjy R x && (lst x.args).all (inR R))
def y3d (R : List Int) (ret : Int) (n : Nat) (x : Ins) : Bool :=
  if x.op = 1 then decide (¬ regK R x.d = 3) && (decide (regK R x.d = 2) || decide (x.n = IntKind.wrap .i64 (IntKind.wrap .i32 x.n)))
  else if x.op = 4 then decide (regK R x.d = regK R x.a)
  else if x.op = 7 then decide (¬ regK R x.a = 3)
  else if x.op = 30 then (decide (x.a = -1) == decide (ret = 0)) && (decide (x.a = -1) || decide (regK R x.a = ret))
  else !leads x.op || (decide (0 ≤ x.t) && decide (x.t < n))
def y25 (f : Fn) (x : Ins) : Bool :=
  (yq x).2.2.2.2 && y26 (lst f.regs) (yq x).1 x.d && y26 (lst f.regs) (yq x).2.1 x.a && y26 (lst f.regs) (yq x).2.2.1 x.b && y26 (lst f.regs) (yq x).2.2.2.1 x.c &&
    y6u (lst f.regs) x && y3d (lst f.regs) f.ret (lst f.code).length x
theorem yx0 {R : List Int} {r : Int} (h : inR R r = true) : 0 ≤ r ∧ r.toNat < R.length ∧ R[r.toNat]? = some (regK R r) := by
  simp only [inR, Bool.and_eq_true, decide_eq_true_eq] at h
  have h1 : r.toNat < R.length := by omega
  refine ⟨h.1, h1, ?_⟩
  rw [regK, if_neg (by omega), List.getD_eq_getElem?_getD, List.getElem?_eq_getElem h1]; rfl
def y51 (n : Nat) (t : Int) : Bool := decide (0 ≤ t) && decide (t < n)
def y3q (C : List Ins) (i : Nat) (x : Ins) : Bool :=
  !((decide (x.op = 32) && (decide (i = 0) || !ends ((C.getD (i - 1) default).op))) || (leads x.op && decide ((C.getD x.t.toNat default).op = 32)))
def y44 (f : Fn) (C : List Ins) : Nat → List Ins → Bool
  | _, [] => true
  | i, x :: r => y25 f x && y3q C i x && y44 f C (i + 1) r
def y4g (C : List Ins) (r : Row) : Bool :=
  !(decide (r.f < 0) || decide (r.t ≤ r.f) || decide ((C.length : Int) < r.t) || decide (r.at_ < 0) || decide ((C.length : Int) ≤ r.at_) || decide (¬ (C.getD r.at_.toNat default).op = 32))
def ycq (R : List Int) : Nat → List Int → List Int → Bool
  | _, _, [] => true
  | i, seen, p :: r => (inR R p && !seen.contains p && decide (i ≤ 20)) && ycq R (i + 1) (seen ++ [p]) r
def wf (f : Fn) : Bool :=
  decide (1 ≤ (lst f.code).length) && decide ((lst f.code).length ≤ 20000) && decide ((lst f.regs).length ≤ 20000) && decide (0 ≤ f.ret) && decide (f.ret ≤ 3) && ends ((lst f.code).getD ((lst f.code).length - 1) default).op &&
    (lst f.regs).all (fun k => decide (1 ≤ k) && decide (k ≤ 3)) && ycq (lst f.regs) 0 [] (lst f.params) && y44 f (lst f.code) 0 (lst f.code) && (lst f.rows).all (y4g (lst f.code))
end Go.Vm
namespace Go.Vm
theorem yi4 {f : Fn} {C : List Ins} : ∀ {l : List Ins} {i k : Nat} {x : Ins}, y44 f C i l = true → l[k]? = some x → y25 f x = true ∧ y3q C (i + k) x = true
  | [], _, _, _, _, h => by simp at h
  | y :: l, i, k, x, hk, h => by
    simp only [y44, Bool.and_eq_true] at hk
    cases k with
    | zero => simp at h; subst h; exact hk.1
    | succ k =>
      have := yi4 hk.2 (by simpa using h)
      rwa [show i + 1 + k = i + (k + 1) by omega] at this
structure Wf (f : Fn) : Prop where
  n1 : 1 ≤ (lst f.code).length
  n2 : (lst f.code).length ≤ 20000
  regs : (lst f.regs).length ≤ 20000
  ret0 : 0 ≤ f.ret
  ret3 : f.ret ≤ 3
  last : ends (yd f ((lst f.code).length - 1)).op = true
  kinds : ∀ k ∈ lst f.regs, 1 ≤ k ∧ k ≤ 3
  pars : ycq (lst f.regs) 0 [] (lst f.params) = true
  ins : ∀ i, i < (lst f.code).length → y25 f (yd f i) = true
  spot : ∀ i, i < (lst f.code).length → y3q (lst f.code) i (yd f i) = true
  rows : ∀ r ∈ lst f.rows, y4g (lst f.code) r = true
theorem ypn {f : Fn} (h : wf f = true) : Wf f := by
  simp only [wf, Bool.and_eq_true, decide_eq_true_eq, List.all_eq_true] at h
  obtain ⟨⟨⟨⟨⟨⟨⟨⟨⟨h1, h2⟩, h3⟩, h4⟩, h5⟩, h6⟩, h7⟩, h8⟩, h9⟩, h10⟩ := h
  refine ⟨h1, h2, h3, h4, h5, h6, h7, h8, fun i hi => ?_, fun i hi => ?_, h10⟩
  · exact (yi4 h9 (y4a hi)).1
  · have := (yi4 h9 (y4a hi)).2
    rwa [Nat.zero_add] at this
theorem ywb {R : List Int} {ret : Int} {n : Nat} {x : Ins} (h : y3d R ret n x = true) (hl : leads x.op = true) : 0 ≤ x.t ∧ x.t < n := by
  have hne : ¬ x.op = 1 ∧ ¬ x.op = 4 ∧ ¬ x.op = 7 ∧ ¬ x.op = 30 := by
    simp only [leads, Bool.or_eq_true, decide_eq_true_eq] at hl
    omega
  simp only [y3d, hne, if_false, hl, Bool.not_true, Bool.false_or, Bool.and_eq_true, decide_eq_true_eq] at h
  exact h
theorem Wf.leads {f : Fn} (w : Wf f) {i : Nat} (hi : i < (lst f.code).length) (hl : Go.Vm.leads (yd f i).op = true) : 0 ≤ (yd f i).t ∧ (yd f i).t < (lst f.code).length := by
  have h := w.ins i hi
  simp only [y25, Bool.and_eq_true] at h
  exact ywb h.2 hl
structure RowIn (f : Fn) (r : Row) : Prop where
  f0 : 0 ≤ r.f
  ft : r.f < r.t
  tn : r.t ≤ (lst f.code).length
  a0 : 0 ≤ r.at_
  an : r.at_ < (lst f.code).length
  op : (yd f r.at_.toNat).op = 32
theorem Wf.row {f : Fn} (w : Wf f) {r : Row} (hr : r ∈ lst f.rows) : RowIn f r := by
  have h := w.rows r hr
  simp only [y4g, Bool.not_eq_true', Bool.or_eq_false_iff, decide_eq_false_iff_not, Classical.not_not] at h
  exact ⟨by omega, by omega, by omega, by omega, by omega, h.2⟩
end Go.Vm
namespace Go.Vm
def yaq (f : Fn) (i : Nat) : List Int := lst (uses (yd f i))
def y9u (f : Fn) (r : Int) (i : Nat) : List Int := y10 f i ++ if defr (yd f i) = r then [] else y1m f i
def badR (f : Fn) (r : Int) : Prop := ∃ i, Rch (lst f.code).length (y9u f r) [0] i ∧ r ∈ yaq f i
def setP (f : Fn) : Prop := ∀ r : Int, 0 ≤ r → r < (lst f.regs).length → r ∉ lst f.params → ¬ badR f r
open Classical in
noncomputable def setM (f : Fn) : Bool := wf f && decide (setP f)
abbrev Tab := List (Option (List Bool))
def wt (R : Nat) : Option (List Bool) → Nat
  | none => R + 1
  | some s => s.countP id
def pot (R : Nat) (ins : Tab) : Nat := (ins.map (wt R)).sum
def LeB (t s : List Bool) : Prop := ∀ r : Nat, t[r]? = some true → s[r]? = some true
theorem LeB.refl (t : List Bool) : LeB t t := fun _ h => h
theorem LeB.trans {a b c : List Bool} (h : LeB a b) (h' : LeB b c) : LeB a c := fun r h1 => h' r (h r h1)
theorem y17p : ∀ {t s : List Bool}, t.length = s.length → LeB s t → (∃ r : Nat, t[r]? = some true ∧ s[r]? = some false) → s.countP id < t.countP id
  | [], [], _, _, ⟨r, h, _⟩ => by simp at h
  | a :: t, b :: s, hl, hle, ⟨r, h1, h2⟩ => by
    have hl' : t.length = s.length := by simpa using hl
    have hle' : LeB s t := fun q h => by have := hle (q + 1) (by simpa using h); simpa using this
    have le : ∀ {t s : List Bool}, t.length = s.length → LeB s t → s.countP id ≤ t.countP id := by
      intro t
      induction t with
      | nil => intro s hl _; rw [List.length_nil] at hl; rw [List.eq_nil_of_length_eq_zero hl.symm]; exact Nat.le_refl _
      | cons a t ih =>
        intro s hl hle
        cases s with
        | nil => simp at hl
        | cons b s =>
          have := ih (s := s) (by simpa using hl) (fun q h => by have := hle (q + 1) (by simpa using h); simpa using this)
          have h0 := hle 0
          simp only [List.countP_cons]
          cases a <;> cases b <;> simp_all <;> omega
    simp only [List.countP_cons]
    cases r with
    | zero =>
      simp at h1 h2
      subst h1; subst h2
      have := le hl' hle'
      simp; omega
    | succ r =>
      have := y17p hl' hle' ⟨r, by simpa using h1, by simpa using h2⟩
      have h0 := hle 0
      cases a <;> cases b <;> simp_all <;> omega
  | [], _ :: _, h, _, _ => by simp at h
  | _ :: _, [], h, _, _ => by simp at h
def LeT (a b : Tab) : Prop := ∀ (i : Nat) s, a[i]? = some (some s) → ∃ t, b[i]? = some (some t) ∧ LeB t s
theorem LeT.refl (a : Tab) : LeT a a := fun _ s h => ⟨s, h, .refl _⟩
theorem LeT.trans {a b c : Tab} (h : LeT a b) (h' : LeT b c) : LeT a c := fun i s hs => by
  obtain ⟨t, h1, h2⟩ := h i s hs
  obtain ⟨u, h3, h4⟩ := h' i t h1
  exact ⟨u, h3, h4.trans h2⟩
def LeAt (ins : Tab) (to : Int) (s : List Bool) : Prop := ∃ t, ins[to.toNat]? = some (some t) ∧ LeB t s
theorem LeAt.mono {a b : Tab} (h : LeT a b) {to : Int} {s : List Bool} (hs : LeAt a to s) : LeAt b to s := by
  obtain ⟨t, h1, h2⟩ := hs
  obtain ⟨u, h3, h4⟩ := h _ _ h1
  exact ⟨u, h3, h4.trans h2⟩
section
variable {n R : Nat}
structure TblOk (n R : Nat) (ins : Tab) : Prop where
  len : ins.length = n
  rows : ∀ (i : Nat) s, ins[i]? = some (some s) → s.length = R
structure MeetR (n R : Nat) (s : List Bool) (T : Int → Prop) (p q : Tab × List Int) : Prop where
  ok : TblOk n R q.1
  le : LeT p.1 q.1
  work : ∀ (i : Nat) t, q.1[i]? = some (some t) → p.1[i]? = some (some t) ∨ (i : Int) ∈ q.2
  keep : ∀ j, j ∈ p.2 → j ∈ q.2
  fresh : ∀ j, j ∈ q.2 → j ∈ p.2 ∨ (0 ≤ j ∧ j < n ∧ ∃ t, q.1[j.toNat]? = some (some t))
  src : ∀ (i r : Nat) t, q.1[i]? = some (some t) → t[r]? = some false → (∃ u, p.1[i]? = some (some u) ∧ u[r]? = some false) ∨ (s[r]? = some false ∧ T i)
  pot : 2 * pot R q.1 + q.2.length ≤ 2 * Go.Vm.pot R p.1 + p.2.length
theorem MeetR.refl {s : List Bool} {T : Int → Prop} {p : Tab × List Int} (h : TblOk n R p.1) : MeetR n R s T p p :=
  ⟨h, .refl _, fun _ _ h => .inl h, fun _ h => h, fun _ h => .inl h, fun _ _ _ h1 h2 => .inl ⟨_, h1, h2⟩, Nat.le_refl _⟩
theorem y2ec {ins : Tab} {i : Nat} {x y : Option (List Bool)} (h : ins[i]? = some x) : pot R (ins.set i y) + wt R x = pot R ins + wt R y := by
  unfold pot
  induction ins generalizing i with
  | nil => simp at h
  | cons a ins ih =>
    cases i with
    | zero =>
      simp at h
      subst h
      simp only [List.set_cons_zero, List.map_cons, List.sum_cons]
      omega
    | succ i =>
      simp only [List.getElem?_cons_succ] at h
      have := ih h
      simp only [List.set_cons_succ, List.map_cons, List.sum_cons]
      omega
theorem MeetR.trans {s : List Bool} {T : Int → Prop} {p q u : Tab × List Int} (h : MeetR n R s T p q) (h' : MeetR n R s T q u) : MeetR n R s T p u := by
  refine ⟨h'.ok, h.le.trans h'.le, fun i t ht => ?_, fun j hj => h'.keep j (h.keep j hj), fun j hj => ?_, fun i r t ht hr => ?_, Nat.le_trans h'.pot h.pot⟩
  · rcases h'.work i t ht with h1 | h1
    · rcases h.work i t h1 with h2 | h2
      · exact .inl h2
      · exact .inr (h'.keep _ h2)
    · exact .inr h1
  · rcases h'.fresh j hj with h1 | h1
    · rcases h.fresh j h1 with h2 | ⟨a, b, t, ht⟩
      · exact .inl h2
      · obtain ⟨v, hv, _⟩ := h'.le _ _ ht
        exact .inr ⟨a, b, v, hv⟩
    · exact .inr h1
  · rcases h'.src i r t ht hr with ⟨v, h1, h2⟩ | h1
    · exact h.src i r v h1 h2
    · exact .inr h1
theorem MeetR.mono {s : List Bool} {T T' : Int → Prop} {p q : Tab × List Int} (h : MeetR n R s T p q) (hT : ∀ j, T j → T' j) : MeetR n R s T' p q :=
  ⟨h.ok, h.le, h.work, h.keep, h.fresh, fun i r t h1 h2 => (h.src i r t h1 h2).imp id fun x => ⟨x.1, hT _ x.2⟩, h.pot⟩
end
end Go.Vm
namespace Go.Vm
theorem ybg {R : List Int} {k r : Int} (h : y26 R k r = true) (hk : 0 ≤ k) : 0 ≤ r ∧ r < R.length := by
  simp only [y26, Bool.or_eq_true, decide_eq_true_eq, Bool.and_eq_true, inR] at h
  omega
theorem yvq (n : Int) : 0 ≤ (numK n).1 ∧ 0 ≤ (numK n).2.1 ∧ 0 ≤ (numK n).2.2 := by
  unfold numK
  repeat' split
  all_goals decide
set_option maxHeartbeats 4000000 in
theorem y1db {f : Fn} {x : Ins} (h : y25 f x = true) {u : Int} (hu : u ∈ lst (uses x)) : 0 ≤ u ∧ u < (lst f.regs).length := by
  simp only [y25, Bool.and_eq_true] at h
  obtain ⟨⟨⟨⟨⟨⟨h0, h1⟩, h2⟩, h3⟩, h4⟩, h5⟩, h6⟩ := h
  by_cases hc : calls x.op = true
  · have hu' : u ∈ lst x.args := by simpa [uses, hc] using hu
    simp only [y6u, hc, Bool.not_true, Bool.false_or, Bool.and_eq_true, List.all_eq_true] at h5
    have := h5.2 u hu'
    simpa [inR] using this
  · have key : (u = x.a ∧ 0 ≤ (yq x).2.1) ∨ (u = x.b ∧ 0 ≤ (yq x).2.2.1) ∨ (u = x.c ∧ 0 ≤ (yq x).2.2.2.1) ∨ False := by
      rcases y67 x.op with h|h|h|h|h|h|h|h|h|h|h|h|h|h|h|h|h|h|h|h|h|h|h|h|h|h|h|h|h|h|h|h|h|h|h
      all_goals first
        | (exfalso; simp [uses, reads, calls, h] at hu; done)
        | (exfalso; simp [calls, h] at hc; done)
        | (simp [uses, reads, calls, h] at hu; simp [yq, h] at h0 ⊢; first | omega | (rcases hu with rfl | rfl <;> simp [yvq]) | (rcases hu with rfl | rfl | rfl <;> simp) | (subst hu; simp [yvq]))
        | (simp [uses, reads, calls, h] at hu; simp [yq, h]; split at hu <;> simp_all; done)
        | (exfalso; simp [uses, reads, calls, lo_f h] at hu; done)
        | (exfalso; simp [uses, reads, calls, hi_f h] at hu; done)
        | skip
      · by_cases hb : x.b < 0
        · simp [uses, calls, h, hb] at hu
          exact .inl ⟨hu, by simp [yq, h]⟩
        · simp [uses, calls, h, hb] at hu
          rcases hu with hu | hu
          · exact .inl ⟨hu, by simp [yq, h]⟩
          · have : ¬ x.b = -1 := by omega
            exact .inr (.inl ⟨hu, by simp [yq, h, this]⟩)
      · by_cases ha : 0 ≤ x.a
        · simp [uses, calls, h, ha] at hu
          have : ¬ x.a = -1 := by omega
          exact .inl ⟨hu, by simp [yq, h, this]⟩
        · simp [uses, calls, h, ha] at hu
    rcases key with ⟨rfl, hk⟩ | ⟨rfl, hk⟩ | ⟨rfl, hk⟩ | hk
    · exact ybg h2 hk
    · exact ybg h3 hk
    · exact ybg h4 hk
    · exact hk.elim
set_option maxHeartbeats 4000000 in
theorem y1v2 {f : Fn} {x : Ins} (h : y25 f x = true) (hd : ¬ defr x = -1) : 0 ≤ defr x ∧ defr x < (lst f.regs).length := by
  simp only [y25, Bool.and_eq_true] at h
  obtain ⟨⟨⟨⟨⟨⟨h0, h1⟩, h2⟩, h3⟩, h4⟩, h5⟩, h6⟩ := h
  have key : defr x = x.d ∧ 0 ≤ (yq x).1 := by
    unfold defr at hd ⊢
    split at hd
    · rename_i hw
      rw [if_pos hw]
      refine ⟨rfl, ?_⟩
      rcases y67 x.op with h|h|h|h|h|h|h|h|h|h|h|h|h|h|h|h|h|h|h|h|h|h|h|h|h|h|h|h|h|h|h|h|h|h|h
      all_goals first
        | (exfalso; simp [writes, calls, h] at hw; done)
        | (simp [yq, h, yvq, hd]; done)
        | (exfalso; simp [writes, calls, lo_f h] at hw; done)
        | (exfalso; simp [writes, calls, hi_f h] at hw; done)
    · exact (hd rfl).elim
  rw [key.1]
  exact ybg h1 key.2
theorem Wf.uses {f : Fn} (w : Wf f) {i : Nat} (hi : i < (lst f.code).length) {u : Int} (hu : u ∈ lst (Go.Vm.uses (yd f i))) : 0 ≤ u ∧ u < (lst f.regs).length := y1db (w.ins i hi) hu
theorem Wf.def {f : Fn} (w : Wf f) {i : Nat} (hi : i < (lst f.code).length) (hd : 0 ≤ defr (yd f i)) : defr (yd f i) < (lst f.regs).length := (y1v2 (w.ins i hi) (by omega)).2
theorem ypj {l : List Int} {j a : Int} (h : j ∈ addN l a) : j ∈ l ∨ j = a := by
  unfold addN at h
  split at h
  · exact .inl h
  · rw [List.mem_append, List.mem_singleton] at h; exact h
theorem Wf.next {f : Fn} (w : Wf f) {i : Nat} (hi : i < (lst f.code).length) {to : Int} (h : to ∈ y1m f i) : 0 ≤ to ∧ to < (lst f.code).length := by
  rw [y1m, if_neg (by omega), show ((i : Int)).toNat = i by omega] at h
  have hself : ∀ {j : Int}, j ∈ (if ends (yd f i).op = true then [] else [(i : Int) + 1]) → 0 ≤ j ∧ j < (lst f.code).length := by
    intro j hj
    split at hj
    · cases hj
    · rename_i he
      rw [List.mem_singleton] at hj
      subst hj
      refine ⟨by omega, ?_⟩
      by_cases e : i = (lst f.code).length - 1
      · subst e; exact (he w.last).elim
      · omega
  unfold ypq at h
  split at h
  · rename_i hl
    rcases ypj h with h | h
    · exact hself h
    · rw [h]; exact w.leads hi hl
  · exact hself h
theorem yel {i to : Int} : ∀ {rs : List Row} {l : List Int}, to ∈ y32 i rs l → to ∈ l ∨ ∃ r ∈ rs, r.at_ = to
  | [], l, h => .inl h
  | r :: rs, l, h => by
    unfold y32 at h
    split at h
    · split at h
      · rcases ypj h with h | h
        · exact .inl h
        · exact .inr ⟨r, by simp, h.symm⟩
      · rcases yel h with h | ⟨r', h1, h2⟩
        · rcases ypj h with h | h
          · exact .inl h
          · exact .inr ⟨r, by simp, h.symm⟩
        · exact .inr ⟨r', by simp [h1], h2⟩
    · rcases yel h with h | ⟨r', h1, h2⟩
      · exact .inl h
      · exact .inr ⟨r', by simp [h1], h2⟩
theorem Wf.caught {f : Fn} (w : Wf f) {i to : Int} (h : to ∈ y10 f i) : 0 ≤ to ∧ to < (lst f.code).length := by
  rw [y10] at h
  split at h
  · cases h
  · split at h
    · rcases yel h with h | ⟨r, h1, h2⟩
      · cases h
      · have := w.row h1
        rw [← h2]; exact ⟨this.a0, this.an⟩
    · cases h
theorem yml {l : List Int} {j : Int} (h : l.Nodup) : (addN l j).Nodup := by
  unfold addN
  split
  · exact h
  · rename_i hc
    rw [List.nodup_append]
    refine ⟨h, by simp, fun a ha b hb => ?_⟩
    rw [List.mem_singleton] at hb
    subst hb
    rintro rfl
    exact hc (by simpa using ha)
theorem y8h {i : Int} : ∀ {rs : List Row} {l : List Int}, l.Nodup → (y32 i rs l).Nodup
  | [], _, h => h
  | r :: rs, l, h => by
    rw [y32]
    split
    · split
      · exact yml h
      · exact y8h (yml h)
    · exact y8h h
theorem Wf.caught_len {f : Fn} (w : Wf f) (i : Int) : (y10 f i).length ≤ 20000 := by
  have hd : (y10 f i).Nodup := by
    rw [y10]
    split
    · simp
    · split
      · exact y8h (by simp)
      · simp
  have hs : y10 f i ⊆ (List.range (lst f.code).length).map fun k => ((k : Nat) : Int) := by
    intro to ht
    have := w.caught ht
    rw [List.mem_map]
    exact ⟨to.toNat, List.mem_range.2 (by omega), by omega⟩
  have := hd.length_le_of_subset hs
  have hn := w.n2
  rw [List.length_map, List.length_range] at this
  omega
end Go.Vm
namespace Go.Vm
def y4n (f : Fn) (A : List Int) (r : Nat) : Prop := ∃ i, Rch (lst f.code).length (y9u f r) A i ∧ (r : Int) ∈ yaq f i
theorem Rch.one {n : Nat} {S : Nat → List Int} {i k : Nat} : Rch n S [(i : Int)] k ↔ (k = i ∧ i < n) ∨ (i < n ∧ Rch n S (S i) k) := by
  constructor
  · intro h
    induction h with
    | base hj j0 j1 =>
      rw [List.mem_singleton] at hj
      subst hj
      exact .inl ⟨by omega, by omega⟩
    | step h hj j0 j1 ih =>
      rcases ih with ⟨e, hi⟩ | ⟨hi, h'⟩
      · subst e
        exact .inr ⟨hi, .base hj j0 j1⟩
      · exact .inr ⟨hi, .step h' hj j0 j1⟩
  · rintro (⟨e, hi⟩ | ⟨hi, h⟩)
    · subst e
      have := Rch.base (n := n) (S := S) (A := [(k : Int)]) (j := (k : Int)) (by simp) (by omega) (by omega)
      simpa using this
    · have hb : Rch n S [(i : Int)] i := by
        have := Rch.base (n := n) (S := S) (A := [(i : Int)]) (j := (i : Int)) (by simp) (by omega) (by omega)
        simpa using this
      induction h with
      | base hj j0 j1 => exact .step hb hj j0 j1
      | step h hj j0 j1 ih => exact .step ih hj j0 j1
theorem Rch.some_ {n : Nat} {S : Nat → List Int} {A : List Int} {k : Nat} : Rch n S A k ↔ ∃ a ∈ A, 0 ≤ a ∧ a < n ∧ Rch n S [a] k := by
  constructor
  · intro h
    induction h with
    | base hj j0 j1 => exact ⟨_, hj, j0, j1, .base (by simp) j0 j1⟩
    | step h hj j0 j1 ih =>
      obtain ⟨a, ha, a0, a1, h'⟩ := ih
      exact ⟨a, ha, a0, a1, .step h' hj j0 j1⟩
  · rintro ⟨a, ha, a0, a1, h⟩
    induction h with
    | base hj j0 j1 =>
      rw [List.mem_singleton] at hj
      subst hj
      exact .base ha j0 j1
    | step h hj j0 j1 ih => exact .step ih hj j0 j1
section
variable (f : Fn)
theorem y5k {A : List Int} {r : Nat} : y4n f A r ↔ ∃ a ∈ A, 0 ≤ a ∧ a < (lst f.code).length ∧ y4n f [a] r := by
  unfold y4n
  constructor
  · rintro ⟨i, h, hu⟩
    obtain ⟨a, ha, a0, a1, h'⟩ := Rch.some_.1 h
    exact ⟨a, ha, a0, a1, i, h', hu⟩
  · rintro ⟨a, ha, a0, a1, i, h', hu⟩
    exact ⟨i, Rch.some_.2 ⟨a, ha, a0, a1, h'⟩, hu⟩
theorem y1yt {i r : Nat} (hi : i < (lst f.code).length) : y4n f [(i : Int)] r ↔ (r : Int) ∈ yaq f i ∨ y4n f (y10 f i) r ∨ (defr (yd f i) ≠ r ∧ y4n f (y1m f i) r) := by
  have key : y4n f [(i : Int)] r ↔ (r : Int) ∈ yaq f i ∨ y4n f (y9u f r i) r := by
    unfold y4n
    constructor
    · rintro ⟨k, h, hu⟩
      rcases Rch.one.1 h with ⟨e, _⟩ | ⟨_, h'⟩
      · subst e; exact .inl hu
      · exact .inr ⟨k, h', hu⟩
    · rintro (hu | ⟨k, h', hu⟩)
      · exact ⟨i, Rch.one.2 (.inl ⟨rfl, hi⟩), hu⟩
      · exact ⟨k, Rch.one.2 (.inr ⟨hi, h'⟩), hu⟩
  rw [key, y5k, y5k, y5k]
  unfold y9u
  constructor
  · rintro (h | ⟨a, ha, h⟩)
    · exact .inl h
    · rw [List.mem_append] at ha
      rcases ha with ha | ha
      · exact .inr (.inl ⟨a, ha, h⟩)
      · split at ha
        · cases ha
        · rename_i hd
          exact .inr (.inr ⟨hd, a, ha, h⟩)
  · rintro (h | ⟨a, ha, h⟩ | ⟨hd, a, ha, h⟩)
    · exact .inl h
    · exact .inr ⟨a, List.mem_append_left _ ha, h⟩
    · refine .inr ⟨a, List.mem_append_right _ ?_, h⟩
      rw [if_neg hd]; exact ha
structure Tb where
  b : List Ws
  a : List Ws
  h : List Ws
def rowW (l : List Ws) (i : Nat) : Ws := l.getD i []
def joins (l : List Ws) (ts : List Int) (s : Ws) : Ws := ts.foldl (fun s to => y45 s (rowW l to.toNat)) s
def adds (us : List Int) (s : Ws) : Ws := us.foldl (fun s u => addW s u.toNat) s
def ybv (d : Int) (s : Ws) : Ws := if 0 ≤ d then y1cb s d.toNat else s
def aftT (t : Tb) (i : Nat) : Ws := joins t.b (y1m f i) (rowW t.a i)
def hanT (t : Tb) (i : Nat) : Ws := joins t.b (y10 f i) (rowW t.h i)
def befT (t : Tb) (i : Nat) : Ws := adds (yaq f i) (y45 (ybv (defr (yd f i)) (aftT f t i)) (hanT f t i))
def y5a (t : Tb) (i : Nat) : Tb := ⟨t.b.set i (y45 (rowW t.b i) (befT f t i)), t.a.set i (aftT f t i), t.h.set i (hanT f t i)⟩
def ykx (t : Tb) (i : Nat) : Bool := yen (rowW t.b i) (befT f t i)
def y3f : Nat → Tb → Tb × Bool
  | 0, t => (t, false)
  | i + 1, t => ((y3f i (y5a f t i)).1, ykx f t i || (y3f i (y5a f t i)).2)
def ye1 : Nat → Tb → Option Tb
  | 0, _ => none
  | k + 1, t => if (y3f f (lst f.code).length t).2 then ye1 k (y3f f (lst f.code).length t).1 else some (y3f f (lst f.code).length t).1
structure TbOk (n W : Nat) (t : Tb) : Prop where
  b : t.b.length = n
  a : t.a.length = n
  h : t.h.length = n
  bw : ∀ i, i < n → (rowW t.b i).length = W
  aw : ∀ i, i < n → (rowW t.a i).length = W
  hw : ∀ i, i < n → (rowW t.h i).length = W
theorem y52 {l : List Ws} {i j : Nat} {x : Ws} (hi : i < l.length) : rowW (l.set i x) j = if j = i then x else rowW l j := by
  unfold rowW
  rw [List.getD_eq_getElem?_getD, List.getElem?_set]
  by_cases e : j = i
  · subst e; simp [hi]
  · rw [if_neg (fun h => e h.symm), if_neg e, List.getD_eq_getElem?_getD]
variable {W n : Nat} {l : List Ws}
theorem yhl : ∀ (ts : List Int) (s : Ws), s.length = W → (∀ i, i < n → (rowW l i).length = W) → (∀ to ∈ ts, 0 ≤ to ∧ to < n) → (joins l ts s).length = W
  | [], s, hs, _, _ => hs
  | to :: ts, s, hs, hl, ht => by
    have h1 := ht to (by simp)
    refine yhl ts _ ?_ hl fun t h => ht t (by simp [h])
    rw [y4r (by rw [hs, hl _ (by omega)]), hs]
theorem yiu : ∀ (ts : List Int) (s : Ws), s.length = W → (∀ i, i < n → (rowW l i).length = W) → (∀ to ∈ ts, 0 ≤ to ∧ to < n) → ∀ r, bit (joins l ts s) r = true ↔ bit s r = true ∨ ∃ to ∈ ts, bit (rowW l to.toNat) r = true
  | [], s, hs, _, _, r => by simp [joins]
  | to :: ts, s, hs, hl, ht, r => by
    have h1 := ht to (by simp)
    have e : s.length = (rowW l to.toNat).length := by rw [hs, hl _ (by omega)]
    have := yiu ts (y45 s (rowW l to.toNat)) (by rw [y4r e, hs]) hl (fun t h => ht t (by simp [h])) r
    have e2 : joins l (to :: ts) s = joins l ts (y45 s (rowW l to.toNat)) := rfl
    rw [e2, this, ybi e, Bool.or_eq_true]
    simp only [List.mem_cons]
    constructor
    · rintro ((h | h) | ⟨t, h, h'⟩)
      · exact .inl h
      · exact .inr ⟨to, .inl rfl, h⟩
      · exact .inr ⟨t, .inr h, h'⟩
    · rintro (h | ⟨t, (rfl | h), h'⟩)
      · exact .inl (.inl h)
      · exact .inl (.inr h')
      · exact .inr ⟨t, h, h'⟩
theorem y177 : ∀ (us : List Int) (s : Ws), (adds us s).length = s.length
  | [], _ => rfl
  | u :: us, s => by
    have := y177 us (addW s u.toNat)
    rw [yot] at this
    exact this
theorem yze : ∀ (us : List Int) (s : Ws), (∀ u ∈ us, 0 ≤ u ∧ u.toNat / 64 < s.length) → ∀ r, bit (adds us s) r = true ↔ bit s r = true ∨ ((r : Nat) : Int) ∈ us
  | [], s, _, r => by simp [adds]
  | u :: us, s, h, r => by
    have h1 := h u (by simp)
    have := yze us (addW s u.toNat) (fun v hv => by rw [yot]; exact h v (by simp [hv])) r
    have e2 : adds (u :: us) s = adds us (addW s u.toNat) := rfl
    rw [e2, this, y2fn h1.2, Bool.or_eq_true, decide_eq_true_eq, List.mem_cons]
    constructor
    · rintro ((h | h) | h)
      · exact .inl h
      · exact .inr (.inl (by omega))
      · exact .inr (.inr h)
    · rintro (h | h | h)
      · exact .inl (.inl h)
      · exact .inl (.inr (by omega))
      · exact .inr h
theorem y9x (d : Int) (s : Ws) : (ybv d s).length = s.length := by
  unfold ybv
  split
  · exact y1sv _ _
  · rfl
theorem y1rm {d : Int} {s : Ws} (h : 0 ≤ d → d.toNat / 64 < s.length) (r : Nat) : bit (ybv d s) r = true ↔ bit s r = true ∧ d ≠ r := by
  unfold ybv
  split
  · rename_i hd
    rw [y1z5 (h hd), Bool.and_eq_true, decide_eq_true_eq]
    have : r ≠ d.toNat ↔ d ≠ (r : Int) := by omega
    rw [this]
  · have : d ≠ (r : Int) := by omega
    simp [this]
end
end Go.Vm
namespace Go.Vm
open Classical in
noncomputable def aftR (f : Fn) (i r : Int) : Bool := decide (0 ≤ i) && (decide (i < (lst f.code).length) && (decide (0 ≤ r) && (decide (r < (lst f.regs).length) && decide (y4n f (y1m f i) r.toNat))))
end Go.Vm
namespace Go.Vm
theorem yt4 {f : Fn} {C : List Ins} : ∀ (l : List Ins) (i : Nat), (∀ k x, l[k]? = some x → y25 f x = true ∧ y3q C (i + k) x = true) → y44 f C i l = true
  | [], _, _ => rfl
  | y :: l, i, h => by
    rw [y44, (h 0 y rfl).1, yt4 l (i + 1) (fun k x hx => by
      have := h (k + 1) x (by simpa using hx)
      rwa [show i + (k + 1) = i + 1 + k by omega] at this)]
    have := (h 0 y rfl).2
    rw [Nat.add_zero] at this
    rw [this]; rfl
theorem y19r {f : Fn} {i : Nat} (h : (lst f.code).length ≤ i) : yd f i = default := by
  rw [yd, List.getD_eq_getElem?_getD, List.getElem?_eq_none h]; rfl
structure Swap (f g : Fn) : Prop where
  regs : g.regs = f.regs
  params : g.params = f.params
  ret : g.ret = f.ret
  rows : g.rows = f.rows
  len : (lst g.code).length = (lst f.code).length
theorem Swap.refl (f : Fn) : Swap f f := ⟨rfl, rfl, rfl, rfl, rfl⟩
theorem Swap.trans {f g h : Fn} (a : Swap f g) (b : Swap g h) : Swap f h := ⟨b.regs.trans a.regs, b.params.trans a.params, b.ret.trans a.ret, b.rows.trans a.rows, b.len.trans a.len⟩
theorem yxn {f g : Fn} (s : Swap f g) (x : Ins) : y25 g x = y25 f x := by
  unfold y25
  rw [s.regs, s.ret, s.len]
theorem y2ch {f g : Fn} (s : Swap f g) (hw : wf f = true) (h : ∀ i, i < (lst f.code).length → y25 f (yd g i) = true ∧ (ends (yd f i).op = true → ends (yd g i).op = true) ∧
    ((yd g i).op = 32 ↔ (yd f i).op = 32) ∧ (leads (yd g i).op = true → leads (yd f i).op = true ∧ (yd g i).t = (yd f i).t)) : wf g = true := by
  have w := ypn hw
  have e32 : ∀ i : Nat, (yd g i).op = 32 ↔ (yd f i).op = 32 := fun i => by
    by_cases hi : i < (lst f.code).length
    · exact (h i hi).2.2.1
    · rw [y19r (f := g) (by rw [s.len]; omega), y19r (f := f) (by omega)]
  have hlast := (h ((lst f.code).length - 1) (by have := w.n1; omega)).2.1 w.last
  have hspot : ∀ i, i < (lst f.code).length → y3q (lst g.code) i (yd g i) = true := by
    intro i hi
    have h0 := w.spot i hi
    obtain ⟨_, _, h3, h4⟩ := h i hi
    unfold y3q at h0 ⊢
    rw [Bool.not_eq_true', Bool.or_eq_false_iff, Bool.and_eq_false_iff, Bool.and_eq_false_iff] at h0 ⊢
    refine ⟨?_, ?_⟩
    · rcases h0.1 with q | q
      · left
        simp only [decide_eq_false_iff_not] at q ⊢
        rwa [h3]
      · right
        rw [Bool.or_eq_false_iff] at q ⊢
        refine ⟨q.1, ?_⟩
        have he : ends (yd f (i - 1)).op = true := by simpa [yd] using q.2
        have := (h (i - 1) (by omega)).2.1 he
        simpa [yd] using this
    · cases hl : leads (yd g i).op with
      | false => exact .inl rfl
      | true =>
        right
        obtain ⟨a, b⟩ := h4 hl
        rcases h0.2 with h | h
        · rw [a] at h; cases h
        · simp only [decide_eq_false_iff_not] at h ⊢
          rw [b]
          exact fun e => h ((e32 _).1 e)
  have hw' := hw
  unfold wf at hw' ⊢
  rw [s.len, s.regs, s.ret, s.params, s.rows]
  simp only [Bool.and_eq_true] at hw' ⊢
  obtain ⟨⟨⟨⟨⟨⟨⟨⟨⟨h1, h2⟩, h3⟩, h4⟩, h5⟩, h6⟩, h7⟩, h8⟩, h9⟩, h10⟩ := hw'
  refine ⟨⟨⟨⟨⟨⟨⟨⟨⟨h1, h2⟩, h3⟩, h4⟩, h5⟩, hlast⟩, h7⟩, h8⟩, yt4 _ 0 fun k x hx => ?_⟩, ?_⟩
  · have hk : k < (lst f.code).length := by rw [← s.len]; exact (List.getElem?_eq_some_iff.1 hx).1
    have e : yd g k = x := by rw [yd, List.getD_eq_getElem?_getD, hx]; rfl
    rw [Nat.zero_add, ← e]
    exact ⟨by rw [yxn s]; exact (h k hk).1, hspot k hk⟩
  · rw [List.all_eq_true] at h10 ⊢
    intro r hr
    have := h10 r hr
    unfold y4g at this ⊢
    rw [s.len]
    rw [Bool.not_eq_true', Bool.or_eq_false_iff] at this ⊢
    refine ⟨this.1, ?_⟩
    have t2 := this.2
    simp only [decide_eq_false_iff_not, Classical.not_not] at t2 ⊢
    exact (e32 r.at_.toNat).2 t2
end Go.Vm
namespace Go.Vm
inductive Way (f : Fn) (r : Int) : Nat → Prop
  | use {i : Nat} : i < (lst f.code).length → r ∈ yaq f i → Way f r i
  | step {i : Nat} {j : Int} : i < (lst f.code).length → j ∈ y9u f r i → 0 ≤ j → j < (lst f.code).length → Way f r j.toNat → Way f r i
theorem Way.lt {f : Fn} {r : Int} {i : Nat} (h : Way f r i) : i < (lst f.code).length := by cases h <;> assumption
theorem ygz {f : Fn} {r : Nat} {A : List Int} : y4n f A r ↔ ∃ a ∈ A, 0 ≤ a ∧ a < (lst f.code).length ∧ Way f r a.toNat := by
  rw [y5k f]
  constructor
  · rintro ⟨a, ha, a0, a1, k, hk, hu⟩
    refine ⟨a, ha, a0, a1, ?_⟩
    have key : ∀ {k : Nat}, Rch (lst f.code).length (y9u f r) [a] k → Way f r k → Way f r a.toNat := by
      intro k hk
      induction hk with
      | base hj j0 j1 =>
        rw [List.mem_singleton] at hj
        subst hj
        exact id
      | step h hj j0 j1 ih => exact fun w => ih (.step h.lt hj j0 j1 w)
    exact key hk (.use hk.lt hu)
  · rintro ⟨a, ha, a0, a1, w⟩
    refine ⟨a, ha, a0, a1, ?_⟩
    have key : ∀ {k : Nat}, Way f r k → ∀ {A : List Int}, Rch (lst f.code).length (y9u f r) A k → y4n f A r := by
      intro k w
      induction w with
      | use hi hu => exact fun h => ⟨_, h, hu⟩
      | step hi hj j0 j1 _ ih => exact fun h => ih (.step h hj j0 j1)
    exact key w (.base (by simp) a0 a1)
theorem y1fe {f : Fn} {r : Nat} : badR f r ↔ 0 < (lst f.code).length ∧ Way f r 0 := by
  have : badR f r ↔ y4n f [0] r := Iff.rfl
  rw [this, ygz]
  constructor
  · rintro ⟨a, ha, a0, a1, w⟩
    rw [List.mem_singleton] at ha
    subst ha
    exact ⟨by omega, w⟩
  · rintro ⟨h, w⟩
    exact ⟨0, by simp, by omega, by omega, w⟩
end Go.Vm
namespace Go.Vm
def nopI : Ins := ⟨33, 0, 0, 0, 0, 0, 0, [], none⟩
noncomputable def y2p (f : Fn) (i : Nat) : Bool := purel (yd f i).op && !aftR f i (yd f i).d
noncomputable def y59 (f : Fn) : Fn := { f with code := some ((List.range (lst f.code).length).map fun i => if y2p f i then nopI else yd f i) }
noncomputable def yd0 (f : Fn) : Bool := (List.range (lst f.code).length).any (y2p f)
inductive DeadTo : Fn → Fn → Prop
  | done {f : Fn} : yd0 f = false → DeadTo f f
  | more {f g : Fn} : yd0 f = true → DeadTo (y59 f) g → DeadTo f g
theorem y7p {o : Int} (h : purel o = true) : ends o = false ∧ leads o = false ∧ throws o = false ∧ o ≠ 32 ∧ o ≠ 33 ∧ writes o = true := by
  simp only [purel, decide_eq_true_eq, List.mem_cons, List.not_mem_nil, or_false] at h
  rcases h with rfl | rfl | rfl | rfl | rfl | rfl | rfl | rfl | rfl | rfl | rfl <;> decide
section
variable (f : Fn)
theorem y3h : (lst (y59 f).code).length = (lst f.code).length := by simp [y59]
theorem ybk : Swap f (y59 f) := ⟨rfl, rfl, rfl, rfl, y3h f⟩
theorem y4p {i : Nat} (hi : i < (lst f.code).length) : yd (y59 f) i = if y2p f i then nopI else yd f i := by
  simp [yd, y59, List.getD_eq_getElem?_getD, hi]
variable {f}
theorem y4j {i : Nat} (h : y2p f i = true) : purel (yd f i).op = true := by
  simp only [y2p, Bool.and_eq_true] at h
  exact h.1
theorem y1av : y25 f nopI = true := by
  simp [y25, nopI, yq, y26, y6u, calls, y3d, leads]
theorem ypc (hw : wf f = true) : wf (y59 f) = true := by
  have w := ypn hw
  refine y2ch (ybk f) hw fun i hi => ?_
  rw [y4p f hi]
  cases hd : y2p f i with
  | false => exact ⟨w.ins i hi, id, Iff.rfl, fun h => ⟨h, rfl⟩⟩
  | true =>
    obtain ⟨h1, h2, h3, h4, h5, _⟩ := y7p (y4j hd)
    rw [if_pos rfl]
    refine ⟨y1av, (fun h => by rw [h1] at h; cases h), ⟨(fun h => by cases h), fun h => (h4 h).elim⟩, (fun h => by cases h)⟩
theorem ymm (i : Int) : y1m (y59 f) i = y1m f i := by
  unfold y1m
  rw [y3h]
  by_cases h : i < 0 ∨ ((lst f.code).length : Int) ≤ i
  · rw [if_pos h, if_pos h]
  · rw [if_neg h, if_neg h, y4p f (by omega)]
    cases hd : y2p f i.toNat with
    | false => rfl
    | true =>
      obtain ⟨h1, h2, _⟩ := y7p (y4j hd)
      simp only [if_true, ypq, h1, h2]
      rfl
theorem ys3 (i : Int) : y10 (y59 f) i = y10 f i := by
  unfold y10
  rw [y3h]
  by_cases h : i < 0 ∨ ((lst f.code).length : Int) ≤ i
  · rw [if_pos h, if_pos h]
  · rw [if_neg h, if_neg h, y4p f (by omega)]
    cases hd : y2p f i.toNat with
    | false => rfl
    | true =>
      obtain ⟨_, _, h3, _⟩ := y7p (y4j hd)
      simp only [if_true, h3]
      rfl
theorem ywj {i : Nat} (h : purel (yd f i).op = true) : y10 f (i : Int) = [] := by
  obtain ⟨_, _, h3, _⟩ := y7p h
  unfold y10
  rw [Int.toNat_natCast, h3]
  split <;> rfl
theorem y1yj {x : Ins} (h : purel x.op = true) : defr x = x.d := by
  obtain ⟨_, _, _, _, _, h6⟩ := y7p h
  rw [defr, if_pos h6]
theorem y24f : lst (uses nopI) = [] := by decide
theorem y2gx : defr nopI = -1 := by decide
theorem y12l (hw : wf f = true) {r : Nat} {i : Nat} (h : Way (y59 f) r i) : Way f r i := by
  have w := ypn hw
  induction h with
  | use hi hu =>
    rw [y3h] at hi
    refine .use hi ?_
    rw [yaq, y4p f hi] at hu
    split at hu
    · rw [y24f] at hu; cases hu
    · exact hu
  | @step i j hi hj j0 j1 _ ih =>
    rw [y3h] at hi j1
    rw [y9u, ys3, ymm, y4p f hi] at hj
    cases hd : y2p f i with
    | false =>
      rw [hd] at hj
      exact .step hi (by rw [y9u]; exact hj) j0 j1 ih
    | true =>
      have hp := y4j hd
      rw [hd] at hj
      simp only [if_true, y2gx, show ¬ (-1 : Int) = (r : Int) by omega, if_false] at hj
      by_cases e : defr (yd f i) = r
      · -- it is live behind what was gone: but that isn't so
        rw [ywj hp, List.nil_append] at hj
        have hdr := w.def hi (by rw [e]; omega)
        have e2 : (yd f i).d = r := by rw [← y1yj hp]; exact e
        simp only [y2p, Bool.and_eq_true, Bool.not_eq_true'] at hd
        have := hd.2
        rw [e2] at this
        have hl : y4n f (y1m f i) r := ygz.2 ⟨j, hj, j0, j1, ih⟩
        unfold aftR at this
        rw [e] at hdr
        simp [hi, hdr, hl] at this
      · refine .step hi ?_ j0 j1 ih
        rw [y9u, if_neg e]
        exact hj
theorem y1th (hw : wf f = true) (hs : setM f = true) : setM (y59 f) = true := by
  unfold setM at hs ⊢
  rw [ypc hw]
  rw [hw] at hs
  simp only [Bool.true_and, decide_eq_true_eq] at hs ⊢
  intro r h0 h1 hp hb
  have e : ((r.toNat : Nat) : Int) = r := by omega
  rw [← e] at hb
  obtain ⟨b1, b2⟩ := y1fe.1 hb
  rw [y3h] at b1
  refine hs r h0 h1 hp ?_
  rw [← e]
  exact y1fe.2 ⟨b1, y12l hw b2⟩
theorem yvl (hw : wf f = true) {i r : Int} (h : aftR (y59 f) i r = true) : aftR f i r = true := by
  unfold aftR at h ⊢
  rw [y3h, ymm] at h
  simp only [Bool.and_eq_true, decide_eq_true_eq] at h ⊢
  refine ⟨h.1, h.2.1, h.2.2.1, h.2.2.2.1, ?_⟩
  obtain ⟨a, ha, a0, a1, w⟩ := ygz.1 h.2.2.2.2
  rw [y3h] at a1
  exact ygz.2 ⟨a, ha, a0, a1, y12l hw w⟩
structure DeadOk (f g : Fn) : Prop where
  swap : Swap f g
  wf : wf g = true
  set : setM f = true → setM g = true
  aft : ∀ i r : Int, aftR g i r = true → aftR f i r = true
  at_ : ∀ i, i < (lst f.code).length → yd g i = yd f i ∨ (yd g i = nopI ∧ purel (yd f i).op = true)
  gone : ∀ i, i < (lst f.code).length → yd g i = yd f i ∨ aftR g i (yd f i).d = false
  left : yd0 g = false
theorem DeadTo.ok {f g : Fn} (h : DeadTo f g) (hw : Go.Vm.wf f = true) : DeadOk f g := by
  induction h with
  | done hd => exact ⟨Swap.refl _, hw, id, fun _ _ => id, fun _ _ => .inl rfl, fun _ _ => .inl rfl, hd⟩
  | @more f g hd _ ih =>
    have k := ih (ypc hw)
    refine ⟨(ybk f).trans k.swap, k.wf, fun h => k.set (y1th hw h), fun i r h => yvl hw (k.aft i r h), fun i hi => ?_, fun i hi => ?_, k.left⟩
    · have := k.at_ i (by rw [y3h]; exact hi)
      rw [y4p f hi] at this
      cases hd : y2p f i with
      | false =>
        rw [hd] at this
        exact this
      | true =>
        rw [hd] at this
        simp only [if_true] at this
        rcases this with h | h
        · exact .inr ⟨h, y4j hd⟩
        · exact .inr ⟨h.1, y4j hd⟩
    · have := k.gone i (by rw [y3h]; exact hi)
      rw [y4p f hi] at this
      cases hd : y2p f i with
      | false =>
        rw [hd] at this
        exact this
      | true =>
        right
        simp only [y2p, Bool.and_eq_true, Bool.not_eq_true'] at hd
        rw [← Bool.not_eq_true]
        intro h
        have := yvl hw (k.aft _ _ h)
        rw [hd.2] at this
        cases this
def pures (f : Fn) : Nat := (List.range (lst f.code).length).countP fun i => purel (yd f i).op
theorem yxr (hd : yd0 f = true) : pures (y59 f) < pures f := by
  unfold pures
  rw [y3h]
  have le : ∀ i, i ∈ List.range (lst f.code).length → purel (yd (y59 f) i).op = true → purel (yd f i).op = true := by
    intro i hi h
    rw [y4p f (List.mem_range.1 hi)] at h
    split at h
    · cases h
    · exact h
  obtain ⟨i, hi, hdi⟩ := List.any_eq_true.1 hd
  have a1 : purel (yd f i).op = true := y4j hdi
  have a2 : purel (yd (y59 f) i).op = false := by
    rw [y4p f (List.mem_range.1 hi), hdi]; rfl
  generalize List.range (lst f.code).length = l at *
  induction l with
  | nil => cases hi
  | cons k l ih =>
    have le' : ∀ i, i ∈ l → purel (yd (y59 f) i).op = true → purel (yd f i).op = true := fun i hi => le i (by simp [hi])
    have mono : List.countP (fun i => purel (yd (y59 f) i).op) l ≤ List.countP (fun i => purel (yd f i).op) l := List.countP_mono_left le'
    rw [List.countP_cons, List.countP_cons]
    rcases List.mem_cons.1 hi with rfl | hi
    · rw [a1, a2]; simp; omega
    · have := ih le' hi
      have hk := le k (by simp)
      cases h1 : purel (yd (y59 f) k).op with
      | true => rw [hk h1]; simp; omega
      | false => simp only [Bool.false_eq_true, if_false, Nat.add_zero]; split <;> omega
end
theorem DeadTo.exists_ : ∀ (k : Nat) (f : Fn), pures f < k → ∃ g, DeadTo f g
  | 0, _, h => by omega
  | k + 1, f, h => by
    cases hd : yd0 f with
    | false => exact ⟨f, .done hd⟩
    | true =>
      have := yxr hd
      obtain ⟨g, hg⟩ := DeadTo.exists_ k (y59 f) (by omega)
      exact ⟨g, .more hd hg⟩
end Go.Vm
