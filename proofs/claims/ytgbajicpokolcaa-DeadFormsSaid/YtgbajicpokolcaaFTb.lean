/- Places that can be reached: a search with a stack, a search in rounds, a search that stops where something is found. Plain Lean; nothing here speaks of a program. Which places follow a place, in plain words. A pass: a function as a variable of one's own, its lists in objects of one's own. Sets of registers, 64 a word. What is told of types' descriptors. Names, the type at a text's beginning, types. What the stack's instructions over numbers take and give. What an instruction wants of its registers, in plain words. When an instruction, a function is well formed, in plain words. What a well formed function is like. Whether each register is written ahead of all that reads it, in plain words: by ways, and by what is set at each place. In a well formed function the registers that are read and written are registers, and the places that follow are places. Which registers are live, in plain words: by ways, and by what the sweeps over the table leave. What is live ahead of, behind and across a place, as tests. Functions with other instructions at some places: well formed as before. Ways to a read, from their beginning on. What the pass 'dead' leaves, in plain words. -/
import Derived.Test.YtgbajicpokolcaaFX
import Derived.Test.YtgbajicpokolcaaFTa
set_option linter.unusedSimpArgs false
set_option linter.unusedVariables false
set_option linter.unusedSectionVars false
namespace Go.Vm
section
variable (n : Nat) (S : Nat → List Int) (A : List Int)
inductive Rch : Nat → Prop
  | base {j : Int} : j ∈ A → 0 ≤ j → j < n → Rch j.toNat
  | step {i : Nat} {j : Int} : Rch i → j ∈ S i → 0 ≤ j → j < n → Rch j.toNat
def unseen (seen : List Bool) : Nat := seen.countP (! ·)
end
section
variable {n : Nat} {S : Nat → List Int} {A : List Int}
theorem Rch.lt {i : Nat} (h : Rch n S A i) : i < n := by cases h <;> omega
theorem y62 {op : List Int} {i : Int} (h : op.getLast? = some i) : op = op.dropLast ++ [i] := by
  have hne : op ≠ [] := by intro e; rw [e] at h; cases h
  have := List.dropLast_concat_getLast hne
  rw [List.getLast?_eq_some_getLast hne] at h
  injection h with h
  rw [h] at this
  exact this.symm
theorem yag {op : List Int} {j : Int} (h : j ∈ op.dropLast) : j ∈ op := (List.dropLast_sublist op).mem h
structure DfsI (n : Nat) (S : Nat → List Int) (A : List Int) (seen : List Bool) (op : List Int) : Prop where
  len : seen.length = n
  ok : ∀ i : Nat, seen[i]? = some true → Rch n S A i
  opn : ∀ j : Int, j ∈ op → 0 ≤ j → j < n → Rch n S A j.toNat
  cl : ∀ (i : Nat) (j : Int), seen[i]? = some true → j ∈ S i → 0 ≤ j → j < n → seen[j.toNat]? = some true ∨ j ∈ op
  st : ∀ j : Int, j ∈ A → 0 ≤ j → j < n → seen[j.toNat]? = some true ∨ j ∈ op
theorem DfsI.start : DfsI n S A (List.replicate n false) A where
  len := by simp
  ok i h := by rw [List.getElem?_replicate] at h; split at h <;> cases h
  opn j h h0 h1 := .base h h0 h1
  cl i j h := by rw [List.getElem?_replicate] at h; split at h <;> cases h
  st j h _ _ := .inr h
theorem DfsI.skip {seen : List Bool} {op : List Int} (I : DfsI n S A seen op) {i : Int} (hop : op.getLast? = some i) (hc : i < 0 ∨ (n : Int) ≤ i ∨ seen.getD i.toNat true = true) : DfsI n S A seen op.dropLast := by
  have e := y62 hop
  have key : ∀ j : Int, 0 ≤ j → j < n → (seen[j.toNat]? = some true ∨ j ∈ op) → seen[j.toNat]? = some true ∨ j ∈ op.dropLast := by
    intro j h0 h1 h
    rcases h with h | h
    · exact .inl h
    · rw [e, List.mem_append, List.mem_singleton] at h
      rcases h with h | rfl
      · exact .inr h
      · rcases hc with hc | hc | hc
        · omega
        · omega
        · left
          have : j.toNat < seen.length := by rw [I.len]; omega
          rw [List.getD_eq_getElem?_getD, List.getElem?_eq_getElem this] at hc
          rw [List.getElem?_eq_getElem this]
          simpa using hc
  exact ⟨I.len, I.ok, fun j hj => I.opn j (yag hj), fun i j h1 h2 h3 h4 => key j h3 h4 (I.cl i j h1 h2 h3 h4), fun j h1 h3 h4 => key j h3 h4 (I.st j h1 h3 h4)⟩
theorem DfsI.take {seen : List Bool} {op : List Int} (I : DfsI n S A seen op) {i : Int} (hop : op.getLast? = some i) (h0 : 0 ≤ i) (h1 : i < n) : DfsI n S A (seen.set i.toNat true) (op.dropLast ++ S i.toNat) := by
  have e := y62 hop
  have hi : Rch n S A i.toNat := I.opn i (by rw [e]; simp) h0 h1
  have hlt : i.toNat < seen.length := by rw [I.len]; omega
  have hset : ∀ j : Nat, (seen.set i.toNat true)[j]? = some true ↔ seen[j]? = some true ∨ j = i.toNat := by
    intro j
    rw [List.getElem?_set]
    by_cases hj : i.toNat = j
    · subst hj; simp [hlt]
    · rw [if_neg hj]
      exact ⟨.inl, fun h => h.resolve_right (fun e => hj e.symm)⟩
  have key : ∀ j : Int, 0 ≤ j → j < n → (seen[j.toNat]? = some true ∨ j ∈ op) → (seen.set i.toNat true)[j.toNat]? = some true ∨ j ∈ op.dropLast ++ S i.toNat := by
    intro j h2 h3 h
    rw [hset]
    rcases h with h | h
    · exact .inl (.inl h)
    · rw [e, List.mem_append, List.mem_singleton] at h
      rcases h with h | rfl
      · exact .inr (List.mem_append_left _ h)
      · exact .inl (.inr rfl)
  refine ⟨by simpa using I.len, fun j hj => ?_, fun j hj h2 h3 => ?_, fun k j hk hj h2 h3 => ?_, fun j hj h2 h3 => key j h2 h3 (I.st j hj h2 h3)⟩
  · rcases (hset j).1 hj with h | rfl
    · exact I.ok j h
    · exact hi
  · rcases List.mem_append.1 hj with h | h
    · exact I.opn j (yag h) h2 h3
    · exact .step hi h h2 h3
  · rcases (hset k).1 hk with h | rfl
    · exact key j h2 h3 (I.cl k j h hj h2 h3)
    · exact .inr (List.mem_append_right _ hj)
theorem DfsI.done {seen : List Bool} (I : DfsI n S A seen []) (i : Nat) : seen[i]? = some true ↔ Rch n S A i := by
  refine ⟨I.ok i, fun h => ?_⟩
  induction h with
  | base h h0 h1 => exact (I.st _ h h0 h1).resolve_right (by simp)
  | step _ hj h0 h1 ih => exact (I.cl _ _ ih hj h0 h1).resolve_right (by simp)
structure RI (n : Nat) (S : Nat → List Int) (A : List Int) (seen : List Bool) (s : List Bool × Bool) : Prop where
  len : s.1.length = n
  ok : ∀ i : Nat, s.1[i]? = some true → Rch n S A i
  up : ∀ i : Nat, seen[i]? = some true → s.1[i]? = some true
  un : unseen s.1 ≤ unseen seen
  lt : s.2 = true → unseen s.1 < unseen seen
  eq : s.2 = false → s.1 = seen
end
theorem yfr {α : Type} {n k : Nat} {p q : Nat → α} {v : α} (hq : q k = v) (he : ∀ j, j ≠ k → q j = p j) : ((List.range n).map p).set k v = (List.range n).map q := by
  refine List.ext_getElem (by simp) fun i h1 h2 => ?_
  rw [List.getElem_set]
  simp only [List.getElem_map, List.getElem_range]
  by_cases e : k = i
  · rw [if_pos e, ← e, hq]
  · rw [if_neg e, he i (fun h => e h.symm)]
end Go.Vm
namespace Go.Vm
def addN (l : List Int) (j : Int) : List Int := if l.contains j then l else l ++ [j]
def yh (f : Fn) (i : Nat) : Ins := (lst f.code).getD i default
def yv5 (x : Ins) (i : Int) : List Int := if leads x.op then addN (if ends x.op then [] else [i + 1]) x.t else if ends x.op then [] else [i + 1]
def y1r (f : Fn) (i : Int) : List Int := if i < 0 ∨ ((lst f.code).length : Int) ≤ i then [] else yv5 (yh f i.toNat) i
def y4t (i : Int) : List Row → List Int → List Int
  | [], l => l
  | r :: rs, l => if r.f ≤ i ∧ i < r.t then (if r.c = [] then addN l r.at_ else y4t i rs (addN l r.at_)) else y4t i rs l
def yv (f : Fn) (i : Int) : List Int := if i < 0 ∨ ((lst f.code).length : Int) ≤ i then [] else if throws (yh f i.toNat).op then y4t i (lst f.rows) [] else []
theorem y25t (l : List Int) (j : Int) : (addN l j).length ≤ l.length + 1 := by
  unfold addN
  split <;> simp
theorem y1lo (x : Ins) (i : Int) : (yv5 x i).length ≤ 2 := by
  unfold yv5
  split
  · have := y25t (if ends x.op then [] else [i + 1]) x.t
    split at this <;> simp_all <;> omega
  · split <;> simp
theorem yt3 (f : Fn) (i : Int) : (y1r f i).length ≤ 2 := by
  unfold y1r
  split
  · simp
  · exact y1lo _ _
theorem y63 {f : Fn} {i : Nat} (h : i < (lst f.code).length) : (lst f.code)[i]? = some (yh f i) := by
  rw [yh, List.getD_eq_getElem?_getD, List.getElem?_eq_getElem h]; rfl
end Go.Vm
namespace Go.Vm
open Cel
def ycf (f : Fn) (L : List Ins) : Fn := { f with code := some L }
theorem y237 {f : Fn} {L L' : List Ins} (p g : Nat → Nat) (h : L.length = L'.length) : fnC (ycf f L) p g = fnC (ycf f L') p g := by
  simp [fnC, ycf, ownV, h]
@[simp] theorem y2nr (f : Fn) (L : List Ins) : lst (ycf f L).code = L := rfl
theorem yfh {f : Fn} {L : List Ins} (h : f.code = some L) : ycf f L = f := by
  rw [ycf, ← h]
structure DSt (H : Heap) (f : Fn) (p g : Nat → Nat) (n : Nat) : Prop where
  at_ : FnAt H f p g
  box : H[0]? = some ⟨1, .arr true false 5 [fnC f p g]⟩
  res : ∃ c, H[1]? = some ⟨1, .arr true false 5 [c]⟩ ∧ c.length = 5
  len : n ≤ H.length
  lo : ∀ i, i < 4 → hasL f i = true → 2 ≤ p i ∧ p i < 6
theorem ypf (f : Fn) (p g : Nat → Nat) : (fnC f p g).length = 5 := rfl
theorem y12k (f : Fn) (p g : Nat → Nat) : (fnC f p g).all y19 = true := by simp [fnC]
theorem y1wu {H : Heap} {a : Nat} {c : List AV} (h : H[a]? = some ⟨1, .arr true false 5 [c]⟩) (hl : c.length = 5) : evLd true 5 (.lp a 1 0 0) H = some (.agg c) := by
  have hr : ym H a 1 = some (false, 5, [c]) := by simp [ym, y3g, h]
  rw [y35, hr]
  simp only [List.getElem?_cons_zero, List.drop_zero, y6n, if_true, hl, Nat.le_refl]
  rw [List.take_of_length_le (by omega)]
theorem y1yy {H : Heap} {a k : Nat} {c : List AV} {v : AV} (h : H[a]? = some ⟨1, .arr true false 5 [c]⟩) (hv : c[k]? = some v) : evLd false 1 (.lp a 1 0 k) H = some v := by
  have hr : ym H a 1 = some (false, 5, [c]) := by simp [ym, y3g, h]
  rw [y35, hr]
  simp only [List.getElem?_cons_zero, yb1, List.head?_drop, hv]
theorem y2db {H : Heap} {a : Nat} {c d : List AV} {v : AV} (h : H[a]? = some ⟨1, .arr true false 5 [c]⟩) (hl : c.length = 5) (hv : cellsOf v = d) (hd : d.length = 5) (hf : d.all y19 = true) :
    evSt 5 (.lp a 1 0 0) v H = some (.tup [], H.set a ⟨1, .arr true false 5 [d]⟩) := by
  have hr : ym H a 1 = some (false, 5, [c]) := by simp [ym, y3g, h]
  rw [y7c, hr]
  simp only [List.getElem?_cons_zero, hv]
  rw [if_pos ⟨hd, by omega, hf⟩, yme (by rw [hd, hl]), y2a, h]
  rfl
theorem y1jw {H : Heap} {a : Nat} {c d : List AV} (h : H[a]? = some ⟨1, .arr true false 5 [c]⟩) (hl : c.length = 5) (hd : d.length = 5) (hf : d.all y19 = true) :
    evSt 5 (.lp a 1 0 0) (.agg d) H = some (.tup [], H.set a ⟨1, .arr true false 5 [d]⟩) := y2db h hl rfl hd hf
theorem y2jt {H : Heap} {id g i : Nat} {L : List Ins} {x : Ins} (h : H[id]? = some ⟨g, .arr false false 9 (L.map enc)⟩) (hx : L[i]? = some x) : evLd true 9 (.lp id g i 0) H = some (.agg (enc x)) := by
  have hr : ym H id g = some (false, 9, L.map enc) := by simp [ym, y3g, h]
  have hg : (L.map (enc (α := Ins)))[i]? = some (enc x) := by simp [hx]
  rw [y35, hr]
  simp only [hg, List.drop_zero, yoe]
theorem y2kv {n i : Nat} (h : i < n) (id g e : Nat) (k : IntKind) : yt e (.ls id g e 0 n) (.int k i) = some (.lp id g i 0) := by
  have : (i : Int) < (n : Int) := by omega
  simp [yt, this]
section
variable {H : Heap} {f : Fn} {p g : Nat → Nat} {n : Nat} (D : DSt H f p g n)
include D
theorem DSt.ld : evLd true 5 (.lp 0 1 0 0) H = some (fnV f p g) := y1wu D.box (ypf f p g)
theorem DSt.ldc : evLd false 1 (.lp 0 1 0 3) H = some (ownV (p 2) (g 2) f.code) := y1yy D.box rfl
theorem DSt.set {a : Nat} {x : AO} (ha : 6 ≤ a) : DSt (H.set a x) f p g n := by
  refine ⟨D.at_.set fun i hi hh => ?_, by rw [yx (by omega)]; exact D.box, ?_, by rw [List.length_set]; exact D.len, D.lo⟩
  · have := D.lo i hi hh; omega
  · obtain ⟨c, h1, h2⟩ := D.res
    exact ⟨c, by rw [yx (by omega)]; exact h1, h2⟩
theorem DSt.setCode {L L' : List Ins} (hL : f.code = some L) (hl : L.length = L'.length) : DSt (H.set (p 2) ⟨g 2, .arr false false 9 (L'.map enc)⟩) (ycf f L') p g n := by
  have hc : hasL f 2 = true := by simp [hasL, hL]
  have h2 := D.lo 2 (by omega) hc
  refine ⟨D.at_.setCode hL, ?_, ?_, by rw [List.length_set]; exact D.len, fun i hi hh => D.lo i hi ?_⟩
  · rw [yx (by omega), D.box]
    have := y237 (f := f) p g hl
    rw [yfh hL] at this
    rw [this]
  · obtain ⟨c, h1, h2⟩ := D.res
    exact ⟨c, by rw [yx (by omega)]; exact h1, h2⟩
  · match i, hh with
    | 0, hh => exact hh
    | 1, hh => exact hh
    | 2, _ => exact hc
    | i + 3, hh => exact hh
theorem DSt.out : ∃ H', evSt 5 (.lp 1 1 0 0) (fnV f p g) H = some (.tup [], H') ∧ evLd true 5 (.lp 1 1 0 0) H' = some (fnV f p g) ∧ ye H' (fnV f p g) = some (y2m f) := by
  obtain ⟨c, h1, h2⟩ := D.res
  refine ⟨_, y1jw h1 h2 (ypf f p g) (y12k f p g), y1wu (y3u (y4m h1)) (ypf f p g), FnAt.expo (D.at_.set fun i hi hh => ?_)⟩
  have := D.lo i hi hh; omega
theorem DSt.ix {L : List Ins} (hL : f.code = some L) {i : Nat} {x : Ins} (hx : L[i]? = some x) : evLd true 9 (.lp (p 2) (g 2) i 0) H = some (.agg (enc x)) := y2jt (D.at_.code L hL) hx
theorem DSt.st {L : List Ins} (hL : f.code = some L) {i : Nat} (hi : i < L.length) (y : Ins) : evSt 9 (.lp (p 2) (g 2) i 0) (.agg (enc y)) H = some (.tup [], H.set (p 2) ⟨g 2, .arr false false 9 ((L.set i y).map enc)⟩) :=
  yd1 (α := Ins) (D.at_.code L hL) hi rfl
theorem DSt.call {E : Env} {C : Calls2} {fb k : Nat} {sl : Option Nat} {r : Ex AV} {v : AV} (hE : E.pure k = true) (hf : r.fresh = true) (hc : C.p k [.agg (enc f)] = some r) (hr : y1b0 r v) : y8 E C fb sl true k [fnV f p g] H = some (v, H) := by
  obtain ⟨fr, ids, hz⟩ := D.at_.fz
  refine y2fd (fa := ⟨[.agg (enc f)], fr && true, ids ++ []⟩) hE ?_ hf hc hr
  rw [yl, hz, y13]
end
theorem y1ad {f : Fn} (hs : FnSm f) {H : Heap} (h0 : H[0]? = some (AB f)) (h1 : ∃ c, H[1]? = some ⟨1, .arr true false 5 [c]⟩ ∧ c.length = 5) {n : Nat} (hn : 6 ≤ n) (hl : n ≤ H.length) :
    ∃ H1 H2 p g, y8 E (y9 E) 0 (some 2) false 13 [.agg (enc f)] H = some (fnV f p g, H1) ∧ evSt 5 (.lp 0 1 0 0) (fnV f p g) H1 = some (.tup [], H2) ∧ DSt H2 f p g n ∧ H2.length = H.length ∧ ∀ k, 6 ≤ k → H2[k]? = H[k]? := by
  obtain ⟨H1, p, g, e1, A, e2, e3, e4⟩ := y1er hs (H := H) (fb := 0) (j := 2) (by omega)
  have hb : H1[0]? = some ⟨1, .arr true false 5 [enc f]⟩ := by rw [e4 0 (.inl (by omega)), h0]
  refine ⟨H1, _, p, g, e1, y1jw hb rfl (ypf f p g) (y12k f p g), ⟨A.set fun i hi hh => ?_, y3u (y4m hb), ?_, by rw [List.length_set, e2]; exact hl, fun i hi hh => by have := e3 i hi hh; omega⟩, by rw [List.length_set, e2], fun k hk => ?_⟩
  · have := e3 i hi hh; omega
  · obtain ⟨c, c1, c2⟩ := h1
    exact ⟨c, by rw [yx (by omega), e4 1 (.inl (by omega))]; exact c1, c2⟩
  · rw [yx (by omega), e4 k (.inr (by omega))]
end Go.Vm
namespace Go.Vm
abbrev Ws := List (BitVec 64)
def bit (s : Ws) (r : Nat) : Bool := (s.getD (r / 64) 0).getLsbD (r % 64)
def addW (s : Ws) (r : Nat) : Ws := s.set (r / 64) (s.getD (r / 64) 0 ||| BitVec.twoPow 64 (r % 64))
def y18y (s : Ws) (r : Nat) : Ws := s.set (r / 64) (s.getD (r / 64) 0 &&& ~~~ BitVec.twoPow 64 (r % 64))
def y45 (s t : Ws) : Ws := List.zipWith (· ||| ·) s t
def yff (s t : Ws) : Bool := (List.zipWith (fun a b => decide (b &&& ~~~ a ≠ 0)) s t).any id
def y2l (n : Nat) : Ws := List.replicate n 0
theorem yp7 (s : Ws) (r : Nat) : (addW s r).length = s.length := by simp [addW]
theorem y1cy (s : Ws) (r : Nat) : (y18y s r).length = s.length := by simp [y18y]
theorem y4s {s t : Ws} (h : s.length = t.length) : (y45 s t).length = s.length := by simp [y45, h]
theorem y230 (n r : Nat) : bit (y2l n) r = false := by
  simp only [bit, y2l, List.getD_eq_getElem?_getD, List.getElem?_replicate]
  split <;> simp
theorem y28s {s : Ws} {r : Nat} (h : s.length ≤ r / 64) : bit s r = false := by
  simp [bit, List.getD_eq_getElem?_getD, List.getElem?_eq_none h]
theorem y13n {r q : Nat} (h1 : r / 64 = q / 64) (h2 : r % 64 = q % 64) : r = q := by omega
theorem y2gr {s : Ws} {r : Nat} (h : r / 64 < s.length) (q : Nat) : bit (addW s r) q = (bit s q || decide (q = r)) := by
  have hq : q % 64 < 64 := Nat.mod_lt _ (by omega)
  unfold bit addW
  rw [List.getD_eq_getElem?_getD, List.getElem?_set]
  by_cases e : r / 64 = q / 64
  · rw [if_pos e, if_pos h, ← e]
    simp only [Option.getD_some, BitVec.getLsbD_or, BitVec.getLsbD_twoPow]
    by_cases e2 : q = r
    · subst e2; simp [hq]
    · have : ¬ r % 64 = q % 64 := fun h' => e2 (y13n e h').symm
      simp [e2, this]
  · rw [if_neg e]
    have : ¬ q = r := fun h' => e (by rw [h'])
    simp [this, List.getD_eq_getElem?_getD]
theorem y21r {s : Ws} {r : Nat} (h : r / 64 < s.length) (q : Nat) : bit (y18y s r) q = (bit s q && decide (q ≠ r)) := by
  have hq : q % 64 < 64 := Nat.mod_lt _ (by omega)
  unfold bit y18y
  rw [List.getD_eq_getElem?_getD, List.getElem?_set]
  by_cases e : r / 64 = q / 64
  · rw [if_pos e, if_pos h, ← e]
    simp only [Option.getD_some, BitVec.getLsbD_and, BitVec.getLsbD_not, BitVec.getLsbD_twoPow]
    by_cases e2 : q = r
    · subst e2; simp [hq]
    · have : ¬ r % 64 = q % 64 := fun h' => e2 (y13n e h').symm
      simp [e2, this, hq]
  · rw [if_neg e]
    have : ¬ q = r := fun h' => e (by rw [h'])
    simp [this, List.getD_eq_getElem?_getD]
theorem yba {s t : Ws} (h : s.length = t.length) (q : Nat) : bit (y45 s t) q = (bit s q || bit t q) := by
  unfold bit y45
  simp only [List.getD_eq_getElem?_getD, List.getElem?_zipWith]
  by_cases hq : q / 64 < s.length
  · rw [List.getElem?_eq_getElem hq, List.getElem?_eq_getElem (by omega)]
    simp
  · rw [List.getElem?_eq_none (by omega), List.getElem?_eq_none (by omega)]
    simp
theorem y1wf {s t : Ws} (h : s.length = t.length) : yff s t = true ↔ ∃ q, bit t q = true ∧ bit s q = false := by
  unfold yff
  rw [List.any_eq_true]
  constructor
  · rintro ⟨b, hb, h1⟩
    obtain ⟨k, hk⟩ := List.getElem?_of_mem hb
    rw [List.getElem?_zipWith] at hk
    cases hs : s[k]? with
    | none => rw [hs] at hk; simp at hk
    | some a =>
      cases ht : t[k]? with
      | none => rw [hs, ht] at hk; simp at hk
      | some c =>
        rw [hs, ht] at hk
        simp only [Option.some.injEq] at hk
        rw [← hk] at h1
        simp only [id, decide_eq_true_eq] at h1
        have : ∃ j, j < 64 ∧ (c &&& ~~~ a).getLsbD j = true := by
          refine Classical.byContradiction fun hn => h1 ?_
          refine BitVec.eq_of_getLsbD_eq fun j hj => ?_
          rw [show (0 : BitVec 64).getLsbD j = false by simp]
          rw [← Bool.not_eq_true]
          exact fun hb => hn ⟨j, hj, hb⟩
        obtain ⟨j, hj, hb⟩ := this
        rw [BitVec.getLsbD_and, BitVec.getLsbD_not, Bool.and_eq_true] at hb
        have e1 : (64 * k + j) / 64 = k := by omega
        have e2 : (64 * k + j) % 64 = j := by omega
        refine ⟨64 * k + j, ?_, ?_⟩
        · simp only [bit, e1, e2, List.getD_eq_getElem?_getD, ht, Option.getD_some]; exact hb.1
        · simp only [bit, e1, e2, List.getD_eq_getElem?_getD, hs, Option.getD_some]
          have := hb.2
          simpa [hj] using this
  · rintro ⟨q, h1, h2⟩
    have hq : q / 64 < t.length := by
      refine Classical.byContradiction fun hn => ?_
      rw [y28s (by omega)] at h1; cases h1
    have hqs : q / 64 < s.length := by omega
    refine ⟨true, List.mem_of_getElem? (i := q / 64) ?_, rfl⟩
    rw [List.getElem?_zipWith, List.getElem?_eq_getElem hq, List.getElem?_eq_getElem hqs]
    simp only [bit, List.getD_eq_getElem?_getD, List.getElem?_eq_getElem hq, List.getElem?_eq_getElem hqs, Option.getD_some] at h1 h2
    have : t[q / 64] &&& ~~~ s[q / 64] ≠ 0 := by
      intro e
      have := congrArg (fun w : BitVec 64 => w.getLsbD (q % 64)) e
      simp only [BitVec.getLsbD_and, BitVec.getLsbD_not, h1, h2] at this
      have hm : q % 64 < 64 := Nat.mod_lt _ (by omega)
      simp [hm] at this
    simp only [decide_eq_true this]
theorem ytp {s t : Ws} (h : s.length = t.length) (hm : yff s t = false) : y45 s t = s := by
  refine List.ext_getElem (y4s h) fun k h1 h2 => ?_
  have hk : k < t.length := by omega
  simp only [y45, List.getElem_zipWith]
  have hz : t[k] &&& ~~~ s[k] = 0 := by
    refine Classical.byContradiction fun hn => ?_
    have : yff s t = true := by
      unfold yff
      rw [List.any_eq_true]
      refine ⟨true, List.mem_of_getElem? (i := k) ?_, rfl⟩
      rw [List.getElem?_zipWith, List.getElem?_eq_getElem hk, List.getElem?_eq_getElem h2]
      simp only [decide_eq_true (show t[k] &&& ~~~ s[k] ≠ 0 from hn)]
    rw [hm] at this; cases this
  refine BitVec.eq_of_getLsbD_eq fun j hj => ?_
  have := congrArg (fun w : BitVec 64 => w.getLsbD j) hz
  simp only [BitVec.getLsbD_and, BitVec.getLsbD_not, BitVec.getLsbD_or] at this ⊢
  cases ha : s[k].getLsbD j <;> cases hb : t[k].getLsbD j <;> simp_all
end Go.Vm
namespace Go.Vm
open Cel
attribute [local simp] y8 y2d yp
def okB (b : UInt8) : Bool := (decide (97 ≤ b.toNat) && decide (b.toNat ≤ 122)) || (decide (65 ≤ b.toNat) && decide (b.toNat ≤ 90)) || (decide (48 ≤ b.toNat) && decide (b.toNat ≤ 57)) || decide (b.toNat = 95) || decide (b.toNat = 36) || decide (b.toNat = 47)
def y7h (s : List UInt8) : Bool := decide (1 ≤ s.length) && decide (s.length ≤ 60) && s.all okB
theorem y1i6 (s : List UInt8) (i : Nat) (hi : i < s.length) (v18 : AV) :
    q7_4 (.bool false) (.ls 0 1 1 0 s.length) v18 (.int .i64 i) [⟨1, .arr false false 1 (s.map fun b => [.int .u8 b.toNat])⟩] =
      if okB s[i] then q7_3 (.bool false) (.ls 0 1 1 0 s.length) v18 (.int .i64 i) [⟨1, .arr false false 1 (s.map fun b => [.int .u8 b.toNat])⟩] else some ⟨.bool false, [], true, [], []⟩ := by
  have hc : ((i : Int) < (s.length : Int)) := by omega
  generalize hb : s[i].toNat = n
  have e : (s.map fun b => ([.int .u8 b.toNat] : List AV))[i]? = some [.int .u8 (n : Int)] := by
    rw [List.getElem?_map, List.getElem?_eq_getElem hi, ← hb]; rfl
  have ho : okB s[i] = ((decide (97 ≤ n) && decide (n ≤ 122)) || (decide (65 ≤ n) && decide (n ≤ 90)) || (decide (48 ≤ n) && decide (n ≤ 57)) || decide (n = 95) || decide (n = 36) || decide (n = 47)) := by
    rw [okB, hb]
  rw [ho]
  have c1 : ∀ k : Nat, ((k : Int) ≤ (n : Int)) = (k ≤ n) := fun k => by simp
  have f1 : ((97 : Int) ≤ (n : Int)) = (97 ≤ n) := c1 97
  have f2 : ((65 : Int) ≤ (n : Int)) = (65 ≤ n) := c1 65
  have f3 : ((48 : Int) ≤ (n : Int)) = (48 ≤ n) := c1 48
  have g1 : ((n : Int) ≤ (122 : Int)) = (n ≤ 122) := by simp; omega
  have g2 : ((n : Int) ≤ (90 : Int)) = (n ≤ 90) := by simp; omega
  have g3 : ((n : Int) ≤ (57 : Int)) = (n ≤ 57) := by simp; omega
  have d1 : ((n : Int) = (95 : Int)) = (n = 95) := by simp; omega
  have d2 : ((n : Int) = (36 : Int)) = (n = 36) := by simp; omega
  have d3 : ((n : Int) = (47 : Int)) = (n = 47) := by simp; omega
  have step : ∀ (b1 b2 b3 b4 b5 b6 b7 b8 b9 : Bool), decide (97 ≤ n) = b1 → decide (n ≤ 122) = b2 → decide (65 ≤ n) = b3 → decide (n ≤ 90) = b4 → decide (48 ≤ n) = b5 → decide (n ≤ 57) = b6 → decide (n = 95) = b7 → decide (n = 36) = b8 → decide (n = 47) = b9 →
      q7_4 (.bool false) (.ls 0 1 1 0 s.length) v18 (.int .i64 i) [⟨1, .arr false false 1 (s.map fun b => [.int .u8 b.toNat])⟩] =
      if (b1 && b2) || (b3 && b4) || (b5 && b6) || b7 || b8 || b9 then q7_3 (.bool false) (.ls 0 1 1 0 s.length) v18 (.int .i64 i) [⟨1, .arr false false 1 (s.map fun b => [.int .u8 b.toNat])⟩] else some ⟨.bool false, [], true, [], []⟩ := by
    intro b1 b2 b3 b4 b5 b6 b7 b8 b9 h1 h2 h3 h4 h5 h6 h7 h8 h9
    rw [q7_4]
    have e0 : yt 1 (.ls 0 1 1 0 s.length) (.int .i64 i) = some (.lp 0 1 i 0) := by simp [yt, hc, hi]
    have tri : ∀ a b : Bool, (a = false) ∨ (a = true ∧ b = false) ∨ (a = true ∧ b = true) := by intro a b; cases a <;> cases b <;> simp
    have l1 : y7 .geq (.int .u8 (n : Int)) (.int .u8 97) = some (.bool b1) := by rw [y32]; simp only [f1, h1]
    have l2 : y7 .leq (.int .u8 (n : Int)) (.int .u8 122) = some (.bool b2) := by rw [yhn]; simp only [g1, h2]
    have l3 : y7 .geq (.int .u8 (n : Int)) (.int .u8 65) = some (.bool b3) := by rw [y32]; simp only [f2, h3]
    have l4 : y7 .leq (.int .u8 (n : Int)) (.int .u8 90) = some (.bool b4) := by rw [yhn]; simp only [g2, h4]
    have l5 : y7 .geq (.int .u8 (n : Int)) (.int .u8 48) = some (.bool b5) := by rw [y32]; simp only [f3, h5]
    have l6 : y7 .leq (.int .u8 (n : Int)) (.int .u8 57) = some (.bool b6) := by rw [yhn]; simp only [g3, h6]
    have l7 : y7 .eql (.int .u8 (n : Int)) (.int .u8 95) = some (.bool b7) := by rw [y4p]; simp only [d1, h7]
    have l8 : y7 .eql (.int .u8 (n : Int)) (.int .u8 36) = some (.bool b8) := by rw [y4p]; simp only [d2, h8]
    have l9 : y7 .eql (.int .u8 (n : Int)) (.int .u8 47) = some (.bool b9) := by rw [y4p]; simp only [d3, h9]
    clear h1 h2 h3 h4 h5 h6 h7 h8 h9
    simp only [e0, yc, y35, ye6, e, List.drop_zero, yb1, List.head?_cons, l1]
    generalize q7_3 (.bool false) (.ls 0 1 1 0 s.length) v18 (.int .i64 i) [⟨1, .arr false false 1 (s.map fun b => [.int .u8 b.toNat])⟩] = Z
    rcases tri b1 b2 with rfl | ⟨rfl, rfl⟩ | ⟨rfl, rfl⟩ <;> simp only [l2, y84, yie, ykp, ygn, yn2, yc, y1u, y2o, y2h, y29, y31, l3, y16] <;> try (simp; done)
    all_goals rcases tri b3 b4 with rfl | ⟨rfl, rfl⟩ | ⟨rfl, rfl⟩ <;> simp only [l4, y84, yie, ykp, ygn, yn2, yc, y1u, y2o, y2h, y29, y31, l5, y16] <;> try (simp; done)
    all_goals rcases tri b5 b6 with rfl | ⟨rfl, rfl⟩ | ⟨rfl, rfl⟩ <;> simp only [l6, y84, yie, ykp, ygn, yn2, yc, y1u, y2o, y2h, y29, y31, l7, y16] <;> try (simp; done)
    all_goals cases b7 <;> simp only [y84, yie, ykp, ygn, yn2, yc, y1u, y2o, y2h, y29, y31, l8, y16] <;> try (simp; done)
    all_goals cases b8 <;> simp only [y84, yie, ykp, ygn, yn2, yc, y1u, y2o, y2h, y29, y31, l9, y16] <;> try (simp; done)
    all_goals cases b9 <;> simp
  exact step _ _ _ _ _ _ _ _ _ rfl rfl rfl rfl rfl rfl rfl rfl rfl
end Go.Vm
namespace Go.Vm
open Cel
attribute [local simp] y8 y2d yp
theorem y1u0 (s : List UInt8) (hl : s.length ≤ 60) : ∀ (d i : Nat), i + d = s.length →
    y1r1 (.bool false) (.ls 0 1 1 0 s.length) (.int .i64 s.length) (.int .i64 i) [⟨1, .arr false false 1 (s.map fun b => [.int .u8 b.toNat])⟩] = some ⟨.bool ((s.drop i).all okB), [], true, [], []⟩ := by
  intro d
  induction d with
  | zero =>
    intro i hi
    have e1 : s.drop i = [] := List.drop_eq_nil_of_le (by omega)
    have hc : ¬ ((i : Int) < (s.length : Int)) := by omega
    rw [yzk, e1]
    simp [q7_6, q7_5, q7_1, hc]
  | succ d ih =>
    intro i hi
    have hlt : i < s.length := by omega
    have hc : ((i : Int) < (s.length : Int)) := by omega
    have := ih (i + 1) (by omega)
    push_cast at this
    have e1 : (s.drop i).all okB = (okB s[i] && (s.drop (i + 1)).all okB) := by rw [List.drop_eq_getElem_cons hlt, List.all_cons]
    have hw : IntKind.wrap .i64 ((i : Int) + 1) = (i : Int) + 1 := y2g (by omega) (by omega)
    rw [yzk, e1]
    simp only [q7_6, q7_5, yj, yc, hc, decide_true, y29, y1i6 s i hlt]
    cases okB s[i]
    · simp
    · simp [q7_3, hw, this]
@[simp] theorem y2tg (s : List UInt8) : (y9 E).p 60 [.str s, .bool false] = some ⟨.bool (y7h s), [], true, [], []⟩ := by
  rw [x_q7]
  by_cases h1 : ((s.length : Int) < 1)
  · have : ¬ 1 ≤ s.length := by omega
    simp [q7_1, q7_3, q7_4, q7_5, q7_6, q7_8, y1l8, y1la, h1, y7h, this]
  by_cases h2 : ((60 : Int) < (s.length : Int))
  · have : ¬ s.length ≤ 60 := by omega
    simp [q7_1, q7_3, q7_4, q7_5, q7_6, q7_8, y1l8, y1la, h1, h2, y7h, this]
  · have a1 : 1 ≤ s.length := by omega
    have a2 : s.length ≤ 60 := by omega
    have := y1u0 s a2 s.length 0 (by omega)
    simp only [List.drop_zero] at this
    simp only [y7h, a1, a2, decide_true, Bool.true_and, ← this]
    simp [y1la, y1l8, q7_8, h1, h2, s2bC]
def lead : List UInt8 → Nat
  | [] => 0
  | c :: r => if c = 91 then lead r + 1 else 0
theorem yaq : ∀ s : List UInt8, lead s ≤ s.length
  | [] => Nat.le_refl _
  | c :: r => by
    have := yaq r
    simp only [lead, List.length_cons]
    split <;> omega
theorem yvn : ∀ {s : List UInt8} {i : Nat}, i < lead s → s[i]? = some 91
  | [], i, h => by simp [lead] at h
  | c :: r, i, h => by
    simp only [lead] at h
    split at h
    · rename_i e
      cases i with
      | zero => simp [e]
      | succ i => simpa using yvn (s := r) (by omega)
    · omega
theorem yve : ∀ {s : List UInt8} {c : UInt8}, s[lead s]? = some c → c ≠ 91
  | [], c, h => by simp at h
  | d :: r, c, h => by
    simp only [lead] at h
    split at h
    · exact yve (s := r) (by simpa using h)
    · rename_i e; simp at h; rw [← h]; exact e
def yph (s : List UInt8) : Nat :=
  if 8 < lead s ∨ lead s = s.length then 0
  else if s[lead s]? = some 73 ∨ s[lead s]? = some 74 then lead s + 1
  else if s[lead s]? = some 76 then
    (if (s.drop (lead s + 1)).findIdx (· == 59) < (s.drop (lead s + 1)).length ∧ y7h ((s.take (lead s + 1 + (s.drop (lead s + 1)).findIdx (· == 59))).drop (lead s + 1)) = true then lead s + 1 + (s.drop (lead s + 1)).findIdx (· == 59) + 1 else 0)
  else 0
theorem ixstr {s : List UInt8} {i : Nat} {c : UInt8} (h : s[i]? = some c) : y5n (.str s) (.int .i64 i) = some (.int .u8 c.toNat) := by
  simp [y5n, h]
theorem y5u (c : UInt8) (k : UInt8) : ((c.toNat : Int) = (k.toNat : Int)) ↔ c = k := by
  rw [Int.ofNat_inj]; exact ⟨fun h => UInt8.toNat_inj.1 h, fun h => by rw [h]⟩
theorem y1ra (s : List UInt8) (hs : s.length ≤ 9223372036854775807) (h : Heap) : ∀ (d i : Nat), i + d = lead s → yt0 (.str s) (.int .i64 i) h = ykg (.str s) (.int .i64 (lead s)) h := by
  intro d
  induction d with
  | zero =>
    intro i hi
    obtain rfl : i = lead s := by omega
    rw [yqc]
    have := yaq s
    by_cases hc : lead s < s.length
    · have e := List.getElem?_eq_getElem hc
      have hne := yve e
      have hc' : ((lead s : Int) < (s.length : Int)) := by omega
      have hb : ¬ ((s[lead s].toNat : Int) = 91) := fun hh => hne ((y5u _ 91).1 hh)
      simp [y1wk, hc', ixstr e, hb]
    · have hc' : ¬ ((lead s : Int) < (s.length : Int)) := by omega
      simp [y1wk, hc']
  | succ d ih =>
    intro i hi
    have e := yvn (s := s) (i := i) (by omega)
    have := yaq s
    have hc' : ((i : Int) < (s.length : Int)) := by omega
    have ih := ih (i + 1) (by omega)
    push_cast at ih
    rw [yqc]
    simp [y1wk, hc', ixstr e, y2am, y1d (show i < s.length by omega) hs, ih]
theorem y1uy (s : List UInt8) (hs : s.length ≤ 9223372036854775807) (n : Nat) (h : Heap) : ∀ (d i : Nat), n + 1 ≤ i → i + d = s.length →
    y1gr (.str s) (.int .i64 n) (.int .i64 i) h =
      some ⟨.int .i64 (if (s.drop i).findIdx (· == 59) < (s.drop i).length ∧ y7h ((s.take (i + (s.drop i).findIdx (· == 59))).drop (n + 1)) = true then (i + (s.drop i).findIdx (· == 59) + 1 : Nat) else (0 : Nat)), [], true, [], []⟩ := by
  intro d
  induction d with
  | zero =>
    intro i h1 hi
    rw [yxs]
    have e1 : s.drop i = [] := List.drop_eq_nil_of_le (by omega)
    have hc : ¬ ((i : Int) < (s.length : Int)) := by omega
    simp [y1bf, q9_1, hc, e1]
  | succ d ih =>
    intro i h1 hi
    rw [yxs]
    have hlt : i < s.length := by omega
    have e := List.getElem?_eq_getElem hlt
    have hc : ((i : Int) < (s.length : Int)) := by omega
    have hd : s.drop i = s[i] :: s.drop (i + 1) := List.drop_eq_getElem_cons hlt
    by_cases hb : s[i] = 59
    · have hb' : ((s[i].toNat : Int) = 59) := (y5u _ 59).2 hb
      have hf : (s.drop i).findIdx (· == 59) = 0 := by rw [hd, List.findIdx_cons]; simp [hb]
      have hw1 : IntKind.wrap .i64 ((n : Int) + 1) = (n : Int) + 1 := y1d (show n < s.length by omega) hs
      have hsl : yea (.str s) (some (.int .i64 ((n : Int) + 1))) (some (.int .i64 (i : Int))) = some (.str ((s.take i).drop (n + 1))) := by
        have a1 : ((0 : Int) ≤ (i : Int) ∧ (i : Int) ≤ (s.length : Int)) := by omega
        have a2 : ((0 : Int) ≤ (n : Int) + 1 ∧ (n : Int) + 1 ≤ (i : Int)) := by omega
        simp only [yea, y9j, yju, if_pos a1, Int.toNat_natCast, if_pos a2]
        rfl
      rw [hf]
      have hlen : 0 < (s.drop i).length := by rw [List.length_drop]; omega
      cases hn : y7h ((s.take i).drop (n + 1)) with
      | true =>
        simp only [y1bf, q9_7, q9_6, q9_5, ydn, yc, yj, hc, decide_true, y29, ixstr e, y4p, hb', y1a, hw1, hsl]
        simp [hn, hlt, y1d hlt hs]
        omega
      | false =>
        simp only [y1bf, q9_7, q9_6, q9_5, ydn, yc, yj, hc, decide_true, y29, ixstr e, y4p, hb', y1a, hw1, hsl]
        simp [hn, q9_4]
    · have hb' : ¬ ((s[i].toNat : Int) = 59) := fun hh => hb ((y5u _ 59).1 hh)
      have hf : (s.drop i).findIdx (· == 59) = (s.drop (i + 1)).findIdx (· == 59) + 1 := by
        rw [hd, List.findIdx_cons]
        have : (s[i] == 59) = false := by simpa using hb
        rw [this]; rfl
      have hl : (s.drop i).length = (s.drop (i + 1)).length + 1 := by rw [hd]; rfl
      have ih := ih (i + 1) (by omega) (by omega)
      push_cast at ih
      rw [hf, hl]
      have e2 : i + ((s.drop (i + 1)).findIdx (· == 59) + 1) = i + 1 + (s.drop (i + 1)).findIdx (· == 59) := by omega
      rw [e2]
      simp only [y1bf, q9_7, q9_6, q9_3, ydn, yc, yj, hc, decide_true, y29, y31, ixstr e, y4p, hb', decide_false, y1a, y1d hlt hs, ih]
      simp only [Nat.add_lt_add_iff_right]
      push_cast
      rfl
@[simp] theorem y2k4 (s : List UInt8) (hs : s.length ≤ 9223372036854775807) : (y9 E).p 44 [.str s] = some ⟨.int .i64 (yph s), [], true, [], []⟩ := by
  rw [x_q9]
  have h0 := y1ra s hs [] (lead s) 0 (by omega)
  simp only [Int.ofNat_zero] at h0
  have hle := yaq s
  have key : ykg (.str s) (.int .i64 (lead s)) [] = some ⟨.int .i64 (yph s), [], true, [], []⟩ := by
    unfold yph
    by_cases h8 : 8 < lead s
    · have h8' : ((8 : Int) < (lead s : Int)) := by omega
      simp [ykg, h8', h8]
    by_cases hl : lead s = s.length
    · have h8' : ¬ ((8 : Int) < (lead s : Int)) := by omega
      have hl' : ((lead s : Int) = (s.length : Int)) := by omega
      have h9' : ¬ ((8 : Int) < (s.length : Int)) := by omega
      simp [ykg, h8', h9', hl', hl]
    · have h8' : ¬ ((8 : Int) < (lead s : Int)) := by omega
      have hl' : ¬ ((lead s : Int) = (s.length : Int)) := by omega
      have hlt : lead s < s.length := by omega
      have e := List.getElem?_eq_getElem hlt
      rw [if_neg (by simp [h8, hl]), e]
      have hw := y1d hlt hs
      by_cases c1 : s[lead s] = 73
      · have c1' : ((s[lead s].toNat : Int) = 73) := (y5u _ 73).2 c1
        simp [ykg, y1b1, y18t, yv4, h8', hl', ixstr e, c1', c1, hw]
      by_cases c2 : s[lead s] = 74
      · have c2' : ((s[lead s].toNat : Int) = 74) := (y5u _ 74).2 c2
        simp [ykg, y1b1, y18t, yv4, h8', hl', ixstr e, c2', c2, hw]
      have c1' : ¬ ((s[lead s].toNat : Int) = 73) := fun hh => c1 ((y5u _ 73).1 hh)
      have c2' : ¬ ((s[lead s].toNat : Int) = 74) := fun hh => c2 ((y5u _ 74).1 hh)
      by_cases c3 : s[lead s] = 76
      · have c3' : ((s[lead s].toNat : Int) = 76) := (y5u _ 76).2 c3
        have := y1uy s hs (lead s) [] _ (lead s + 1) (Nat.le_refl _) (show lead s + 1 + (s.length - (lead s + 1)) = s.length by omega)
        push_cast at this
        simp [ykg, y1b1, y18t, yv4, y240, y22s, y28f, h8', hl', ixstr e, c1', c2', c3', c1, c2, c3, hw, this]
        split <;> simp
      · have c3' : ¬ ((s[lead s].toNat : Int) = 76) := fun hh => c3 ((y5u _ 76).1 hh)
        simp [ykg, y1b1, y18t, yv4, y240, y22s, q9_1, h8', hl', ixstr e, c1', c2', c3', c1, c2, c3]
  rw [← key, ← h0]
  simp [y2es, y2f1]
def y7l (s : List UInt8) : Bool := decide (s ≠ []) && decide (yph s = s.length)
@[simp] theorem y2hy (s : List UInt8) (hs : s.length ≤ 9223372036854775807) : (y9 E).p 37 [.str s] = some ⟨.bool (y7l s), [], true, [], []⟩ := by
  rw [x_q8]
  have h := y2k4 s hs
  by_cases h1 : s = []
  · simp [q8_1, h1, y7l]
  · have e : ((yph s : Int) = (s.length : Int)) ↔ yph s = s.length := by omega
    simp [q8_1, h1, y7l, h, e]
end Go.Vm
namespace Go.Vm
open Cel
attribute [local simp] y8 y2d yp
def numK (c : Int) : Int × Int × Int :=
  if c ∈ [96, 100, 104, 108, 112, 120, 122, 124, 126, 128, 130] then (1, 1, 1)
  else if c ∈ [97, 101, 105, 109, 113, 127, 129, 131] then (2, 2, 2)
  else if c ∈ [121, 123, 125] then (2, 1, 2)
  else if c = 148 then (2, 2, 1)
  else if c ∈ [116, 145, 146, 147] then (1, 0, 1)
  else if c = 117 then (2, 0, 2)
  else if c = 133 then (1, 0, 2)
  else if c = 136 then (2, 0, 1)
  else (0, 0, 0)
def yxf (r : Option (Ex AV)) (k : Int × Int × Int) : Bool :=
  match r with
  | some ⟨.tup [.int .i64 a, .int .i64 b, .int .i64 c], [], true, [], []⟩ => a == k.1 && b == k.2.1 && c == k.2.2
  | _ => false
theorem yqt {r : Option (Ex AV)} {k : Int × Int × Int} (h : yxf r k = true) : r = some ⟨.tup [.int .i64 k.1, .int .i64 k.2.1, .int .i64 k.2.2], [], true, [], []⟩ := by
  unfold yxf at h
  split at h
  · simp only [Bool.and_eq_true, beq_iff_eq] at h
    obtain ⟨⟨h1, h2⟩, h3⟩ := h
    rw [h1, h2, h3]
  · cases h
theorem ya1 {n : Nat} {f : Nat → Bool} (h : ((List.range n).all f) = true) (i : Nat) (hi : i < n) : f i = true := by
  rw [List.all_eq_true] at h
  exact h i (List.mem_range.2 hi)
theorem y2lx : ((List.range 60).all fun i => yxf ((both E 30).1.p 50 [.int .i64 (95 + i)]) (numK (95 + i))) = true := by kernel_rfl
theorem ygv {c : Int} (h : c < 96 ∨ 148 < c) : numK c = (0, 0, 0) := by
  simp only [numK, List.mem_cons, List.not_mem_nil, or_false]
  repeat' split
  all_goals first | rfl | omega
theorem y2fz (c : Int) : (y9 E).p 50 [.int .i64 c] = some ⟨.tup [.int .i64 (numK c).1, .int .i64 (numK c).2.1, .int .i64 (numK c).2.2], [], true, [], []⟩ := by
  by_cases h : c < 96 ∨ 148 < c
  · rw [ygv h, y2rt]
    have h2 : ∀ k : Int, 96 ≤ k → k ≤ 148 → ¬ c = k := by omega
    simp [y2fj, y19n, y2em, y2ar, y2dp, y1qx, y2c5, yko, y2fs, y7r, y1j0, y1kq, y1e7, h2]
    rfl
  · have := ya1 y2lx (c - 95).toNat (by omega)
    have e : (95 + ((c - 95).toNat : Int)) = c := by omega
    simp only [e] at this
    exact y136 30 (yqt this)
end Go.Vm
namespace Go.Vm
def yr (x : Ins) : Int × Int × Int × Int × Bool :=
  match x.op with
  | 1 => (0, -1, -1, -1, true)
  | 2 => (3, -1, -1, -1, true)
  | 3 => (3, -1, -1, -1, true)
  | 4 => (0, 0, -1, -1, true)
  | 5 => ((numK x.n).2.2, (numK x.n).1, (numK x.n).2.1, -1, decide (¬ (numK x.n).2.1 = 0))
  | 6 => ((numK x.n).2.2, (numK x.n).1, -1, -1, decide (¬ (numK x.n).1 = 0) && decide ((numK x.n).2.1 = 0))
  | 7 => (-1, 0, -1, -1, true)
  | 8 => (-1, 3, -1, -1, true)
  | 9 => (-1, 3, 1, -1, true)
  | 10 => (-1, 1, -1, -1, true)
  | 11 => (-1, 3, 3, -1, true)
  | 12 => (-1, 3, -1, -1, y7l x.s)
  | 13 => (0, 3, 1, -1, true)
  | 14 => (-1, 3, 1, 0, true)
  | 15 => (1, 3, -1, -1, true)
  | 16 => (0, 3, -1, -1, decide (0 ≤ x.n))
  | 17 => (-1, 3, 0, -1, decide (0 ≤ x.n))
  | 18 => (0, -1, -1, -1, true)
  | 19 => (-1, 0, -1, -1, true)
  | 20 => (3, -1, -1, -1, true)
  | 21 => (3, 1, -1, -1, y7l x.s)
  | 22 => (1, 3, -1, -1, y7l x.s)
  | 23 => (if x.d = -1 then -1 else 0, -1, -1, -1, decide (0 ≤ x.n) && decide ((lst x.args).length ≤ 21))
  | 24 => (if x.d = -1 then -1 else 0, -1, -1, -1, decide (0 < (lst x.args).length) && decide (0 ≤ x.n) && decide ((lst x.args).length ≤ 21))
  | 25 => (if x.d = -1 then -1 else 0, -1, -1, -1, decide (0 < (lst x.args).length) && decide ((lst x.args).length ≤ 21))
  | 26 => (if x.d = -1 then -1 else 0, -1, -1, -1, decide (0 ≤ x.n) && decide ((lst x.args).length ≤ 21))
  | 27 => (-1, -1, -1, -1, true)
  | 28 => (-1, 1, 1, -1, decide (0 ≤ x.n) && decide (x.n ≤ 5))
  | 29 => (-1, 3, if x.b = -1 then -1 else 3, -1, decide (x.n = 0) || decide (x.n = 1))
  | 30 => (-1, if x.a = -1 then -1 else 0, -1, -1, true)
  | 31 => (-1, 3, -1, -1, true)
  | 32 => (3, -1, -1, -1, true)
  | 33 => (-1, -1, -1, -1, true)
  | _ => (0, 0, 0, 0, false)
def exK (k : Int × Int × Int × Int × Bool) : Ex AV := ⟨.tup [.agg [.int .i64 k.1, .int .i64 k.2.1, .int .i64 k.2.2.1, .int .i64 k.2.2.2.1], .bool k.2.2.2.2], [], true, [], []⟩
theorem yl3 {x : Ins} (h : x.op < 1 ∨ 33 < x.op) : yr x = (0, 0, 0, 0, false) := by
  unfold yr
  split <;> first | rfl | omega
end Go.Vm
namespace Go.Vm
def regK (R : List Int) (r : Int) : Int := if r < 0 then 0 else R.getD r.toNat 0
def inR (R : List Int) (r : Int) : Bool := decide (0 ≤ r) && decide (r < R.length)
def y27 (R : List Int) (w r : Int) : Bool := decide (w < 0) || (inR R r && (decide (w ≤ 0) || decide (regK R r = w)))
def yj4 (R : List Int) (x : Ins) : Bool :=
  match lst x.args with
  | [] => true
  | r :: _ => !(decide (x.op = 24) || decide (x.op = 25)) || decide (regK R r = 3)
def y6w (R : List Int) (x : Ins) : Bool := !calls x.op || (yj4 R x && (lst x.args).all (inR R))
def y3e (R : List Int) (ret : Int) (n : Nat) (x : Ins) : Bool :=
  if x.op = 1 then decide (¬ regK R x.d = 3) && (decide (regK R x.d = 2) || decide (x.n = IntKind.wrap .i64 (IntKind.wrap .i32 x.n)))
  else if x.op = 4 then decide (regK R x.d = regK R x.a)
  else if x.op = 7 then decide (¬ regK R x.a = 3)
  else if x.op = 30 then (decide (x.a = -1) == decide (ret = 0)) && (decide (x.a = -1) || decide (regK R x.a = ret))
  else !leads x.op || (decide (0 ≤ x.t) && decide (x.t < n))
def y26 (f : Fn) (x : Ins) : Bool :=
  (yr x).2.2.2.2 && y27 (lst f.regs) (yr x).1 x.d && y27 (lst f.regs) (yr x).2.1 x.a && y27 (lst f.regs) (yr x).2.2.1 x.b && y27 (lst f.regs) (yr x).2.2.2.1 x.c &&
    y6w (lst f.regs) x && y3e (lst f.regs) f.ret (lst f.code).length x
theorem yvy {R : List Int} {r : Int} (h : inR R r = true) : 0 ≤ r ∧ r.toNat < R.length ∧ R[r.toNat]? = some (regK R r) := by
  simp only [inR, Bool.and_eq_true, decide_eq_true_eq] at h
  have h1 : r.toNat < R.length := by omega
  refine ⟨h.1, h1, ?_⟩
  rw [regK, if_neg (by omega), List.getD_eq_getElem?_getD, List.getElem?_eq_getElem h1]; rfl
def y52 (n : Nat) (t : Int) : Bool := decide (0 ≤ t) && decide (t < n)
def y3p (C : List Ins) (i : Nat) (x : Ins) : Bool :=
  !((decide (x.op = 32) && (decide (i = 0) || !ends ((C.getD (i - 1) default).op))) || (leads x.op && decide ((C.getD x.t.toNat default).op = 32)))
def y46 (f : Fn) (C : List Ins) : Nat → List Ins → Bool
  | _, [] => true
  | i, x :: r => y26 f x && y3p C i x && y46 f C (i + 1) r
def y4g (C : List Ins) (r : Row) : Bool :=
  !(decide (r.f < 0) || decide (r.t ≤ r.f) || decide ((C.length : Int) < r.t) || decide (r.at_ < 0) || decide ((C.length : Int) ≤ r.at_) || decide (¬ (C.getD r.at_.toNat default).op = 32))
def y7w (R : List Int) : Nat → List Int → List Int → Bool
  | _, _, [] => true
  | i, seen, p :: r => (inR R p && !seen.contains p && decide (i ≤ 20)) && y7w R (i + 1) (seen ++ [p]) r
def wf (f : Fn) : Bool :=
  decide (1 ≤ (lst f.code).length) && decide ((lst f.code).length ≤ 20000) && decide ((lst f.regs).length ≤ 20000) && decide (0 ≤ f.ret) && decide (f.ret ≤ 3) && ends ((lst f.code).getD ((lst f.code).length - 1) default).op &&
    (lst f.regs).all (fun k => decide (1 ≤ k) && decide (k ≤ 3)) && y7w (lst f.regs) 0 [] (lst f.params) && y46 f (lst f.code) 0 (lst f.code) && (lst f.rows).all (y4g (lst f.code))
end Go.Vm
namespace Go.Vm
theorem yjs {f : Fn} {C : List Ins} : ∀ {l : List Ins} {i k : Nat} {x : Ins}, y46 f C i l = true → l[k]? = some x → y26 f x = true ∧ y3p C (i + k) x = true
  | [], _, _, _, _, h => by simp at h
  | y :: l, i, k, x, hk, h => by
    simp only [y46, Bool.and_eq_true] at hk
    cases k with
    | zero => simp at h; subst h; exact hk.1
    | succ k =>
      have := yjs hk.2 (by simpa using h)
      rwa [show i + 1 + k = i + (k + 1) by omega] at this
structure Wf (f : Fn) : Prop where
  n1 : 1 ≤ (lst f.code).length
  n2 : (lst f.code).length ≤ 20000
  regs : (lst f.regs).length ≤ 20000
  ret0 : 0 ≤ f.ret
  ret3 : f.ret ≤ 3
  last : ends (yh f ((lst f.code).length - 1)).op = true
  kinds : ∀ k ∈ lst f.regs, 1 ≤ k ∧ k ≤ 3
  pars : y7w (lst f.regs) 0 [] (lst f.params) = true
  ins : ∀ i, i < (lst f.code).length → y26 f (yh f i) = true
  spot : ∀ i, i < (lst f.code).length → y3p (lst f.code) i (yh f i) = true
  rows : ∀ r ∈ lst f.rows, y4g (lst f.code) r = true
theorem ypq {f : Fn} (h : wf f = true) : Wf f := by
  simp only [wf, Bool.and_eq_true, decide_eq_true_eq, List.all_eq_true] at h
  obtain ⟨⟨⟨⟨⟨⟨⟨⟨⟨h1, h2⟩, h3⟩, h4⟩, h5⟩, h6⟩, h7⟩, h8⟩, h9⟩, h10⟩ := h
  refine ⟨h1, h2, h3, h4, h5, h6, h7, h8, fun i hi => ?_, fun i hi => ?_, h10⟩
  · exact (yjs h9 (y63 hi)).1
  · have := (yjs h9 (y63 hi)).2
    rwa [Nat.zero_add] at this
theorem yuu {R : List Int} {ret : Int} {n : Nat} {x : Ins} (h : y3e R ret n x = true) (hl : leads x.op = true) : 0 ≤ x.t ∧ x.t < n := by
  have hne : ¬ x.op = 1 ∧ ¬ x.op = 4 ∧ ¬ x.op = 7 ∧ ¬ x.op = 30 := by
    simp only [leads, Bool.or_eq_true, decide_eq_true_eq] at hl
    omega
  simp only [y3e, hne, if_false, hl, Bool.not_true, Bool.false_or, Bool.and_eq_true, decide_eq_true_eq] at h
  exact h
theorem Wf.leads {f : Fn} (w : Wf f) {i : Nat} (hi : i < (lst f.code).length) (hl : Go.Vm.leads (yh f i).op = true) : 0 ≤ (yh f i).t ∧ (yh f i).t < (lst f.code).length := by
  have h := w.ins i hi
  simp only [y26, Bool.and_eq_true] at h
  exact yuu h.2 hl
structure RowIn (f : Fn) (r : Row) : Prop where
  f0 : 0 ≤ r.f
  ft : r.f < r.t
  tn : r.t ≤ (lst f.code).length
  a0 : 0 ≤ r.at_
  an : r.at_ < (lst f.code).length
  op : (yh f r.at_.toNat).op = 32
theorem Wf.row {f : Fn} (w : Wf f) {r : Row} (hr : r ∈ lst f.rows) : RowIn f r := by
  have h := w.rows r hr
  simp only [y4g, Bool.not_eq_true', Bool.or_eq_false_iff, decide_eq_false_iff_not, Classical.not_not] at h
  exact ⟨by omega, by omega, by omega, by omega, by omega, h.2⟩
end Go.Vm
namespace Go.Vm
def y7j (f : Fn) (i : Nat) : List Int := lst (uses (yh f i))
def y9x (f : Fn) (r : Int) (i : Nat) : List Int := yv f i ++ if defr (yh f i) = r then [] else y1r f i
def badR (f : Fn) (r : Int) : Prop := ∃ i, Rch (lst f.code).length (y9x f r) [0] i ∧ r ∈ y7j f i
def setP (f : Fn) : Prop := ∀ r : Int, 0 ≤ r → r < (lst f.regs).length → r ∉ lst f.params → ¬ badR f r
open Classical in
noncomputable def setM (f : Fn) : Bool := wf f && decide (setP f)
abbrev Tab := List (Option (List Bool))
def andB (t s : List Bool) : List Bool := List.zipWith (· && ·) t s
def yuw (t s : List Bool) : Bool := (List.zipWith (fun a b => a && !b) t s).any id
def ycj (s : List Bool) (to : Int) (p : Tab × List Int) : Tab × List Int :=
  match p.1[to.toNat]? with
  | some (some t) => if yuw t s then (p.1.set to.toNat (some (andB t s)), p.2 ++ [to]) else p
  | _ => (p.1.set to.toNat (some s), p.2 ++ [to])
def y47 (s : List Bool) : List Int → Tab × List Int → Tab × List Int
  | [], p => p
  | to :: l, p => y47 s l (ycj s to p)
def y3i (d : Int) (s : List Bool) : List Bool := if 0 ≤ d then s.set d.toNat true else s
def ydq (ins : Tab) (i : Nat) : List Bool := (ins[i]?.join).getD []
def yjq (f : Fn) : Nat → Tab → List Int → Option Tab
  | 0, _, _ => none
  | k + 1, ins, work => match work.getLast? with
    | none => some ins
    | some i => match y47 (ydq ins i.toNat) (yv f i) (ins, work.dropLast) with
      | (ins1, w1) => match y47 (y3i (defr (yh f i.toNat)) (ydq ins i.toNat)) (y1r f i) (ins1, w1) with
        | (ins2, w2) => yjq f k ins2 w2
def wt (R : Nat) : Option (List Bool) → Nat
  | none => R + 1
  | some s => s.countP id
def pot (R : Nat) (ins : Tab) : Nat := (ins.map (wt R)).sum
def LeB (t s : List Bool) : Prop := ∀ r : Nat, t[r]? = some true → s[r]? = some true
theorem LeB.refl (t : List Bool) : LeB t t := fun _ h => h
theorem LeB.trans {a b c : List Bool} (h : LeB a b) (h' : LeB b c) : LeB a c := fun r h1 => h' r (h r h1)
theorem yz2 {t s : List Bool} (h : t.length = s.length) : (andB t s).length = t.length := by simp [andB, h]
theorem ynx {t s : List Bool} {r : Nat} : (andB t s)[r]? = some true ↔ t[r]? = some true ∧ s[r]? = some true := by
  rw [andB, List.getElem?_zipWith]
  cases t[r]? <;> cases s[r]? <;> simp
theorem yqz (t s : List Bool) : LeB (andB t s) t := fun _ h => (ynx.1 h).1
theorem y1am (t s : List Bool) : LeB (andB t s) s := fun _ h => (ynx.1 h).2
theorem ye9 {t s : List Bool} : yuw t s = true ↔ ∃ r : Nat, t[r]? = some true ∧ s[r]? = some false := by
  rw [yuw, List.any_eq_true]
  constructor
  · rintro ⟨b, hb, h1⟩
    obtain ⟨r, hr⟩ := List.getElem?_of_mem hb
    rw [List.getElem?_zipWith] at hr
    refine ⟨r, ?_⟩
    cases ht : t[r]? <;> cases hs : s[r]? <;> rw [ht, hs] at hr <;> simp_all
  · rintro ⟨r, h1, h2⟩
    refine ⟨true, List.mem_of_getElem? (i := r) ?_, rfl⟩
    rw [List.getElem?_zipWith, h1, h2]; rfl
theorem yoy : ∀ {t s : List Bool}, t.length = s.length → LeB s t → (∃ r : Nat, t[r]? = some true ∧ s[r]? = some false) → s.countP id < t.countP id
  | [], [], _, _, ⟨r, h, _⟩ => by simp at h
  | a :: t, b :: s, hl, hle, ⟨r, h1, h2⟩ => by
    have hl' : t.length = s.length := by simpa using hl
    have hle' : LeB s t := fun q h => by have := hle (q + 1) (by simpa using h); simpa using this
    have le : ∀ {t s : List Bool}, t.length = s.length → LeB s t → s.countP id ≤ t.countP id := by
      intro t
      induction t with
      | nil => intro s hl _; rw [List.length_nil] at hl; rw [List.eq_nil_of_length_eq_zero hl.symm]; exact Nat.le_refl _
      | cons a t ih =>
        intro s hl hle
        cases s with
        | nil => simp at hl
        | cons b s =>
          have := ih (s := s) (by simpa using hl) (fun q h => by have := hle (q + 1) (by simpa using h); simpa using this)
          have h0 := hle 0
          simp only [List.countP_cons]
          cases a <;> cases b <;> simp_all <;> omega
    simp only [List.countP_cons]
    cases r with
    | zero =>
      simp at h1 h2
      subst h1; subst h2
      have := le hl' hle'
      simp; omega
    | succ r =>
      have := yoy hl' hle' ⟨r, by simpa using h1, by simpa using h2⟩
      have h0 := hle 0
      cases a <;> cases b <;> simp_all <;> omega
  | [], _ :: _, h, _, _ => by simp at h
  | _ :: _, [], h, _, _ => by simp at h
def LeT (a b : Tab) : Prop := ∀ (i : Nat) s, a[i]? = some (some s) → ∃ t, b[i]? = some (some t) ∧ LeB t s
theorem LeT.refl (a : Tab) : LeT a a := fun _ s h => ⟨s, h, .refl _⟩
theorem LeT.trans {a b c : Tab} (h : LeT a b) (h' : LeT b c) : LeT a c := fun i s hs => by
  obtain ⟨t, h1, h2⟩ := h i s hs
  obtain ⟨u, h3, h4⟩ := h' i t h1
  exact ⟨u, h3, h4.trans h2⟩
def LeAt (ins : Tab) (to : Int) (s : List Bool) : Prop := ∃ t, ins[to.toNat]? = some (some t) ∧ LeB t s
theorem LeAt.mono {a b : Tab} (h : LeT a b) {to : Int} {s : List Bool} (hs : LeAt a to s) : LeAt b to s := by
  obtain ⟨t, h1, h2⟩ := hs
  obtain ⟨u, h3, h4⟩ := h _ _ h1
  exact ⟨u, h3, h4.trans h2⟩
theorem y7i {ins : Tab} {i j : Nat} {x y : Option (List Bool)} (h : (ins.set i x)[j]? = some y) : (j = i ∧ y = x) ∨ (j ≠ i ∧ ins[j]? = some y) := by
  rw [List.getElem?_set] at h
  split at h
  · rename_i e
    split at h
    · injection h with h; exact .inl ⟨e.symm, h.symm⟩
    · cases h
  · rename_i e; exact .inr ⟨fun e' => e e'.symm, h⟩
theorem y57 {ins : Tab} {i : Nat} {x : Option (List Bool)} (h : i < ins.length) : (ins.set i x)[i]? = some x := by simp [h]
theorem ysz {ins : Tab} {i j : Nat} {x : Option (List Bool)} (h : j ≠ i) : (ins.set i x)[j]? = ins[j]? := List.getElem?_set_ne (fun e => h e.symm)
section
variable {n R : Nat}
structure TblOk (n R : Nat) (ins : Tab) : Prop where
  len : ins.length = n
  rows : ∀ (i : Nat) s, ins[i]? = some (some s) → s.length = R
structure MeetR (n R : Nat) (s : List Bool) (T : Int → Prop) (p q : Tab × List Int) : Prop where
  ok : TblOk n R q.1
  le : LeT p.1 q.1
  work : ∀ (i : Nat) t, q.1[i]? = some (some t) → p.1[i]? = some (some t) ∨ (i : Int) ∈ q.2
  keep : ∀ j, j ∈ p.2 → j ∈ q.2
  fresh : ∀ j, j ∈ q.2 → j ∈ p.2 ∨ (0 ≤ j ∧ j < n ∧ ∃ t, q.1[j.toNat]? = some (some t))
  src : ∀ (i r : Nat) t, q.1[i]? = some (some t) → t[r]? = some false → (∃ u, p.1[i]? = some (some u) ∧ u[r]? = some false) ∨ (s[r]? = some false ∧ T i)
  pot : 2 * pot R q.1 + q.2.length ≤ 2 * Go.Vm.pot R p.1 + p.2.length
theorem MeetR.refl {s : List Bool} {T : Int → Prop} {p : Tab × List Int} (h : TblOk n R p.1) : MeetR n R s T p p :=
  ⟨h, .refl _, fun _ _ h => .inl h, fun _ h => h, fun _ h => .inl h, fun _ _ _ h1 h2 => .inl ⟨_, h1, h2⟩, Nat.le_refl _⟩
theorem y1vz {ins : Tab} {i : Nat} {x y : Option (List Bool)} (h : ins[i]? = some x) : pot R (ins.set i y) + wt R x = pot R ins + wt R y := by
  unfold pot
  induction ins generalizing i with
  | nil => simp at h
  | cons a ins ih =>
    cases i with
    | zero =>
      simp at h
      subst h
      simp only [List.set_cons_zero, List.map_cons, List.sum_cons]
      omega
    | succ i =>
      simp only [List.getElem?_cons_succ] at h
      have := ih h
      simp only [List.set_cons_succ, List.map_cons, List.sum_cons]
      omega
theorem ylm {s : List Bool} {to : Int} {p : Tab × List Int} (hp : TblOk n R p.1) (hs : s.length = R) (h0 : 0 ≤ to) (h1 : to < n) : MeetR n R s (· = to) p (ycj s to p) ∧ LeAt (ycj s to p).1 to s := by
  obtain ⟨ins, work⟩ := p
  simp only at hp
  have hlt : to.toNat < ins.length := by rw [hp.len]; omega
  unfold ycj
  simp only
  obtain ⟨x, hx⟩ : ∃ x, ins[to.toNat]? = some x := ⟨_, List.getElem?_eq_getElem hlt⟩
  have hpot := fun y => y1vz (R := R) (y := y) hx
  cases x with
  | none =>
    rw [hx]
    simp only
    have hc : s.countP id ≤ R := by rw [← hs]; exact List.countP_le_length
    refine ⟨⟨⟨by simpa using hp.len, fun i t ht => ?_⟩, fun i t ht => ?_, fun i t ht => ?_, fun j hj => List.mem_append_left _ hj, fun j hj => ?_, fun i r t ht hr => ?_, ?_⟩, s, y57 hlt, .refl _⟩
    · rcases y7i ht with ⟨_, e⟩ | ⟨_, h⟩
      · injection e with e; rw [e]; exact hs
      · exact hp.rows i t h
    · by_cases e : i = to.toNat
      · subst e; simp only at ht; rw [hx] at ht; cases ht
      · exact ⟨t, by simp only; rw [ysz e]; exact ht, .refl _⟩
    · rcases y7i ht with ⟨e, _⟩ | ⟨_, h⟩
      · right; simp only [List.mem_append, List.mem_singleton]; right; omega
      · exact .inl h
    · rcases List.mem_append.1 hj with h | h
      · exact .inl h
      · rw [List.mem_singleton] at h
        subst h
        exact .inr ⟨h0, h1, s, y57 hlt⟩
    · rcases y7i ht with ⟨ei, e⟩ | ⟨_, h⟩
      · injection e with e; subst e; exact .inr ⟨hr, by omega⟩
      · exact .inl ⟨t, h, hr⟩
    · have := hpot (some s)
      simp only [wt] at this
      simp only [List.length_append, List.length_singleton] at this ⊢
      omega
  | some t0 =>
    rw [hx]
    simp only
    have ht0 := hp.rows _ _ hx
    split
    · rename_i hl
      obtain ⟨r0, q1, q2⟩ := ye9.1 hl
      have hlen : (andB t0 s).length = R := by rw [yz2 (by omega)]; exact ht0
      have hlt2 : (andB t0 s).countP id < t0.countP id := yoy (by omega) (yqz _ _) ⟨r0, q1, by
        have hr : r0 < (andB t0 s).length := by rw [hlen]; rw [← ht0]; exact (List.getElem?_eq_some_iff.1 q1).1
        rw [List.getElem?_eq_getElem hr]
        cases hb : (andB t0 s)[r0] with
        | false => rfl
        | true =>
          have := (ynx (t := t0) (s := s) (r := r0)).1 (by rw [List.getElem?_eq_getElem hr, hb])
          rw [q2] at this; cases this.2⟩
      refine ⟨⟨⟨by simpa using hp.len, fun i t ht => ?_⟩, fun i t ht => ?_, fun i t ht => ?_, fun j hj => List.mem_append_left _ hj, fun j hj => ?_, fun i r t ht hr => ?_, ?_⟩, andB t0 s, y57 hlt, y1am _ _⟩
      · rcases y7i ht with ⟨_, e⟩ | ⟨_, h⟩
        · injection e with e; rw [e]; exact hlen
        · exact hp.rows i t h
      · by_cases e : i = to.toNat
        · subst e
          simp only at ht
          rw [hx] at ht
          injection ht with ht; injection ht with ht; subst ht
          exact ⟨_, y57 hlt, yqz _ _⟩
        · exact ⟨t, by simp only; rw [ysz e]; exact ht, .refl _⟩
      · rcases y7i ht with ⟨e, _⟩ | ⟨_, h⟩
        · right; simp only [List.mem_append, List.mem_singleton]; right; omega
        · exact .inl h
      · rcases List.mem_append.1 hj with h | h
        · exact .inl h
        · rw [List.mem_singleton] at h
          subst h
          exact .inr ⟨h0, h1, _, y57 hlt⟩
      · rcases y7i ht with ⟨ei, e⟩ | ⟨_, h⟩
        · injection e with e
          subst e
          subst ei
          have hr1 : r < (andB t0 s).length := (List.getElem?_eq_some_iff.1 hr).1
          have hrt : r < t0.length := by omega
          have hrs : r < s.length := by omega
          rw [andB, List.getElem?_zipWith, List.getElem?_eq_getElem hrt, List.getElem?_eq_getElem hrs] at hr
          cases ha : t0[r] with
          | false => exact .inl ⟨t0, hx, by rw [List.getElem?_eq_getElem hrt, ha]⟩
          | true =>
            rw [ha] at hr
            right
            rw [List.getElem?_eq_getElem hrs]
            exact ⟨by simpa using hr, by omega⟩
        · exact .inl ⟨t, h, hr⟩
      · have := hpot (some (andB t0 s))
        simp only [wt] at this
        simp only [List.length_append, List.length_singleton] at this ⊢
        omega
    · rename_i hl
      refine ⟨.refl hp, t0, hx, fun r hr => ?_⟩
      have hr1 : r < s.length := by have := (List.getElem?_eq_some_iff.1 hr).1; omega
      rw [List.getElem?_eq_getElem hr1]
      cases hb : s[r] with
      | true => rfl
      | false => exact (hl (ye9.2 ⟨r, hr, by rw [List.getElem?_eq_getElem hr1, hb]⟩)).elim
theorem MeetR.trans {s : List Bool} {T : Int → Prop} {p q u : Tab × List Int} (h : MeetR n R s T p q) (h' : MeetR n R s T q u) : MeetR n R s T p u := by
  refine ⟨h'.ok, h.le.trans h'.le, fun i t ht => ?_, fun j hj => h'.keep j (h.keep j hj), fun j hj => ?_, fun i r t ht hr => ?_, Nat.le_trans h'.pot h.pot⟩
  · rcases h'.work i t ht with h1 | h1
    · rcases h.work i t h1 with h2 | h2
      · exact .inl h2
      · exact .inr (h'.keep _ h2)
    · exact .inr h1
  · rcases h'.fresh j hj with h1 | h1
    · rcases h.fresh j h1 with h2 | ⟨a, b, t, ht⟩
      · exact .inl h2
      · obtain ⟨v, hv, _⟩ := h'.le _ _ ht
        exact .inr ⟨a, b, v, hv⟩
    · exact .inr h1
  · rcases h'.src i r t ht hr with ⟨v, h1, h2⟩ | h1
    · exact h.src i r v h1 h2
    · exact .inr h1
theorem MeetR.mono {s : List Bool} {T T' : Int → Prop} {p q : Tab × List Int} (h : MeetR n R s T p q) (hT : ∀ j, T j → T' j) : MeetR n R s T' p q :=
  ⟨h.ok, h.le, h.work, h.keep, h.fresh, fun i r t h1 h2 => (h.src i r t h1 h2).imp id fun x => ⟨x.1, hT _ x.2⟩, h.pot⟩
theorem ybr {s : List Bool} (hs : s.length = R) : ∀ (l : List Int) (p : Tab × List Int), TblOk n R p.1 → (∀ to ∈ l, 0 ≤ to ∧ to < n) → MeetR n R s (· ∈ l) p (y47 s l p) ∧ ∀ to ∈ l, LeAt (y47 s l p).1 to s
  | [], p, hp, _ => ⟨.refl hp, fun _ h => by cases h⟩
  | to :: l, p, hp, hl => by
    obtain ⟨a1, a2⟩ := ylm hp hs (hl to (by simp)).1 (hl to (by simp)).2
    obtain ⟨b1, b2⟩ := ybr hs l (ycj s to p) a1.ok (fun t ht => hl t (by simp [ht]))
    refine ⟨(a1.mono fun j e => by simp [e]).trans (b1.mono fun j h => by simp [h]), fun t ht => ?_⟩
    rcases List.mem_cons.1 ht with rfl | ht
    · exact a2.mono b1.le
    · exact b2 t ht
end
end Go.Vm
namespace Go.Vm
theorem ybq {R : List Int} {k r : Int} (h : y27 R k r = true) (hk : 0 ≤ k) : 0 ≤ r ∧ r < R.length := by
  simp only [y27, Bool.or_eq_true, decide_eq_true_eq, Bool.and_eq_true, inR] at h
  omega
theorem yuq (n : Int) : 0 ≤ (numK n).1 ∧ 0 ≤ (numK n).2.1 ∧ 0 ≤ (numK n).2.2 := by
  unfold numK
  repeat' split
  all_goals decide
set_option maxHeartbeats 4000000 in
theorem y1ar {f : Fn} {x : Ins} (h : y26 f x = true) {u : Int} (hu : u ∈ lst (uses x)) : 0 ≤ u ∧ u < (lst f.regs).length := by
  simp only [y26, Bool.and_eq_true] at h
  obtain ⟨⟨⟨⟨⟨⟨h0, h1⟩, h2⟩, h3⟩, h4⟩, h5⟩, h6⟩ := h
  by_cases hc : calls x.op = true
  · have hu' : u ∈ lst x.args := by simpa [uses, hc] using hu
    simp only [y6w, hc, Bool.not_true, Bool.false_or, Bool.and_eq_true, List.all_eq_true] at h5
    have := h5.2 u hu'
    simpa [inR] using this
  · have key : (u = x.a ∧ 0 ≤ (yr x).2.1) ∨ (u = x.b ∧ 0 ≤ (yr x).2.2.1) ∨ (u = x.c ∧ 0 ≤ (yr x).2.2.2.1) ∨ False := by
      rcases ybi x.op with h|h|h|h|h|h|h|h|h|h|h|h|h|h|h|h|h|h|h|h|h|h|h|h|h|h|h|h|h|h|h|h|h|h|h
      all_goals first
        | (exfalso; simp [uses, reads, calls, h] at hu; done)
        | (exfalso; simp [calls, h] at hc; done)
        | (simp [uses, reads, calls, h] at hu; simp [yr, h] at h0 ⊢; first | omega | (rcases hu with rfl | rfl <;> simp [yuq]) | (rcases hu with rfl | rfl | rfl <;> simp) | (subst hu; simp [yuq]))
        | (simp [uses, reads, calls, h] at hu; simp [yr, h]; split at hu <;> simp_all; done)
        | (exfalso; simp [uses, reads, calls, lo_f h] at hu; done)
        | (exfalso; simp [uses, reads, calls, hi_f h] at hu; done)
        | skip
      · by_cases hb : x.b < 0
        · simp [uses, calls, h, hb] at hu
          exact .inl ⟨hu, by simp [yr, h]⟩
        · simp [uses, calls, h, hb] at hu
          rcases hu with hu | hu
          · exact .inl ⟨hu, by simp [yr, h]⟩
          · have : ¬ x.b = -1 := by omega
            exact .inr (.inl ⟨hu, by simp [yr, h, this]⟩)
      · by_cases ha : 0 ≤ x.a
        · simp [uses, calls, h, ha] at hu
          have : ¬ x.a = -1 := by omega
          exact .inl ⟨hu, by simp [yr, h, this]⟩
        · simp [uses, calls, h, ha] at hu
    rcases key with ⟨rfl, hk⟩ | ⟨rfl, hk⟩ | ⟨rfl, hk⟩ | hk
    · exact ybq h2 hk
    · exact ybq h3 hk
    · exact ybq h4 hk
    · exact hk.elim
set_option maxHeartbeats 4000000 in
theorem y1ii {f : Fn} {x : Ins} (h : y26 f x = true) (hd : ¬ defr x = -1) : 0 ≤ defr x ∧ defr x < (lst f.regs).length := by
  simp only [y26, Bool.and_eq_true] at h
  obtain ⟨⟨⟨⟨⟨⟨h0, h1⟩, h2⟩, h3⟩, h4⟩, h5⟩, h6⟩ := h
  have key : defr x = x.d ∧ 0 ≤ (yr x).1 := by
    unfold defr at hd ⊢
    split at hd
    · rename_i hw
      rw [if_pos hw]
      refine ⟨rfl, ?_⟩
      rcases ybi x.op with h|h|h|h|h|h|h|h|h|h|h|h|h|h|h|h|h|h|h|h|h|h|h|h|h|h|h|h|h|h|h|h|h|h|h
      all_goals first
        | (exfalso; simp [writes, calls, h] at hw; done)
        | (simp [yr, h, yuq, hd]; done)
        | (exfalso; simp [writes, calls, lo_f h] at hw; done)
        | (exfalso; simp [writes, calls, hi_f h] at hw; done)
    · exact (hd rfl).elim
  rw [key.1]
  exact ybq h1 key.2
theorem Wf.uses {f : Fn} (w : Wf f) {i : Nat} (hi : i < (lst f.code).length) {u : Int} (hu : u ∈ lst (Go.Vm.uses (yh f i))) : 0 ≤ u ∧ u < (lst f.regs).length := y1ar (w.ins i hi) hu
theorem Wf.def {f : Fn} (w : Wf f) {i : Nat} (hi : i < (lst f.code).length) (hd : 0 ≤ defr (yh f i)) : defr (yh f i) < (lst f.regs).length := (y1ii (w.ins i hi) (by omega)).2
theorem yoz {l : List Int} {j a : Int} (h : j ∈ addN l a) : j ∈ l ∨ j = a := by
  unfold addN at h
  split at h
  · exact .inl h
  · rw [List.mem_append, List.mem_singleton] at h; exact h
theorem Wf.next {f : Fn} (w : Wf f) {i : Nat} (hi : i < (lst f.code).length) {to : Int} (h : to ∈ y1r f i) : 0 ≤ to ∧ to < (lst f.code).length := by
  rw [y1r, if_neg (by omega), show ((i : Int)).toNat = i by omega] at h
  have hself : ∀ {j : Int}, j ∈ (if ends (yh f i).op = true then [] else [(i : Int) + 1]) → 0 ≤ j ∧ j < (lst f.code).length := by
    intro j hj
    split at hj
    · cases hj
    · rename_i he
      rw [List.mem_singleton] at hj
      subst hj
      refine ⟨by omega, ?_⟩
      by_cases e : i = (lst f.code).length - 1
      · subst e; exact (he w.last).elim
      · omega
  unfold yv5 at h
  split at h
  · rename_i hl
    rcases yoz h with h | h
    · exact hself h
    · rw [h]; exact w.leads hi hl
  · exact hself h
theorem yfm {i to : Int} : ∀ {rs : List Row} {l : List Int}, to ∈ y4t i rs l → to ∈ l ∨ ∃ r ∈ rs, r.at_ = to
  | [], l, h => .inl h
  | r :: rs, l, h => by
    unfold y4t at h
    split at h
    · split at h
      · rcases yoz h with h | h
        · exact .inl h
        · exact .inr ⟨r, by simp, h.symm⟩
      · rcases yfm h with h | ⟨r', h1, h2⟩
        · rcases yoz h with h | h
          · exact .inl h
          · exact .inr ⟨r, by simp, h.symm⟩
        · exact .inr ⟨r', by simp [h1], h2⟩
    · rcases yfm h with h | ⟨r', h1, h2⟩
      · exact .inl h
      · exact .inr ⟨r', by simp [h1], h2⟩
theorem Wf.caught {f : Fn} (w : Wf f) {i to : Int} (h : to ∈ yv f i) : 0 ≤ to ∧ to < (lst f.code).length := by
  rw [yv] at h
  split at h
  · cases h
  · split at h
    · rcases yfm h with h | ⟨r, h1, h2⟩
      · cases h
      · have := w.row h1
        rw [← h2]; exact ⟨this.a0, this.an⟩
    · cases h
theorem ym1 {l : List Int} {j : Int} (h : l.Nodup) : (addN l j).Nodup := by
  unfold addN
  split
  · exact h
  · rename_i hc
    rw [List.nodup_append]
    refine ⟨h, by simp, fun a ha b hb => ?_⟩
    rw [List.mem_singleton] at hb
    subst hb
    rintro rfl
    exact hc (by simpa using ha)
theorem y8h {i : Int} : ∀ {rs : List Row} {l : List Int}, l.Nodup → (y4t i rs l).Nodup
  | [], _, h => h
  | r :: rs, l, h => by
    rw [y4t]
    split
    · split
      · exact ym1 h
      · exact y8h (ym1 h)
    · exact y8h h
theorem Wf.caught_len {f : Fn} (w : Wf f) (i : Int) : (yv f i).length ≤ 20000 := by
  have hd : (yv f i).Nodup := by
    rw [yv]
    split
    · simp
    · split
      · exact y8h (by simp)
      · simp
  have hs : yv f i ⊆ (List.range (lst f.code).length).map fun k => ((k : Nat) : Int) := by
    intro to ht
    have := w.caught ht
    rw [List.mem_map]
    exact ⟨to.toNat, List.mem_range.2 (by omega), by omega⟩
  have := hd.length_le_of_subset hs
  have hn := w.n2
  rw [List.length_map, List.length_range] at this
  omega
theorem y14z {R : List Int} : ∀ {l : List Int} {i : Nat} {seen : List Int} {p : Int}, y7w R i seen l = true → p ∈ l → 0 ≤ p ∧ p < R.length
  | q :: l, i, seen, p, h, hp => by
    simp only [y7w, Bool.and_eq_true] at h
    rcases List.mem_cons.1 hp with rfl | hp
    · simpa [inR] using h.1.1.1
    · exact y14z h.2 hp
theorem ysh {R : List Int} : ∀ {l : List Int} {i : Nat} {seen : List Int}, y7w R i seen l = true → l = [] ∨ i + l.length ≤ 21
  | [], _, _, _ => .inl rfl
  | q :: l, i, seen, h => by
    simp only [y7w, Bool.and_eq_true, decide_eq_true_eq] at h
    right
    rcases ysh h.2 with h1 | h1
    · subst h1; simp; omega
    · simp only [List.length_cons]; omega
end Go.Vm
namespace Go.Vm
def y5t (f : Fn) (A : List Int) (r : Nat) : Prop := ∃ i, Rch (lst f.code).length (y9x f r) A i ∧ (r : Int) ∈ y7j f i
theorem Rch.one {n : Nat} {S : Nat → List Int} {i k : Nat} : Rch n S [(i : Int)] k ↔ (k = i ∧ i < n) ∨ (i < n ∧ Rch n S (S i) k) := by
  constructor
  · intro h
    induction h with
    | base hj j0 j1 =>
      rw [List.mem_singleton] at hj
      subst hj
      exact .inl ⟨by omega, by omega⟩
    | step h hj j0 j1 ih =>
      rcases ih with ⟨e, hi⟩ | ⟨hi, h'⟩
      · subst e
        exact .inr ⟨hi, .base hj j0 j1⟩
      · exact .inr ⟨hi, .step h' hj j0 j1⟩
  · rintro (⟨e, hi⟩ | ⟨hi, h⟩)
    · subst e
      have := Rch.base (n := n) (S := S) (A := [(k : Int)]) (j := (k : Int)) (by simp) (by omega) (by omega)
      simpa using this
    · have hb : Rch n S [(i : Int)] i := by
        have := Rch.base (n := n) (S := S) (A := [(i : Int)]) (j := (i : Int)) (by simp) (by omega) (by omega)
        simpa using this
      induction h with
      | base hj j0 j1 => exact .step hb hj j0 j1
      | step h hj j0 j1 ih => exact .step ih hj j0 j1
theorem Rch.some_ {n : Nat} {S : Nat → List Int} {A : List Int} {k : Nat} : Rch n S A k ↔ ∃ a ∈ A, 0 ≤ a ∧ a < n ∧ Rch n S [a] k := by
  constructor
  · intro h
    induction h with
    | base hj j0 j1 => exact ⟨_, hj, j0, j1, .base (by simp) j0 j1⟩
    | step h hj j0 j1 ih =>
      obtain ⟨a, ha, a0, a1, h'⟩ := ih
      exact ⟨a, ha, a0, a1, .step h' hj j0 j1⟩
  · rintro ⟨a, ha, a0, a1, h⟩
    induction h with
    | base hj j0 j1 =>
      rw [List.mem_singleton] at hj
      subst hj
      exact .base ha j0 j1
    | step h hj j0 j1 ih => exact .step ih hj j0 j1
section
variable (f : Fn)
theorem y5k {A : List Int} {r : Nat} : y5t f A r ↔ ∃ a ∈ A, 0 ≤ a ∧ a < (lst f.code).length ∧ y5t f [a] r := by
  unfold y5t
  constructor
  · rintro ⟨i, h, hu⟩
    obtain ⟨a, ha, a0, a1, h'⟩ := Rch.some_.1 h
    exact ⟨a, ha, a0, a1, i, h', hu⟩
  · rintro ⟨a, ha, a0, a1, i, h', hu⟩
    exact ⟨i, Rch.some_.2 ⟨a, ha, a0, a1, h'⟩, hu⟩
theorem y25z {i r : Nat} (hi : i < (lst f.code).length) : y5t f [(i : Int)] r ↔ (r : Int) ∈ y7j f i ∨ y5t f (yv f i) r ∨ (defr (yh f i) ≠ r ∧ y5t f (y1r f i) r) := by
  have key : y5t f [(i : Int)] r ↔ (r : Int) ∈ y7j f i ∨ y5t f (y9x f r i) r := by
    unfold y5t
    constructor
    · rintro ⟨k, h, hu⟩
      rcases Rch.one.1 h with ⟨e, _⟩ | ⟨_, h'⟩
      · subst e; exact .inl hu
      · exact .inr ⟨k, h', hu⟩
    · rintro (hu | ⟨k, h', hu⟩)
      · exact ⟨i, Rch.one.2 (.inl ⟨rfl, hi⟩), hu⟩
      · exact ⟨k, Rch.one.2 (.inr ⟨hi, h'⟩), hu⟩
  rw [key, y5k, y5k, y5k]
  unfold y9x
  constructor
  · rintro (h | ⟨a, ha, h⟩)
    · exact .inl h
    · rw [List.mem_append] at ha
      rcases ha with ha | ha
      · exact .inr (.inl ⟨a, ha, h⟩)
      · split at ha
        · cases ha
        · rename_i hd
          exact .inr (.inr ⟨hd, a, ha, h⟩)
  · rintro (h | ⟨a, ha, h⟩ | ⟨hd, a, ha, h⟩)
    · exact .inl h
    · exact .inr ⟨a, List.mem_append_left _ ha, h⟩
    · refine .inr ⟨a, List.mem_append_right _ ?_, h⟩
      rw [if_neg hd]; exact ha
structure Tb where
  b : List Ws
  a : List Ws
  h : List Ws
def rowW (l : List Ws) (i : Nat) : Ws := l.getD i []
def joins (l : List Ws) (ts : List Int) (s : Ws) : Ws := ts.foldl (fun s to => y45 s (rowW l to.toNat)) s
def adds (us : List Int) (s : Ws) : Ws := us.foldl (fun s u => addW s u.toNat) s
def ybv (d : Int) (s : Ws) : Ws := if 0 ≤ d then y18y s d.toNat else s
def aftT (t : Tb) (i : Nat) : Ws := joins t.b (y1r f i) (rowW t.a i)
def hanT (t : Tb) (i : Nat) : Ws := joins t.b (yv f i) (rowW t.h i)
def befT (t : Tb) (i : Nat) : Ws := adds (y7j f i) (y45 (ybv (defr (yh f i)) (aftT f t i)) (hanT f t i))
def y56 (t : Tb) (i : Nat) : Tb := ⟨t.b.set i (y45 (rowW t.b i) (befT f t i)), t.a.set i (aftT f t i), t.h.set i (hanT f t i)⟩
def ykr (t : Tb) (i : Nat) : Bool := yff (rowW t.b i) (befT f t i)
def y3j : Nat → Tb → Tb × Bool
  | 0, t => (t, false)
  | i + 1, t => ((y3j i (y56 f t i)).1, ykr f t i || (y3j i (y56 f t i)).2)
def yed : Nat → Tb → Option Tb
  | 0, _ => none
  | k + 1, t => if (y3j f (lst f.code).length t).2 then yed k (y3j f (lst f.code).length t).1 else some (y3j f (lst f.code).length t).1
structure TbOk (n W : Nat) (t : Tb) : Prop where
  b : t.b.length = n
  a : t.a.length = n
  h : t.h.length = n
  bw : ∀ i, i < n → (rowW t.b i).length = W
  aw : ∀ i, i < n → (rowW t.a i).length = W
  hw : ∀ i, i < n → (rowW t.h i).length = W
theorem y58 {l : List Ws} {i j : Nat} {x : Ws} (hi : i < l.length) : rowW (l.set i x) j = if j = i then x else rowW l j := by
  unfold rowW
  rw [List.getD_eq_getElem?_getD, List.getElem?_set]
  by_cases e : j = i
  · subst e; simp [hi]
  · rw [if_neg (fun h => e h.symm), if_neg e, List.getD_eq_getElem?_getD]
variable {W n : Nat} {l : List Ws}
theorem yix : ∀ (ts : List Int) (s : Ws), s.length = W → (∀ i, i < n → (rowW l i).length = W) → (∀ to ∈ ts, 0 ≤ to ∧ to < n) → (joins l ts s).length = W
  | [], s, hs, _, _ => hs
  | to :: ts, s, hs, hl, ht => by
    have h1 := ht to (by simp)
    refine yix ts _ ?_ hl fun t h => ht t (by simp [h])
    rw [y4s (by rw [hs, hl _ (by omega)]), hs]
theorem yih : ∀ (ts : List Int) (s : Ws), s.length = W → (∀ i, i < n → (rowW l i).length = W) → (∀ to ∈ ts, 0 ≤ to ∧ to < n) → ∀ r, bit (joins l ts s) r = true ↔ bit s r = true ∨ ∃ to ∈ ts, bit (rowW l to.toNat) r = true
  | [], s, hs, _, _, r => by simp [joins]
  | to :: ts, s, hs, hl, ht, r => by
    have h1 := ht to (by simp)
    have e : s.length = (rowW l to.toNat).length := by rw [hs, hl _ (by omega)]
    have := yih ts (y45 s (rowW l to.toNat)) (by rw [y4s e, hs]) hl (fun t h => ht t (by simp [h])) r
    have e2 : joins l (to :: ts) s = joins l ts (y45 s (rowW l to.toNat)) := rfl
    rw [e2, this, yba e, Bool.or_eq_true]
    simp only [List.mem_cons]
    constructor
    · rintro ((h | h) | ⟨t, h, h'⟩)
      · exact .inl h
      · exact .inr ⟨to, .inl rfl, h⟩
      · exact .inr ⟨t, .inr h, h'⟩
    · rintro (h | ⟨t, (rfl | h), h'⟩)
      · exact .inl (.inl h)
      · exact .inl (.inr h')
      · exact .inr ⟨t, h, h'⟩
theorem yy4 : ∀ (us : List Int) (s : Ws), (adds us s).length = s.length
  | [], _ => rfl
  | u :: us, s => by
    have := yy4 us (addW s u.toNat)
    rw [yp7] at this
    exact this
theorem yxb : ∀ (us : List Int) (s : Ws), (∀ u ∈ us, 0 ≤ u ∧ u.toNat / 64 < s.length) → ∀ r, bit (adds us s) r = true ↔ bit s r = true ∨ ((r : Nat) : Int) ∈ us
  | [], s, _, r => by simp [adds]
  | u :: us, s, h, r => by
    have h1 := h u (by simp)
    have := yxb us (addW s u.toNat) (fun v hv => by rw [yp7]; exact h v (by simp [hv])) r
    have e2 : adds (u :: us) s = adds us (addW s u.toNat) := rfl
    rw [e2, this, y2gr h1.2, Bool.or_eq_true, decide_eq_true_eq, List.mem_cons]
    constructor
    · rintro ((h | h) | h)
      · exact .inl h
      · exact .inr (.inl (by omega))
      · exact .inr (.inr h)
    · rintro (h | h | h)
      · exact .inl (.inl h)
      · exact .inl (.inr (by omega))
      · exact .inr h
theorem yb3 (d : Int) (s : Ws) : (ybv d s).length = s.length := by
  unfold ybv
  split
  · exact y1cy _ _
  · rfl
theorem y1q4 {d : Int} {s : Ws} (h : 0 ≤ d → d.toNat / 64 < s.length) (r : Nat) : bit (ybv d s) r = true ↔ bit s r = true ∧ d ≠ r := by
  unfold ybv
  split
  · rename_i hd
    rw [y21r (h hd), Bool.and_eq_true, decide_eq_true_eq]
    have : r ≠ d.toNat ↔ d ≠ (r : Int) := by omega
    rw [this]
  · have : d ≠ (r : Int) := by omega
    simp [this]
end
end Go.Vm
namespace Go.Vm
open Classical in
noncomputable def aftR (f : Fn) (i r : Int) : Bool := decide (0 ≤ i) && (decide (i < (lst f.code).length) && (decide (0 ≤ r) && (decide (r < (lst f.regs).length) && decide (y5t f (y1r f i) r.toNat))))
end Go.Vm
namespace Go.Vm
theorem ytm {f : Fn} {C : List Ins} : ∀ (l : List Ins) (i : Nat), (∀ k x, l[k]? = some x → y26 f x = true ∧ y3p C (i + k) x = true) → y46 f C i l = true
  | [], _, _ => rfl
  | y :: l, i, h => by
    rw [y46, (h 0 y rfl).1, ytm l (i + 1) (fun k x hx => by
      have := h (k + 1) x (by simpa using hx)
      rwa [show i + (k + 1) = i + 1 + k by omega] at this)]
    have := (h 0 y rfl).2
    rw [Nat.add_zero] at this
    rw [this]; rfl
theorem yyg {f : Fn} {i : Nat} (h : (lst f.code).length ≤ i) : yh f i = default := by
  rw [yh, List.getD_eq_getElem?_getD, List.getElem?_eq_none h]; rfl
structure Swap (f g : Fn) : Prop where
  regs : g.regs = f.regs
  params : g.params = f.params
  ret : g.ret = f.ret
  rows : g.rows = f.rows
  len : (lst g.code).length = (lst f.code).length
theorem Swap.refl (f : Fn) : Swap f f := ⟨rfl, rfl, rfl, rfl, rfl⟩
theorem Swap.trans {f g h : Fn} (a : Swap f g) (b : Swap g h) : Swap f h := ⟨b.regs.trans a.regs, b.params.trans a.params, b.ret.trans a.ret, b.rows.trans a.rows, b.len.trans a.len⟩
theorem yua {f g : Fn} (s : Swap f g) (x : Ins) : y26 g x = y26 f x := by
  unfold y26
  rw [s.regs, s.ret, s.len]
theorem y2ec {f g : Fn} (s : Swap f g) (hw : wf f = true) (h : ∀ i, i < (lst f.code).length → y26 f (yh g i) = true ∧ (ends (yh f i).op = true → ends (yh g i).op = true) ∧
    ((yh g i).op = 32 ↔ (yh f i).op = 32) ∧ (leads (yh g i).op = true → leads (yh f i).op = true ∧ (yh g i).t = (yh f i).t)) : wf g = true := by
  have w := ypq hw
  have e32 : ∀ i : Nat, (yh g i).op = 32 ↔ (yh f i).op = 32 := fun i => by
    by_cases hi : i < (lst f.code).length
    · exact (h i hi).2.2.1
    · rw [yyg (f := g) (by rw [s.len]; omega), yyg (f := f) (by omega)]
  have hlast := (h ((lst f.code).length - 1) (by have := w.n1; omega)).2.1 w.last
  have hspot : ∀ i, i < (lst f.code).length → y3p (lst g.code) i (yh g i) = true := by
    intro i hi
    have h0 := w.spot i hi
    obtain ⟨_, _, h3, h4⟩ := h i hi
    unfold y3p at h0 ⊢
    rw [Bool.not_eq_true', Bool.or_eq_false_iff, Bool.and_eq_false_iff, Bool.and_eq_false_iff] at h0 ⊢
    refine ⟨?_, ?_⟩
    · rcases h0.1 with q | q
      · left
        simp only [decide_eq_false_iff_not] at q ⊢
        rwa [h3]
      · right
        rw [Bool.or_eq_false_iff] at q ⊢
        refine ⟨q.1, ?_⟩
        have he : ends (yh f (i - 1)).op = true := by simpa [yh] using q.2
        have := (h (i - 1) (by omega)).2.1 he
        simpa [yh] using this
    · cases hl : leads (yh g i).op with
      | false => exact .inl rfl
      | true =>
        right
        obtain ⟨a, b⟩ := h4 hl
        rcases h0.2 with h | h
        · rw [a] at h; cases h
        · simp only [decide_eq_false_iff_not] at h ⊢
          rw [b]
          exact fun e => h ((e32 _).1 e)
  have hw' := hw
  unfold wf at hw' ⊢
  rw [s.len, s.regs, s.ret, s.params, s.rows]
  simp only [Bool.and_eq_true] at hw' ⊢
  obtain ⟨⟨⟨⟨⟨⟨⟨⟨⟨h1, h2⟩, h3⟩, h4⟩, h5⟩, h6⟩, h7⟩, h8⟩, h9⟩, h10⟩ := hw'
  refine ⟨⟨⟨⟨⟨⟨⟨⟨⟨h1, h2⟩, h3⟩, h4⟩, h5⟩, hlast⟩, h7⟩, h8⟩, ytm _ 0 fun k x hx => ?_⟩, ?_⟩
  · have hk : k < (lst f.code).length := by rw [← s.len]; exact (List.getElem?_eq_some_iff.1 hx).1
    have e : yh g k = x := by rw [yh, List.getD_eq_getElem?_getD, hx]; rfl
    rw [Nat.zero_add, ← e]
    exact ⟨by rw [yua s]; exact (h k hk).1, hspot k hk⟩
  · rw [List.all_eq_true] at h10 ⊢
    intro r hr
    have := h10 r hr
    unfold y4g at this ⊢
    rw [s.len]
    rw [Bool.not_eq_true', Bool.or_eq_false_iff] at this ⊢
    refine ⟨this.1, ?_⟩
    have t2 := this.2
    simp only [decide_eq_false_iff_not, Classical.not_not] at t2 ⊢
    exact (e32 r.at_.toNat).2 t2
end Go.Vm
namespace Go.Vm
inductive Way (f : Fn) (r : Int) : Nat → Prop
  | use {i : Nat} : i < (lst f.code).length → r ∈ y7j f i → Way f r i
  | step {i : Nat} {j : Int} : i < (lst f.code).length → j ∈ y9x f r i → 0 ≤ j → j < (lst f.code).length → Way f r j.toNat → Way f r i
theorem Way.lt {f : Fn} {r : Int} {i : Nat} (h : Way f r i) : i < (lst f.code).length := by cases h <;> assumption
theorem ygz {f : Fn} {r : Nat} {A : List Int} : y5t f A r ↔ ∃ a ∈ A, 0 ≤ a ∧ a < (lst f.code).length ∧ Way f r a.toNat := by
  rw [y5k f]
  constructor
  · rintro ⟨a, ha, a0, a1, k, hk, hu⟩
    refine ⟨a, ha, a0, a1, ?_⟩
    have key : ∀ {k : Nat}, Rch (lst f.code).length (y9x f r) [a] k → Way f r k → Way f r a.toNat := by
      intro k hk
      induction hk with
      | base hj j0 j1 =>
        rw [List.mem_singleton] at hj
        subst hj
        exact id
      | step h hj j0 j1 ih => exact fun w => ih (.step h.lt hj j0 j1 w)
    exact key hk (.use hk.lt hu)
  · rintro ⟨a, ha, a0, a1, w⟩
    refine ⟨a, ha, a0, a1, ?_⟩
    have key : ∀ {k : Nat}, Way f r k → ∀ {A : List Int}, Rch (lst f.code).length (y9x f r) A k → y5t f A r := by
      intro k w
      induction w with
      | use hi hu => exact fun h => ⟨_, h, hu⟩
      | step hi hj j0 j1 _ ih => exact fun h => ih (.step h hj j0 j1)
    exact key w (.base (by simp) a0 a1)
theorem y1iw {f : Fn} {r : Nat} : badR f r ↔ 0 < (lst f.code).length ∧ Way f r 0 := by
  have : badR f r ↔ y5t f [0] r := Iff.rfl
  rw [this, ygz]
  constructor
  · rintro ⟨a, ha, a0, a1, w⟩
    rw [List.mem_singleton] at ha
    subst ha
    exact ⟨by omega, w⟩
  · rintro ⟨h, w⟩
    exact ⟨0, by simp, by omega, by omega, w⟩
end Go.Vm
namespace Go.Vm
def nopI : Ins := ⟨33, 0, 0, 0, 0, 0, 0, [], none⟩
noncomputable def y39 (f : Fn) (i : Nat) : Bool := purel (yh f i).op && !aftR f i (yh f i).d
noncomputable def y54 (f : Fn) : Fn := { f with code := some ((List.range (lst f.code).length).map fun i => if y39 f i then nopI else yh f i) }
noncomputable def yd5 (f : Fn) : Bool := (List.range (lst f.code).length).any (y39 f)
inductive DeadTo : Fn → Fn → Prop
  | done {f : Fn} : yd5 f = false → DeadTo f f
  | more {f g : Fn} : yd5 f = true → DeadTo (y54 f) g → DeadTo f g
theorem yaa {o : Int} (h : purel o = true) : ends o = false ∧ leads o = false ∧ throws o = false ∧ o ≠ 32 ∧ o ≠ 33 ∧ writes o = true := by
  simp only [purel, decide_eq_true_eq, List.mem_cons, List.not_mem_nil, or_false] at h
  rcases h with rfl | rfl | rfl | rfl | rfl | rfl | rfl | rfl | rfl | rfl | rfl <;> decide
section
variable (f : Fn)
theorem y3t : (lst (y54 f).code).length = (lst f.code).length := by simp [y54]
theorem ybs : Swap f (y54 f) := ⟨rfl, rfl, rfl, rfl, y3t f⟩
theorem y59 {i : Nat} (hi : i < (lst f.code).length) : yh (y54 f) i = if y39 f i then nopI else yh f i := by
  simp [yh, y54, List.getD_eq_getElem?_getD, hi]
variable {f}
theorem y4c {i : Nat} (h : y39 f i = true) : purel (yh f i).op = true := by
  simp only [y39, Bool.and_eq_true] at h
  exact h.1
theorem y18f : y26 f nopI = true := by
  simp [y26, nopI, yr, y27, y6w, calls, y3e, leads]
theorem yoi (hw : wf f = true) : wf (y54 f) = true := by
  have w := ypq hw
  refine y2ec (ybs f) hw fun i hi => ?_
  rw [y59 f hi]
  cases hd : y39 f i with
  | false => exact ⟨w.ins i hi, id, Iff.rfl, fun h => ⟨h, rfl⟩⟩
  | true =>
    obtain ⟨h1, h2, h3, h4, h5, _⟩ := yaa (y4c hd)
    rw [if_pos rfl]
    refine ⟨y18f, (fun h => by rw [h1] at h; cases h), ⟨(fun h => by cases h), fun h => (h4 h).elim⟩, (fun h => by cases h)⟩
theorem ylr (i : Int) : y1r (y54 f) i = y1r f i := by
  unfold y1r
  rw [y3t]
  by_cases h : i < 0 ∨ ((lst f.code).length : Int) ≤ i
  · rw [if_pos h, if_pos h]
  · rw [if_neg h, if_neg h, y59 f (by omega)]
    cases hd : y39 f i.toNat with
    | false => rfl
    | true =>
      obtain ⟨h1, h2, _⟩ := yaa (y4c hd)
      simp only [if_true, yv5, h1, h2]
      rfl
theorem yt1 (i : Int) : yv (y54 f) i = yv f i := by
  unfold yv
  rw [y3t]
  by_cases h : i < 0 ∨ ((lst f.code).length : Int) ≤ i
  · rw [if_pos h, if_pos h]
  · rw [if_neg h, if_neg h, y59 f (by omega)]
    cases hd : y39 f i.toNat with
    | false => rfl
    | true =>
      obtain ⟨_, _, h3, _⟩ := yaa (y4c hd)
      simp only [if_true, h3]
      rfl
theorem yvw {i : Nat} (h : purel (yh f i).op = true) : yv f (i : Int) = [] := by
  obtain ⟨_, _, h3, _⟩ := yaa h
  unfold yv
  rw [Int.toNat_natCast, h3]
  split <;> rfl
theorem y22b {x : Ins} (h : purel x.op = true) : defr x = x.d := by
  obtain ⟨_, _, _, _, _, h6⟩ := yaa h
  rw [defr, if_pos h6]
theorem y1xr : lst (uses nopI) = [] := by decide
theorem y2gn : defr nopI = -1 := by decide
theorem y0z (hw : wf f = true) {r : Nat} {i : Nat} (h : Way (y54 f) r i) : Way f r i := by
  have w := ypq hw
  induction h with
  | use hi hu =>
    rw [y3t] at hi
    refine .use hi ?_
    rw [y7j, y59 f hi] at hu
    split at hu
    · rw [y1xr] at hu; cases hu
    · exact hu
  | @step i j hi hj j0 j1 _ ih =>
    rw [y3t] at hi j1
    rw [y9x, yt1, ylr, y59 f hi] at hj
    cases hd : y39 f i with
    | false =>
      rw [hd] at hj
      exact .step hi (by rw [y9x]; exact hj) j0 j1 ih
    | true =>
      have hp := y4c hd
      rw [hd] at hj
      simp only [if_true, y2gn, show ¬ (-1 : Int) = (r : Int) by omega, if_false] at hj
      by_cases e : defr (yh f i) = r
      · -- it is live behind what was gone: but that isn't so
        rw [yvw hp, List.nil_append] at hj
        have hdr := w.def hi (by rw [e]; omega)
        have e2 : (yh f i).d = r := by rw [← y22b hp]; exact e
        simp only [y39, Bool.and_eq_true, Bool.not_eq_true'] at hd
        have := hd.2
        rw [e2] at this
        have hl : y5t f (y1r f i) r := ygz.2 ⟨j, hj, j0, j1, ih⟩
        unfold aftR at this
        rw [e] at hdr
        simp [hi, hdr, hl] at this
      · refine .step hi ?_ j0 j1 ih
        rw [y9x, if_neg e]
        exact hj
theorem y1sr (hw : wf f = true) (hs : setM f = true) : setM (y54 f) = true := by
  unfold setM at hs ⊢
  rw [yoi hw]
  rw [hw] at hs
  simp only [Bool.true_and, decide_eq_true_eq] at hs ⊢
  intro r h0 h1 hp hb
  have e : ((r.toNat : Nat) : Int) = r := by omega
  rw [← e] at hb
  obtain ⟨b1, b2⟩ := y1iw.1 hb
  rw [y3t] at b1
  refine hs r h0 h1 hp ?_
  rw [← e]
  exact y1iw.2 ⟨b1, y0z hw b2⟩
theorem y1wj (hw : wf f = true) {i r : Int} (h : aftR (y54 f) i r = true) : aftR f i r = true := by
  unfold aftR at h ⊢
  rw [y3t, ylr] at h
  simp only [Bool.and_eq_true, decide_eq_true_eq] at h ⊢
  refine ⟨h.1, h.2.1, h.2.2.1, h.2.2.2.1, ?_⟩
  obtain ⟨a, ha, a0, a1, w⟩ := ygz.1 h.2.2.2.2
  rw [y3t] at a1
  exact ygz.2 ⟨a, ha, a0, a1, y0z hw w⟩
structure DeadOk (f g : Fn) : Prop where
  swap : Swap f g
  wf : wf g = true
  set : setM f = true → setM g = true
  aft : ∀ i r : Int, aftR g i r = true → aftR f i r = true
  at_ : ∀ i, i < (lst f.code).length → yh g i = yh f i ∨ (yh g i = nopI ∧ purel (yh f i).op = true)
  left : yd5 g = false
theorem DeadTo.ok {f g : Fn} (h : DeadTo f g) (hw : Go.Vm.wf f = true) : DeadOk f g := by
  induction h with
  | done hd => exact ⟨Swap.refl _, hw, id, fun _ _ => id, fun _ _ => .inl rfl, hd⟩
  | @more f g hd _ ih =>
    have k := ih (yoi hw)
    refine ⟨(ybs f).trans k.swap, k.wf, fun h => k.set (y1sr hw h), fun i r h => y1wj hw (k.aft i r h), fun i hi => ?_, k.left⟩
    have := k.at_ i (by rw [y3t]; exact hi)
    rw [y59 f hi] at this
    cases hd : y39 f i with
    | false =>
      rw [hd] at this
      exact this
    | true =>
      rw [hd] at this
      simp only [if_true] at this
      rcases this with h | h
      · exact .inr ⟨h, y4c hd⟩
      · exact .inr ⟨h.1, y4c hd⟩
def pures (f : Fn) : Nat := (List.range (lst f.code).length).countP fun i => purel (yh f i).op
theorem yun (hd : yd5 f = true) : pures (y54 f) < pures f := by
  unfold pures
  rw [y3t]
  have le : ∀ i, i ∈ List.range (lst f.code).length → purel (yh (y54 f) i).op = true → purel (yh f i).op = true := by
    intro i hi h
    rw [y59 f (List.mem_range.1 hi)] at h
    split at h
    · cases h
    · exact h
  obtain ⟨i, hi, hdi⟩ := List.any_eq_true.1 hd
  have a1 : purel (yh f i).op = true := y4c hdi
  have a2 : purel (yh (y54 f) i).op = false := by
    rw [y59 f (List.mem_range.1 hi), hdi]; rfl
  generalize List.range (lst f.code).length = l at *
  induction l with
  | nil => cases hi
  | cons k l ih =>
    have le' : ∀ i, i ∈ l → purel (yh (y54 f) i).op = true → purel (yh f i).op = true := fun i hi => le i (by simp [hi])
    have mono : List.countP (fun i => purel (yh (y54 f) i).op) l ≤ List.countP (fun i => purel (yh f i).op) l := List.countP_mono_left le'
    rw [List.countP_cons, List.countP_cons]
    rcases List.mem_cons.1 hi with rfl | hi
    · rw [a1, a2]; simp; omega
    · have := ih le' hi
      have hk := le k (by simp)
      cases h1 : purel (yh (y54 f) k).op with
      | true => rw [hk h1]; simp; omega
      | false => simp only [Bool.false_eq_true, if_false, Nat.add_zero]; split <;> omega
end
theorem DeadTo.exists_ : ∀ (k : Nat) (f : Fn), pures f < k → ∃ g, DeadTo f g
  | 0, _, h => by omega
  | k + 1, f, h => by
    cases hd : yd5 f with
    | false => exact ⟨f, .done hd⟩
    | true =>
      have := yun hd
      obtain ⟨g, hg⟩ := DeadTo.exists_ k (y54 f) (by omega)
      exact ⟨g, .more hd hg⟩
end Go.Vm
