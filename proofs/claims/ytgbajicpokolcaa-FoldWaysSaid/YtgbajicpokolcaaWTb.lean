/- Places that can be reached: a search with a stack, a search in rounds, a search that stops where something is found. Plain Lean; nothing here speaks of a program. Which places follow a place, in plain words. A function with other code. A pass: a function as a variable of one's own, its lists in objects of one's own. What instructions make of numbers, in plain words. What the stack's instructions over numbers take and give. What instructions make of numbers stays in range. Maps from whole numbers, as lists of pairs: plain Lean. Sets of registers, 64 a word. What is told of types' descriptors. Names, the type at a text's beginning, types. What an instruction wants of its registers, in plain words. When an instruction, a function is well formed, in plain words. What a well formed function is like. Whether each register is written ahead of all that reads it, in plain words: by ways, and by what is set at each place. In a well formed function the registers that are read and written are registers, and the places that follow are places. Which registers are live, in plain words: by ways, and by what the sweeps over the table leave. What is live ahead of, behind and across a place, as tests. -/
import Derived.Test.YtgbajicpokolcaaWX
import Derived.Test.YtgbajicpokolcaaWTa
set_option linter.unusedSimpArgs false
set_option linter.unusedVariables false
set_option linter.unusedSectionVars false
namespace Go.Vm
section
variable (n : Nat) (S : Nat → List Int) (A : List Int)
inductive Rch : Nat → Prop
  | base {j : Int} : j ∈ A → 0 ≤ j → j < n → Rch j.toNat
  | step {i : Nat} {j : Int} : Rch i → j ∈ S i → 0 ≤ j → j < n → Rch j.toNat
def dfs : Nat → List Bool → List Int → Option (List Bool)
  | 0, _, _ => none
  | k + 1, seen, op => match op.getLast? with
    | none => some seen
    | some i => if i < 0 ∨ (n : Int) ≤ i ∨ seen.getD i.toNat true = true then dfs k seen op.dropLast else dfs k (seen.set i.toNat true) (op.dropLast ++ S i.toNat)
def unseen (seen : List Bool) : Nat := seen.countP (! ·)
end
section
variable {n : Nat} {S : Nat → List Int} {A : List Int}
theorem Rch.lt {i : Nat} (h : Rch n S A i) : i < n := by cases h <;> omega
theorem yil {seen : List Bool} {i : Nat} (h : i < seen.length) (hs : seen[i] = false) : unseen (seen.set i true) + 1 = unseen seen := by
  unfold unseen
  induction seen generalizing i with
  | nil => simp at h
  | cons b l ih =>
    cases i with
    | zero => simp at hs; simp [hs]
    | succ i =>
      simp only [List.set_cons_succ, List.countP_cons]
      have := ih (i := i) (by simpa using h) (by simpa using hs)
      omega
theorem y4f {op : List Int} {i : Int} (h : op.getLast? = some i) : op = op.dropLast ++ [i] := by
  have hne : op ≠ [] := by intro e; rw [e] at h; cases h
  have := List.dropLast_concat_getLast hne
  rw [List.getLast?_eq_some_getLast hne] at h
  injection h with h
  rw [h] at this
  exact this.symm
theorem yci {op : List Int} {j : Int} (h : j ∈ op.dropLast) : j ∈ op := (List.dropLast_sublist op).mem h
theorem y1uq {seen : List Bool} {i : Nat} (h : i < seen.length) (hs : ¬ seen.getD i true = true) : seen[i] = false := by
  rw [List.getD_eq_getElem?_getD, List.getElem?_eq_getElem h] at hs
  simpa using hs
theorem yit {B : Nat} (hB : ∀ i, i < n → (S i).length ≤ B) : ∀ (k : Nat) (seen : List Bool) (op : List Int), seen.length = n → unseen seen * (B + 1) + op.length < k → ∃ r, dfs n S k seen op = some r
  | 0, _, _, _, h => by omega
  | k + 1, seen, op, hl, h => by
    rw [dfs]
    cases hop : op.getLast? with
    | none => exact ⟨seen, rfl⟩
    | some i =>
      have e := y4f hop
      have el : op.length = op.dropLast.length + 1 := by rw [e]; simp
      simp only
      split
      · exact yit hB k seen op.dropLast hl (by omega)
      · rename_i hc
        have h0 : 0 ≤ i := by omega
        have h1 : i.toNat < n := by omega
        have hs := y1uq (i := i.toNat) (by omega) (fun h => hc (.inr (.inr h)))
        have hu := yil (by omega) hs
        have hb := hB i.toNat h1
        refine yit hB k _ _ (by simpa using hl) ?_
        rw [List.length_append]
        rw [← hu, Nat.add_mul] at h
        omega
structure DfsI (n : Nat) (S : Nat → List Int) (A : List Int) (seen : List Bool) (op : List Int) : Prop where
  len : seen.length = n
  ok : ∀ i : Nat, seen[i]? = some true → Rch n S A i
  opn : ∀ j : Int, j ∈ op → 0 ≤ j → j < n → Rch n S A j.toNat
  cl : ∀ (i : Nat) (j : Int), seen[i]? = some true → j ∈ S i → 0 ≤ j → j < n → seen[j.toNat]? = some true ∨ j ∈ op
  st : ∀ j : Int, j ∈ A → 0 ≤ j → j < n → seen[j.toNat]? = some true ∨ j ∈ op
theorem DfsI.start : DfsI n S A (List.replicate n false) A where
  len := by simp
  ok i h := by rw [List.getElem?_replicate] at h; split at h <;> cases h
  opn j h h0 h1 := .base h h0 h1
  cl i j h := by rw [List.getElem?_replicate] at h; split at h <;> cases h
  st j h _ _ := .inr h
theorem DfsI.skip {seen : List Bool} {op : List Int} (I : DfsI n S A seen op) {i : Int} (hop : op.getLast? = some i) (hc : i < 0 ∨ (n : Int) ≤ i ∨ seen.getD i.toNat true = true) : DfsI n S A seen op.dropLast := by
  have e := y4f hop
  have key : ∀ j : Int, 0 ≤ j → j < n → (seen[j.toNat]? = some true ∨ j ∈ op) → seen[j.toNat]? = some true ∨ j ∈ op.dropLast := by
    intro j h0 h1 h
    rcases h with h | h
    · exact .inl h
    · rw [e, List.mem_append, List.mem_singleton] at h
      rcases h with h | rfl
      · exact .inr h
      · rcases hc with hc | hc | hc
        · omega
        · omega
        · left
          have : j.toNat < seen.length := by rw [I.len]; omega
          rw [List.getD_eq_getElem?_getD, List.getElem?_eq_getElem this] at hc
          rw [List.getElem?_eq_getElem this]
          simpa using hc
  exact ⟨I.len, I.ok, fun j hj => I.opn j (yci hj), fun i j h1 h2 h3 h4 => key j h3 h4 (I.cl i j h1 h2 h3 h4), fun j h1 h3 h4 => key j h3 h4 (I.st j h1 h3 h4)⟩
theorem DfsI.take {seen : List Bool} {op : List Int} (I : DfsI n S A seen op) {i : Int} (hop : op.getLast? = some i) (h0 : 0 ≤ i) (h1 : i < n) : DfsI n S A (seen.set i.toNat true) (op.dropLast ++ S i.toNat) := by
  have e := y4f hop
  have hi : Rch n S A i.toNat := I.opn i (by rw [e]; simp) h0 h1
  have hlt : i.toNat < seen.length := by rw [I.len]; omega
  have hset : ∀ j : Nat, (seen.set i.toNat true)[j]? = some true ↔ seen[j]? = some true ∨ j = i.toNat := by
    intro j
    rw [List.getElem?_set]
    by_cases hj : i.toNat = j
    · subst hj; simp [hlt]
    · rw [if_neg hj]
      exact ⟨.inl, fun h => h.resolve_right (fun e => hj e.symm)⟩
  have key : ∀ j : Int, 0 ≤ j → j < n → (seen[j.toNat]? = some true ∨ j ∈ op) → (seen.set i.toNat true)[j.toNat]? = some true ∨ j ∈ op.dropLast ++ S i.toNat := by
    intro j h2 h3 h
    rw [hset]
    rcases h with h | h
    · exact .inl (.inl h)
    · rw [e, List.mem_append, List.mem_singleton] at h
      rcases h with h | rfl
      · exact .inr (List.mem_append_left _ h)
      · exact .inl (.inr rfl)
  refine ⟨by simpa using I.len, fun j hj => ?_, fun j hj h2 h3 => ?_, fun k j hk hj h2 h3 => ?_, fun j hj h2 h3 => key j h2 h3 (I.st j hj h2 h3)⟩
  · rcases (hset j).1 hj with h | rfl
    · exact I.ok j h
    · exact hi
  · rcases List.mem_append.1 hj with h | h
    · exact I.opn j (yci h) h2 h3
    · exact .step hi h h2 h3
  · rcases (hset k).1 hk with h | rfl
    · exact key j h2 h3 (I.cl k j h hj h2 h3)
    · exact .inr (List.mem_append_right _ hj)
theorem DfsI.done {seen : List Bool} (I : DfsI n S A seen []) (i : Nat) : seen[i]? = some true ↔ Rch n S A i := by
  refine ⟨I.ok i, fun h => ?_⟩
  induction h with
  | base h h0 h1 => exact (I.st _ h h0 h1).resolve_right (by simp)
  | step _ hj h0 h1 ih => exact (I.cl _ _ ih hj h0 h1).resolve_right (by simp)
theorem ydh : ∀ (k : Nat) (seen : List Bool) (op : List Int) (r : List Bool), DfsI n S A seen op → dfs n S k seen op = some r → r.length = n ∧ ∀ i : Nat, r[i]? = some true ↔ Rch n S A i
  | 0, _, _, _, _, h => by cases h
  | k + 1, seen, op, r, I, h => by
    rw [dfs] at h
    cases hop : op.getLast? with
    | none =>
      rw [hop] at h
      injection h with h
      subst h
      rw [List.getLast?_eq_none_iff] at hop
      subst hop
      exact ⟨I.len, I.done⟩
    | some i =>
      rw [hop] at h
      simp only at h
      split at h
      · rename_i hc
        exact ydh k _ _ r (I.skip hop hc) h
      · rename_i hc
        exact ydh k _ _ r (I.take hop (by omega) (by omega)) h
structure RI (n : Nat) (S : Nat → List Int) (A : List Int) (seen : List Bool) (s : List Bool × Bool) : Prop where
  len : s.1.length = n
  ok : ∀ i : Nat, s.1[i]? = some true → Rch n S A i
  up : ∀ i : Nat, seen[i]? = some true → s.1[i]? = some true
  un : unseen s.1 ≤ unseen seen
  lt : s.2 = true → unseen s.1 < unseen seen
  eq : s.2 = false → s.1 = seen
theorem y118 {a b : List Bool} (hl : a.length = b.length) (h : ∀ i : Nat, a[i]? = some true ↔ b[i]? = some true) : a = b := by
  refine List.ext_getElem hl fun i h1 h2 => ?_
  have := h i
  rw [List.getElem?_eq_getElem h1, List.getElem?_eq_getElem h2] at this
  simp only [Option.some.injEq] at this
  cases ha : a[i] <;> cases hb : b[i] <;> simp_all
end
theorem yjx {α : Type} {n k : Nat} {p q : Nat → α} {v : α} (hq : q k = v) (he : ∀ j, j ≠ k → q j = p j) : ((List.range n).map p).set k v = (List.range n).map q := by
  refine List.ext_getElem (by simp) fun i h1 h2 => ?_
  rw [List.getElem_set]
  simp only [List.getElem_map, List.getElem_range]
  by_cases e : k = i
  · rw [if_pos e, ← e, hq]
  · rw [if_neg e, he i (fun h => e h.symm)]
end Go.Vm
namespace Go.Vm
def addN (l : List Int) (j : Int) : List Int := if l.contains j then l else l ++ [j]
def yz (f : Fn) (i : Nat) : Ins := (lst f.code).getD i default
def y9l (x : Ins) (i : Int) : List Int := if leads x.op then addN (if ends x.op then [] else [i + 1]) x.t else if ends x.op then [] else [i + 1]
def y4u (f : Fn) (i : Int) : List Int := if i < 0 ∨ ((lst f.code).length : Int) ≤ i then [] else y9l (yz f i.toNat) i
def y30 (i : Int) : List Row → List Int → List Int
  | [], l => l
  | r :: rs, l => if r.f ≤ i ∧ i < r.t then (if r.c = [] then addN l r.at_ else y30 i rs (addN l r.at_)) else y30 i rs l
def y21 (f : Fn) (i : Int) : List Int := if i < 0 ∨ ((lst f.code).length : Int) ≤ i then [] else if throws (yz f i.toNat).op then y30 i (lst f.rows) [] else []
def yd7 (f : Fn) (i : Nat) : List Int := y4u f i ++ y21 f i
theorem yuo (l : List Int) (j : Int) : (addN l j).length ≤ l.length + 1 := by
  unfold addN
  split <;> simp
theorem y1e1 (x : Ins) (i : Int) : (y9l x i).length ≤ 2 := by
  unfold y9l
  split
  · have := yuo (if ends x.op then [] else [i + 1]) x.t
    split at this <;> simp_all <;> omega
  · split <;> simp
theorem ym5 (f : Fn) (i : Int) : (y4u f i).length ≤ 2 := by
  unfold y4u
  split
  · simp
  · exact y1e1 _ _
theorem y9c (i : Int) : ∀ (rs : List Row) (l : List Int), (y30 i rs l).length ≤ l.length + rs.length
  | [], l => by simp [y30]
  | r :: rs, l => by
    have h1 := yuo l r.at_
    have h2 := y9c i rs (addN l r.at_)
    have h3 := y9c i rs l
    unfold y30
    simp only [List.length_cons]
    split
    · split <;> omega
    · omega
theorem ynd (f : Fn) (i : Int) : (y21 f i).length ≤ (lst f.rows).length := by
  unfold y21
  split
  · simp
  · split
    · have := y9c i (lst f.rows) []
      simpa using this
    · simp
theorem ykr (f : Fn) (i : Nat) : (yd7 f i).length ≤ (lst f.rows).length + 2 := by
  have h1 := ym5 f i
  have h2 := ynd f i
  unfold yd7
  rw [List.length_append]
  omega
theorem y4e {f : Fn} {i : Nat} (h : i < (lst f.code).length) : (lst f.code)[i]? = some (yz f i) := by
  rw [yz, List.getD_eq_getElem?_getD, List.getElem?_eq_getElem h]; rfl
open Classical in
noncomputable def y83 (f : Fn) : List Bool := (List.range (lst f.code).length).map fun i => decide (Rch (lst f.code).length (yd7 f) [0] i)
theorem ybo (f : Fn) : (y83 f).length = (lst f.code).length := by simp [y83]
theorem yyf (f : Fn) (i : Nat) : (y83 f)[i]? = some true ↔ Rch (lst f.code).length (yd7 f) [0] i := by
  unfold y83
  by_cases h : i < (lst f.code).length
  · simp [h]
  · have : ¬ Rch (lst f.code).length (yd7 f) [0] i := fun hr => h hr.lt
    simp [h, this]
theorem ymg {f : Fn} {r : List Bool} (hl : r.length = (lst f.code).length) (h : ∀ i : Nat, r[i]? = some true ↔ Rch (lst f.code).length (yd7 f) [0] i) : r = y83 f :=
  y118 (by rw [hl, ybo]) fun i => (h i).trans (yyf f i).symm
def ycu (f : Fn) (i : Nat) : Bool :=
  decide (i = 0) || (leads (yz f (i - 1)).op || ends (yz f (i - 1)).op) || (lst f.code).any (fun x => leads x.op && decide (x.t = i)) || (lst f.rows).any (fun r => decide (r.f = i) || decide (r.t = i) || decide (r.at_ = i))
def y49 (f : Fn) : Nat → List Int
  | 0 => []
  | k + 1 => y49 f k ++ (if ycu f k then [(k : Int)] else [])
def y53 (f : Fn) : List Int := y49 f (lst f.code).length
theorem yc9 (f : Fn) : ∀ k, (y49 f k).length ≤ k
  | 0 => Nat.le_refl _
  | k + 1 => by
    have := yc9 f k
    rw [y49, List.length_append]
    split <;> simp <;> omega
end Go.Vm
namespace Go.Vm
def y5u (f : Fn) (L : List Ins) : Fn := { f with code := some L }
@[simp] theorem y1xu (f : Fn) (L : List Ins) : lst (y5u f L).code = L := rfl
theorem yhq {f : Fn} {L : List Ins} (h : f.code = some L) : y5u f L = f := by
  rw [y5u, ← h]
end Go.Vm
namespace Go.Vm
open Cel
theorem y1i7 {f : Fn} {L L' : List Ins} (p g : Nat → Nat) (h : L.length = L'.length) : fnC (y5u f L) p g = fnC (y5u f L') p g := by
  simp [fnC, y5u, ownV, h]
structure DSt (H : Heap) (f : Fn) (p g : Nat → Nat) (n : Nat) : Prop where
  at_ : FnAt H f p g
  box : H[0]? = some ⟨1, .arr true false 5 [fnC f p g]⟩
  res : ∃ c, H[1]? = some ⟨1, .arr true false 5 [c]⟩ ∧ c.length = 5
  len : n ≤ H.length
  lo : ∀ i, i < 4 → hasL f i = true → 2 ≤ p i ∧ p i < 6
theorem yj8 (f : Fn) (p g : Nat → Nat) : (fnC f p g).length = 5 := rfl
theorem yu9 (f : Fn) (p g : Nat → Nat) : (fnC f p g).all yo = true := by simp [fnC]
theorem y1gi {H : Heap} {a : Nat} {c : List AV} (h : H[a]? = some ⟨1, .arr true false 5 [c]⟩) (hl : c.length = 5) : evLd true 5 (.lp a 1 0 0) H = some (.agg c) := by
  have hr : yg H a 1 = some (false, 5, [c]) := by simp [yg, y3y, h]
  rw [y2k, hr]
  simp only [List.getElem?_cons_zero, List.drop_zero, y41, if_true, hl, Nat.le_refl]
  rw [List.take_of_length_le (by omega)]
theorem y1h4 {H : Heap} {a k : Nat} {c : List AV} {v : AV} (h : H[a]? = some ⟨1, .arr true false 5 [c]⟩) (hv : c[k]? = some v) : evLd false 1 (.lp a 1 0 k) H = some v := by
  have hr : yg H a 1 = some (false, 5, [c]) := by simp [yg, y3y, h]
  rw [y2k, hr]
  simp only [List.getElem?_cons_zero, y6a, List.head?_drop, hv]
theorem y1s6 {H : Heap} {a : Nat} {c d : List AV} {v : AV} (h : H[a]? = some ⟨1, .arr true false 5 [c]⟩) (hl : c.length = 5) (hv : cellsOf v = d) (hd : d.length = 5) (hf : d.all yo = true) :
    evSt 5 (.lp a 1 0 0) v H = some (.tup [], H.set a ⟨1, .arr true false 5 [d]⟩) := by
  have hr : yg H a 1 = some (false, 5, [c]) := by simp [yg, y3y, h]
  rw [y2i, hr]
  simp only [List.getElem?_cons_zero, hv]
  rw [if_pos ⟨hd, by omega, hf⟩, yc4 (by rw [hd, hl]), y1i, h]
  rfl
theorem y09 {H : Heap} {a : Nat} {c d : List AV} (h : H[a]? = some ⟨1, .arr true false 5 [c]⟩) (hl : c.length = 5) (hd : d.length = 5) (hf : d.all yo = true) :
    evSt 5 (.lp a 1 0 0) (.agg d) H = some (.tup [], H.set a ⟨1, .arr true false 5 [d]⟩) := y1s6 h hl rfl hd hf
theorem y1wk {H : Heap} {id g i : Nat} {L : List Ins} {x : Ins} (h : H[id]? = some ⟨g, .arr false false 9 (L.map enc)⟩) (hx : L[i]? = some x) : evLd true 9 (.lp id g i 0) H = some (.agg (enc x)) := by
  have hr : yg H id g = some (false, 9, L.map enc) := by simp [yg, y3y, h]
  have hg : (L.map (enc (α := Ins)))[i]? = some (enc x) := by simp [hx]
  rw [y2k, hr]
  simp only [hg, List.drop_zero, yiw]
theorem y1yy {n i : Nat} (h : i < n) (id g e : Nat) (k : IntKind) : yi e (.ls id g e 0 n) (.int k i) = some (.lp id g i 0) := by
  have : (i : Int) < (n : Int) := by omega
  simp [yi, this]
section
variable {H : Heap} {f : Fn} {p g : Nat → Nat} {n : Nat} (D : DSt H f p g n)
include D
theorem DSt.ld : evLd true 5 (.lp 0 1 0 0) H = some (fnV f p g) := y1gi D.box (yj8 f p g)
theorem DSt.ldc : evLd false 1 (.lp 0 1 0 3) H = some (ownV (p 2) (g 2) f.code) := y1h4 D.box rfl
theorem DSt.set {a : Nat} {x : AO} (ha : 6 ≤ a) : DSt (H.set a x) f p g n := by
  refine ⟨D.at_.set fun i hi hh => ?_, by rw [y3a (by omega)]; exact D.box, ?_, by rw [List.length_set]; exact D.len, D.lo⟩
  · have := D.lo i hi hh; omega
  · obtain ⟨c, h1, h2⟩ := D.res
    exact ⟨c, by rw [y3a (by omega)]; exact h1, h2⟩
theorem DSt.setCode {L L' : List Ins} (hL : f.code = some L) (hl : L.length = L'.length) : DSt (H.set (p 2) ⟨g 2, .arr false false 9 (L'.map enc)⟩) (y5u f L') p g n := by
  have hc : hasL f 2 = true := by simp [hasL, hL]
  have h2 := D.lo 2 (by omega) hc
  refine ⟨D.at_.setCode hL, ?_, ?_, by rw [List.length_set]; exact D.len, fun i hi hh => D.lo i hi ?_⟩
  · rw [y3a (by omega), D.box]
    have := y1i7 (f := f) p g hl
    rw [yhq hL] at this
    rw [this]
  · obtain ⟨c, h1, h2⟩ := D.res
    exact ⟨c, by rw [y3a (by omega)]; exact h1, h2⟩
  · match i, hh with
    | 0, hh => exact hh
    | 1, hh => exact hh
    | 2, _ => exact hc
    | i + 3, hh => exact hh
theorem DSt.out : ∃ H', evSt 5 (.lp 1 1 0 0) (fnV f p g) H = some (.tup [], H') ∧ evLd true 5 (.lp 1 1 0 0) H' = some (fnV f p g) ∧ y7 H' (fnV f p g) = some (y1m f) := by
  obtain ⟨c, h1, h2⟩ := D.res
  refine ⟨_, y09 h1 h2 (yj8 f p g) (yu9 f p g), y1gi (ybq (y96 h1)) (yj8 f p g), FnAt.expo (D.at_.set fun i hi hh => ?_)⟩
  have := D.lo i hi hh; omega
theorem DSt.ix {L : List Ins} (hL : f.code = some L) {i : Nat} {x : Ins} (hx : L[i]? = some x) : evLd true 9 (.lp (p 2) (g 2) i 0) H = some (.agg (enc x)) := y1wk (D.at_.code L hL) hx
theorem DSt.st {L : List Ins} (hL : f.code = some L) {i : Nat} (hi : i < L.length) (y : Ins) : evSt 9 (.lp (p 2) (g 2) i 0) (.agg (enc y)) H = some (.tup [], H.set (p 2) ⟨g 2, .arr false false 9 ((L.set i y).map enc)⟩) :=
  ybu (α := Ins) (D.at_.code L hL) hi rfl
theorem DSt.call {E : Env} {C : Calls2} {fb k : Nat} {sl : Option Nat} {r : Ex AV} {v : AV} (hE : E.pure k = true) (hf : r.fresh = true) (hc : C.p k [.agg (enc f)] = some r) (hr : yyv r v) : y4 E C fb sl true k [fnV f p g] H = some (v, H) := by
  obtain ⟨fr, ids, hz⟩ := D.at_.fz
  refine y128 (fa := ⟨[.agg (enc f)], fr && true, ids ++ []⟩) hE ?_ hf hc hr
  rw [yx, hz, y16]
end
theorem ygd {H T : Heap} {a : Nat} {x : AO} (h : H[a]? = some x) : (H ++ T)[a]? = some x := by
  rw [List.getElem?_append_left (y96 h)]; exact h
theorem FnAt.grow {H : Heap} {f : Fn} {p g : Nat → Nat} (A : FnAt H f p g) (T : Heap) : FnAt (H ++ T) f p g :=
  ⟨fun L e => ygd (A.regs L e), fun L e => ygd (A.params L e), fun L e => ygd (A.code L e), fun L e => ygd (A.rows L e), A.ne⟩
theorem DSt.grow {H : Heap} {f : Fn} {p g : Nat → Nat} {n : Nat} (D : DSt H f p g n) (T : Heap) : DSt (H ++ T) f p g n := by
  obtain ⟨c, h1, h2⟩ := D.res
  exact ⟨D.at_.grow T, ygd D.box, ⟨c, ygd h1, h2⟩, by rw [List.length_append]; have := D.len; omega, D.lo⟩
theorem yyt {f : Fn} (hs : FnSm f) {H : Heap} (h0 : H[0]? = some (AB f)) (h1 : ∃ c, H[1]? = some ⟨1, .arr true false 5 [c]⟩ ∧ c.length = 5) {n : Nat} (hn : 6 ≤ n) (hl : n ≤ H.length) :
    ∃ H1 H2 p g, y4 E (y5 E) 0 (some 2) false 13 [.agg (enc f)] H = some (fnV f p g, H1) ∧ evSt 5 (.lp 0 1 0 0) (fnV f p g) H1 = some (.tup [], H2) ∧ DSt H2 f p g n ∧ H2.length = H.length ∧ ∀ k, 6 ≤ k → H2[k]? = H[k]? := by
  obtain ⟨H1, p, g, e1, A, e2, e3, e4⟩ := y1eu hs (H := H) (fb := 0) (j := 2) (by omega)
  have hb : H1[0]? = some ⟨1, .arr true false 5 [enc f]⟩ := by rw [e4 0 (.inl (by omega)), h0]
  refine ⟨H1, _, p, g, e1, y09 hb rfl (yj8 f p g) (yu9 f p g), ⟨A.set fun i hi hh => ?_, ybq (y96 hb), ?_, by rw [List.length_set, e2]; exact hl, fun i hi hh => by have := e3 i hi hh; omega⟩, by rw [List.length_set, e2], fun k hk => ?_⟩
  · have := e3 i hi hh; omega
  · obtain ⟨c, c1, c2⟩ := h1
    exact ⟨c, by rw [y3a (by omega), e4 1 (.inl (by omega))]; exact c1, c2⟩
  · rw [y3a (by omega), e4 k (.inr (by omega))]
end Go.Vm
namespace Go.Vm
def nOf : Option AV → Int
  | some (.int _ n) => n
  | _ => 0
def bI (op : BinOp) (k : IntKind) (a b : Int) : Int := nOf (y2a op k a b)
def shI (op : BinOp) (k : IntKind) (a b : Int) : Int := nOf (y57 op k a b)
def divM (rest : Bool) (a b : Int) : Int :=
  if b = 0 then 0 else if b = -1 then (if rest then 0 else IntKind.wrap .i64 (-a)) else if rest then a.tmod b else IntKind.wrap .i64 (a.tdiv b)
def intM (c a b : Int) : Int :=
  if c = 96 then bI .add .i32 a b else if c = 100 then bI .sub .i32 a b else if c = 104 then bI .mul .i32 a b
  else if c = 108 ∨ c = 112 then IntKind.wrap .i32 (divM (decide (c = 112)) (IntKind.wrap .i64 a) (IntKind.wrap .i64 b))
  else if c = 120 then shI .shl .i32 a (bI .and .u32 (IntKind.wrap .u32 b) 31)
  else if c = 122 then shI .shr .i32 a (bI .and .u32 (IntKind.wrap .u32 b) 31)
  else if c = 124 then IntKind.wrap .i32 (shI .shr .u32 (IntKind.wrap .u32 a) (bI .and .u32 (IntKind.wrap .u32 b) 31))
  else if c = 126 then bI .and .i32 a b else if c = 128 then bI .or .i32 a b else if c = 130 then bI .xor .i32 a b else 0
def yy3 (c a b : Int) : Int :=
  if c = 97 then bI .add .i64 a b else if c = 101 then bI .sub .i64 a b else if c = 105 then bI .mul .i64 a b
  else if c = 109 ∨ c = 113 then divM (decide (c = 113)) a b
  else if c = 121 then shI .shl .i64 a (bI .and .u64 (IntKind.wrap .u64 b) 63)
  else if c = 123 then shI .shr .i64 a (bI .and .u64 (IntKind.wrap .u64 b) 63)
  else if c = 125 then IntKind.wrap .i64 (shI .shr .u64 (IntKind.wrap .u64 a) (bI .and .u64 (IntKind.wrap .u64 b) 63))
  else if c = 127 then bI .and .i64 a b else if c = 129 then bI .or .i64 a b else if c = 131 then bI .xor .i64 a b else 0
def twoM (c a b : Int) : Int :=
  if c = 148 then (if a < b then -1 else if b < a then 1 else 0)
  else if bI .and .i64 c 1 = 0 then IntKind.wrap .i64 (intM c (IntKind.wrap .i32 a) (IntKind.wrap .i32 b)) else yy3 c a b
def yeb (c a : Int) : Int :=
  if c = 116 then IntKind.wrap .i64 (IntKind.wrap .i32 (-(IntKind.wrap .i32 a))) else if c = 117 then IntKind.wrap .i64 (-a)
  else if c = 133 ∨ c = 136 then IntKind.wrap .i64 (IntKind.wrap .i32 a) else if c = 145 then IntKind.wrap .i64 (IntKind.wrap .i8 a)
  else if c = 146 then IntKind.wrap .i64 (IntKind.wrap .u16 a) else if c = 147 then IntKind.wrap .i64 (IntKind.wrap .i16 a) else 0
def y5v (c a b : Int) : Bool :=
  if c = 0 then decide (a = b) else if c = 1 then decide (a ≠ b) else if c = 2 then decide (a < b) else if c = 3 then decide (b ≤ a) else if c = 4 then decide (b < a) else if c = 5 then decide (a ≤ b) else false
end Go.Vm
namespace Go.Vm
open Cel
attribute [local simp] y4 y23 ym
def numK (c : Int) : Int × Int × Int :=
  if c ∈ [96, 100, 104, 108, 112, 120, 122, 124, 126, 128, 130] then (1, 1, 1)
  else if c ∈ [97, 101, 105, 109, 113, 127, 129, 131] then (2, 2, 2)
  else if c ∈ [121, 123, 125] then (2, 1, 2)
  else if c = 148 then (2, 2, 1)
  else if c ∈ [116, 145, 146, 147] then (1, 0, 1)
  else if c = 117 then (2, 0, 2)
  else if c = 133 then (1, 0, 2)
  else if c = 136 then (2, 0, 1)
  else (0, 0, 0)
def y1dd (r : Option (Ex AV)) (k : Int × Int × Int) : Bool :=
  match r with
  | some ⟨.tup [.int .i64 a, .int .i64 b, .int .i64 c], [], true, [], []⟩ => a == k.1 && b == k.2.1 && c == k.2.2
  | _ => false
theorem y1cq {r : Option (Ex AV)} {k : Int × Int × Int} (h : y1dd r k = true) : r = some ⟨.tup [.int .i64 k.1, .int .i64 k.2.1, .int .i64 k.2.2], [], true, [], []⟩ := by
  unfold y1dd at h
  split at h
  · simp only [Bool.and_eq_true, beq_iff_eq] at h
    obtain ⟨⟨h1, h2⟩, h3⟩ := h
    rw [h1, h2, h3]
  · cases h
theorem y14e {n : Nat} {f : Nat → Bool} (h : ((List.range n).all f) = true) (i : Nat) (hi : i < n) : f i = true := by
  rw [List.all_eq_true] at h
  exact h i (List.mem_range.2 hi)
theorem y214 : ((List.range 60).all fun i => y1dd ((both E 30).1.p 50 [.int .i64 (95 + i)]) (numK (95 + i))) = true := by kernel_rfl
theorem y1mj {c : Int} (h : c < 96 ∨ 148 < c) : numK c = (0, 0, 0) := by
  simp only [numK, List.mem_cons, List.not_mem_nil, or_false]
  repeat' split
  all_goals first | rfl | omega
theorem y1r2 (c : Int) : (y5 E).p 50 [.int .i64 c] = some ⟨.tup [.int .i64 (numK c).1, .int .i64 (numK c).2.1, .int .i64 (numK c).2.2], [], true, [], []⟩ := by
  by_cases h : c < 96 ∨ 148 < c
  · rw [y1mj h, y24m]
    have h2 : ∀ k : Int, 96 ≤ k → k ≤ 148 → ¬ c = k := by omega
    simp [y1u5, yyx, y1ql, y1qm, y1ud, y13c, y1r3, yg4, y1sn, y5q, y1fd, y1dk, y12r, h2]
    rfl
  · have := y14e y214 (c - 95).toNat (by omega)
    have e : (95 + ((c - 95).toNat : Int)) = c := by omega
    simp only [e] at this
    exact y1pa 30 (y1cq this)
end Go.Vm
namespace Go.Vm
abbrev y32 (x : Int) : Prop := -2147483648 ≤ x ∧ x < 2147483648
abbrev y24 (x : Int) : Prop := -9223372036854775808 ≤ x ∧ x < 9223372036854775808
theorem y38 (n : Int) : y32 (IntKind.wrap .i32 n) := by
  simp [y32, IntKind.wrap, IntKind.bits, IntKind.signed]; split <;> omega
theorem y3m (n : Int) : y24 (IntKind.wrap .i64 n) := by
  simp [y24, IntKind.wrap, IntKind.bits, IntKind.signed]; split <;> omega
theorem y17b (n : Int) : y32 (IntKind.wrap .i8 n) := by
  simp [y32, IntKind.wrap, IntKind.bits, IntKind.signed]; split <;> omega
theorem yxx (n : Int) : y32 (IntKind.wrap .i16 n) := by
  simp [y32, IntKind.wrap, IntKind.bits, IntKind.signed]; split <;> omega
theorem ync (n : Int) : y32 (IntKind.wrap .u16 n) := by
  simp [y32, IntKind.wrap, IntKind.bits, IntKind.signed]; omega
theorem y6p {n : Int} (h : y32 n) : y24 n := by unfold y32 at h; unfold y24; omega
theorem y5l {n : Int} (h : y24 n) : IntKind.wrap .i64 n = n := y27 h.1 h.2
theorem y13o {n : Int} (h : y32 n) : IntKind.wrap .i32 n = n := by
  unfold y32 at h
  simp [IntKind.wrap, IntKind.bits, IntKind.signed]; split <;> omega
theorem ynz {n : Int} (h : y32 n) : n = IntKind.wrap .i64 (IntKind.wrap .i32 n) := by rw [y13o h, y5l (y6p h)]
theorem yph : y32 0 := by decide
theorem y1j1 {a m lo hi : Int} (hm : 1 ≤ m) (h0 : lo ≤ 0) (h1 : 0 < hi) (ha : lo ≤ a ∧ a < hi) : lo ≤ a.fdiv m ∧ a.fdiv m < hi := by
  rw [Int.fdiv_eq_ediv_of_nonneg _ (by omega)]
  by_cases hs : 0 ≤ a
  · have e1 := Int.ediv_nonneg hs (show 0 ≤ m by omega)
    have e2 := Int.ediv_le_self m hs
    omega
  · have e1 : a / m < 0 := Int.ediv_neg_of_neg_of_pos (by omega) (by omega)
    have e2 : a ≤ a / m := Int.le_ediv_of_mul_le (by omega) (by
      have := Int.mul_le_mul_of_nonpos_left (show a ≤ 0 by omega) hm
      omega)
    omega
theorem y1jj {a b : Int} (ha : y24 a) : y24 (a.tmod b) := by
  unfold y24 at *
  have e : (a.tmod b).natAbs = a.natAbs % b.natAbs := Int.natAbs_tmod a b
  have h := Nat.mod_le a.natAbs b.natAbs
  by_cases hs : 0 ≤ a
  · have := Int.tmod_nonneg b hs
    omega
  · have : a.tmod b ≤ 0 := by
      have h1 := Int.tmod_nonneg b (show 0 ≤ -a by omega)
      rw [Int.neg_tmod] at h1
      omega
    omega
theorem y1bd {a b lo hi : Int} {k : IntKind} (hb : 0 ≤ b) (h0 : lo ≤ 0) (h1 : 0 < hi) (ha : lo ≤ a ∧ a < hi) : lo ≤ shI .shr k a b ∧ shI .shr k a b < hi := by
  have : ¬ b < 0 := by omega
  have e : shI .shr k a b = a.fdiv (2 ^ (min b.toNat k.bits)) := by simp [shI, y57, this, nOf]
  rw [e]
  refine y1j1 ?_ h0 h1 ha
  have := Nat.one_le_two_pow (n := min b.toNat k.bits)
  have e2 : ((2 ^ min b.toNat k.bits : Nat) : Int) = (2 : Int) ^ min b.toNat k.bits := by simp
  omega
theorem y1oi (b : Int) : 0 ≤ bI .and .u32 b 31 := by
  simp [bI, y2a, nOf, IntKind.wrap, IntKind.signed, IntKind.bits]; omega
theorem y1o2 (b : Int) : 0 ≤ bI .and .u64 b 63 := by
  simp [bI, y2a, nOf, IntKind.wrap, IntKind.signed, IntKind.bits]; omega
theorem y1lv {r : Bool} {a b : Int} (ha : y24 a) : y24 (divM r a b) := by
  unfold divM
  split
  · decide
  · split
    · split
      · decide
      · exact y3m _
    · split
      · exact y1jj ha
      · exact y3m _
theorem y5o {op : BinOp} {a b : Int} (h : op = .add ∨ op = .sub ∨ op = .mul ∨ op = .and ∨ op = .or ∨ op = .xor) : y32 (bI op .i32 a b) := by
  rcases h with rfl | rfl | rfl | rfl | rfl | rfl <;> exact y38 _
theorem y5r {op : BinOp} {a b : Int} (h : op = .add ∨ op = .sub ∨ op = .mul ∨ op = .and ∨ op = .or ∨ op = .xor) : y24 (bI op .i64 a b) := by
  rcases h with rfl | rfl | rfl | rfl | rfl | rfl <;> exact y3m _
theorem y18b {a b : Int} (hb : 0 ≤ b) : y32 (shI .shl .i32 a b) := by
  have : ¬ b < 0 := by omega
  simp only [shI, y57, this, if_false, nOf]
  exact y38 _
theorem yz8 {a b : Int} (hb : 0 ≤ b) : y24 (shI .shl .i64 a b) := by
  have : ¬ b < 0 := by omega
  simp only [shI, y57, this, if_false, nOf]
  exact y3m _
theorem y1je (c : Int) {a b : Int} (ha : y32 a) : y32 (intM c a b) := by
  unfold intM
  split
  · exact y5o (.inl rfl)
  split
  · exact y5o (.inr (.inl rfl))
  split
  · exact y5o (.inr (.inr (.inl rfl)))
  split
  · exact y38 _
  split
  · exact y18b (y1oi _)
  split
  · exact y1bd (y1oi _) (by decide) (by decide) ha
  split
  · exact y38 _
  split
  · exact y5o (.inr (.inr (.inr (.inl rfl))))
  split
  · exact y5o (.inr (.inr (.inr (.inr (.inl rfl)))))
  split
  · exact y5o (.inr (.inr (.inr (.inr (.inr rfl)))))
  · exact yph
theorem y132 (c : Int) {a b : Int} (ha : y24 a) : y24 (yy3 c a b) := by
  unfold yy3
  split
  · exact y5r (.inl rfl)
  split
  · exact y5r (.inr (.inl rfl))
  split
  · exact y5r (.inr (.inr (.inl rfl)))
  split
  · exact y1lv ha
  split
  · exact yz8 (y1o2 _)
  split
  · exact y1bd (y1o2 _) (by decide) (by decide) ha
  split
  · exact y3m _
  split
  · exact y5r (.inr (.inr (.inr (.inl rfl))))
  split
  · exact y5r (.inr (.inr (.inr (.inr (.inl rfl)))))
  split
  · exact y5r (.inr (.inr (.inr (.inr (.inr rfl)))))
  · exact y6p yph
theorem y1ne (c : Int) {a b : Int} (ha : y24 a) : y24 (twoM c a b) := by
  unfold twoM
  split
  · split
    · decide
    · split <;> decide
  split
  · exact y3m _
  · exact y132 c ha
theorem yxa (c a : Int) : y24 (yeb c a) := by
  unfold yeb
  repeat' split
  all_goals first | exact y3m _ | decide
theorem y1qr {c : Int} (a b : Int) (h1 : (numK c).2.2 = 1) (h2 : ¬ (numK c).2.1 = 0) : y32 (twoM c a b) := by
  have key : c = 148 ∨ c ∈ [96, 100, 104, 108, 112, 120, 122, 124, 126, 128, 130] := by
    unfold numK at h1 h2
    split at h1
    · rename_i h; exact .inr h
    split at h1
    · cases h1
    split at h1
    · cases h1
    split at h1
    · rename_i h; exact .inl h
    rename_i g1 g2 g3 g4
    rw [if_neg g1, if_neg g2, if_neg g3, if_neg g4] at h2
    split at h2
    · exact (h2 rfl).elim
    split at h2
    · exact (h2 rfl).elim
    split at h2
    · exact (h2 rfl).elim
    split at h2
    · exact (h2 rfl).elim
    · exact (h2 rfl).elim
  rcases key with rfl | h
  · unfold twoM
    rw [if_pos rfl]
    split
    · decide
    · split <;> decide
  · have ne : ¬ c = 148 := by rintro rfl; revert h; decide
    have ev : bI .and .i64 c 1 = 0 := by
      simp only [List.mem_cons, List.not_mem_nil, or_false] at h
      rcases h with rfl | rfl | rfl | rfl | rfl | rfl | rfl | rfl | rfl | rfl | rfl <;> decide
    unfold twoM
    rw [if_neg ne, if_pos ev]
    have := y1je c (b := IntKind.wrap .i32 b) (y38 a)
    rw [y5l (y6p this)]
    exact this
theorem y1tt {c : Int} (a : Int) (h1 : (numK c).2.2 = 1) (h2 : (numK c).2.1 = 0) : y32 (yeb c a) := by
  have key : c = 136 ∨ c ∈ [116, 145, 146, 147] := by
    unfold numK at h1 h2
    split at h2
    · cases h2
    split at h2
    · cases h2
    split at h2
    · cases h2
    split at h2
    · cases h2
    rename_i g1 g2 g3 g4
    rw [if_neg g1, if_neg g2, if_neg g3, if_neg g4] at h1
    split at h1
    · rename_i h; exact .inr h
    split at h1
    · cases h1
    split at h1
    · cases h1
    split at h1
    · rename_i h; exact .inl h
    · cases h1
  have w64 : ∀ {n : Int}, y32 n → y32 (IntKind.wrap .i64 n) := fun h => by rw [y5l (y6p h)]; exact h
  rcases key with rfl | h
  · exact w64 (y38 _)
  · simp only [List.mem_cons, List.not_mem_nil, or_false] at h
    rcases h with rfl | rfl | rfl | rfl
    · exact w64 (y38 _)
    · exact w64 (y17b _)
    · exact w64 (ync _)
    · exact w64 (yxx _)
end Go.Vm
namespace Go.Vm
section
variable {α : Type}
def aset (k : Int) (v : α) : List (Int × α) → List (Int × α)
  | [] => [(k, v)]
  | (k', v') :: r => if k = k' then (k, v) :: r else (k', v') :: aset k v r
def adel (k : Int) : List (Int × α) → List (Int × α)
  | [] => []
  | (k', v') :: r => if k = k' then r else (k', v') :: adel k r
def aget (k : Int) : List (Int × α) → Option α
  | [] => none
  | (k', v') :: r => if k = k' then some v' else aget k r
theorem ya0 (k j : Int) (v : α) : ∀ l, aget j (aset k v l) = if j = k then some v else aget j l
  | [] => by simp only [aset, aget]
  | (k', v') :: r => by
    rw [aset]
    by_cases h : k = k'
    · subst h
      rw [if_pos rfl, aget, aget]
      by_cases h2 : j = k <;> simp [h2]
    · rw [if_neg h, aget, ya0 k j v r, aget]
      by_cases h2 : j = k'
      · have : ¬ j = k := fun e => h (e.symm.trans h2)
        rw [if_pos h2, if_pos h2, if_neg this]
      · rw [if_neg h2, if_neg h2]
def anew : List (Int × α) → Prop
  | [] => True
  | (k, _) :: r => aget k r = none ∧ anew r
theorem ym9 (k : Int) (v : α) : ∀ l, anew l → anew (aset k v l)
  | [], _ => ⟨rfl, trivial⟩
  | (k', v') :: r, h => by
    rw [aset]
    by_cases e : k = k'
    · rw [if_pos e]; exact ⟨by rw [e]; exact h.1, h.2⟩
    · rw [if_neg e]
      refine ⟨?_, ym9 k v r h.2⟩
      rw [ya0, if_neg (fun h' => e h'.symm)]
      exact h.1
theorem ye4 (k j : Int) : ∀ (l : List (Int × α)), anew l → aget j (adel k l) = if j = k then none else aget j l
  | [], _ => by simp [adel, aget]
  | (k', v') :: r, h => by
    rw [adel]
    by_cases e : k = k'
    · subst e
      rw [if_pos rfl, aget]
      by_cases h2 : j = k
      · rw [if_pos h2, h2]; exact h.1
      · rw [if_neg h2, if_neg h2]
    · rw [if_neg e, aget, ye4 k j r h.2, aget]
      by_cases h2 : j = k'
      · have : ¬ j = k := fun e' => e (e'.symm.trans h2)
        rw [if_pos h2, if_pos h2, if_neg this]
      · rw [if_neg h2, if_neg h2]
theorem yl5 (k : Int) : ∀ (l : List (Int × α)), anew l → anew (adel k l)
  | [], _ => trivial
  | (k', v') :: r, h => by
    rw [adel]
    by_cases e : k = k'
    · rw [if_pos e]; exact h.2
    · rw [if_neg e]
      refine ⟨?_, yl5 k r h.2⟩
      rw [ye4 k k' r h.2]
      split
      · rfl
      · exact h.1
end
end Go.Vm
namespace Go.Vm
abbrev Ws := List (BitVec 64)
end Go.Vm
namespace Go.Vm
open Cel
attribute [local simp] y4 y23 ym
def okB (b : UInt8) : Bool := (decide (97 ≤ b.toNat) && decide (b.toNat ≤ 122)) || (decide (65 ≤ b.toNat) && decide (b.toNat ≤ 90)) || (decide (48 ≤ b.toNat) && decide (b.toNat ≤ 57)) || decide (b.toNat = 95) || decide (b.toNat = 36) || decide (b.toNat = 47)
def ydy (s : List UInt8) : Bool := decide (1 ≤ s.length) && decide (s.length ≤ 60) && s.all okB
theorem y1d4 (s : List UInt8) (i : Nat) (hi : i < s.length) (v18 : AV) :
    q7_4 (.bool false) (.ls 0 1 1 0 s.length) v18 (.int .i64 i) [⟨1, .arr false false 1 (s.map fun b => [.int .u8 b.toNat])⟩] =
      if okB s[i] then q7_3 (.bool false) (.ls 0 1 1 0 s.length) v18 (.int .i64 i) [⟨1, .arr false false 1 (s.map fun b => [.int .u8 b.toNat])⟩] else some ⟨.bool false, [], true, [], []⟩ := by
  have hc : ((i : Int) < (s.length : Int)) := by omega
  generalize hb : s[i].toNat = n
  have e : (s.map fun b => ([.int .u8 b.toNat] : List AV))[i]? = some [.int .u8 (n : Int)] := by
    rw [List.getElem?_map, List.getElem?_eq_getElem hi, ← hb]; rfl
  have ho : okB s[i] = ((decide (97 ≤ n) && decide (n ≤ 122)) || (decide (65 ≤ n) && decide (n ≤ 90)) || (decide (48 ≤ n) && decide (n ≤ 57)) || decide (n = 95) || decide (n = 36) || decide (n = 47)) := by
    rw [okB, hb]
  rw [ho]
  have c1 : ∀ k : Nat, ((k : Int) ≤ (n : Int)) = (k ≤ n) := fun k => by simp
  have f1 : ((97 : Int) ≤ (n : Int)) = (97 ≤ n) := c1 97
  have f2 : ((65 : Int) ≤ (n : Int)) = (65 ≤ n) := c1 65
  have f3 : ((48 : Int) ≤ (n : Int)) = (48 ≤ n) := c1 48
  have g1 : ((n : Int) ≤ (122 : Int)) = (n ≤ 122) := by simp; omega
  have g2 : ((n : Int) ≤ (90 : Int)) = (n ≤ 90) := by simp; omega
  have g3 : ((n : Int) ≤ (57 : Int)) = (n ≤ 57) := by simp; omega
  have d1 : ((n : Int) = (95 : Int)) = (n = 95) := by simp; omega
  have d2 : ((n : Int) = (36 : Int)) = (n = 36) := by simp; omega
  have d3 : ((n : Int) = (47 : Int)) = (n = 47) := by simp; omega
  have step : ∀ (b1 b2 b3 b4 b5 b6 b7 b8 b9 : Bool), decide (97 ≤ n) = b1 → decide (n ≤ 122) = b2 → decide (65 ≤ n) = b3 → decide (n ≤ 90) = b4 → decide (48 ≤ n) = b5 → decide (n ≤ 57) = b6 → decide (n = 95) = b7 → decide (n = 36) = b8 → decide (n = 47) = b9 →
      q7_4 (.bool false) (.ls 0 1 1 0 s.length) v18 (.int .i64 i) [⟨1, .arr false false 1 (s.map fun b => [.int .u8 b.toNat])⟩] =
      if (b1 && b2) || (b3 && b4) || (b5 && b6) || b7 || b8 || b9 then q7_3 (.bool false) (.ls 0 1 1 0 s.length) v18 (.int .i64 i) [⟨1, .arr false false 1 (s.map fun b => [.int .u8 b.toNat])⟩] else some ⟨.bool false, [], true, [], []⟩ := by
    intro b1 b2 b3 b4 b5 b6 b7 b8 b9 h1 h2 h3 h4 h5 h6 h7 h8 h9
    rw [q7_4]
    have e0 : yi 1 (.ls 0 1 1 0 s.length) (.int .i64 i) = some (.lp 0 1 i 0) := by simp [yi, hc, hi]
    have tri : ∀ a b : Bool, (a = false) ∨ (a = true ∧ b = false) ∨ (a = true ∧ b = true) := by intro a b; cases a <;> cases b <;> simp
    have l1 : y2 .geq (.int .u8 (n : Int)) (.int .u8 97) = some (.bool b1) := by rw [y8m]; simp only [f1, h1]
    have l2 : y2 .leq (.int .u8 (n : Int)) (.int .u8 122) = some (.bool b2) := by rw [ya6]; simp only [g1, h2]
    have l3 : y2 .geq (.int .u8 (n : Int)) (.int .u8 65) = some (.bool b3) := by rw [y8m]; simp only [f2, h3]
    have l4 : y2 .leq (.int .u8 (n : Int)) (.int .u8 90) = some (.bool b4) := by rw [ya6]; simp only [g2, h4]
    have l5 : y2 .geq (.int .u8 (n : Int)) (.int .u8 48) = some (.bool b5) := by rw [y8m]; simp only [f3, h5]
    have l6 : y2 .leq (.int .u8 (n : Int)) (.int .u8 57) = some (.bool b6) := by rw [ya6]; simp only [g3, h6]
    have l7 : y2 .eql (.int .u8 (n : Int)) (.int .u8 95) = some (.bool b7) := by rw [yl]; simp only [d1, h7]
    have l8 : y2 .eql (.int .u8 (n : Int)) (.int .u8 36) = some (.bool b8) := by rw [yl]; simp only [d2, h8]
    have l9 : y2 .eql (.int .u8 (n : Int)) (.int .u8 47) = some (.bool b9) := by rw [yl]; simp only [d3, h9]
    clear h1 h2 h3 h4 h5 h6 h7 h8 h9
    simp only [e0, y6, y2k, ydm, e, List.drop_zero, y6a, List.head?_cons, l1]
    generalize q7_3 (.bool false) (.ls 0 1 1 0 s.length) v18 (.int .i64 i) [⟨1, .arr false false 1 (s.map fun b => [.int .u8 b.toNat])⟩] = Z
    rcases tri b1 b2 with rfl | ⟨rfl, rfl⟩ | ⟨rfl, rfl⟩ <;> simp only [l2, yal, yno, y11b, yge, ygq, y6, y2e, y2y, y3d, y1g, y1y, l3, y34] <;> try (simp; done)
    all_goals rcases tri b3 b4 with rfl | ⟨rfl, rfl⟩ | ⟨rfl, rfl⟩ <;> simp only [l4, yal, yno, y11b, yge, ygq, y6, y2e, y2y, y3d, y1g, y1y, l5, y34] <;> try (simp; done)
    all_goals rcases tri b5 b6 with rfl | ⟨rfl, rfl⟩ | ⟨rfl, rfl⟩ <;> simp only [l6, yal, yno, y11b, yge, ygq, y6, y2e, y2y, y3d, y1g, y1y, l7, y34] <;> try (simp; done)
    all_goals cases b7 <;> simp only [yal, yno, y11b, yge, ygq, y6, y2e, y2y, y3d, y1g, y1y, l8, y34] <;> try (simp; done)
    all_goals cases b8 <;> simp only [yal, yno, y11b, yge, ygq, y6, y2e, y2y, y3d, y1g, y1y, l9, y34] <;> try (simp; done)
    all_goals cases b9 <;> simp
  exact step _ _ _ _ _ _ _ _ _ rfl rfl rfl rfl rfl rfl rfl rfl rfl
end Go.Vm
namespace Go.Vm
open Cel
attribute [local simp] y4 y23 ym
theorem y15k (s : List UInt8) (hl : s.length ≤ 60) : ∀ (d i : Nat), i + d = s.length →
    y01 (.bool false) (.ls 0 1 1 0 s.length) (.int .i64 s.length) (.int .i64 i) [⟨1, .arr false false 1 (s.map fun b => [.int .u8 b.toNat])⟩] = some ⟨.bool ((s.drop i).all okB), [], true, [], []⟩ := by
  intro d
  induction d with
  | zero =>
    intro i hi
    have e1 : s.drop i = [] := List.drop_eq_nil_of_le (by omega)
    have hc : ¬ ((i : Int) < (s.length : Int)) := by omega
    rw [yve, e1]
    simp [q7_6, q7_5, q7_1, hc]
  | succ d ih =>
    intro i hi
    have hlt : i < s.length := by omega
    have hc : ((i : Int) < (s.length : Int)) := by omega
    have := ih (i + 1) (by omega)
    push_cast at this
    have e1 : (s.drop i).all okB = (okB s[i] && (s.drop (i + 1)).all okB) := by rw [List.drop_eq_getElem_cons hlt, List.all_cons]
    have hw : IntKind.wrap .i64 ((i : Int) + 1) = (i : Int) + 1 := y27 (by omega) (by omega)
    rw [yve, e1]
    simp only [q7_6, q7_5, yn, y6, hc, decide_true, y1g, y1d4 s i hlt]
    cases okB s[i]
    · simp
    · simp [q7_3, hw, this]
@[simp] theorem y25x (s : List UInt8) : (y5 E).p 60 [.str s, .bool false] = some ⟨.bool (ydy s), [], true, [], []⟩ := by
  rw [x_q7]
  by_cases h1 : ((s.length : Int) < 1)
  · have : ¬ 1 ≤ s.length := by omega
    simp [q7_1, q7_3, q7_4, q7_5, q7_6, q7_8, y15n, y1fk, h1, ydy, this]
  by_cases h2 : ((60 : Int) < (s.length : Int))
  · have : ¬ s.length ≤ 60 := by omega
    simp [q7_1, q7_3, q7_4, q7_5, q7_6, q7_8, y15n, y1fk, h1, h2, ydy, this]
  · have a1 : 1 ≤ s.length := by omega
    have a2 : s.length ≤ 60 := by omega
    have := y15k s a2 s.length 0 (by omega)
    simp only [List.drop_zero] at this
    simp only [ydy, a1, a2, decide_true, Bool.true_and, ← this]
    simp [y1fk, y15n, q7_8, h1, h2, s2bC]
def lead : List UInt8 → Nat
  | [] => 0
  | c :: r => if c = 91 then lead r + 1 else 0
theorem yiu : ∀ s : List UInt8, lead s ≤ s.length
  | [] => Nat.le_refl _
  | c :: r => by
    have := yiu r
    simp only [lead, List.length_cons]
    split <;> omega
theorem y1fh : ∀ {s : List UInt8} {i : Nat}, i < lead s → s[i]? = some 91
  | [], i, h => by simp [lead] at h
  | c :: r, i, h => by
    simp only [lead] at h
    split at h
    · rename_i e
      cases i with
      | zero => simp [e]
      | succ i => simpa using y1fh (s := r) (by omega)
    · omega
theorem y1a6 : ∀ {s : List UInt8} {c : UInt8}, s[lead s]? = some c → c ≠ 91
  | [], c, h => by simp at h
  | d :: r, c, h => by
    simp only [lead] at h
    split at h
    · exact y1a6 (s := r) (by simpa using h)
    · rename_i e; simp at h; rw [← h]; exact e
def yxl (s : List UInt8) : Nat :=
  if 8 < lead s ∨ lead s = s.length then 0
  else if s[lead s]? = some 73 ∨ s[lead s]? = some 74 then lead s + 1
  else if s[lead s]? = some 76 then
    (if (s.drop (lead s + 1)).findIdx (· == 59) < (s.drop (lead s + 1)).length ∧ ydy ((s.take (lead s + 1 + (s.drop (lead s + 1)).findIdx (· == 59))).drop (lead s + 1)) = true then lead s + 1 + (s.drop (lead s + 1)).findIdx (· == 59) + 1 else 0)
  else 0
theorem ixstr {s : List UInt8} {i : Nat} {c : UInt8} (h : s[i]? = some c) : y82 (.str s) (.int .i64 i) = some (.int .u8 c.toNat) := by
  simp [y82, h]
theorem y6g (c : UInt8) (k : UInt8) : ((c.toNat : Int) = (k.toNat : Int)) ↔ c = k := by
  rw [Int.ofNat_inj]; exact ⟨fun h => UInt8.toNat_inj.1 h, fun h => by rw [h]⟩
theorem y1e0 (s : List UInt8) (hs : s.length ≤ 9223372036854775807) (h : Heap) : ∀ (d i : Nat), i + d = lead s → ykf (.str s) (.int .i64 i) h = yg5 (.str s) (.int .i64 (lead s)) h := by
  intro d
  induction d with
  | zero =>
    intro i hi
    obtain rfl : i = lead s := by omega
    rw [ylh]
    have := yiu s
    by_cases hc : lead s < s.length
    · have e := List.getElem?_eq_getElem hc
      have hne := y1a6 e
      have hc' : ((lead s : Int) < (s.length : Int)) := by omega
      have hb : ¬ ((s[lead s].toNat : Int) = 91) := fun hh => hne ((y6g _ 91).1 hh)
      simp [y1au, hc', ixstr e, hb]
    · have hc' : ¬ ((lead s : Int) < (s.length : Int)) := by omega
      simp [y1au, hc']
  | succ d ih =>
    intro i hi
    have e := y1fh (s := s) (i := i) (by omega)
    have := yiu s
    have hc' : ((i : Int) < (s.length : Int)) := by omega
    have ih := ih (i + 1) (by omega)
    push_cast at ih
    rw [ylh]
    simp [y1au, hc', ixstr e, y1uv, y1j (show i < s.length by omega) hs, ih]
theorem y189 (s : List UInt8) (hs : s.length ≤ 9223372036854775807) (n : Nat) (h : Heap) : ∀ (d i : Nat), n + 1 ≤ i → i + d = s.length →
    y198 (.str s) (.int .i64 n) (.int .i64 i) h =
      some ⟨.int .i64 (if (s.drop i).findIdx (· == 59) < (s.drop i).length ∧ ydy ((s.take (i + (s.drop i).findIdx (· == 59))).drop (n + 1)) = true then (i + (s.drop i).findIdx (· == 59) + 1 : Nat) else (0 : Nat)), [], true, [], []⟩ := by
  intro d
  induction d with
  | zero =>
    intro i h1 hi
    rw [ypl]
    have e1 : s.drop i = [] := List.drop_eq_nil_of_le (by omega)
    have hc : ¬ ((i : Int) < (s.length : Int)) := by omega
    simp [yz5, q9_1, hc, e1]
  | succ d ih =>
    intro i h1 hi
    rw [ypl]
    have hlt : i < s.length := by omega
    have e := List.getElem?_eq_getElem hlt
    have hc : ((i : Int) < (s.length : Int)) := by omega
    have hd : s.drop i = s[i] :: s.drop (i + 1) := List.drop_eq_getElem_cons hlt
    by_cases hb : s[i] = 59
    · have hb' : ((s[i].toNat : Int) = 59) := (y6g _ 59).2 hb
      have hf : (s.drop i).findIdx (· == 59) = 0 := by rw [hd, List.findIdx_cons]; simp [hb]
      have hw1 : IntKind.wrap .i64 ((n : Int) + 1) = (n : Int) + 1 := y1j (show n < s.length by omega) hs
      have hsl : y1a1 (.str s) (some (.int .i64 ((n : Int) + 1))) (some (.int .i64 (i : Int))) = some (.str ((s.take i).drop (n + 1))) := by
        have a1 : ((0 : Int) ≤ (i : Int) ∧ (i : Int) ≤ (s.length : Int)) := by omega
        have a2 : ((0 : Int) ≤ (n : Int) + 1 ∧ (n : Int) + 1 ≤ (i : Int)) := by omega
        simp only [y1a1, y9x, ym0, if_pos a1, Int.toNat_natCast, if_pos a2]
        rfl
      rw [hf]
      have hlen : 0 < (s.drop i).length := by rw [List.length_drop]; omega
      cases hn : ydy ((s.take i).drop (n + 1)) with
      | true =>
        simp only [yz5, q9_7, q9_6, q9_5, ye3, y6, yn, hc, decide_true, y1g, ixstr e, yl, hb', yw, hw1, hsl]
        simp [hn, hlt, y1j hlt hs]
        omega
      | false =>
        simp only [yz5, q9_7, q9_6, q9_5, ye3, y6, yn, hc, decide_true, y1g, ixstr e, yl, hb', yw, hw1, hsl]
        simp [hn, q9_4]
    · have hb' : ¬ ((s[i].toNat : Int) = 59) := fun hh => hb ((y6g _ 59).1 hh)
      have hf : (s.drop i).findIdx (· == 59) = (s.drop (i + 1)).findIdx (· == 59) + 1 := by
        rw [hd, List.findIdx_cons]
        have : (s[i] == 59) = false := by simpa using hb
        rw [this]; rfl
      have hl : (s.drop i).length = (s.drop (i + 1)).length + 1 := by rw [hd]; rfl
      have ih := ih (i + 1) (by omega) (by omega)
      push_cast at ih
      rw [hf, hl]
      have e2 : i + ((s.drop (i + 1)).findIdx (· == 59) + 1) = i + 1 + (s.drop (i + 1)).findIdx (· == 59) := by omega
      rw [e2]
      simp only [yz5, q9_7, q9_6, q9_3, ye3, y6, yn, hc, decide_true, y1g, y1y, ixstr e, yl, hb', decide_false, yw, y1j hlt hs, ih]
      simp only [Nat.add_lt_add_iff_right]
      push_cast
      rfl
@[simp] theorem y200 (s : List UInt8) (hs : s.length ≤ 9223372036854775807) : (y5 E).p 44 [.str s] = some ⟨.int .i64 (yxl s), [], true, [], []⟩ := by
  rw [x_q9]
  have h0 := y1e0 s hs [] (lead s) 0 (by omega)
  simp only [Int.ofNat_zero] at h0
  have hle := yiu s
  have key : yg5 (.str s) (.int .i64 (lead s)) [] = some ⟨.int .i64 (yxl s), [], true, [], []⟩ := by
    unfold yxl
    by_cases h8 : 8 < lead s
    · have h8' : ((8 : Int) < (lead s : Int)) := by omega
      simp [yg5, h8', h8]
    by_cases hl : lead s = s.length
    · have h8' : ¬ ((8 : Int) < (lead s : Int)) := by omega
      have hl' : ((lead s : Int) = (s.length : Int)) := by omega
      have h9' : ¬ ((8 : Int) < (s.length : Int)) := by omega
      simp [yg5, h8', h9', hl', hl]
    · have h8' : ¬ ((8 : Int) < (lead s : Int)) := by omega
      have hl' : ¬ ((lead s : Int) = (s.length : Int)) := by omega
      have hlt : lead s < s.length := by omega
      have e := List.getElem?_eq_getElem hlt
      rw [if_neg (by simp [h8, hl]), e]
      have hw := y1j hlt hs
      by_cases c1 : s[lead s] = 73
      · have c1' : ((s[lead s].toNat : Int) = 73) := (y6g _ 73).2 c1
        simp [yg5, yxr, yym, yms, h8', hl', ixstr e, c1', c1, hw]
      by_cases c2 : s[lead s] = 74
      · have c2' : ((s[lead s].toNat : Int) = 74) := (y6g _ 74).2 c2
        simp [yg5, yxr, yym, yms, h8', hl', ixstr e, c2', c2, hw]
      have c1' : ¬ ((s[lead s].toNat : Int) = 73) := fun hh => c1 ((y6g _ 73).1 hh)
      have c2' : ¬ ((s[lead s].toNat : Int) = 74) := fun hh => c2 ((y6g _ 74).1 hh)
      by_cases c3 : s[lead s] = 76
      · have c3' : ((s[lead s].toNat : Int) = 76) := (y6g _ 76).2 c3
        have := y189 s hs (lead s) [] _ (lead s + 1) (Nat.le_refl _) (show lead s + 1 + (s.length - (lead s + 1)) = s.length by omega)
        push_cast at this
        simp [yg5, yxr, yym, yms, y1j9, y1ia, y1rw, h8', hl', ixstr e, c1', c2', c3', c1, c2, c3, hw, this]
        split <;> simp
      · have c3' : ¬ ((s[lead s].toNat : Int) = 76) := fun hh => c3 ((y6g _ 76).1 hh)
        simp [yg5, yxr, yym, yms, y1j9, y1ia, q9_1, h8', hl', ixstr e, c1', c2', c3', c1, c2, c3]
  rw [← key, ← h0]
  simp [y1r8, y1t7]
def yhg (s : List UInt8) : Bool := decide (s ≠ []) && decide (yxl s = s.length)
@[simp] theorem y203 (s : List UInt8) (hs : s.length ≤ 9223372036854775807) : (y5 E).p 37 [.str s] = some ⟨.bool (yhg s), [], true, [], []⟩ := by
  rw [x_q8]
  have h := y200 s hs
  by_cases h1 : s = []
  · simp [q8_1, h1, yhg]
  · have e : ((yxl s : Int) = (s.length : Int)) ↔ yxl s = s.length := by omega
    simp [q8_1, h1, yhg, h, e]
end Go.Vm
namespace Go.Vm
def yd (x : Ins) : Int × Int × Int × Int × Bool :=
  match x.op with
  | 1 => (0, -1, -1, -1, true)
  | 2 => (3, -1, -1, -1, true)
  | 3 => (3, -1, -1, -1, true)
  | 4 => (0, 0, -1, -1, true)
  | 5 => ((numK x.n).2.2, (numK x.n).1, (numK x.n).2.1, -1, decide (¬ (numK x.n).2.1 = 0))
  | 6 => ((numK x.n).2.2, (numK x.n).1, -1, -1, decide (¬ (numK x.n).1 = 0) && decide ((numK x.n).2.1 = 0))
  | 7 => (-1, 0, -1, -1, true)
  | 8 => (-1, 3, -1, -1, true)
  | 9 => (-1, 3, 1, -1, true)
  | 10 => (-1, 1, -1, -1, true)
  | 11 => (-1, 3, 3, -1, true)
  | 12 => (-1, 3, -1, -1, yhg x.s)
  | 13 => (0, 3, 1, -1, true)
  | 14 => (-1, 3, 1, 0, true)
  | 15 => (1, 3, -1, -1, true)
  | 16 => (0, 3, -1, -1, decide (0 ≤ x.n))
  | 17 => (-1, 3, 0, -1, decide (0 ≤ x.n))
  | 18 => (0, -1, -1, -1, true)
  | 19 => (-1, 0, -1, -1, true)
  | 20 => (3, -1, -1, -1, true)
  | 21 => (3, 1, -1, -1, yhg x.s)
  | 22 => (1, 3, -1, -1, yhg x.s)
  | 23 => (if x.d = -1 then -1 else 0, -1, -1, -1, decide (0 ≤ x.n) && decide ((lst x.args).length ≤ 21))
  | 24 => (if x.d = -1 then -1 else 0, -1, -1, -1, decide (0 < (lst x.args).length) && decide (0 ≤ x.n) && decide ((lst x.args).length ≤ 21))
  | 25 => (if x.d = -1 then -1 else 0, -1, -1, -1, decide (0 < (lst x.args).length) && decide ((lst x.args).length ≤ 21))
  | 26 => (if x.d = -1 then -1 else 0, -1, -1, -1, decide (0 ≤ x.n) && decide ((lst x.args).length ≤ 21))
  | 27 => (-1, -1, -1, -1, true)
  | 28 => (-1, 1, 1, -1, decide (0 ≤ x.n) && decide (x.n ≤ 5))
  | 29 => (-1, 3, if x.b = -1 then -1 else 3, -1, decide (x.n = 0) || decide (x.n = 1))
  | 30 => (-1, if x.a = -1 then -1 else 0, -1, -1, true)
  | 31 => (-1, 3, -1, -1, true)
  | 32 => (3, -1, -1, -1, true)
  | 33 => (-1, -1, -1, -1, true)
  | _ => (0, 0, 0, 0, false)
def exK (k : Int × Int × Int × Int × Bool) : Ex AV := ⟨.tup [.agg [.int .i64 k.1, .int .i64 k.2.1, .int .i64 k.2.2.1, .int .i64 k.2.2.2.1], .bool k.2.2.2.2], [], true, [], []⟩
theorem yz1 {x : Ins} (h : x.op < 1 ∨ 33 < x.op) : yd x = (0, 0, 0, 0, false) := by
  unfold yd
  split <;> first | rfl | omega
end Go.Vm
namespace Go.Vm
def regK (R : List Int) (r : Int) : Int := if r < 0 then 0 else R.getD r.toNat 0
def inR (R : List Int) (r : Int) : Bool := decide (0 ≤ r) && decide (r < R.length)
def y1c (R : List Int) (w r : Int) : Bool := decide (w < 0) || (inR R r && (decide (w ≤ 0) || decide (regK R r = w)))
def ymx (R : List Int) (x : Ins) : Bool :=
  match lst x.args with
  | [] => true
  | r :: _ => !(decide (x.op = 24) || decide (x.op = 25)) || decide (regK R r = 3)
def y9y (R : List Int) (x : Ins) : Bool := !calls x.op || (ymx R x && (lst x.args).all (inR R))
def y2h (R : List Int) (ret : Int) (n : Nat) (x : Ins) : Bool :=
  if x.op = 1 then decide (¬ regK R x.d = 3) && (decide (regK R x.d = 2) || decide (x.n = IntKind.wrap .i64 (IntKind.wrap .i32 x.n)))
  else if x.op = 4 then decide (regK R x.d = regK R x.a)
  else if x.op = 7 then decide (¬ regK R x.a = 3)
  else if x.op = 30 then (decide (x.a = -1) == decide (ret = 0)) && (decide (x.a = -1) || decide (regK R x.a = ret))
  else !leads x.op || (decide (0 ≤ x.t) && decide (x.t < n))
def y13 (f : Fn) (x : Ins) : Bool :=
  (yd x).2.2.2.2 && y1c (lst f.regs) (yd x).1 x.d && y1c (lst f.regs) (yd x).2.1 x.a && y1c (lst f.regs) (yd x).2.2.1 x.b && y1c (lst f.regs) (yd x).2.2.2.1 x.c &&
    y9y (lst f.regs) x && y2h (lst f.regs) f.ret (lst f.code).length x
theorem y1qq {R : List Int} {r : Int} (h : inR R r = true) : 0 ≤ r ∧ r.toNat < R.length ∧ R[r.toNat]? = some (regK R r) := by
  simp only [inR, Bool.and_eq_true, decide_eq_true_eq] at h
  have h1 : r.toNat < R.length := by omega
  refine ⟨h.1, h1, ?_⟩
  rw [regK, if_neg (by omega), List.getD_eq_getElem?_getD, List.getElem?_eq_getElem h1]; rfl
def y4y (C : List Ins) (i : Nat) (x : Ins) : Bool :=
  !((decide (x.op = 32) && (decide (i = 0) || !ends ((C.getD (i - 1) default).op))) || (leads x.op && decide ((C.getD x.t.toNat default).op = 32)))
def y3x (f : Fn) (C : List Ins) : Nat → List Ins → Bool
  | _, [] => true
  | i, x :: r => y13 f x && y4y C i x && y3x f C (i + 1) r
def y7s (C : List Ins) (r : Row) : Bool :=
  !(decide (r.f < 0) || decide (r.t ≤ r.f) || decide ((C.length : Int) < r.t) || decide (r.at_ < 0) || decide ((C.length : Int) ≤ r.at_) || decide (¬ (C.getD r.at_.toNat default).op = 32))
def yeu (R : List Int) : Nat → List Int → List Int → Bool
  | _, _, [] => true
  | i, seen, p :: r => (inR R p && !seen.contains p && decide (i ≤ 20)) && yeu R (i + 1) (seen ++ [p]) r
def wf (f : Fn) : Bool :=
  decide (1 ≤ (lst f.code).length) && decide ((lst f.code).length ≤ 20000) && decide ((lst f.regs).length ≤ 20000) && decide (0 ≤ f.ret) && decide (f.ret ≤ 3) && ends ((lst f.code).getD ((lst f.code).length - 1) default).op &&
    (lst f.regs).all (fun k => decide (1 ≤ k) && decide (k ≤ 3)) && yeu (lst f.regs) 0 [] (lst f.params) && y3x f (lst f.code) 0 (lst f.code) && (lst f.rows).all (y7s (lst f.code))
end Go.Vm
namespace Go.Vm
theorem yeo {f : Fn} {C : List Ins} : ∀ {l : List Ins} {i k : Nat} {x : Ins}, y3x f C i l = true → l[k]? = some x → y13 f x = true ∧ y4y C (i + k) x = true
  | [], _, _, _, _, h => by simp at h
  | y :: l, i, k, x, hk, h => by
    simp only [y3x, Bool.and_eq_true] at hk
    cases k with
    | zero => simp at h; subst h; exact hk.1
    | succ k =>
      have := yeo hk.2 (by simpa using h)
      rwa [show i + 1 + k = i + (k + 1) by omega] at this
structure Wf (f : Fn) : Prop where
  n1 : 1 ≤ (lst f.code).length
  n2 : (lst f.code).length ≤ 20000
  regs : (lst f.regs).length ≤ 20000
  ret0 : 0 ≤ f.ret
  ret3 : f.ret ≤ 3
  last : ends (yz f ((lst f.code).length - 1)).op = true
  kinds : ∀ k ∈ lst f.regs, 1 ≤ k ∧ k ≤ 3
  pars : yeu (lst f.regs) 0 [] (lst f.params) = true
  ins : ∀ i, i < (lst f.code).length → y13 f (yz f i) = true
  spot : ∀ i, i < (lst f.code).length → y4y (lst f.code) i (yz f i) = true
  rows : ∀ r ∈ lst f.rows, y7s (lst f.code) r = true
theorem y1gl {f : Fn} (h : wf f = true) : Wf f := by
  simp only [wf, Bool.and_eq_true, decide_eq_true_eq, List.all_eq_true] at h
  obtain ⟨⟨⟨⟨⟨⟨⟨⟨⟨h1, h2⟩, h3⟩, h4⟩, h5⟩, h6⟩, h7⟩, h8⟩, h9⟩, h10⟩ := h
  refine ⟨h1, h2, h3, h4, h5, h6, h7, h8, fun i hi => ?_, fun i hi => ?_, h10⟩
  · exact (yeo h9 (y4e hi)).1
  · have := (yeo h9 (y4e hi)).2
    rwa [Nat.zero_add] at this
theorem yf8 {R : List Int} {ret : Int} {n : Nat} {x : Ins} (h : y2h R ret n x = true) (hl : leads x.op = true) : 0 ≤ x.t ∧ x.t < n := by
  have hne : ¬ x.op = 1 ∧ ¬ x.op = 4 ∧ ¬ x.op = 7 ∧ ¬ x.op = 30 := by
    simp only [leads, Bool.or_eq_true, decide_eq_true_eq] at hl
    omega
  simp only [y2h, hne, if_false, hl, Bool.not_true, Bool.false_or, Bool.and_eq_true, decide_eq_true_eq] at h
  exact h
theorem Wf.leads {f : Fn} (w : Wf f) {i : Nat} (hi : i < (lst f.code).length) (hl : Go.Vm.leads (yz f i).op = true) : 0 ≤ (yz f i).t ∧ (yz f i).t < (lst f.code).length := by
  have h := w.ins i hi
  simp only [y13, Bool.and_eq_true] at h
  exact yf8 h.2 hl
structure RowIn (f : Fn) (r : Row) : Prop where
  f0 : 0 ≤ r.f
  ft : r.f < r.t
  tn : r.t ≤ (lst f.code).length
  a0 : 0 ≤ r.at_
  an : r.at_ < (lst f.code).length
  op : (yz f r.at_.toNat).op = 32
theorem Wf.row {f : Fn} (w : Wf f) {r : Row} (hr : r ∈ lst f.rows) : RowIn f r := by
  have h := w.rows r hr
  simp only [y7s, Bool.not_eq_true', Bool.or_eq_false_iff, decide_eq_false_iff_not, Classical.not_not] at h
  exact ⟨by omega, by omega, by omega, by omega, by omega, h.2⟩
end Go.Vm
namespace Go.Vm
def y1b9 (f : Fn) (i : Nat) : List Int := lst (uses (yz f i))
def yyi (f : Fn) (r : Int) (i : Nat) : List Int := y21 f i ++ if defr (yz f i) = r then [] else y4u f i
def badR (f : Fn) (r : Int) : Prop := ∃ i, Rch (lst f.code).length (yyi f r) [0] i ∧ r ∈ y1b9 f i
def setP (f : Fn) : Prop := ∀ r : Int, 0 ≤ r → r < (lst f.regs).length → r ∉ lst f.params → ¬ badR f r
open Classical in
noncomputable def setM (f : Fn) : Bool := wf f && decide (setP f)
abbrev Tab := List (Option (List Bool))
def wt (R : Nat) : Option (List Bool) → Nat
  | none => R + 1
  | some s => s.countP id
def pot (R : Nat) (ins : Tab) : Nat := (ins.map (wt R)).sum
def LeB (t s : List Bool) : Prop := ∀ r : Nat, t[r]? = some true → s[r]? = some true
theorem LeB.refl (t : List Bool) : LeB t t := fun _ h => h
theorem LeB.trans {a b c : List Bool} (h : LeB a b) (h' : LeB b c) : LeB a c := fun r h1 => h' r (h r h1)
def LeT (a b : Tab) : Prop := ∀ (i : Nat) s, a[i]? = some (some s) → ∃ t, b[i]? = some (some t) ∧ LeB t s
theorem LeT.refl (a : Tab) : LeT a a := fun _ s h => ⟨s, h, .refl _⟩
theorem LeT.trans {a b c : Tab} (h : LeT a b) (h' : LeT b c) : LeT a c := fun i s hs => by
  obtain ⟨t, h1, h2⟩ := h i s hs
  obtain ⟨u, h3, h4⟩ := h' i t h1
  exact ⟨u, h3, h4.trans h2⟩
def LeAt (ins : Tab) (to : Int) (s : List Bool) : Prop := ∃ t, ins[to.toNat]? = some (some t) ∧ LeB t s
theorem LeAt.mono {a b : Tab} (h : LeT a b) {to : Int} {s : List Bool} (hs : LeAt a to s) : LeAt b to s := by
  obtain ⟨t, h1, h2⟩ := hs
  obtain ⟨u, h3, h4⟩ := h _ _ h1
  exact ⟨u, h3, h4.trans h2⟩
section
variable {n R : Nat}
structure TblOk (n R : Nat) (ins : Tab) : Prop where
  len : ins.length = n
  rows : ∀ (i : Nat) s, ins[i]? = some (some s) → s.length = R
structure MeetR (n R : Nat) (s : List Bool) (T : Int → Prop) (p q : Tab × List Int) : Prop where
  ok : TblOk n R q.1
  le : LeT p.1 q.1
  work : ∀ (i : Nat) t, q.1[i]? = some (some t) → p.1[i]? = some (some t) ∨ (i : Int) ∈ q.2
  keep : ∀ j, j ∈ p.2 → j ∈ q.2
  fresh : ∀ j, j ∈ q.2 → j ∈ p.2 ∨ (0 ≤ j ∧ j < n ∧ ∃ t, q.1[j.toNat]? = some (some t))
  src : ∀ (i r : Nat) t, q.1[i]? = some (some t) → t[r]? = some false → (∃ u, p.1[i]? = some (some u) ∧ u[r]? = some false) ∨ (s[r]? = some false ∧ T i)
  pot : 2 * pot R q.1 + q.2.length ≤ 2 * Go.Vm.pot R p.1 + p.2.length
theorem MeetR.refl {s : List Bool} {T : Int → Prop} {p : Tab × List Int} (h : TblOk n R p.1) : MeetR n R s T p p :=
  ⟨h, .refl _, fun _ _ h => .inl h, fun _ h => h, fun _ h => .inl h, fun _ _ _ h1 h2 => .inl ⟨_, h1, h2⟩, Nat.le_refl _⟩
theorem MeetR.trans {s : List Bool} {T : Int → Prop} {p q u : Tab × List Int} (h : MeetR n R s T p q) (h' : MeetR n R s T q u) : MeetR n R s T p u := by
  refine ⟨h'.ok, h.le.trans h'.le, fun i t ht => ?_, fun j hj => h'.keep j (h.keep j hj), fun j hj => ?_, fun i r t ht hr => ?_, Nat.le_trans h'.pot h.pot⟩
  · rcases h'.work i t ht with h1 | h1
    · rcases h.work i t h1 with h2 | h2
      · exact .inl h2
      · exact .inr (h'.keep _ h2)
    · exact .inr h1
  · rcases h'.fresh j hj with h1 | h1
    · rcases h.fresh j h1 with h2 | ⟨a, b, t, ht⟩
      · exact .inl h2
      · obtain ⟨v, hv, _⟩ := h'.le _ _ ht
        exact .inr ⟨a, b, v, hv⟩
    · exact .inr h1
  · rcases h'.src i r t ht hr with ⟨v, h1, h2⟩ | h1
    · exact h.src i r v h1 h2
    · exact .inr h1
theorem MeetR.mono {s : List Bool} {T T' : Int → Prop} {p q : Tab × List Int} (h : MeetR n R s T p q) (hT : ∀ j, T j → T' j) : MeetR n R s T' p q :=
  ⟨h.ok, h.le, h.work, h.keep, h.fresh, fun i r t h1 h2 => (h.src i r t h1 h2).imp id fun x => ⟨x.1, hT _ x.2⟩, h.pot⟩
end
end Go.Vm
namespace Go.Vm
theorem y8p {R : List Int} {k r : Int} (h : y1c R k r = true) (hk : 0 ≤ k) : 0 ≤ r ∧ r < R.length := by
  simp only [y1c, Bool.or_eq_true, decide_eq_true_eq, Bool.and_eq_true, inR] at h
  omega
theorem yeg (n : Int) : 0 ≤ (numK n).1 ∧ 0 ≤ (numK n).2.1 ∧ 0 ≤ (numK n).2.2 := by
  unfold numK
  repeat' split
  all_goals decide
set_option maxHeartbeats 4000000 in
theorem yyp {f : Fn} {x : Ins} (h : y13 f x = true) {u : Int} (hu : u ∈ lst (uses x)) : 0 ≤ u ∧ u < (lst f.regs).length := by
  simp only [y13, Bool.and_eq_true] at h
  obtain ⟨⟨⟨⟨⟨⟨h0, h1⟩, h2⟩, h3⟩, h4⟩, h5⟩, h6⟩ := h
  by_cases hc : calls x.op = true
  · have hu' : u ∈ lst x.args := by simpa [uses, hc] using hu
    simp only [y9y, hc, Bool.not_true, Bool.false_or, Bool.and_eq_true, List.all_eq_true] at h5
    have := h5.2 u hu'
    simpa [inR] using this
  · have key : (u = x.a ∧ 0 ≤ (yd x).2.1) ∨ (u = x.b ∧ 0 ≤ (yd x).2.2.1) ∨ (u = x.c ∧ 0 ≤ (yd x).2.2.2.1) ∨ False := by
      rcases ydb x.op with h|h|h|h|h|h|h|h|h|h|h|h|h|h|h|h|h|h|h|h|h|h|h|h|h|h|h|h|h|h|h|h|h|h|h
      all_goals first
        | (exfalso; simp [uses, reads, calls, h] at hu; done)
        | (exfalso; simp [calls, h] at hc; done)
        | (simp [uses, reads, calls, h] at hu; simp [yd, h] at h0 ⊢; first | omega | (rcases hu with rfl | rfl <;> simp [yeg]) | (rcases hu with rfl | rfl | rfl <;> simp) | (subst hu; simp [yeg]))
        | (simp [uses, reads, calls, h] at hu; simp [yd, h]; split at hu <;> simp_all; done)
        | (exfalso; simp [uses, reads, calls, lo_f h] at hu; done)
        | (exfalso; simp [uses, reads, calls, hi_f h] at hu; done)
        | skip
      · by_cases hb : x.b < 0
        · simp [uses, calls, h, hb] at hu
          exact .inl ⟨hu, by simp [yd, h]⟩
        · simp [uses, calls, h, hb] at hu
          rcases hu with hu | hu
          · exact .inl ⟨hu, by simp [yd, h]⟩
          · have : ¬ x.b = -1 := by omega
            exact .inr (.inl ⟨hu, by simp [yd, h, this]⟩)
      · by_cases ha : 0 ≤ x.a
        · simp [uses, calls, h, ha] at hu
          have : ¬ x.a = -1 := by omega
          exact .inl ⟨hu, by simp [yd, h, this]⟩
        · simp [uses, calls, h, ha] at hu
    rcases key with ⟨rfl, hk⟩ | ⟨rfl, hk⟩ | ⟨rfl, hk⟩ | hk
    · exact y8p h2 hk
    · exact y8p h3 hk
    · exact y8p h4 hk
    · exact hk.elim
set_option maxHeartbeats 4000000 in
theorem y116 {f : Fn} {x : Ins} (h : y13 f x = true) (hd : ¬ defr x = -1) : 0 ≤ defr x ∧ defr x < (lst f.regs).length := by
  simp only [y13, Bool.and_eq_true] at h
  obtain ⟨⟨⟨⟨⟨⟨h0, h1⟩, h2⟩, h3⟩, h4⟩, h5⟩, h6⟩ := h
  have key : defr x = x.d ∧ 0 ≤ (yd x).1 := by
    unfold defr at hd ⊢
    split at hd
    · rename_i hw
      rw [if_pos hw]
      refine ⟨rfl, ?_⟩
      rcases ydb x.op with h|h|h|h|h|h|h|h|h|h|h|h|h|h|h|h|h|h|h|h|h|h|h|h|h|h|h|h|h|h|h|h|h|h|h
      all_goals first
        | (exfalso; simp [writes, calls, h] at hw; done)
        | (simp [yd, h, yeg, hd]; done)
        | (exfalso; simp [writes, calls, lo_f h] at hw; done)
        | (exfalso; simp [writes, calls, hi_f h] at hw; done)
    · exact (hd rfl).elim
  rw [key.1]
  exact y8p h1 key.2
theorem Wf.uses {f : Fn} (w : Wf f) {i : Nat} (hi : i < (lst f.code).length) {u : Int} (hu : u ∈ lst (Go.Vm.uses (yz f i))) : 0 ≤ u ∧ u < (lst f.regs).length := yyp (w.ins i hi) hu
theorem Wf.def {f : Fn} (w : Wf f) {i : Nat} (hi : i < (lst f.code).length) (hd : 0 ≤ defr (yz f i)) : defr (yz f i) < (lst f.regs).length := (y116 (w.ins i hi) (by omega)).2
theorem yim {l : List Int} {j a : Int} (h : j ∈ addN l a) : j ∈ l ∨ j = a := by
  unfold addN at h
  split at h
  · exact .inl h
  · rw [List.mem_append, List.mem_singleton] at h; exact h
theorem Wf.next {f : Fn} (w : Wf f) {i : Nat} (hi : i < (lst f.code).length) {to : Int} (h : to ∈ y4u f i) : 0 ≤ to ∧ to < (lst f.code).length := by
  rw [y4u, if_neg (by omega), show ((i : Int)).toNat = i by omega] at h
  have hself : ∀ {j : Int}, j ∈ (if ends (yz f i).op = true then [] else [(i : Int) + 1]) → 0 ≤ j ∧ j < (lst f.code).length := by
    intro j hj
    split at hj
    · cases hj
    · rename_i he
      rw [List.mem_singleton] at hj
      subst hj
      refine ⟨by omega, ?_⟩
      by_cases e : i = (lst f.code).length - 1
      · subst e; exact (he w.last).elim
      · omega
  unfold y9l at h
  split at h
  · rename_i hl
    rcases yim h with h | h
    · exact hself h
    · rw [h]; exact w.leads hi hl
  · exact hself h
theorem yc0 {i to : Int} : ∀ {rs : List Row} {l : List Int}, to ∈ y30 i rs l → to ∈ l ∨ ∃ r ∈ rs, r.at_ = to
  | [], l, h => .inl h
  | r :: rs, l, h => by
    unfold y30 at h
    split at h
    · split at h
      · rcases yim h with h | h
        · exact .inl h
        · exact .inr ⟨r, by simp, h.symm⟩
      · rcases yc0 h with h | ⟨r', h1, h2⟩
        · rcases yim h with h | h
          · exact .inl h
          · exact .inr ⟨r, by simp, h.symm⟩
        · exact .inr ⟨r', by simp [h1], h2⟩
    · rcases yc0 h with h | ⟨r', h1, h2⟩
      · exact .inl h
      · exact .inr ⟨r', by simp [h1], h2⟩
theorem Wf.caught {f : Fn} (w : Wf f) {i to : Int} (h : to ∈ y21 f i) : 0 ≤ to ∧ to < (lst f.code).length := by
  rw [y21] at h
  split at h
  · cases h
  · split at h
    · rcases yc0 h with h | ⟨r, h1, h2⟩
      · cases h
      · have := w.row h1
        rw [← h2]; exact ⟨this.a0, this.an⟩
    · cases h
end Go.Vm
namespace Go.Vm
def yxp (f : Fn) (A : List Int) (r : Nat) : Prop := ∃ i, Rch (lst f.code).length (yyi f r) A i ∧ (r : Int) ∈ y1b9 f i
theorem Rch.one {n : Nat} {S : Nat → List Int} {i k : Nat} : Rch n S [(i : Int)] k ↔ (k = i ∧ i < n) ∨ (i < n ∧ Rch n S (S i) k) := by
  constructor
  · intro h
    induction h with
    | base hj j0 j1 =>
      rw [List.mem_singleton] at hj
      subst hj
      exact .inl ⟨by omega, by omega⟩
    | step h hj j0 j1 ih =>
      rcases ih with ⟨e, hi⟩ | ⟨hi, h'⟩
      · subst e
        exact .inr ⟨hi, .base hj j0 j1⟩
      · exact .inr ⟨hi, .step h' hj j0 j1⟩
  · rintro (⟨e, hi⟩ | ⟨hi, h⟩)
    · subst e
      have := Rch.base (n := n) (S := S) (A := [(k : Int)]) (j := (k : Int)) (by simp) (by omega) (by omega)
      simpa using this
    · have hb : Rch n S [(i : Int)] i := by
        have := Rch.base (n := n) (S := S) (A := [(i : Int)]) (j := (i : Int)) (by simp) (by omega) (by omega)
        simpa using this
      induction h with
      | base hj j0 j1 => exact .step hb hj j0 j1
      | step h hj j0 j1 ih => exact .step ih hj j0 j1
theorem Rch.some_ {n : Nat} {S : Nat → List Int} {A : List Int} {k : Nat} : Rch n S A k ↔ ∃ a ∈ A, 0 ≤ a ∧ a < n ∧ Rch n S [a] k := by
  constructor
  · intro h
    induction h with
    | base hj j0 j1 => exact ⟨_, hj, j0, j1, .base (by simp) j0 j1⟩
    | step h hj j0 j1 ih =>
      obtain ⟨a, ha, a0, a1, h'⟩ := ih
      exact ⟨a, ha, a0, a1, .step h' hj j0 j1⟩
  · rintro ⟨a, ha, a0, a1, h⟩
    induction h with
    | base hj j0 j1 =>
      rw [List.mem_singleton] at hj
      subst hj
      exact .base ha j0 j1
    | step h hj j0 j1 ih => exact .step ih hj j0 j1
section
variable (f : Fn)
theorem y1bj {A : List Int} {r : Nat} : yxp f A r ↔ ∃ a ∈ A, 0 ≤ a ∧ a < (lst f.code).length ∧ yxp f [a] r := by
  unfold yxp
  constructor
  · rintro ⟨i, h, hu⟩
    obtain ⟨a, ha, a0, a1, h'⟩ := Rch.some_.1 h
    exact ⟨a, ha, a0, a1, i, h', hu⟩
  · rintro ⟨a, ha, a0, a1, i, h', hu⟩
    exact ⟨i, Rch.some_.2 ⟨a, ha, a0, a1, h'⟩, hu⟩
structure Tb where
  b : List Ws
  a : List Ws
  h : List Ws
def rowW (l : List Ws) (i : Nat) : Ws := l.getD i []
structure TbOk (n W : Nat) (t : Tb) : Prop where
  b : t.b.length = n
  a : t.a.length = n
  h : t.h.length = n
  bw : ∀ i, i < n → (rowW t.b i).length = W
  aw : ∀ i, i < n → (rowW t.a i).length = W
  hw : ∀ i, i < n → (rowW t.h i).length = W
variable {W n : Nat} {l : List Ws}
end
end Go.Vm
namespace Go.Vm
end Go.Vm
