/- Places that can be reached: a search with a stack, a search in rounds, a search that stops where something is found. Plain Lean; nothing here speaks of a program. Which places follow a place, in plain words. A function with other code. A pass: a function as a variable of one's own, its lists in objects of one's own. What instructions make of numbers, in plain words. What the stack's instructions over numbers take and give. What instructions make of numbers stays in range. Maps from whole numbers, as lists of pairs: plain Lean. Sets of registers, 64 a word. What is told of types' descriptors. Names, the type at a text's beginning, types. What an instruction wants of its registers, in plain words. When an instruction, a function is well formed, in plain words. What a well formed function is like. Whether each register is written ahead of all that reads it, in plain words: by ways, and by what is set at each place. In a well formed function the registers that are read and written are registers, and the places that follow are places. Which registers are live, in plain words: by ways, and by what the sweeps over the table leave. What is live ahead of, behind and across a place, as tests. -/
import Derived.Test.YtgbajicpokolcaaNX
import Derived.Test.YtgbajicpokolcaaNTa
set_option linter.unusedSimpArgs false
set_option linter.unusedVariables false
set_option linter.unusedSectionVars false
namespace Go.Vm
section
variable (n : Nat) (S : Nat → List Int) (A : List Int)
inductive Rch : Nat → Prop
  | base {j : Int} : j ∈ A → 0 ≤ j → j < n → Rch j.toNat
  | step {i : Nat} {j : Int} : Rch i → j ∈ S i → 0 ≤ j → j < n → Rch j.toNat
def unseen (seen : List Bool) : Nat := seen.countP (! ·)
end
section
variable {n : Nat} {S : Nat → List Int} {A : List Int}
theorem Rch.lt {i : Nat} (h : Rch n S A i) : i < n := by cases h <;> omega
theorem ya2 {op : List Int} {i : Int} (h : op.getLast? = some i) : op = op.dropLast ++ [i] := by
  have hne : op ≠ [] := by intro e; rw [e] at h; cases h
  have := List.dropLast_concat_getLast hne
  rw [List.getLast?_eq_some_getLast hne] at h
  injection h with h
  rw [h] at this
  exact this.symm
theorem ycg {op : List Int} {j : Int} (h : j ∈ op.dropLast) : j ∈ op := (List.dropLast_sublist op).mem h
structure DfsI (n : Nat) (S : Nat → List Int) (A : List Int) (seen : List Bool) (op : List Int) : Prop where
  len : seen.length = n
  ok : ∀ i : Nat, seen[i]? = some true → Rch n S A i
  opn : ∀ j : Int, j ∈ op → 0 ≤ j → j < n → Rch n S A j.toNat
  cl : ∀ (i : Nat) (j : Int), seen[i]? = some true → j ∈ S i → 0 ≤ j → j < n → seen[j.toNat]? = some true ∨ j ∈ op
  st : ∀ j : Int, j ∈ A → 0 ≤ j → j < n → seen[j.toNat]? = some true ∨ j ∈ op
theorem DfsI.start : DfsI n S A (List.replicate n false) A where
  len := by simp
  ok i h := by rw [List.getElem?_replicate] at h; split at h <;> cases h
  opn j h h0 h1 := .base h h0 h1
  cl i j h := by rw [List.getElem?_replicate] at h; split at h <;> cases h
  st j h _ _ := .inr h
theorem DfsI.skip {seen : List Bool} {op : List Int} (I : DfsI n S A seen op) {i : Int} (hop : op.getLast? = some i) (hc : i < 0 ∨ (n : Int) ≤ i ∨ seen.getD i.toNat true = true) : DfsI n S A seen op.dropLast := by
  have e := ya2 hop
  have key : ∀ j : Int, 0 ≤ j → j < n → (seen[j.toNat]? = some true ∨ j ∈ op) → seen[j.toNat]? = some true ∨ j ∈ op.dropLast := by
    intro j h0 h1 h
    rcases h with h | h
    · exact .inl h
    · rw [e, List.mem_append, List.mem_singleton] at h
      rcases h with h | rfl
      · exact .inr h
      · rcases hc with hc | hc | hc
        · omega
        · omega
        · left
          have : j.toNat < seen.length := by rw [I.len]; omega
          rw [List.getD_eq_getElem?_getD, List.getElem?_eq_getElem this] at hc
          rw [List.getElem?_eq_getElem this]
          simpa using hc
  exact ⟨I.len, I.ok, fun j hj => I.opn j (ycg hj), fun i j h1 h2 h3 h4 => key j h3 h4 (I.cl i j h1 h2 h3 h4), fun j h1 h3 h4 => key j h3 h4 (I.st j h1 h3 h4)⟩
theorem DfsI.take {seen : List Bool} {op : List Int} (I : DfsI n S A seen op) {i : Int} (hop : op.getLast? = some i) (h0 : 0 ≤ i) (h1 : i < n) : DfsI n S A (seen.set i.toNat true) (op.dropLast ++ S i.toNat) := by
  have e := ya2 hop
  have hi : Rch n S A i.toNat := I.opn i (by rw [e]; simp) h0 h1
  have hlt : i.toNat < seen.length := by rw [I.len]; omega
  have hset : ∀ j : Nat, (seen.set i.toNat true)[j]? = some true ↔ seen[j]? = some true ∨ j = i.toNat := by
    intro j
    rw [List.getElem?_set]
    by_cases hj : i.toNat = j
    · subst hj; simp [hlt]
    · rw [if_neg hj]
      exact ⟨.inl, fun h => h.resolve_right (fun e => hj e.symm)⟩
  have key : ∀ j : Int, 0 ≤ j → j < n → (seen[j.toNat]? = some true ∨ j ∈ op) → (seen.set i.toNat true)[j.toNat]? = some true ∨ j ∈ op.dropLast ++ S i.toNat := by
    intro j h2 h3 h
    rw [hset]
    rcases h with h | h
    · exact .inl (.inl h)
    · rw [e, List.mem_append, List.mem_singleton] at h
      rcases h with h | rfl
      · exact .inr (List.mem_append_left _ h)
      · exact .inl (.inr rfl)
  refine ⟨by simpa using I.len, fun j hj => ?_, fun j hj h2 h3 => ?_, fun k j hk hj h2 h3 => ?_, fun j hj h2 h3 => key j h2 h3 (I.st j hj h2 h3)⟩
  · rcases (hset j).1 hj with h | rfl
    · exact I.ok j h
    · exact hi
  · rcases List.mem_append.1 hj with h | h
    · exact I.opn j (ycg h) h2 h3
    · exact .step hi h h2 h3
  · rcases (hset k).1 hk with h | rfl
    · exact key j h2 h3 (I.cl k j h hj h2 h3)
    · exact .inr (List.mem_append_right _ hj)
theorem DfsI.done {seen : List Bool} (I : DfsI n S A seen []) (i : Nat) : seen[i]? = some true ↔ Rch n S A i := by
  refine ⟨I.ok i, fun h => ?_⟩
  induction h with
  | base h h0 h1 => exact (I.st _ h h0 h1).resolve_right (by simp)
  | step _ hj h0 h1 ih => exact (I.cl _ _ ih hj h0 h1).resolve_right (by simp)
structure RI (n : Nat) (S : Nat → List Int) (A : List Int) (seen : List Bool) (s : List Bool × Bool) : Prop where
  len : s.1.length = n
  ok : ∀ i : Nat, s.1[i]? = some true → Rch n S A i
  up : ∀ i : Nat, seen[i]? = some true → s.1[i]? = some true
  un : unseen s.1 ≤ unseen seen
  lt : s.2 = true → unseen s.1 < unseen seen
  eq : s.2 = false → s.1 = seen
end
end Go.Vm
namespace Go.Vm
def addN (l : List Int) (j : Int) : List Int := if l.contains j then l else l ++ [j]
def y1a (f : Fn) (i : Nat) : Ins := (lst f.code).getD i default
def y1n2 (x : Ins) (i : Int) : List Int := if leads x.op then addN (if ends x.op then [] else [i + 1]) x.t else if ends x.op then [] else [i + 1]
def yyf (f : Fn) (i : Int) : List Int := if i < 0 ∨ ((lst f.code).length : Int) ≤ i then [] else y1n2 (y1a f i.toNat) i
def ydd (i : Int) : List Row → List Int → List Int
  | [], l => l
  | r :: rs, l => if r.f ≤ i ∧ i < r.t then (if r.c = [] then addN l r.at_ else ydd i rs (addN l r.at_)) else ydd i rs l
def ybk (f : Fn) (i : Int) : List Int := if i < 0 ∨ ((lst f.code).length : Int) ≤ i then [] else if throws (y1a f i.toNat).op then ydd i (lst f.rows) [] else []
theorem yd5 {f : Fn} {i : Nat} (h : i < (lst f.code).length) : (lst f.code)[i]? = some (y1a f i) := by
  rw [y1a, List.getD_eq_getElem?_getD, List.getElem?_eq_getElem h]; rfl
def y92 (f : Fn) (i : Nat) : Bool :=
  decide (i = 0) || (leads (y1a f (i - 1)).op || ends (y1a f (i - 1)).op) || (lst f.code).any (fun x => leads x.op && decide (x.t = i)) || (lst f.rows).any (fun r => decide (r.f = i) || decide (r.t = i) || decide (r.at_ = i))
def y3d (f : Fn) : Nat → List Int
  | 0 => []
  | k + 1 => y3d f k ++ (if y92 f k then [(k : Int)] else [])
def y5j (f : Fn) : List Int := y3d f (lst f.code).length
theorem ybd (f : Fn) : ∀ k, (y3d f k).length ≤ k
  | 0 => Nat.le_refl _
  | k + 1 => by
    have := ybd f k
    rw [y3d, List.length_append]
    split <;> simp <;> omega
end Go.Vm
namespace Go.Vm
def y7e (f : Fn) (L : List Ins) : Fn := { f with code := some L }
@[simp] theorem y255 (f : Fn) (L : List Ins) : lst (y7e f L).code = L := rfl
theorem yhx {f : Fn} {L : List Ins} (h : f.code = some L) : y7e f L = f := by
  rw [y7e, ← h]
end Go.Vm
namespace Go.Vm
open Cel
theorem y1hc {f : Fn} {L L' : List Ins} (p g : Nat → Nat) (h : L.length = L'.length) : fnC (y7e f L) p g = fnC (y7e f L') p g := by
  simp [fnC, y7e, ownV, h]
structure DSt (H : Heap) (f : Fn) (p g : Nat → Nat) (n : Nat) : Prop where
  at_ : FnAt H f p g
  box : H[0]? = some ⟨1, .arr true false 5 [fnC f p g]⟩
  res : ∃ c, H[1]? = some ⟨1, .arr true false 5 [c]⟩ ∧ c.length = 5
  len : n ≤ H.length
  lo : ∀ i, i < 4 → hasL f i = true → 2 ≤ p i ∧ p i < 6
theorem yi7 (f : Fn) (p g : Nat → Nat) : (fnC f p g).length = 5 := rfl
theorem yta (f : Fn) (p g : Nat → Nat) : (fnC f p g).all yq = true := by simp [fnC]
theorem y15s {H : Heap} {a : Nat} {c : List AV} (h : H[a]? = some ⟨1, .arr true false 5 [c]⟩) (hl : c.length = 5) : evLd true 5 (.lp a 1 0 0) H = some (.agg c) := by
  have hr : yk H a 1 = some (false, 5, [c]) := by simp [yk, y2x, h]
  rw [y2l, hr]
  simp only [List.getElem?_cons_zero, List.drop_zero, y4m, if_true, hl, Nat.le_refl]
  rw [List.take_of_length_le (by omega)]
theorem y1nb {H : Heap} {a k : Nat} {c : List AV} {v : AV} (h : H[a]? = some ⟨1, .arr true false 5 [c]⟩) (hv : c[k]? = some v) : evLd false 1 (.lp a 1 0 k) H = some v := by
  have hr : yk H a 1 = some (false, 5, [c]) := by simp [yk, y2x, h]
  rw [y2l, hr]
  simp only [List.getElem?_cons_zero, y7m, List.head?_drop, hv]
theorem y1ua {H : Heap} {a : Nat} {c d : List AV} {v : AV} (h : H[a]? = some ⟨1, .arr true false 5 [c]⟩) (hl : c.length = 5) (hv : cellsOf v = d) (hd : d.length = 5) (hf : d.all yq = true) :
    evSt 5 (.lp a 1 0 0) v H = some (.tup [], H.set a ⟨1, .arr true false 5 [d]⟩) := by
  have hr : yk H a 1 = some (false, 5, [c]) := by simp [yk, y2x, h]
  rw [y40, hr]
  simp only [List.getElem?_cons_zero, hv]
  rw [if_pos ⟨hd, by omega, hf⟩, ybm (by rw [hd, hl]), y1g, h]
  rfl
theorem y122 {H : Heap} {a : Nat} {c d : List AV} (h : H[a]? = some ⟨1, .arr true false 5 [c]⟩) (hl : c.length = 5) (hd : d.length = 5) (hf : d.all yq = true) :
    evSt 5 (.lp a 1 0 0) (.agg d) H = some (.tup [], H.set a ⟨1, .arr true false 5 [d]⟩) := y1ua h hl rfl hd hf
theorem y25s {H : Heap} {id g i : Nat} {L : List Ins} {x : Ins} (h : H[id]? = some ⟨g, .arr false false 9 (L.map enc)⟩) (hx : L[i]? = some x) : evLd true 9 (.lp id g i 0) H = some (.agg (enc x)) := by
  have hr : yk H id g = some (false, 9, L.map enc) := by simp [yk, y2x, h]
  have hg : (L.map (enc (α := Ins)))[i]? = some (enc x) := by simp [hx]
  rw [y2l, hr]
  simp only [hg, List.drop_zero, yj6]
theorem y260 {n i : Nat} (h : i < n) (id g e : Nat) (k : IntKind) : yv e (.ls id g e 0 n) (.int k i) = some (.lp id g i 0) := by
  have : (i : Int) < (n : Int) := by omega
  simp [yv, this]
section
variable {H : Heap} {f : Fn} {p g : Nat → Nat} {n : Nat} (D : DSt H f p g n)
include D
theorem DSt.ld : evLd true 5 (.lp 0 1 0 0) H = some (fnV f p g) := y15s D.box (yi7 f p g)
theorem DSt.ldc : evLd false 1 (.lp 0 1 0 3) H = some (ownV (p 2) (g 2) f.code) := y1nb D.box rfl
theorem DSt.set {a : Nat} {x : AO} (ha : 6 ≤ a) : DSt (H.set a x) f p g n := by
  refine ⟨D.at_.set fun i hi hh => ?_, by rw [y33 (by omega)]; exact D.box, ?_, by rw [List.length_set]; exact D.len, D.lo⟩
  · have := D.lo i hi hh; omega
  · obtain ⟨c, h1, h2⟩ := D.res
    exact ⟨c, by rw [y33 (by omega)]; exact h1, h2⟩
theorem DSt.setCode {L L' : List Ins} (hL : f.code = some L) (hl : L.length = L'.length) : DSt (H.set (p 2) ⟨g 2, .arr false false 9 (L'.map enc)⟩) (y7e f L') p g n := by
  have hc : hasL f 2 = true := by simp [hasL, hL]
  have h2 := D.lo 2 (by omega) hc
  refine ⟨D.at_.setCode hL, ?_, ?_, by rw [List.length_set]; exact D.len, fun i hi hh => D.lo i hi ?_⟩
  · rw [y33 (by omega), D.box]
    have := y1hc (f := f) p g hl
    rw [yhx hL] at this
    rw [this]
  · obtain ⟨c, h1, h2⟩ := D.res
    exact ⟨c, by rw [y33 (by omega)]; exact h1, h2⟩
  · match i, hh with
    | 0, hh => exact hh
    | 1, hh => exact hh
    | 2, _ => exact hc
    | i + 3, hh => exact hh
theorem DSt.out : ∃ H', evSt 5 (.lp 1 1 0 0) (fnV f p g) H = some (.tup [], H') ∧ evLd true 5 (.lp 1 1 0 0) H' = some (fnV f p g) ∧ y7 H' (fnV f p g) = some (y1k f) := by
  obtain ⟨c, h1, h2⟩ := D.res
  refine ⟨_, y122 h1 h2 (yi7 f p g) (yta f p g), y15s (ybg (y90 h1)) (yi7 f p g), FnAt.expo (D.at_.set fun i hi hh => ?_)⟩
  have := D.lo i hi hh; omega
theorem DSt.ix {L : List Ins} (hL : f.code = some L) {i : Nat} {x : Ins} (hx : L[i]? = some x) : evLd true 9 (.lp (p 2) (g 2) i 0) H = some (.agg (enc x)) := y25s (D.at_.code L hL) hx
theorem DSt.st {L : List Ins} (hL : f.code = some L) {i : Nat} (hi : i < L.length) (y : Ins) : evSt 9 (.lp (p 2) (g 2) i 0) (.agg (enc y)) H = some (.tup [], H.set (p 2) ⟨g 2, .arr false false 9 ((L.set i y).map enc)⟩) :=
  y19q (α := Ins) (D.at_.code L hL) hi rfl
theorem DSt.call {E : Env} {C : Calls2} {fb k : Nat} {sl : Option Nat} {r : Ex AV} {v : AV} (hE : E.pure k = true) (hf : r.fresh = true) (hc : C.p k [.agg (enc f)] = some r) (hr : y1ji r v) : y4 E C fb sl true k [fnV f p g] H = some (v, H) := by
  obtain ⟨fr, ids, hz⟩ := D.at_.fz
  refine ynz (fa := ⟨[.agg (enc f)], fr && true, ids ++ []⟩) hE ?_ hf hc hr
  rw [y10, hz, y1c]
end
theorem yfp {H T : Heap} {a : Nat} {x : AO} (h : H[a]? = some x) : (H ++ T)[a]? = some x := by
  rw [List.getElem?_append_left (y90 h)]; exact h
theorem FnAt.grow {H : Heap} {f : Fn} {p g : Nat → Nat} (A : FnAt H f p g) (T : Heap) : FnAt (H ++ T) f p g :=
  ⟨fun L e => yfp (A.regs L e), fun L e => yfp (A.params L e), fun L e => yfp (A.code L e), fun L e => yfp (A.rows L e), A.ne⟩
theorem DSt.grow {H : Heap} {f : Fn} {p g : Nat → Nat} {n : Nat} (D : DSt H f p g n) (T : Heap) : DSt (H ++ T) f p g n := by
  obtain ⟨c, h1, h2⟩ := D.res
  exact ⟨D.at_.grow T, yfp D.box, ⟨c, yfp h1, h2⟩, by rw [List.length_append]; have := D.len; omega, D.lo⟩
theorem yz4 {f : Fn} (hs : FnSm f) {H : Heap} (h0 : H[0]? = some (AB f)) (h1 : ∃ c, H[1]? = some ⟨1, .arr true false 5 [c]⟩ ∧ c.length = 5) {n : Nat} (hn : 6 ≤ n) (hl : n ≤ H.length) :
    ∃ H1 H2 p g, y4 E (y6 E) 0 (some 2) false 13 [.agg (enc f)] H = some (fnV f p g, H1) ∧ evSt 5 (.lp 0 1 0 0) (fnV f p g) H1 = some (.tup [], H2) ∧ DSt H2 f p g n ∧ H2.length = H.length ∧ ∀ k, 6 ≤ k → H2[k]? = H[k]? := by
  obtain ⟨H1, p, g, e1, A, e2, e3, e4⟩ := yzk hs (H := H) (fb := 0) (j := 2) (by omega)
  have hb : H1[0]? = some ⟨1, .arr true false 5 [enc f]⟩ := by rw [e4 0 (.inl (by omega)), h0]
  refine ⟨H1, _, p, g, e1, y122 hb rfl (yi7 f p g) (yta f p g), ⟨A.set fun i hi hh => ?_, ybg (y90 hb), ?_, by rw [List.length_set, e2]; exact hl, fun i hi hh => by have := e3 i hi hh; omega⟩, by rw [List.length_set, e2], fun k hk => ?_⟩
  · have := e3 i hi hh; omega
  · obtain ⟨c, c1, c2⟩ := h1
    exact ⟨c, by rw [y33 (by omega), e4 1 (.inl (by omega))]; exact c1, c2⟩
  · rw [y33 (by omega), e4 k (.inr (by omega))]
end Go.Vm
namespace Go.Vm
def nOf : Option AV → Int
  | some (.int _ n) => n
  | _ => 0
def bI (op : BinOp) (k : IntKind) (a b : Int) : Int := nOf (y1z op k a b)
def shI (op : BinOp) (k : IntKind) (a b : Int) : Int := nOf (y5y op k a b)
def divM (rest : Bool) (a b : Int) : Int :=
  if b = 0 then 0 else if b = -1 then (if rest then 0 else IntKind.wrap .i64 (-a)) else if rest then a.tmod b else IntKind.wrap .i64 (a.tdiv b)
def intM (c a b : Int) : Int :=
  if c = 96 then bI .add .i32 a b else if c = 100 then bI .sub .i32 a b else if c = 104 then bI .mul .i32 a b
  else if c = 108 ∨ c = 112 then IntKind.wrap .i32 (divM (decide (c = 112)) (IntKind.wrap .i64 a) (IntKind.wrap .i64 b))
  else if c = 120 then shI .shl .i32 a (bI .and .u32 (IntKind.wrap .u32 b) 31)
  else if c = 122 then shI .shr .i32 a (bI .and .u32 (IntKind.wrap .u32 b) 31)
  else if c = 124 then IntKind.wrap .i32 (shI .shr .u32 (IntKind.wrap .u32 a) (bI .and .u32 (IntKind.wrap .u32 b) 31))
  else if c = 126 then bI .and .i32 a b else if c = 128 then bI .or .i32 a b else if c = 130 then bI .xor .i32 a b else 0
def y9k (c a b : Int) : Int :=
  if c = 97 then bI .add .i64 a b else if c = 101 then bI .sub .i64 a b else if c = 105 then bI .mul .i64 a b
  else if c = 109 ∨ c = 113 then divM (decide (c = 113)) a b
  else if c = 121 then shI .shl .i64 a (bI .and .u64 (IntKind.wrap .u64 b) 63)
  else if c = 123 then shI .shr .i64 a (bI .and .u64 (IntKind.wrap .u64 b) 63)
  else if c = 125 then IntKind.wrap .i64 (shI .shr .u64 (IntKind.wrap .u64 a) (bI .and .u64 (IntKind.wrap .u64 b) 63))
  else if c = 127 then bI .and .i64 a b else if c = 129 then bI .or .i64 a b else if c = 131 then bI .xor .i64 a b else 0
def twoM (c a b : Int) : Int :=
  if c = 148 then (if a < b then -1 else if b < a then 1 else 0)
  else if bI .and .i64 c 1 = 0 then IntKind.wrap .i64 (intM c (IntKind.wrap .i32 a) (IntKind.wrap .i32 b)) else y9k c a b
def yuj (c a : Int) : Int :=
  if c = 116 then IntKind.wrap .i64 (IntKind.wrap .i32 (-(IntKind.wrap .i32 a))) else if c = 117 then IntKind.wrap .i64 (-a)
  else if c = 133 ∨ c = 136 then IntKind.wrap .i64 (IntKind.wrap .i32 a) else if c = 145 then IntKind.wrap .i64 (IntKind.wrap .i8 a)
  else if c = 146 then IntKind.wrap .i64 (IntKind.wrap .u16 a) else if c = 147 then IntKind.wrap .i64 (IntKind.wrap .i16 a) else 0
def yl3 (c a b : Int) : Bool :=
  if c = 0 then decide (a = b) else if c = 1 then decide (a ≠ b) else if c = 2 then decide (a < b) else if c = 3 then decide (b ≤ a) else if c = 4 then decide (b < a) else if c = 5 then decide (a ≤ b) else false
end Go.Vm
namespace Go.Vm
open Cel
attribute [local simp] y4 y2f yy
def numK (c : Int) : Int × Int × Int :=
  if c ∈ [96, 100, 104, 108, 112, 120, 122, 124, 126, 128, 130] then (1, 1, 1)
  else if c ∈ [97, 101, 105, 109, 113, 127, 129, 131] then (2, 2, 2)
  else if c ∈ [121, 123, 125] then (2, 1, 2)
  else if c = 148 then (2, 2, 1)
  else if c ∈ [116, 145, 146, 147] then (1, 0, 1)
  else if c = 117 then (2, 0, 2)
  else if c = 133 then (1, 0, 2)
  else if c = 136 then (2, 0, 1)
  else (0, 0, 0)
def y13u (r : Option (Ex AV)) (k : Int × Int × Int) : Bool :=
  match r with
  | some ⟨.tup [.int .i64 a, .int .i64 b, .int .i64 c], [], true, [], []⟩ => a == k.1 && b == k.2.1 && c == k.2.2
  | _ => false
theorem y1by {r : Option (Ex AV)} {k : Int × Int × Int} (h : y13u r k = true) : r = some ⟨.tup [.int .i64 k.1, .int .i64 k.2.1, .int .i64 k.2.2], [], true, [], []⟩ := by
  unfold y13u at h
  split at h
  · simp only [Bool.and_eq_true, beq_iff_eq] at h
    obtain ⟨⟨h1, h2⟩, h3⟩ := h
    rw [h1, h2, h3]
  · cases h
theorem y19b {n : Nat} {f : Nat → Bool} (h : ((List.range n).all f) = true) (i : Nat) (hi : i < n) : f i = true := by
  rw [List.all_eq_true] at h
  exact h i (List.mem_range.2 hi)
theorem y269 : ((List.range 60).all fun i => y13u ((both E 30).1.p 50 [.int .i64 (95 + i)]) (numK (95 + i))) = true := by kernel_rfl
theorem y1i9 {c : Int} (h : c < 96 ∨ 148 < c) : numK c = (0, 0, 0) := by
  simp only [numK, List.mem_cons, List.not_mem_nil, or_false]
  repeat' split
  all_goals first | rfl | omega
theorem y1v0 (c : Int) : (y6 E).p 50 [.int .i64 c] = some ⟨.tup [.int .i64 (numK c).1, .int .i64 (numK c).2.1, .int .i64 (numK c).2.2], [], true, [], []⟩ := by
  by_cases h : c < 96 ∨ 148 < c
  · rw [y1i9 h, y28f]
    have h2 : ∀ k : Int, 96 ≤ k → k ≤ 148 → ¬ c = k := by omega
    simp [y1um, yyu, y1sl, y1wm, y1w1, y18h, y1sv, yg2, y1v8, y5l, y1go, y13y, y1fr, h2]
    rfl
  · have := y19b y269 (c - 95).toNat (by omega)
    have e : (95 + ((c - 95).toNat : Int)) = c := by omega
    simp only [e] at this
    exact y1py 30 (y1by this)
end Go.Vm
namespace Go.Vm
abbrev yl4 (x : Int) : Prop := -2147483648 ≤ x ∧ x < 2147483648
abbrev y1j (x : Int) : Prop := -9223372036854775808 ≤ x ∧ x < 9223372036854775808
theorem y4c (n : Int) : y1j (IntKind.wrap .i64 n) := by
  simp [y1j, IntKind.wrap, IntKind.bits, IntKind.signed]; split <;> omega
theorem ypz {n : Int} (h : yl4 n) : y1j n := by unfold yl4 at h; unfold y1j; omega
theorem ylx {n : Int} (h : y1j n) : IntKind.wrap .i64 n = n := y16 h.1 h.2
theorem y1bf {n : Int} (h : yl4 n) : IntKind.wrap .i32 n = n := by
  unfold yl4 at h
  simp [IntKind.wrap, IntKind.bits, IntKind.signed]; split <;> omega
theorem y1xx {n : Int} (h : yl4 n) : n = IntKind.wrap .i64 (IntKind.wrap .i32 n) := by rw [y1bf h, ylx (ypz h)]
theorem y1kj : yl4 0 := by decide
theorem y1n7 {a m lo hi : Int} (hm : 1 ≤ m) (h0 : lo ≤ 0) (h1 : 0 < hi) (ha : lo ≤ a ∧ a < hi) : lo ≤ a.fdiv m ∧ a.fdiv m < hi := by
  rw [Int.fdiv_eq_ediv_of_nonneg _ (by omega)]
  by_cases hs : 0 ≤ a
  · have e1 := Int.ediv_nonneg hs (show 0 ≤ m by omega)
    have e2 := Int.ediv_le_self m hs
    omega
  · have e1 : a / m < 0 := Int.ediv_neg_of_neg_of_pos (by omega) (by omega)
    have e2 : a ≤ a / m := Int.le_ediv_of_mul_le (by omega) (by
      have := Int.mul_le_mul_of_nonpos_left (show a ≤ 0 by omega) hm
      omega)
    omega
theorem y1io {a b : Int} (ha : y1j a) : y1j (a.tmod b) := by
  unfold y1j at *
  have e : (a.tmod b).natAbs = a.natAbs % b.natAbs := Int.natAbs_tmod a b
  have h := Nat.mod_le a.natAbs b.natAbs
  by_cases hs : 0 ≤ a
  · have := Int.tmod_nonneg b hs
    omega
  · have : a.tmod b ≤ 0 := by
      have h1 := Int.tmod_nonneg b (show 0 ≤ -a by omega)
      rw [Int.neg_tmod] at h1
      omega
    omega
theorem y1sq {a b lo hi : Int} {k : IntKind} (hb : 0 ≤ b) (h0 : lo ≤ 0) (h1 : 0 < hi) (ha : lo ≤ a ∧ a < hi) : lo ≤ shI .shr k a b ∧ shI .shr k a b < hi := by
  have : ¬ b < 0 := by omega
  have e : shI .shr k a b = a.fdiv (2 ^ (min b.toNat k.bits)) := by simp [shI, y5y, this, nOf]
  rw [e]
  refine y1n7 ?_ h0 h1 ha
  have := Nat.one_le_two_pow (n := min b.toNat k.bits)
  have e2 : ((2 ^ min b.toNat k.bits : Nat) : Int) = (2 : Int) ^ min b.toNat k.bits := by simp
  omega
theorem y1qj (b : Int) : 0 ≤ bI .and .u64 b 63 := by
  simp [bI, y1z, nOf, IntKind.wrap, IntKind.signed, IntKind.bits]; omega
theorem y1nk {r : Bool} {a b : Int} (ha : y1j a) : y1j (divM r a b) := by
  unfold divM
  split
  · decide
  · split
    · split
      · decide
      · exact y4c _
    · split
      · exact y1io ha
      · exact y4c _
theorem y5k {op : BinOp} {a b : Int} (h : op = .add ∨ op = .sub ∨ op = .mul ∨ op = .and ∨ op = .or ∨ op = .xor) : y1j (bI op .i64 a b) := by
  rcases h with rfl | rfl | rfl | rfl | rfl | rfl <;> exact y4c _
theorem y17x {a b : Int} (hb : 0 ≤ b) : y1j (shI .shl .i64 a b) := by
  have : ¬ b < 0 := by omega
  simp only [shI, y5y, this, if_false, nOf]
  exact y4c _
theorem y1c1 (c : Int) {a b : Int} (ha : y1j a) : y1j (y9k c a b) := by
  unfold y9k
  split
  · exact y5k (.inl rfl)
  split
  · exact y5k (.inr (.inl rfl))
  split
  · exact y5k (.inr (.inr (.inl rfl)))
  split
  · exact y1nk ha
  split
  · exact y17x (y1qj _)
  split
  · exact y1sq (y1qj _) (by decide) (by decide) ha
  split
  · exact y4c _
  split
  · exact y5k (.inr (.inr (.inr (.inl rfl))))
  split
  · exact y5k (.inr (.inr (.inr (.inr (.inl rfl)))))
  split
  · exact y5k (.inr (.inr (.inr (.inr (.inr rfl)))))
  · exact ypz y1kj
theorem y1jo (c : Int) {a b : Int} (ha : y1j a) : y1j (twoM c a b) := by
  unfold twoM
  split
  · split
    · decide
    · split <;> decide
  split
  · exact y4c _
  · exact y1c1 c ha
end Go.Vm
namespace Go.Vm
section
variable {α : Type}
def aset (k : Int) (v : α) : List (Int × α) → List (Int × α)
  | [] => [(k, v)]
  | (k', v') :: r => if k = k' then (k, v) :: r else (k', v') :: aset k v r
def adel (k : Int) : List (Int × α) → List (Int × α)
  | [] => []
  | (k', v') :: r => if k = k' then r else (k', v') :: adel k r
def aget (k : Int) : List (Int × α) → Option α
  | [] => none
  | (k', v') :: r => if k = k' then some v' else aget k r
theorem y5e (k j : Int) (v : α) : ∀ l, aget j (aset k v l) = if j = k then some v else aget j l
  | [] => by simp only [aset, aget]
  | (k', v') :: r => by
    rw [aset]
    by_cases h : k = k'
    · subst h
      rw [if_pos rfl, aget, aget]
      by_cases h2 : j = k <;> simp [h2]
    · rw [if_neg h, aget, y5e k j v r, aget]
      by_cases h2 : j = k'
      · have : ¬ j = k := fun e => h (e.symm.trans h2)
        rw [if_pos h2, if_pos h2, if_neg this]
      · rw [if_neg h2, if_neg h2]
def anew : List (Int × α) → Prop
  | [] => True
  | (k, _) :: r => aget k r = none ∧ anew r
theorem yea (k : Int) (v : α) : ∀ l, anew l → anew (aset k v l)
  | [], _ => ⟨rfl, trivial⟩
  | (k', v') :: r, h => by
    rw [aset]
    by_cases e : k = k'
    · rw [if_pos e]; exact ⟨by rw [e]; exact h.1, h.2⟩
    · rw [if_neg e]
      refine ⟨?_, yea k v r h.2⟩
      rw [y5e, if_neg (fun h' => e h'.symm)]
      exact h.1
theorem yf9 (k j : Int) : ∀ (l : List (Int × α)), anew l → aget j (adel k l) = if j = k then none else aget j l
  | [], _ => by simp [adel, aget]
  | (k', v') :: r, h => by
    rw [adel]
    by_cases e : k = k'
    · subst e
      rw [if_pos rfl, aget]
      by_cases h2 : j = k
      · rw [if_pos h2, h2]; exact h.1
      · rw [if_neg h2, if_neg h2]
    · rw [if_neg e, aget, yf9 k j r h.2, aget]
      by_cases h2 : j = k'
      · have : ¬ j = k := fun e' => e (e'.symm.trans h2)
        rw [if_pos h2, if_pos h2, if_neg this]
      · rw [if_neg h2, if_neg h2]
theorem ydm (k : Int) : ∀ (l : List (Int × α)), anew l → anew (adel k l)
  | [], _ => trivial
  | (k', v') :: r, h => by
    rw [adel]
    by_cases e : k = k'
    · rw [if_pos e]; exact h.2
    · rw [if_neg e]
      refine ⟨?_, ydm k r h.2⟩
      rw [yf9 k k' r h.2]
      split
      · rfl
      · exact h.1
end
end Go.Vm
namespace Go.Vm
abbrev Ws := List (BitVec 64)
def bit (s : Ws) (r : Nat) : Bool := (s.getD (r / 64) 0).getLsbD (r % 64)
end Go.Vm
namespace Go.Vm
open Cel
attribute [local simp] y4 y2f yy
def okB (b : UInt8) : Bool := (decide (97 ≤ b.toNat) && decide (b.toNat ≤ 122)) || (decide (65 ≤ b.toNat) && decide (b.toNat ≤ 90)) || (decide (48 ≤ b.toNat) && decide (b.toNat ≤ 57)) || decide (b.toNat = 95) || decide (b.toNat = 36) || decide (b.toNat = 47)
def ydp (s : List UInt8) : Bool := decide (1 ≤ s.length) && decide (s.length ≤ 60) && s.all okB
theorem y0p (s : List UInt8) (i : Nat) (hi : i < s.length) (v18 : AV) :
    q7_4 (.bool false) (.ls 0 1 1 0 s.length) v18 (.int .i64 i) [⟨1, .arr false false 1 (s.map fun b => [.int .u8 b.toNat])⟩] =
      if okB s[i] then q7_3 (.bool false) (.ls 0 1 1 0 s.length) v18 (.int .i64 i) [⟨1, .arr false false 1 (s.map fun b => [.int .u8 b.toNat])⟩] else some ⟨.bool false, [], true, [], []⟩ := by
  have hc : ((i : Int) < (s.length : Int)) := by omega
  generalize hb : s[i].toNat = n
  have e : (s.map fun b => ([.int .u8 b.toNat] : List AV))[i]? = some [.int .u8 (n : Int)] := by
    rw [List.getElem?_map, List.getElem?_eq_getElem hi, ← hb]; rfl
  have ho : okB s[i] = ((decide (97 ≤ n) && decide (n ≤ 122)) || (decide (65 ≤ n) && decide (n ≤ 90)) || (decide (48 ≤ n) && decide (n ≤ 57)) || decide (n = 95) || decide (n = 36) || decide (n = 47)) := by
    rw [okB, hb]
  rw [ho]
  have c1 : ∀ k : Nat, ((k : Int) ≤ (n : Int)) = (k ≤ n) := fun k => by simp
  have f1 : ((97 : Int) ≤ (n : Int)) = (97 ≤ n) := c1 97
  have f2 : ((65 : Int) ≤ (n : Int)) = (65 ≤ n) := c1 65
  have f3 : ((48 : Int) ≤ (n : Int)) = (48 ≤ n) := c1 48
  have g1 : ((n : Int) ≤ (122 : Int)) = (n ≤ 122) := by simp; omega
  have g2 : ((n : Int) ≤ (90 : Int)) = (n ≤ 90) := by simp; omega
  have g3 : ((n : Int) ≤ (57 : Int)) = (n ≤ 57) := by simp; omega
  have d1 : ((n : Int) = (95 : Int)) = (n = 95) := by simp; omega
  have d2 : ((n : Int) = (36 : Int)) = (n = 36) := by simp; omega
  have d3 : ((n : Int) = (47 : Int)) = (n = 47) := by simp; omega
  have step : ∀ (b1 b2 b3 b4 b5 b6 b7 b8 b9 : Bool), decide (97 ≤ n) = b1 → decide (n ≤ 122) = b2 → decide (65 ≤ n) = b3 → decide (n ≤ 90) = b4 → decide (48 ≤ n) = b5 → decide (n ≤ 57) = b6 → decide (n = 95) = b7 → decide (n = 36) = b8 → decide (n = 47) = b9 →
      q7_4 (.bool false) (.ls 0 1 1 0 s.length) v18 (.int .i64 i) [⟨1, .arr false false 1 (s.map fun b => [.int .u8 b.toNat])⟩] =
      if (b1 && b2) || (b3 && b4) || (b5 && b6) || b7 || b8 || b9 then q7_3 (.bool false) (.ls 0 1 1 0 s.length) v18 (.int .i64 i) [⟨1, .arr false false 1 (s.map fun b => [.int .u8 b.toNat])⟩] else some ⟨.bool false, [], true, [], []⟩ := by
    intro b1 b2 b3 b4 b5 b6 b7 b8 b9 h1 h2 h3 h4 h5 h6 h7 h8 h9
    rw [q7_4]
    have e0 : yv 1 (.ls 0 1 1 0 s.length) (.int .i64 i) = some (.lp 0 1 i 0) := by simp [yv, hc, hi]
    have tri : ∀ a b : Bool, (a = false) ∨ (a = true ∧ b = false) ∨ (a = true ∧ b = true) := by intro a b; cases a <;> cases b <;> simp
    have l1 : y2 .geq (.int .u8 (n : Int)) (.int .u8 97) = some (.bool b1) := by rw [y3b]; simp only [f1, h1]
    have l2 : y2 .leq (.int .u8 (n : Int)) (.int .u8 122) = some (.bool b2) := by rw [ydc]; simp only [g1, h2]
    have l3 : y2 .geq (.int .u8 (n : Int)) (.int .u8 65) = some (.bool b3) := by rw [y3b]; simp only [f2, h3]
    have l4 : y2 .leq (.int .u8 (n : Int)) (.int .u8 90) = some (.bool b4) := by rw [ydc]; simp only [g2, h4]
    have l5 : y2 .geq (.int .u8 (n : Int)) (.int .u8 48) = some (.bool b5) := by rw [y3b]; simp only [f3, h5]
    have l6 : y2 .leq (.int .u8 (n : Int)) (.int .u8 57) = some (.bool b6) := by rw [ydc]; simp only [g3, h6]
    have l7 : y2 .eql (.int .u8 (n : Int)) (.int .u8 95) = some (.bool b7) := by rw [y9]; simp only [d1, h7]
    have l8 : y2 .eql (.int .u8 (n : Int)) (.int .u8 36) = some (.bool b8) := by rw [y9]; simp only [d2, h8]
    have l9 : y2 .eql (.int .u8 (n : Int)) (.int .u8 47) = some (.bool b9) := by rw [y9]; simp only [d3, h9]
    clear h1 h2 h3 h4 h5 h6 h7 h8 h9
    simp only [e0, y3, y2l, ycz, e, List.drop_zero, y7m, List.head?_cons, l1]
    generalize q7_3 (.bool false) (.ls 0 1 1 0 s.length) v18 (.int .i64 i) [⟨1, .arr false false 1 (s.map fun b => [.int .u8 b.toNat])⟩] = Z
    rcases tri b1 b2 with rfl | ⟨rfl, rfl⟩ | ⟨rfl, rfl⟩ <;> simp only [l2, yb9, yct, ylz, ycs, yjn, y3, y2i, y25, y49, yx, y15, l3, y4p] <;> try (simp; done)
    all_goals rcases tri b3 b4 with rfl | ⟨rfl, rfl⟩ | ⟨rfl, rfl⟩ <;> simp only [l4, yb9, yct, ylz, ycs, yjn, y3, y2i, y25, y49, yx, y15, l5, y4p] <;> try (simp; done)
    all_goals rcases tri b5 b6 with rfl | ⟨rfl, rfl⟩ | ⟨rfl, rfl⟩ <;> simp only [l6, yb9, yct, ylz, ycs, yjn, y3, y2i, y25, y49, yx, y15, l7, y4p] <;> try (simp; done)
    all_goals cases b7 <;> simp only [yb9, yct, ylz, ycs, yjn, y3, y2i, y25, y49, yx, y15, l8, y4p] <;> try (simp; done)
    all_goals cases b8 <;> simp only [yb9, yct, ylz, ycs, yjn, y3, y2i, y25, y49, yx, y15, l9, y4p] <;> try (simp; done)
    all_goals cases b9 <;> simp
  exact step _ _ _ _ _ _ _ _ _ rfl rfl rfl rfl rfl rfl rfl rfl rfl
end Go.Vm
namespace Go.Vm
open Cel
attribute [local simp] y4 y2f yy
theorem y18a (s : List UInt8) (hl : s.length ≤ 60) : ∀ (d i : Nat), i + d = s.length →
    y14o (.bool false) (.ls 0 1 1 0 s.length) (.int .i64 s.length) (.int .i64 i) [⟨1, .arr false false 1 (s.map fun b => [.int .u8 b.toNat])⟩] = some ⟨.bool ((s.drop i).all okB), [], true, [], []⟩ := by
  intro d
  induction d with
  | zero =>
    intro i hi
    have e1 : s.drop i = [] := List.drop_eq_nil_of_le (by omega)
    have hc : ¬ ((i : Int) < (s.length : Int)) := by omega
    rw [yth, e1]
    simp [q7_6, q7_5, q7_1, hc]
  | succ d ih =>
    intro i hi
    have hlt : i < s.length := by omega
    have hc : ((i : Int) < (s.length : Int)) := by omega
    have := ih (i + 1) (by omega)
    push_cast at this
    have e1 : (s.drop i).all okB = (okB s[i] && (s.drop (i + 1)).all okB) := by rw [List.drop_eq_getElem_cons hlt, List.all_cons]
    have hw : IntKind.wrap .i64 ((i : Int) + 1) = (i : Int) + 1 := y16 (by omega) (by omega)
    rw [yth, e1]
    simp only [q7_6, q7_5, yf, y3, hc, decide_true, yx, y0p s i hlt]
    cases okB s[i]
    · simp
    · simp [q7_3, hw, this]
@[simp] theorem y2au (s : List UInt8) : (y6 E).p 60 [.str s, .bool false] = some ⟨.bool (ydp s), [], true, [], []⟩ := by
  rw [x_q7]
  by_cases h1 : ((s.length : Int) < 1)
  · have : ¬ 1 ≤ s.length := by omega
    simp [q7_1, q7_3, q7_4, q7_5, q7_6, q7_8, y0o, y1gk, h1, ydp, this]
  by_cases h2 : ((60 : Int) < (s.length : Int))
  · have : ¬ s.length ≤ 60 := by omega
    simp [q7_1, q7_3, q7_4, q7_5, q7_6, q7_8, y0o, y1gk, h1, h2, ydp, this]
  · have a1 : 1 ≤ s.length := by omega
    have a2 : s.length ≤ 60 := by omega
    have := y18a s a2 s.length 0 (by omega)
    simp only [List.drop_zero] at this
    simp only [ydp, a1, a2, decide_true, Bool.true_and, ← this]
    simp [y1gk, y0o, q7_8, h1, h2, s2bC]
def lead : List UInt8 → Nat
  | [] => 0
  | c :: r => if c = 91 then lead r + 1 else 0
theorem yi8 : ∀ s : List UInt8, lead s ≤ s.length
  | [] => Nat.le_refl _
  | c :: r => by
    have := yi8 r
    simp only [lead, List.length_cons]
    split <;> omega
theorem y1a8 : ∀ {s : List UInt8} {i : Nat}, i < lead s → s[i]? = some 91
  | [], i, h => by simp [lead] at h
  | c :: r, i, h => by
    simp only [lead] at h
    split at h
    · rename_i e
      cases i with
      | zero => simp [e]
      | succ i => simpa using y1a8 (s := r) (by omega)
    · omega
theorem y198 : ∀ {s : List UInt8} {c : UInt8}, s[lead s]? = some c → c ≠ 91
  | [], c, h => by simp at h
  | d :: r, c, h => by
    simp only [lead] at h
    split at h
    · exact y198 (s := r) (by simpa using h)
    · rename_i e; simp at h; rw [← h]; exact e
def yy9 (s : List UInt8) : Nat :=
  if 8 < lead s ∨ lead s = s.length then 0
  else if s[lead s]? = some 73 ∨ s[lead s]? = some 74 then lead s + 1
  else if s[lead s]? = some 76 then
    (if (s.drop (lead s + 1)).findIdx (· == 59) < (s.drop (lead s + 1)).length ∧ ydp ((s.take (lead s + 1 + (s.drop (lead s + 1)).findIdx (· == 59))).drop (lead s + 1)) = true then lead s + 1 + (s.drop (lead s + 1)).findIdx (· == 59) + 1 else 0)
  else 0
theorem ixstr {s : List UInt8} {i : Nat} {c : UInt8} (h : s[i]? = some c) : y7l (.str s) (.int .i64 i) = some (.int .u8 c.toNat) := by
  simp [y7l, h]
theorem y5w (c : UInt8) (k : UInt8) : ((c.toNat : Int) = (k.toNat : Int)) ↔ c = k := by
  rw [Int.ofNat_inj]; exact ⟨fun h => UInt8.toNat_inj.1 h, fun h => by rw [h]⟩
theorem y15c (s : List UInt8) (hs : s.length ≤ 9223372036854775807) (h : Heap) : ∀ (d i : Nat), i + d = lead s → yls (.str s) (.int .i64 i) h = yg0 (.str s) (.int .i64 (lead s)) h := by
  intro d
  induction d with
  | zero =>
    intro i hi
    obtain rfl : i = lead s := by omega
    rw [ym0]
    have := yi8 s
    by_cases hc : lead s < s.length
    · have e := List.getElem?_eq_getElem hc
      have hne := y198 e
      have hc' : ((lead s : Int) < (s.length : Int)) := by omega
      have hb : ¬ ((s[lead s].toNat : Int) = 91) := fun hh => hne ((y5w _ 91).1 hh)
      simp [y1f9, hc', ixstr e, hb]
    · have hc' : ¬ ((lead s : Int) < (s.length : Int)) := by omega
      simp [y1f9, hc']
  | succ d ih =>
    intro i hi
    have e := y1a8 (s := s) (i := i) (by omega)
    have := yi8 s
    have hc' : ((i : Int) < (s.length : Int)) := by omega
    have ih := ih (i + 1) (by omega)
    push_cast at ih
    rw [ym0]
    simp [y1f9, hc', ixstr e, y1u2, y2b (show i < s.length by omega) hs, ih]
theorem y161 (s : List UInt8) (hs : s.length ≤ 9223372036854775807) (n : Nat) (h : Heap) : ∀ (d i : Nat), n + 1 ≤ i → i + d = s.length →
    y14z (.str s) (.int .i64 n) (.int .i64 i) h =
      some ⟨.int .i64 (if (s.drop i).findIdx (· == 59) < (s.drop i).length ∧ ydp ((s.take (i + (s.drop i).findIdx (· == 59))).drop (n + 1)) = true then (i + (s.drop i).findIdx (· == 59) + 1 : Nat) else (0 : Nat)), [], true, [], []⟩ := by
  intro d
  induction d with
  | zero =>
    intro i h1 hi
    rw [ywv]
    have e1 : s.drop i = [] := List.drop_eq_nil_of_le (by omega)
    have hc : ¬ ((i : Int) < (s.length : Int)) := by omega
    simp [yxu, q9_1, hc, e1]
  | succ d ih =>
    intro i h1 hi
    rw [ywv]
    have hlt : i < s.length := by omega
    have e := List.getElem?_eq_getElem hlt
    have hc : ((i : Int) < (s.length : Int)) := by omega
    have hd : s.drop i = s[i] :: s.drop (i + 1) := List.drop_eq_getElem_cons hlt
    by_cases hb : s[i] = 59
    · have hb' : ((s[i].toNat : Int) = 59) := (y5w _ 59).2 hb
      have hf : (s.drop i).findIdx (· == 59) = 0 := by rw [hd, List.findIdx_cons]; simp [hb]
      have hw1 : IntKind.wrap .i64 ((n : Int) + 1) = (n : Int) + 1 := y2b (show n < s.length by omega) hs
      have hsl : y153 (.str s) (some (.int .i64 ((n : Int) + 1))) (some (.int .i64 (i : Int))) = some (.str ((s.take i).drop (n + 1))) := by
        have a1 : ((0 : Int) ≤ (i : Int) ∧ (i : Int) ≤ (s.length : Int)) := by omega
        have a2 : ((0 : Int) ≤ (n : Int) + 1 ∧ (n : Int) + 1 ≤ (i : Int)) := by omega
        simp only [y153, yc6, ynn, if_pos a1, Int.toNat_natCast, if_pos a2]
        rfl
      rw [hf]
      have hlen : 0 < (s.drop i).length := by rw [List.length_drop]; omega
      cases hn : ydp ((s.take i).drop (n + 1)) with
      | true =>
        simp only [yxu, q9_7, q9_6, q9_5, yeb, y3, yf, hc, decide_true, yx, ixstr e, y9, hb', yn, hw1, hsl]
        simp [hn, hlt, y2b hlt hs]
        omega
      | false =>
        simp only [yxu, q9_7, q9_6, q9_5, yeb, y3, yf, hc, decide_true, yx, ixstr e, y9, hb', yn, hw1, hsl]
        simp [hn, q9_4]
    · have hb' : ¬ ((s[i].toNat : Int) = 59) := fun hh => hb ((y5w _ 59).1 hh)
      have hf : (s.drop i).findIdx (· == 59) = (s.drop (i + 1)).findIdx (· == 59) + 1 := by
        rw [hd, List.findIdx_cons]
        have : (s[i] == 59) = false := by simpa using hb
        rw [this]; rfl
      have hl : (s.drop i).length = (s.drop (i + 1)).length + 1 := by rw [hd]; rfl
      have ih := ih (i + 1) (by omega) (by omega)
      push_cast at ih
      rw [hf, hl]
      have e2 : i + ((s.drop (i + 1)).findIdx (· == 59) + 1) = i + 1 + (s.drop (i + 1)).findIdx (· == 59) := by omega
      rw [e2]
      simp only [yxu, q9_7, q9_6, q9_3, yeb, y3, yf, hc, decide_true, yx, y15, ixstr e, y9, hb', decide_false, yn, y2b hlt hs, ih]
      simp only [Nat.add_lt_add_iff_right]
      push_cast
      rfl
@[simp] theorem y248 (s : List UInt8) (hs : s.length ≤ 9223372036854775807) : (y6 E).p 44 [.str s] = some ⟨.int .i64 (yy9 s), [], true, [], []⟩ := by
  rw [x_q9]
  have h0 := y15c s hs [] (lead s) 0 (by omega)
  simp only [Int.ofNat_zero] at h0
  have hle := yi8 s
  have key : yg0 (.str s) (.int .i64 (lead s)) [] = some ⟨.int .i64 (yy9 s), [], true, [], []⟩ := by
    unfold yy9
    by_cases h8 : 8 < lead s
    · have h8' : ((8 : Int) < (lead s : Int)) := by omega
      simp [yg0, h8', h8]
    by_cases hl : lead s = s.length
    · have h8' : ¬ ((8 : Int) < (lead s : Int)) := by omega
      have hl' : ((lead s : Int) = (s.length : Int)) := by omega
      have h9' : ¬ ((8 : Int) < (s.length : Int)) := by omega
      simp [yg0, h8', h9', hl', hl]
    · have h8' : ¬ ((8 : Int) < (lead s : Int)) := by omega
      have hl' : ¬ ((lead s : Int) = (s.length : Int)) := by omega
      have hlt : lead s < s.length := by omega
      have e := List.getElem?_eq_getElem hlt
      rw [if_neg (by simp [h8, hl]), e]
      have hw := y2b hlt hs
      by_cases c1 : s[lead s] = 73
      · have c1' : ((s[lead s].toNat : Int) = 73) := (y5w _ 73).2 c1
        simp [yg0, yzb, yy0, ynt, h8', hl', ixstr e, c1', c1, hw]
      by_cases c2 : s[lead s] = 74
      · have c2' : ((s[lead s].toNat : Int) = 74) := (y5w _ 74).2 c2
        simp [yg0, yzb, yy0, ynt, h8', hl', ixstr e, c2', c2, hw]
      have c1' : ¬ ((s[lead s].toNat : Int) = 73) := fun hh => c1 ((y5w _ 73).1 hh)
      have c2' : ¬ ((s[lead s].toNat : Int) = 74) := fun hh => c2 ((y5w _ 74).1 hh)
      by_cases c3 : s[lead s] = 76
      · have c3' : ((s[lead s].toNat : Int) = 76) := (y5w _ 76).2 c3
        have := y161 s hs (lead s) [] _ (lead s + 1) (Nat.le_refl _) (show lead s + 1 + (s.length - (lead s + 1)) = s.length by omega)
        push_cast at this
        simp [yg0, yzb, yy0, ynt, y1l6, y1i1, y1v2, h8', hl', ixstr e, c1', c2', c3', c1, c2, c3, hw, this]
        split <;> simp
      · have c3' : ¬ ((s[lead s].toNat : Int) = 76) := fun hh => c3 ((y5w _ 76).1 hh)
        simp [yg0, yzb, yy0, ynt, y1l6, y1i1, q9_1, h8', hl', ixstr e, c1', c2', c3', c1, c2, c3]
  rw [← key, ← h0]
  simp [y1y6, y1z4]
def yhf (s : List UInt8) : Bool := decide (s ≠ []) && decide (yy9 s = s.length)
@[simp] theorem y20h (s : List UInt8) (hs : s.length ≤ 9223372036854775807) : (y6 E).p 37 [.str s] = some ⟨.bool (yhf s), [], true, [], []⟩ := by
  rw [x_q8]
  have h := y248 s hs
  by_cases h1 : s = []
  · simp [q8_1, h1, yhf]
  · have e : ((yy9 s : Int) = (s.length : Int)) ↔ yy9 s = s.length := by omega
    simp [q8_1, h1, yhf, h, e]
end Go.Vm
namespace Go.Vm
def yg (x : Ins) : Int × Int × Int × Int × Bool :=
  match x.op with
  | 1 => (0, -1, -1, -1, true)
  | 2 => (3, -1, -1, -1, true)
  | 3 => (3, -1, -1, -1, true)
  | 4 => (0, 0, -1, -1, true)
  | 5 => ((numK x.n).2.2, (numK x.n).1, (numK x.n).2.1, -1, decide (¬ (numK x.n).2.1 = 0))
  | 6 => ((numK x.n).2.2, (numK x.n).1, -1, -1, decide (¬ (numK x.n).1 = 0) && decide ((numK x.n).2.1 = 0))
  | 7 => (-1, 0, -1, -1, true)
  | 8 => (-1, 3, -1, -1, true)
  | 9 => (-1, 3, 1, -1, true)
  | 10 => (-1, 1, -1, -1, true)
  | 11 => (-1, 3, 3, -1, true)
  | 12 => (-1, 3, -1, -1, yhf x.s)
  | 13 => (0, 3, 1, -1, true)
  | 14 => (-1, 3, 1, 0, true)
  | 15 => (1, 3, -1, -1, true)
  | 16 => (0, 3, -1, -1, decide (0 ≤ x.n))
  | 17 => (-1, 3, 0, -1, decide (0 ≤ x.n))
  | 18 => (0, -1, -1, -1, true)
  | 19 => (-1, 0, -1, -1, true)
  | 20 => (3, -1, -1, -1, true)
  | 21 => (3, 1, -1, -1, yhf x.s)
  | 22 => (1, 3, -1, -1, yhf x.s)
  | 23 => (if x.d = -1 then -1 else 0, -1, -1, -1, decide (0 ≤ x.n) && decide ((lst x.args).length ≤ 21))
  | 24 => (if x.d = -1 then -1 else 0, -1, -1, -1, decide (0 < (lst x.args).length) && decide (0 ≤ x.n) && decide ((lst x.args).length ≤ 21))
  | 25 => (if x.d = -1 then -1 else 0, -1, -1, -1, decide (0 < (lst x.args).length) && decide ((lst x.args).length ≤ 21))
  | 26 => (if x.d = -1 then -1 else 0, -1, -1, -1, decide (0 ≤ x.n) && decide ((lst x.args).length ≤ 21))
  | 27 => (-1, -1, -1, -1, true)
  | 28 => (-1, 1, 1, -1, decide (0 ≤ x.n) && decide (x.n ≤ 5))
  | 29 => (-1, 3, if x.b = -1 then -1 else 3, -1, decide (x.n = 0) || decide (x.n = 1))
  | 30 => (-1, if x.a = -1 then -1 else 0, -1, -1, true)
  | 31 => (-1, 3, -1, -1, true)
  | 32 => (3, -1, -1, -1, true)
  | 33 => (-1, -1, -1, -1, true)
  | _ => (0, 0, 0, 0, false)
def exK (k : Int × Int × Int × Int × Bool) : Ex AV := ⟨.tup [.agg [.int .i64 k.1, .int .i64 k.2.1, .int .i64 k.2.2.1, .int .i64 k.2.2.2.1], .bool k.2.2.2.2], [], true, [], []⟩
theorem yy8 {x : Ins} (h : x.op < 1 ∨ 33 < x.op) : yg x = (0, 0, 0, 0, false) := by
  unfold yg
  split <;> first | rfl | omega
end Go.Vm
namespace Go.Vm
def regK (R : List Int) (r : Int) : Int := if r < 0 then 0 else R.getD r.toNat 0
def inR (R : List Int) (r : Int) : Bool := decide (0 ≤ r) && decide (r < R.length)
def y1y (R : List Int) (w r : Int) : Bool := decide (w < 0) || (inR R r && (decide (w ≤ 0) || decide (regK R r = w)))
def yo3 (R : List Int) (x : Ins) : Bool :=
  match lst x.args with
  | [] => true
  | r :: _ => !(decide (x.op = 24) || decide (x.op = 25)) || decide (regK R r = 3)
def ydv (R : List Int) (x : Ins) : Bool := !calls x.op || (yo3 R x && (lst x.args).all (inR R))
def y38 (R : List Int) (ret : Int) (n : Nat) (x : Ins) : Bool :=
  if x.op = 1 then decide (¬ regK R x.d = 3) && (decide (regK R x.d = 2) || decide (x.n = IntKind.wrap .i64 (IntKind.wrap .i32 x.n)))
  else if x.op = 4 then decide (regK R x.d = regK R x.a)
  else if x.op = 7 then decide (¬ regK R x.a = 3)
  else if x.op = 30 then (decide (x.a = -1) == decide (ret = 0)) && (decide (x.a = -1) || decide (regK R x.a = ret))
  else !leads x.op || (decide (0 ≤ x.t) && decide (x.t < n))
def y20 (f : Fn) (x : Ins) : Bool :=
  (yg x).2.2.2.2 && y1y (lst f.regs) (yg x).1 x.d && y1y (lst f.regs) (yg x).2.1 x.a && y1y (lst f.regs) (yg x).2.2.1 x.b && y1y (lst f.regs) (yg x).2.2.2.1 x.c &&
    ydv (lst f.regs) x && y38 (lst f.regs) f.ret (lst f.code).length x
theorem y1yu {R : List Int} {r : Int} (h : inR R r = true) : 0 ≤ r ∧ r.toNat < R.length ∧ R[r.toNat]? = some (regK R r) := by
  simp only [inR, Bool.and_eq_true, decide_eq_true_eq] at h
  have h1 : r.toNat < R.length := by omega
  refine ⟨h.1, h1, ?_⟩
  rw [regK, if_neg (by omega), List.getD_eq_getElem?_getD, List.getElem?_eq_getElem h1]; rfl
def y47 (C : List Ins) (i : Nat) (x : Ins) : Bool :=
  !((decide (x.op = 32) && (decide (i = 0) || !ends ((C.getD (i - 1) default).op))) || (leads x.op && decide ((C.getD x.t.toNat default).op = 32)))
def y3o (f : Fn) (C : List Ins) : Nat → List Ins → Bool
  | _, [] => true
  | i, x :: r => y20 f x && y47 C i x && y3o f C (i + 1) r
def y7f (C : List Ins) (r : Row) : Bool :=
  !(decide (r.f < 0) || decide (r.t ≤ r.f) || decide ((C.length : Int) < r.t) || decide (r.at_ < 0) || decide ((C.length : Int) ≤ r.at_) || decide (¬ (C.getD r.at_.toNat default).op = 32))
def yei (R : List Int) : Nat → List Int → List Int → Bool
  | _, _, [] => true
  | i, seen, p :: r => (inR R p && !seen.contains p && decide (i ≤ 20)) && yei R (i + 1) (seen ++ [p]) r
def wf (f : Fn) : Bool :=
  decide (1 ≤ (lst f.code).length) && decide ((lst f.code).length ≤ 20000) && decide ((lst f.regs).length ≤ 20000) && decide (0 ≤ f.ret) && decide (f.ret ≤ 3) && ends ((lst f.code).getD ((lst f.code).length - 1) default).op &&
    (lst f.regs).all (fun k => decide (1 ≤ k) && decide (k ≤ 3)) && yei (lst f.regs) 0 [] (lst f.params) && y3o f (lst f.code) 0 (lst f.code) && (lst f.rows).all (y7f (lst f.code))
end Go.Vm
namespace Go.Vm
theorem yf0 {f : Fn} {C : List Ins} : ∀ {l : List Ins} {i k : Nat} {x : Ins}, y3o f C i l = true → l[k]? = some x → y20 f x = true ∧ y47 C (i + k) x = true
  | [], _, _, _, _, h => by simp at h
  | y :: l, i, k, x, hk, h => by
    simp only [y3o, Bool.and_eq_true] at hk
    cases k with
    | zero => simp at h; subst h; exact hk.1
    | succ k =>
      have := yf0 hk.2 (by simpa using h)
      rwa [show i + 1 + k = i + (k + 1) by omega] at this
structure Wf (f : Fn) : Prop where
  n1 : 1 ≤ (lst f.code).length
  n2 : (lst f.code).length ≤ 20000
  regs : (lst f.regs).length ≤ 20000
  ret0 : 0 ≤ f.ret
  ret3 : f.ret ≤ 3
  last : ends (y1a f ((lst f.code).length - 1)).op = true
  kinds : ∀ k ∈ lst f.regs, 1 ≤ k ∧ k ≤ 3
  pars : yei (lst f.regs) 0 [] (lst f.params) = true
  ins : ∀ i, i < (lst f.code).length → y20 f (y1a f i) = true
  spot : ∀ i, i < (lst f.code).length → y47 (lst f.code) i (y1a f i) = true
  rows : ∀ r ∈ lst f.rows, y7f (lst f.code) r = true
theorem y23b {f : Fn} (h : wf f = true) : Wf f := by
  simp only [wf, Bool.and_eq_true, decide_eq_true_eq, List.all_eq_true] at h
  obtain ⟨⟨⟨⟨⟨⟨⟨⟨⟨h1, h2⟩, h3⟩, h4⟩, h5⟩, h6⟩, h7⟩, h8⟩, h9⟩, h10⟩ := h
  refine ⟨h1, h2, h3, h4, h5, h6, h7, h8, fun i hi => ?_, fun i hi => ?_, h10⟩
  · exact (yf0 h9 (yd5 hi)).1
  · have := (yf0 h9 (yd5 hi)).2
    rwa [Nat.zero_add] at this
theorem ync {R : List Int} {ret : Int} {n : Nat} {x : Ins} (h : y38 R ret n x = true) (hl : leads x.op = true) : 0 ≤ x.t ∧ x.t < n := by
  have hne : ¬ x.op = 1 ∧ ¬ x.op = 4 ∧ ¬ x.op = 7 ∧ ¬ x.op = 30 := by
    simp only [leads, Bool.or_eq_true, decide_eq_true_eq] at hl
    omega
  simp only [y38, hne, if_false, hl, Bool.not_true, Bool.false_or, Bool.and_eq_true, decide_eq_true_eq] at h
  exact h
theorem Wf.leads {f : Fn} (w : Wf f) {i : Nat} (hi : i < (lst f.code).length) (hl : Go.Vm.leads (y1a f i).op = true) : 0 ≤ (y1a f i).t ∧ (y1a f i).t < (lst f.code).length := by
  have h := w.ins i hi
  simp only [y20, Bool.and_eq_true] at h
  exact ync h.2 hl
structure RowIn (f : Fn) (r : Row) : Prop where
  f0 : 0 ≤ r.f
  ft : r.f < r.t
  tn : r.t ≤ (lst f.code).length
  a0 : 0 ≤ r.at_
  an : r.at_ < (lst f.code).length
  op : (y1a f r.at_.toNat).op = 32
theorem Wf.row {f : Fn} (w : Wf f) {r : Row} (hr : r ∈ lst f.rows) : RowIn f r := by
  have h := w.rows r hr
  simp only [y7f, Bool.not_eq_true', Bool.or_eq_false_iff, decide_eq_false_iff_not, Classical.not_not] at h
  exact ⟨by omega, by omega, by omega, by omega, by omega, h.2⟩
end Go.Vm
namespace Go.Vm
def y1ae (f : Fn) (i : Nat) : List Int := lst (uses (y1a f i))
def yyg (f : Fn) (r : Int) (i : Nat) : List Int := ybk f i ++ if defr (y1a f i) = r then [] else yyf f i
def badR (f : Fn) (r : Int) : Prop := ∃ i, Rch (lst f.code).length (yyg f r) [0] i ∧ r ∈ y1ae f i
def setP (f : Fn) : Prop := ∀ r : Int, 0 ≤ r → r < (lst f.regs).length → r ∉ lst f.params → ¬ badR f r
open Classical in
noncomputable def setM (f : Fn) : Bool := wf f && decide (setP f)
abbrev Tab := List (Option (List Bool))
def wt (R : Nat) : Option (List Bool) → Nat
  | none => R + 1
  | some s => s.countP id
def pot (R : Nat) (ins : Tab) : Nat := (ins.map (wt R)).sum
def LeB (t s : List Bool) : Prop := ∀ r : Nat, t[r]? = some true → s[r]? = some true
theorem LeB.refl (t : List Bool) : LeB t t := fun _ h => h
theorem LeB.trans {a b c : List Bool} (h : LeB a b) (h' : LeB b c) : LeB a c := fun r h1 => h' r (h r h1)
def LeT (a b : Tab) : Prop := ∀ (i : Nat) s, a[i]? = some (some s) → ∃ t, b[i]? = some (some t) ∧ LeB t s
theorem LeT.refl (a : Tab) : LeT a a := fun _ s h => ⟨s, h, .refl _⟩
theorem LeT.trans {a b c : Tab} (h : LeT a b) (h' : LeT b c) : LeT a c := fun i s hs => by
  obtain ⟨t, h1, h2⟩ := h i s hs
  obtain ⟨u, h3, h4⟩ := h' i t h1
  exact ⟨u, h3, h4.trans h2⟩
def LeAt (ins : Tab) (to : Int) (s : List Bool) : Prop := ∃ t, ins[to.toNat]? = some (some t) ∧ LeB t s
theorem LeAt.mono {a b : Tab} (h : LeT a b) {to : Int} {s : List Bool} (hs : LeAt a to s) : LeAt b to s := by
  obtain ⟨t, h1, h2⟩ := hs
  obtain ⟨u, h3, h4⟩ := h _ _ h1
  exact ⟨u, h3, h4.trans h2⟩
section
variable {n R : Nat}
structure TblOk (n R : Nat) (ins : Tab) : Prop where
  len : ins.length = n
  rows : ∀ (i : Nat) s, ins[i]? = some (some s) → s.length = R
structure MeetR (n R : Nat) (s : List Bool) (T : Int → Prop) (p q : Tab × List Int) : Prop where
  ok : TblOk n R q.1
  le : LeT p.1 q.1
  work : ∀ (i : Nat) t, q.1[i]? = some (some t) → p.1[i]? = some (some t) ∨ (i : Int) ∈ q.2
  keep : ∀ j, j ∈ p.2 → j ∈ q.2
  fresh : ∀ j, j ∈ q.2 → j ∈ p.2 ∨ (0 ≤ j ∧ j < n ∧ ∃ t, q.1[j.toNat]? = some (some t))
  src : ∀ (i r : Nat) t, q.1[i]? = some (some t) → t[r]? = some false → (∃ u, p.1[i]? = some (some u) ∧ u[r]? = some false) ∨ (s[r]? = some false ∧ T i)
  pot : 2 * pot R q.1 + q.2.length ≤ 2 * Go.Vm.pot R p.1 + p.2.length
theorem MeetR.refl {s : List Bool} {T : Int → Prop} {p : Tab × List Int} (h : TblOk n R p.1) : MeetR n R s T p p :=
  ⟨h, .refl _, fun _ _ h => .inl h, fun _ h => h, fun _ h => .inl h, fun _ _ _ h1 h2 => .inl ⟨_, h1, h2⟩, Nat.le_refl _⟩
theorem MeetR.trans {s : List Bool} {T : Int → Prop} {p q u : Tab × List Int} (h : MeetR n R s T p q) (h' : MeetR n R s T q u) : MeetR n R s T p u := by
  refine ⟨h'.ok, h.le.trans h'.le, fun i t ht => ?_, fun j hj => h'.keep j (h.keep j hj), fun j hj => ?_, fun i r t ht hr => ?_, Nat.le_trans h'.pot h.pot⟩
  · rcases h'.work i t ht with h1 | h1
    · rcases h.work i t h1 with h2 | h2
      · exact .inl h2
      · exact .inr (h'.keep _ h2)
    · exact .inr h1
  · rcases h'.fresh j hj with h1 | h1
    · rcases h.fresh j h1 with h2 | ⟨a, b, t, ht⟩
      · exact .inl h2
      · obtain ⟨v, hv, _⟩ := h'.le _ _ ht
        exact .inr ⟨a, b, v, hv⟩
    · exact .inr h1
  · rcases h'.src i r t ht hr with ⟨v, h1, h2⟩ | h1
    · exact h.src i r v h1 h2
    · exact .inr h1
theorem MeetR.mono {s : List Bool} {T T' : Int → Prop} {p q : Tab × List Int} (h : MeetR n R s T p q) (hT : ∀ j, T j → T' j) : MeetR n R s T' p q :=
  ⟨h.ok, h.le, h.work, h.keep, h.fresh, fun i r t h1 h2 => (h.src i r t h1 h2).imp id fun x => ⟨x.1, hT _ x.2⟩, h.pot⟩
end
end Go.Vm
namespace Go.Vm
theorem y88 {R : List Int} {k r : Int} (h : y1y R k r = true) (hk : 0 ≤ k) : 0 ≤ r ∧ r < R.length := by
  simp only [y1y, Bool.or_eq_true, decide_eq_true_eq, Bool.and_eq_true, inR] at h
  omega
theorem yo1 (n : Int) : 0 ≤ (numK n).1 ∧ 0 ≤ (numK n).2.1 ∧ 0 ≤ (numK n).2.2 := by
  unfold numK
  repeat' split
  all_goals decide
set_option maxHeartbeats 4000000 in
theorem yyo {f : Fn} {x : Ins} (h : y20 f x = true) {u : Int} (hu : u ∈ lst (uses x)) : 0 ≤ u ∧ u < (lst f.regs).length := by
  simp only [y20, Bool.and_eq_true] at h
  obtain ⟨⟨⟨⟨⟨⟨h0, h1⟩, h2⟩, h3⟩, h4⟩, h5⟩, h6⟩ := h
  by_cases hc : calls x.op = true
  · have hu' : u ∈ lst x.args := by simpa [uses, hc] using hu
    simp only [ydv, hc, Bool.not_true, Bool.false_or, Bool.and_eq_true, List.all_eq_true] at h5
    have := h5.2 u hu'
    simpa [inR] using this
  · have key : (u = x.a ∧ 0 ≤ (yg x).2.1) ∨ (u = x.b ∧ 0 ≤ (yg x).2.2.1) ∨ (u = x.c ∧ 0 ≤ (yg x).2.2.2.1) ∨ False := by
      rcases yjj x.op with h|h|h|h|h|h|h|h|h|h|h|h|h|h|h|h|h|h|h|h|h|h|h|h|h|h|h|h|h|h|h|h|h|h|h
      all_goals first
        | (exfalso; simp [uses, reads, calls, h] at hu; done)
        | (exfalso; simp [calls, h] at hc; done)
        | (simp [uses, reads, calls, h] at hu; simp [yg, h] at h0 ⊢; first | omega | (rcases hu with rfl | rfl <;> simp [yo1]) | (rcases hu with rfl | rfl | rfl <;> simp) | (subst hu; simp [yo1]))
        | (simp [uses, reads, calls, h] at hu; simp [yg, h]; split at hu <;> simp_all; done)
        | (exfalso; simp [uses, reads, calls, lo_f h] at hu; done)
        | (exfalso; simp [uses, reads, calls, hi_f h] at hu; done)
        | skip
      · by_cases hb : x.b < 0
        · simp [uses, calls, h, hb] at hu
          exact .inl ⟨hu, by simp [yg, h]⟩
        · simp [uses, calls, h, hb] at hu
          rcases hu with hu | hu
          · exact .inl ⟨hu, by simp [yg, h]⟩
          · have : ¬ x.b = -1 := by omega
            exact .inr (.inl ⟨hu, by simp [yg, h, this]⟩)
      · by_cases ha : 0 ≤ x.a
        · simp [uses, calls, h, ha] at hu
          have : ¬ x.a = -1 := by omega
          exact .inl ⟨hu, by simp [yg, h, this]⟩
        · simp [uses, calls, h, ha] at hu
    rcases key with ⟨rfl, hk⟩ | ⟨rfl, hk⟩ | ⟨rfl, hk⟩ | hk
    · exact y88 h2 hk
    · exact y88 h3 hk
    · exact y88 h4 hk
    · exact hk.elim
set_option maxHeartbeats 4000000 in
theorem y17w {f : Fn} {x : Ins} (h : y20 f x = true) (hd : ¬ defr x = -1) : 0 ≤ defr x ∧ defr x < (lst f.regs).length := by
  simp only [y20, Bool.and_eq_true] at h
  obtain ⟨⟨⟨⟨⟨⟨h0, h1⟩, h2⟩, h3⟩, h4⟩, h5⟩, h6⟩ := h
  have key : defr x = x.d ∧ 0 ≤ (yg x).1 := by
    unfold defr at hd ⊢
    split at hd
    · rename_i hw
      rw [if_pos hw]
      refine ⟨rfl, ?_⟩
      rcases yjj x.op with h|h|h|h|h|h|h|h|h|h|h|h|h|h|h|h|h|h|h|h|h|h|h|h|h|h|h|h|h|h|h|h|h|h|h
      all_goals first
        | (exfalso; simp [writes, calls, h] at hw; done)
        | (simp [yg, h, yo1, hd]; done)
        | (exfalso; simp [writes, calls, lo_f h] at hw; done)
        | (exfalso; simp [writes, calls, hi_f h] at hw; done)
    · exact (hd rfl).elim
  rw [key.1]
  exact y88 h1 key.2
theorem Wf.uses {f : Fn} (w : Wf f) {i : Nat} (hi : i < (lst f.code).length) {u : Int} (hu : u ∈ lst (Go.Vm.uses (y1a f i))) : 0 ≤ u ∧ u < (lst f.regs).length := yyo (w.ins i hi) hu
theorem Wf.def {f : Fn} (w : Wf f) {i : Nat} (hi : i < (lst f.code).length) (hd : 0 ≤ defr (y1a f i)) : defr (y1a f i) < (lst f.regs).length := (y17w (w.ins i hi) (by omega)).2
theorem yiy {l : List Int} {j a : Int} (h : j ∈ addN l a) : j ∈ l ∨ j = a := by
  unfold addN at h
  split at h
  · exact .inl h
  · rw [List.mem_append, List.mem_singleton] at h; exact h
theorem Wf.next {f : Fn} (w : Wf f) {i : Nat} (hi : i < (lst f.code).length) {to : Int} (h : to ∈ yyf f i) : 0 ≤ to ∧ to < (lst f.code).length := by
  rw [yyf, if_neg (by omega), show ((i : Int)).toNat = i by omega] at h
  have hself : ∀ {j : Int}, j ∈ (if ends (y1a f i).op = true then [] else [(i : Int) + 1]) → 0 ≤ j ∧ j < (lst f.code).length := by
    intro j hj
    split at hj
    · cases hj
    · rename_i he
      rw [List.mem_singleton] at hj
      subst hj
      refine ⟨by omega, ?_⟩
      by_cases e : i = (lst f.code).length - 1
      · subst e; exact (he w.last).elim
      · omega
  unfold y1n2 at h
  split at h
  · rename_i hl
    rcases yiy h with h | h
    · exact hself h
    · rw [h]; exact w.leads hi hl
  · exact hself h
theorem ybr {i to : Int} : ∀ {rs : List Row} {l : List Int}, to ∈ ydd i rs l → to ∈ l ∨ ∃ r ∈ rs, r.at_ = to
  | [], l, h => .inl h
  | r :: rs, l, h => by
    unfold ydd at h
    split at h
    · split at h
      · rcases yiy h with h | h
        · exact .inl h
        · exact .inr ⟨r, by simp, h.symm⟩
      · rcases ybr h with h | ⟨r', h1, h2⟩
        · rcases yiy h with h | h
          · exact .inl h
          · exact .inr ⟨r, by simp, h.symm⟩
        · exact .inr ⟨r', by simp [h1], h2⟩
    · rcases ybr h with h | ⟨r', h1, h2⟩
      · exact .inl h
      · exact .inr ⟨r', by simp [h1], h2⟩
theorem Wf.caught {f : Fn} (w : Wf f) {i to : Int} (h : to ∈ ybk f i) : 0 ≤ to ∧ to < (lst f.code).length := by
  rw [ybk] at h
  split at h
  · cases h
  · split at h
    · rcases ybr h with h | ⟨r, h1, h2⟩
      · cases h
      · have := w.row h1
        rw [← h2]; exact ⟨this.a0, this.an⟩
    · cases h
end Go.Vm
namespace Go.Vm
def yxf (f : Fn) (A : List Int) (r : Nat) : Prop := ∃ i, Rch (lst f.code).length (yyg f r) A i ∧ (r : Int) ∈ y1ae f i
theorem Rch.one {n : Nat} {S : Nat → List Int} {i k : Nat} : Rch n S [(i : Int)] k ↔ (k = i ∧ i < n) ∨ (i < n ∧ Rch n S (S i) k) := by
  constructor
  · intro h
    induction h with
    | base hj j0 j1 =>
      rw [List.mem_singleton] at hj
      subst hj
      exact .inl ⟨by omega, by omega⟩
    | step h hj j0 j1 ih =>
      rcases ih with ⟨e, hi⟩ | ⟨hi, h'⟩
      · subst e
        exact .inr ⟨hi, .base hj j0 j1⟩
      · exact .inr ⟨hi, .step h' hj j0 j1⟩
  · rintro (⟨e, hi⟩ | ⟨hi, h⟩)
    · subst e
      have := Rch.base (n := n) (S := S) (A := [(k : Int)]) (j := (k : Int)) (by simp) (by omega) (by omega)
      simpa using this
    · have hb : Rch n S [(i : Int)] i := by
        have := Rch.base (n := n) (S := S) (A := [(i : Int)]) (j := (i : Int)) (by simp) (by omega) (by omega)
        simpa using this
      induction h with
      | base hj j0 j1 => exact .step hb hj j0 j1
      | step h hj j0 j1 ih => exact .step ih hj j0 j1
theorem Rch.some_ {n : Nat} {S : Nat → List Int} {A : List Int} {k : Nat} : Rch n S A k ↔ ∃ a ∈ A, 0 ≤ a ∧ a < n ∧ Rch n S [a] k := by
  constructor
  · intro h
    induction h with
    | base hj j0 j1 => exact ⟨_, hj, j0, j1, .base (by simp) j0 j1⟩
    | step h hj j0 j1 ih =>
      obtain ⟨a, ha, a0, a1, h'⟩ := ih
      exact ⟨a, ha, a0, a1, .step h' hj j0 j1⟩
  · rintro ⟨a, ha, a0, a1, h⟩
    induction h with
    | base hj j0 j1 =>
      rw [List.mem_singleton] at hj
      subst hj
      exact .base ha j0 j1
    | step h hj j0 j1 ih => exact .step ih hj j0 j1
section
variable (f : Fn)
theorem y17b {A : List Int} {r : Nat} : yxf f A r ↔ ∃ a ∈ A, 0 ≤ a ∧ a < (lst f.code).length ∧ yxf f [a] r := by
  unfold yxf
  constructor
  · rintro ⟨i, h, hu⟩
    obtain ⟨a, ha, a0, a1, h'⟩ := Rch.some_.1 h
    exact ⟨a, ha, a0, a1, i, h', hu⟩
  · rintro ⟨a, ha, a0, a1, i, h', hu⟩
    exact ⟨i, Rch.some_.2 ⟨a, ha, a0, a1, h'⟩, hu⟩
structure Tb where
  b : List Ws
  a : List Ws
  h : List Ws
def rowW (l : List Ws) (i : Nat) : Ws := l.getD i []
structure TbOk (n W : Nat) (t : Tb) : Prop where
  b : t.b.length = n
  a : t.a.length = n
  h : t.h.length = n
  bw : ∀ i, i < n → (rowW t.b i).length = W
  aw : ∀ i, i < n → (rowW t.a i).length = W
  hw : ∀ i, i < n → (rowW t.h i).length = W
variable {W n : Nat} {l : List Ws}
end
end Go.Vm
namespace Go.Vm
end Go.Vm
