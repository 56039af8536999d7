/- Which places follow a place, in plain words. -/
import Derived.Test.YthemfgeagohdhaaLInsM
import Derived.Test.YthemfgeagohdhaaLSlot
import Derived.Test.YthemfgeagohdhaaLGrM
namespace Go.Vm

def addN (l : List Int) (j : Int) : List Int := if l.contains j then l else l ++ [j]
def insAt (f : Fn) (i : Nat) : Ins := (lst f.code).getD i default
def nextI (x : Ins) (i : Int) : List Int := if leads x.op then addN (if ends x.op then [] else [i + 1]) x.t else if ends x.op then [] else [i + 1]
def nextL (f : Fn) (i : Int) : List Int := if i < 0 ∨ ((lst f.code).length : Int) ≤ i then [] else nextI (insAt f i.toNat) i
def caughtG (i : Int) : List Row → List Int → List Int
  | [], l => l
  | r :: rs, l => if r.f ≤ i ∧ i < r.t then (if r.c = [] then addN l r.at_ else caughtG i rs (addN l r.at_)) else caughtG i rs l
def caughtL (f : Fn) (i : Int) : List Int := if i < 0 ∨ ((lst f.code).length : Int) ≤ i then [] else if throws (insAt f i.toNat).op then caughtG i (lst f.rows) [] else []
/-- All places that follow. -/
def succL (f : Fn) (i : Nat) : List Int := nextL f i ++ caughtL f i

theorem addN_len (l : List Int) (j : Int) : (addN l j).length ≤ l.length + 1 := by
  unfold addN
  split <;> simp
theorem nextI_len (x : Ins) (i : Int) : (nextI x i).length ≤ 2 := by
  unfold nextI
  split
  · have := addN_len (if ends x.op then [] else [i + 1]) x.t
    split at this <;> simp_all <;> omega
  · split <;> simp
theorem nextL_len (f : Fn) (i : Int) : (nextL f i).length ≤ 2 := by
  unfold nextL
  split
  · simp
  · exact nextI_len _ _
theorem caughtG_len (i : Int) : ∀ (rs : List Row) (l : List Int), (caughtG i rs l).length ≤ l.length + rs.length
  | [], l => by simp [caughtG]
  | r :: rs, l => by
    have h1 := addN_len l r.at_
    have h2 := caughtG_len i rs (addN l r.at_)
    have h3 := caughtG_len i rs l
    unfold caughtG
    simp only [List.length_cons]
    split
    · split <;> omega
    · omega
theorem caughtL_len (f : Fn) (i : Int) : (caughtL f i).length ≤ (lst f.rows).length := by
  unfold caughtL
  split
  · simp
  · split
    · have := caughtG_len i (lst f.rows) []
      simpa using this
    · simp
theorem succL_len (f : Fn) (i : Nat) : (succL f i).length ≤ (lst f.rows).length + 2 := by
  have h1 := nextL_len f i
  have h2 := caughtL_len f i
  unfold succL
  rw [List.length_append]
  omega
theorem insAt_lt {f : Fn} {i : Nat} (h : i < (lst f.code).length) : (lst f.code)[i]? = some (insAt f i) := by
  rw [insAt, List.getD_eq_getElem?_getD, List.getElem?_eq_getElem h]; rfl

open Classical in
/-- Which places can be reached from the beginning. -/
noncomputable def reachL (f : Fn) : List Bool := (List.range (lst f.code).length).map fun i => decide (Rch (lst f.code).length (succL f) [0] i)
theorem reachL_len (f : Fn) : (reachL f).length = (lst f.code).length := by simp [reachL]
theorem reachL_get (f : Fn) (i : Nat) : (reachL f)[i]? = some true ↔ Rch (lst f.code).length (succL f) [0] i := by
  unfold reachL
  by_cases h : i < (lst f.code).length
  · simp [h]
  · have : ¬ Rch (lst f.code).length (succL f) [0] i := fun hr => h hr.lt
    simp [h, this]
theorem reachL_of {f : Fn} {r : List Bool} (hl : r.length = (lst f.code).length) (h : ∀ i : Nat, r[i]? = some true ↔ Rch (lst f.code).length (succL f) [0] i) : r = reachL f :=
  bools_ext (by rw [hl, reachL_len]) fun i => (h i).trans (reachL_get f i).symm

/-- Does a block begin at a place? -/
def isHead (f : Fn) (i : Nat) : Bool :=
  decide (i = 0) || (leads (insAt f (i - 1)).op || ends (insAt f (i - 1)).op) || (lst f.code).any (fun x => leads x.op && decide (x.t = i)) || (lst f.rows).any (fun r => decide (r.f = i) || decide (r.t = i) || decide (r.at_ = i))
theorem isHead_0 {f : Fn} {i : Nat} (h : i = 0) : isHead f i = true := by subst h; simp [isHead]
def headsG (f : Fn) : Nat → List Int
  | 0 => []
  | k + 1 => headsG f k ++ (if isHead f k then [(k : Int)] else [])
def headsL (f : Fn) : List Int := headsG f (lst f.code).length
theorem headsG_len (f : Fn) : ∀ k, (headsG f k).length ≤ k
  | 0 => Nat.le_refl _
  | k + 1 => by
    have := headsG_len f k
    rw [headsG, List.length_append]
    split <;> simp <;> omega
end Go.Vm
