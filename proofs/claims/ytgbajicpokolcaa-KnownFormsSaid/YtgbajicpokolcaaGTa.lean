/- Facts for reading the machine's functions: combinators at known values; lists of things of one kind as slices. The things that the layers speak of: instructions, rows, functions. What is handed in, as things. What is told of instructions, in plain words. The pass 'carry', in plain words: which register is a copy of which. What the facts of the pass 'carry' say behind an instruction, where ways meet. What is told of types' descriptors. Names, the type at a text's beginning, types. What the stack's instructions over numbers take and give. What an instruction wants of its registers, in plain words. When an instruction, a function is well formed, in plain words. Lists that a function builds by appending, at a place of its own. Places that can be reached: a search with a stack, a search in rounds, a search that stops where something is found. Plain Lean; nothing here speaks of a program. Which places follow a place, in plain words. -/
import Derived.Test.YtgbajicpokolcaaVc
import Derived.Test.YtgbajicpokolcaaGX
set_option linter.unusedSimpArgs false
set_option linter.unusedVariables false
set_option linter.unusedSectionVars false
namespace Go.Vm
section comb
variable {α : Type}
@[simp] theorem y7 (v : AV) (K : AV → Option α) : ob (some v) K = K v := rfl
@[simp] theorem ye (v : AV) (h : Heap) (K : AV → Heap → Option α) : oh (some (v, h)) K = K v h := rfl
@[simp] theorem ypf {β : Type} (v : β) (K : β → Option α) : ofp (some v) K = K v := rfl
@[simp] theorem ybm (x : Option AV) (K : AV → Option α) : gb (.bool true) true x K = ob x K := rfl
@[simp] theorem yi4 (x : Option AV) (K : AV → Option α) : gb (.bool false) false x K = ob x K := rfl
@[simp] theorem yog (x : Option AV) (K : AV → Option α) : gb (.bool true) false x K = K (.tup []) := rfl
@[simp] theorem yj5 (x : Option AV) (K : AV → Option α) : gb (.bool false) true x K = K (.tup []) := rfl
@[simp] theorem ym8 (w : Bool) (x : Option AV) (K : AV → Option α) : gb (.tup []) w x K = K (.tup []) := rfl
@[simp] theorem y2i6 (x : Option (AV × Heap)) (h : Heap) (K : AV → Heap → Option α) : gh (.bool true) true x h K = oh x K := rfl
@[simp] theorem y2pf (x : Option (AV × Heap)) (h : Heap) (K : AV → Heap → Option α) : gh (.bool false) false x h K = oh x K := rfl
@[simp] theorem y2r2 (x : Option (AV × Heap)) (h : Heap) (K : AV → Heap → Option α) : gh (.bool true) false x h K = K (.tup []) h := rfl
@[simp] theorem y2sb (x : Option (AV × Heap)) (h : Heap) (K : AV → Heap → Option α) : gh (.bool false) true x h K = K (.tup []) h := rfl
@[simp] theorem y2ri (w : Bool) (x : Option (AV × Heap)) (h : Heap) (K : AV → Heap → Option α) : gh (.tup []) w x h K = K (.tup []) h := rfl
@[simp] theorem y2r8 (x : Option (List Nat × List Nat)) : fgd (.bool true) true x = x := rfl
@[simp] theorem y2rk (x : Option (List Nat × List Nat)) : fgd (.bool false) false x = x := rfl
@[simp] theorem y2r9 (x : Option (List Nat × List Nat)) : fgd (.bool true) false x = some ([], []) := rfl
@[simp] theorem y2rr (x : Option (List Nat × List Nat)) : fgd (.bool false) true x = some ([], []) := rfl
@[simp] theorem y2r3 (w : Bool) (x : Option (List Nat × List Nat)) : fgd (.tup []) w x = some ([], []) := rfl
@[simp] theorem y1k (a b : Option α) : cnd (.bool true) a b = a := rfl
@[simp] theorem y25 (a b : Option α) : cnd (.bool false) a b = b := rfl
@[simp] theorem y2ij (x : Option α) : okK true x = x := rfl
theorem y2j3 {α : Type} {b : Bool} (h : b = true) (x : Option α) : okK b x = x := by rw [h]; rfl
@[simp] theorem y2c (a b : AV) : yd (.bool true) a b = some a := rfl
@[simp] theorem y30 (a b : AV) : yd (.bool false) a b = some b := rfl
@[simp] theorem y2p (b : Bool) : evUn .not (.bool b) = some (.bool (!b)) := rfl
@[simp] theorem y2p9 (neq a b : Bool) : y1xu neq (.bool a) (.bool b) = some (.bool (if neq then !(a == b) else a == b)) := rfl
@[simp] theorem y2k8 (i : Nat) (vs : List AV) : y40 i (.tup vs) = vs[i]? := rfl
@[simp] theorem y2md (k k' : IntKind) (n : Int) : y19h k (.int k' n) = some (.int k (k.wrap n)) := rfl
@[simp] theorem y2by (cs : List AV) : yhf (.rp cs) = some (.rp cs) := rfl
@[simp] theorem y2fe (id g i off : Nat) : yhf (.lp id g i off) = some (.lp id g i off) := rfl
@[congr] theorem y2ry {x x' : Option AV} (h : x = x') (K : AV → Option α) : ob x K = ob x' K := by rw [h]
@[congr] theorem y2rw {x x' : Option (AV × Heap)} (h : x = x') (K : AV → Heap → Option α) : oh x K = oh x' K := by rw [h]
@[congr] theorem y2ra {β : Type} {x x' : Option β} (h : x = x') (K : β → Option α) : ofp x K = ofp x' K := by rw [h]
@[congr] theorem y2sa {g g' : AV} (h : g = g') (w : Bool) (x : Option AV) (K : AV → Option α) : gb g w x K = gb g' w x K := by rw [h]
@[congr] theorem y2ru {g g' : AV} (h : g = g') (w : Bool) (x : Option (AV × Heap)) (hp : Heap) (K : AV → Heap → Option α) : gh g w x hp K = gh g' w x hp K := by rw [h]
@[congr] theorem y2rm {g g' : AV} (h : g = g') (w : Bool) (x : Option (List Nat × List Nat)) : fgd g w x = fgd g' w x := by rw [h]
@[congr] theorem y2rg {c c' : AV} (h : c = c') (a b : Option α) : cnd c a b = cnd c' a b := by rw [h]
@[congr] theorem y2re {c c' : Bool} (h : c = c') (a : Option α) : okK c a = okK c' a := by rw [h]
end comb
section ints
variable (k : IntKind) (a b : Int)
@[simp] theorem y2e : y8 .add (.int k a) (.int k b) = some (.int k (k.wrap (a + b))) := by simp [y8, y6i, yb1]
@[simp] theorem yi8 : y8 .sub (.int k a) (.int k b) = some (.int k (k.wrap (a - b))) := by simp [y8, y6i, yb1]
@[simp] theorem y2ku : y8 .mul (.int k a) (.int k b) = some (.int k (k.wrap (a * b))) := by simp [y8, y6i, yb1]
@[simp] theorem y17 : y8 .eql (.int k a) (.int k b) = some (.bool (decide (a = b))) := by simp [y8, y6i, yb1, Bool.beq_eq_decide_eq]
@[simp] theorem yak : y8 .neq (.int k a) (.int k b) = some (.bool (decide (a ≠ b))) := by simp [y8, y6i, yb1, bne, Bool.beq_eq_decide_eq]
@[simp] theorem yq : y8 .lss (.int k a) (.int k b) = some (.bool (decide (a < b))) := by simp [y8, y6i, yb1]
@[simp] theorem yjc : y8 .leq (.int k a) (.int k b) = some (.bool (decide (a ≤ b))) := by simp [y8, y6i, yb1]
@[simp] theorem y44 : y8 .gtr (.int k a) (.int k b) = some (.bool (decide (b < a))) := by simp [y8, y6i, yb1]
@[simp] theorem yan : y8 .geq (.int k a) (.int k b) = some (.bool (decide (b ≤ a))) := by simp [y8, y6i, yb1]
end ints
@[simp] theorem y2gf (a b : List UInt8) : y8 .eql (.str a) (.str b) = some (.bool (decide (a = b))) := by simp [y8, y15g, Bool.beq_eq_decide_eq]
@[simp] theorem y2gg (a b : List UInt8) : y8 .neq (.str a) (.str b) = some (.bool (decide (a ≠ b))) := by simp [y8, y15g, Bool.beq_eq_decide_eq]
theorem y33 {n : Int} (h0 : -9223372036854775808 ≤ n) (h1 : n < 9223372036854775808) : IntKind.wrap .i64 n = n := by
  simp [IntKind.wrap, IntKind.bits, IntKind.signed]; omega
theorem y1qn {i n : Nat} (h : i < n) (hn : n ≤ 9223372036854775807) : IntKind.wrap .i64 ((i : Int) + 1) = ((i + 1 : Nat) : Int) := by
  rw [y33] <;> omega
theorem y1p {i n : Nat} (h : i < n) (hn : n ≤ 9223372036854775807) : IntKind.wrap .i64 ((i : Int) + 1) = (i : Int) + 1 := by rw [y1qn h hn]; rfl
theorem y137 {α : Type} [DecidableEq α] {a b : List α} {i : Nat} (h1 : i < a.length) (h2 : i < b.length) : decide (a.drop i = b.drop i) = (decide (a[i] = b[i]) && decide (a.drop (i + 1) = b.drop (i + 1))) := by
  rw [← Bool.decide_and]
  congr 1
  rw [List.drop_eq_getElem_cons h1, List.drop_eq_getElem_cons h2, List.cons_eq_cons]
@[simp] theorem y2nz (k : Nat) (cs : List AV) : evFa k (.rp cs) = some (.rp (cs.drop k)) := rfl
@[simp] theorem y51 (k id g i o : Nat) : evFa k (.lp id g i o) = some (.lp id g i (o + k)) := rfl
@[simp] theorem yvz (agg : Bool) (n : Nat) (cs : List AV) (h : Heap) : evLd agg n (.rp cs) h = y6q agg n cs := rfl
@[simp] theorem y7i (n : Nat) (cs : List AV) : y6q false n cs = cs.head? := rfl
@[simp] theorem y29j (cs : List AV) : cellsOf (.agg cs) = cs := rfl
@[simp] theorem y2fm (k : IntKind) (n : Int) : cellsOf (.int k n) = [.int k n] := rfl
@[simp] theorem y25w (b : Bool) : cellsOf (.bool b) = [.bool b] := rfl
@[simp] theorem y2cv (s : List UInt8) : cellsOf (.str s) = [.str s] := rfl
@[simp] theorem y277 : cellsOf .nils = [.nils] := rfl
@[simp] theorem y2gk (es : Nat) (rows : List (List AV)) : cellsOf (.rs es rows) = [.rs es rows] := rfl
@[simp] theorem y2gh (id g es off len : Nat) : cellsOf (.ls id g es off len) = [.ls id g es off len] := rfl
class Cel (α : Type) where
  es : Nat
  enc : α → List AV
  len : ∀ x, (enc x).length = es
  pur : ∀ x, (enc x).all pure1 = true
  leaf : ∀ x, (enc x).all y1a = true
open Cel
instance : Cel Int := ⟨1, fun n => [.int .i64 n], fun _ => rfl, fun _ => rfl, fun _ => rfl⟩
instance : Cel Bool := ⟨1, fun b => [.bool b], fun _ => rfl, fun _ => rfl, fun _ => rfl⟩
structure Tx where
  s : List UInt8
  deriving DecidableEq, Inhabited
instance : Cel Tx := ⟨1, fun b => [.str b.s], fun _ => rfl, fun _ => rfl, fun _ => rfl⟩
@[simp] theorem y2pa (n : Int) : enc n = [.int .i64 n] := rfl
@[simp] theorem y2n3 (b : Bool) : enc b = [.bool b] := rfl
@[simp] theorem y2rh (b : Tx) : enc b = [.str b.s] := rfl
@[simp] theorem y25y : es Int = 1 := rfl
@[simp] theorem yjy : es Bool = 1 := rfl
@[simp] theorem y2s6 : es Tx = 1 := rfl
variable {α : Type} [Cel α]
def scal (x : α) : Bool := (enc x).all y29
@[simp] theorem y2mz (n : Int) : scal n = true := rfl
@[simp] theorem y2ja (b : Bool) : scal b = true := rfl
@[simp] theorem y2qd (b : Tx) : scal b = true := rfl
def lst (o : Option (List α)) : List α := o.getD []
omit [Cel α] in
@[simp] theorem y2n8 : lst (none : Option (List α)) = [] := rfl
omit [Cel α] in
@[simp] theorem y5z (L : List α) : lst (some L) = L := rfl
def slA : Option (List α) → AV
  | none => .nils
  | some L => .rs (es α) (L.map enc)
instance : Cel (Option (List α)) := ⟨1, fun o => [slA o], fun _ => rfl, fun o => by cases o <;> rfl, fun o => by cases o <;> rfl⟩
@[simp] theorem y2ro (o : Option (List α)) : enc o = [slA o] := rfl
@[simp] theorem y2s7 : es (Option (List α)) = 1 := rfl
@[simp] theorem y2jx (k : IntKind) (n : Int) : pure1 (.int k n) = true := rfl
@[simp] theorem y2gq (b : Bool) : pure1 (.bool b) = true := rfl
@[simp] theorem y2mf (b : List UInt8) : pure1 (.str b) = true := rfl
@[simp] theorem y2g9 : pure1 .nils = true := rfl
@[simp] theorem y2ji (k : IntKind) (n : Int) : y1a (.int k n) = true := rfl
@[simp] theorem y2gn (b : Bool) : y1a (.bool b) = true := rfl
@[simp] theorem y2js (b : List UInt8) : y1a (.str b) = true := rfl
@[simp] theorem y2gl : y1a .nils = true := rfl
@[simp] theorem y2n6 (es : Nat) (r : List (List AV)) : y1a (.rs es r) = true := rfl
@[simp] theorem y2n7 (id g es off len : Nat) : y1a (.ls id g es off len) = true := rfl
@[simp] theorem y2n0 (id g i o : Nat) : y1a (.lp id g i o) = true := rfl
@[simp] theorem y2cr (k : IntKind) (n : Int) : y29 (.int k n) = true := rfl
@[simp] theorem y26s (b : Bool) : y29 (.bool b) = true := rfl
@[simp] theorem y28b (b : List UInt8) : y29 (.str b) = true := rfl
@[simp] theorem y25k : y29 .nils = true := rfl
@[simp] theorem y1ac (o : Option (List α)) : cellsOf (slA o) = [slA o] := by cases o <;> rfl
@[simp] theorem y2ne (o : Option (List α)) : y1a (slA o) = true := by cases o <;> rfl
@[simp] theorem y1y4 (o : Option (List α)) : pure1 (slA o) = true := by cases o <;> rfl
@[simp] theorem y18s (o : Option (List α)) : y29 (slA o) = (lst o).isEmpty := by
  cases o with
  | none => rfl
  | some L => cases L <;> rfl
@[simp] theorem y4a (o : Option (List α)) (h : Heap) : y10 1 (slA o) h = some (.int .i64 (lst o).length) := by cases o <;> simp [slA, y10]
@[simp] theorem ydr (s : List UInt8) (h : Heap) : y10 0 (.str s) h = some (.int .i64 s.length) := rfl
@[simp] theorem y48 (id g es off len : Nat) (h : Heap) : y10 1 (.ls id g es off len) h = some (.int .i64 len) := rfl
@[simp] theorem y2go (h : Heap) : y10 1 .nils h = some (.int .i64 0) := rfl
@[simp] theorem y2qf (id g i o : Nat) : ids1 (.lp id g i o) = [id] := rfl
@[simp] theorem y2oa (id g es o l : Nat) : ids1 (.ls id g es o l) = [id] := rfl
@[simp] theorem y2om (cs : List AV) : ids1 (.rp cs) = [] := rfl
@[simp] theorem y2nj (k : IntKind) (n : Int) : ids1 (.int k n) = [] := rfl
@[simp] theorem y2nh (s : List UInt8) : ids1 (.str s) = [] := rfl
@[simp] theorem y2qg (o : Option (List α)) : ids1 (slA o) = [] := by cases o <;> rfl
@[simp] theorem y20d (neq : Bool) (o : Option (List α)) : y4q 1 neq (slA o) .nils = some (.bool (if neq then o.isSome else o.isNone)) := by
  cases o <;> cases neq <;> rfl
theorem yhj {o : Option (List α)} {x : α} {i : Nat} (hx : (lst o)[i]? = some x) (k : IntKind) : yw (es α) (slA o) (.int k i) = some (.rp (enc x)) := by
  cases o with
  | none => simp at hx
  | some L =>
    simp only [y5z] at hx
    simp [slA, yw, hx]
theorem yqz {o : Option (List α)} {x : α} {n : Int} (h0 : 0 ≤ n) (hx : (lst o)[n.toNat]? = some x) (k : IntKind) : yw (es α) (slA o) (.int k n) = some (.rp (enc x)) := by
  obtain ⟨i, rfl⟩ := Int.eq_ofNat_of_zero_le h0
  exact yhj (by simpa using hx) k
@[simp] theorem ye0 (o : Option (List α)) (h : Heap) : y3q h (es α) (slA o) = some ((lst o).map enc) := by
  cases o <;> simp [slA, y3q]
@[simp] theorem y24d (o : Option (List α)) (h : Heap) : fz h y19 (slA o) = some ⟨slA o, (lst o).isEmpty, []⟩ := by
  rw [y2ql (y1y4 o), y18s]
@[simp] theorem ya7 (x : α) (h : Heap) : fz h y19 (.agg (enc x)) = some ⟨.agg (enc x), scal x, []⟩ := y2j8 h (pur x)
theorem yi2 (L : List α) : (L.map enc).all (·.all pure1) = true := by simp only [List.all_map, List.all_eq_true]; exact fun x _ => pur x
theorem yky (L : List α) : (L.map enc).all (·.all y29) = L.all scal := by simp only [List.all_map]; rfl
@[simp] theorem y1gd (L : List α) (h : Heap) : ym (ym (fz h y19)) (L.map enc) = some ⟨L.map enc, L.all scal, []⟩ := by rw [y1e5 h (yi2 L), yky]
@[simp] theorem y1w4 (L : List α) (h : Heap) : ym (ym (fz h 11)) (L.map enc) = some ⟨L.map enc, L.all scal, []⟩ := by rw [y1pz h (yi2 L), yky]
@[simp] theorem y2r1 (o : Option (List α)) : scal o = (lst o).isEmpty := by simp [scal]
@[simp] theorem y7o (L : List α) : (L.map (enc (α := α))).take L.length = L.map enc := by
  rw [List.take_of_length_le (by simp)]
@[simp] theorem yj2 (x : α) : y6q true (es α) (enc x) = some (.agg (enc x)) := by
  simp only [y6q, if_true, len x, Nat.le_refl, if_pos]
  rw [List.take_of_length_le (by rw [len x]; exact Nat.le_refl _)]
@[simp] theorem y2nl (x : α) : (∀ v, v ∈ enc x → y1a v = true) ↔ True := by
  have := leaf x
  rw [List.all_eq_true] at this
  exact ⟨fun _ => trivial, fun _ => this⟩
theorem ypo (x : α) : (enc x).all y1a = true := leaf x
@[simp] theorem y1kw (h : Heap) (k : IntKind) (n : Int) : fz h y19 (.int k n) = some ⟨.int k n, true, []⟩ := rfl
@[simp] theorem ypq (h : Heap) (b : Bool) : fz h y19 (.bool b) = some ⟨.bool b, true, []⟩ := rfl
@[simp] theorem y2ok (h : Heap) (b : List UInt8) : fz h y19 (.str b) = some ⟨.str b, true, []⟩ := rfl
@[simp] theorem y2n4 (h : Heap) : fz h y19 .nils = some ⟨.nils, true, []⟩ := rfl
@[simp] theorem y2gj (h : Heap) (k : IntKind) (n : Int) : yf h (.int k n) = some ⟨.int k n, [], true, [], []⟩ := rfl
@[simp] theorem y22 (h : Heap) (b : Bool) : yf h (.bool b) = some ⟨.bool b, [], true, [], []⟩ := rfl
@[simp] theorem y2gp (h : Heap) (s : List UInt8) : yf h (.str s) = some ⟨.str s, [], true, [], []⟩ := rfl
@[simp] theorem y2ea (h : Heap) : yf h .nils = some ⟨.nils, [], true, [], []⟩ := rfl
@[simp] theorem y2ni (h : Heap) (o : Option (List α)) : yf h (slA o) = some ⟨slA o, [], (lst o).isEmpty, [], []⟩ := by
  cases o with
  | none => rfl
  | some L => simp [slA, y1z0]
theorem y1vo {v : AV} (hp : pure1 v = true) (h : Heap) (k : Nat) (os : List OC) : expo h (k + 1) v os = some ⟨v, os, y29 v, [], []⟩ := by
  cases v <;> simp_all [expo, pure1]
theorem y24h {cs : List AV} (h : Heap) (k : Nat) (os : List OC) (hp : cs.all pure1 = true) : y5n (expo h (k + 1)) cs os = some ⟨cs, os, cs.all y29, [], []⟩ := by
  induction cs with
  | nil => rfl
  | cons c cs ih =>
    simp only [List.all_cons, Bool.and_eq_true] at hp
    rw [y5n, y1vo hp.1]
    simp only [ih hp.2]
    rfl
theorem yi1 (h : Heap) (cs : List AV) : yf h (.agg cs) = match y5n (expo h 11) cs [] with
    | some r => if y4v r.xs r.fs then some ⟨.agg r.v, r.objs, r.fresh, [], []⟩ else none
    | none => none := by
  show (match (match y5n (expo h 11) cs [] with
    | some r => some (⟨.agg r.v, r.objs, r.fresh, r.xs, r.fs⟩ : Ex AV)
    | none => none) with
    | some r => if y4v r.xs r.fs then some (⟨r.v, r.objs, r.fresh, [], []⟩ : Ex AV) else none
    | none => none) = _
  cases y5n (expo h 11) cs [] <;> rfl
@[simp] theorem y2i0 (h : Heap) (x : α) : yf h (.agg (enc x)) = some ⟨.agg (enc x), [], scal x, [], []⟩ := by
  rw [yi1, y24h h 10 [] (pur x)]
  rfl
theorem y2fj (h : Heap) (k id g es1 off len : Nat) (os : List OC) : expo h (k + 1) (.ls id g es1 off len) os = match yn h id g with
    | some (true, _, _) => exFz h (.ls id g es1 off len) os
    | some (false, es, rows) => if es1 = es ∧ off + len ≤ rows.length then
        match ym (ym (fz h y19)) ((rows.drop off).take len) with
        | some r => some ⟨.ls os.length 0 es 0 len, os ++ [.arr false false es r.v], r.fresh, [id], r.ids⟩
        | none => none
      else none
    | none => none := by
  rw [expo]
  rfl
theorem y2lr (h : Heap) (k id g es1 off len : Nat) : fz h (k + 1) (.ls id g es1 off len) = match yn h id g with
    | some (_, es, rows) => if es1 = es ∧ off + len ≤ rows.length then (match ym (ym (fz h k)) ((rows.drop off).take len) with
      | some r => some ⟨.rs es r.v, r.fresh, id :: r.ids⟩
      | none => none) else none
    | none => none := by
  rw [fz]
  rfl
theorem y250 (L : List α) (h : Heap) (k : Nat) : ym (ym (fz h (k + 1))) (L.map enc) = some ⟨L.map enc, L.all scal, []⟩ := by rw [y8q h k (yi2 L), yky]
@[simp] theorem y18 {β γ : Type} (f : β → Option (Fz γ)) : ym f [] = some ⟨[], true, []⟩ := rfl
@[simp] theorem yr {β γ : Type} (f : β → Option (Fz γ)) (x : β) (xs : List β) : ym f (x :: xs) = match f x, ym f xs with
    | some a, some b => some ⟨a.v :: b.v, a.fresh && b.fresh, a.ids ++ b.ids⟩
    | _, _ => none := rfl
end Go.Vm
namespace Go.Vm
open Cel
structure Ins where
  op : Int
  d : Int
  a : Int
  b : Int
  c : Int
  n : Int
  t : Int
  s : List UInt8
  args : Option (List Int)
  deriving DecidableEq, Inhabited
structure Row where
  f : Int
  t : Int
  at_ : Int
  c : List UInt8
  deriving DecidableEq, Inhabited
structure Fn where
  regs : Option (List Int)
  params : Option (List Int)
  ret : Int
  code : Option (List Ins)
  rows : Option (List Row)
  deriving DecidableEq, Inhabited
instance : Cel Ins := ⟨9, fun x => [.int .i64 x.op, .int .i64 x.d, .int .i64 x.a, .int .i64 x.b, .int .i64 x.c, .int .i64 x.n, .int .i64 x.t, .str x.s, slA x.args], fun _ => rfl,
  fun x => by simp, fun x => by simp⟩
instance : Cel Row := ⟨4, fun x => [.int .i64 x.f, .int .i64 x.t, .int .i64 x.at_, .str x.c], fun _ => rfl, fun x => rfl, fun x => rfl⟩
instance : Cel Fn := ⟨5, fun x => [slA x.regs, slA x.params, .int .i64 x.ret, slA x.code, slA x.rows], fun _ => rfl, fun x => by simp, fun x => by simp⟩
@[simp] theorem y2rp : es Ins = 9 := rfl
@[simp] theorem y2rc : es Row = 4 := rfl
@[simp] theorem y2s3 : es Fn = 5 := rfl
theorem y2b4 (x : Row) : enc x = [.int .i64 x.f, .int .i64 x.t, .int .i64 x.at_, .str x.c] := rfl
section
variable (x : Ins) (r : Row) (f : Fn)
@[simp high] theorem ins0 : (enc x).head? = some (.int .i64 x.op) := rfl
@[simp high] theorem y2s9 : (enc x)[0]? = some (.int .i64 x.op) := rfl
@[simp high] theorem ins1 : ((enc x).drop 1).head? = some (.int .i64 x.d) := rfl
@[simp high] theorem y2s4 : (enc x)[1]? = some (.int .i64 x.d) := rfl
@[simp high] theorem ins2 : ((enc x).drop 2).head? = some (.int .i64 x.a) := rfl
@[simp high] theorem y2rx : (enc x)[2]? = some (.int .i64 x.a) := rfl
@[simp high] theorem ins3 : ((enc x).drop 3).head? = some (.int .i64 x.b) := rfl
@[simp high] theorem y2s2 : (enc x)[3]? = some (.int .i64 x.b) := rfl
@[simp high] theorem ins4 : ((enc x).drop 4).head? = some (.int .i64 x.c) := rfl
@[simp high] theorem y2s5 : (enc x)[4]? = some (.int .i64 x.c) := rfl
@[simp high] theorem ins5 : ((enc x).drop 5).head? = some (.int .i64 x.n) := rfl
@[simp high] theorem y2rz : (enc x)[5]? = some (.int .i64 x.n) := rfl
@[simp high] theorem ins6 : ((enc x).drop 6).head? = some (.int .i64 x.t) := rfl
@[simp high] theorem y2s1 : (enc x)[6]? = some (.int .i64 x.t) := rfl
@[simp high] theorem ins7 : ((enc x).drop 7).head? = some (.str x.s) := rfl
@[simp high] theorem y2sc : (enc x)[7]? = some (.str x.s) := rfl
@[simp high] theorem ins8 : ((enc x).drop 8).head? = some (slA x.args) := rfl
@[simp high] theorem y2rt : (enc x)[8]? = some (slA x.args) := rfl
@[simp high] theorem row0 : (enc r).head? = some (.int .i64 r.f) := rfl
@[simp high] theorem y2s8 : (enc r)[0]? = some (.int .i64 r.f) := rfl
@[simp high] theorem row1 : ((enc r).drop 1).head? = some (.int .i64 r.t) := rfl
@[simp high] theorem y2rs : (enc r)[1]? = some (.int .i64 r.t) := rfl
@[simp high] theorem row2 : ((enc r).drop 2).head? = some (.int .i64 r.at_) := rfl
@[simp high] theorem y2s0 : (enc r)[2]? = some (.int .i64 r.at_) := rfl
@[simp high] theorem row3 : ((enc r).drop 3).head? = some (.str r.c) := rfl
@[simp high] theorem y2rv : (enc r)[3]? = some (.str r.c) := rfl
@[simp high] theorem fn0 : (enc f).head? = some (slA f.regs) := rfl
@[simp high] theorem fn0q : (enc f)[0]? = some (slA f.regs) := rfl
@[simp high] theorem fn1 : ((enc f).drop 1).head? = some (slA f.params) := rfl
@[simp high] theorem fn1q : (enc f)[1]? = some (slA f.params) := rfl
@[simp high] theorem fn2 : ((enc f).drop 2).head? = some (.int .i64 f.ret) := rfl
@[simp high] theorem fn2q : (enc f)[2]? = some (.int .i64 f.ret) := rfl
@[simp high] theorem fn3 : ((enc f).drop 3).head? = some (slA f.code) := rfl
@[simp high] theorem fn3q : (enc f)[3]? = some (slA f.code) := rfl
@[simp high] theorem fn4 : ((enc f).drop 4).head? = some (slA f.rows) := rfl
@[simp high] theorem fn4q : (enc f)[4]? = some (slA f.rows) := rfl
@[simp] theorem yp6 : y6q true 9 (enc x) = some (.agg (enc x)) := yj2 x
@[simp] theorem y2o6 : y6q true 4 (enc r) = some (.agg (enc r)) := yj2 r
@[simp] theorem y2rf : y6q true 5 (enc f) = some (.agg (enc f)) := yj2 f
@[simp] theorem ywl : (enc x).length = 9 := rfl
@[simp] theorem y2pr : (enc r).length = 4 := rfl
@[simp] theorem y2rn : (enc f).length = 5 := rfl
@[simp] theorem y24v : (enc x).all y1a = true := ypo x
@[simp] theorem y2na : (enc r).all y1a = true := ypo r
@[simp] theorem y2py : (enc f).all y1a = true := ypo f
end
theorem y8p {o : Option (List Ins)} {x : Ins} {i : Nat} (hx : (lst o)[i]? = some x) (k : IntKind) : yw 9 (slA o) (.int k i) = some (.rp (enc x)) := yhj hx k
theorem yin {o : Option (List Row)} {x : Row} {i : Nat} (hx : (lst o)[i]? = some x) (k : IntKind) : yw 4 (slA o) (.int k i) = some (.rp (enc x)) := yhj hx k
theorem y3c {o : Option (List Int)} {x : Int} {i : Nat} (hx : (lst o)[i]? = some x) (k : IntKind) : yw 1 (slA o) (.int k i) = some (.rp [.int .i64 x]) := yhj hx k
theorem y8o {o : Option (List Ins)} {x : Ins} {n : Int} (h0 : 0 ≤ n) (hx : (lst o)[n.toNat]? = some x) (k : IntKind) : yw 9 (slA o) (.int k n) = some (.rp (enc x)) := yqz h0 hx k
theorem y120 {o : Option (List Int)} {x : Int} {n : Int} (h0 : 0 ≤ n) (hx : (lst o)[n.toNat]? = some x) (k : IntKind) : yw 1 (slA o) (.int k n) = some (.rp [.int .i64 x]) := yqz h0 hx k
@[simp] theorem y2ge (o : Option (List Int)) (h : Heap) : y3q h 1 (slA o) = some ((lst o).map enc) := ye0 o h
@[simp] theorem y2gd (o : Option (List Ins)) (h : Heap) : y3q h 9 (slA o) = some ((lst o).map enc) := ye0 o h
@[simp] theorem y2gc (o : Option (List Row)) (h : Heap) : y3q h 4 (slA o) = some ((lst o).map enc) := ye0 o h
def exO {α : Type} [Cel α] : Option (List α) → Ex AV
  | none => ⟨.nils, [], true, [], []⟩
  | some L => ⟨.ls 0 0 (es α) 0 L.length, [.arr false false (es α) (L.map enc)], L.all scal, [], []⟩
@[simp] theorem ym9 {α : Type} [Cel α] (o : Option (List α)) : fz (y2j (exO o).objs) y19 (exO o).v = some ⟨slA o, (lst o).all scal, match o with | none => [] | some _ => [0]⟩ := by
  cases o with
  | none => rfl
  | some L =>
    show fz [⟨0, .arr false false (es α) (L.map enc)⟩] y19 (.ls 0 0 (es α) 0 L.length) = _
    rw [y23o]
    simp [yn, y3m, slA]
@[simp] theorem yxw {α : Type} [Cel α] (fb j : Nat) (L : List α) (h : Heap) : y2b fb (some j) (exO (some L)).objs [] h = match h[fb + j]? with
    | some o => some ([(fb + j, o.gen + 1)], h.set (fb + j) ⟨o.gen + 1, .arr false false (es α) (L.map enc)⟩)
    | none => none := by
  simp only [exO, y2b, y4t, okOC, if_true, place, List.nil_append]
  cases h[fb + j]? <;> rfl
@[simp] theorem y2ms {α : Type} [Cel α] (fb : Nat) (j : Option Nat) (h : Heap) : y2b fb j (exO (none : Option (List α))).objs [] h = some ([], h) := rfl
@[simp] theorem y171 {α : Type} [Cel α] (id g : Nat) (L : List α) : reloc [(id, g)] (exO (some L)).v = .ls id g (es α) 0 L.length := rfl
@[simp] theorem y2jv {α : Type} [Cel α] (tab : List (Nat × Nat)) : reloc tab (exO (none : Option (List α))).v = .nils := rfl
theorem yrc {α : Type} [Cel α] (o : Option (List α)) : (exO o).fresh = (lst o).all scal := by cases o <;> rfl
theorem y38 {α : Type} [Cel α] {h : Heap} {id g : Nat} {L : List α} (hr : yn h id g = some (false, es α, L.map enc)) : yf h (.ls id g (es α) 0 L.length) = some (exO (some L)) := by
  rw [ykz, hr]
  simp [exO]
attribute [simp] newC y9t y46 place
@[simp] theorem yem (g : Nat) (b f : Bool) (e : Nat) (r : List (List AV)) (t : Heap) : yn (⟨g, .arr b f e r⟩ :: t) 0 g = some (f, e, r) := by simp [yn, y3m]
@[simp] theorem ypb (o : AO) (t : Heap) (i g : Nat) : yn (o :: t) (i + 1) g = yn t i g := rfl
@[simp] theorem y2ju (g : Nat) (b f : Bool) (e : Nat) (r r' : List (List AV)) (t : Heap) : y27 (⟨g, .arr b f e r⟩ :: t) 0 r' = ⟨g, .arr b f e r'⟩ :: t := rfl
@[simp] theorem y2it (o : AO) (t : Heap) (i : Nat) (r : List (List AV)) : y27 (o :: t) (i + 1) r = o :: y27 t i r := by
  simp only [y27, List.getElem?_cons_succ]
  split <;> simp_all
@[simp] theorem y67 (n id g i off : Nat) (v : AV) (h : Heap) : evSt n (.lp id g i off) v h = match yn h id g with
    | some (false, _, rows) => match rows[i]? with
      | some row => if (cellsOf v).length = n ∧ off + n ≤ row.length ∧ (cellsOf v).all y1a = true then some (.tup [], y27 h id (rows.set i (y16 off (cellsOf v) row))) else none
      | none => none
    | _ => none := rfl
@[simp] theorem yf2 {vs row : List AV} (h : row.length = vs.length) : y16 0 vs row = vs := by
  simp [y16, ← h]
section
variable (x : Ins) (n : Int) (s : List UInt8) (o : Option (List Int))
@[simp] theorem y2oh : y16 0 [.int .i64 n] (enc x) = enc { x with op := n } := rfl
@[simp] theorem y2oz : y16 1 [.int .i64 n] (enc x) = enc { x with d := n } := rfl
@[simp] theorem y2ow : y16 2 [.int .i64 n] (enc x) = enc { x with a := n } := rfl
@[simp] theorem y2q7 : y16 3 [.int .i64 n] (enc x) = enc { x with b := n } := rfl
@[simp] theorem y2q2 : y16 4 [.int .i64 n] (enc x) = enc { x with c := n } := rfl
@[simp] theorem y2r0 : y16 5 [.int .i64 n] (enc x) = enc { x with n := n } := rfl
@[simp] theorem y2nx : y16 6 [.int .i64 n] (enc x) = enc { x with t := n } := rfl
@[simp] theorem y2og : y16 7 [.str s] (enc x) = enc { x with s := s } := rfl
@[simp] theorem y2or : y16 8 [slA o] (enc x) = enc { x with args := o } := rfl
end
def ymb (x : Ins) (v : AV) : List AV := [.int .i64 x.op, .int .i64 x.d, .int .i64 x.a, .int .i64 x.b, .int .i64 x.c, .int .i64 x.n, .int .i64 x.t, .str x.s, v]
@[simp] theorem y2nb (x : Ins) (id g es off len : Nat) : y16 8 [.ls id g es off len] (enc x) = ymb x (.ls id g es off len) := rfl
@[simp] theorem y2nd (x : Ins) : y16 8 [.nils] (enc x) = enc { x with args := none } := rfl
@[simp] theorem y2ga (x : Ins) (v : AV) : (ymb x v).length = 9 := rfl
@[simp] theorem y2gb (x : Ins) (v : AV) : y6q true 9 (ymb x v) = some (.agg (ymb x v)) := rfl
@[simp] theorem y2g8 (x : Ins) (w : AV) : (∀ v, v ∈ ymb x w → y1a v = true) ↔ y1a w = true := by simp [ymb]
def y1rw (r : Ex AV) (v : AV) : Prop := ∃ q, fz (y2j r.objs) y19 r.v = some q ∧ q.v = v
@[simp] theorem y3e (agg : Bool) (n id g i off : Nat) (h : Heap) : evLd agg n (.lp id g i off) h = match yn h id g with
    | some (_, _, rows) => match rows[i]? with
      | some row => y6q agg n (row.drop off)
      | none => none
    | none => none := rfl
end Go.Vm
namespace Go.Vm
open Cel
def inI (n : Int) : Prop := -9223372036854775808 ≤ n ∧ n ≤ 9223372036854775807
abbrev tyI : Ty := .int .i64
theorem ygz {cs : List AV} (h : tyI.has cs) : ∃ n : Int, cs = [.int .i64 n] ∧ inI n := by
  obtain ⟨n, rfl, h1, h2⟩ := h
  exact ⟨n, rfl, by simpa [IntKind.min, IntKind.max, IntKind.signed, IntKind.bits] using h1, by simpa [IntKind.min, IntKind.max, IntKind.signed, IntKind.bits] using h2⟩
theorem y2ma {cs : List AV} (h : Ty.str.has cs) : ∃ s : List UInt8, cs = [.str s] ∧ s.length ≤ reachBytes := h
theorem y0m {α : Type} [Cel α] {T : Ty} {Q : α → Prop} (hT : ∀ row, T.has row → ∃ x : α, row = enc x ∧ Q x) : ∀ (rows : List (List AV)), (∀ row, row ∈ rows → T.has row) → ∃ L : List α, rows = L.map enc ∧ ∀ x ∈ L, Q x
  | [], _ => ⟨[], rfl, fun x h => by cases h⟩
  | r :: rows, h => by
    obtain ⟨L, rfl, hL⟩ := y0m hT rows (fun row hr => h row (by simp [hr]))
    obtain ⟨x, rfl, hx⟩ := hT r (h r (by simp))
    refine ⟨x :: L, rfl, fun y hy => ?_⟩
    rcases List.mem_cons.1 hy with rfl | hy
    · exact hx
    · exact hL y hy
theorem y1w0 {α : Type} [Cel α] {T : Ty} {Q : α → Prop} (hT : ∀ row, T.has row → ∃ x : α, row = enc x ∧ Q x) {cs : List AV} (h : (Ty.slice (es α) T).has cs) : ∃ o : Option (List α), cs = [slA o] ∧ (lst o).length ≤ maxLen ∧ (lst o).length * T.bytes ≤ reachBytes ∧ ∀ x ∈ lst o, Q x := by
  rcases h with rfl | ⟨rows, rfl, hl, hz, hr⟩
  · exact ⟨none, rfl, Nat.zero_le _, by simp, fun x h => by cases h⟩
  · obtain ⟨L, rfl, hL⟩ := y0m hT rows hr
    exact ⟨some L, rfl, by simpa using hl, by simpa using hz, hL⟩
abbrev y152 : Ty := .slice 1 tyI
theorem yp7 {cs : List AV} (h : y152.has cs) : ∃ o : Option (List Int), cs = [slA o] ∧ (lst o).length * 8 ≤ reachBytes ∧ ∀ x ∈ lst o, inI x := by
  obtain ⟨o, h1, _, h2, h3⟩ := y1w0 (α := Int) (T := tyI) (fun _ h => ygz h) h
  exact ⟨o, h1, h2, h3⟩
abbrev y282 : Ty := .struct (.sCons tyI (.sCons tyI (.sCons tyI (.sCons tyI (.sCons tyI (.sCons tyI (.sCons tyI (.sCons .str (.sCons y152 .sNil)))))))))
abbrev y2ei : Ty := .struct (.sCons tyI (.sCons tyI (.sCons tyI (.sCons .str .sNil))))
structure InsOk (x : Ins) : Prop where
  op : inI x.op
  d : inI x.d
  a : inI x.a
  b : inI x.b
  c : inI x.c
  n : inI x.n
  t : inI x.t
  s : x.s.length ≤ reachBytes
  len : (lst x.args).length * 8 ≤ reachBytes
  args : ∀ r ∈ lst x.args, inI r
structure RowOk (r : Row) : Prop where
  f : inI r.f
  t : inI r.t
  a : inI r.at_
  c : r.c.length ≤ reachBytes
structure FnIn (f : Fn) : Prop where
  regs : (lst f.regs).length * 8 ≤ reachBytes
  regI : ∀ x ∈ lst f.regs, inI x
  params : (lst f.params).length * 8 ≤ reachBytes
  parI : ∀ x ∈ lst f.params, inI x
  ret : inI f.ret
  code : (lst f.code).length * 96 ≤ reachBytes
  insI : ∀ x ∈ lst f.code, InsOk x
  rows : (lst f.rows).length * 40 ≤ reachBytes
  rowI : ∀ x ∈ lst f.rows, RowOk x
theorem y2b3 {cs : List AV} (h : y282.has cs) : ∃ x : Ins, cs = enc x ∧ InsOk x := by
  obtain ⟨_, _, rfl, h1, _, _, rfl, h2, _, _, rfl, h3, _, _, rfl, h4, _, _, rfl, h5, _, _, rfl, h6, _, _, rfl, h7, _, _, rfl, h8, _, _, rfl, h9, rfl⟩ := h
  obtain ⟨op, rfl, k1⟩ := ygz h1
  obtain ⟨d, rfl, k2⟩ := ygz h2
  obtain ⟨a, rfl, k3⟩ := ygz h3
  obtain ⟨b, rfl, k4⟩ := ygz h4
  obtain ⟨c, rfl, k5⟩ := ygz h5
  obtain ⟨n, rfl, k6⟩ := ygz h6
  obtain ⟨t, rfl, k7⟩ := ygz h7
  obtain ⟨s, rfl, k8⟩ := y2ma h8
  obtain ⟨l, rfl, k9, k10⟩ := yp7 h9
  exact ⟨⟨op, d, a, b, c, n, t, s, l⟩, rfl, ⟨k1, k2, k3, k4, k5, k6, k7, k8, k9, k10⟩⟩
theorem y2ds {cs : List AV} (h : y2ei.has cs) : ∃ x : Row, cs = enc x ∧ RowOk x := by
  obtain ⟨_, _, rfl, h1, _, _, rfl, h2, _, _, rfl, h3, _, _, rfl, h8, rfl⟩ := h
  obtain ⟨f, rfl, k1⟩ := ygz h1
  obtain ⟨t, rfl, k2⟩ := ygz h2
  obtain ⟨a, rfl, k3⟩ := ygz h3
  obtain ⟨s, rfl, k8⟩ := y2ma h8
  exact ⟨⟨f, t, a, s⟩, rfl, ⟨k1, k2, k3, k8⟩⟩
abbrev tyFn : Ty := .struct (.sCons y152 (.sCons y152 (.sCons tyI (.sCons (.slice 9 y282) (.sCons (.slice 4 y2ei) .sNil)))))
theorem y2h2 {cs : List AV} (h : tyFn.has cs) : ∃ x : Fn, cs = enc x ∧ FnIn x := by
  obtain ⟨_, _, rfl, h1, _, _, rfl, h2, _, _, rfl, h3, _, _, rfl, h4, _, _, rfl, h5, rfl⟩ := h
  obtain ⟨regs, rfl, k1, l1⟩ := yp7 h1
  obtain ⟨params, rfl, k2, l2⟩ := yp7 h2
  obtain ⟨ret, rfl, k3⟩ := ygz h3
  obtain ⟨code, rfl, _, k4, l4⟩ := y1w0 (α := Ins) (T := y282) (fun _ h => y2b3 h) h4
  obtain ⟨rows, rfl, _, k5, l5⟩ := y1w0 (α := Row) (T := y2ei) (fun _ h => y2ds h) h5
  exact ⟨⟨regs, params, ret, code, rows⟩, rfl, ⟨k1, l1, k2, l2, k3, k4, l4, k5, l5⟩⟩
end Go.Vm
namespace Go.Vm
def calls (o : Int) : Bool := decide (23 ≤ o) && decide (o ≤ 26)
def ends (o : Int) : Bool := decide (o = 27) || decide (o = 30) || decide (o = 31)
def leads (o : Int) : Bool := decide (o = 27) || decide (o = 28) || decide (o = 29)
def throws (o : Int) : Bool := (decide (7 ≤ o) && decide (o ≤ 12)) || decide (o = 20) || decide (o = 21) || decide (o = 31) || calls o
def writes (o : Int) : Bool := decide (o ∈ [1, 2, 3, 4, 5, 6, 13, 15, 16, 18, 20, 21, 22, 32]) || calls o
def defr (x : Ins) : Int := if writes x.op then x.d else -1
def reads (o : Int) : Nat :=
  if o ∈ [4, 6, 7, 8, 10, 12, 15, 16, 19, 21, 22, 31] then 1 else if o ∈ [5, 9, 11, 13, 17, 28] then 2 else if o = 14 then 3 else 0
def uses (x : Ins) : Option (List Int) :=
  if calls x.op then x.args
  else if x.op = 29 then (if x.b < 0 then some [x.a] else some [x.a, x.b])
  else if x.op = 30 then (if 0 ≤ x.a then some [x.a] else none)
  else if reads x.op = 1 then some [x.a] else if reads x.op = 2 then some [x.a, x.b] else if reads x.op = 3 then some [x.a, x.b, x.c] else none
theorem y1xk {x : Ins} (h : calls x.op = false) : (lst (uses x)).length ≤ 3 := by
  unfold uses
  rw [h]
  simp only [Bool.false_eq_true, if_false]
  repeat' split
  all_goals simp
theorem ydz (o : Int) : o = 1 ∨ o = 2 ∨ o = 3 ∨ o = 4 ∨ o = 5 ∨ o = 6 ∨ o = 7 ∨ o = 8 ∨ o = 9 ∨ o = 10 ∨ o = 11 ∨ o = 12 ∨ o = 13 ∨ o = 14 ∨ o = 15 ∨ o = 16 ∨ o = 17 ∨ o = 18 ∨ o = 19 ∨ o = 20 ∨ o = 21 ∨ o = 22 ∨ o = 23 ∨ o = 24 ∨ o = 25 ∨ o = 26 ∨ o = 27 ∨ o = 28 ∨ o = 29 ∨ o = 30 ∨ o = 31 ∨ o = 32 ∨ o = 33 ∨ o < 1 ∨ 33 < o := by omega
theorem lo_f {o : Int} (h : o < 1) : (¬ o = 1 ∧ ¬ o = 2 ∧ ¬ o = 3 ∧ ¬ o = 4 ∧ ¬ o = 5 ∧ ¬ o = 6 ∧ ¬ o = 7 ∧ ¬ o = 8 ∧ ¬ o = 9 ∧ ¬ o = 10 ∧ ¬ o = 11 ∧ ¬ o = 12 ∧ ¬ o = 13 ∧ ¬ o = 14 ∧ ¬ o = 15 ∧ ¬ o = 16 ∧ ¬ o = 17 ∧ ¬ o = 18 ∧ ¬ o = 19 ∧ ¬ o = 20 ∧ ¬ o = 21 ∧ ¬ o = 22 ∧ ¬ o = 23 ∧ ¬ o = 24 ∧ ¬ o = 25 ∧ ¬ o = 26 ∧ ¬ o = 27 ∧ ¬ o = 28 ∧ ¬ o = 29 ∧ ¬ o = 30 ∧ ¬ o = 31 ∧ ¬ o = 32 ∧ ¬ o = 33) ∧ ¬ 7 ≤ o ∧ ¬ 23 ≤ o ∧ ¬ 1 ≤ o := by omega
theorem hi_f {o : Int} (h : 33 < o) : (¬ o = 1 ∧ ¬ o = 2 ∧ ¬ o = 3 ∧ ¬ o = 4 ∧ ¬ o = 5 ∧ ¬ o = 6 ∧ ¬ o = 7 ∧ ¬ o = 8 ∧ ¬ o = 9 ∧ ¬ o = 10 ∧ ¬ o = 11 ∧ ¬ o = 12 ∧ ¬ o = 13 ∧ ¬ o = 14 ∧ ¬ o = 15 ∧ ¬ o = 16 ∧ ¬ o = 17 ∧ ¬ o = 18 ∧ ¬ o = 19 ∧ ¬ o = 20 ∧ ¬ o = 21 ∧ ¬ o = 22 ∧ ¬ o = 23 ∧ ¬ o = 24 ∧ ¬ o = 25 ∧ ¬ o = 26 ∧ ¬ o = 27 ∧ ¬ o = 28 ∧ ¬ o = 29 ∧ ¬ o = 30 ∧ ¬ o = 31 ∧ ¬ o = 32 ∧ ¬ o = 33) ∧ 7 ≤ o ∧ 23 ≤ o ∧ ¬ o ≤ 12 ∧ ¬ o ≤ 26 ∧ 1 ≤ o := by omega
end Go.Vm
namespace Go.Vm
abbrev Fx := List Int
def unq (r : Int) (s : Fx) : Fx := s.map fun q => if q = r then -1 else q
def wrtL (s : Fx) (r : Int) : Fx := unq r (s.set r.toNat (-1))
def behM (s : Fx) (x : Ins) : Fx :=
  if defr x < 0 ∨ (x.op = 4 ∧ x.a = defr x) then s
  else if x.op = 4 then
    (if 0 ≤ s.getD x.a.toNat (-1) ∧ s.getD x.a.toNat (-1) ≠ defr x then (wrtL s (defr x)).set (defr x).toNat (s.getD x.a.toNat (-1))
     else if s.getD x.a.toNat (-1) = defr x then s else (wrtL s (defr x)).set (defr x).toNat x.a)
  else (wrtL s (defr x)).set (defr x).toNat (-1)
end Go.Vm
namespace Go.Vm
end Go.Vm
namespace Go.Vm
open Cel
attribute [local simp] y9 y2a yu
def okB (b : UInt8) : Bool := (decide (97 ≤ b.toNat) && decide (b.toNat ≤ 122)) || (decide (65 ≤ b.toNat) && decide (b.toNat ≤ 90)) || (decide (48 ≤ b.toNat) && decide (b.toNat ≤ 57)) || decide (b.toNat = 95) || decide (b.toNat = 36) || decide (b.toNat = 47)
def y84 (s : List UInt8) : Bool := decide (1 ≤ s.length) && decide (s.length ≤ 60) && s.all okB
theorem y1dp (s : List UInt8) (i : Nat) (hi : i < s.length) (v18 : AV) :
    q7_4 (.bool false) (.ls 0 1 1 0 s.length) v18 (.int .i64 i) [⟨1, .arr false false 1 (s.map fun b => [.int .u8 b.toNat])⟩] =
      if okB s[i] then q7_3 (.bool false) (.ls 0 1 1 0 s.length) v18 (.int .i64 i) [⟨1, .arr false false 1 (s.map fun b => [.int .u8 b.toNat])⟩] else some ⟨.bool false, [], true, [], []⟩ := by
  have hc : ((i : Int) < (s.length : Int)) := by omega
  generalize hb : s[i].toNat = n
  have e : (s.map fun b => ([.int .u8 b.toNat] : List AV))[i]? = some [.int .u8 (n : Int)] := by
    rw [List.getElem?_map, List.getElem?_eq_getElem hi, ← hb]; rfl
  have ho : okB s[i] = ((decide (97 ≤ n) && decide (n ≤ 122)) || (decide (65 ≤ n) && decide (n ≤ 90)) || (decide (48 ≤ n) && decide (n ≤ 57)) || decide (n = 95) || decide (n = 36) || decide (n = 47)) := by
    rw [okB, hb]
  rw [ho]
  have c1 : ∀ k : Nat, ((k : Int) ≤ (n : Int)) = (k ≤ n) := fun k => by simp
  have f1 : ((97 : Int) ≤ (n : Int)) = (97 ≤ n) := c1 97
  have f2 : ((65 : Int) ≤ (n : Int)) = (65 ≤ n) := c1 65
  have f3 : ((48 : Int) ≤ (n : Int)) = (48 ≤ n) := c1 48
  have g1 : ((n : Int) ≤ (122 : Int)) = (n ≤ 122) := by simp; omega
  have g2 : ((n : Int) ≤ (90 : Int)) = (n ≤ 90) := by simp; omega
  have g3 : ((n : Int) ≤ (57 : Int)) = (n ≤ 57) := by simp; omega
  have d1 : ((n : Int) = (95 : Int)) = (n = 95) := by simp; omega
  have d2 : ((n : Int) = (36 : Int)) = (n = 36) := by simp; omega
  have d3 : ((n : Int) = (47 : Int)) = (n = 47) := by simp; omega
  have step : ∀ (b1 b2 b3 b4 b5 b6 b7 b8 b9 : Bool), decide (97 ≤ n) = b1 → decide (n ≤ 122) = b2 → decide (65 ≤ n) = b3 → decide (n ≤ 90) = b4 → decide (48 ≤ n) = b5 → decide (n ≤ 57) = b6 → decide (n = 95) = b7 → decide (n = 36) = b8 → decide (n = 47) = b9 →
      q7_4 (.bool false) (.ls 0 1 1 0 s.length) v18 (.int .i64 i) [⟨1, .arr false false 1 (s.map fun b => [.int .u8 b.toNat])⟩] =
      if (b1 && b2) || (b3 && b4) || (b5 && b6) || b7 || b8 || b9 then q7_3 (.bool false) (.ls 0 1 1 0 s.length) v18 (.int .i64 i) [⟨1, .arr false false 1 (s.map fun b => [.int .u8 b.toNat])⟩] else some ⟨.bool false, [], true, [], []⟩ := by
    intro b1 b2 b3 b4 b5 b6 b7 b8 b9 h1 h2 h3 h4 h5 h6 h7 h8 h9
    rw [q7_4]
    have e0 : yw 1 (.ls 0 1 1 0 s.length) (.int .i64 i) = some (.lp 0 1 i 0) := by simp [yw, hc, hi]
    have tri : ∀ a b : Bool, (a = false) ∨ (a = true ∧ b = false) ∨ (a = true ∧ b = true) := by intro a b; cases a <;> cases b <;> simp
    have l1 : y8 .geq (.int .u8 (n : Int)) (.int .u8 97) = some (.bool b1) := by rw [yan]; simp only [f1, h1]
    have l2 : y8 .leq (.int .u8 (n : Int)) (.int .u8 122) = some (.bool b2) := by rw [yjc]; simp only [g1, h2]
    have l3 : y8 .geq (.int .u8 (n : Int)) (.int .u8 65) = some (.bool b3) := by rw [yan]; simp only [f2, h3]
    have l4 : y8 .leq (.int .u8 (n : Int)) (.int .u8 90) = some (.bool b4) := by rw [yjc]; simp only [g2, h4]
    have l5 : y8 .geq (.int .u8 (n : Int)) (.int .u8 48) = some (.bool b5) := by rw [yan]; simp only [f3, h5]
    have l6 : y8 .leq (.int .u8 (n : Int)) (.int .u8 57) = some (.bool b6) := by rw [yjc]; simp only [g3, h6]
    have l7 : y8 .eql (.int .u8 (n : Int)) (.int .u8 95) = some (.bool b7) := by rw [y17]; simp only [d1, h7]
    have l8 : y8 .eql (.int .u8 (n : Int)) (.int .u8 36) = some (.bool b8) := by rw [y17]; simp only [d2, h8]
    have l9 : y8 .eql (.int .u8 (n : Int)) (.int .u8 47) = some (.bool b9) := by rw [y17]; simp only [d3, h9]
    clear h1 h2 h3 h4 h5 h6 h7 h8 h9
    simp only [e0, y7, y3e, yem, e, List.drop_zero, y7i, List.head?_cons, l1]
    generalize q7_3 (.bool false) (.ls 0 1 1 0 s.length) v18 (.int .i64 i) [⟨1, .arr false false 1 (s.map fun b => [.int .u8 b.toNat])⟩] = Z
    rcases tri b1 b2 with rfl | ⟨rfl, rfl⟩ | ⟨rfl, rfl⟩ <;> simp only [l2, ybm, yi4, yog, yj5, ym8, y7, y2c, y30, y2p, y1k, y25, l3, y22] <;> try (simp; done)
    all_goals rcases tri b3 b4 with rfl | ⟨rfl, rfl⟩ | ⟨rfl, rfl⟩ <;> simp only [l4, ybm, yi4, yog, yj5, ym8, y7, y2c, y30, y2p, y1k, y25, l5, y22] <;> try (simp; done)
    all_goals rcases tri b5 b6 with rfl | ⟨rfl, rfl⟩ | ⟨rfl, rfl⟩ <;> simp only [l6, ybm, yi4, yog, yj5, ym8, y7, y2c, y30, y2p, y1k, y25, l7, y22] <;> try (simp; done)
    all_goals cases b7 <;> simp only [ybm, yi4, yog, yj5, ym8, y7, y2c, y30, y2p, y1k, y25, l8, y22] <;> try (simp; done)
    all_goals cases b8 <;> simp only [ybm, yi4, yog, yj5, ym8, y7, y2c, y30, y2p, y1k, y25, l9, y22] <;> try (simp; done)
    all_goals cases b9 <;> simp
  exact step _ _ _ _ _ _ _ _ _ rfl rfl rfl rfl rfl rfl rfl rfl rfl
end Go.Vm
namespace Go.Vm
open Cel
attribute [local simp] y9 y2a yu
theorem y1m0 (s : List UInt8) (hl : s.length ≤ 60) : ∀ (d i : Nat), i + d = s.length →
    y1o0 (.bool false) (.ls 0 1 1 0 s.length) (.int .i64 s.length) (.int .i64 i) [⟨1, .arr false false 1 (s.map fun b => [.int .u8 b.toNat])⟩] = some ⟨.bool ((s.drop i).all okB), [], true, [], []⟩ := by
  intro d
  induction d with
  | zero =>
    intro i hi
    have e1 : s.drop i = [] := List.drop_eq_nil_of_le (by omega)
    have hc : ¬ ((i : Int) < (s.length : Int)) := by omega
    rw [y14v, e1]
    simp [q7_6, q7_5, q7_1, hc]
  | succ d ih =>
    intro i hi
    have hlt : i < s.length := by omega
    have hc : ((i : Int) < (s.length : Int)) := by omega
    have := ih (i + 1) (by omega)
    push_cast at this
    have e1 : (s.drop i).all okB = (okB s[i] && (s.drop (i + 1)).all okB) := by rw [List.drop_eq_getElem_cons hlt, List.all_cons]
    have hw : IntKind.wrap .i64 ((i : Int) + 1) = (i : Int) + 1 := y33 (by omega) (by omega)
    rw [y14v, e1]
    simp only [q7_6, q7_5, yq, y7, hc, decide_true, y1k, y1dp s i hlt]
    cases okB s[i]
    · simp
    · simp [q7_3, hw, this]
@[simp] theorem y2rd (s : List UInt8) : (yb E).p 60 [.str s, .bool false] = some ⟨.bool (y84 s), [], true, [], []⟩ := by
  rw [x_q7]
  by_cases h1 : ((s.length : Int) < 1)
  · have : ¬ 1 ≤ s.length := by omega
    simp [q7_1, q7_3, q7_4, q7_5, q7_6, q7_8, y1th, y1se, h1, y84, this]
  by_cases h2 : ((60 : Int) < (s.length : Int))
  · have : ¬ s.length ≤ 60 := by omega
    simp [q7_1, q7_3, q7_4, q7_5, q7_6, q7_8, y1th, y1se, h1, h2, y84, this]
  · have a1 : 1 ≤ s.length := by omega
    have a2 : s.length ≤ 60 := by omega
    have := y1m0 s a2 s.length 0 (by omega)
    simp only [List.drop_zero] at this
    simp only [y84, a1, a2, decide_true, Bool.true_and, ← this]
    simp [y1se, y1th, q7_8, h1, h2, s2bC]
def lead : List UInt8 → Nat
  | [] => 0
  | c :: r => if c = 91 then lead r + 1 else 0
theorem yb8 : ∀ s : List UInt8, lead s ≤ s.length
  | [] => Nat.le_refl _
  | c :: r => by
    have := yb8 r
    simp only [lead, List.length_cons]
    split <;> omega
theorem yv7 : ∀ {s : List UInt8} {i : Nat}, i < lead s → s[i]? = some 91
  | [], i, h => by simp [lead] at h
  | c :: r, i, h => by
    simp only [lead] at h
    split at h
    · rename_i e
      cases i with
      | zero => simp [e]
      | succ i => simpa using yv7 (s := r) (by omega)
    · omega
theorem yvk : ∀ {s : List UInt8} {c : UInt8}, s[lead s]? = some c → c ≠ 91
  | [], c, h => by simp at h
  | d :: r, c, h => by
    simp only [lead] at h
    split at h
    · exact yvk (s := r) (by simpa using h)
    · rename_i e; simp at h; rw [← h]; exact e
def yqu (s : List UInt8) : Nat :=
  if 8 < lead s ∨ lead s = s.length then 0
  else if s[lead s]? = some 73 ∨ s[lead s]? = some 74 then lead s + 1
  else if s[lead s]? = some 76 then
    (if (s.drop (lead s + 1)).findIdx (· == 59) < (s.drop (lead s + 1)).length ∧ y84 ((s.take (lead s + 1 + (s.drop (lead s + 1)).findIdx (· == 59))).drop (lead s + 1)) = true then lead s + 1 + (s.drop (lead s + 1)).findIdx (· == 59) + 1 else 0)
  else 0
theorem ixstr {s : List UInt8} {i : Nat} {c : UInt8} (h : s[i]? = some c) : y5o (.str s) (.int .i64 i) = some (.int .u8 c.toNat) := by
  simp [y5o, h]
theorem y5w (c : UInt8) (k : UInt8) : ((c.toNat : Int) = (k.toNat : Int)) ↔ c = k := by
  rw [Int.ofNat_inj]; exact ⟨fun h => UInt8.toNat_inj.1 h, fun h => by rw [h]⟩
theorem y1rb (s : List UInt8) (hs : s.length ≤ 9223372036854775807) (h : Heap) : ∀ (d i : Nat), i + d = lead s → yq5 (.str s) (.int .i64 i) h = yl8 (.str s) (.int .i64 (lead s)) h := by
  intro d
  induction d with
  | zero =>
    intro i hi
    obtain rfl : i = lead s := by omega
    rw [yrx]
    have := yb8 s
    by_cases hc : lead s < s.length
    · have e := List.getElem?_eq_getElem hc
      have hne := yvk e
      have hc' : ((lead s : Int) < (s.length : Int)) := by omega
      have hb : ¬ ((s[lead s].toNat : Int) = 91) := fun hh => hne ((y5w _ 91).1 hh)
      simp [y1h8, hc', ixstr e, hb]
    · have hc' : ¬ ((lead s : Int) < (s.length : Int)) := by omega
      simp [y1h8, hc']
  | succ d ih =>
    intro i hi
    have e := yv7 (s := s) (i := i) (by omega)
    have := yb8 s
    have hc' : ((i : Int) < (s.length : Int)) := by omega
    have ih := ih (i + 1) (by omega)
    push_cast at ih
    rw [yrx]
    simp [y1h8, hc', ixstr e, y2fy, y1p (show i < s.length by omega) hs, ih]
theorem y1tg (s : List UInt8) (hs : s.length ≤ 9223372036854775807) (n : Nat) (h : Heap) : ∀ (d i : Nat), n + 1 ≤ i → i + d = s.length →
    y1oc (.str s) (.int .i64 n) (.int .i64 i) h =
      some ⟨.int .i64 (if (s.drop i).findIdx (· == 59) < (s.drop i).length ∧ y84 ((s.take (i + (s.drop i).findIdx (· == 59))).drop (n + 1)) = true then (i + (s.drop i).findIdx (· == 59) + 1 : Nat) else (0 : Nat)), [], true, [], []⟩ := by
  intro d
  induction d with
  | zero =>
    intro i h1 hi
    rw [y117]
    have e1 : s.drop i = [] := List.drop_eq_nil_of_le (by omega)
    have hc : ¬ ((i : Int) < (s.length : Int)) := by omega
    simp [y1cg, q9_1, hc, e1]
  | succ d ih =>
    intro i h1 hi
    rw [y117]
    have hlt : i < s.length := by omega
    have e := List.getElem?_eq_getElem hlt
    have hc : ((i : Int) < (s.length : Int)) := by omega
    have hd : s.drop i = s[i] :: s.drop (i + 1) := List.drop_eq_getElem_cons hlt
    by_cases hb : s[i] = 59
    · have hb' : ((s[i].toNat : Int) = 59) := (y5w _ 59).2 hb
      have hf : (s.drop i).findIdx (· == 59) = 0 := by rw [hd, List.findIdx_cons]; simp [hb]
      have hw1 : IntKind.wrap .i64 ((n : Int) + 1) = (n : Int) + 1 := y1p (show n < s.length by omega) hs
      have hsl : ydq (.str s) (some (.int .i64 ((n : Int) + 1))) (some (.int .i64 (i : Int))) = some (.str ((s.take i).drop (n + 1))) := by
        have a1 : ((0 : Int) ≤ (i : Int) ∧ (i : Int) ≤ (s.length : Int)) := by omega
        have a2 : ((0 : Int) ≤ (n : Int) + 1 ∧ (n : Int) + 1 ≤ (i : Int)) := by omega
        simp only [ydq, ya2, yil, if_pos a1, Int.toNat_natCast, if_pos a2]
        rfl
      rw [hf]
      have hlen : 0 < (s.drop i).length := by rw [List.length_drop]; omega
      cases hn : y84 ((s.take i).drop (n + 1)) with
      | true =>
        simp only [y1cg, q9_7, q9_6, q9_5, ydr, y7, yq, hc, decide_true, y1k, ixstr e, y17, hb', y2e, hw1, hsl]
        simp [hn, hlt, y1p hlt hs]
        omega
      | false =>
        simp only [y1cg, q9_7, q9_6, q9_5, ydr, y7, yq, hc, decide_true, y1k, ixstr e, y17, hb', y2e, hw1, hsl]
        simp [hn, q9_4]
    · have hb' : ¬ ((s[i].toNat : Int) = 59) := fun hh => hb ((y5w _ 59).1 hh)
      have hf : (s.drop i).findIdx (· == 59) = (s.drop (i + 1)).findIdx (· == 59) + 1 := by
        rw [hd, List.findIdx_cons]
        have : (s[i] == 59) = false := by simpa using hb
        rw [this]; rfl
      have hl : (s.drop i).length = (s.drop (i + 1)).length + 1 := by rw [hd]; rfl
      have ih := ih (i + 1) (by omega) (by omega)
      push_cast at ih
      rw [hf, hl]
      have e2 : i + ((s.drop (i + 1)).findIdx (· == 59) + 1) = i + 1 + (s.drop (i + 1)).findIdx (· == 59) := by omega
      rw [e2]
      simp only [y1cg, q9_7, q9_6, q9_3, ydr, y7, yq, hc, decide_true, y1k, y25, ixstr e, y17, hb', decide_false, y2e, y1p hlt hs, ih]
      simp only [Nat.add_lt_add_iff_right]
      push_cast
      rfl
@[simp] theorem y2jm (s : List UInt8) (hs : s.length ≤ 9223372036854775807) : (yb E).p 44 [.str s] = some ⟨.int .i64 (yqu s), [], true, [], []⟩ := by
  rw [x_q9]
  have h0 := y1rb s hs [] (lead s) 0 (by omega)
  simp only [Int.ofNat_zero] at h0
  have hle := yb8 s
  have key : yl8 (.str s) (.int .i64 (lead s)) [] = some ⟨.int .i64 (yqu s), [], true, [], []⟩ := by
    unfold yqu
    by_cases h8 : 8 < lead s
    · have h8' : ((8 : Int) < (lead s : Int)) := by omega
      simp [yl8, h8', h8]
    by_cases hl : lead s = s.length
    · have h8' : ¬ ((8 : Int) < (lead s : Int)) := by omega
      have hl' : ((lead s : Int) = (s.length : Int)) := by omega
      have h9' : ¬ ((8 : Int) < (s.length : Int)) := by omega
      simp [yl8, h8', h9', hl', hl]
    · have h8' : ¬ ((8 : Int) < (lead s : Int)) := by omega
      have hl' : ¬ ((lead s : Int) = (s.length : Int)) := by omega
      have hlt : lead s < s.length := by omega
      have e := List.getElem?_eq_getElem hlt
      rw [if_neg (by simp [h8, hl]), e]
      have hw := y1p hlt hs
      by_cases c1 : s[lead s] = 73
      · have c1' : ((s[lead s].toNat : Int) = 73) := (y5w _ 73).2 c1
        simp [yl8, y19d, y1bw, yvr, h8', hl', ixstr e, c1', c1, hw]
      by_cases c2 : s[lead s] = 74
      · have c2' : ((s[lead s].toNat : Int) = 74) := (y5w _ 74).2 c2
        simp [yl8, y19d, y1bw, yvr, h8', hl', ixstr e, c2', c2, hw]
      have c1' : ¬ ((s[lead s].toNat : Int) = 73) := fun hh => c1 ((y5w _ 73).1 hh)
      have c2' : ¬ ((s[lead s].toNat : Int) = 74) := fun hh => c2 ((y5w _ 74).1 hh)
      by_cases c3 : s[lead s] = 76
      · have c3' : ((s[lead s].toNat : Int) = 76) := (y5w _ 76).2 c3
        have := y1tg s hs (lead s) [] _ (lead s + 1) (Nat.le_refl _) (show lead s + 1 + (s.length - (lead s + 1)) = s.length by omega)
        push_cast at this
        simp [yl8, y19d, y1bw, yvr, y1yi, y1zb, y2d7, h8', hl', ixstr e, c1', c2', c3', c1, c2, c3, hw, this]
        split <;> simp
      · have c3' : ¬ ((s[lead s].toNat : Int) = 76) := fun hh => c3 ((y5w _ 76).1 hh)
        simp [yl8, y19d, y1bw, yvr, y1yi, y1zb, q9_1, h8', hl', ixstr e, c1', c2', c3', c1, c2, c3]
  rw [← key, ← h0]
  simp [y2ff, y28a]
def y83 (s : List UInt8) : Bool := decide (s ≠ []) && decide (yqu s = s.length)
@[simp] theorem y2jn (s : List UInt8) (hs : s.length ≤ 9223372036854775807) : (yb E).p 37 [.str s] = some ⟨.bool (y83 s), [], true, [], []⟩ := by
  rw [x_q8]
  have h := y2jm s hs
  by_cases h1 : s = []
  · simp [q8_1, h1, y83]
  · have e : ((yqu s : Int) = (s.length : Int)) ↔ yqu s = s.length := by omega
    simp [q8_1, h1, y83, h, e]
end Go.Vm
namespace Go.Vm
open Cel
attribute [local simp] y9 y2a yu
def numK (c : Int) : Int × Int × Int :=
  if c ∈ [96, 100, 104, 108, 112, 120, 122, 124, 126, 128, 130] then (1, 1, 1)
  else if c ∈ [97, 101, 105, 109, 113, 127, 129, 131] then (2, 2, 2)
  else if c ∈ [121, 123, 125] then (2, 1, 2)
  else if c = 148 then (2, 2, 1)
  else if c ∈ [116, 145, 146, 147] then (1, 0, 1)
  else if c = 117 then (2, 0, 2)
  else if c = 133 then (1, 0, 2)
  else if c = 136 then (2, 0, 1)
  else (0, 0, 0)
def y13s (r : Option (Ex AV)) (k : Int × Int × Int) : Bool :=
  match r with
  | some ⟨.tup [.int .i64 a, .int .i64 b, .int .i64 c], [], true, [], []⟩ => a == k.1 && b == k.2.1 && c == k.2.2
  | _ => false
theorem yqv {r : Option (Ex AV)} {k : Int × Int × Int} (h : y13s r k = true) : r = some ⟨.tup [.int .i64 k.1, .int .i64 k.2.1, .int .i64 k.2.2], [], true, [], []⟩ := by
  unfold y13s at h
  split at h
  · simp only [Bool.and_eq_true, beq_iff_eq] at h
    obtain ⟨⟨h1, h2⟩, h3⟩ := h
    rw [h1, h2, h3]
  · cases h
theorem yaf {n : Nat} {f : Nat → Bool} (h : ((List.range n).all f) = true) (i : Nat) (hi : i < n) : f i = true := by
  rw [List.all_eq_true] at h
  exact h i (List.mem_range.2 hi)
theorem y2ll : ((List.range 60).all fun i => y13s ((both E 30).1.p 50 [.int .i64 (95 + i)]) (numK (95 + i))) = true := by kernel_rfl
theorem yhl {c : Int} (h : c < 96 ∨ 148 < c) : numK c = (0, 0, 0) := by
  simp only [numK, List.mem_cons, List.not_mem_nil, or_false]
  repeat' split
  all_goals first | rfl | omega
theorem y2am (c : Int) : (yb E).p 50 [.int .i64 c] = some ⟨.tup [.int .i64 (numK c).1, .int .i64 (numK c).2.1, .int .i64 (numK c).2.2], [], true, [], []⟩ := by
  by_cases h : c < 96 ∨ 148 < c
  · rw [yhl h, y2pg]
    have h2 : ∀ k : Int, 96 ≤ k → k ≤ 148 → ¬ c = k := by omega
    simp [y2eb, y1cp, y292, y2c4, y2ck, y1uj, y2bf, ylh, y2fi, y81, y1rd, y1ql, y1pk, h2]
    rfl
  · have := yaf y2ll (c - 95).toNat (by omega)
    have e : (95 + ((c - 95).toNat : Int)) = c := by omega
    simp only [e] at this
    exact y1uv 30 (yqv this)
end Go.Vm
namespace Go.Vm
def yo (x : Ins) : Int × Int × Int × Int × Bool :=
  match x.op with
  | 1 => (0, -1, -1, -1, true)
  | 2 => (3, -1, -1, -1, true)
  | 3 => (3, -1, -1, -1, true)
  | 4 => (0, 0, -1, -1, true)
  | 5 => ((numK x.n).2.2, (numK x.n).1, (numK x.n).2.1, -1, decide (¬ (numK x.n).2.1 = 0))
  | 6 => ((numK x.n).2.2, (numK x.n).1, -1, -1, decide (¬ (numK x.n).1 = 0) && decide ((numK x.n).2.1 = 0))
  | 7 => (-1, 0, -1, -1, true)
  | 8 => (-1, 3, -1, -1, true)
  | 9 => (-1, 3, 1, -1, true)
  | 10 => (-1, 1, -1, -1, true)
  | 11 => (-1, 3, 3, -1, true)
  | 12 => (-1, 3, -1, -1, y83 x.s)
  | 13 => (0, 3, 1, -1, true)
  | 14 => (-1, 3, 1, 0, true)
  | 15 => (1, 3, -1, -1, true)
  | 16 => (0, 3, -1, -1, decide (0 ≤ x.n))
  | 17 => (-1, 3, 0, -1, decide (0 ≤ x.n))
  | 18 => (0, -1, -1, -1, true)
  | 19 => (-1, 0, -1, -1, true)
  | 20 => (3, -1, -1, -1, true)
  | 21 => (3, 1, -1, -1, y83 x.s)
  | 22 => (1, 3, -1, -1, y83 x.s)
  | 23 => (if x.d = -1 then -1 else 0, -1, -1, -1, decide (0 ≤ x.n) && decide ((lst x.args).length ≤ 21))
  | 24 => (if x.d = -1 then -1 else 0, -1, -1, -1, decide (0 < (lst x.args).length) && decide (0 ≤ x.n) && decide ((lst x.args).length ≤ 21))
  | 25 => (if x.d = -1 then -1 else 0, -1, -1, -1, decide (0 < (lst x.args).length) && decide ((lst x.args).length ≤ 21))
  | 26 => (if x.d = -1 then -1 else 0, -1, -1, -1, decide (0 ≤ x.n) && decide ((lst x.args).length ≤ 21))
  | 27 => (-1, -1, -1, -1, true)
  | 28 => (-1, 1, 1, -1, decide (0 ≤ x.n) && decide (x.n ≤ 5))
  | 29 => (-1, 3, if x.b = -1 then -1 else 3, -1, decide (x.n = 0) || decide (x.n = 1))
  | 30 => (-1, if x.a = -1 then -1 else 0, -1, -1, true)
  | 31 => (-1, 3, -1, -1, true)
  | 32 => (3, -1, -1, -1, true)
  | 33 => (-1, -1, -1, -1, true)
  | _ => (0, 0, 0, 0, false)
def exK (k : Int × Int × Int × Int × Bool) : Ex AV := ⟨.tup [.agg [.int .i64 k.1, .int .i64 k.2.1, .int .i64 k.2.2.1, .int .i64 k.2.2.2.1], .bool k.2.2.2.2], [], true, [], []⟩
theorem yns {x : Ins} (h : x.op < 1 ∨ 33 < x.op) : yo x = (0, 0, 0, 0, false) := by
  unfold yo
  split <;> first | rfl | omega
end Go.Vm
namespace Go.Vm
def regK (R : List Int) (r : Int) : Int := if r < 0 then 0 else R.getD r.toNat 0
def inR (R : List Int) (r : Int) : Bool := decide (0 ≤ r) && decide (r < R.length)
def y23 (R : List Int) (w r : Int) : Bool := decide (w < 0) || (inR R r && (decide (w ≤ 0) || decide (regK R r = w)))
def yke (R : List Int) (x : Ins) : Bool :=
  match lst x.args with
  | [] => true
  | r :: _ => !(decide (x.op = 24) || decide (x.op = 25)) || decide (regK R r = 3)
def y75 (R : List Int) (x : Ins) : Bool := !calls x.op || (yke R x && (lst x.args).all (inR R))
def y3a (R : List Int) (ret : Int) (n : Nat) (x : Ins) : Bool :=
  if x.op = 1 then decide (¬ regK R x.d = 3) && (decide (regK R x.d = 2) || decide (x.n = IntKind.wrap .i64 (IntKind.wrap .i32 x.n)))
  else if x.op = 4 then decide (regK R x.d = regK R x.a)
  else if x.op = 7 then decide (¬ regK R x.a = 3)
  else if x.op = 30 then (decide (x.a = -1) == decide (ret = 0)) && (decide (x.a = -1) || decide (regK R x.a = ret))
  else !leads x.op || (decide (0 ≤ x.t) && decide (x.t < n))
def y1m (f : Fn) (x : Ins) : Bool :=
  (yo x).2.2.2.2 && y23 (lst f.regs) (yo x).1 x.d && y23 (lst f.regs) (yo x).2.1 x.a && y23 (lst f.regs) (yo x).2.2.1 x.b && y23 (lst f.regs) (yo x).2.2.2.1 x.c &&
    y75 (lst f.regs) x && y3a (lst f.regs) f.ret (lst f.code).length x
theorem yvd {R : List Int} {r : Int} (h : inR R r = true) : 0 ≤ r ∧ r.toNat < R.length ∧ R[r.toNat]? = some (regK R r) := by
  simp only [inR, Bool.and_eq_true, decide_eq_true_eq] at h
  have h1 : r.toNat < R.length := by omega
  refine ⟨h.1, h1, ?_⟩
  rw [regK, if_neg (by omega), List.getD_eq_getElem?_getD, List.getElem?_eq_getElem h1]; rfl
def y52 (n : Nat) (t : Int) : Bool := decide (0 ≤ t) && decide (t < n)
def y3o (C : List Ins) (i : Nat) (x : Ins) : Bool :=
  !((decide (x.op = 32) && (decide (i = 0) || !ends ((C.getD (i - 1) default).op))) || (leads x.op && decide ((C.getD x.t.toNat default).op = 32)))
def y45 (f : Fn) (C : List Ins) : Nat → List Ins → Bool
  | _, [] => true
  | i, x :: r => y1m f x && y3o C i x && y45 f C (i + 1) r
def y4f (C : List Ins) (r : Row) : Bool :=
  !(decide (r.f < 0) || decide (r.t ≤ r.f) || decide ((C.length : Int) < r.t) || decide (r.at_ < 0) || decide ((C.length : Int) ≤ r.at_) || decide (¬ (C.getD r.at_.toNat default).op = 32))
def y8b (R : List Int) : Nat → List Int → List Int → Bool
  | _, _, [] => true
  | i, seen, p :: r => (inR R p && !seen.contains p && decide (i ≤ 20)) && y8b R (i + 1) (seen ++ [p]) r
def wf (f : Fn) : Bool :=
  decide (1 ≤ (lst f.code).length) && decide ((lst f.code).length ≤ 20000) && decide ((lst f.regs).length ≤ 20000) && decide (0 ≤ f.ret) && decide (f.ret ≤ 3) && ends ((lst f.code).getD ((lst f.code).length - 1) default).op &&
    (lst f.regs).all (fun k => decide (1 ≤ k) && decide (k ≤ 3)) && y8b (lst f.regs) 0 [] (lst f.params) && y45 f (lst f.code) 0 (lst f.code) && (lst f.rows).all (y4f (lst f.code))
end Go.Vm
namespace Go.Vm
open Cel
def nz {α : Type} : List α → Option (List α)
  | [] => none
  | x :: L => some (x :: L)
@[simp] theorem yce {α : Type} (L : List α) : lst (nz L) = L := by cases L <;> rfl
section
variable {α : Type} [Cel α]
def y4n (α : Type) [Cel α] (j g : Nat) : List α → AV
  | [] => .nils
  | _ :: L => .ls j g (es α) 0 (L.length + 1)
def y5i (g : Nat) (o : AO) : List α → AO
  | [] => o
  | x :: L => ⟨g, .arr false false (es α) ((x :: L).map enc)⟩
@[simp] theorem y1pd (j g : Nat) : y4n α j g [] = .nils := rfl
@[simp] theorem y1px (g : Nat) (o : AO) : y5i g o ([] : List α) = o := rfl
@[simp] theorem y2gi (j g : Nat) (L : List α) (H : Heap) : y10 1 (y4n α j g L) H = some (.int .i64 L.length) := by
  cases L <;> simp [y4n, y10]
@[simp] theorem y261 (j g : Nat) (L : List α) : cellsOf (y4n α j g L) = [y4n α j g L] := by cases L <;> rfl
@[simp] theorem y2gm (j g : Nat) (L : List α) : y1a (y4n α j g L) = true := by cases L <;> rfl
theorem yt4 {H : Heap} {j g : Nat} {o : AO} {x : α} {L : List α} (h : H[j]? = some (y5i g o (x :: L))) : yn H j g = some (false, es α, (x :: L).map enc) := by
  simp [yn, y3m, h, y5i]
theorem y2f1 {H : Heap} {j g : Nat} {o : AO} {L : List α} (h : H[j]? = some (y5i g o L)) : fz H y19 (y4n α j g L) = some ⟨slA (nz L), L.all scal, ids1 (y4n α j g L)⟩ := by
  cases L with
  | nil => rfl
  | cons x L =>
    rw [y4n, y23o, yt4 h]
    simp only [List.drop_zero, Nat.zero_add, List.length_map, List.length_cons, Nat.le_refl, and_self, if_true]
    rw [show ((x :: L).map (enc (α := α))).take (L.length + 1) = (x :: L).map enc from y7o (x :: L), y1w4]
    simp [slA, nz, ids1]
theorem y1ap {H : Heap} {j g : Nat} {o : AO} {L : List α} (h : H[j]? = some (y5i g o L)) : yf H (y4n α j g L) = some ⟨match L with | [] => .nils | _ :: _ => .ls 0 0 (es α) 0 L.length, match L with | [] => [] | _ :: _ => [.arr false false (es α) (L.map enc)], L.all scal, [], []⟩ := by
  cases L with
  | nil => rfl
  | cons x L =>
    rw [y4n, ykz, yt4 h]
    simp only [List.drop_zero, Nat.zero_add, List.length_map, List.length_cons, Nat.le_refl, and_self, if_true]
    rw [show ((x :: L).map (enc (α := α))).take (L.length + 1) = (x :: L).map enc from y7o (x :: L), y1gd]
    simp
theorem yhz {H : Heap} {j g : Nat} {o : AO} {L : List α} (h : H[j]? = some (y5i g o L)) : yf H (y4n α j g L) = some (exO (nz L)) := by
  rw [y1ap h]
  cases L <;> rfl
theorem y22i {H : Heap} {fb j g b : Nat} {o : AO} {y : AV} {L M : List α} (hy : y3q H (es α) y = some (M.map enc)) (h : H[fb + j]? = some (y5i g o L)) (hs : (2 * (L.length + M.length) + 512) * b ≤ 2 ^ 48) :
    ∃ g', y3y fb (some j) (es α) b (y4n α (fb + j) g L) y H = some (y4n α (fb + j) g' (L ++ M), H.set (fb + j) (y5i g' o (L ++ M))) := by
  unfold y3y
  rw [hy]
  have hlt : fb + j < H.length := (List.getElem?_eq_some_iff.1 h).1
  cases L with
  | nil =>
    cases M with
    | nil =>
      refine ⟨g, ?_⟩
      simp only [y4n, List.map_nil, List.isEmpty_nil, if_true, List.append_nil, y5i]
      rw [y5i] at h
      rw [show H.set (fb + j) o = H from by
        refine List.ext_getElem? fun i => ?_
        rw [List.getElem?_set]
        split
        · rename_i e; subst e; simp [h]
        · rfl]
    | cons y M =>
      refine ⟨o.gen + 1, ?_⟩
      rw [y5i] at h
      have hm : (M.length + 1) * b ≤ 281474976710656 := Nat.le_trans (Nat.mul_le_mul_right b (by simp only [List.length_nil, List.length_cons]; omega)) hs
      simp [y4n, hm, y46, place, h, y5i]
  | cons x L =>
    refine ⟨g + 1, ?_⟩
    have h' : H[fb + j]? = some ⟨g, .arr false false (es α) ((x :: L).map enc)⟩ := h
    simp only [y4n, h']
    rw [if_pos (by simp; first | simpa using hs | exact .inl (by simpa using hs))]
    simp only [List.drop_zero]
    rw [show ((x :: L).map (enc (α := α))).take (L.length + 1) = (x :: L).map enc from y7o (x :: L)]
    simp [y4n, y5i, Nat.add_right_comm]
end
@[simp] theorem y2ib (h : Heap) (es id g es1 off len : Nat) : y3q h es (.ls id g es1 off len) = match yn h id g with
    | some (_, es', rows) => if es1 = es ∧ es' = es ∧ off + len ≤ rows.length then some ((rows.drop off).take len) else none
    | none => none := rfl
theorem y24e {H : Heap} {j g : Nat} {o : AO} {L : List Int} (h : H[j]? = some (y5i g o L)) : fz H y19 (y4n Int j g L) = some ⟨slA (nz L), true, ids1 (y4n Int j g L)⟩ := by
  rw [y2f1 h]
  simp
theorem y29b {H : Heap} {fb j g : Nat} {o : AO} {y : AV} {L : List Int} {n : Int} (hy : y3q H 1 y = some [[.int .i64 n]]) (h : H[fb + j]? = some (y5i g o L)) (hs : L.length ≤ 17000000000000) :
    ∃ g', y3y fb (some j) 1 8 (y4n Int (fb + j) g L) y H = some (y4n Int (fb + j) g' (L ++ [n]), H.set (fb + j) (y5i g' o (L ++ [n]))) := by
  refine y22i (α := Int) (M := [n]) hy h ?_
  have : (2 * (L.length + [n].length) + 512) * 8 ≤ (2 * (17000000000000 + 1) + 512) * 8 := Nat.mul_le_mul_right 8 (by simp only [List.length_singleton]; omega)
  exact Nat.le_trans this (by decide)
theorem y1qh {i : Int} {n : Nat} (h0 : 0 ≤ i) (h : i < n) (hn : n ≤ 9223372036854775807) : IntKind.wrap .i64 (i + 1) = i + 1 := by
  rw [y33] <;> omega
@[simp] theorem y2rq {α : Type} [Cel α] (x : α) (L : List α) : exO (nz (x :: L)) = ⟨.ls 0 0 (es α) 0 (L.length + 1), [.arr false false (es α) ((x :: L).map enc)], (x :: L).all scal, [], []⟩ := rfl
theorem yfl {H : Heap} {id g : Nat} {a : Int} (h : yn H id g = some (false, 1, [[.int .i64 a]])) : yf H (.ls id g 1 0 1) = some (exO (nz [a])) := y38 (α := Int) (L := [a]) h
theorem y1bo {H : Heap} {id g : Nat} {a b : Int} (h : yn H id g = some (false, 1, [[.int .i64 a], [.int .i64 b]])) : yf H (.ls id g 1 0 2) = some (exO (nz [a, b])) := y38 (α := Int) (L := [a, b]) h
abbrev D0 : AO := ⟨0, .dead⟩
section
variable {α : Type} [Cel α]
theorem y1r6 {H : Heap} {fb id g b : Nat} {sl : Option Nat} {y : AV} {L M T : List α} (hy : y3q H (es α) y = some (M.map enc)) (h : H[id]? = some ⟨g, .arr false false (es α) ((L ++ T).map enc)⟩) (hs : (2 * (L.length + M.length) + 512) * b ≤ 2 ^ 48) :
    y3y fb sl (es α) b (.ls id g (es α) 0 L.length) y H = some (.ls id (g + 1) (es α) 0 (L ++ M).length, H.set id ⟨g + 1, .arr false false (es α) ((L ++ M).map enc)⟩) := by
  unfold y3y
  rw [hy]
  simp only [h]
  rw [if_pos (by simp; first | simpa using hs | exact .inl (by simpa using hs))]
  simp only [List.drop_zero, List.map_append, List.length_append]
  rw [List.take_append_of_le_length (by simp), y7o, List.length_map]
end
theorem y2m0 {H : Heap} {id g : Nat} {L T : List Int} {i : Int} (h : yn H id g = some (false, 1, (L ++ i :: T).map enc)) : evLd false 1 (.lp id g L.length 0) H = some (.int .i64 i) := by
  simp [evLd, h]
theorem y26q (id g : Nat) (L : Nat) : yw 1 (.ls id g 1 0 (L + 1)) (.int .i64 (L : Int)) = some (.lp id g L 0) := by
  have : (L : Int) < (L : Int) + 1 := by omega
  simp [yw, this]
theorem y1hn (id g : Nat) (L : Nat) : ybi 1 (.ls id g 1 0 (L + 1)) none (some (.int .i64 (L : Int))) = some (.ls id g 1 0 L) := by
  have : (L : Int) ≤ (L : Int) + 1 := by omega
  simp [ybi, yvi, ya2, yil, this]
@[simp] theorem y2pm {α : Type} [Cel α] : exO (nz ([] : List α)) = ⟨.nils, [], true, [], []⟩ := rfl
theorem ype {α : Type} [Cel α] {H : Heap} {id g i : Nat} {L : List α} {v : AV} {y : α} (h : H[id]? = some ⟨g, .arr false false (es α) (L.map enc)⟩) (hi : i < L.length) (hv : cellsOf v = enc y) :
    evSt (es α) (.lp id g i 0) v H = some (.tup [], H.set id ⟨g, .arr false false (es α) ((L.set i y).map enc)⟩) := by
  have hr : yn H id g = some (false, es α, L.map enc) := by simp [yn, y3m, h]
  have hg : (L.map (enc (α := α)))[i]? = some (enc L[i]) := by simp [hi]
  rw [y67, hr]
  simp only [hg, hv]
  rw [if_pos ⟨len y, by rw [len]; omega, leaf y⟩]
  rw [yf2 (by rw [len, len]), y27, h]
  simp only
  rw [List.map_set]
theorem yqm {a b : Nat} (h : a + b ≤ 137438953472) : (2 * (a + b) + 512) * 8 ≤ 2 ^ 48 := by
  have : (2 * (a + b) + 512) * 8 ≤ (2 * 137438953472 + 512) * 8 := Nat.mul_le_mul_right 8 (by omega)
  exact Nat.le_trans this (by decide)
theorem y22s {α : Type} [Cel α] {H : Heap} {id g i : Nat} {L : List α} {x : α} {v : AV} (h : H[id]? = some ⟨g, .arr false false (es α) (L.map enc)⟩) (hx : L[i]? = some x) (hv : (enc x).head? = some v) : evLd false 1 (.lp id g i 0) H = some v := by
  have hr : yn H id g = some (false, es α, L.map enc) := by simp [yn, y3m, h]
  have hg : (L.map (enc (α := α)))[i]? = some (enc x) := by simp [hx]
  rw [y3e, hr]
  simp only [hg, y7i, List.drop_zero, hv]
abbrev AB (f : Fn) : AO := ⟨1, .arr true false 5 [enc f]⟩
abbrev AL (g : Nat) (L : List Bool) : AO := ⟨g, .arr false false 1 (L.map enc)⟩
abbrev AI (g : Nat) (L : List Int) : AO := ⟨g, .arr false false 1 (L.map enc)⟩
abbrev AX (g : Nat) (x : Ins) : AO := ⟨g, .arr true false 9 [enc x]⟩
theorem yd0 {n : Nat} {p : Int} (h0 : 0 ≤ p) (h1 : p < (n : Int)) (id g : Nat) (k : IntKind) : yw 1 (.ls id g 1 0 n) (.int k p) = some (.lp id g p.toNat 0) := by simp [yw, h0, h1]
end Go.Vm
namespace Go.Vm
section
variable (n : Nat) (S : Nat → List Int) (A : List Int)
inductive Rch : Nat → Prop
  | base {j : Int} : j ∈ A → 0 ≤ j → j < n → Rch j.toNat
  | step {i : Nat} {j : Int} : Rch i → j ∈ S i → 0 ≤ j → j < n → Rch j.toNat
def unseen (seen : List Bool) : Nat := seen.countP (! ·)
end
section
variable {n : Nat} {S : Nat → List Int} {A : List Int}
theorem Rch.lt {i : Nat} (h : Rch n S A i) : i < n := by cases h <;> omega
theorem y61 {op : List Int} {i : Int} (h : op.getLast? = some i) : op = op.dropLast ++ [i] := by
  have hne : op ≠ [] := by intro e; rw [e] at h; cases h
  have := List.dropLast_concat_getLast hne
  rw [List.getLast?_eq_some_getLast hne] at h
  injection h with h
  rw [h] at this
  exact this.symm
theorem ybh {op : List Int} {j : Int} (h : j ∈ op.dropLast) : j ∈ op := (List.dropLast_sublist op).mem h
structure DfsI (n : Nat) (S : Nat → List Int) (A : List Int) (seen : List Bool) (op : List Int) : Prop where
  len : seen.length = n
  ok : ∀ i : Nat, seen[i]? = some true → Rch n S A i
  opn : ∀ j : Int, j ∈ op → 0 ≤ j → j < n → Rch n S A j.toNat
  cl : ∀ (i : Nat) (j : Int), seen[i]? = some true → j ∈ S i → 0 ≤ j → j < n → seen[j.toNat]? = some true ∨ j ∈ op
  st : ∀ j : Int, j ∈ A → 0 ≤ j → j < n → seen[j.toNat]? = some true ∨ j ∈ op
theorem DfsI.start : DfsI n S A (List.replicate n false) A where
  len := by simp
  ok i h := by rw [List.getElem?_replicate] at h; split at h <;> cases h
  opn j h h0 h1 := .base h h0 h1
  cl i j h := by rw [List.getElem?_replicate] at h; split at h <;> cases h
  st j h _ _ := .inr h
theorem DfsI.skip {seen : List Bool} {op : List Int} (I : DfsI n S A seen op) {i : Int} (hop : op.getLast? = some i) (hc : i < 0 ∨ (n : Int) ≤ i ∨ seen.getD i.toNat true = true) : DfsI n S A seen op.dropLast := by
  have e := y61 hop
  have key : ∀ j : Int, 0 ≤ j → j < n → (seen[j.toNat]? = some true ∨ j ∈ op) → seen[j.toNat]? = some true ∨ j ∈ op.dropLast := by
    intro j h0 h1 h
    rcases h with h | h
    · exact .inl h
    · rw [e, List.mem_append, List.mem_singleton] at h
      rcases h with h | rfl
      · exact .inr h
      · rcases hc with hc | hc | hc
        · omega
        · omega
        · left
          have : j.toNat < seen.length := by rw [I.len]; omega
          rw [List.getD_eq_getElem?_getD, List.getElem?_eq_getElem this] at hc
          rw [List.getElem?_eq_getElem this]
          simpa using hc
  exact ⟨I.len, I.ok, fun j hj => I.opn j (ybh hj), fun i j h1 h2 h3 h4 => key j h3 h4 (I.cl i j h1 h2 h3 h4), fun j h1 h3 h4 => key j h3 h4 (I.st j h1 h3 h4)⟩
theorem DfsI.take {seen : List Bool} {op : List Int} (I : DfsI n S A seen op) {i : Int} (hop : op.getLast? = some i) (h0 : 0 ≤ i) (h1 : i < n) : DfsI n S A (seen.set i.toNat true) (op.dropLast ++ S i.toNat) := by
  have e := y61 hop
  have hi : Rch n S A i.toNat := I.opn i (by rw [e]; simp) h0 h1
  have hlt : i.toNat < seen.length := by rw [I.len]; omega
  have hset : ∀ j : Nat, (seen.set i.toNat true)[j]? = some true ↔ seen[j]? = some true ∨ j = i.toNat := by
    intro j
    rw [List.getElem?_set]
    by_cases hj : i.toNat = j
    · subst hj; simp [hlt]
    · rw [if_neg hj]
      exact ⟨.inl, fun h => h.resolve_right (fun e => hj e.symm)⟩
  have key : ∀ j : Int, 0 ≤ j → j < n → (seen[j.toNat]? = some true ∨ j ∈ op) → (seen.set i.toNat true)[j.toNat]? = some true ∨ j ∈ op.dropLast ++ S i.toNat := by
    intro j h2 h3 h
    rw [hset]
    rcases h with h | h
    · exact .inl (.inl h)
    · rw [e, List.mem_append, List.mem_singleton] at h
      rcases h with h | rfl
      · exact .inr (List.mem_append_left _ h)
      · exact .inl (.inr rfl)
  refine ⟨by simpa using I.len, fun j hj => ?_, fun j hj h2 h3 => ?_, fun k j hk hj h2 h3 => ?_, fun j hj h2 h3 => key j h2 h3 (I.st j hj h2 h3)⟩
  · rcases (hset j).1 hj with h | rfl
    · exact I.ok j h
    · exact hi
  · rcases List.mem_append.1 hj with h | h
    · exact I.opn j (ybh h) h2 h3
    · exact .step hi h h2 h3
  · rcases (hset k).1 hk with h | rfl
    · exact key j h2 h3 (I.cl k j h hj h2 h3)
    · exact .inr (List.mem_append_right _ hj)
theorem DfsI.done {seen : List Bool} (I : DfsI n S A seen []) (i : Nat) : seen[i]? = some true ↔ Rch n S A i := by
  refine ⟨I.ok i, fun h => ?_⟩
  induction h with
  | base h h0 h1 => exact (I.st _ h h0 h1).resolve_right (by simp)
  | step _ hj h0 h1 ih => exact (I.cl _ _ ih hj h0 h1).resolve_right (by simp)
structure RI (n : Nat) (S : Nat → List Int) (A : List Int) (seen : List Bool) (s : List Bool × Bool) : Prop where
  len : s.1.length = n
  ok : ∀ i : Nat, s.1[i]? = some true → Rch n S A i
  up : ∀ i : Nat, seen[i]? = some true → s.1[i]? = some true
  un : unseen s.1 ≤ unseen seen
  lt : s.2 = true → unseen s.1 < unseen seen
  eq : s.2 = false → s.1 = seen
end
theorem yg5 {α : Type} {n k : Nat} {p q : Nat → α} {v : α} (hq : q k = v) (he : ∀ j, j ≠ k → q j = p j) : ((List.range n).map p).set k v = (List.range n).map q := by
  refine List.ext_getElem (by simp) fun i h1 h2 => ?_
  rw [List.getElem_set]
  simp only [List.getElem_map, List.getElem_range]
  by_cases e : k = i
  · rw [if_pos e, ← e, hq]
  · rw [if_neg e, he i (fun h => e h.symm)]
end Go.Vm
namespace Go.Vm
def addN (l : List Int) (j : Int) : List Int := if l.contains j then l else l ++ [j]
def yh (f : Fn) (i : Nat) : Ins := (lst f.code).getD i default
def yri (x : Ins) (i : Int) : List Int := if leads x.op then addN (if ends x.op then [] else [i + 1]) x.t else if ends x.op then [] else [i + 1]
def y26 (f : Fn) (i : Int) : List Int := if i < 0 ∨ ((lst f.code).length : Int) ≤ i then [] else yri (yh f i.toNat) i
def y3s (i : Int) : List Row → List Int → List Int
  | [], l => l
  | r :: rs, l => if r.f ≤ i ∧ i < r.t then (if r.c = [] then addN l r.at_ else y3s i rs (addN l r.at_)) else y3s i rs l
def yp (f : Fn) (i : Int) : List Int := if i < 0 ∨ ((lst f.code).length : Int) ≤ i then [] else if throws (yh f i.toNat).op then y3s i (lst f.rows) [] else []
theorem y16m (l : List Int) (j : Int) : (addN l j).length ≤ l.length + 1 := by
  unfold addN
  split <;> simp
theorem y1sw (x : Ins) (i : Int) : (yri x i).length ≤ 2 := by
  unfold yri
  split
  · have := y16m (if ends x.op then [] else [i + 1]) x.t
    split at this <;> simp_all <;> omega
  · split <;> simp
theorem yud (f : Fn) (i : Int) : (y26 f i).length ≤ 2 := by
  unfold y26
  split
  · simp
  · exact y1sw _ _
theorem yd4 (i : Int) : ∀ (rs : List Row) (l : List Int), (y3s i rs l).length ≤ l.length + rs.length
  | [], l => by simp [y3s]
  | r :: rs, l => by
    have h1 := y16m l r.at_
    have h2 := yd4 i rs (addN l r.at_)
    have h3 := yd4 i rs l
    unfold y3s
    simp only [List.length_cons]
    split
    · split <;> omega
    · omega
theorem ywu (f : Fn) (i : Int) : (yp f i).length ≤ (lst f.rows).length := by
  unfold yp
  split
  · simp
  · split
    · have := yd4 i (lst f.rows) []
      simpa using this
    · simp
theorem y5g {f : Fn} {i : Nat} (h : i < (lst f.code).length) : (lst f.code)[i]? = some (yh f i) := by
  rw [yh, List.getD_eq_getElem?_getD, List.getElem?_eq_getElem h]; rfl
def ymw (f : Fn) (i : Nat) : Bool :=
  decide (i = 0) || (leads (yh f (i - 1)).op || ends (yh f (i - 1)).op) || (lst f.code).any (fun x => leads x.op && decide (x.t = i)) || (lst f.rows).any (fun r => decide (r.f = i) || decide (r.t = i) || decide (r.at_ = i))
end Go.Vm
