/- Facts for reading the machine's functions: combinators at known values; lists of things of one kind as slices. The things that the layers speak of: instructions, rows, functions. What is handed in, as things. Lists that a function builds by appending, at a place of its own. What a callee made, as the caller's own: a list, or nothing. Heaps that grow: what lies where, behind one more object, behind one that is turned. What is told of instructions, in plain words. Clones of lists of numbers. Clones of lists of instructions, of rows. Functions whose lists are not too long. ins.Copy: a function's copy. A function whose lists lie in objects of one's own: how it reads, how it is handed out, how a copy comes to lie so. -/
import Derived.Test.YtgbajicpokolcaaVc
import Derived.Test.YtgbajicpokolcaaWX
set_option linter.unusedSimpArgs false
set_option linter.unusedVariables false
set_option linter.unusedSectionVars false
namespace Go.Vm
section comb
variable {α : Type}
@[simp] theorem y6 (v : AV) (K : AV → Option α) : ob (some v) K = K v := rfl
@[simp] theorem yj (v : AV) (h : Heap) (K : AV → Heap → Option α) : oh (some (v, h)) K = K v h := rfl
@[simp] theorem ydj {β : Type} (v : β) (K : β → Option α) : ofp (some v) K = K v := rfl
@[simp] theorem yal (x : Option AV) (K : AV → Option α) : gb (.bool true) true x K = ob x K := rfl
@[simp] theorem yno (x : Option AV) (K : AV → Option α) : gb (.bool false) false x K = ob x K := rfl
@[simp] theorem y11b (x : Option AV) (K : AV → Option α) : gb (.bool true) false x K = K (.tup []) := rfl
@[simp] theorem yge (x : Option AV) (K : AV → Option α) : gb (.bool false) true x K = K (.tup []) := rfl
@[simp] theorem ygq (w : Bool) (x : Option AV) (K : AV → Option α) : gb (.tup []) w x K = K (.tup []) := rfl
@[simp] theorem y1x7 (x : Option (AV × Heap)) (h : Heap) (K : AV → Heap → Option α) : gh (.bool true) true x h K = oh x K := rfl
@[simp] theorem y26e (x : Option (AV × Heap)) (h : Heap) (K : AV → Heap → Option α) : gh (.bool false) false x h K = oh x K := rfl
@[simp] theorem y26d (x : Option (AV × Heap)) (h : Heap) (K : AV → Heap → Option α) : gh (.bool true) false x h K = K (.tup []) h := rfl
@[simp] theorem y26s (x : Option (AV × Heap)) (h : Heap) (K : AV → Heap → Option α) : gh (.bool false) true x h K = K (.tup []) h := rfl
@[simp] theorem y25q (w : Bool) (x : Option (AV × Heap)) (h : Heap) (K : AV → Heap → Option α) : gh (.tup []) w x h K = K (.tup []) h := rfl
@[simp] theorem y265 (x : Option (List Nat × List Nat)) : fgd (.bool true) true x = x := rfl
@[simp] theorem y267 (x : Option (List Nat × List Nat)) : fgd (.bool false) false x = x := rfl
@[simp] theorem y261 (x : Option (List Nat × List Nat)) : fgd (.bool true) false x = some ([], []) := rfl
@[simp] theorem y262 (x : Option (List Nat × List Nat)) : fgd (.bool false) true x = some ([], []) := rfl
@[simp] theorem y24y (w : Bool) (x : Option (List Nat × List Nat)) : fgd (.tup []) w x = some ([], []) := rfl
@[simp] theorem y1g (a b : Option α) : cnd (.bool true) a b = a := rfl
@[simp] theorem y1y (a b : Option α) : cnd (.bool false) a b = b := rfl
@[simp] theorem y1sq (x : Option α) : okK true x = x := rfl
theorem y1nw {α : Type} {b : Bool} (h : b = true) (x : Option α) : okK b x = x := by rw [h]; rfl
@[simp] theorem y2e (a b : AV) : y9 (.bool true) a b = some a := rfl
@[simp] theorem y2y (a b : AV) : y9 (.bool false) a b = some b := rfl
@[simp] theorem y3d (b : Bool) : evUn .not (.bool b) = some (.bool (!b)) := rfl
@[simp] theorem y248 (neq a b : Bool) : y1mf neq (.bool a) (.bool b) = some (.bool (if neq then !(a == b) else a == b)) := rfl
@[simp] theorem y1k (i : Nat) (vs : List AV) : y6e i (.tup vs) = vs[i]? := rfl
@[simp] theorem ylg (k k' : IntKind) (n : Int) : y2q k (.int k' n) = some (.int k (k.wrap n)) := rfl
@[simp] theorem y1t3 (cs : List AV) : ydi (.rp cs) = some (.rp cs) := rfl
@[simp] theorem y1vm (id g i off : Nat) : ydi (.lp id g i off) = some (.lp id g i off) := rfl
@[congr] theorem y26t {x x' : Option AV} (h : x = x') (K : AV → Option α) : ob x K = ob x' K := by rw [h]
@[congr] theorem y26u {x x' : Option (AV × Heap)} (h : x = x') (K : AV → Heap → Option α) : oh x K = oh x' K := by rw [h]
@[congr] theorem y25p {β : Type} {x x' : Option β} (h : x = x') (K : β → Option α) : ofp x K = ofp x' K := by rw [h]
@[congr] theorem y269 {g g' : AV} (h : g = g') (w : Bool) (x : Option AV) (K : AV → Option α) : gb g w x K = gb g' w x K := by rw [h]
@[congr] theorem y26h {g g' : AV} (h : g = g') (w : Bool) (x : Option (AV × Heap)) (hp : Heap) (K : AV → Heap → Option α) : gh g w x hp K = gh g' w x hp K := by rw [h]
@[congr] theorem y263 {g g' : AV} (h : g = g') (w : Bool) (x : Option (List Nat × List Nat)) : fgd g w x = fgd g' w x := by rw [h]
@[congr] theorem y25t {c c' : AV} (h : c = c') (a b : Option α) : cnd c a b = cnd c' a b := by rw [h]
@[congr] theorem y266 {c c' : Bool} (h : c = c') (a : Option α) : okK c a = okK c' a := by rw [h]
end comb
section ints
variable (k : IntKind) (a b : Int)
@[simp] theorem yw : y2 .add (.int k a) (.int k b) = some (.int k (k.wrap (a + b))) := by simp [y2, y1p, y2a]
@[simp] theorem ye2 : y2 .sub (.int k a) (.int k b) = some (.int k (k.wrap (a - b))) := by simp [y2, y1p, y2a]
@[simp] theorem yl8 : y2 .mul (.int k a) (.int k b) = some (.int k (k.wrap (a * b))) := by simp [y2, y1p, y2a]
@[simp] theorem yl : y2 .eql (.int k a) (.int k b) = some (.bool (decide (a = b))) := by simp [y2, y1p, y2a, Bool.beq_eq_decide_eq]
@[simp] theorem y4v : y2 .neq (.int k a) (.int k b) = some (.bool (decide (a ≠ b))) := by simp [y2, y1p, y2a, bne, Bool.beq_eq_decide_eq]
@[simp] theorem yn : y2 .lss (.int k a) (.int k b) = some (.bool (decide (a < b))) := by simp [y2, y1p, y2a]
@[simp] theorem ya6 : y2 .leq (.int k a) (.int k b) = some (.bool (decide (a ≤ b))) := by simp [y2, y1p, y2a]
@[simp] theorem yae : y2 .gtr (.int k a) (.int k b) = some (.bool (decide (b < a))) := by simp [y2, y1p, y2a]
@[simp] theorem y8m : y2 .geq (.int k a) (.int k b) = some (.bool (decide (b ≤ a))) := by simp [y2, y1p, y2a]
end ints
@[simp] theorem y1wa (a b : List UInt8) : y2 .eql (.str a) (.str b) = some (.bool (decide (a = b))) := by simp [y2, yx6, Bool.beq_eq_decide_eq]
@[simp] theorem y1wb (a b : List UInt8) : y2 .neq (.str a) (.str b) = some (.bool (decide (a ≠ b))) := by simp [y2, yx6, Bool.beq_eq_decide_eq]
theorem y27 {n : Int} (h0 : -9223372036854775808 ≤ n) (h1 : n < 9223372036854775808) : IntKind.wrap .i64 n = n := by
  simp [IntKind.wrap, IntKind.bits, IntKind.signed]; omega
theorem y14q {i n : Nat} (h : i < n) (hn : n ≤ 9223372036854775807) : IntKind.wrap .i64 ((i : Int) + 1) = ((i + 1 : Nat) : Int) := by
  rw [y27] <;> omega
theorem y1j {i n : Nat} (h : i < n) (hn : n ≤ 9223372036854775807) : IntKind.wrap .i64 ((i : Int) + 1) = (i : Int) + 1 := by rw [y14q h hn]; rfl
@[simp] theorem y254 (k : Nat) (cs : List AV) : evFa k (.rp cs) = some (.rp (cs.drop k)) := rfl
@[simp] theorem yq (k id g i o : Nat) : evFa k (.lp id g i o) = some (.lp id g i (o + k)) := rfl
@[simp] theorem yn3 (agg : Bool) (n : Nat) (cs : List AV) (h : Heap) : evLd agg n (.rp cs) h = y41 agg n cs := rfl
@[simp] theorem y6a (n : Nat) (cs : List AV) : y41 false n cs = cs.head? := rfl
@[simp] theorem yn6 (cs : List AV) : cellsOf (.agg cs) = cs := rfl
@[simp] theorem y1tf (k : IntKind) (n : Int) : cellsOf (.int k n) = [.int k n] := rfl
@[simp] theorem y1ov (b : Bool) : cellsOf (.bool b) = [.bool b] := rfl
@[simp] theorem y1sm (s : List UInt8) : cellsOf (.str s) = [.str s] := rfl
@[simp] theorem y1oc : cellsOf .nils = [.nils] := rfl
@[simp] theorem y1w8 (es : Nat) (rows : List (List AV)) : cellsOf (.rs es rows) = [.rs es rows] := rfl
@[simp] theorem y1wj (id g es off len : Nat) : cellsOf (.ls id g es off len) = [.ls id g es off len] := rfl
class Cel (α : Type) where
  es : Nat
  enc : α → List AV
  len : ∀ x, (enc x).length = es
  pur : ∀ x, (enc x).all pure1 = true
  leaf : ∀ x, (enc x).all yo = true
open Cel
instance : Cel Int := ⟨1, fun n => [.int .i64 n], fun _ => rfl, fun _ => rfl, fun _ => rfl⟩
instance : Cel Bool := ⟨1, fun b => [.bool b], fun _ => rfl, fun _ => rfl, fun _ => rfl⟩
structure Tx where
  s : List UInt8
  deriving DecidableEq, Inhabited
instance : Cel Tx := ⟨1, fun b => [.str b.s], fun _ => rfl, fun _ => rfl, fun _ => rfl⟩
@[simp] theorem y237 (n : Int) : enc n = [.int .i64 n] := rfl
@[simp] theorem y22c (b : Bool) : enc b = [.bool b] := rfl
@[simp] theorem y25n (b : Tx) : enc b = [.str b.s] := rfl
@[simp] theorem yr0 : es Int = 1 := rfl
@[simp] theorem yzu : es Bool = 1 := rfl
@[simp] theorem y26i : es Tx = 1 := rfl
variable {α : Type} [Cel α]
def scal (x : α) : Bool := (enc x).all y1n
@[simp] theorem y22m (n : Int) : scal n = true := rfl
@[simp] theorem y1z1 (b : Bool) : scal b = true := rfl
@[simp] theorem y24g (b : Tx) : scal b = true := rfl
def lst (o : Option (List α)) : List α := o.getD []
omit [Cel α] in
@[simp] theorem y229 : lst (none : Option (List α)) = [] := rfl
omit [Cel α] in
@[simp] theorem y8u (L : List α) : lst (some L) = L := rfl
def slA : Option (List α) → AV
  | none => .nils
  | some L => .rs (es α) (L.map enc)
instance : Cel (Option (List α)) := ⟨1, fun o => [slA o], fun _ => rfl, fun o => by cases o <;> rfl, fun o => by cases o <;> rfl⟩
@[simp] theorem y260 (o : Option (List α)) : enc o = [slA o] := rfl
@[simp] theorem y26q : es (Option (List α)) = 1 := rfl
@[simp] theorem y1yk (k : IntKind) (n : Int) : pure1 (.int k n) = true := rfl
@[simp] theorem y1we (b : Bool) : pure1 (.bool b) = true := rfl
@[simp] theorem y1wx (b : List UInt8) : pure1 (.str b) = true := rfl
@[simp] theorem y1wh : pure1 .nils = true := rfl
@[simp] theorem y1zv (k : IntKind) (n : Int) : yo (.int k n) = true := rfl
@[simp] theorem y1wf (b : Bool) : yo (.bool b) = true := rfl
@[simp] theorem y21x (b : List UInt8) : yo (.str b) = true := rfl
@[simp] theorem y1wi : yo .nils = true := rfl
@[simp] theorem y226 (es : Nat) (r : List (List AV)) : yo (.rs es r) = true := rfl
@[simp] theorem y22n (id g es off len : Nat) : yo (.ls id g es off len) = true := rfl
@[simp] theorem y22o (id g i o : Nat) : yo (.lp id g i o) = true := rfl
@[simp] theorem y1rr (k : IntKind) (n : Int) : y1n (.int k n) = true := rfl
@[simp] theorem y1o1 (b : Bool) : y1n (.bool b) = true := rfl
@[simp] theorem y1t8 (b : List UInt8) : y1n (.str b) = true := rfl
@[simp] theorem y1ol : y1n .nils = true := rfl
@[simp] theorem yyy (o : Option (List α)) : cellsOf (slA o) = [slA o] := by cases o <;> rfl
@[simp] theorem y22a (o : Option (List α)) : yo (slA o) = true := by cases o <;> rfl
@[simp] theorem yb5 (o : Option (List α)) : pure1 (slA o) = true := by cases o <;> rfl
@[simp] theorem yxs (o : Option (List α)) : y1n (slA o) = (lst o).isEmpty := by
  cases o with
  | none => rfl
  | some L => cases L <;> rfl
@[simp] theorem y3p (o : Option (List α)) (h : Heap) : yy 1 (slA o) h = some (.int .i64 (lst o).length) := by cases o <;> simp [slA, yy]
@[simp] theorem ye3 (s : List UInt8) (h : Heap) : yy 0 (.str s) h = some (.int .i64 s.length) := rfl
@[simp] theorem yqy (id g es off len : Nat) (h : Heap) : yy 1 (.ls id g es off len) h = some (.int .i64 len) := rfl
@[simp] theorem y1w9 (h : Heap) : yy 1 .nils h = some (.int .i64 0) := rfl
@[simp] theorem y24q (id g i o : Nat) : ids1 (.lp id g i o) = [id] := rfl
@[simp] theorem y24i (id g es o l : Nat) : ids1 (.ls id g es o l) = [id] := rfl
@[simp] theorem y25f (cs : List AV) : ids1 (.rp cs) = [] := rfl
@[simp] theorem y22x (k : IntKind) (n : Int) : ids1 (.int k n) = [] := rfl
@[simp] theorem y22u (s : List UInt8) : ids1 (.str s) = [] := rfl
@[simp] theorem y231 (o : Option (List α)) : ids1 (slA o) = [] := by cases o <;> rfl
@[simp] theorem y1he (neq : Bool) (o : Option (List α)) : yh6 1 neq (slA o) .nils = some (.bool (if neq then o.isSome else o.isNone)) := by
  cases o <;> cases neq <;> rfl
theorem ydf {o : Option (List α)} {x : α} {i : Nat} (hx : (lst o)[i]? = some x) (k : IntKind) : yi (es α) (slA o) (.int k i) = some (.rp (enc x)) := by
  cases o with
  | none => simp at hx
  | some L =>
    simp only [y8u] at hx
    simp [slA, yi, hx]
theorem ykx {o : Option (List α)} {x : α} {n : Int} (h0 : 0 ≤ n) (hx : (lst o)[n.toNat]? = some x) (k : IntKind) : yi (es α) (slA o) (.int k n) = some (.rp (enc x)) := by
  obtain ⟨i, rfl⟩ := Int.eq_ofNat_of_zero_le h0
  exact ydf (by simpa using hx) k
@[simp] theorem yez (o : Option (List α)) (h : Heap) : y2o h (es α) (slA o) = some ((lst o).map enc) := by
  cases o <;> simp [slA, y2o]
@[simp] theorem y1lq (o : Option (List α)) (h : Heap) : fz h y1d (slA o) = some ⟨slA o, (lst o).isEmpty, []⟩ := by
  rw [y241 (yb5 o), yxs]
@[simp] theorem ycw (x : α) (h : Heap) : fz h y1d (.agg (enc x)) = some ⟨.agg (enc x), scal x, []⟩ := y210 h (pur x)
theorem ydr (L : List α) : (L.map enc).all (·.all pure1) = true := by simp only [List.all_map, List.all_eq_true]; exact fun x _ => pur x
theorem yds (L : List α) : (L.map enc).all (·.all y1n) = L.all scal := by simp only [List.all_map]; rfl
@[simp] theorem y14t (L : List α) (h : Heap) : ye (ye (fz h y1d)) (L.map enc) = some ⟨L.map enc, L.all scal, []⟩ := by rw [y1co h (ydr L), yds]
@[simp] theorem y05 (L : List α) (h : Heap) : ye (ye (fz h 11)) (L.map enc) = some ⟨L.map enc, L.all scal, []⟩ := by rw [y15i h (ydr L), yds]
@[simp] theorem y230 (o : Option (List α)) : scal o = (lst o).isEmpty := by simp [scal]
@[simp] theorem y5x (L : List α) : (L.map (enc (α := α))).take L.length = L.map enc := by
  rw [List.take_of_length_le (by simp)]
@[simp] theorem yfl (x : α) : y41 true (es α) (enc x) = some (.agg (enc x)) := by
  simp only [y41, if_true, len x, Nat.le_refl, if_pos]
  rw [List.take_of_length_le (by rw [len x]; exact Nat.le_refl _)]
@[simp] theorem y22k (x : α) : (∀ v, v ∈ enc x → yo v = true) ↔ True := by
  have := leaf x
  rw [List.all_eq_true] at this
  exact ⟨fun _ => trivial, fun _ => this⟩
theorem yjc (x : α) : (enc x).all yo = true := leaf x
@[simp] theorem y23c (h : Heap) (k : IntKind) (n : Int) : fz h y1d (.int k n) = some ⟨.int k n, true, []⟩ := rfl
@[simp] theorem yje (h : Heap) (b : Bool) : fz h y1d (.bool b) = some ⟨.bool b, true, []⟩ := rfl
@[simp] theorem y23h (h : Heap) (b : List UInt8) : fz h y1d (.str b) = some ⟨.str b, true, []⟩ := rfl
@[simp] theorem y22j (h : Heap) : fz h y1d .nils = some ⟨.nils, true, []⟩ := rfl
@[simp] theorem yh3 (h : Heap) (k : IntKind) (n : Int) : y7 h (.int k n) = some ⟨.int k n, [], true, [], []⟩ := rfl
@[simp] theorem y34 (h : Heap) (b : Bool) : y7 h (.bool b) = some ⟨.bool b, [], true, [], []⟩ := rfl
@[simp] theorem y1wc (h : Heap) (s : List UInt8) : y7 h (.str s) = some ⟨.str s, [], true, [], []⟩ := rfl
@[simp] theorem y1w1 (h : Heap) : y7 h .nils = some ⟨.nils, [], true, [], []⟩ := rfl
@[simp] theorem y22b (h : Heap) (o : Option (List α)) : y7 h (slA o) = some ⟨slA o, [], (lst o).isEmpty, [], []⟩ := by
  cases o with
  | none => rfl
  | some L => simp [slA, y1ju]
theorem yik {v : AV} (hp : pure1 v = true) (h : Heap) (k : Nat) (os : List OC) : expo h (k + 1) v os = some ⟨v, os, y1n v, [], []⟩ := by
  cases v <;> simp_all [expo, pure1]
theorem y1k8 {cs : List AV} (h : Heap) (k : Nat) (os : List OC) (hp : cs.all pure1 = true) : y3i (expo h (k + 1)) cs os = some ⟨cs, os, cs.all y1n, [], []⟩ := by
  induction cs with
  | nil => rfl
  | cons c cs ih =>
    simp only [List.all_cons, Bool.and_eq_true] at hp
    rw [y3i, yik hp.1]
    simp only [ih hp.2]
    rfl
theorem yab (h : Heap) (cs : List AV) : y7 h (.agg cs) = match y3i (expo h 11) cs [] with
    | some r => if y2x r.xs r.fs then some ⟨.agg r.v, r.objs, r.fresh, [], []⟩ else none
    | none => none := by
  show (match (match y3i (expo h 11) cs [] with
    | some r => some (⟨.agg r.v, r.objs, r.fresh, r.xs, r.fs⟩ : Ex AV)
    | none => none) with
    | some r => if y2x r.xs r.fs then some (⟨r.v, r.objs, r.fresh, [], []⟩ : Ex AV) else none
    | none => none) = _
  cases y3i (expo h 11) cs [] <;> rfl
@[simp] theorem y1b1 (h : Heap) (x : α) : y7 h (.agg (enc x)) = some ⟨.agg (enc x), [], scal x, [], []⟩ := by
  rw [yab, y1k8 h 10 [] (pur x)]
  rfl
theorem y1v1 (h : Heap) (k id g es1 off len : Nat) (os : List OC) : expo h (k + 1) (.ls id g es1 off len) os = match yg h id g with
    | some (true, _, _) => exFz h (.ls id g es1 off len) os
    | some (false, es, rows) => if es1 = es ∧ off + len ≤ rows.length then
        match ye (ye (fz h y1d)) ((rows.drop off).take len) with
        | some r => some ⟨.ls os.length 0 es 0 len, os ++ [.arr false false es r.v], r.fresh, [id], r.ids⟩
        | none => none
      else none
    | none => none := by
  rw [expo]
  rfl
theorem y206 (h : Heap) (k id g es1 off len : Nat) : fz h (k + 1) (.ls id g es1 off len) = match yg h id g with
    | some (_, es, rows) => if es1 = es ∧ off + len ≤ rows.length then (match ye (ye (fz h k)) ((rows.drop off).take len) with
      | some r => some ⟨.rs es r.v, r.fresh, id :: r.ids⟩
      | none => none) else none
    | none => none := by
  rw [fz]
  rfl
theorem y1ns (L : List α) (h : Heap) (k : Nat) : ye (ye (fz h (k + 1))) (L.map enc) = some ⟨L.map enc, L.all scal, []⟩ := by rw [y63 h k (ydr L), yds]
@[simp] theorem y16 {β γ : Type} (f : β → Option (Fz γ)) : ye f [] = some ⟨[], true, []⟩ := rfl
@[simp] theorem yx {β γ : Type} (f : β → Option (Fz γ)) (x : β) (xs : List β) : ye f (x :: xs) = match f x, ye f xs with
    | some a, some b => some ⟨a.v :: b.v, a.fresh && b.fresh, a.ids ++ b.ids⟩
    | _, _ => none := rfl
end Go.Vm
namespace Go.Vm
open Cel
structure Ins where
  op : Int
  d : Int
  a : Int
  b : Int
  c : Int
  n : Int
  t : Int
  s : List UInt8
  args : Option (List Int)
  deriving DecidableEq, Inhabited
structure Row where
  f : Int
  t : Int
  at_ : Int
  c : List UInt8
  deriving DecidableEq, Inhabited
structure Fn where
  regs : Option (List Int)
  params : Option (List Int)
  ret : Int
  code : Option (List Ins)
  rows : Option (List Row)
  deriving DecidableEq, Inhabited
instance : Cel Ins := ⟨9, fun x => [.int .i64 x.op, .int .i64 x.d, .int .i64 x.a, .int .i64 x.b, .int .i64 x.c, .int .i64 x.n, .int .i64 x.t, .str x.s, slA x.args], fun _ => rfl,
  fun x => by simp, fun x => by simp⟩
instance : Cel Row := ⟨4, fun x => [.int .i64 x.f, .int .i64 x.t, .int .i64 x.at_, .str x.c], fun _ => rfl, fun x => rfl, fun x => rfl⟩
instance : Cel Fn := ⟨5, fun x => [slA x.regs, slA x.params, .int .i64 x.ret, slA x.code, slA x.rows], fun _ => rfl, fun x => by simp, fun x => by simp⟩
@[simp] theorem y25z : es Ins = 9 := rfl
@[simp] theorem y25y : es Row = 4 := rfl
@[simp] theorem y26g : es Fn = 5 := rfl
theorem y1pr (x : Row) : enc x = [.int .i64 x.f, .int .i64 x.t, .int .i64 x.at_, .str x.c] := rfl
section
variable (x : Ins) (r : Row) (f : Fn)
@[simp high] theorem ins0 : (enc x).head? = some (.int .i64 x.op) := rfl
@[simp high] theorem y26p : (enc x)[0]? = some (.int .i64 x.op) := rfl
@[simp high] theorem ins1 : ((enc x).drop 1).head? = some (.int .i64 x.d) := rfl
@[simp high] theorem y26j : (enc x)[1]? = some (.int .i64 x.d) := rfl
@[simp high] theorem ins2 : ((enc x).drop 2).head? = some (.int .i64 x.a) := rfl
@[simp high] theorem y268 : (enc x)[2]? = some (.int .i64 x.a) := rfl
@[simp high] theorem ins3 : ((enc x).drop 3).head? = some (.int .i64 x.b) := rfl
@[simp high] theorem y26f : (enc x)[3]? = some (.int .i64 x.b) := rfl
@[simp high] theorem ins4 : ((enc x).drop 4).head? = some (.int .i64 x.c) := rfl
@[simp high] theorem y26n : (enc x)[4]? = some (.int .i64 x.c) := rfl
@[simp high] theorem ins5 : ((enc x).drop 5).head? = some (.int .i64 x.n) := rfl
@[simp high] theorem y26l : (enc x)[5]? = some (.int .i64 x.n) := rfl
@[simp high] theorem ins6 : ((enc x).drop 6).head? = some (.int .i64 x.t) := rfl
@[simp high] theorem y26m : (enc x)[6]? = some (.int .i64 x.t) := rfl
@[simp high] theorem ins7 : ((enc x).drop 7).head? = some (.str x.s) := rfl
@[simp high] theorem y26r : (enc x)[7]? = some (.str x.s) := rfl
@[simp high] theorem ins8 : ((enc x).drop 8).head? = some (slA x.args) := rfl
@[simp high] theorem y26b : (enc x)[8]? = some (slA x.args) := rfl
@[simp high] theorem row0 : (enc r).head? = some (.int .i64 r.f) := rfl
@[simp high] theorem y26o : (enc r)[0]? = some (.int .i64 r.f) := rfl
@[simp high] theorem row1 : ((enc r).drop 1).head? = some (.int .i64 r.t) := rfl
@[simp high] theorem y26c : (enc r)[1]? = some (.int .i64 r.t) := rfl
@[simp high] theorem row2 : ((enc r).drop 2).head? = some (.int .i64 r.at_) := rfl
@[simp high] theorem y26a : (enc r)[2]? = some (.int .i64 r.at_) := rfl
@[simp high] theorem row3 : ((enc r).drop 3).head? = some (.str r.c) := rfl
@[simp high] theorem y26k : (enc r)[3]? = some (.str r.c) := rfl
@[simp high] theorem fn0 : (enc f).head? = some (slA f.regs) := rfl
@[simp high] theorem fn0q : (enc f)[0]? = some (slA f.regs) := rfl
@[simp high] theorem fn1 : ((enc f).drop 1).head? = some (slA f.params) := rfl
@[simp high] theorem fn1q : (enc f)[1]? = some (slA f.params) := rfl
@[simp high] theorem fn2 : ((enc f).drop 2).head? = some (.int .i64 f.ret) := rfl
@[simp high] theorem fn2q : (enc f)[2]? = some (.int .i64 f.ret) := rfl
@[simp high] theorem fn3 : ((enc f).drop 3).head? = some (slA f.code) := rfl
@[simp high] theorem fn3q : (enc f)[3]? = some (slA f.code) := rfl
@[simp high] theorem fn4 : ((enc f).drop 4).head? = some (slA f.rows) := rfl
@[simp high] theorem fn4q : (enc f)[4]? = some (slA f.rows) := rfl
@[simp] theorem yiw : y41 true 9 (enc x) = some (.agg (enc x)) := yfl x
@[simp] theorem y24f : y41 true 4 (enc r) = some (.agg (enc r)) := yfl r
@[simp] theorem y264 : y41 true 5 (enc f) = some (.agg (enc f)) := yfl f
@[simp] theorem ynp : (enc x).length = 9 := rfl
@[simp] theorem y259 : (enc r).length = 4 := rfl
@[simp] theorem y25u : (enc f).length = 5 := rfl
@[simp] theorem yq1 : (enc x).all yo = true := yjc x
@[simp] theorem y22g : (enc r).all yo = true := yjc r
@[simp] theorem y23u : (enc f).all yo = true := yjc f
end
theorem y6o {o : Option (List Ins)} {x : Ins} {i : Nat} (hx : (lst o)[i]? = some x) (k : IntKind) : yi 9 (slA o) (.int k i) = some (.rp (enc x)) := ydf hx k
theorem yiz {o : Option (List Row)} {x : Row} {i : Nat} (hx : (lst o)[i]? = some x) (k : IntKind) : yi 4 (slA o) (.int k i) = some (.rp (enc x)) := ydf hx k
theorem yc1 {o : Option (List Int)} {x : Int} {i : Nat} (hx : (lst o)[i]? = some x) (k : IntKind) : yi 1 (slA o) (.int k i) = some (.rp [.int .i64 x]) := ydf hx k
theorem yde {o : Option (List Ins)} {x : Ins} {n : Int} (h0 : 0 ≤ n) (hx : (lst o)[n.toNat]? = some x) (k : IntKind) : yi 9 (slA o) (.int k n) = some (.rp (enc x)) := ykx h0 hx k
theorem y1ix {o : Option (List Int)} {x : Int} {n : Int} (h0 : 0 ≤ n) (hx : (lst o)[n.toNat]? = some x) (k : IntKind) : yi 1 (slA o) (.int k n) = some (.rp [.int .i64 x]) := ykx h0 hx k
@[simp] theorem y1w5 (o : Option (List Int)) (h : Heap) : y2o h 1 (slA o) = some ((lst o).map enc) := yez o h
@[simp] theorem y1w6 (o : Option (List Ins)) (h : Heap) : y2o h 9 (slA o) = some ((lst o).map enc) := yez o h
@[simp] theorem y1w4 (o : Option (List Row)) (h : Heap) : y2o h 4 (slA o) = some ((lst o).map enc) := yez o h
def exO {α : Type} [Cel α] : Option (List α) → Ex AV
  | none => ⟨.nils, [], true, [], []⟩
  | some L => ⟨.ls 0 0 (es α) 0 L.length, [.arr false false (es α) (L.map enc)], L.all scal, [], []⟩
@[simp] theorem y1od {α : Type} [Cel α] (o : Option (List α)) : fz (y1v (exO o).objs) y1d (exO o).v = some ⟨slA o, (lst o).all scal, match o with | none => [] | some _ => [0]⟩ := by
  cases o with
  | none => rfl
  | some L =>
    show fz [⟨0, .arr false false (es α) (L.map enc)⟩] y1d (.ls 0 0 (es α) 0 L.length) = _
    rw [y1vb]
    simp [yg, y3y, slA]
@[simp] theorem y1mz {α : Type} [Cel α] (fb j : Nat) (L : List α) (h : Heap) : y1t fb (some j) (exO (some L)).objs [] h = match h[fb + j]? with
    | some o => some ([(fb + j, o.gen + 1)], h.set (fb + j) ⟨o.gen + 1, .arr false false (es α) (L.map enc)⟩)
    | none => none := by
  simp only [exO, y1t, y4t, okOC, if_true, place, List.nil_append]
  cases h[fb + j]? <;> rfl
@[simp] theorem y218 {α : Type} [Cel α] (fb : Nat) (j : Option Nat) (h : Heap) : y1t fb j (exO (none : Option (List α))).objs [] h = some ([], h) := rfl
@[simp] theorem y1lj {α : Type} [Cel α] (id g : Nat) (L : List α) : reloc [(id, g)] (exO (some L)).v = .ls id g (es α) 0 L.length := rfl
@[simp] theorem y20t {α : Type} [Cel α] (tab : List (Nat × Nat)) : reloc tab (exO (none : Option (List α))).v = .nils := rfl
theorem y11l {α : Type} [Cel α] (o : Option (List α)) : (exO o).fresh = (lst o).all scal := by cases o <;> rfl
theorem y5m {α : Type} [Cel α] {h : Heap} {id g : Nat} {L : List α} (hr : yg h id g = some (false, es α, L.map enc)) : y7 h (.ls id g (es α) 0 L.length) = some (exO (some L)) := by
  rw [yf1, hr]
  simp [exO]
attribute [simp] newC y5p y3v place
@[simp] theorem ydm (g : Nat) (b f : Bool) (e : Nat) (r : List (List AV)) (t : Heap) : yg (⟨g, .arr b f e r⟩ :: t) 0 g = some (f, e, r) := by simp [yg, y3y]
@[simp] theorem yiq (o : AO) (t : Heap) (i g : Nat) : yg (o :: t) (i + 1) g = yg t i g := rfl
@[simp] theorem y21c (g : Nat) (b f : Bool) (e : Nat) (r r' : List (List AV)) (t : Heap) : y1i (⟨g, .arr b f e r⟩ :: t) 0 r' = ⟨g, .arr b f e r'⟩ :: t := rfl
@[simp] theorem y1xx (o : AO) (t : Heap) (i : Nat) (r : List (List AV)) : y1i (o :: t) (i + 1) r = o :: y1i t i r := by
  simp only [y1i, List.getElem?_cons_succ]
  split <;> simp_all
@[simp] theorem y2i (n id g i off : Nat) (v : AV) (h : Heap) : evSt n (.lp id g i off) v h = match yg h id g with
    | some (false, _, rows) => match rows[i]? with
      | some row => if (cellsOf v).length = n ∧ off + n ≤ row.length ∧ (cellsOf v).all yo = true then some (.tup [], y1i h id (rows.set i (yh off (cellsOf v) row))) else none
      | none => none
    | _ => none := rfl
@[simp] theorem yc4 {vs row : List AV} (h : row.length = vs.length) : yh 0 vs row = vs := by
  simp [yh, ← h]
section
variable (x : Ins) (n : Int) (s : List UInt8) (o : Option (List Int))
@[simp] theorem y23j : yh 0 [.int .i64 n] (enc x) = enc { x with op := n } := rfl
@[simp] theorem y24l : yh 1 [.int .i64 n] (enc x) = enc { x with d := n } := rfl
@[simp] theorem y23y : yh 2 [.int .i64 n] (enc x) = enc { x with a := n } := rfl
@[simp] theorem y23m : yh 3 [.int .i64 n] (enc x) = enc { x with b := n } := rfl
@[simp] theorem y23r : yh 4 [.int .i64 n] (enc x) = enc { x with c := n } := rfl
@[simp] theorem y232 : yh 5 [.int .i64 n] (enc x) = enc { x with n := n } := rfl
@[simp] theorem y23q : yh 6 [.int .i64 n] (enc x) = enc { x with t := n } := rfl
@[simp] theorem y24o : yh 7 [.str s] (enc x) = enc { x with s := s } := rfl
@[simp] theorem y24u : yh 8 [slA o] (enc x) = enc { x with args := o } := rfl
end
def ygu (x : Ins) (v : AV) : List AV := [.int .i64 x.op, .int .i64 x.d, .int .i64 x.a, .int .i64 x.b, .int .i64 x.c, .int .i64 x.n, .int .i64 x.t, .str x.s, v]
@[simp] theorem y22f (x : Ins) (id g es off len : Nat) : yh 8 [.ls id g es off len] (enc x) = ygu x (.ls id g es off len) := rfl
@[simp] theorem y22q (x : Ins) : yh 8 [.nils] (enc x) = enc { x with args := none } := rfl
@[simp] theorem y1wd (x : Ins) (v : AV) : (ygu x v).length = 9 := rfl
@[simp] theorem y1w7 (x : Ins) (v : AV) : y41 true 9 (ygu x v) = some (.agg (ygu x v)) := rfl
@[simp] theorem y1w3 (x : Ins) (w : AV) : (∀ v, v ∈ ygu x w → yo v = true) ↔ yo w = true := by simp [ygu]
def yyv (r : Ex AV) (v : AV) : Prop := ∃ q, fz (y1v r.objs) y1d r.v = some q ∧ q.v = v
@[simp] theorem y2k (agg : Bool) (n id g i off : Nat) (h : Heap) : evLd agg n (.lp id g i off) h = match yg h id g with
    | some (_, _, rows) => match rows[i]? with
      | some row => y41 agg n (row.drop off)
      | none => none
    | none => none := rfl
end Go.Vm
namespace Go.Vm
open Cel
def inI (n : Int) : Prop := -9223372036854775808 ≤ n ∧ n ≤ 9223372036854775807
abbrev tyI : Ty := .int .i64
theorem y23p {cs : List AV} (h : tyI.has cs) : ∃ n : Int, cs = [.int .i64 n] ∧ inI n := by
  obtain ⟨n, rfl, h1, h2⟩ := h
  exact ⟨n, rfl, by simpa [IntKind.min, IntKind.max, IntKind.signed, IntKind.bits] using h1, by simpa [IntKind.min, IntKind.max, IntKind.signed, IntKind.bits] using h2⟩
structure InsOk (x : Ins) : Prop where
  op : inI x.op
  d : inI x.d
  a : inI x.a
  b : inI x.b
  c : inI x.c
  n : inI x.n
  t : inI x.t
  s : x.s.length ≤ reachBytes
  len : (lst x.args).length * 8 ≤ reachBytes
  args : ∀ r ∈ lst x.args, inI r
structure RowOk (r : Row) : Prop where
  f : inI r.f
  t : inI r.t
  a : inI r.at_
  c : r.c.length ≤ reachBytes
structure FnIn (f : Fn) : Prop where
  regs : (lst f.regs).length * 8 ≤ reachBytes
  regI : ∀ x ∈ lst f.regs, inI x
  params : (lst f.params).length * 8 ≤ reachBytes
  parI : ∀ x ∈ lst f.params, inI x
  ret : inI f.ret
  code : (lst f.code).length * 96 ≤ reachBytes
  insI : ∀ x ∈ lst f.code, InsOk x
  rows : (lst f.rows).length * 40 ≤ reachBytes
  rowI : ∀ x ∈ lst f.rows, RowOk x
end Go.Vm
namespace Go.Vm
open Cel
def nz {α : Type} : List α → Option (List α)
  | [] => none
  | x :: L => some (x :: L)
@[simp] theorem yec {α : Type} (L : List α) : lst (nz L) = L := by cases L <;> rfl
section
variable {α : Type} [Cel α]
def y17 (α : Type) [Cel α] (j g : Nat) : List α → AV
  | [] => .nils
  | _ :: L => .ls j g (es α) 0 (L.length + 1)
def yr (g : Nat) (o : AO) : List α → AO
  | [] => o
  | x :: L => ⟨g, .arr false false (es α) ((x :: L).map enc)⟩
@[simp] theorem y8k (j g : Nat) : y17 α j g [] = .nils := rfl
@[simp] theorem yfu (g : Nat) (o : AO) : yr g o ([] : List α) = o := rfl
@[simp] theorem y1wg (j g : Nat) (L : List α) (H : Heap) : yy 1 (y17 α j g L) H = some (.int .i64 L.length) := by
  cases L <;> simp [y17, yy]
@[simp] theorem y1p0 (j g : Nat) (L : List α) : cellsOf (y17 α j g L) = [y17 α j g L] := by cases L <;> rfl
@[simp] theorem ygr (j g : Nat) (L : List α) : yo (y17 α j g L) = true := by cases L <;> rfl
theorem yme {H : Heap} {j g : Nat} {o : AO} {x : α} {L : List α} (h : H[j]? = some (yr g o (x :: L))) : yg H j g = some (false, es α, (x :: L).map enc) := by
  simp [yg, y3y, h, yr]
theorem y1tb {H : Heap} {j g : Nat} {o : AO} {L : List α} (h : H[j]? = some (yr g o L)) : fz H y1d (y17 α j g L) = some ⟨slA (nz L), L.all scal, ids1 (y17 α j g L)⟩ := by
  cases L with
  | nil => rfl
  | cons x L =>
    rw [y17, y1vb, yme h]
    simp only [List.drop_zero, Nat.zero_add, List.length_map, List.length_cons, Nat.le_refl, and_self, if_true]
    rw [show ((x :: L).map (enc (α := α))).take (L.length + 1) = (x :: L).map enc from y5x (x :: L), y05]
    simp [slA, nz, ids1]
theorem yxm {H : Heap} {j g : Nat} {o : AO} {L : List α} (h : H[j]? = some (yr g o L)) : y7 H (y17 α j g L) = some ⟨match L with | [] => .nils | _ :: _ => .ls 0 0 (es α) 0 L.length, match L with | [] => [] | _ :: _ => [.arr false false (es α) (L.map enc)], L.all scal, [], []⟩ := by
  cases L with
  | nil => rfl
  | cons x L =>
    rw [y17, yf1, yme h]
    simp only [List.drop_zero, Nat.zero_add, List.length_map, List.length_cons, Nat.le_refl, and_self, if_true]
    rw [show ((x :: L).map (enc (α := α))).take (L.length + 1) = (x :: L).map enc from y5x (x :: L), y14t]
    simp
theorem y9p {H : Heap} {j g : Nat} {o : AO} {L : List α} (h : H[j]? = some (yr g o L)) : y7 H (y17 α j g L) = some (exO (nz L)) := by
  rw [yxm h]
  cases L <;> rfl
theorem yin {H : Heap} {fb j g b : Nat} {o : AO} {y : AV} {L M : List α} (hy : y2o H (es α) y = some (M.map enc)) (h : H[fb + j]? = some (yr g o L)) (hs : (2 * (L.length + M.length) + 512) * b ≤ 2 ^ 48) :
    ∃ g', y2g fb (some j) (es α) b (y17 α (fb + j) g L) y H = some (y17 α (fb + j) g' (L ++ M), H.set (fb + j) (yr g' o (L ++ M))) := by
  unfold y2g
  rw [hy]
  have hlt : fb + j < H.length := (List.getElem?_eq_some_iff.1 h).1
  cases L with
  | nil =>
    cases M with
    | nil =>
      refine ⟨g, ?_⟩
      simp only [y17, List.map_nil, List.isEmpty_nil, if_true, List.append_nil, yr]
      rw [yr] at h
      rw [show H.set (fb + j) o = H from by
        refine List.ext_getElem? fun i => ?_
        rw [List.getElem?_set]
        split
        · rename_i e; subst e; simp [h]
        · rfl]
    | cons y M =>
      refine ⟨o.gen + 1, ?_⟩
      rw [yr] at h
      have hm : (M.length + 1) * b ≤ 281474976710656 := Nat.le_trans (Nat.mul_le_mul_right b (by simp only [List.length_nil, List.length_cons]; omega)) hs
      simp [y17, hm, y3v, place, h, yr]
  | cons x L =>
    refine ⟨g + 1, ?_⟩
    have h' : H[fb + j]? = some ⟨g, .arr false false (es α) ((x :: L).map enc)⟩ := h
    simp only [y17, h']
    rw [if_pos (by simp; simpa using hs)]
    simp only [List.drop_zero]
    rw [show ((x :: L).map (enc (α := α))).take (L.length + 1) = (x :: L).map enc from y5x (x :: L)]
    simp [y17, yr, Nat.add_right_comm]
end
@[simp] theorem y1xw (h : Heap) (es id g es1 off len : Nat) : y2o h es (.ls id g es1 off len) = match yg h id g with
    | some (_, es', rows) => if es1 = es ∧ es' = es ∧ off + len ≤ rows.length then some ((rows.drop off).take len) else none
    | none => none := rfl
theorem y1kv {H : Heap} {j g : Nat} {o : AO} {L : List Int} (h : H[j]? = some (yr g o L)) : fz H y1d (y17 Int j g L) = some ⟨slA (nz L), true, ids1 (y17 Int j g L)⟩ := by
  rw [y1tb h]
  simp
theorem y12f {H : Heap} {fb j g : Nat} {o : AO} {y : AV} {L : List Int} {n : Int} (hy : y2o H 1 y = some [[.int .i64 n]]) (h : H[fb + j]? = some (yr g o L)) (hs : L.length ≤ 17000000000000) :
    ∃ g', y2g fb (some j) 1 8 (y17 Int (fb + j) g L) y H = some (y17 Int (fb + j) g' (L ++ [n]), H.set (fb + j) (yr g' o (L ++ [n]))) := by
  refine yin (α := Int) (M := [n]) hy h ?_
  have : (2 * (L.length + [n].length) + 512) * 8 ≤ (2 * (17000000000000 + 1) + 512) * 8 := Nat.mul_le_mul_right 8 (by simp only [List.length_singleton]; omega)
  exact Nat.le_trans this (by decide)
theorem y13f {i : Int} {n : Nat} (h0 : 0 ≤ i) (h : i < n) (hn : n ≤ 9223372036854775807) : IntKind.wrap .i64 (i + 1) = i + 1 := by
  rw [y27] <;> omega
@[simp] theorem y25v {α : Type} [Cel α] (x : α) (L : List α) : exO (nz (x :: L)) = ⟨.ls 0 0 (es α) 0 (L.length + 1), [.arr false false (es α) ((x :: L).map enc)], (x :: L).all scal, [], []⟩ := rfl
theorem yc3 {H : Heap} {id g : Nat} {a : Int} (h : yg H id g = some (false, 1, [[.int .i64 a]])) : y7 H (.ls id g 1 0 1) = some (exO (nz [a])) := y5m (α := Int) (L := [a]) h
theorem yxf {H : Heap} {id g : Nat} {a b : Int} (h : yg H id g = some (false, 1, [[.int .i64 a], [.int .i64 b]])) : y7 H (.ls id g 1 0 2) = some (exO (nz [a, b])) := y5m (α := Int) (L := [a, b]) h
abbrev D0 : AO := ⟨0, .dead⟩
section
variable {α : Type} [Cel α]
theorem y1di {H : Heap} {fb id g b : Nat} {sl : Option Nat} {y : AV} {L M T : List α} (hy : y2o H (es α) y = some (M.map enc)) (h : H[id]? = some ⟨g, .arr false false (es α) ((L ++ T).map enc)⟩) (hs : (2 * (L.length + M.length) + 512) * b ≤ 2 ^ 48) :
    y2g fb sl (es α) b (.ls id g (es α) 0 L.length) y H = some (.ls id (g + 1) (es α) 0 (L ++ M).length, H.set id ⟨g + 1, .arr false false (es α) ((L ++ M).map enc)⟩) := by
  unfold y2g
  rw [hy]
  simp only [h]
  rw [if_pos (by simp; simpa using hs)]
  simp only [List.drop_zero, List.map_append, List.length_append]
  rw [List.take_append_of_le_length (by simp), y5x, List.length_map]
end
theorem y21z {H : Heap} {id g : Nat} {L T : List Int} {i : Int} (h : yg H id g = some (false, 1, (L ++ i :: T).map enc)) : evLd false 1 (.lp id g L.length 0) H = some (.int .i64 i) := by
  simp [evLd, h]
theorem y1yg (id g : Nat) (L : Nat) : yi 1 (.ls id g 1 0 (L + 1)) (.int .i64 (L : Int)) = some (.lp id g L 0) := by
  have : (L : Int) < (L : Int) + 1 := by omega
  simp [yi, this]
theorem y1ps (id g : Nat) (L : Nat) : ybc 1 (.ls id g 1 0 (L + 1)) none (some (.int .i64 (L : Int))) = some (.ls id g 1 0 L) := by
  have : (L : Int) ≤ (L : Int) + 1 := by omega
  simp [ybc, yo0, y9x, ym0, this]
@[simp] theorem y25g {α : Type} [Cel α] : exO (nz ([] : List α)) = ⟨.nils, [], true, [], []⟩ := rfl
theorem ybu {α : Type} [Cel α] {H : Heap} {id g i : Nat} {L : List α} {v : AV} {y : α} (h : H[id]? = some ⟨g, .arr false false (es α) (L.map enc)⟩) (hi : i < L.length) (hv : cellsOf v = enc y) :
    evSt (es α) (.lp id g i 0) v H = some (.tup [], H.set id ⟨g, .arr false false (es α) ((L.set i y).map enc)⟩) := by
  have hr : yg H id g = some (false, es α, L.map enc) := by simp [yg, y3y, h]
  have hg : (L.map (enc (α := α)))[i]? = some (enc L[i]) := by simp [hi]
  rw [y2i, hr]
  simp only [hg, hv]
  rw [if_pos ⟨len y, by rw [len]; omega, leaf y⟩]
  rw [yc4 (by rw [len, len]), y1i, h]
  simp only
  rw [List.map_set]
theorem ykc {a b : Nat} (h : a + b ≤ 137438953472) : (2 * (a + b) + 512) * 8 ≤ 2 ^ 48 := by
  have : (2 * (a + b) + 512) * 8 ≤ (2 * 137438953472 + 512) * 8 := Nat.mul_le_mul_right 8 (by omega)
  exact Nat.le_trans this (by decide)
theorem y18m {α : Type} [Cel α] {H : Heap} {id g i : Nat} {L : List α} {x : α} {v : AV} (h : H[id]? = some ⟨g, .arr false false (es α) (L.map enc)⟩) (hx : L[i]? = some x) (hv : (enc x).head? = some v) : evLd false 1 (.lp id g i 0) H = some v := by
  have hr : yg H id g = some (false, es α, L.map enc) := by simp [yg, y3y, h]
  have hg : (L.map (enc (α := α)))[i]? = some (enc x) := by simp [hx]
  rw [y2k, hr]
  simp only [hg, y6a, List.drop_zero, hv]
abbrev AB (f : Fn) : AO := ⟨1, .arr true false 5 [enc f]⟩
abbrev AL (g : Nat) (L : List Bool) : AO := ⟨g, .arr false false 1 (L.map enc)⟩
abbrev AI (g : Nat) (L : List Int) : AO := ⟨g, .arr false false 1 (L.map enc)⟩
abbrev AX (g : Nat) (x : Ins) : AO := ⟨g, .arr true false 9 [enc x]⟩
theorem yg8 {n : Nat} {p : Int} (h0 : 0 ≤ p) (h1 : p < (n : Int)) (id g : Nat) (k : IntKind) : yi 1 (.ls id g 1 0 n) (.int k p) = some (.lp id g p.toNat 0) := by simp [yi, h0, h1]
end Go.Vm
namespace Go.Vm
open Cel
section
variable {α : Type} [Cel α]
def ownV (j g : Nat) : Option (List α) → AV
  | none => .nils
  | some L => .ls j g (es α) 0 L.length
def ownO (g : Nat) (d : AO) : Option (List α) → AO
  | none => d
  | some L => ⟨g, .arr false false (es α) (L.map enc)⟩
def exV (k : Nat) : Option (List α) → AV
  | none => .nils
  | some L => .ls k 0 (es α) 0 L.length
def exOs : Option (List α) → List OC
  | none => []
  | some L => [.arr false false (es α) (L.map enc)]
def ownI (j : Nat) : Option (List α) → List Nat
  | none => []
  | some _ => [j]
@[simp] theorem y1pk (j g : Nat) (o : Option (List α)) : cellsOf (ownV j g o) = [ownV j g o] := by cases o <;> rfl
@[simp] theorem y1wm (j g : Nat) (o : Option (List α)) : yo (ownV j g o) = true := by cases o <;> rfl
@[simp] theorem y1y7 (j g : Nat) (o : Option (List α)) : known (ownV j g o) = true := by cases o <;> rfl
@[simp] theorem y1fw (j g : Nat) (o : Option (List α)) (H : Heap) : yy 1 (ownV j g o) H = some (.int .i64 (lst o).length) := by cases o <;> rfl
theorem ysn {H : Heap} {i : Nat} {o : AO} (h : H[i]? = some o) : H.set i o = H := by
  refine List.ext_getElem? fun k => ?_
  rw [List.getElem?_set]
  split
  · rename_i e; subst e
    rw [if_pos (List.getElem?_eq_some_iff.1 h).1, h]
  · rfl
theorem yay {E : Env} {C : Calls2} {fb j f : Nat} {args : List AV} {H : Heap} {fa : Fz (List AV)} {N : Option (List α)} {o : AO} (hE : E.pure f = true) (ha : ye (fz H y1d) args = some fa) (hc : C.p f fa.v = some (exO N))
    (hf : fa.ids = []) (ho : H[fb + j]? = some o) : y4 E C fb (some j) false f args H = some (ownV (fb + j) (o.gen + 1) N, H.set (fb + j) (ownO (o.gen + 1) o N)) := by
  simp only [y4, hE, if_true, y23, ha, hc]
  have hfr : ((exO N).fresh || fa.ids.isEmpty) = true := by rw [hf]; simp
  simp only [hfr, if_true]
  cases N with
  | none =>
    simp only [exO, y1t, Bool.false_eq_true, if_false, ownV, ownO, ysn ho]
    rfl
  | some L => simp only [Bool.false_eq_true, if_false, y1mz, ho, y1lj, ownV, ownO]
theorem yws {E : Env} {C : Calls2} {fb j f : Nat} {args : List AV} {H : Heap} {fa : Fz (List AV)} {N : Option (List α)} (hE : E.pure f = true) (ha : ye (fz H y1d) args = some fa) (hc : C.p f fa.v = some (exO N))
    (hf : fa.ids = []) : y55 E C fb (some j) false f args H = some ([], ownI (fb + j) N) := by
  cases N with
  | none => simp [y55, hE, ha, hc, hf, exO, ownI]
  | some L => simp [y55, hE, ha, hc, hf, exO, ownI]
theorem yw6 {H : Heap} {j g : Nat} {d : AO} {L : List α} (h : H[j]? = some (ownO g d (some L))) : yg H j g = some (false, es α, L.map enc) := by
  simp [yg, y3y, h, ownO]
theorem y1om {H : Heap} {j g k : Nat} {d : AO} {o : Option (List α)} (h : H[j]? = some (ownO g d o)) : fz H (k + 2) (ownV j g o) = some ⟨slA o, (lst o).all scal, ownI j o⟩ := by
  cases o with
  | none => rfl
  | some L =>
    rw [ownV, y206, yw6 h]
    simp only [List.drop_zero, Nat.zero_add, List.length_map, Nat.le_refl, and_self, if_true, y5x, y1ns]
    simp [slA, ownI]
theorem y4h {H : Heap} {j g k : Nat} {d : AO} {o : Option (List α)} (h : H[j]? = some (ownO g d o)) (os : List OC) :
    expo H (k + 1) (ownV j g o) os = some ⟨exV os.length o, os ++ exOs o, (lst o).all scal, ownI j o, []⟩ := by
  cases o with
  | none => simp [ownV, expo, pure1, exV, exOs, ownI]
  | some L =>
    rw [ownV, y1v1, yw6 h]
    simp only [List.drop_zero, Nat.zero_add, List.length_map, Nat.le_refl, and_self, if_true, y5x, y14t]
    rfl
end
theorem y1hl {rows : List (List AV)} {i : Nat} {r : List AV} (h : rows[i]? = some r) : rows.set i r = rows := by
  refine List.ext_getElem? fun k => ?_
  rw [List.getElem?_set]
  split
  · rename_i e; subst e
    rw [if_pos (List.getElem?_eq_some_iff.1 h).1, h]
  · rfl
theorem ykt {H : Heap} {id g es : Nat} {fz : Bool} {rows : List (List AV)} (h : yg H id g = some (fz, es, rows)) : y1i H id rows = H := by
  unfold yg y3y at h
  cases ho : H[id]? with
  | none => rw [ho] at h; simp at h
  | some o =>
    obtain ⟨g', c⟩ := o
    rw [ho] at h
    by_cases hg : g' = g
    · cases c with
      | arr bx fz' es' rows' =>
        simp only [hg, if_true, Option.some.injEq, Prod.mk.injEq] at h
        obtain ⟨rfl, rfl, rfl⟩ := h
        simp only [y1i, ho]
        exact ysn ho
      | dead => simp [hg] at h
      | map _ _ => simp [hg] at h
    · simp [hg] at h
def y1m (f : Fn) : Ex AV :=
  ⟨.agg [exV 0 f.regs, exV (exOs f.regs).length f.params, .int .i64 f.ret, exV (exOs f.regs ++ exOs f.params).length f.code, exV (exOs f.regs ++ exOs f.params ++ exOs f.code).length f.rows],
    exOs f.regs ++ exOs f.params ++ exOs f.code ++ exOs f.rows, (lst f.code).all scal && (lst f.rows).all scal, [], []⟩
theorem y1vd {α : Type} [Cel α] (o : Option (List α)) (A B : List OC) (L : List α) (h : o = some L) : (y1v (A ++ exOs o ++ B))[A.length]? = some (ownO 0 ⟨0, .dead⟩ o) := by
  subst h
  simp [y1v, exOs, ownO]
theorem yh4 {α : Type} [Cel α] (o : Option (List α)) (A B : List OC) (k : Nat) : fz (y1v (A ++ exOs o ++ B)) (k + 2) (exV A.length o) = some ⟨slA o, (lst o).all scal, ownI A.length o⟩ := by
  cases ho : o with
  | none => rfl
  | some L => exact y1om (g := 0) (o := some L) (by have := y1vd o A B L ho; rwa [ho] at this)
theorem yih (f : Fn) : yyv (y1m f) (.agg (enc f)) := by
  have h1 := yh4 f.regs [] (exOs f.params ++ exOs f.code ++ exOs f.rows) 9
  have h2 := yh4 f.params (exOs f.regs) (exOs f.code ++ exOs f.rows) 9
  have h3 := yh4 f.code (exOs f.regs ++ exOs f.params) (exOs f.rows) 9
  have h4 := yh4 f.rows (exOs f.regs ++ exOs f.params ++ exOs f.code) [] 9
  simp only [List.nil_append, List.append_nil, List.append_assoc, List.length_nil, List.length_append] at h1 h2 h3 h4
  have hi : fz (y1v (y1m f).objs) 11 (.int .i64 f.ret) = some ⟨.int .i64 f.ret, true, []⟩ := rfl
  refine ⟨_, (y9z _ 11 _).trans (by
    simp only [y1m, yx, List.append_assoc, List.length_append] at hi ⊢
    simp only [h1, h2, h3, h4, hi, y16]
    rfl), rfl⟩
theorem y1s {E : Env} {C : Calls2} {fb f : Nat} {sl : Option Nat} {args : List AV} {h : Heap} {fa : Fz (List AV)} {r : Ex AV} {v : AV} (hE : E.pure f = true) (ha : ye (fz h y1d) args = some fa) (hf : fa.ids = [])
    (hc : C.p f fa.v = some r) (hr : yyv r v) : y4 E C fb sl true f args h = some (v, h) := by
  obtain ⟨q, h1, h2⟩ := hr
  simp [y4, hE, y23, ha, hc, hf, h1, h2]
theorem yjg {E : Env} {C : Calls2} {fb f : Nat} {sl : Option Nat} {args : List AV} {h : Heap} {fa : Fz (List AV)} {r : Ex AV} (hE : E.pure f = true) (ha : ye (fz h y1d) args = some fa) (hf : fa.ids = [])
    (hc : C.p f fa.v = some r) : y55 E C fb sl true f args h = some ([], []) := by
  simp [y55, hE, ha, hc, hf]
end Go.Vm
namespace Go.Vm
open Cel
theorem ybq {H : Heap} {a : Nat} {x : AO} (h : a < H.length) : (H.set a x)[a]? = some x := by simp [h]
theorem y3a {H : Heap} {a b : Nat} {x : AO} (h : a ≠ b) : (H.set a x)[b]? = H[b]? := List.getElem?_set_ne h
theorem y96 {H : Heap} {a : Nat} {x : AO} (h : H[a]? = some x) : a < H.length := (List.getElem?_eq_some_iff.1 h).1
end Go.Vm
namespace Go.Vm
def calls (o : Int) : Bool := decide (23 ≤ o) && decide (o ≤ 26)
def ends (o : Int) : Bool := decide (o = 27) || decide (o = 30) || decide (o = 31)
def leads (o : Int) : Bool := decide (o = 27) || decide (o = 28) || decide (o = 29)
def throws (o : Int) : Bool := (decide (7 ≤ o) && decide (o ≤ 12)) || decide (o = 20) || decide (o = 21) || decide (o = 31) || calls o
def writes (o : Int) : Bool := decide (o ∈ [1, 2, 3, 4, 5, 6, 13, 15, 16, 18, 20, 21, 22, 32]) || calls o
def defr (x : Ins) : Int := if writes x.op then x.d else -1
def reads (o : Int) : Nat :=
  if o ∈ [4, 6, 7, 8, 10, 12, 15, 16, 19, 21, 22, 31] then 1 else if o ∈ [5, 9, 11, 13, 17, 28] then 2 else if o = 14 then 3 else 0
def uses (x : Ins) : Option (List Int) :=
  if calls x.op then x.args
  else if x.op = 29 then (if x.b < 0 then some [x.a] else some [x.a, x.b])
  else if x.op = 30 then (if 0 ≤ x.a then some [x.a] else none)
  else if reads x.op = 1 then some [x.a] else if reads x.op = 2 then some [x.a, x.b] else if reads x.op = 3 then some [x.a, x.b, x.c] else none
theorem ydb (o : Int) : o = 1 ∨ o = 2 ∨ o = 3 ∨ o = 4 ∨ o = 5 ∨ o = 6 ∨ o = 7 ∨ o = 8 ∨ o = 9 ∨ o = 10 ∨ o = 11 ∨ o = 12 ∨ o = 13 ∨ o = 14 ∨ o = 15 ∨ o = 16 ∨ o = 17 ∨ o = 18 ∨ o = 19 ∨ o = 20 ∨ o = 21 ∨ o = 22 ∨ o = 23 ∨ o = 24 ∨ o = 25 ∨ o = 26 ∨ o = 27 ∨ o = 28 ∨ o = 29 ∨ o = 30 ∨ o = 31 ∨ o = 32 ∨ o = 33 ∨ o < 1 ∨ 33 < o := by omega
theorem lo_f {o : Int} (h : o < 1) : (¬ o = 1 ∧ ¬ o = 2 ∧ ¬ o = 3 ∧ ¬ o = 4 ∧ ¬ o = 5 ∧ ¬ o = 6 ∧ ¬ o = 7 ∧ ¬ o = 8 ∧ ¬ o = 9 ∧ ¬ o = 10 ∧ ¬ o = 11 ∧ ¬ o = 12 ∧ ¬ o = 13 ∧ ¬ o = 14 ∧ ¬ o = 15 ∧ ¬ o = 16 ∧ ¬ o = 17 ∧ ¬ o = 18 ∧ ¬ o = 19 ∧ ¬ o = 20 ∧ ¬ o = 21 ∧ ¬ o = 22 ∧ ¬ o = 23 ∧ ¬ o = 24 ∧ ¬ o = 25 ∧ ¬ o = 26 ∧ ¬ o = 27 ∧ ¬ o = 28 ∧ ¬ o = 29 ∧ ¬ o = 30 ∧ ¬ o = 31 ∧ ¬ o = 32 ∧ ¬ o = 33) ∧ ¬ 7 ≤ o ∧ ¬ 23 ≤ o ∧ ¬ 1 ≤ o := by omega
theorem hi_f {o : Int} (h : 33 < o) : (¬ o = 1 ∧ ¬ o = 2 ∧ ¬ o = 3 ∧ ¬ o = 4 ∧ ¬ o = 5 ∧ ¬ o = 6 ∧ ¬ o = 7 ∧ ¬ o = 8 ∧ ¬ o = 9 ∧ ¬ o = 10 ∧ ¬ o = 11 ∧ ¬ o = 12 ∧ ¬ o = 13 ∧ ¬ o = 14 ∧ ¬ o = 15 ∧ ¬ o = 16 ∧ ¬ o = 17 ∧ ¬ o = 18 ∧ ¬ o = 19 ∧ ¬ o = 20 ∧ ¬ o = 21 ∧ ¬ o = 22 ∧ ¬ o = 23 ∧ ¬ o = 24 ∧ ¬ o = 25 ∧ ¬ o = 26 ∧ ¬ o = 27 ∧ ¬ o = 28 ∧ ¬ o = 29 ∧ ¬ o = 30 ∧ ¬ o = 31 ∧ ¬ o = 32 ∧ ¬ o = 33) ∧ 7 ≤ o ∧ 23 ≤ o ∧ ¬ o ≤ 12 ∧ ¬ o ≤ 26 ∧ 1 ≤ o := by omega
end Go.Vm
namespace Go.Vm
open Cel
attribute [local simp] y4 y23 ym
theorem ysx {n b : Nat} (hb : b ≤ 200) (h : n ≤ 2 ^ 38) : (2 * n + 512) * b ≤ 281474976710656 := by
  have e : (2:Nat)^38 = 274877906944 := by decide
  have h1 : (2 * n + 512) ≤ 549755814400 := by omega
  have : (2 * n + 512) * b ≤ 549755814400 * 200 := Nat.mul_le_mul h1 hb
  omega
@[simp] theorem y9b (o : Option (List Int)) (h : (lst o).length ≤ 17592186043904) : (y5 E).p 39 [slA o] = some (exO o) := by
  rw [y1xn]
  cases o with
  | none => simp [yvb, ys2, yrt]; rfl
  | some L =>
    simp only [y8u] at h
    have h1 : (2 * L.length + 512) * 8 ≤ 281474976710656 := by omega
    simp [yvb, ys2, yrt, y14, y1a, y2g, h1]
    exact y5m (α := Int) (by simp)
end Go.Vm
namespace Go.Vm
open Cel
attribute [local simp] y4 y23 ym
@[simp] theorem yol (o : Option (List Ins)) (h : (lst o).length ≤ 2 ^ 38) : (y5 E).p 40 [slA o] = some (exO o) := by
  rw [y1yi]
  cases o with
  | none => simp [yp9, yvc, yv7]; rfl
  | some L =>
    have h1 := ysx (b := 96) (by omega) h
    simp only [y8u] at h1
    simp [yp9, yvc, yv7, y14, y1a, y2g, h1]
    exact y5m (α := Ins) (by simp)
@[simp] theorem yn1 (o : Option (List Row)) (h : (lst o).length ≤ 2 ^ 38) : (y5 E).p 41 [slA o] = some (exO o) := by
  rw [y21d]
  cases o with
  | none => simp [yp8, yrl, ypo]; rfl
  | some L =>
    have h1 := ysx (b := 40) (by omega) h
    simp only [y8u] at h1
    simp [yp8, yrl, ypo, y14, y1a, y2g, h1]
    exact y5m (α := Row) (by simp)
end Go.Vm
namespace Go.Vm
structure FnSm (f : Fn) : Prop where
  regs : (lst f.regs).length ≤ 17592186043904
  params : (lst f.params).length ≤ 17592186043904
  code : (lst f.code).length ≤ 2 ^ 38
  rows : (lst f.rows).length ≤ 2 ^ 38
  args : ∀ x ∈ lst f.code, (lst x.args).length ≤ 17592186043904
abbrev y1oq (f : Fn) : Prop := ∀ x ∈ lst f.code, (lst x.args).length ≤ 17592186043904
end Go.Vm
namespace Go.Vm
open Cel
attribute [local simp] ym
abbrev fnA (f : Fn) : AV := .agg [ownV 2 1 f.regs, ownV 3 1 f.params, .int .i64 f.ret, ownV 4 1 f.code, ownV 5 1 f.rows]
abbrev HCp (f : Fn) (o1 : AO) : Heap := [⟨1, .arr true false 5 [enc f]⟩, o1, ownO 1 ⟨0, .dead⟩ f.regs, ownO 1 ⟨0, .dead⟩ f.params, ownO 1 ⟨0, .dead⟩ f.code, ownO 1 ⟨0, .dead⟩ f.rows, ⟨1, .arr true false 5 [cellsOf (fnA f)]⟩]
theorem y11a (f : Fn) (hs : FnSm f) (v2 : AV) (o1 : AO) : ∀ (d i : Nat), i + d = (lst f.code).length →
    yko v2 (.lp 6 1 0 0) (.int .i64 (lst f.code).length) (.int .i64 i) (HCp f o1) = y143 v2 (.lp 6 1 0 0) (HCp f o1) := by
  have e38 : (2:Nat) ^ 38 = 274877906944 := by decide
  intro d
  induction d with
  | zero =>
    intro i hi
    have hn : ¬ ((i : Int) < ((lst f.code).length : Int)) := by omega
    rw [ylb]
    simp [y1ie, y1im, hn]
  | succ d ih =>
    intro i hi
    have hlt : i < (lst f.code).length := by omega
    have hc : ((i : Int) < ((lst f.code).length : Int)) := by omega
    have hl : (lst f.code).length ≤ 9223372036854775807 := by have := hs.code; omega
    have hw := y1j hlt hl
    obtain ⟨L, hL⟩ : ∃ L, f.code = some L := by
      cases hf : f.code with
      | none => rw [hf] at hlt; exact absurd hlt (Nat.not_lt_zero _)
      | some L => exact ⟨L, rfl⟩
    have ih := ih (i + 1) (by omega)
    push_cast at ih
    have hx : L[i]? = some (lst f.code)[i] := by
      simp only [hL, y8u] at hlt ⊢
      exact List.getElem?_eq_getElem hlt
    have ha := hs.args _ (List.getElem_mem hlt)
    generalize (lst f.code)[i] = x at *
    have k39 := y9b x.args ha
    have lA : evLd false 1 (.lp 6 1 0 3) (HCp f o1) = some (ownV 4 1 f.code) := rfl
    have ix : yi 9 (ownV 4 1 f.code) (.int .i64 (i : Int)) = some (.lp 4 1 i 0) := by
      have : i < L.length := (List.getElem?_eq_some_iff.1 hx).1
      simp [hL, ownV, yi, this]
    have hr : yg (HCp f o1) 4 1 = some (false, 9, L.map enc) := by
      simp [yg, y3y, hL, ownO]
    have hg : (L.map (enc (α := Ins)))[i]? = some (enc x) := by simp [hx]
    have lB : evLd false 1 (.lp 4 1 i 8) (HCp f o1) = some (slA x.args) := by
      rw [y2k, hr]
      simp only [hg, y6a]
      rfl
    have ha1 : ye (fz (HCp f o1) y1d) [slA x.args] = some ⟨[slA x.args], (lst x.args).isEmpty && true, []⟩ := by
      rw [yx, y1lq, y16]; rfl
    have c1 := y1s (E := E) (C := y5 E) (fb := 0) (sl := none) (f := 39) (v := slA x.args) rfl ha1 rfl k39 ⟨_, y1od _, rfl⟩
    have f1 := yjg (E := E) (C := y5 E) (fb := 0) (sl := none) (f := 39) rfl ha1 rfl k39
    have st : evSt 1 (.lp 4 1 i 8) (slA x.args) (HCp f o1) = some (.tup [], HCp f o1) := by
      rw [y2i, hr]
      simp only [hg, yyy]
      rw [if_pos ⟨rfl, by rw [len]; exact Nat.le_refl _, by simp⟩]
      rw [show yh 8 [slA x.args] (enc x) = enc x from rfl, y1hl hg]
      rw [ykt hr]
    have hp : yp [([], []), (ids1 (.lp 6 1 0 3), []), ([], []), ([], []), (ids1 (.lp 6 1 0 3), []), ([], []), ([], []), ([], []), (ids1 (.lp 4 1 i 8), []), ([], []), ([], []), ([], []), ([], ids1 (.lp 4 1 i 8))] [(1, 9)] = true := by simp [yp, y26, meets]
    rw [ylb]
    simp only [y1ie, yn, y6, y1im, hc, decide_true, y1g, y1qx, yq, lA, ix, lB, f1, ydj, c1, yj, st, hp, y1sq, y1qt, yw, hw, ih, Nat.zero_add]
theorem y1oj (f : Fn) (hs : FnSm f) : (y5 E).p 13 [.agg (enc f)] = some (y1m f) := by
  rw [y23n]
  have k1 := y9b f.regs hs.regs
  have k2 := y9b f.params hs.params
  have k3 := yol f.code hs.code
  have k4 := yn1 f.rows hs.rows
  have lp := y11a f hs (.lp 1 1 0 0) ⟨1, .arr true false 5 [[.nils, .nils, .int .i64 0, .nils, .nils]]⟩ _ 0 (Nat.zero_add _)
  have ha1 : ∀ (o : Option (List Int)) (H : Heap), ye (fz H y1d) [slA o] = some ⟨[slA o], (lst o).isEmpty && true, []⟩ := fun o H => by
    rw [yx, y1lq, y16]; rfl
  have ha2 : ∀ (o : Option (List Ins)) (H : Heap), ye (fz H y1d) [slA o] = some ⟨[slA o], (lst o).isEmpty && true, []⟩ := fun o H => by
    rw [yx, y1lq, y16]; rfl
  have ha3 : ∀ (o : Option (List Row)) (H : Heap), ye (fz H y1d) [slA o] = some ⟨[slA o], (lst o).isEmpty && true, []⟩ := fun o H => by
    rw [yx, y1lq, y16]; rfl
  have l0 : ∀ (j : Nat) (t : Heap), evLd false 1 (.lp 0 1 0 j) (⟨1, .arr true false 5 [enc f]⟩ :: t) = ((enc f).drop j).head? := fun j t => by simp [evLd]
  have e11 : yvg (.agg (enc f)) [⟨0, .dead⟩, ⟨0, .dead⟩, ⟨0, .dead⟩, ⟨0, .dead⟩, ⟨0, .dead⟩, ⟨0, .dead⟩, ⟨0, .dead⟩] =
      yle (.lp 0 1 0 0) (.lp 1 1 0 0) [⟨1, .arr true false 5 [enc f]⟩, ⟨1, .arr true false 5 [[.nils, .nils, .int .i64 0, .nils, .nils]]⟩, ⟨0, .dead⟩, ⟨0, .dead⟩, ⟨0, .dead⟩, ⟨0, .dead⟩, ⟨0, .dead⟩] := by
    simp [yvg]
  rw [e11]
  have c1 := yay (E := E) (C := y5 E) (fb := 0) (j := 2) (f := 39) (H := [⟨1, .arr true false 5 [enc f]⟩, ⟨1, .arr true false 5 [[.nils, .nils, .int .i64 0, .nils, .nils]]⟩, ⟨0, .dead⟩, ⟨0, .dead⟩, ⟨0, .dead⟩, ⟨0, .dead⟩, ⟨0, .dead⟩]) rfl (ha1 f.regs _) k1 rfl rfl
  have f1 := fun H => yws (E := E) (C := y5 E) (fb := 0) (j := 2) (f := 39) (H := H) rfl (ha1 f.regs H) k1 rfl
  have c2 := yay (E := E) (C := y5 E) (fb := 0) (j := 3) (f := 39) (H := [⟨1, .arr true false 5 [enc f]⟩, ⟨1, .arr true false 5 [[.nils, .nils, .int .i64 0, .nils, .nils]]⟩, ownO 1 ⟨0, .dead⟩ f.regs, ⟨0, .dead⟩, ⟨0, .dead⟩, ⟨0, .dead⟩, ⟨0, .dead⟩]) rfl (ha1 f.params _) k2 rfl rfl
  have f2 := fun H => yws (E := E) (C := y5 E) (fb := 0) (j := 3) (f := 39) (H := H) rfl (ha1 f.params H) k2 rfl
  have c3 := yay (E := E) (C := y5 E) (fb := 0) (j := 4) (f := 40) (H := [⟨1, .arr true false 5 [enc f]⟩, ⟨1, .arr true false 5 [[.nils, .nils, .int .i64 0, .nils, .nils]]⟩, ownO 1 ⟨0, .dead⟩ f.regs, ownO 1 ⟨0, .dead⟩ f.params, ⟨0, .dead⟩, ⟨0, .dead⟩, ⟨0, .dead⟩]) rfl (ha2 f.code _) k3 rfl rfl
  have f3 := fun H => yws (E := E) (C := y5 E) (fb := 0) (j := 4) (f := 40) (H := H) rfl (ha2 f.code H) k3 rfl
  have c4 := yay (E := E) (C := y5 E) (fb := 0) (j := 5) (f := 41) (H := [⟨1, .arr true false 5 [enc f]⟩, ⟨1, .arr true false 5 [[.nils, .nils, .int .i64 0, .nils, .nils]]⟩, ownO 1 ⟨0, .dead⟩ f.regs, ownO 1 ⟨0, .dead⟩ f.params, ownO 1 ⟨0, .dead⟩ f.code, ⟨0, .dead⟩, ⟨0, .dead⟩]) rfl (ha3 f.rows _) k4 rfl rfl
  have f4 := fun H => yws (E := E) (C := y5 E) (fb := 0) (j := 5) (f := 41) (H := H) rfl (ha3 f.rows H) k4 rfl
  simp only [Nat.zero_add, List.set_cons_zero, List.set_cons_succ] at c1 c2 c3 c4 f1 f2 f3 f4
  have hb : yb [.nils, .nils, .int .i64 0, .nils, .nils] [(0, 1, ownV 2 1 f.regs), (1, 1, ownV 3 1 f.params), (2, 1, .int .i64 f.ret), (3, 1, ownV 4 1 f.code), (4, 1, ownV 5 1 f.rows)] = some (fnA f) := by
    simp [yb, y2v, yh]
    rfl
  have nc : ∀ (h0 : AO) (o1 : AO) (o2 o3 o4 o5 : AO), newC 0 (some 6) [.nils, .nils, .int .i64 0, .nils, .nils] [h0, o1, o2, o3, o4, o5, ⟨0, .dead⟩] = some (.lp 6 1 0 0, [h0, o1, o2, o3, o4, o5, ⟨1, .arr true false 5 [[.nils, .nils, .int .i64 0, .nils, .nils]]⟩]) := fun _ _ _ _ _ _ => rfl
  have st : ∀ (h0 : AO) (o1 : AO) (o2 o3 o4 o5 : AO), evSt 5 (.lp 6 1 0 0) (fnA f) [h0, o1, o2, o3, o4, o5, ⟨1, .arr true false 5 [[.nils, .nils, .int .i64 0, .nils, .nils]]⟩] = some (.tup [], [h0, o1, o2, o3, o4, o5, ⟨1, .arr true false 5 [cellsOf (fnA f)]⟩]) := by
    intro h0 o1 o2 o3 o4 o5
    simp [y2i, yh]
  have hp : yp [([], []), (ids1 (.lp 0 1 0 0), []), ([], ownI 2 f.regs), ([], []), (ids1 (.lp 0 1 0 1), []), ([], ownI 3 f.params), ([], []), (ids1 (.lp 0 1 0 2), []), ([], []), (ids1 (.lp 0 1 0 3), []), ([], ownI 4 f.code), ([], []), (ids1 (.lp 0 1 0 4), []), ([], ownI 5 f.rows), ([], []), ([], [6]), ([], ids1 (.lp 6 1 0 0))]
      [(2, 4), (2, 7), (5, 7), (2, 9), (5, 9), (7, 10), (2, 12), (5, 12), (10, 12), (7, 13), (1, 15), (2, 15), (4, 15), (5, 15), (7, 15), (9, 15), (10, 15), (12, 15), (13, 15)] = true := by
    cases f.regs <;> cases f.params <;> cases f.code <;> cases f.rows <;> rfl
  have e10 : yle (.lp 0 1 0 0) (.lp 1 1 0 0) [⟨1, .arr true false 5 [enc f]⟩, ⟨1, .arr true false 5 [[.nils, .nils, .int .i64 0, .nils, .nils]]⟩, ⟨0, .dead⟩, ⟨0, .dead⟩, ⟨0, .dead⟩, ⟨0, .dead⟩, ⟨0, .dead⟩] =
      y1af (.lp 1 1 0 0) (.lp 6 1 0 0) (HCp f ⟨1, .arr true false 5 [[.nils, .nils, .int .i64 0, .nils, .nils]]⟩) := by
    have d0 : ((enc f).drop 0).head? = some (slA f.regs) := rfl
    have d1 : ((enc f).drop 1).head? = some (slA f.params) := rfl
    have d2 : ((enc f).drop 2).head? = some (.int .i64 f.ret) := rfl
    have d3 : ((enc f).drop 3).head? = some (slA f.code) := rfl
    have d4 : ((enc f).drop 4).head? = some (slA f.rows) := rfl
    simp only [yle, yq, y6, Nat.zero_add, l0, d0, d1, d2, d3, d4, f1, ydj, c1, yj, f2, c2, f3, c3, f4, c4, hb, nc, st, hp, y1sq]
  have lC : evLd false 1 (.lp 6 1 0 3) (HCp f ⟨1, .arr true false 5 [[.nils, .nils, .int .i64 0, .nils, .nils]]⟩) = some (ownV 4 1 f.code) := rfl
  have e8 : y1af (.lp 1 1 0 0) (.lp 6 1 0 0) (HCp f ⟨1, .arr true false 5 [[.nils, .nils, .int .i64 0, .nils, .nils]]⟩) = y143 (.lp 1 1 0 0) (.lp 6 1 0 0) (HCp f ⟨1, .arr true false 5 [[.nils, .nils, .int .i64 0, .nils, .nils]]⟩) := by
    rw [← lp]
    simp only [y1af, yq, y6, Nat.zero_add, lC, y1fw]
    rfl
  rw [e10, e8]
  have l6 : ∀ o1, evLd true 5 (.lp 6 1 0 0) (HCp f o1) = some (fnA f) := fun o1 => rfl
  have st1 : evSt 5 (.lp 1 1 0 0) (fnA f) (HCp f ⟨1, .arr true false 5 [[.nils, .nils, .int .i64 0, .nils, .nils]]⟩) = some (.tup [], HCp f ⟨1, .arr true false 5 [cellsOf (fnA f)]⟩) := by
    simp [y2i, yh]
  have l7 : evLd true 5 (.lp 1 1 0 0) (HCp f ⟨1, .arr true false 5 [cellsOf (fnA f)]⟩) = some (fnA f) := rfl
  simp only [y143, l6, y6, st1, yj, l7]
  have x1 := fun os => y4h (α := Int) (H := HCp f ⟨1, .arr true false 5 [cellsOf (fnA f)]⟩) (j := 2) (g := 1) (k := 10) (d := ⟨0, .dead⟩) (o := f.regs) rfl os
  have x2 := fun os => y4h (α := Int) (H := HCp f ⟨1, .arr true false 5 [cellsOf (fnA f)]⟩) (j := 3) (g := 1) (k := 10) (d := ⟨0, .dead⟩) (o := f.params) rfl os
  have x3 := fun os => y4h (α := Ins) (H := HCp f ⟨1, .arr true false 5 [cellsOf (fnA f)]⟩) (j := 4) (g := 1) (k := 10) (d := ⟨0, .dead⟩) (o := f.code) rfl os
  have x4 := fun os => y4h (α := Row) (H := HCp f ⟨1, .arr true false 5 [cellsOf (fnA f)]⟩) (j := 5) (g := 1) (k := 10) (d := ⟨0, .dead⟩) (o := f.rows) rfl os
  have xi := fun os => yik (v := .int .i64 f.ret) rfl (HCp f ⟨1, .arr true false 5 [cellsOf (fnA f)]⟩) 10 os
  rw [yab]
  simp only [y3i, x1, x2, x3, x4, xi, List.nil_append]
  have ap : y2x (ownI 2 f.regs ++ (ownI 3 f.params ++ ([] ++ (ownI 4 f.code ++ (ownI 5 f.rows ++ []))))) ([] ++ ([] ++ ([] ++ ([] ++ ([] ++ []))))) = true := by
    cases f.regs <;> cases f.params <;> cases f.code <;> cases f.rows <;> rfl
  have sc : (lst f.regs).all scal = true := by simp
  have sc2 : (lst f.params).all scal = true := by simp
  simp only [List.nil_append] at ap
  rw [if_pos ap]
  simp [y1m, sc, sc2]
end Go.Vm
namespace Go.Vm
open Cel
def hasL (f : Fn) : Nat → Bool
  | 0 => f.regs.isSome
  | 1 => f.params.isSome
  | 2 => f.code.isSome
  | _ => f.rows.isSome
structure FnAt (H : Heap) (f : Fn) (p g : Nat → Nat) : Prop where
  regs : ∀ L, f.regs = some L → H[p 0]? = some ⟨g 0, .arr false false 1 (L.map enc)⟩
  params : ∀ L, f.params = some L → H[p 1]? = some ⟨g 1, .arr false false 1 (L.map enc)⟩
  code : ∀ L, f.code = some L → H[p 2]? = some ⟨g 2, .arr false false 9 (L.map enc)⟩
  rows : ∀ L, f.rows = some L → H[p 3]? = some ⟨g 3, .arr false false 4 (L.map enc)⟩
  ne : ∀ i j, i < 4 → j < 4 → i ≠ j → hasL f i = true → hasL f j = true → p i ≠ p j
def fnC (f : Fn) (p g : Nat → Nat) : List AV := [ownV (p 0) (g 0) f.regs, ownV (p 1) (g 1) f.params, .int .i64 f.ret, ownV (p 2) (g 2) f.code, ownV (p 3) (g 3) f.rows]
abbrev fnV (f : Fn) (p g : Nat → Nat) : AV := .agg (fnC f p g)
section
variable {α : Type} [Cel α]
theorem yjr {H : Heap} {j g k : Nat} {o : Option (List α)} (h : ∀ L, o = some L → H[j]? = some ⟨g, .arr false false (es α) (L.map enc)⟩) : fz H (k + 2) (ownV j g o) = some ⟨slA o, (lst o).all scal, ownI j o⟩ := by
  cases o with
  | none => rfl
  | some L => exact y1om (d := ⟨0, .dead⟩) (o := some L) (h L rfl)
theorem yag {H : Heap} {j g k : Nat} {o : Option (List α)} (h : ∀ L, o = some L → H[j]? = some ⟨g, .arr false false (es α) (L.map enc)⟩) (os : List OC) :
    expo H (k + 1) (ownV j g o) os = some ⟨exV os.length o, os ++ exOs o, (lst o).all scal, ownI j o, []⟩ := by
  cases o with
  | none => simp [ownV, expo, pure1, exV, exOs, ownI]
  | some L => exact y4h (d := ⟨0, .dead⟩) (o := some L) (h L rfl) os
end
section
variable {H : Heap} {f : Fn} {p g : Nat → Nat} (A : FnAt H f p g)
include A
theorem FnAt.fz : ∃ fr ids, fz H y1d (fnV f p g) = some ⟨.agg (enc f), fr, ids⟩ := by
  have h1 := yjr (k := 9) A.regs
  have h2 := yjr (k := 9) A.params
  have h3 := yjr (k := 9) A.code
  have h4 := yjr (k := 9) A.rows
  have hi : Go.Vm.fz H 11 (.int .i64 f.ret) = some ⟨.int .i64 f.ret, true, []⟩ := rfl
  refine ⟨_, _, (y9z _ 11 _).trans (by
    simp only [fnC, yx, h1, h2, h3, h4, hi, y16]
    rfl)⟩
theorem FnAt.expo : y7 H (fnV f p g) = some (y1m f) := by
  have x1 := fun os => yag (k := 10) A.regs os
  have x2 := fun os => yag (k := 10) A.params os
  have x3 := fun os => yag (k := 10) A.code os
  have x4 := fun os => yag (k := 10) A.rows os
  have xi := fun os => yik (v := .int .i64 f.ret) rfl H 10 os
  rw [yab]
  simp only [fnC, y3i, x1, x2, x3, x4, xi, List.nil_append]
  have ap : y2x (ownI (p 0) f.regs ++ (ownI (p 1) f.params ++ ([] ++ (ownI (p 2) f.code ++ (ownI (p 3) f.rows ++ []))))) ([] ++ ([] ++ ([] ++ ([] ++ ([] ++ []))))) = true := by
    have n := A.ne
    have n01 := n 0 1 (by omega) (by omega) (by omega)
    have n02 := n 0 2 (by omega) (by omega) (by omega)
    have n03 := n 0 3 (by omega) (by omega) (by omega)
    have n12 := n 1 2 (by omega) (by omega) (by omega)
    have n13 := n 1 3 (by omega) (by omega) (by omega)
    have n23 := n 2 3 (by omega) (by omega) (by omega)
    simp only [hasL] at n01 n02 n03 n12 n13 n23
    cases h1 : f.regs <;> cases h2 : f.params <;> cases h3 : f.code <;> cases h4 : f.rows <;>
      (rw [h1, h2] at n01; rw [h1, h3] at n02; rw [h1, h4] at n03; rw [h2, h3] at n12; rw [h2, h4] at n13; rw [h3, h4] at n23; simp [ownI, y2x] at *; try simp_all)
  have sc : (lst f.regs).all scal = true := by simp
  have sc2 : (lst f.params).all scal = true := by simp
  simp only [List.nil_append] at ap
  rw [if_pos ap]
  simp [y1m, sc, sc2]
theorem FnAt.set {a : Nat} {x : AO} (h : ∀ i, i < 4 → hasL f i = true → p i ≠ a) : FnAt (H.set a x) f p g := by
  refine ⟨fun L e => ?_, fun L e => ?_, fun L e => ?_, fun L e => ?_, A.ne⟩
  · rw [y3a (fun e' => h 0 (by omega) (by simp [hasL, e]) e'.symm)]; exact A.regs L e
  · rw [y3a (fun e' => h 1 (by omega) (by simp [hasL, e]) e'.symm)]; exact A.params L e
  · rw [y3a (fun e' => h 2 (by omega) (by simp [hasL, e]) e'.symm)]; exact A.code L e
  · rw [y3a (fun e' => h 3 (by omega) (by simp [hasL, e]) e'.symm)]; exact A.rows L e
theorem FnAt.setCode {L L' : List Ins} (hL : f.code = some L) : FnAt (H.set (p 2) ⟨g 2, .arr false false 9 (L'.map enc)⟩) { f with code := some L' } p g := by
  have hc : hasL f 2 = true := by simp [hasL, hL]
  have hk : ∀ i, hasL { f with code := some L' } i = hasL f i := by
    intro i
    match i with
    | 0 => rfl
    | 1 => rfl
    | 2 => simp [hasL, hL]
    | i + 3 => rfl
  refine ⟨fun L e => ?_, fun L e => ?_, fun L e => ?_, fun L e => ?_, fun i j h1 h2 h3 h4 h5 => A.ne i j h1 h2 h3 (by rw [← hk]; exact h4) (by rw [← hk]; exact h5)⟩
  · rw [y3a (A.ne 2 0 (by omega) (by omega) (by omega) hc (by have e' : f.regs = some L := e; simp [hasL, e']))]; exact A.regs L e
  · rw [y3a (A.ne 2 1 (by omega) (by omega) (by omega) hc (by have e' : f.params = some L := e; simp [hasL, e']))]; exact A.params L e
  · have : L' = L := by simpa using e
    subst this
    exact ybq (y96 (A.code _ hL))
  · rw [y3a (A.ne 2 3 (by omega) (by omega) (by omega) hc (by have e' : f.rows = some L := e; simp [hasL, e']))]; exact A.rows L e
end
def gAt (H : Heap) (k : Nat) : Nat := ((H[k]?).getD ⟨0, .dead⟩).gen + 1
def okO (o : OC) : Prop := okOC o = true ∧ ∀ tab, y4t tab o = o
theorem ycv {fb : Nat} : ∀ (O : List OC) (j : Nat) (tab : List (Nat × Nat)) (H : Heap), (∀ o ∈ O, okO o) → fb + j + O.length ≤ H.length →
    ∃ H', y1t fb (some j) O tab H = some (tab ++ (List.range O.length).map (fun i => (fb + j + i, gAt H (fb + j + i))), H') ∧ H'.length = H.length ∧
      (∀ i o, O[i]? = some o → H'[fb + j + i]? = some ⟨gAt H (fb + j + i), o⟩) ∧ ∀ k, k < fb + j ∨ fb + j + O.length ≤ k → H'[k]? = H[k]?
  | [], j, tab, H, _, _ => ⟨H, by simp [y1t], rfl, fun i o h => by simp at h, fun _ _ => rfl⟩
  | o :: O, j, tab, H, ho, hl => by
    have h0 := ho o (by simp)
    simp only [List.length_cons] at hl
    obtain ⟨x, hx⟩ : ∃ x, H[fb + j]? = some x := ⟨_, List.getElem?_eq_getElem (by omega)⟩
    have hg : gAt H (fb + j) = x.gen + 1 := by simp [gAt, hx]
    obtain ⟨H', e1, e2, e3, e4⟩ := ycv (fb := fb) O (j + 1) (tab ++ [(fb + j, x.gen + 1)]) (H.set (fb + j) ⟨x.gen + 1, o⟩) (fun o h => ho o (by simp [h])) (by rw [List.length_set]; omega)
    have hgs : ∀ i, gAt (H.set (fb + j) ⟨x.gen + 1, o⟩) (fb + (j + 1) + i) = gAt H (fb + j + (i + 1)) := by
      intro i
      unfold gAt
      rw [y3a (by omega), show fb + (j + 1) + i = fb + j + (i + 1) by omega]
    refine ⟨H', ?_, by rw [e2, List.length_set], fun i o' hi => ?_, fun k hk => ?_⟩
    · rw [y1t, h0.2, h0.1]
      simp only [if_true, place, hx, Option.map_some]
      rw [e1]
      simp only [List.length_cons, List.range_succ_eq_map, List.map_cons, List.map_map, Nat.add_zero, hg, List.append_assoc, List.singleton_append, Option.some.injEq, Prod.mk.injEq, and_true]
      congr 2
      refine List.map_congr_left fun i _ => ?_
      simp only [Function.comp, hgs]
      rw [show fb + (j + 1) + i = fb + j + (i + 1) by omega]
    · cases i with
      | zero =>
        simp only [List.getElem?_cons_zero, Option.some.injEq] at hi
        subst hi
        rw [e4 _ (.inl (by omega))]
        simp only [Nat.add_zero]
        rw [ybq (by omega), hg]
      | succ i =>
        simp only [List.getElem?_cons_succ] at hi
        have := e3 i o' hi
        rw [hgs] at this
        rw [show fb + j + (i + 1) = fb + (j + 1) + i by omega]
        rw [show fb + j + (i + 1) = fb + (j + 1) + i by omega] at this
        exact this
    · simp only [List.length_cons] at hk
      rw [e4 k (by omega), y3a (by omega)]
section
variable {α : Type} [Cel α]
theorem yju (o : Option (List α)) : ∀ x ∈ exOs o, okO x := by
  cases o with
  | none => intro x h; cases h
  | some L =>
    intro x h
    simp only [exOs, List.mem_singleton] at h
    subst h
    exact ⟨rfl, fun _ => rfl⟩
theorem yav {tab : List (Nat × Nat)} {o : Option (List α)} {k id g : Nat} (h : ∀ L, o = some L → tab[k]? = some (id, g)) : y20 tab (exV k o) = ownV id g o := by
  cases o with
  | none => rfl
  | some L => simp [exV, y20, h L rfl, ownV]
theorem ydk (o : Option (List α)) : (exOs o).length = if o.isSome then 1 else 0 := by cases o <;> rfl
end
def cnt (f : Fn) : Nat → Nat
  | 0 => 0
  | 1 => (exOs f.regs).length
  | 2 => (exOs f.regs ++ exOs f.params).length
  | _ => (exOs f.regs ++ exOs f.params ++ exOs f.code).length
theorem yok {α : Type} (A B C : List α) (x : α) (h : B = [x]) : (A ++ B ++ C)[A.length]? = some x := by
  subst h; simp
theorem y1eu {f : Fn} (hs : FnSm f) {H : Heap} {fb j : Nat} (hl : fb + j + 4 ≤ H.length) : ∃ H' p g, y4 E (y5 E) fb (some j) false 13 [.agg (enc f)] H = some (fnV f p g, H') ∧ FnAt H' f p g ∧ H'.length = H.length ∧
    (∀ i, i < 4 → hasL f i = true → fb + j ≤ p i ∧ p i < fb + j + 4) ∧ ∀ k, k < fb + j ∨ fb + j + 4 ≤ k → H'[k]? = H[k]? := by
  have ha : ye (fz H y1d) [.agg (enc f)] = some ⟨[.agg (enc f)], scal f && true, []⟩ := by
    rw [yx, ycw, y16]; rfl
  have hlen : (y1m f).objs.length ≤ 4 := by
    simp only [y1m, List.length_append, ydk]
    repeat' split
    all_goals omega
  obtain ⟨H', e1, e2, e3, e4⟩ := ycv (fb := fb) (y1m f).objs j [] H (by
    intro o ho
    simp only [y1m, List.mem_append] at ho
    rcases ho with ((ho | ho) | ho) | ho
    · exact yju _ o ho
    · exact yju _ o ho
    · exact yju _ o ho
    · exact yju _ o ho) (by omega)
  have ob : ∀ (i : Nat) (x : OC), (y1m f).objs[cnt f i]? = some x → H'[fb + j + cnt f i]? = some ⟨gAt H (fb + j + cnt f i), x⟩ := fun i x h => e3 _ x h
  have o0 : ∀ L, f.regs = some L → (y1m f).objs[cnt f 0]? = some (.arr false false 1 (L.map enc)) := fun L h => by
    simp only [y1m, cnt, h, exOs]; rfl
  have o1 : ∀ L, f.params = some L → (y1m f).objs[cnt f 1]? = some (.arr false false 1 (L.map enc)) := fun L h => by
    simp only [y1m, cnt]
    rw [List.append_assoc, List.append_assoc, ← List.append_assoc]
    exact yok _ _ _ _ (by rw [h]; rfl)
  have o2 : ∀ L, f.code = some L → (y1m f).objs[cnt f 2]? = some (.arr false false 9 (L.map enc)) := fun L h => by
    simp only [y1m, cnt]
    exact yok _ _ _ _ (by rw [h]; rfl)
  have o3 : ∀ L, f.rows = some L → (y1m f).objs[cnt f 3]? = some (.arr false false 4 (L.map enc)) := fun L h => by
    simp only [y1m, cnt]
    have := yok (exOs f.regs ++ exOs f.params ++ exOs f.code) (exOs f.rows) [] (.arr false false 4 (L.map enc)) (by rw [h]; rfl)
    rwa [List.append_nil] at this
  have hlt : ∀ i, i < 4 → hasL f i = true → cnt f i < (y1m f).objs.length := by
    intro i hi hh
    have key : ∀ {x : OC}, (y1m f).objs[cnt f i]? = some x → cnt f i < (y1m f).objs.length := fun h => (List.getElem?_eq_some_iff.1 h).1
    match i, hi with
    | 0, _ => obtain ⟨L, h⟩ := Option.isSome_iff_exists.1 hh; exact key (o0 L h)
    | 1, _ => obtain ⟨L, h⟩ := Option.isSome_iff_exists.1 hh; exact key (o1 L h)
    | 2, _ => obtain ⟨L, h⟩ := Option.isSome_iff_exists.1 hh; exact key (o2 L h)
    | 3, _ => obtain ⟨L, h⟩ := Option.isSome_iff_exists.1 hh; exact key (o3 L h)
  have tb : ∀ k, k < (y1m f).objs.length → ([] ++ (List.range (y1m f).objs.length).map fun i => (fb + j + i, gAt H (fb + j + i)))[k]? = some (fb + j + k, gAt H (fb + j + k)) := fun k hk => by simp [hk]
  refine ⟨H', fun i => fb + j + cnt f i, fun i => gAt H (fb + j + cnt f i), ?_, ⟨fun L h => ob 0 _ (o0 L h), fun L h => ob 1 _ (o1 L h), fun L h => ob 2 _ (o2 L h), fun L h => ob 3 _ (o3 L h), ?_⟩, e2, fun i hi hh => ⟨by show fb + j ≤ fb + j + cnt f i; omega, by have := hlt i hi hh; show fb + j + cnt f i < fb + j + 4; omega⟩, fun k hk => e4 k (by omega)⟩
  · simp only [y4, show E.pure 13 = true from rfl, if_true, y23, ha, y1oj f hs, List.isEmpty_nil, Bool.or_true, Bool.false_eq_true, if_false, e1]
    generalize hT : ([] ++ (List.range (y1m f).objs.length).map fun i => (fb + j + i, gAt H (fb + j + i))) = T at *
    have r0 := yav (tab := T) (o := f.regs) (k := cnt f 0) (id := fb + j + cnt f 0) (g := gAt H (fb + j + cnt f 0)) (fun L h => tb _ (hlt 0 (by omega) (by simp [hasL, h])))
    have r1 := yav (tab := T) (o := f.params) (k := cnt f 1) (id := fb + j + cnt f 1) (g := gAt H (fb + j + cnt f 1)) (fun L h => tb _ (hlt 1 (by omega) (by simp [hasL, h])))
    have r2 := yav (tab := T) (o := f.code) (k := cnt f 2) (id := fb + j + cnt f 2) (g := gAt H (fb + j + cnt f 2)) (fun L h => tb _ (hlt 2 (by omega) (by simp [hasL, h])))
    have r3 := yav (tab := T) (o := f.rows) (k := cnt f 3) (id := fb + j + cnt f 3) (g := gAt H (fb + j + cnt f 3)) (fun L h => tb _ (hlt 3 (by omega) (by simp [hasL, h])))
    have ri : y20 T (.int .i64 f.ret) = .int .i64 f.ret := rfl
    have hv : (y1m f).v = .agg [exV (cnt f 0) f.regs, exV (cnt f 1) f.params, .int .i64 f.ret, exV (cnt f 2) f.code, exV (cnt f 3) f.rows] := rfl
    rw [hv]
    simp only [reloc, yac, List.map_cons, List.map_nil, r0, r1, r2, r3, ri]
    rfl
  · have h1 := ydk f.regs
    have h2 := ydk f.params
    have h3 := ydk f.code
    intro i k hi hk hne h4 h5
    have c0 : cnt f 0 = 0 := rfl
    have c1 : cnt f 1 = (exOs f.regs).length := rfl
    have c2 : cnt f 2 = (exOs f.regs).length + (exOs f.params).length := by simp [cnt]
    have c3 : cnt f 3 = (exOs f.regs).length + (exOs f.params).length + (exOs f.code).length := by simp [cnt]; omega
    show fb + j + cnt f i ≠ fb + j + cnt f k
    have a0 : hasL f 0 = true → (exOs f.regs).length = 1 := fun h => h1.trans (if_pos h)
    have a1 : hasL f 1 = true → (exOs f.params).length = 1 := fun h => h2.trans (if_pos h)
    have a2 : hasL f 2 = true → (exOs f.code).length = 1 := fun h => h3.trans (if_pos h)
    match i, k, hi, hk with
    | 0, 0, _, _ => omega
    | 0, 1, _, _ => have := a0 h4; omega
    | 0, 2, _, _ => have := a0 h4; omega
    | 0, 3, _, _ => have := a0 h4; omega
    | 1, 0, _, _ => have := a0 h5; omega
    | 1, 1, _, _ => omega
    | 1, 2, _, _ => have := a1 h4; omega
    | 1, 3, _, _ => have := a1 h4; omega
    | 2, 0, _, _ => have := a0 h5; omega
    | 2, 1, _, _ => have := a1 h5; omega
    | 2, 2, _, _ => omega
    | 2, 3, _, _ => have := a2 h4; omega
    | 3, 0, _, _ => have := a0 h5; omega
    | 3, 1, _, _ => have := a1 h5; omega
    | 3, 2, _, _ => have := a2 h5; omega
    | 3, 3, _, _ => omega
theorem y128 {E : Env} {C : Calls2} {fb f : Nat} {sl : Option Nat} {args : List AV} {h : Heap} {fa : Fz (List AV)} {r : Ex AV} {v : AV} (hE : E.pure f = true) (ha : ye (fz h y1d) args = some fa) (hf : r.fresh = true)
    (hc : C.p f fa.v = some r) (hr : yyv r v) : y4 E C fb sl true f args h = some (v, h) := by
  obtain ⟨q, h1, h2⟩ := hr
  simp [y4, hE, y23, ha, hc, hf, h1, h2]
end Go.Vm
