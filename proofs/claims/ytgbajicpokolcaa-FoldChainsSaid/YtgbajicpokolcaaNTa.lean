/- Facts for reading the machine's functions: combinators at known values; lists of things of one kind as slices. The things that the layers speak of: instructions, rows, functions. What is handed in, as things. Lists that a function builds by appending, at a place of its own. What a callee made, as the caller's own: a list, or nothing. Heaps that grow: what lies where, behind one more object, behind one that is turned. What is told of instructions, in plain words. Clones of lists of numbers. Clones of lists of instructions, of rows. Functions whose lists are not too long. ins.Copy: a function's copy. A function whose lists lie in objects of one's own: how it reads, how it is handed out, how a copy comes to lie so. -/
import Derived.Test.YtgbajicpokolcaaVc
import Derived.Test.YtgbajicpokolcaaNX
set_option linter.unusedSimpArgs false
set_option linter.unusedVariables false
set_option linter.unusedSectionVars false
namespace Go.Vm
section comb
variable {α : Type}
@[simp] theorem y3 (v : AV) (K : AV → Option α) : ob (some v) K = K v := rfl
@[simp] theorem yc (v : AV) (h : Heap) (K : AV → Heap → Option α) : oh (some (v, h)) K = K v h := rfl
@[simp] theorem yd1 {β : Type} (v : β) (K : β → Option α) : ofp (some v) K = K v := rfl
@[simp] theorem yb9 (x : Option AV) (K : AV → Option α) : gb (.bool true) true x K = ob x K := rfl
@[simp] theorem yct (x : Option AV) (K : AV → Option α) : gb (.bool false) false x K = ob x K := rfl
@[simp] theorem ylz (x : Option AV) (K : AV → Option α) : gb (.bool true) false x K = K (.tup []) := rfl
@[simp] theorem ycs (x : Option AV) (K : AV → Option α) : gb (.bool false) true x K = K (.tup []) := rfl
@[simp] theorem yjn (w : Bool) (x : Option AV) (K : AV → Option α) : gb (.tup []) w x K = K (.tup []) := rfl
@[simp] theorem y22b (x : Option (AV × Heap)) (h : Heap) (K : AV → Heap → Option α) : gh (.bool true) true x h K = oh x K := rfl
@[simp] theorem y2bv (x : Option (AV × Heap)) (h : Heap) (K : AV → Heap → Option α) : gh (.bool false) false x h K = oh x K := rfl
@[simp] theorem y2bp (x : Option (AV × Heap)) (h : Heap) (K : AV → Heap → Option α) : gh (.bool true) false x h K = K (.tup []) h := rfl
@[simp] theorem y2bc (x : Option (AV × Heap)) (h : Heap) (K : AV → Heap → Option α) : gh (.bool false) true x h K = K (.tup []) h := rfl
@[simp] theorem y2at (w : Bool) (x : Option (AV × Heap)) (h : Heap) (K : AV → Heap → Option α) : gh (.tup []) w x h K = K (.tup []) h := rfl
@[simp] theorem y2as (x : Option (List Nat × List Nat)) : fgd (.bool true) true x = x := rfl
@[simp] theorem y2az (x : Option (List Nat × List Nat)) : fgd (.bool false) false x = x := rfl
@[simp] theorem y2ao (x : Option (List Nat × List Nat)) : fgd (.bool true) false x = some ([], []) := rfl
@[simp] theorem y2b6 (x : Option (List Nat × List Nat)) : fgd (.bool false) true x = some ([], []) := rfl
@[simp] theorem y285 (w : Bool) (x : Option (List Nat × List Nat)) : fgd (.tup []) w x = some ([], []) := rfl
@[simp] theorem yx (a b : Option α) : cnd (.bool true) a b = a := rfl
@[simp] theorem y15 (a b : Option α) : cnd (.bool false) a b = b := rfl
@[simp] theorem y216 (x : Option α) : okK true x = x := rfl
theorem y1rs {α : Type} {b : Bool} (h : b = true) (x : Option α) : okK b x = x := by rw [h]; rfl
@[simp] theorem y2i (a b : AV) : ye (.bool true) a b = some a := rfl
@[simp] theorem y25 (a b : AV) : ye (.bool false) a b = some b := rfl
@[simp] theorem y49 (b : Bool) : evUn .not (.bool b) = some (.bool (!b)) := rfl
@[simp] theorem y2a0 (neq a b : Bool) : yzc neq (.bool a) (.bool b) = some (.bool (if neq then !(a == b) else a == b)) := rfl
@[simp] theorem y1l (i : Nat) (vs : List AV) : y42 i (.tup vs) = vs[i]? := rfl
@[simp] theorem y4n (k k' : IntKind) (n : Int) : y2d k (.int k' n) = some (.int k (k.wrap n)) := rfl
@[simp] theorem y1ur (cs : List AV) : yd6 (.rp cs) = some (.rp cs) := rfl
@[simp] theorem y1yk (id g i off : Nat) : yd6 (.lp id g i off) = some (.lp id g i off) := rfl
@[congr] theorem y2bd {x x' : Option AV} (h : x = x') (K : AV → Option α) : ob x K = ob x' K := by rw [h]
@[congr] theorem y2bl {x x' : Option (AV × Heap)} (h : x = x') (K : AV → Heap → Option α) : oh x K = oh x' K := by rw [h]
@[congr] theorem y2aq {β : Type} {x x' : Option β} (h : x = x') (K : β → Option α) : ofp x K = ofp x' K := by rw [h]
@[congr] theorem y2ba {g g' : AV} (h : g = g') (w : Bool) (x : Option AV) (K : AV → Option α) : gb g w x K = gb g' w x K := by rw [h]
@[congr] theorem y2bj {g g' : AV} (h : g = g') (w : Bool) (x : Option (AV × Heap)) (hp : Heap) (K : AV → Heap → Option α) : gh g w x hp K = gh g' w x hp K := by rw [h]
@[congr] theorem y2b7 {g g' : AV} (h : g = g') (w : Bool) (x : Option (List Nat × List Nat)) : fgd g w x = fgd g' w x := by rw [h]
@[congr] theorem y2ay {c c' : AV} (h : c = c') (a b : Option α) : cnd c a b = cnd c' a b := by rw [h]
@[congr] theorem y2b5 {c c' : Bool} (h : c = c') (a : Option α) : okK c a = okK c' a := by rw [h]
end comb
section ints
variable (k : IntKind) (a b : Int)
@[simp] theorem yn : y2 .add (.int k a) (.int k b) = some (.int k (k.wrap (a + b))) := by simp [y2, y18, y1z]
@[simp] theorem y37 : y2 .sub (.int k a) (.int k b) = some (.int k (k.wrap (a - b))) := by simp [y2, y18, y1z]
@[simp] theorem ylg : y2 .mul (.int k a) (.int k b) = some (.int k (k.wrap (a * b))) := by simp [y2, y18, y1z]
@[simp] theorem y9 : y2 .eql (.int k a) (.int k b) = some (.bool (decide (a = b))) := by simp [y2, y18, y1z, Bool.beq_eq_decide_eq]
@[simp] theorem yl7 : y2 .neq (.int k a) (.int k b) = some (.bool (decide (a ≠ b))) := by simp [y2, y18, y1z, bne, Bool.beq_eq_decide_eq]
@[simp] theorem yf : y2 .lss (.int k a) (.int k b) = some (.bool (decide (a < b))) := by simp [y2, y18, y1z]
@[simp] theorem ydc : y2 .leq (.int k a) (.int k b) = some (.bool (decide (a ≤ b))) := by simp [y2, y18, y1z]
@[simp] theorem yed : y2 .gtr (.int k a) (.int k b) = some (.bool (decide (b < a))) := by simp [y2, y18, y1z]
@[simp] theorem y3b : y2 .geq (.int k a) (.int k b) = some (.bool (decide (b ≤ a))) := by simp [y2, y18, y1z]
end ints
@[simp] theorem y1zh (a b : List UInt8) : y2 .eql (.str a) (.str b) = some (.bool (decide (a = b))) := by simp [y2, yqq, Bool.beq_eq_decide_eq]
@[simp] theorem y1zb (a b : List UInt8) : y2 .neq (.str a) (.str b) = some (.bool (decide (a ≠ b))) := by simp [y2, yqq, Bool.beq_eq_decide_eq]
theorem y16 {n : Int} (h0 : -9223372036854775808 ≤ n) (h1 : n < 9223372036854775808) : IntKind.wrap .i64 n = n := by
  simp [IntKind.wrap, IntKind.bits, IntKind.signed]; omega
theorem y19t {i n : Nat} (h : i < n) (hn : n ≤ 9223372036854775807) : IntKind.wrap .i64 ((i : Int) + 1) = ((i + 1 : Nat) : Int) := by
  rw [y16] <;> omega
theorem y2b {i n : Nat} (h : i < n) (hn : n ≤ 9223372036854775807) : IntKind.wrap .i64 ((i : Int) + 1) = (i : Int) + 1 := by rw [y19t h hn]; rfl
@[simp] theorem y28m (k : Nat) (cs : List AV) : evFa k (.rp cs) = some (.rp (cs.drop k)) := rfl
@[simp] theorem y14 (k id g i o : Nat) : evFa k (.lp id g i o) = some (.lp id g i (o + k)) := rfl
@[simp] theorem yng (agg : Bool) (n : Nat) (cs : List AV) (h : Heap) : evLd agg n (.rp cs) h = y4m agg n cs := rfl
@[simp] theorem y7m (n : Nat) (cs : List AV) : y4m false n cs = cs.head? := rfl
@[simp] theorem yoi (cs : List AV) : cellsOf (.agg cs) = cs := rfl
@[simp] theorem y1tp (k : IntKind) (n : Int) : cellsOf (.int k n) = [.int k n] := rfl
@[simp] theorem y1r0 (b : Bool) : cellsOf (.bool b) = [.bool b] := rfl
@[simp] theorem y1uq (s : List UInt8) : cellsOf (.str s) = [.str s] := rfl
@[simp] theorem y1rk : cellsOf .nils = [.nils] := rfl
@[simp] theorem y1ze (es : Nat) (rows : List (List AV)) : cellsOf (.rs es rows) = [.rs es rows] := rfl
@[simp] theorem y1z6 (id g es off len : Nat) : cellsOf (.ls id g es off len) = [.ls id g es off len] := rfl
class Cel (α : Type) where
  es : Nat
  enc : α → List AV
  len : ∀ x, (enc x).length = es
  pur : ∀ x, (enc x).all pure1 = true
  leaf : ∀ x, (enc x).all yq = true
open Cel
instance : Cel Int := ⟨1, fun n => [.int .i64 n], fun _ => rfl, fun _ => rfl, fun _ => rfl⟩
instance : Cel Bool := ⟨1, fun b => [.bool b], fun _ => rfl, fun _ => rfl, fun _ => rfl⟩
structure Tx where
  s : List UInt8
  deriving DecidableEq, Inhabited
instance : Cel Tx := ⟨1, fun b => [.str b.s], fun _ => rfl, fun _ => rfl, fun _ => rfl⟩
@[simp] theorem y289 (n : Int) : enc n = [.int .i64 n] := rfl
@[simp] theorem y271 (b : Bool) : enc b = [.bool b] := rfl
@[simp] theorem y2b8 (b : Tx) : enc b = [.str b.s] := rfl
@[simp] theorem y250 : es Int = 1 := rfl
@[simp] theorem y29q : es Bool = 1 := rfl
@[simp] theorem y2bi : es Tx = 1 := rfl
variable {α : Type} [Cel α]
def scal (x : α) : Bool := (enc x).all y1n
@[simp] theorem y26x (n : Int) : scal n = true := rfl
@[simp] theorem y26h (b : Bool) : scal b = true := rfl
@[simp] theorem y28x (b : Tx) : scal b = true := rfl
def lst (o : Option (List α)) : List α := o.getD []
omit [Cel α] in
@[simp] theorem y275 : lst (none : Option (List α)) = [] := rfl
omit [Cel α] in
@[simp] theorem y5s (L : List α) : lst (some L) = L := rfl
def slA : Option (List α) → AV
  | none => .nils
  | some L => .rs (es α) (L.map enc)
instance : Cel (Option (List α)) := ⟨1, fun o => [slA o], fun _ => rfl, fun o => by cases o <;> rfl, fun o => by cases o <;> rfl⟩
@[simp] theorem y2ax (o : Option (List α)) : enc o = [slA o] := rfl
@[simp] theorem y2br : es (Option (List α)) = 1 := rfl
@[simp] theorem y23x (k : IntKind) (n : Int) : pure1 (.int k n) = true := rfl
@[simp] theorem y1zl (b : Bool) : pure1 (.bool b) = true := rfl
@[simp] theorem y24w (b : List UInt8) : pure1 (.str b) = true := rfl
@[simp] theorem y1zn : pure1 .nils = true := rfl
@[simp] theorem y20w (k : IntKind) (n : Int) : yq (.int k n) = true := rfl
@[simp] theorem y1zd (b : Bool) : yq (.bool b) = true := rfl
@[simp] theorem y24s (b : List UInt8) : yq (.str b) = true := rfl
@[simp] theorem y1zi : yq .nils = true := rfl
@[simp] theorem y26o (es : Nat) (r : List (List AV)) : yq (.rs es r) = true := rfl
@[simp] theorem y27o (id g es off len : Nat) : yq (.ls id g es off len) = true := rfl
@[simp] theorem y27g (id g i o : Nat) : yq (.lp id g i o) = true := rfl
@[simp] theorem y1tb (k : IntKind) (n : Int) : y1n (.int k n) = true := rfl
@[simp] theorem y1qt (b : Bool) : y1n (.bool b) = true := rfl
@[simp] theorem y1x5 (b : List UInt8) : y1n (.str b) = true := rfl
@[simp] theorem y1rr : y1n .nils = true := rfl
@[simp] theorem yyp (o : Option (List α)) : cellsOf (slA o) = [slA o] := by cases o <;> rfl
@[simp] theorem y27h (o : Option (List α)) : yq (slA o) = true := by cases o <;> rfl
@[simp] theorem y1op (o : Option (List α)) : pure1 (slA o) = true := by cases o <;> rfl
@[simp] theorem yxk (o : Option (List α)) : y1n (slA o) = (lst o).isEmpty := by
  cases o with
  | none => rfl
  | some L => cases L <;> rfl
@[simp] theorem y2u (o : Option (List α)) (h : Heap) : y13 1 (slA o) h = some (.int .i64 (lst o).length) := by cases o <;> simp [slA, y13]
@[simp] theorem yeb (s : List UInt8) (h : Heap) : y13 0 (.str s) h = some (.int .i64 s.length) := rfl
@[simp] theorem y1hd (id g es off len : Nat) (h : Heap) : y13 1 (.ls id g es off len) h = some (.int .i64 len) := rfl
@[simp] theorem y1zj (h : Heap) : y13 1 .nils h = some (.int .i64 0) := rfl
@[simp] theorem y28r (id g i o : Nat) : ids1 (.lp id g i o) = [id] := rfl
@[simp] theorem y296 (id g es o l : Nat) : ids1 (.ls id g es o l) = [id] := rfl
@[simp] theorem y27y (cs : List AV) : ids1 (.rp cs) = [] := rfl
@[simp] theorem y26r (k : IntKind) (n : Int) : ids1 (.int k n) = [] := rfl
@[simp] theorem y279 (s : List UInt8) : ids1 (.str s) = [] := rfl
@[simp] theorem y293 (o : Option (List α)) : ids1 (slA o) = [] := by cases o <;> rfl
@[simp] theorem y1ic (neq : Bool) (o : Option (List α)) : ygx 1 neq (slA o) .nils = some (.bool (if neq then o.isSome else o.isNone)) := by
  cases o <;> cases neq <;> rfl
theorem yd4 {o : Option (List α)} {x : α} {i : Nat} (hx : (lst o)[i]? = some x) (k : IntKind) : yv (es α) (slA o) (.int k i) = some (.rp (enc x)) := by
  cases o with
  | none => simp at hx
  | some L =>
    simp only [y5s] at hx
    simp [slA, yv, hx]
theorem ylh {o : Option (List α)} {x : α} {n : Int} (h0 : 0 ≤ n) (hx : (lst o)[n.toNat]? = some x) (k : IntKind) : yv (es α) (slA o) (.int k n) = some (.rp (enc x)) := by
  obtain ⟨i, rfl⟩ := Int.eq_ofNat_of_zero_le h0
  exact yd4 (by simpa using hx) k
@[simp] theorem yeo (o : Option (List α)) (h : Heap) : y1p h (es α) (slA o) = some ((lst o).map enc) := by
  cases o <;> simp [slA, y1p]
@[simp] theorem y1ij (o : Option (List α)) (h : Heap) : fz h y1i (slA o) = some ⟨slA o, (lst o).isEmpty, []⟩ := by
  rw [y29m (y1op o), yxk]
@[simp] theorem ygp (x : α) (h : Heap) : fz h y1i (.agg (enc x)) = some ⟨.agg (enc x), scal x, []⟩ := y268 h (pur x)
theorem ye6 (L : List α) : (L.map enc).all (·.all pure1) = true := by simp only [List.all_map, List.all_eq_true]; exact fun x _ => pur x
theorem yfk (L : List α) : (L.map enc).all (·.all y1n) = L.all scal := by simp only [List.all_map]; rfl
@[simp] theorem y15l (L : List α) (h : Heap) : yj (yj (fz h y1i)) (L.map enc) = some ⟨L.map enc, L.all scal, []⟩ := by rw [y1gb h (ye6 L), yfk]
@[simp] theorem y0b (L : List α) (h : Heap) : yj (yj (fz h 11)) (L.map enc) = some ⟨L.map enc, L.all scal, []⟩ := by rw [y18g h (ye6 L), yfk]
@[simp] theorem y2ah (o : Option (List α)) : scal o = (lst o).isEmpty := by simp [scal]
@[simp] theorem y5i (L : List α) : (L.map (enc (α := α))).take L.length = L.map enc := by
  rw [List.take_of_length_le (by simp)]
@[simp] theorem ydu (x : α) : y4m true (es α) (enc x) = some (.agg (enc x)) := by
  simp only [y4m, if_true, len x, Nat.le_refl, if_pos]
  rw [List.take_of_length_le (by rw [len x]; exact Nat.le_refl _)]
@[simp] theorem y26k (x : α) : (∀ v, v ∈ enc x → yq v = true) ↔ True := by
  have := leaf x
  rw [List.all_eq_true] at this
  exact ⟨fun _ => trivial, fun _ => this⟩
theorem yj9 (x : α) : (enc x).all yq = true := leaf x
@[simp] theorem y295 (h : Heap) (k : IntKind) (n : Int) : fz h y1i (.int k n) = some ⟨.int k n, true, []⟩ := rfl
@[simp] theorem yip (h : Heap) (b : Bool) : fz h y1i (.bool b) = some ⟨.bool b, true, []⟩ := rfl
@[simp] theorem y29z (h : Heap) (b : List UInt8) : fz h y1i (.str b) = some ⟨.str b, true, []⟩ := rfl
@[simp] theorem y26m (h : Heap) : fz h y1i .nils = some ⟨.nils, true, []⟩ := rfl
@[simp] theorem ygs (h : Heap) (k : IntKind) (n : Int) : y7 h (.int k n) = some ⟨.int k n, [], true, [], []⟩ := rfl
@[simp] theorem y4p (h : Heap) (b : Bool) : y7 h (.bool b) = some ⟨.bool b, [], true, [], []⟩ := rfl
@[simp] theorem y1zc (h : Heap) (s : List UInt8) : y7 h (.str s) = some ⟨.str s, [], true, [], []⟩ := rfl
@[simp] theorem y1ye (h : Heap) : y7 h .nils = some ⟨.nils, [], true, [], []⟩ := rfl
@[simp] theorem y27i (h : Heap) (o : Option (List α)) : y7 h (slA o) = some ⟨slA o, [], (lst o).isEmpty, [], []⟩ := by
  cases o with
  | none => rfl
  | some L => simp [slA, y1o7]
theorem y0v {v : AV} (hp : pure1 v = true) (h : Heap) (k : Nat) (os : List OC) : expo h (k + 1) v os = some ⟨v, os, y1n v, [], []⟩ := by
  cases v <;> simp_all [expo, pure1]
theorem y1i8 {cs : List AV} (h : Heap) (k : Nat) (os : List OC) (hp : cs.all pure1 = true) : y3u (expo h (k + 1)) cs os = some ⟨cs, os, cs.all y1n, [], []⟩ := by
  induction cs with
  | nil => rfl
  | cons c cs ih =>
    simp only [List.all_cons, Bool.and_eq_true] at hp
    rw [y3u, y0v hp.1]
    simp only [ih hp.2]
    rfl
theorem yfe (h : Heap) (cs : List AV) : y7 h (.agg cs) = match y3u (expo h 11) cs [] with
    | some r => if y34 r.xs r.fs then some ⟨.agg r.v, r.objs, r.fresh, [], []⟩ else none
    | none => none := by
  show (match (match y3u (expo h 11) cs [] with
    | some r => some (⟨.agg r.v, r.objs, r.fresh, r.xs, r.fs⟩ : Ex AV)
    | none => none) with
    | some r => if y34 r.xs r.fs then some (⟨r.v, r.objs, r.fresh, [], []⟩ : Ex AV) else none
    | none => none) = _
  cases y3u (expo h 11) cs [] <;> rfl
@[simp] theorem y240 (h : Heap) (x : α) : y7 h (.agg (enc x)) = some ⟨.agg (enc x), [], scal x, [], []⟩ := by
  rw [yfe, y1i8 h 10 [] (pur x)]
  rfl
theorem y1vo (h : Heap) (k id g es1 off len : Nat) (os : List OC) : expo h (k + 1) (.ls id g es1 off len) os = match yk h id g with
    | some (true, _, _) => exFz h (.ls id g es1 off len) os
    | some (false, es, rows) => if es1 = es ∧ off + len ≤ rows.length then
        match yj (yj (fz h y1i)) ((rows.drop off).take len) with
        | some r => some ⟨.ls os.length 0 es 0 len, os ++ [.arr false false es r.v], r.fresh, [id], r.ids⟩
        | none => none
      else none
    | none => none := by
  rw [expo]
  rfl
theorem y25e (h : Heap) (k id g es1 off len : Nat) : fz h (k + 1) (.ls id g es1 off len) = match yk h id g with
    | some (_, es, rows) => if es1 = es ∧ off + len ≤ rows.length then (match yj (yj (fz h k)) ((rows.drop off).take len) with
      | some r => some ⟨.rs es r.v, r.fresh, id :: r.ids⟩
      | none => none) else none
    | none => none := by
  rw [fz]
  rfl
theorem y1j1 (L : List α) (h : Heap) (k : Nat) : yj (yj (fz h (k + 1))) (L.map enc) = some ⟨L.map enc, L.all scal, []⟩ := by rw [y63 h k (ye6 L), yfk]
@[simp] theorem y1c {β γ : Type} (f : β → Option (Fz γ)) : yj f [] = some ⟨[], true, []⟩ := rfl
@[simp] theorem y10 {β γ : Type} (f : β → Option (Fz γ)) (x : β) (xs : List β) : yj f (x :: xs) = match f x, yj f xs with
    | some a, some b => some ⟨a.v :: b.v, a.fresh && b.fresh, a.ids ++ b.ids⟩
    | _, _ => none := rfl
end Go.Vm
namespace Go.Vm
open Cel
structure Ins where
  op : Int
  d : Int
  a : Int
  b : Int
  c : Int
  n : Int
  t : Int
  s : List UInt8
  args : Option (List Int)
  deriving DecidableEq, Inhabited
structure Row where
  f : Int
  t : Int
  at_ : Int
  c : List UInt8
  deriving DecidableEq, Inhabited
structure Fn where
  regs : Option (List Int)
  params : Option (List Int)
  ret : Int
  code : Option (List Ins)
  rows : Option (List Row)
  deriving DecidableEq, Inhabited
instance : Cel Ins := ⟨9, fun x => [.int .i64 x.op, .int .i64 x.d, .int .i64 x.a, .int .i64 x.b, .int .i64 x.c, .int .i64 x.n, .int .i64 x.t, .str x.s, slA x.args], fun _ => rfl,
  fun x => by simp, fun x => by simp⟩
instance : Cel Row := ⟨4, fun x => [.int .i64 x.f, .int .i64 x.t, .int .i64 x.at_, .str x.c], fun _ => rfl, fun x => rfl, fun x => rfl⟩
instance : Cel Fn := ⟨5, fun x => [slA x.regs, slA x.params, .int .i64 x.ret, slA x.code, slA x.rows], fun _ => rfl, fun x => by simp, fun x => by simp⟩
@[simp] theorem y2av : es Ins = 9 := rfl
@[simp] theorem y2aw : es Row = 4 := rfl
@[simp] theorem y2bg : es Fn = 5 := rfl
section
variable (x : Ins) (r : Row) (f : Fn)
@[simp high] theorem ins0 : (enc x).head? = some (.int .i64 x.op) := rfl
@[simp high] theorem y2bs : (enc x)[0]? = some (.int .i64 x.op) := rfl
@[simp high] theorem ins1 : ((enc x).drop 1).head? = some (.int .i64 x.d) := rfl
@[simp high] theorem y2bm : (enc x)[1]? = some (.int .i64 x.d) := rfl
@[simp high] theorem ins2 : ((enc x).drop 2).head? = some (.int .i64 x.a) := rfl
@[simp high] theorem y2bb : (enc x)[2]? = some (.int .i64 x.a) := rfl
@[simp high] theorem ins3 : ((enc x).drop 3).head? = some (.int .i64 x.b) := rfl
@[simp high] theorem y2b9 : (enc x)[3]? = some (.int .i64 x.b) := rfl
@[simp high] theorem ins4 : ((enc x).drop 4).head? = some (.int .i64 x.c) := rfl
@[simp high] theorem y2bq : (enc x)[4]? = some (.int .i64 x.c) := rfl
@[simp high] theorem ins5 : ((enc x).drop 5).head? = some (.int .i64 x.n) := rfl
@[simp high] theorem y2bh : (enc x)[5]? = some (.int .i64 x.n) := rfl
@[simp high] theorem ins6 : ((enc x).drop 6).head? = some (.int .i64 x.t) := rfl
@[simp high] theorem y2bk : (enc x)[6]? = some (.int .i64 x.t) := rfl
@[simp high] theorem ins7 : ((enc x).drop 7).head? = some (.str x.s) := rfl
@[simp high] theorem y2bf : (enc x)[7]? = some (.str x.s) := rfl
@[simp high] theorem ins8 : ((enc x).drop 8).head? = some (slA x.args) := rfl
@[simp high] theorem y2be : (enc x)[8]? = some (slA x.args) := rfl
@[simp high] theorem row0 : (enc r).head? = some (.int .i64 r.f) := rfl
@[simp high] theorem y2bt : (enc r)[0]? = some (.int .i64 r.f) := rfl
@[simp high] theorem row1 : ((enc r).drop 1).head? = some (.int .i64 r.t) := rfl
@[simp high] theorem y2bo : (enc r)[1]? = some (.int .i64 r.t) := rfl
@[simp high] theorem row2 : ((enc r).drop 2).head? = some (.int .i64 r.at_) := rfl
@[simp high] theorem y2bu : (enc r)[2]? = some (.int .i64 r.at_) := rfl
@[simp high] theorem row3 : ((enc r).drop 3).head? = some (.str r.c) := rfl
@[simp high] theorem y2bn : (enc r)[3]? = some (.str r.c) := rfl
@[simp high] theorem fn0 : (enc f).head? = some (slA f.regs) := rfl
@[simp high] theorem fn0q : (enc f)[0]? = some (slA f.regs) := rfl
@[simp high] theorem fn1 : ((enc f).drop 1).head? = some (slA f.params) := rfl
@[simp high] theorem fn1q : (enc f)[1]? = some (slA f.params) := rfl
@[simp high] theorem fn2 : ((enc f).drop 2).head? = some (.int .i64 f.ret) := rfl
@[simp high] theorem fn2q : (enc f)[2]? = some (.int .i64 f.ret) := rfl
@[simp high] theorem fn3 : ((enc f).drop 3).head? = some (slA f.code) := rfl
@[simp high] theorem fn3q : (enc f)[3]? = some (slA f.code) := rfl
@[simp high] theorem fn4 : ((enc f).drop 4).head? = some (slA f.rows) := rfl
@[simp high] theorem fn4q : (enc f)[4]? = some (slA f.rows) := rfl
@[simp] theorem yj6 : y4m true 9 (enc x) = some (.agg (enc x)) := ydu x
@[simp] theorem y29w : y4m true 4 (enc r) = some (.agg (enc r)) := ydu r
@[simp] theorem y2ar : y4m true 5 (enc f) = some (.agg (enc f)) := ydu f
@[simp] theorem ynu : (enc x).length = 9 := rfl
@[simp] theorem y283 : (enc r).length = 4 := rfl
@[simp] theorem y2b3 : (enc f).length = 5 := rfl
@[simp] theorem yso : (enc x).all yq = true := yj9 x
@[simp] theorem y27c : (enc r).all yq = true := yj9 r
@[simp] theorem y2ab : (enc f).all yq = true := yj9 f
end
theorem ybn {o : Option (List Ins)} {x : Ins} {i : Nat} (hx : (lst o)[i]? = some x) (k : IntKind) : yv 9 (slA o) (.int k i) = some (.rp (enc x)) := yd4 hx k
theorem y16u {o : Option (List Row)} {x : Row} {i : Nat} (hx : (lst o)[i]? = some x) (k : IntKind) : yv 4 (slA o) (.int k i) = some (.rp (enc x)) := yd4 hx k
theorem y59 {o : Option (List Int)} {x : Int} {i : Nat} (hx : (lst o)[i]? = some x) (k : IntKind) : yv 1 (slA o) (.int k i) = some (.rp [.int .i64 x]) := yd4 hx k
theorem ypa {o : Option (List Ins)} {x : Ins} {n : Int} (h0 : 0 ≤ n) (hx : (lst o)[n.toNat]? = some x) (k : IntKind) : yv 9 (slA o) (.int k n) = some (.rp (enc x)) := ylh h0 hx k
theorem y1jk {o : Option (List Int)} {x : Int} {n : Int} (h0 : 0 ≤ n) (hx : (lst o)[n.toNat]? = some x) (k : IntKind) : yv 1 (slA o) (.int k n) = some (.rp [.int .i64 x]) := ylh h0 hx k
@[simp] theorem y1za (o : Option (List Int)) (h : Heap) : y1p h 1 (slA o) = some ((lst o).map enc) := yeo o h
@[simp] theorem y1zm (o : Option (List Ins)) (h : Heap) : y1p h 9 (slA o) = some ((lst o).map enc) := yeo o h
@[simp] theorem y1zg (o : Option (List Row)) (h : Heap) : y1p h 4 (slA o) = some ((lst o).map enc) := yeo o h
def exO {α : Type} [Cel α] : Option (List α) → Ex AV
  | none => ⟨.nils, [], true, [], []⟩
  | some L => ⟨.ls 0 0 (es α) 0 L.length, [.arr false false (es α) (L.map enc)], L.all scal, [], []⟩
@[simp] theorem y1q3 {α : Type} [Cel α] (o : Option (List α)) : fz (y1u (exO o).objs) y1i (exO o).v = some ⟨slA o, (lst o).all scal, match o with | none => [] | some _ => [0]⟩ := by
  cases o with
  | none => rfl
  | some L =>
    show fz [⟨0, .arr false false (es α) (L.map enc)⟩] y1i (.ls 0 0 (es α) 0 L.length) = _
    rw [y22e]
    simp [yk, y2x, slA]
@[simp] theorem y1k6 {α : Type} [Cel α] (fb j : Nat) (L : List α) (h : Heap) : y1t fb (some j) (exO (some L)).objs [] h = match h[fb + j]? with
    | some o => some ([(fb + j, o.gen + 1)], h.set (fb + j) ⟨o.gen + 1, .arr false false (es α) (L.map enc)⟩)
    | none => none := by
  simp only [exO, y1t, y4i, okOC, if_true, place, List.nil_append]
  cases h[fb + j]? <;> rfl
@[simp] theorem y21w {α : Type} [Cel α] (fb : Nat) (j : Option Nat) (h : Heap) : y1t fb j (exO (none : Option (List α))).objs [] h = some ([], h) := rfl
@[simp] theorem y1nj {α : Type} [Cel α] (id g : Nat) (L : List α) : reloc [(id, g)] (exO (some L)).v = .ls id g (es α) 0 L.length := rfl
@[simp] theorem y25r {α : Type} [Cel α] (tab : List (Nat × Nat)) : reloc tab (exO (none : Option (List α))).v = .nils := rfl
theorem y1e1 {α : Type} [Cel α] (o : Option (List α)) : (exO o).fresh = (lst o).all scal := by cases o <;> rfl
theorem yey {α : Type} [Cel α] {h : Heap} {id g : Nat} {L : List α} (hr : yk h id g = some (false, es α, L.map enc)) : y7 h (.ls id g (es α) 0 L.length) = some (exO (some L)) := by
  rw [yfg, hr]
  simp [exO]
attribute [simp] newC y6i y3n place
@[simp] theorem ycz (g : Nat) (b f : Bool) (e : Nat) (r : List (List AV)) (t : Heap) : yk (⟨g, .arr b f e r⟩ :: t) 0 g = some (f, e, r) := by simp [yk, y2x]
@[simp] theorem yin (o : AO) (t : Heap) (i g : Nat) : yk (o :: t) (i + 1) g = yk t i g := rfl
@[simp] theorem y21g (g : Nat) (b f : Bool) (e : Nat) (r r' : List (List AV)) (t : Heap) : y1g (⟨g, .arr b f e r⟩ :: t) 0 r' = ⟨g, .arr b f e r'⟩ :: t := rfl
@[simp] theorem y20y (o : AO) (t : Heap) (i : Nat) (r : List (List AV)) : y1g (o :: t) (i + 1) r = o :: y1g t i r := by
  simp only [y1g, List.getElem?_cons_succ]
  split <;> simp_all
@[simp] theorem y40 (n id g i off : Nat) (v : AV) (h : Heap) : evSt n (.lp id g i off) v h = match yk h id g with
    | some (false, _, rows) => match rows[i]? with
      | some row => if (cellsOf v).length = n ∧ off + n ≤ row.length ∧ (cellsOf v).all yq = true then some (.tup [], y1g h id (rows.set i (ym off (cellsOf v) row))) else none
      | none => none
    | _ => none := rfl
@[simp] theorem ybm {vs row : List AV} (h : row.length = vs.length) : ym 0 vs row = vs := by
  simp [ym, ← h]
section
variable (x : Ins) (n : Int) (s : List UInt8) (o : Option (List Int))
@[simp] theorem y291 : ym 0 [.int .i64 n] (enc x) = enc { x with op := n } := rfl
@[simp] theorem y29i : ym 1 [.int .i64 n] (enc x) = enc { x with d := n } := rfl
@[simp] theorem y27q : ym 2 [.int .i64 n] (enc x) = enc { x with a := n } := rfl
@[simp] theorem y28o : ym 3 [.int .i64 n] (enc x) = enc { x with b := n } := rfl
@[simp] theorem y27z : ym 4 [.int .i64 n] (enc x) = enc { x with c := n } := rfl
@[simp] theorem y281 : ym 5 [.int .i64 n] (enc x) = enc { x with n := n } := rfl
@[simp] theorem y28l : ym 6 [.int .i64 n] (enc x) = enc { x with t := n } := rfl
@[simp] theorem y292 : ym 7 [.str s] (enc x) = enc { x with s := s } := rfl
@[simp] theorem y2an : ym 8 [slA o] (enc x) = enc { x with args := o } := rfl
end
def yga (x : Ins) (v : AV) : List AV := [.int .i64 x.op, .int .i64 x.d, .int .i64 x.a, .int .i64 x.b, .int .i64 x.c, .int .i64 x.n, .int .i64 x.t, .str x.s, v]
@[simp] theorem y26z (x : Ins) (id g es off len : Nat) : ym 8 [.ls id g es off len] (enc x) = yga x (.ls id g es off len) := rfl
@[simp] theorem y27f (x : Ins) : ym 8 [.nils] (enc x) = enc { x with args := none } := rfl
@[simp] theorem y1z9 (x : Ins) (v : AV) : (yga x v).length = 9 := rfl
@[simp] theorem y1z8 (x : Ins) (v : AV) : y4m true 9 (yga x v) = some (.agg (yga x v)) := rfl
@[simp] theorem y1z7 (x : Ins) (w : AV) : (∀ v, v ∈ yga x w → yq v = true) ↔ yq w = true := by simp [yga]
def y1ji (r : Ex AV) (v : AV) : Prop := ∃ q, fz (y1u r.objs) y1i r.v = some q ∧ q.v = v
@[simp] theorem y2l (agg : Bool) (n id g i off : Nat) (h : Heap) : evLd agg n (.lp id g i off) h = match yk h id g with
    | some (_, _, rows) => match rows[i]? with
      | some row => y4m agg n (row.drop off)
      | none => none
    | none => none := rfl
end Go.Vm
namespace Go.Vm
open Cel
def inI (n : Int) : Prop := -9223372036854775808 ≤ n ∧ n ≤ 9223372036854775807
abbrev tyI : Ty := .int .i64
theorem y28b {cs : List AV} (h : tyI.has cs) : ∃ n : Int, cs = [.int .i64 n] ∧ inI n := by
  obtain ⟨n, rfl, h1, h2⟩ := h
  exact ⟨n, rfl, by simpa [IntKind.min, IntKind.max, IntKind.signed, IntKind.bits] using h1, by simpa [IntKind.min, IntKind.max, IntKind.signed, IntKind.bits] using h2⟩
theorem yp0 {α : Type} [Cel α] {T : Ty} {Q : α → Prop} (hT : ∀ row, T.has row → ∃ x : α, row = enc x ∧ Q x) : ∀ (rows : List (List AV)), (∀ row, row ∈ rows → T.has row) → ∃ L : List α, rows = L.map enc ∧ ∀ x ∈ L, Q x
  | [], _ => ⟨[], rfl, fun x h => by cases h⟩
  | r :: rows, h => by
    obtain ⟨L, rfl, hL⟩ := yp0 hT rows (fun row hr => h row (by simp [hr]))
    obtain ⟨x, rfl, hx⟩ := hT r (h r (by simp))
    refine ⟨x :: L, rfl, fun y hy => ?_⟩
    rcases List.mem_cons.1 hy with rfl | hy
    · exact hx
    · exact hL y hy
theorem y25w {α : Type} [Cel α] {T : Ty} {Q : α → Prop} (hT : ∀ row, T.has row → ∃ x : α, row = enc x ∧ Q x) {cs : List AV} (h : (Ty.slice (es α) T).has cs) : ∃ o : Option (List α), cs = [slA o] ∧ (lst o).length ≤ maxLen ∧ (lst o).length * T.bytes ≤ reachBytes ∧ ∀ x ∈ lst o, Q x := by
  rcases h with rfl | ⟨rows, rfl, hl, hz, hr⟩
  · exact ⟨none, rfl, Nat.zero_le _, by simp, fun x h => by cases h⟩
  · obtain ⟨L, rfl, hL⟩ := yp0 hT rows hr
    exact ⟨some L, rfl, by simpa using hl, by simpa using hz, hL⟩
abbrev yll : Ty := .slice 1 tyI
theorem yte {cs : List AV} (h : yll.has cs) : ∃ o : Option (List Int), cs = [slA o] ∧ (lst o).length * 8 ≤ reachBytes ∧ ∀ x ∈ lst o, inI x := by
  obtain ⟨o, h1, _, h2, h3⟩ := y25w (α := Int) (T := tyI) (fun _ h => y28b h) h
  exact ⟨o, h1, h2, h3⟩
structure InsOk (x : Ins) : Prop where
  op : inI x.op
  d : inI x.d
  a : inI x.a
  b : inI x.b
  c : inI x.c
  n : inI x.n
  t : inI x.t
  s : x.s.length ≤ reachBytes
  len : (lst x.args).length * 8 ≤ reachBytes
  args : ∀ r ∈ lst x.args, inI r
structure RowOk (r : Row) : Prop where
  f : inI r.f
  t : inI r.t
  a : inI r.at_
  c : r.c.length ≤ reachBytes
structure FnIn (f : Fn) : Prop where
  regs : (lst f.regs).length * 8 ≤ reachBytes
  regI : ∀ x ∈ lst f.regs, inI x
  params : (lst f.params).length * 8 ≤ reachBytes
  parI : ∀ x ∈ lst f.params, inI x
  ret : inI f.ret
  code : (lst f.code).length * 96 ≤ reachBytes
  insI : ∀ x ∈ lst f.code, InsOk x
  rows : (lst f.rows).length * 40 ≤ reachBytes
  rowI : ∀ x ∈ lst f.rows, RowOk x
end Go.Vm
namespace Go.Vm
open Cel
def nz {α : Type} : List α → Option (List α)
  | [] => none
  | x :: L => some (x :: L)
@[simp] theorem y1gz {α : Type} (L : List α) : lst (nz L) = L := by cases L <;> rfl
section
variable {α : Type} [Cel α]
def y1o (α : Type) [Cel α] (j g : Nat) : List α → AV
  | [] => .nils
  | _ :: L => .ls j g (es α) 0 (L.length + 1)
def y3v (g : Nat) (o : AO) : List α → AO
  | [] => o
  | x :: L => ⟨g, .arr false false (es α) ((x :: L).map enc)⟩
@[simp] theorem y19s (j g : Nat) : y1o α j g [] = .nils := rfl
@[simp] theorem y13z (g : Nat) (o : AO) : y3v g o ([] : List α) = o := rfl
@[simp] theorem y1zk (j g : Nat) (L : List α) (H : Heap) : y13 1 (y1o α j g L) H = some (.int .i64 L.length) := by
  cases L <;> simp [y1o, y13]
@[simp] theorem y1r2 (j g : Nat) (L : List α) : cellsOf (y1o α j g L) = [y1o α j g L] := by cases L <;> rfl
@[simp] theorem y1zf (j g : Nat) (L : List α) : yq (y1o α j g L) = true := by cases L <;> rfl
theorem yjt {H : Heap} {j g : Nat} {o : AO} {x : α} {L : List α} (h : H[j]? = some (y3v g o (x :: L))) : yk H j g = some (false, es α, (x :: L).map enc) := by
  simp [yk, y2x, h, y3v]
theorem y1wg {H : Heap} {j g : Nat} {o : AO} {L : List α} (h : H[j]? = some (y3v g o L)) : fz H y1i (y1o α j g L) = some ⟨slA (nz L), L.all scal, ids1 (y1o α j g L)⟩ := by
  cases L with
  | nil => rfl
  | cons x L =>
    rw [y1o, y22e, yjt h]
    simp only [List.drop_zero, Nat.zero_add, List.length_map, List.length_cons, Nat.le_refl, and_self, if_true]
    rw [show ((x :: L).map (enc (α := α))).take (L.length + 1) = (x :: L).map enc from y5i (x :: L), y0b]
    simp [slA, nz, ids1]
theorem yy5 {H : Heap} {j g : Nat} {o : AO} {L : List α} (h : H[j]? = some (y3v g o L)) : y7 H (y1o α j g L) = some ⟨match L with | [] => .nils | _ :: _ => .ls 0 0 (es α) 0 L.length, match L with | [] => [] | _ :: _ => [.arr false false (es α) (L.map enc)], L.all scal, [], []⟩ := by
  cases L with
  | nil => rfl
  | cons x L =>
    rw [y1o, yfg, yjt h]
    simp only [List.drop_zero, Nat.zero_add, List.length_map, List.length_cons, Nat.le_refl, and_self, if_true]
    rw [show ((x :: L).map (enc (α := α))).take (L.length + 1) = (x :: L).map enc from y5i (x :: L), y15l]
    simp
theorem yoa {H : Heap} {j g : Nat} {o : AO} {L : List α} (h : H[j]? = some (y3v g o L)) : y7 H (y1o α j g L) = some (exO (nz L)) := by
  rw [yy5 h]
  cases L <;> rfl
theorem y1mu {H : Heap} {fb j g b : Nat} {o : AO} {y : AV} {L M : List α} (hy : y1p H (es α) y = some (M.map enc)) (h : H[fb + j]? = some (y3v g o L)) (hs : (2 * (L.length + M.length) + 512) * b ≤ 2 ^ 48) :
    ∃ g', y2k fb (some j) (es α) b (y1o α (fb + j) g L) y H = some (y1o α (fb + j) g' (L ++ M), H.set (fb + j) (y3v g' o (L ++ M))) := by
  unfold y2k
  rw [hy]
  have hlt : fb + j < H.length := (List.getElem?_eq_some_iff.1 h).1
  cases L with
  | nil =>
    cases M with
    | nil =>
      refine ⟨g, ?_⟩
      simp only [y1o, List.map_nil, List.isEmpty_nil, if_true, List.append_nil, y3v]
      rw [y3v] at h
      rw [show H.set (fb + j) o = H from by
        refine List.ext_getElem? fun i => ?_
        rw [List.getElem?_set]
        split
        · rename_i e; subst e; simp [h]
        · rfl]
    | cons y M =>
      refine ⟨o.gen + 1, ?_⟩
      rw [y3v] at h
      have hm : (M.length + 1) * b ≤ 281474976710656 := Nat.le_trans (Nat.mul_le_mul_right b (by simp only [List.length_nil, List.length_cons]; omega)) hs
      simp [y1o, hm, y3n, place, h, y3v]
  | cons x L =>
    refine ⟨g + 1, ?_⟩
    have h' : H[fb + j]? = some ⟨g, .arr false false (es α) ((x :: L).map enc)⟩ := h
    simp only [y1o, h']
    rw [if_pos (by simp; simpa using hs)]
    simp only [List.drop_zero]
    rw [show ((x :: L).map (enc (α := α))).take (L.length + 1) = (x :: L).map enc from y5i (x :: L)]
    simp [y1o, y3v, Nat.add_right_comm]
end
@[simp] theorem y24t (h : Heap) (es id g es1 off len : Nat) : y1p h es (.ls id g es1 off len) = match yk h id g with
    | some (_, es', rows) => if es1 = es ∧ es' = es ∧ off + len ≤ rows.length then some ((rows.drop off).take len) else none
    | none => none := rfl
theorem y1li {H : Heap} {j g : Nat} {o : AO} {L : List Int} (h : H[j]? = some (y3v g o L)) : fz H y1i (y1o Int j g L) = some ⟨slA (nz L), true, ids1 (y1o Int j g L)⟩ := by
  rw [y1wg h]
  simp
theorem yb5 {H : Heap} {fb j g : Nat} {o : AO} {y : AV} {L : List Int} {n : Int} (hy : y1p H 1 y = some [[.int .i64 n]]) (h : H[fb + j]? = some (y3v g o L)) (hs : L.length ≤ 17000000000000) :
    ∃ g', y2k fb (some j) 1 8 (y1o Int (fb + j) g L) y H = some (y1o Int (fb + j) g' (L ++ [n]), H.set (fb + j) (y3v g' o (L ++ [n]))) := by
  refine y1mu (α := Int) (M := [n]) hy h ?_
  have : (2 * (L.length + [n].length) + 512) * 8 ≤ (2 * (17000000000000 + 1) + 512) * 8 := Nat.mul_le_mul_right 8 (by simp only [List.length_singleton]; omega)
  exact Nat.le_trans this (by decide)
@[simp] theorem y2b1 {α : Type} [Cel α] (x : α) (L : List α) : exO (nz (x :: L)) = ⟨.ls 0 0 (es α) 0 (L.length + 1), [.arr false false (es α) ((x :: L).map enc)], (x :: L).all scal, [], []⟩ := rfl
abbrev D0 : AO := ⟨0, .dead⟩
section
variable {α : Type} [Cel α]
theorem y1sm {H : Heap} {fb id g b : Nat} {sl : Option Nat} {y : AV} {L M T : List α} (hy : y1p H (es α) y = some (M.map enc)) (h : H[id]? = some ⟨g, .arr false false (es α) ((L ++ T).map enc)⟩) (hs : (2 * (L.length + M.length) + 512) * b ≤ 2 ^ 48) :
    y2k fb sl (es α) b (.ls id g (es α) 0 L.length) y H = some (.ls id (g + 1) (es α) 0 (L ++ M).length, H.set id ⟨g + 1, .arr false false (es α) ((L ++ M).map enc)⟩) := by
  unfold y2k
  rw [hy]
  simp only [h]
  rw [if_pos (by simp; simpa using hs)]
  simp only [List.drop_zero, List.map_append, List.length_append]
  rw [List.take_append_of_le_length (by simp), y5i, List.length_map]
end
@[simp] theorem y29f {α : Type} [Cel α] : exO (nz ([] : List α)) = ⟨.nils, [], true, [], []⟩ := rfl
theorem y19q {α : Type} [Cel α] {H : Heap} {id g i : Nat} {L : List α} {v : AV} {y : α} (h : H[id]? = some ⟨g, .arr false false (es α) (L.map enc)⟩) (hi : i < L.length) (hv : cellsOf v = enc y) :
    evSt (es α) (.lp id g i 0) v H = some (.tup [], H.set id ⟨g, .arr false false (es α) ((L.set i y).map enc)⟩) := by
  have hr : yk H id g = some (false, es α, L.map enc) := by simp [yk, y2x, h]
  have hg : (L.map (enc (α := α)))[i]? = some (enc L[i]) := by simp [hi]
  rw [y40, hr]
  simp only [hg, hv]
  rw [if_pos ⟨len y, by rw [len]; omega, leaf y⟩]
  rw [ybm (by rw [len, len]), y1g, h]
  simp only
  rw [List.map_set]
abbrev AB (f : Fn) : AO := ⟨1, .arr true false 5 [enc f]⟩
abbrev AI (g : Nat) (L : List Int) : AO := ⟨g, .arr false false 1 (L.map enc)⟩
abbrev AX (g : Nat) (x : Ins) : AO := ⟨g, .arr true false 9 [enc x]⟩
end Go.Vm
namespace Go.Vm
open Cel
section
variable {α : Type} [Cel α]
def ownV (j g : Nat) : Option (List α) → AV
  | none => .nils
  | some L => .ls j g (es α) 0 L.length
def ownO (g : Nat) (d : AO) : Option (List α) → AO
  | none => d
  | some L => ⟨g, .arr false false (es α) (L.map enc)⟩
def exV (k : Nat) : Option (List α) → AV
  | none => .nils
  | some L => .ls k 0 (es α) 0 L.length
def exOs : Option (List α) → List OC
  | none => []
  | some L => [.arr false false (es α) (L.map enc)]
def ownI (j : Nat) : Option (List α) → List Nat
  | none => []
  | some _ => [j]
@[simp] theorem y1xw (j g : Nat) (o : Option (List α)) : cellsOf (ownV j g o) = [ownV j g o] := by cases o <;> rfl
@[simp] theorem y23t (j g : Nat) (o : Option (List α)) : yq (ownV j g o) = true := by cases o <;> rfl
@[simp] theorem y24e (j g : Nat) (o : Option (List α)) : known (ownV j g o) = true := by cases o <;> rfl
@[simp] theorem y1dg (j g : Nat) (o : Option (List α)) (H : Heap) : y13 1 (ownV j g o) H = some (.int .i64 (lst o).length) := by cases o <;> rfl
theorem yrw {H : Heap} {i : Nat} {o : AO} (h : H[i]? = some o) : H.set i o = H := by
  refine List.ext_getElem? fun k => ?_
  rw [List.getElem?_set]
  split
  · rename_i e; subst e
    rw [if_pos (List.getElem?_eq_some_iff.1 h).1, h]
  · rfl
theorem yd7 {E : Env} {C : Calls2} {fb j f : Nat} {args : List AV} {H : Heap} {fa : Fz (List AV)} {N : Option (List α)} {o : AO} (hE : E.pure f = true) (ha : yj (fz H y1i) args = some fa) (hc : C.p f fa.v = some (exO N))
    (hf : fa.ids = []) (ho : H[fb + j]? = some o) : y4 E C fb (some j) false f args H = some (ownV (fb + j) (o.gen + 1) N, H.set (fb + j) (ownO (o.gen + 1) o N)) := by
  simp only [y4, hE, if_true, y2f, ha, hc]
  have hfr : ((exO N).fresh || fa.ids.isEmpty) = true := by rw [hf]; simp
  simp only [hfr, if_true]
  cases N with
  | none =>
    simp only [exO, y1t, Bool.false_eq_true, if_false, ownV, ownO, yrw ho]
    rfl
  | some L => simp only [Bool.false_eq_true, if_false, y1k6, ho, y1nj, ownV, ownO]
theorem yv7 {E : Env} {C : Calls2} {fb j f : Nat} {args : List AV} {H : Heap} {fa : Fz (List AV)} {N : Option (List α)} (hE : E.pure f = true) (ha : yj (fz H y1i) args = some fa) (hc : C.p f fa.v = some (exO N))
    (hf : fa.ids = []) : y4s E C fb (some j) false f args H = some ([], ownI (fb + j) N) := by
  cases N with
  | none => simp [y4s, hE, ha, hc, hf, exO, ownI]
  | some L => simp [y4s, hE, ha, hc, hf, exO, ownI]
theorem yws {H : Heap} {j g : Nat} {d : AO} {L : List α} (h : H[j]? = some (ownO g d (some L))) : yk H j g = some (false, es α, L.map enc) := by
  simp [yk, y2x, h, ownO]
theorem y1q2 {H : Heap} {j g k : Nat} {d : AO} {o : Option (List α)} (h : H[j]? = some (ownO g d o)) : fz H (k + 2) (ownV j g o) = some ⟨slA o, (lst o).all scal, ownI j o⟩ := by
  cases o with
  | none => rfl
  | some L =>
    rw [ownV, y25e, yws h]
    simp only [List.drop_zero, Nat.zero_add, List.length_map, Nat.le_refl, and_self, if_true, y5i, y1j1]
    simp [slA, ownI]
theorem yab {H : Heap} {j g k : Nat} {d : AO} {o : Option (List α)} (h : H[j]? = some (ownO g d o)) (os : List OC) :
    expo H (k + 1) (ownV j g o) os = some ⟨exV os.length o, os ++ exOs o, (lst o).all scal, ownI j o, []⟩ := by
  cases o with
  | none => simp [ownV, expo, pure1, exV, exOs, ownI]
  | some L =>
    rw [ownV, y1vo, yws h]
    simp only [List.drop_zero, Nat.zero_add, List.length_map, Nat.le_refl, and_self, if_true, y5i, y15l]
    rfl
end
theorem y1j6 {rows : List (List AV)} {i : Nat} {r : List AV} (h : rows[i]? = some r) : rows.set i r = rows := by
  refine List.ext_getElem? fun k => ?_
  rw [List.getElem?_set]
  split
  · rename_i e; subst e
    rw [if_pos (List.getElem?_eq_some_iff.1 h).1, h]
  · rfl
theorem ymh {H : Heap} {id g es : Nat} {fz : Bool} {rows : List (List AV)} (h : yk H id g = some (fz, es, rows)) : y1g H id rows = H := by
  unfold yk y2x at h
  cases ho : H[id]? with
  | none => rw [ho] at h; simp at h
  | some o =>
    obtain ⟨g', c⟩ := o
    rw [ho] at h
    by_cases hg : g' = g
    · cases c with
      | arr bx fz' es' rows' =>
        simp only [hg, if_true, Option.some.injEq, Prod.mk.injEq] at h
        obtain ⟨rfl, rfl, rfl⟩ := h
        simp only [y1g, ho]
        exact yrw ho
      | dead => simp [hg] at h
      | map _ _ => simp [hg] at h
    · simp [hg] at h
def y1k (f : Fn) : Ex AV :=
  ⟨.agg [exV 0 f.regs, exV (exOs f.regs).length f.params, .int .i64 f.ret, exV (exOs f.regs ++ exOs f.params).length f.code, exV (exOs f.regs ++ exOs f.params ++ exOs f.code).length f.rows],
    exOs f.regs ++ exOs f.params ++ exOs f.code ++ exOs f.rows, (lst f.code).all scal && (lst f.rows).all scal, [], []⟩
theorem y1yf {α : Type} [Cel α] (o : Option (List α)) (A B : List OC) (L : List α) (h : o = some L) : (y1u (A ++ exOs o ++ B))[A.length]? = some (ownO 0 ⟨0, .dead⟩ o) := by
  subst h
  simp [y1u, exOs, ownO]
theorem ytn {α : Type} [Cel α] (o : Option (List α)) (A B : List OC) (k : Nat) : fz (y1u (A ++ exOs o ++ B)) (k + 2) (exV A.length o) = some ⟨slA o, (lst o).all scal, ownI A.length o⟩ := by
  cases ho : o with
  | none => rfl
  | some L => exact y1q2 (g := 0) (o := some L) (by have := y1yf o A B L ho; rwa [ho] at this)
theorem yyw (f : Fn) : y1ji (y1k f) (.agg (enc f)) := by
  have h1 := ytn f.regs [] (exOs f.params ++ exOs f.code ++ exOs f.rows) 9
  have h2 := ytn f.params (exOs f.regs) (exOs f.code ++ exOs f.rows) 9
  have h3 := ytn f.code (exOs f.regs ++ exOs f.params) (exOs f.rows) 9
  have h4 := ytn f.rows (exOs f.regs ++ exOs f.params ++ exOs f.code) [] 9
  simp only [List.nil_append, List.append_nil, List.append_assoc, List.length_nil, List.length_append] at h1 h2 h3 h4
  have hi : fz (y1u (y1k f).objs) 11 (.int .i64 f.ret) = some ⟨.int .i64 f.ret, true, []⟩ := rfl
  refine ⟨_, (yfb _ 11 _).trans (by
    simp only [y1k, y10, List.append_assoc, List.length_append] at hi ⊢
    simp only [h1, h2, h3, h4, hi, y1c]
    rfl), rfl⟩
theorem yp {E : Env} {C : Calls2} {fb f : Nat} {sl : Option Nat} {args : List AV} {h : Heap} {fa : Fz (List AV)} {r : Ex AV} {v : AV} (hE : E.pure f = true) (ha : yj (fz h y1i) args = some fa) (hf : fa.ids = [])
    (hc : C.p f fa.v = some r) (hr : y1ji r v) : y4 E C fb sl true f args h = some (v, h) := by
  obtain ⟨q, h1, h2⟩ := hr
  simp [y4, hE, y2f, ha, hc, hf, h1, h2]
theorem yis {E : Env} {C : Calls2} {fb f : Nat} {sl : Option Nat} {args : List AV} {h : Heap} {fa : Fz (List AV)} {r : Ex AV} (hE : E.pure f = true) (ha : yj (fz h y1i) args = some fa) (hf : fa.ids = [])
    (hc : C.p f fa.v = some r) : y4s E C fb sl true f args h = some ([], []) := by
  simp [y4s, hE, ha, hc, hf]
end Go.Vm
namespace Go.Vm
open Cel
theorem ybg {H : Heap} {a : Nat} {x : AO} (h : a < H.length) : (H.set a x)[a]? = some x := by simp [h]
theorem y33 {H : Heap} {a b : Nat} {x : AO} (h : a ≠ b) : (H.set a x)[b]? = H[b]? := List.getElem?_set_ne h
theorem y90 {H : Heap} {a : Nat} {x : AO} (h : H[a]? = some x) : a < H.length := (List.getElem?_eq_some_iff.1 h).1
theorem y1h8 {α : Type} [Cel α] {H : Heap} {id g : Nat} {L : List α} (h : H[id]? = some ⟨g, .arr false false (es α) (L.map enc)⟩) : y1p H (es α) (.ls id g (es α) 0 L.length) = some (L.map enc) := by
  simp [y1p, yk, y2x, h]
end Go.Vm
namespace Go.Vm
def calls (o : Int) : Bool := decide (23 ≤ o) && decide (o ≤ 26)
def ends (o : Int) : Bool := decide (o = 27) || decide (o = 30) || decide (o = 31)
def leads (o : Int) : Bool := decide (o = 27) || decide (o = 28) || decide (o = 29)
def throws (o : Int) : Bool := (decide (7 ≤ o) && decide (o ≤ 12)) || decide (o = 20) || decide (o = 21) || decide (o = 31) || calls o
def writes (o : Int) : Bool := decide (o ∈ [1, 2, 3, 4, 5, 6, 13, 15, 16, 18, 20, 21, 22, 32]) || calls o
def defr (x : Ins) : Int := if writes x.op then x.d else -1
def reads (o : Int) : Nat :=
  if o ∈ [4, 6, 7, 8, 10, 12, 15, 16, 19, 21, 22, 31] then 1 else if o ∈ [5, 9, 11, 13, 17, 28] then 2 else if o = 14 then 3 else 0
def uses (x : Ins) : Option (List Int) :=
  if calls x.op then x.args
  else if x.op = 29 then (if x.b < 0 then some [x.a] else some [x.a, x.b])
  else if x.op = 30 then (if 0 ≤ x.a then some [x.a] else none)
  else if reads x.op = 1 then some [x.a] else if reads x.op = 2 then some [x.a, x.b] else if reads x.op = 3 then some [x.a, x.b, x.c] else none
theorem yjj (o : Int) : o = 1 ∨ o = 2 ∨ o = 3 ∨ o = 4 ∨ o = 5 ∨ o = 6 ∨ o = 7 ∨ o = 8 ∨ o = 9 ∨ o = 10 ∨ o = 11 ∨ o = 12 ∨ o = 13 ∨ o = 14 ∨ o = 15 ∨ o = 16 ∨ o = 17 ∨ o = 18 ∨ o = 19 ∨ o = 20 ∨ o = 21 ∨ o = 22 ∨ o = 23 ∨ o = 24 ∨ o = 25 ∨ o = 26 ∨ o = 27 ∨ o = 28 ∨ o = 29 ∨ o = 30 ∨ o = 31 ∨ o = 32 ∨ o = 33 ∨ o < 1 ∨ 33 < o := by omega
theorem lo_f {o : Int} (h : o < 1) : (¬ o = 1 ∧ ¬ o = 2 ∧ ¬ o = 3 ∧ ¬ o = 4 ∧ ¬ o = 5 ∧ ¬ o = 6 ∧ ¬ o = 7 ∧ ¬ o = 8 ∧ ¬ o = 9 ∧ ¬ o = 10 ∧ ¬ o = 11 ∧ ¬ o = 12 ∧ ¬ o = 13 ∧ ¬ o = 14 ∧ ¬ o = 15 ∧ ¬ o = 16 ∧ ¬ o = 17 ∧ ¬ o = 18 ∧ ¬ o = 19 ∧ ¬ o = 20 ∧ ¬ o = 21 ∧ ¬ o = 22 ∧ ¬ o = 23 ∧ ¬ o = 24 ∧ ¬ o = 25 ∧ ¬ o = 26 ∧ ¬ o = 27 ∧ ¬ o = 28 ∧ ¬ o = 29 ∧ ¬ o = 30 ∧ ¬ o = 31 ∧ ¬ o = 32 ∧ ¬ o = 33) ∧ ¬ 7 ≤ o ∧ ¬ 23 ≤ o ∧ ¬ 1 ≤ o := by omega
theorem hi_f {o : Int} (h : 33 < o) : (¬ o = 1 ∧ ¬ o = 2 ∧ ¬ o = 3 ∧ ¬ o = 4 ∧ ¬ o = 5 ∧ ¬ o = 6 ∧ ¬ o = 7 ∧ ¬ o = 8 ∧ ¬ o = 9 ∧ ¬ o = 10 ∧ ¬ o = 11 ∧ ¬ o = 12 ∧ ¬ o = 13 ∧ ¬ o = 14 ∧ ¬ o = 15 ∧ ¬ o = 16 ∧ ¬ o = 17 ∧ ¬ o = 18 ∧ ¬ o = 19 ∧ ¬ o = 20 ∧ ¬ o = 21 ∧ ¬ o = 22 ∧ ¬ o = 23 ∧ ¬ o = 24 ∧ ¬ o = 25 ∧ ¬ o = 26 ∧ ¬ o = 27 ∧ ¬ o = 28 ∧ ¬ o = 29 ∧ ¬ o = 30 ∧ ¬ o = 31 ∧ ¬ o = 32 ∧ ¬ o = 33) ∧ 7 ≤ o ∧ 23 ≤ o ∧ ¬ o ≤ 12 ∧ ¬ o ≤ 26 ∧ 1 ≤ o := by omega
end Go.Vm
namespace Go.Vm
open Cel
attribute [local simp] y4 y2f yy
theorem yqb {n b : Nat} (hb : b ≤ 200) (h : n ≤ 2 ^ 38) : (2 * n + 512) * b ≤ 281474976710656 := by
  have e : (2:Nat)^38 = 274877906944 := by decide
  have h1 : (2 * n + 512) ≤ 549755814400 := by omega
  have : (2 * n + 512) * b ≤ 549755814400 * 200 := Nat.mul_le_mul h1 hb
  omega
@[simp] theorem y99 (o : Option (List Int)) (h : (lst o).length ≤ 17592186043904) : (y6 E).p 39 [slA o] = some (exO o) := by
  rw [y25n]
  cases o with
  | none => simp [yss, yun, yor]; rfl
  | some L =>
    simp only [y5s] at h
    have h1 : (2 * L.length + 512) * 8 ≤ 281474976710656 := by omega
    simp [yss, yun, yor, y12, y2v, y2k, h1]
    exact yey (α := Int) (by simp)
end Go.Vm
namespace Go.Vm
open Cel
attribute [local simp] y4 y2f yy
@[simp] theorem ymo (o : Option (List Ins)) (h : (lst o).length ≤ 2 ^ 38) : (y6 E).p 40 [slA o] = some (exO o) := by
  rw [y209]
  cases o with
  | none => simp [yw2, yvk, ys2]; rfl
  | some L =>
    have h1 := yqb (b := 96) (by omega) h
    simp only [y5s] at h1
    simp [yw2, yvk, ys2, y12, y2v, y2k, h1]
    exact yey (α := Ins) (by simp)
@[simp] theorem yn8 (o : Option (List Row)) (h : (lst o).length ≤ 2 ^ 38) : (y6 E).p 41 [slA o] = some (exO o) := by
  rw [y24j]
  cases o with
  | none => simp [yvg, ywz, yqf]; rfl
  | some L =>
    have h1 := yqb (b := 40) (by omega) h
    simp only [y5s] at h1
    simp [yvg, ywz, yqf, y12, y2v, y2k, h1]
    exact yey (α := Row) (by simp)
end Go.Vm
namespace Go.Vm
structure FnSm (f : Fn) : Prop where
  regs : (lst f.regs).length ≤ 17592186043904
  params : (lst f.params).length ≤ 17592186043904
  code : (lst f.code).length ≤ 2 ^ 38
  rows : (lst f.rows).length ≤ 2 ^ 38
  args : ∀ x ∈ lst f.code, (lst x.args).length ≤ 17592186043904
abbrev y1qh (f : Fn) : Prop := ∀ x ∈ lst f.code, (lst x.args).length ≤ 17592186043904
end Go.Vm
namespace Go.Vm
open Cel
attribute [local simp] yy
abbrev fnA (f : Fn) : AV := .agg [ownV 2 1 f.regs, ownV 3 1 f.params, .int .i64 f.ret, ownV 4 1 f.code, ownV 5 1 f.rows]
abbrev HCp (f : Fn) (o1 : AO) : Heap := [⟨1, .arr true false 5 [enc f]⟩, o1, ownO 1 ⟨0, .dead⟩ f.regs, ownO 1 ⟨0, .dead⟩ f.params, ownO 1 ⟨0, .dead⟩ f.code, ownO 1 ⟨0, .dead⟩ f.rows, ⟨1, .arr true false 5 [cellsOf (fnA f)]⟩]
theorem y1gm (f : Fn) (hs : FnSm f) (v2 : AV) (o1 : AO) : ∀ (d i : Nat), i + d = (lst f.code).length →
    ykb v2 (.lp 6 1 0 0) (.int .i64 (lst f.code).length) (.int .i64 i) (HCp f o1) = y1cb v2 (.lp 6 1 0 0) (HCp f o1) := by
  have e38 : (2:Nat) ^ 38 = 274877906944 := by decide
  intro d
  induction d with
  | zero =>
    intro i hi
    have hn : ¬ ((i : Int) < ((lst f.code).length : Int)) := by omega
    rw [yln]
    simp [y1ob, y1lc, hn]
  | succ d ih =>
    intro i hi
    have hlt : i < (lst f.code).length := by omega
    have hc : ((i : Int) < ((lst f.code).length : Int)) := by omega
    have hl : (lst f.code).length ≤ 9223372036854775807 := by have := hs.code; omega
    have hw := y2b hlt hl
    obtain ⟨L, hL⟩ : ∃ L, f.code = some L := by
      cases hf : f.code with
      | none => rw [hf] at hlt; exact absurd hlt (Nat.not_lt_zero _)
      | some L => exact ⟨L, rfl⟩
    have ih := ih (i + 1) (by omega)
    push_cast at ih
    have hx : L[i]? = some (lst f.code)[i] := by
      simp only [hL, y5s] at hlt ⊢
      exact List.getElem?_eq_getElem hlt
    have ha := hs.args _ (List.getElem_mem hlt)
    generalize (lst f.code)[i] = x at *
    have k39 := y99 x.args ha
    have lA : evLd false 1 (.lp 6 1 0 3) (HCp f o1) = some (ownV 4 1 f.code) := rfl
    have ix : yv 9 (ownV 4 1 f.code) (.int .i64 (i : Int)) = some (.lp 4 1 i 0) := by
      have : i < L.length := (List.getElem?_eq_some_iff.1 hx).1
      simp [hL, ownV, yv, this]
    have hr : yk (HCp f o1) 4 1 = some (false, 9, L.map enc) := by
      simp [yk, y2x, hL, ownO]
    have hg : (L.map (enc (α := Ins)))[i]? = some (enc x) := by simp [hx]
    have lB : evLd false 1 (.lp 4 1 i 8) (HCp f o1) = some (slA x.args) := by
      rw [y2l, hr]
      simp only [hg, y7m]
      rfl
    have ha1 : yj (fz (HCp f o1) y1i) [slA x.args] = some ⟨[slA x.args], (lst x.args).isEmpty && true, []⟩ := by
      rw [y10, y1ij, y1c]; rfl
    have c1 := yp (E := E) (C := y6 E) (fb := 0) (sl := none) (f := 39) (v := slA x.args) rfl ha1 rfl k39 ⟨_, y1q3 _, rfl⟩
    have f1 := yis (E := E) (C := y6 E) (fb := 0) (sl := none) (f := 39) rfl ha1 rfl k39
    have st : evSt 1 (.lp 4 1 i 8) (slA x.args) (HCp f o1) = some (.tup [], HCp f o1) := by
      rw [y40, hr]
      simp only [hg, yyp]
      rw [if_pos ⟨rfl, by rw [len]; exact Nat.le_refl _, by simp⟩]
      rw [show ym 8 [slA x.args] (enc x) = enc x from rfl, y1j6 hg]
      rw [ymh hr]
    have hp : yu [([], []), (ids1 (.lp 6 1 0 3), []), ([], []), ([], []), (ids1 (.lp 6 1 0 3), []), ([], []), ([], []), ([], []), (ids1 (.lp 4 1 i 8), []), ([], []), ([], []), ([], []), ([], ids1 (.lp 4 1 i 8))] [(1, 9)] = true := by simp [yu, y29, meets]
    rw [yln]
    simp only [y1ob, yf, y3, y1lc, hc, decide_true, yx, y1z5, y14, lA, ix, lB, f1, yd1, c1, yc, st, hp, y216, y1s1, yn, hw, ih, Nat.zero_add]
theorem y22x (f : Fn) (hs : FnSm f) : (y6 E).p 13 [.agg (enc f)] = some (y1k f) := by
  rw [y28k]
  have k1 := y99 f.regs hs.regs
  have k2 := y99 f.params hs.params
  have k3 := ymo f.code hs.code
  have k4 := yn8 f.rows hs.rows
  have lp := y1gm f hs (.lp 1 1 0 0) ⟨1, .arr true false 5 [[.nils, .nils, .int .i64 0, .nils, .nils]]⟩ _ 0 (Nat.zero_add _)
  have ha1 : ∀ (o : Option (List Int)) (H : Heap), yj (fz H y1i) [slA o] = some ⟨[slA o], (lst o).isEmpty && true, []⟩ := fun o H => by
    rw [y10, y1ij, y1c]; rfl
  have ha2 : ∀ (o : Option (List Ins)) (H : Heap), yj (fz H y1i) [slA o] = some ⟨[slA o], (lst o).isEmpty && true, []⟩ := fun o H => by
    rw [y10, y1ij, y1c]; rfl
  have ha3 : ∀ (o : Option (List Row)) (H : Heap), yj (fz H y1i) [slA o] = some ⟨[slA o], (lst o).isEmpty && true, []⟩ := fun o H => by
    rw [y10, y1ij, y1c]; rfl
  have l0 : ∀ (j : Nat) (t : Heap), evLd false 1 (.lp 0 1 0 j) (⟨1, .arr true false 5 [enc f]⟩ :: t) = ((enc f).drop j).head? := fun j t => by simp [evLd]
  have e11 : yrl (.agg (enc f)) [⟨0, .dead⟩, ⟨0, .dead⟩, ⟨0, .dead⟩, ⟨0, .dead⟩, ⟨0, .dead⟩, ⟨0, .dead⟩, ⟨0, .dead⟩] =
      ym1 (.lp 0 1 0 0) (.lp 1 1 0 0) [⟨1, .arr true false 5 [enc f]⟩, ⟨1, .arr true false 5 [[.nils, .nils, .int .i64 0, .nils, .nils]]⟩, ⟨0, .dead⟩, ⟨0, .dead⟩, ⟨0, .dead⟩, ⟨0, .dead⟩, ⟨0, .dead⟩] := by
    simp [yrl]
  rw [e11]
  have c1 := yd7 (E := E) (C := y6 E) (fb := 0) (j := 2) (f := 39) (H := [⟨1, .arr true false 5 [enc f]⟩, ⟨1, .arr true false 5 [[.nils, .nils, .int .i64 0, .nils, .nils]]⟩, ⟨0, .dead⟩, ⟨0, .dead⟩, ⟨0, .dead⟩, ⟨0, .dead⟩, ⟨0, .dead⟩]) rfl (ha1 f.regs _) k1 rfl rfl
  have f1 := fun H => yv7 (E := E) (C := y6 E) (fb := 0) (j := 2) (f := 39) (H := H) rfl (ha1 f.regs H) k1 rfl
  have c2 := yd7 (E := E) (C := y6 E) (fb := 0) (j := 3) (f := 39) (H := [⟨1, .arr true false 5 [enc f]⟩, ⟨1, .arr true false 5 [[.nils, .nils, .int .i64 0, .nils, .nils]]⟩, ownO 1 ⟨0, .dead⟩ f.regs, ⟨0, .dead⟩, ⟨0, .dead⟩, ⟨0, .dead⟩, ⟨0, .dead⟩]) rfl (ha1 f.params _) k2 rfl rfl
  have f2 := fun H => yv7 (E := E) (C := y6 E) (fb := 0) (j := 3) (f := 39) (H := H) rfl (ha1 f.params H) k2 rfl
  have c3 := yd7 (E := E) (C := y6 E) (fb := 0) (j := 4) (f := 40) (H := [⟨1, .arr true false 5 [enc f]⟩, ⟨1, .arr true false 5 [[.nils, .nils, .int .i64 0, .nils, .nils]]⟩, ownO 1 ⟨0, .dead⟩ f.regs, ownO 1 ⟨0, .dead⟩ f.params, ⟨0, .dead⟩, ⟨0, .dead⟩, ⟨0, .dead⟩]) rfl (ha2 f.code _) k3 rfl rfl
  have f3 := fun H => yv7 (E := E) (C := y6 E) (fb := 0) (j := 4) (f := 40) (H := H) rfl (ha2 f.code H) k3 rfl
  have c4 := yd7 (E := E) (C := y6 E) (fb := 0) (j := 5) (f := 41) (H := [⟨1, .arr true false 5 [enc f]⟩, ⟨1, .arr true false 5 [[.nils, .nils, .int .i64 0, .nils, .nils]]⟩, ownO 1 ⟨0, .dead⟩ f.regs, ownO 1 ⟨0, .dead⟩ f.params, ownO 1 ⟨0, .dead⟩ f.code, ⟨0, .dead⟩, ⟨0, .dead⟩]) rfl (ha3 f.rows _) k4 rfl rfl
  have f4 := fun H => yv7 (E := E) (C := y6 E) (fb := 0) (j := 5) (f := 41) (H := H) rfl (ha3 f.rows H) k4 rfl
  simp only [Nat.zero_add, List.set_cons_zero, List.set_cons_succ] at c1 c2 c3 c4 f1 f2 f3 f4
  have hb : yh [.nils, .nils, .int .i64 0, .nils, .nils] [(0, 1, ownV 2 1 f.regs), (1, 1, ownV 3 1 f.params), (2, 1, .int .i64 f.ret), (3, 1, ownV 4 1 f.code), (4, 1, ownV 5 1 f.rows)] = some (fnA f) := by
    simp [yh, y3t, ym]
    rfl
  have nc : ∀ (h0 : AO) (o1 : AO) (o2 o3 o4 o5 : AO), newC 0 (some 6) [.nils, .nils, .int .i64 0, .nils, .nils] [h0, o1, o2, o3, o4, o5, ⟨0, .dead⟩] = some (.lp 6 1 0 0, [h0, o1, o2, o3, o4, o5, ⟨1, .arr true false 5 [[.nils, .nils, .int .i64 0, .nils, .nils]]⟩]) := fun _ _ _ _ _ _ => rfl
  have st : ∀ (h0 : AO) (o1 : AO) (o2 o3 o4 o5 : AO), evSt 5 (.lp 6 1 0 0) (fnA f) [h0, o1, o2, o3, o4, o5, ⟨1, .arr true false 5 [[.nils, .nils, .int .i64 0, .nils, .nils]]⟩] = some (.tup [], [h0, o1, o2, o3, o4, o5, ⟨1, .arr true false 5 [cellsOf (fnA f)]⟩]) := by
    intro h0 o1 o2 o3 o4 o5
    simp [y40, ym]
  have hp : yu [([], []), (ids1 (.lp 0 1 0 0), []), ([], ownI 2 f.regs), ([], []), (ids1 (.lp 0 1 0 1), []), ([], ownI 3 f.params), ([], []), (ids1 (.lp 0 1 0 2), []), ([], []), (ids1 (.lp 0 1 0 3), []), ([], ownI 4 f.code), ([], []), (ids1 (.lp 0 1 0 4), []), ([], ownI 5 f.rows), ([], []), ([], [6]), ([], ids1 (.lp 6 1 0 0))]
      [(2, 4), (2, 7), (5, 7), (2, 9), (5, 9), (7, 10), (2, 12), (5, 12), (10, 12), (7, 13), (1, 15), (2, 15), (4, 15), (5, 15), (7, 15), (9, 15), (10, 15), (12, 15), (13, 15)] = true := by
    cases f.regs <;> cases f.params <;> cases f.code <;> cases f.rows <;> rfl
  have e10 : ym1 (.lp 0 1 0 0) (.lp 1 1 0 0) [⟨1, .arr true false 5 [enc f]⟩, ⟨1, .arr true false 5 [[.nils, .nils, .int .i64 0, .nils, .nils]]⟩, ⟨0, .dead⟩, ⟨0, .dead⟩, ⟨0, .dead⟩, ⟨0, .dead⟩, ⟨0, .dead⟩] =
      y196 (.lp 1 1 0 0) (.lp 6 1 0 0) (HCp f ⟨1, .arr true false 5 [[.nils, .nils, .int .i64 0, .nils, .nils]]⟩) := by
    have d0 : ((enc f).drop 0).head? = some (slA f.regs) := rfl
    have d1 : ((enc f).drop 1).head? = some (slA f.params) := rfl
    have d2 : ((enc f).drop 2).head? = some (.int .i64 f.ret) := rfl
    have d3 : ((enc f).drop 3).head? = some (slA f.code) := rfl
    have d4 : ((enc f).drop 4).head? = some (slA f.rows) := rfl
    simp only [ym1, y14, y3, Nat.zero_add, l0, d0, d1, d2, d3, d4, f1, yd1, c1, yc, f2, c2, f3, c3, f4, c4, hb, nc, st, hp, y216]
  have lC : evLd false 1 (.lp 6 1 0 3) (HCp f ⟨1, .arr true false 5 [[.nils, .nils, .int .i64 0, .nils, .nils]]⟩) = some (ownV 4 1 f.code) := rfl
  have e8 : y196 (.lp 1 1 0 0) (.lp 6 1 0 0) (HCp f ⟨1, .arr true false 5 [[.nils, .nils, .int .i64 0, .nils, .nils]]⟩) = y1cb (.lp 1 1 0 0) (.lp 6 1 0 0) (HCp f ⟨1, .arr true false 5 [[.nils, .nils, .int .i64 0, .nils, .nils]]⟩) := by
    rw [← lp]
    simp only [y196, y14, y3, Nat.zero_add, lC, y1dg]
    rfl
  rw [e10, e8]
  have l6 : ∀ o1, evLd true 5 (.lp 6 1 0 0) (HCp f o1) = some (fnA f) := fun o1 => rfl
  have st1 : evSt 5 (.lp 1 1 0 0) (fnA f) (HCp f ⟨1, .arr true false 5 [[.nils, .nils, .int .i64 0, .nils, .nils]]⟩) = some (.tup [], HCp f ⟨1, .arr true false 5 [cellsOf (fnA f)]⟩) := by
    simp [y40, ym]
  have l7 : evLd true 5 (.lp 1 1 0 0) (HCp f ⟨1, .arr true false 5 [cellsOf (fnA f)]⟩) = some (fnA f) := rfl
  simp only [y1cb, l6, y3, st1, yc, l7]
  have x1 := fun os => yab (α := Int) (H := HCp f ⟨1, .arr true false 5 [cellsOf (fnA f)]⟩) (j := 2) (g := 1) (k := 10) (d := ⟨0, .dead⟩) (o := f.regs) rfl os
  have x2 := fun os => yab (α := Int) (H := HCp f ⟨1, .arr true false 5 [cellsOf (fnA f)]⟩) (j := 3) (g := 1) (k := 10) (d := ⟨0, .dead⟩) (o := f.params) rfl os
  have x3 := fun os => yab (α := Ins) (H := HCp f ⟨1, .arr true false 5 [cellsOf (fnA f)]⟩) (j := 4) (g := 1) (k := 10) (d := ⟨0, .dead⟩) (o := f.code) rfl os
  have x4 := fun os => yab (α := Row) (H := HCp f ⟨1, .arr true false 5 [cellsOf (fnA f)]⟩) (j := 5) (g := 1) (k := 10) (d := ⟨0, .dead⟩) (o := f.rows) rfl os
  have xi := fun os => y0v (v := .int .i64 f.ret) rfl (HCp f ⟨1, .arr true false 5 [cellsOf (fnA f)]⟩) 10 os
  rw [yfe]
  simp only [y3u, x1, x2, x3, x4, xi, List.nil_append]
  have ap : y34 (ownI 2 f.regs ++ (ownI 3 f.params ++ ([] ++ (ownI 4 f.code ++ (ownI 5 f.rows ++ []))))) ([] ++ ([] ++ ([] ++ ([] ++ ([] ++ []))))) = true := by
    cases f.regs <;> cases f.params <;> cases f.code <;> cases f.rows <;> rfl
  have sc : (lst f.regs).all scal = true := by simp
  have sc2 : (lst f.params).all scal = true := by simp
  simp only [List.nil_append] at ap
  rw [if_pos ap]
  simp [y1k, sc, sc2]
end Go.Vm
namespace Go.Vm
open Cel
def hasL (f : Fn) : Nat → Bool
  | 0 => f.regs.isSome
  | 1 => f.params.isSome
  | 2 => f.code.isSome
  | _ => f.rows.isSome
structure FnAt (H : Heap) (f : Fn) (p g : Nat → Nat) : Prop where
  regs : ∀ L, f.regs = some L → H[p 0]? = some ⟨g 0, .arr false false 1 (L.map enc)⟩
  params : ∀ L, f.params = some L → H[p 1]? = some ⟨g 1, .arr false false 1 (L.map enc)⟩
  code : ∀ L, f.code = some L → H[p 2]? = some ⟨g 2, .arr false false 9 (L.map enc)⟩
  rows : ∀ L, f.rows = some L → H[p 3]? = some ⟨g 3, .arr false false 4 (L.map enc)⟩
  ne : ∀ i j, i < 4 → j < 4 → i ≠ j → hasL f i = true → hasL f j = true → p i ≠ p j
def fnC (f : Fn) (p g : Nat → Nat) : List AV := [ownV (p 0) (g 0) f.regs, ownV (p 1) (g 1) f.params, .int .i64 f.ret, ownV (p 2) (g 2) f.code, ownV (p 3) (g 3) f.rows]
abbrev fnV (f : Fn) (p g : Nat → Nat) : AV := .agg (fnC f p g)
section
variable {α : Type} [Cel α]
theorem yjh {H : Heap} {j g k : Nat} {o : Option (List α)} (h : ∀ L, o = some L → H[j]? = some ⟨g, .arr false false (es α) (L.map enc)⟩) : fz H (k + 2) (ownV j g o) = some ⟨slA o, (lst o).all scal, ownI j o⟩ := by
  cases o with
  | none => rfl
  | some L => exact y1q2 (d := ⟨0, .dead⟩) (o := some L) (h L rfl)
theorem yaf {H : Heap} {j g k : Nat} {o : Option (List α)} (h : ∀ L, o = some L → H[j]? = some ⟨g, .arr false false (es α) (L.map enc)⟩) (os : List OC) :
    expo H (k + 1) (ownV j g o) os = some ⟨exV os.length o, os ++ exOs o, (lst o).all scal, ownI j o, []⟩ := by
  cases o with
  | none => simp [ownV, expo, pure1, exV, exOs, ownI]
  | some L => exact yab (d := ⟨0, .dead⟩) (o := some L) (h L rfl) os
end
section
variable {H : Heap} {f : Fn} {p g : Nat → Nat} (A : FnAt H f p g)
include A
theorem FnAt.fz : ∃ fr ids, fz H y1i (fnV f p g) = some ⟨.agg (enc f), fr, ids⟩ := by
  have h1 := yjh (k := 9) A.regs
  have h2 := yjh (k := 9) A.params
  have h3 := yjh (k := 9) A.code
  have h4 := yjh (k := 9) A.rows
  have hi : Go.Vm.fz H 11 (.int .i64 f.ret) = some ⟨.int .i64 f.ret, true, []⟩ := rfl
  refine ⟨_, _, (yfb _ 11 _).trans (by
    simp only [fnC, y10, h1, h2, h3, h4, hi, y1c]
    rfl)⟩
theorem FnAt.expo : y7 H (fnV f p g) = some (y1k f) := by
  have x1 := fun os => yaf (k := 10) A.regs os
  have x2 := fun os => yaf (k := 10) A.params os
  have x3 := fun os => yaf (k := 10) A.code os
  have x4 := fun os => yaf (k := 10) A.rows os
  have xi := fun os => y0v (v := .int .i64 f.ret) rfl H 10 os
  rw [yfe]
  simp only [fnC, y3u, x1, x2, x3, x4, xi, List.nil_append]
  have ap : y34 (ownI (p 0) f.regs ++ (ownI (p 1) f.params ++ ([] ++ (ownI (p 2) f.code ++ (ownI (p 3) f.rows ++ []))))) ([] ++ ([] ++ ([] ++ ([] ++ ([] ++ []))))) = true := by
    have n := A.ne
    have n01 := n 0 1 (by omega) (by omega) (by omega)
    have n02 := n 0 2 (by omega) (by omega) (by omega)
    have n03 := n 0 3 (by omega) (by omega) (by omega)
    have n12 := n 1 2 (by omega) (by omega) (by omega)
    have n13 := n 1 3 (by omega) (by omega) (by omega)
    have n23 := n 2 3 (by omega) (by omega) (by omega)
    simp only [hasL] at n01 n02 n03 n12 n13 n23
    cases h1 : f.regs <;> cases h2 : f.params <;> cases h3 : f.code <;> cases h4 : f.rows <;>
      (rw [h1, h2] at n01; rw [h1, h3] at n02; rw [h1, h4] at n03; rw [h2, h3] at n12; rw [h2, h4] at n13; rw [h3, h4] at n23; simp [ownI, y34] at *; try simp_all)
  have sc : (lst f.regs).all scal = true := by simp
  have sc2 : (lst f.params).all scal = true := by simp
  simp only [List.nil_append] at ap
  rw [if_pos ap]
  simp [y1k, sc, sc2]
theorem FnAt.set {a : Nat} {x : AO} (h : ∀ i, i < 4 → hasL f i = true → p i ≠ a) : FnAt (H.set a x) f p g := by
  refine ⟨fun L e => ?_, fun L e => ?_, fun L e => ?_, fun L e => ?_, A.ne⟩
  · rw [y33 (fun e' => h 0 (by omega) (by simp [hasL, e]) e'.symm)]; exact A.regs L e
  · rw [y33 (fun e' => h 1 (by omega) (by simp [hasL, e]) e'.symm)]; exact A.params L e
  · rw [y33 (fun e' => h 2 (by omega) (by simp [hasL, e]) e'.symm)]; exact A.code L e
  · rw [y33 (fun e' => h 3 (by omega) (by simp [hasL, e]) e'.symm)]; exact A.rows L e
theorem FnAt.setCode {L L' : List Ins} (hL : f.code = some L) : FnAt (H.set (p 2) ⟨g 2, .arr false false 9 (L'.map enc)⟩) { f with code := some L' } p g := by
  have hc : hasL f 2 = true := by simp [hasL, hL]
  have hk : ∀ i, hasL { f with code := some L' } i = hasL f i := by
    intro i
    match i with
    | 0 => rfl
    | 1 => rfl
    | 2 => simp [hasL, hL]
    | i + 3 => rfl
  refine ⟨fun L e => ?_, fun L e => ?_, fun L e => ?_, fun L e => ?_, fun i j h1 h2 h3 h4 h5 => A.ne i j h1 h2 h3 (by rw [← hk]; exact h4) (by rw [← hk]; exact h5)⟩
  · rw [y33 (A.ne 2 0 (by omega) (by omega) (by omega) hc (by have e' : f.regs = some L := e; simp [hasL, e']))]; exact A.regs L e
  · rw [y33 (A.ne 2 1 (by omega) (by omega) (by omega) hc (by have e' : f.params = some L := e; simp [hasL, e']))]; exact A.params L e
  · have : L' = L := by simpa using e
    subst this
    exact ybg (y90 (A.code _ hL))
  · rw [y33 (A.ne 2 3 (by omega) (by omega) (by omega) hc (by have e' : f.rows = some L := e; simp [hasL, e']))]; exact A.rows L e
end
def gAt (H : Heap) (k : Nat) : Nat := ((H[k]?).getD ⟨0, .dead⟩).gen + 1
def okO (o : OC) : Prop := okOC o = true ∧ ∀ tab, y4i tab o = o
theorem yc4 {fb : Nat} : ∀ (O : List OC) (j : Nat) (tab : List (Nat × Nat)) (H : Heap), (∀ o ∈ O, okO o) → fb + j + O.length ≤ H.length →
    ∃ H', y1t fb (some j) O tab H = some (tab ++ (List.range O.length).map (fun i => (fb + j + i, gAt H (fb + j + i))), H') ∧ H'.length = H.length ∧
      (∀ i o, O[i]? = some o → H'[fb + j + i]? = some ⟨gAt H (fb + j + i), o⟩) ∧ ∀ k, k < fb + j ∨ fb + j + O.length ≤ k → H'[k]? = H[k]?
  | [], j, tab, H, _, _ => ⟨H, by simp [y1t], rfl, fun i o h => by simp at h, fun _ _ => rfl⟩
  | o :: O, j, tab, H, ho, hl => by
    have h0 := ho o (by simp)
    simp only [List.length_cons] at hl
    obtain ⟨x, hx⟩ : ∃ x, H[fb + j]? = some x := ⟨_, List.getElem?_eq_getElem (by omega)⟩
    have hg : gAt H (fb + j) = x.gen + 1 := by simp [gAt, hx]
    obtain ⟨H', e1, e2, e3, e4⟩ := yc4 (fb := fb) O (j + 1) (tab ++ [(fb + j, x.gen + 1)]) (H.set (fb + j) ⟨x.gen + 1, o⟩) (fun o h => ho o (by simp [h])) (by rw [List.length_set]; omega)
    have hgs : ∀ i, gAt (H.set (fb + j) ⟨x.gen + 1, o⟩) (fb + (j + 1) + i) = gAt H (fb + j + (i + 1)) := by
      intro i
      unfold gAt
      rw [y33 (by omega), show fb + (j + 1) + i = fb + j + (i + 1) by omega]
    refine ⟨H', ?_, by rw [e2, List.length_set], fun i o' hi => ?_, fun k hk => ?_⟩
    · rw [y1t, h0.2, h0.1]
      simp only [if_true, place, hx, Option.map_some]
      rw [e1]
      simp only [List.length_cons, List.range_succ_eq_map, List.map_cons, List.map_map, Nat.add_zero, hg, List.append_assoc, List.singleton_append, Option.some.injEq, Prod.mk.injEq, and_true]
      congr 2
      refine List.map_congr_left fun i _ => ?_
      simp only [Function.comp, hgs]
      rw [show fb + (j + 1) + i = fb + j + (i + 1) by omega]
    · cases i with
      | zero =>
        simp only [List.getElem?_cons_zero, Option.some.injEq] at hi
        subst hi
        rw [e4 _ (.inl (by omega))]
        simp only [Nat.add_zero]
        rw [ybg (by omega), hg]
      | succ i =>
        simp only [List.getElem?_cons_succ] at hi
        have := e3 i o' hi
        rw [hgs] at this
        rw [show fb + j + (i + 1) = fb + (j + 1) + i by omega]
        rw [show fb + j + (i + 1) = fb + (j + 1) + i by omega] at this
        exact this
    · simp only [List.length_cons] at hk
      rw [e4 k (by omega), y33 (by omega)]
section
variable {α : Type} [Cel α]
theorem yi6 (o : Option (List α)) : ∀ x ∈ exOs o, okO x := by
  cases o with
  | none => intro x h; cases h
  | some L =>
    intro x h
    simp only [exOs, List.mem_singleton] at h
    subst h
    exact ⟨rfl, fun _ => rfl⟩
theorem yas {tab : List (Nat × Nat)} {o : Option (List α)} {k id g : Nat} (h : ∀ L, o = some L → tab[k]? = some (id, g)) : y21 tab (exV k o) = ownV id g o := by
  cases o with
  | none => rfl
  | some L => simp [exV, y21, h L rfl, ownV]
theorem yd8 (o : Option (List α)) : (exOs o).length = if o.isSome then 1 else 0 := by cases o <;> rfl
end
def cnt (f : Fn) : Nat → Nat
  | 0 => 0
  | 1 => (exOs f.regs).length
  | 2 => (exOs f.regs ++ exOs f.params).length
  | _ => (exOs f.regs ++ exOs f.params ++ exOs f.code).length
theorem ynw {α : Type} (A B C : List α) (x : α) (h : B = [x]) : (A ++ B ++ C)[A.length]? = some x := by
  subst h; simp
theorem yzk {f : Fn} (hs : FnSm f) {H : Heap} {fb j : Nat} (hl : fb + j + 4 ≤ H.length) : ∃ H' p g, y4 E (y6 E) fb (some j) false 13 [.agg (enc f)] H = some (fnV f p g, H') ∧ FnAt H' f p g ∧ H'.length = H.length ∧
    (∀ i, i < 4 → hasL f i = true → fb + j ≤ p i ∧ p i < fb + j + 4) ∧ ∀ k, k < fb + j ∨ fb + j + 4 ≤ k → H'[k]? = H[k]? := by
  have ha : yj (fz H y1i) [.agg (enc f)] = some ⟨[.agg (enc f)], scal f && true, []⟩ := by
    rw [y10, ygp, y1c]; rfl
  have hlen : (y1k f).objs.length ≤ 4 := by
    simp only [y1k, List.length_append, yd8]
    repeat' split
    all_goals omega
  obtain ⟨H', e1, e2, e3, e4⟩ := yc4 (fb := fb) (y1k f).objs j [] H (by
    intro o ho
    simp only [y1k, List.mem_append] at ho
    rcases ho with ((ho | ho) | ho) | ho
    · exact yi6 _ o ho
    · exact yi6 _ o ho
    · exact yi6 _ o ho
    · exact yi6 _ o ho) (by omega)
  have ob : ∀ (i : Nat) (x : OC), (y1k f).objs[cnt f i]? = some x → H'[fb + j + cnt f i]? = some ⟨gAt H (fb + j + cnt f i), x⟩ := fun i x h => e3 _ x h
  have o0 : ∀ L, f.regs = some L → (y1k f).objs[cnt f 0]? = some (.arr false false 1 (L.map enc)) := fun L h => by
    simp only [y1k, cnt, h, exOs]; rfl
  have o1 : ∀ L, f.params = some L → (y1k f).objs[cnt f 1]? = some (.arr false false 1 (L.map enc)) := fun L h => by
    simp only [y1k, cnt]
    rw [List.append_assoc, List.append_assoc, ← List.append_assoc]
    exact ynw _ _ _ _ (by rw [h]; rfl)
  have o2 : ∀ L, f.code = some L → (y1k f).objs[cnt f 2]? = some (.arr false false 9 (L.map enc)) := fun L h => by
    simp only [y1k, cnt]
    exact ynw _ _ _ _ (by rw [h]; rfl)
  have o3 : ∀ L, f.rows = some L → (y1k f).objs[cnt f 3]? = some (.arr false false 4 (L.map enc)) := fun L h => by
    simp only [y1k, cnt]
    have := ynw (exOs f.regs ++ exOs f.params ++ exOs f.code) (exOs f.rows) [] (.arr false false 4 (L.map enc)) (by rw [h]; rfl)
    rwa [List.append_nil] at this
  have hlt : ∀ i, i < 4 → hasL f i = true → cnt f i < (y1k f).objs.length := by
    intro i hi hh
    have key : ∀ {x : OC}, (y1k f).objs[cnt f i]? = some x → cnt f i < (y1k f).objs.length := fun h => (List.getElem?_eq_some_iff.1 h).1
    match i, hi with
    | 0, _ => obtain ⟨L, h⟩ := Option.isSome_iff_exists.1 hh; exact key (o0 L h)
    | 1, _ => obtain ⟨L, h⟩ := Option.isSome_iff_exists.1 hh; exact key (o1 L h)
    | 2, _ => obtain ⟨L, h⟩ := Option.isSome_iff_exists.1 hh; exact key (o2 L h)
    | 3, _ => obtain ⟨L, h⟩ := Option.isSome_iff_exists.1 hh; exact key (o3 L h)
  have tb : ∀ k, k < (y1k f).objs.length → ([] ++ (List.range (y1k f).objs.length).map fun i => (fb + j + i, gAt H (fb + j + i)))[k]? = some (fb + j + k, gAt H (fb + j + k)) := fun k hk => by simp [hk]
  refine ⟨H', fun i => fb + j + cnt f i, fun i => gAt H (fb + j + cnt f i), ?_, ⟨fun L h => ob 0 _ (o0 L h), fun L h => ob 1 _ (o1 L h), fun L h => ob 2 _ (o2 L h), fun L h => ob 3 _ (o3 L h), ?_⟩, e2, fun i hi hh => ⟨by show fb + j ≤ fb + j + cnt f i; omega, by have := hlt i hi hh; show fb + j + cnt f i < fb + j + 4; omega⟩, fun k hk => e4 k (by omega)⟩
  · simp only [y4, show E.pure 13 = true from rfl, if_true, y2f, ha, y22x f hs, List.isEmpty_nil, Bool.or_true, Bool.false_eq_true, if_false, e1]
    generalize hT : ([] ++ (List.range (y1k f).objs.length).map fun i => (fb + j + i, gAt H (fb + j + i))) = T at *
    have r0 := yas (tab := T) (o := f.regs) (k := cnt f 0) (id := fb + j + cnt f 0) (g := gAt H (fb + j + cnt f 0)) (fun L h => tb _ (hlt 0 (by omega) (by simp [hasL, h])))
    have r1 := yas (tab := T) (o := f.params) (k := cnt f 1) (id := fb + j + cnt f 1) (g := gAt H (fb + j + cnt f 1)) (fun L h => tb _ (hlt 1 (by omega) (by simp [hasL, h])))
    have r2 := yas (tab := T) (o := f.code) (k := cnt f 2) (id := fb + j + cnt f 2) (g := gAt H (fb + j + cnt f 2)) (fun L h => tb _ (hlt 2 (by omega) (by simp [hasL, h])))
    have r3 := yas (tab := T) (o := f.rows) (k := cnt f 3) (id := fb + j + cnt f 3) (g := gAt H (fb + j + cnt f 3)) (fun L h => tb _ (hlt 3 (by omega) (by simp [hasL, h])))
    have ri : y21 T (.int .i64 f.ret) = .int .i64 f.ret := rfl
    have hv : (y1k f).v = .agg [exV (cnt f 0) f.regs, exV (cnt f 1) f.params, .int .i64 f.ret, exV (cnt f 2) f.code, exV (cnt f 3) f.rows] := rfl
    rw [hv]
    simp only [reloc, ya4, List.map_cons, List.map_nil, r0, r1, r2, r3, ri]
    rfl
  · have h1 := yd8 f.regs
    have h2 := yd8 f.params
    have h3 := yd8 f.code
    intro i k hi hk hne h4 h5
    have c0 : cnt f 0 = 0 := rfl
    have c1 : cnt f 1 = (exOs f.regs).length := rfl
    have c2 : cnt f 2 = (exOs f.regs).length + (exOs f.params).length := by simp [cnt]
    have c3 : cnt f 3 = (exOs f.regs).length + (exOs f.params).length + (exOs f.code).length := by simp [cnt]; omega
    show fb + j + cnt f i ≠ fb + j + cnt f k
    have a0 : hasL f 0 = true → (exOs f.regs).length = 1 := fun h => h1.trans (if_pos h)
    have a1 : hasL f 1 = true → (exOs f.params).length = 1 := fun h => h2.trans (if_pos h)
    have a2 : hasL f 2 = true → (exOs f.code).length = 1 := fun h => h3.trans (if_pos h)
    match i, k, hi, hk with
    | 0, 0, _, _ => omega
    | 0, 1, _, _ => have := a0 h4; omega
    | 0, 2, _, _ => have := a0 h4; omega
    | 0, 3, _, _ => have := a0 h4; omega
    | 1, 0, _, _ => have := a0 h5; omega
    | 1, 1, _, _ => omega
    | 1, 2, _, _ => have := a1 h4; omega
    | 1, 3, _, _ => have := a1 h4; omega
    | 2, 0, _, _ => have := a0 h5; omega
    | 2, 1, _, _ => have := a1 h5; omega
    | 2, 2, _, _ => omega
    | 2, 3, _, _ => have := a2 h4; omega
    | 3, 0, _, _ => have := a0 h5; omega
    | 3, 1, _, _ => have := a1 h5; omega
    | 3, 2, _, _ => have := a2 h5; omega
    | 3, 3, _, _ => omega
theorem ynz {E : Env} {C : Calls2} {fb f : Nat} {sl : Option Nat} {args : List AV} {h : Heap} {fa : Fz (List AV)} {r : Ex AV} {v : AV} (hE : E.pure f = true) (ha : yj (fz h y1i) args = some fa) (hf : r.fresh = true)
    (hc : C.p f fa.v = some r) (hr : y1ji r v) : y4 E C fb sl true f args h = some (v, h) := by
  obtain ⟨q, h1, h2⟩ := hr
  simp [y4, hE, y2f, ha, hc, hf, h1, h2]
end Go.Vm
