/- Facts for reading the machine's functions: combinators at known values; lists of things of one kind as slices. The things that the layers speak of: instructions, rows, functions. What is handed in, as things. Which type fits in which, in plain words. Types as texts on the machine: their class, element, kind; names. Lists that a function builds by appending, at a place of its own. What a callee made, as the caller's own: a list, or nothing. Heaps that grow: what lies where, behind one more object, behind one that is turned. Names and types' descriptors on the machine. Who stands above whom, in plain words: a table that is made from those above down. Classes, as things. -/
import Derived.Test.YtkcigmgchfcpkaaVc
import Derived.Test.YtkcigmgchfcpkaaAX
set_option linter.unusedSimpArgs false
set_option linter.unusedVariables false
set_option linter.unusedSectionVars false
namespace Go.Vm
section comb
variable {α : Type}
@[simp] theorem y5 (v : AV) (K : AV → Option α) : ob (some v) K = K v := rfl
@[simp] theorem yb (v : AV) (h : Heap) (K : AV → Heap → Option α) : oh (some (v, h)) K = K v h := rfl
@[simp] theorem y1aq {β : Type} (v : β) (K : β → Option α) : ofp (some v) K = K v := rfl
@[simp] theorem y4h (x : Option AV) (K : AV → Option α) : gb (.bool true) true x K = ob x K := rfl
@[simp] theorem y4x (x : Option AV) (K : AV → Option α) : gb (.bool false) false x K = ob x K := rfl
@[simp] theorem y7o (x : Option AV) (K : AV → Option α) : gb (.bool true) false x K = K (.tup []) := rfl
@[simp] theorem yc6 (x : Option AV) (K : AV → Option α) : gb (.bool false) true x K = K (.tup []) := rfl
@[simp] theorem y9b (w : Bool) (x : Option AV) (K : AV → Option α) : gb (.tup []) w x K = K (.tup []) := rfl
@[simp] theorem yhs (x : Option (AV × Heap)) (h : Heap) (K : AV → Heap → Option α) : gh (.bool true) true x h K = oh x K := rfl
@[simp] theorem y1cr (x : Option (AV × Heap)) (h : Heap) (K : AV → Heap → Option α) : gh (.bool false) false x h K = oh x K := rfl
@[simp] theorem y1c0 (x : Option (AV × Heap)) (h : Heap) (K : AV → Heap → Option α) : gh (.bool true) false x h K = K (.tup []) h := rfl
@[simp] theorem y1ei (x : Option (AV × Heap)) (h : Heap) (K : AV → Heap → Option α) : gh (.bool false) true x h K = K (.tup []) h := rfl
@[simp] theorem y1e1 (w : Bool) (x : Option (AV × Heap)) (h : Heap) (K : AV → Heap → Option α) : gh (.tup []) w x h K = K (.tup []) h := rfl
@[simp] theorem y1de (x : Option (List Nat × List Nat)) : fgd (.bool true) true x = x := rfl
@[simp] theorem y1dv (x : Option (List Nat × List Nat)) : fgd (.bool false) false x = x := rfl
@[simp] theorem y1dz (x : Option (List Nat × List Nat)) : fgd (.bool true) false x = some ([], []) := rfl
@[simp] theorem y1e2 (x : Option (List Nat × List Nat)) : fgd (.bool false) true x = some ([], []) := rfl
@[simp] theorem y1cb (w : Bool) (x : Option (List Nat × List Nat)) : fgd (.tup []) w x = some ([], []) := rfl
@[simp] theorem y22 (a b : Option α) : cnd (.bool true) a b = a := rfl
@[simp] theorem y14 (a b : Option α) : cnd (.bool false) a b = b := rfl
@[simp] theorem y1el (x : Option α) : okK true x = x := rfl
theorem yar {α : Type} {b : Bool} (h : b = true) (x : Option α) : okK b x = x := by rw [h]; rfl
@[simp] theorem yr (a b : AV) : yp (.bool true) a b = some a := rfl
@[simp] theorem yz (a b : AV) : yp (.bool false) a b = some b := rfl
@[simp] theorem y1r (b : Bool) : evUn .not (.bool b) = some (.bool (!b)) := rfl
@[simp] theorem y1cu (neq a b : Bool) : y153 neq (.bool a) (.bool b) = some (.bool (if neq then !(a == b) else a == b)) := rfl
@[simp] theorem y1y (i : Nat) (vs : List AV) : y4v i (.tup vs) = vs[i]? := rfl
@[simp] theorem y18e (k k' : IntKind) (n : Int) : y14p k (.int k' n) = some (.int k (k.wrap n)) := rfl
@[simp] theorem y7k (cs : List AV) : yq (.rp cs) = some (.rp cs) := rfl
@[simp] theorem y1t (id g i off : Nat) : yq (.lp id g i off) = some (.lp id g i off) := rfl
@[congr] theorem y1ed {x x' : Option AV} (h : x = x') (K : AV → Option α) : ob x K = ob x' K := by rw [h]
@[congr] theorem y1es {x x' : Option (AV × Heap)} (h : x = x') (K : AV → Heap → Option α) : oh x K = oh x' K := by rw [h]
@[congr] theorem y1dh {β : Type} {x x' : Option β} (h : x = x') (K : β → Option α) : ofp x K = ofp x' K := by rw [h]
@[congr] theorem y1ea {g g' : AV} (h : g = g') (w : Bool) (x : Option AV) (K : AV → Option α) : gb g w x K = gb g' w x K := by rw [h]
@[congr] theorem y1e9 {g g' : AV} (h : g = g') (w : Bool) (x : Option (AV × Heap)) (hp : Heap) (K : AV → Heap → Option α) : gh g w x hp K = gh g' w x hp K := by rw [h]
@[congr] theorem y1dd {g g' : AV} (h : g = g') (w : Bool) (x : Option (List Nat × List Nat)) : fgd g w x = fgd g' w x := by rw [h]
@[congr] theorem y1ds {c c' : AV} (h : c = c') (a b : Option α) : cnd c a b = cnd c' a b := by rw [h]
@[congr] theorem y1dx {c c' : Bool} (h : c = c') (a : Option α) : okK c a = okK c' a := by rw [h]
end comb
section ints
variable (k : IntKind) (a b : Int)
@[simp] theorem y1a : y9 .add (.int k a) (.int k b) = some (.int k (k.wrap (a + b))) := by simp [y9, y3t, y5r]
@[simp] theorem yae : y9 .sub (.int k a) (.int k b) = some (.int k (k.wrap (a - b))) := by simp [y9, y3t, y5r]
@[simp] theorem y17i : y9 .mul (.int k a) (.int k b) = some (.int k (k.wrap (a * b))) := by simp [y9, y3t, y5r]
@[simp] theorem y10 : y9 .eql (.int k a) (.int k b) = some (.bool (decide (a = b))) := by simp [y9, y3t, y5r, Bool.beq_eq_decide_eq]
@[simp] theorem y4y : y9 .neq (.int k a) (.int k b) = some (.bool (decide (a ≠ b))) := by simp [y9, y3t, y5r, bne, Bool.beq_eq_decide_eq]
@[simp] theorem yh : y9 .lss (.int k a) (.int k b) = some (.bool (decide (a < b))) := by simp [y9, y3t, y5r]
@[simp] theorem yas : y9 .leq (.int k a) (.int k b) = some (.bool (decide (a ≤ b))) := by simp [y9, y3t, y5r]
@[simp] theorem y4f : y9 .gtr (.int k a) (.int k b) = some (.bool (decide (b < a))) := by simp [y9, y3t, y5r]
@[simp] theorem ybd : y9 .geq (.int k a) (.int k b) = some (.bool (decide (b ≤ a))) := by simp [y9, y3t, y5r]
end ints
@[simp] theorem y2h (a b : List UInt8) : y9 .eql (.str a) (.str b) = some (.bool (decide (a = b))) := by simp [y9, yji, Bool.beq_eq_decide_eq]
@[simp] theorem y3i (a b : List UInt8) : y9 .neq (.str a) (.str b) = some (.bool (decide (a ≠ b))) := by simp [y9, yji, Bool.beq_eq_decide_eq]
theorem yeg {n : Int} (h0 : -9223372036854775808 ≤ n) (h1 : n < 9223372036854775808) : IntKind.wrap .i64 n = n := by
  simp [IntKind.wrap, IntKind.bits, IntKind.signed]; omega
theorem yor {i n : Nat} (h : i < n) (hn : n ≤ 9223372036854775807) : IntKind.wrap .i64 ((i : Int) + 1) = ((i + 1 : Nat) : Int) := by
  rw [yeg] <;> omega
theorem y38 {i n : Nat} (h : i < n) (hn : n ≤ 9223372036854775807) : IntKind.wrap .i64 ((i : Int) + 1) = (i : Int) + 1 := by rw [yor h hn]; rfl
theorem ypk {n : Nat} (h : 0 < n) (hn : n ≤ 9223372036854775807) : IntKind.wrap .i64 ((n : Int) - 1) = ((n - 1 : Nat) : Int) := by
  rw [yeg] <;> omega
@[simp] theorem yhh (k : Nat) (cs : List AV) : evFa k (.rp cs) = some (.rp (cs.drop k)) := rfl
@[simp] theorem y1o (k id g i o : Nat) : evFa k (.lp id g i o) = some (.lp id g i (o + k)) := rfl
@[simp] theorem y3r (agg : Bool) (n : Nat) (cs : List AV) (h : Heap) : evLd agg n (.rp cs) h = y4c agg n cs := rfl
@[simp] theorem y7c (n : Nat) (cs : List AV) : y4c false n cs = cs.head? := rfl
@[simp] theorem yhq (cs : List AV) : cellsOf (.agg cs) = cs := rfl
@[simp] theorem y16h (k : IntKind) (n : Int) : cellsOf (.int k n) = [.int k n] := rfl
@[simp] theorem y0i (b : Bool) : cellsOf (.bool b) = [.bool b] := rfl
@[simp] theorem y13w (s : List UInt8) : cellsOf (.str s) = [.str s] := rfl
@[simp] theorem y0m : cellsOf .nils = [.nils] := rfl
@[simp] theorem y16r (es : Nat) (rows : List (List AV)) : cellsOf (.rs es rows) = [.rs es rows] := rfl
@[simp] theorem y171 (id g es off len : Nat) : cellsOf (.ls id g es off len) = [.ls id g es off len] := rfl
class Cel (α : Type) where
  es : Nat
  enc : α → List AV
  len : ∀ x, (enc x).length = es
  pur : ∀ x, (enc x).all pure1 = true
  leaf : ∀ x, (enc x).all yk = true
open Cel
instance : Cel Int := ⟨1, fun n => [.int .i64 n], fun _ => rfl, fun _ => rfl, fun _ => rfl⟩
instance : Cel Bool := ⟨1, fun b => [.bool b], fun _ => rfl, fun _ => rfl, fun _ => rfl⟩
structure Tx where
  s : List UInt8
  deriving DecidableEq, Inhabited
instance : Cel Tx := ⟨1, fun b => [.str b.s], fun _ => rfl, fun _ => rfl, fun _ => rfl⟩
@[simp] theorem y1cz (n : Int) : enc n = [.int .i64 n] := rfl
@[simp] theorem y1au (b : Bool) : enc b = [.bool b] := rfl
@[simp] theorem y1df (b : Tx) : enc b = [.str b.s] := rfl
@[simp] theorem y1dm : es Int = 1 := rfl
@[simp] theorem y1bd : es Bool = 1 := rfl
@[simp] theorem y142 : es Tx = 1 := rfl
variable {α : Type} [Cel α]
def scal (x : α) : Bool := (enc x).all yu
@[simp] theorem y1an (n : Int) : scal n = true := rfl
@[simp] theorem y199 (b : Bool) : scal b = true := rfl
@[simp] theorem y1be (b : Tx) : scal b = true := rfl
def lst (o : Option (List α)) : List α := o.getD []
omit [Cel α] in
@[simp] theorem y1av : lst (none : Option (List α)) = [] := rfl
omit [Cel α] in
@[simp] theorem yjz (L : List α) : lst (some L) = L := rfl
def slA : Option (List α) → AV
  | none => .nils
  | some L => .rs (es α) (L.map enc)
instance : Cel (Option (List α)) := ⟨1, fun o => [slA o], fun _ => rfl, fun o => by cases o <;> rfl, fun o => by cases o <;> rfl⟩
@[simp] theorem y1dk (o : Option (List α)) : enc o = [slA o] := rfl
@[simp] theorem y1eh : es (Option (List α)) = 1 := rfl
@[simp] theorem y18q (k : IntKind) (n : Int) : pure1 (.int k n) = true := rfl
@[simp] theorem y16t (b : Bool) : pure1 (.bool b) = true := rfl
@[simp] theorem y18p (b : List UInt8) : pure1 (.str b) = true := rfl
@[simp] theorem y16x : pure1 .nils = true := rfl
@[simp] theorem y1a3 (k : IntKind) (n : Int) : yk (.int k n) = true := rfl
@[simp] theorem y16n (b : Bool) : yk (.bool b) = true := rfl
@[simp] theorem y17q (b : List UInt8) : yk (.str b) = true := rfl
@[simp] theorem y16z : yk .nils = true := rfl
@[simp] theorem y1ah (es : Nat) (r : List (List AV)) : yk (.rs es r) = true := rfl
@[simp] theorem y1at (id g es off len : Nat) : yk (.ls id g es off len) = true := rfl
@[simp] theorem y1b0 (id g i o : Nat) : yk (.lp id g i o) = true := rfl
@[simp] theorem y130 (k : IntKind) (n : Int) : yu (.int k n) = true := rfl
@[simp] theorem y0t (b : Bool) : yu (.bool b) = true := rfl
@[simp] theorem y13e (b : List UInt8) : yu (.str b) = true := rfl
@[simp] theorem y119 : yu .nils = true := rfl
@[simp] theorem y16m (o : Option (List α)) : cellsOf (slA o) = [slA o] := by cases o <;> rfl
@[simp] theorem y1ay (o : Option (List α)) : yk (slA o) = true := by cases o <;> rfl
@[simp] theorem yx3 (o : Option (List α)) : pure1 (slA o) = true := by cases o <;> rfl
@[simp] theorem ynp (o : Option (List α)) : yu (slA o) = (lst o).isEmpty := by
  cases o with
  | none => rfl
  | some L => cases L <;> rfl
@[simp] theorem y2g (o : Option (List α)) (h : Heap) : y1j 1 (slA o) h = some (.int .i64 (lst o).length) := by cases o <;> simp [slA, y1j]
@[simp] theorem y8g (s : List UInt8) (h : Heap) : y1j 0 (.str s) h = some (.int .i64 s.length) := rfl
@[simp] theorem y9v (id g es off len : Nat) (h : Heap) : y1j 1 (.ls id g es off len) h = some (.int .i64 len) := rfl
@[simp] theorem y172 (h : Heap) : y1j 1 .nils h = some (.int .i64 0) := rfl
@[simp] theorem y1bh (id g i o : Nat) : ids1 (.lp id g i o) = [id] := rfl
@[simp] theorem y1d7 (id g es o l : Nat) : ids1 (.ls id g es o l) = [id] := rfl
@[simp] theorem y1bn (cs : List AV) : ids1 (.rp cs) = [] := rfl
@[simp] theorem y1aw (k : IntKind) (n : Int) : ids1 (.int k n) = [] := rfl
@[simp] theorem y1ax (s : List UInt8) : ids1 (.str s) = [] := rfl
@[simp] theorem y159 (o : Option (List α)) : ids1 (slA o) = [] := by cases o <;> rfl
@[simp] theorem yyd (neq : Bool) (o : Option (List α)) : y5t 1 neq (slA o) .nils = some (.bool (if neq then o.isSome else o.isNone)) := by
  cases o <;> cases neq <;> rfl
theorem yef {o : Option (List α)} {x : α} {i : Nat} (hx : (lst o)[i]? = some x) (k : IntKind) : y2m (es α) (slA o) (.int k i) = some (.rp (enc x)) := by
  cases o with
  | none => simp at hx
  | some L =>
    simp only [yjz] at hx
    simp [slA, y2m, hx]
@[simp] theorem y7w (o : Option (List α)) (h : Heap) : y19 h (es α) (slA o) = some ((lst o).map enc) := by
  cases o <;> simp [slA, y19]
@[simp] theorem y1d9 (o : Option (List α)) (h : Heap) : fz h yx (slA o) = some ⟨slA o, (lst o).isEmpty, []⟩ := by
  rw [y1b7 (yx3 o), ynp]
@[simp] theorem y174 (x : α) (h : Heap) : fz h yx (.agg (enc x)) = some ⟨.agg (enc x), scal x, []⟩ := y17n h (pur x)
theorem ybl (L : List α) : (L.map enc).all (·.all pure1) = true := by simp only [List.all_map, List.all_eq_true]; exact fun x _ => pur x
theorem yal (L : List α) : (L.map enc).all (·.all yu) = L.all scal := by simp only [List.all_map]; rfl
@[simp] theorem y162 (L : List α) (h : Heap) : yd (yd (fz h yx)) (L.map enc) = some ⟨L.map enc, L.all scal, []⟩ := by rw [ypy h (ybl L), yal]
@[simp] theorem y17u (L : List α) (h : Heap) : yd (yd (fz h 11)) (L.map enc) = some ⟨L.map enc, L.all scal, []⟩ := by rw [yql h (ybl L), yal]
@[simp] theorem y1bb (o : Option (List α)) : scal o = (lst o).isEmpty := by simp [scal]
@[simp] theorem y8f (L : List α) : (L.map (enc (α := α))).take L.length = L.map enc := by
  rw [List.take_of_length_le (by simp)]
@[simp] theorem y61 (x : α) : y4c true (es α) (enc x) = some (.agg (enc x)) := by
  simp only [y4c, if_true, len x, Nat.le_refl, if_pos]
  rw [List.take_of_length_le (by rw [len x]; exact Nat.le_refl _)]
@[simp] theorem y1as (x : α) : (∀ v, v ∈ enc x → yk v = true) ↔ True := by
  have := leaf x
  rw [List.all_eq_true] at this
  exact ⟨fun _ => trivial, fun _ => this⟩
theorem y7y (x : α) : (enc x).all yk = true := leaf x
@[simp] theorem y1ba (h : Heap) (k : IntKind) (n : Int) : fz h yx (.int k n) = some ⟨.int k n, true, []⟩ := rfl
@[simp] theorem y1b6 (h : Heap) (b : Bool) : fz h yx (.bool b) = some ⟨.bool b, true, []⟩ := rfl
@[simp] theorem y1cq (h : Heap) (b : List UInt8) : fz h yx (.str b) = some ⟨.str b, true, []⟩ := rfl
@[simp] theorem y1ao (h : Heap) : fz h yx .nils = some ⟨.nils, true, []⟩ := rfl
@[simp] theorem y16w (h : Heap) (k : IntKind) (n : Int) : yo h (.int k n) = some ⟨.int k n, [], true, [], []⟩ := rfl
@[simp] theorem y14x (h : Heap) (b : Bool) : yo h (.bool b) = some ⟨.bool b, [], true, [], []⟩ := rfl
@[simp] theorem y16y (h : Heap) (s : List UInt8) : yo h (.str s) = some ⟨.str s, [], true, [], []⟩ := rfl
@[simp] theorem y15f (h : Heap) : yo h .nils = some ⟨.nils, [], true, [], []⟩ := rfl
@[simp] theorem y1az (h : Heap) (o : Option (List α)) : yo h (slA o) = some ⟨slA o, [], (lst o).isEmpty, [], []⟩ := by
  cases o with
  | none => rfl
  | some L => simp [slA, yx1]
theorem y19e {v : AV} (hp : pure1 v = true) (h : Heap) (k : Nat) (os : List OC) : expo h (k + 1) v os = some ⟨v, os, yu v, [], []⟩ := by
  cases v <;> simp_all [expo, pure1]
theorem ym6 {cs : List AV} (h : Heap) (k : Nat) (os : List OC) (hp : cs.all pure1 = true) : y25 (expo h (k + 1)) cs os = some ⟨cs, os, cs.all yu, [], []⟩ := by
  induction cs with
  | nil => rfl
  | cons c cs ih =>
    simp only [List.all_cons, Bool.and_eq_true] at hp
    rw [y25, y19e hp.1]
    simp only [ih hp.2]
    rfl
theorem yw1 (h : Heap) (cs : List AV) : yo h (.agg cs) = match y25 (expo h 11) cs [] with
    | some r => if y2c r.xs r.fs then some ⟨.agg r.v, r.objs, r.fresh, [], []⟩ else none
    | none => none := by
  show (match (match y25 (expo h 11) cs [] with
    | some r => some (⟨.agg r.v, r.objs, r.fresh, r.xs, r.fs⟩ : Ex AV)
    | none => none) with
    | some r => if y2c r.xs r.fs then some (⟨r.v, r.objs, r.fresh, [], []⟩ : Ex AV) else none
    | none => none) = _
  cases y25 (expo h 11) cs [] <;> rfl
theorem ypa (h : Heap) (cs : List AV) : yo h (.tup cs) = match y25 (expo h 11) cs [] with
    | some r => if y2c r.xs r.fs then some ⟨.tup r.v, r.objs, r.fresh, [], []⟩ else none
    | none => none := by
  show (match (match y25 (expo h 11) cs [] with
    | some r => some (⟨.tup r.v, r.objs, r.fresh, r.xs, r.fs⟩ : Ex AV)
    | none => none) with
    | some r => if y2c r.xs r.fs then some (⟨r.v, r.objs, r.fresh, [], []⟩ : Ex AV) else none
    | none => none) = _
  cases y25 (expo h 11) cs [] <;> rfl
@[simp] theorem y1aa (h : Heap) (x : α) : yo h (.agg (enc x)) = some ⟨.agg (enc x), [], scal x, [], []⟩ := by
  rw [yw1, ym6 h 10 [] (pur x)]
  rfl
theorem yyw (h : Heap) (k : Nat) (x : α) (os : List OC) : expo h (k + 2) (.agg (enc x)) os = some ⟨.agg (enc x), os, scal x, [], []⟩ := by
  rw [expo, ym6 h k os (pur x)]
  rfl
theorem y11g (h : Heap) (k : Nat) (x : α) : fz h (k + 2) (.agg (enc x)) = some ⟨.agg (enc x), scal x, []⟩ := by
  rw [yaw, ya2 h k (pur x)]
  rfl
theorem y18f (h : Heap) (k id g es1 off len : Nat) : fz h (k + 1) (.ls id g es1 off len) = match yf h id g with
    | some (_, es, rows) => if es1 = es ∧ off + len ≤ rows.length then (match yd (yd (fz h k)) ((rows.drop off).take len) with
      | some r => some ⟨.rs es r.v, r.fresh, id :: r.ids⟩
      | none => none) else none
    | none => none := by
  rw [fz]
  rfl
theorem yxg (L : List α) (h : Heap) (k : Nat) : yd (yd (fz h (k + 1))) (L.map enc) = some ⟨L.map enc, L.all scal, []⟩ := by rw [y5l h k (ybl L), yal]
@[simp] theorem y51 {β γ : Type} (f : β → Option (Fz γ)) : yd f [] = some ⟨[], true, []⟩ := rfl
@[simp] theorem y1c {β γ : Type} (f : β → Option (Fz γ)) (x : β) (xs : List β) : yd f (x :: xs) = match f x, yd f xs with
    | some a, some b => some ⟨a.v :: b.v, a.fresh && b.fresh, a.ids ++ b.ids⟩
    | _, _ => none := rfl
end Go.Vm
namespace Go.Vm
open Cel
structure Ins where
  op : Int
  d : Int
  a : Int
  b : Int
  c : Int
  n : Int
  t : Int
  s : List UInt8
  args : Option (List Int)
  deriving DecidableEq, Inhabited
structure Row where
  f : Int
  t : Int
  at_ : Int
  c : List UInt8
  deriving DecidableEq, Inhabited
structure Fn where
  regs : Option (List Int)
  params : Option (List Int)
  ret : Int
  code : Option (List Ins)
  rows : Option (List Row)
  deriving DecidableEq, Inhabited
instance : Cel Ins := ⟨9, fun x => [.int .i64 x.op, .int .i64 x.d, .int .i64 x.a, .int .i64 x.b, .int .i64 x.c, .int .i64 x.n, .int .i64 x.t, .str x.s, slA x.args], fun _ => rfl,
  fun x => by simp, fun x => by simp⟩
instance : Cel Row := ⟨4, fun x => [.int .i64 x.f, .int .i64 x.t, .int .i64 x.at_, .str x.c], fun _ => rfl, fun x => rfl, fun x => rfl⟩
instance : Cel Fn := ⟨5, fun x => [slA x.regs, slA x.params, .int .i64 x.ret, slA x.code, slA x.rows], fun _ => rfl, fun x => by simp, fun x => by simp⟩
@[simp] theorem y1e0 : es Ins = 9 := rfl
@[simp] theorem y1dy : es Row = 4 := rfl
@[simp] theorem y1ef : es Fn = 5 := rfl
section
variable (x : Ins) (r : Row) (f : Fn)
@[simp high] theorem ins0 : (enc x).head? = some (.int .i64 x.op) := rfl
@[simp high] theorem y1er : (enc x)[0]? = some (.int .i64 x.op) := rfl
@[simp high] theorem ins1 : ((enc x).drop 1).head? = some (.int .i64 x.d) := rfl
@[simp high] theorem y1e7 : (enc x)[1]? = some (.int .i64 x.d) := rfl
@[simp high] theorem ins2 : ((enc x).drop 2).head? = some (.int .i64 x.a) := rfl
@[simp high] theorem y1e8 : (enc x)[2]? = some (.int .i64 x.a) := rfl
@[simp high] theorem ins3 : ((enc x).drop 3).head? = some (.int .i64 x.b) := rfl
@[simp high] theorem y1ek : (enc x)[3]? = some (.int .i64 x.b) := rfl
@[simp high] theorem ins4 : ((enc x).drop 4).head? = some (.int .i64 x.c) := rfl
@[simp high] theorem y1ej : (enc x)[4]? = some (.int .i64 x.c) := rfl
@[simp high] theorem ins5 : ((enc x).drop 5).head? = some (.int .i64 x.n) := rfl
@[simp high] theorem y1e3 : (enc x)[5]? = some (.int .i64 x.n) := rfl
@[simp high] theorem ins6 : ((enc x).drop 6).head? = some (.int .i64 x.t) := rfl
@[simp high] theorem y1eq : (enc x)[6]? = some (.int .i64 x.t) := rfl
@[simp high] theorem ins7 : ((enc x).drop 7).head? = some (.str x.s) := rfl
@[simp high] theorem y1ec : (enc x)[7]? = some (.str x.s) := rfl
@[simp high] theorem ins8 : ((enc x).drop 8).head? = some (slA x.args) := rfl
@[simp high] theorem y1ee : (enc x)[8]? = some (slA x.args) := rfl
@[simp high] theorem row0 : (enc r).head? = some (.int .i64 r.f) := rfl
@[simp high] theorem y1e5 : (enc r)[0]? = some (.int .i64 r.f) := rfl
@[simp high] theorem row1 : ((enc r).drop 1).head? = some (.int .i64 r.t) := rfl
@[simp high] theorem y1eg : (enc r)[1]? = some (.int .i64 r.t) := rfl
@[simp high] theorem row2 : ((enc r).drop 2).head? = some (.int .i64 r.at_) := rfl
@[simp high] theorem y1em : (enc r)[2]? = some (.int .i64 r.at_) := rfl
@[simp high] theorem row3 : ((enc r).drop 3).head? = some (.str r.c) := rfl
@[simp high] theorem y1eo : (enc r)[3]? = some (.str r.c) := rfl
@[simp high] theorem fn0 : (enc f).head? = some (slA f.regs) := rfl
@[simp high] theorem fn0q : (enc f)[0]? = some (slA f.regs) := rfl
@[simp high] theorem fn1 : ((enc f).drop 1).head? = some (slA f.params) := rfl
@[simp high] theorem fn1q : (enc f)[1]? = some (slA f.params) := rfl
@[simp high] theorem fn2 : ((enc f).drop 2).head? = some (.int .i64 f.ret) := rfl
@[simp high] theorem fn2q : (enc f)[2]? = some (.int .i64 f.ret) := rfl
@[simp high] theorem fn3 : ((enc f).drop 3).head? = some (slA f.code) := rfl
@[simp high] theorem fn3q : (enc f)[3]? = some (slA f.code) := rfl
@[simp high] theorem fn4 : ((enc f).drop 4).head? = some (slA f.rows) := rfl
@[simp high] theorem fn4q : (enc f)[4]? = some (slA f.rows) := rfl
@[simp] theorem y1da : y4c true 9 (enc x) = some (.agg (enc x)) := y61 x
@[simp] theorem y1d5 : y4c true 4 (enc r) = some (.agg (enc r)) := y61 r
@[simp] theorem y1du : y4c true 5 (enc f) = some (.agg (enc f)) := y61 f
@[simp] theorem y1c3 : (enc x).length = 9 := rfl
@[simp] theorem y1bj : (enc r).length = 4 := rfl
@[simp] theorem y1dw : (enc f).length = 5 := rfl
@[simp] theorem y1aj : (enc x).all yk = true := y7y x
@[simp] theorem y1b3 : (enc r).all yk = true := y7y r
@[simp] theorem y1bq : (enc f).all yk = true := y7y f
end
@[simp] theorem y16p (o : Option (List Int)) (h : Heap) : y19 h 1 (slA o) = some ((lst o).map enc) := y7w o h
@[simp] theorem y16v (o : Option (List Ins)) (h : Heap) : y19 h 9 (slA o) = some ((lst o).map enc) := y7w o h
@[simp] theorem y16q (o : Option (List Row)) (h : Heap) : y19 h 4 (slA o) = some ((lst o).map enc) := y7w o h
def exO {α : Type} [Cel α] : Option (List α) → Ex AV
  | none => ⟨.nils, [], true, [], []⟩
  | some L => ⟨.ls 0 0 (es α) 0 L.length, [.arr false false (es α) (L.map enc)], L.all scal, [], []⟩
@[simp] theorem y175 {α : Type} [Cel α] (o : Option (List α)) : fz (y1n (exO o).objs) yx (exO o).v = some ⟨slA o, (lst o).all scal, match o with | none => [] | some _ => [0]⟩ := by
  cases o with
  | none => rfl
  | some L =>
    show fz [⟨0, .arr false false (es α) (L.map enc)⟩] yx (.ls 0 0 (es α) 0 L.length) = _
    rw [y1cm]
    simp [yf, y1z, slA]
@[simp] theorem y1ap {α : Type} [Cel α] (fb j : Nat) (L : List α) (h : Heap) : y2f fb (some j) (exO (some L)).objs [] h = match h[fb + j]? with
    | some o => some ([(fb + j, o.gen + 1)], h.set (fb + j) ⟨o.gen + 1, .arr false false (es α) (L.map enc)⟩)
    | none => none := by
  simp only [exO, y2f, y4s, okOC, if_true, place, List.nil_append]
  cases h[fb + j]? <;> rfl
@[simp] theorem y1ab {α : Type} [Cel α] (fb : Nat) (j : Option Nat) (h : Heap) : y2f fb j (exO (none : Option (List α))).objs [] h = some ([], h) := rfl
@[simp] theorem y1ai {α : Type} [Cel α] (id g : Nat) (L : List α) : reloc [(id, g)] (exO (some L)).v = .ls id g (es α) 0 L.length := rfl
@[simp] theorem y17y {α : Type} [Cel α] (tab : List (Nat × Nat)) : reloc tab (exO (none : Option (List α))).v = .nils := rfl
theorem yfu {α : Type} [Cel α] {h : Heap} {id g : Nat} {L : List α} (hr : yf h id g = some (false, es α, L.map enc)) : yo h (.ls id g (es α) 0 L.length) = some (exO (some L)) := by
  rw [yhf, hr]
  simp [exO]
attribute [simp] newC y4l y2k place
@[simp] theorem y1ak (g : Nat) (b f : Bool) (e : Nat) (r : List (List AV)) (t : Heap) : yf (⟨g, .arr b f e r⟩ :: t) 0 g = some (f, e, r) := by simp [yf, y1z]
@[simp] theorem y1ar (o : AO) (t : Heap) (i g : Nat) : yf (o :: t) (i + 1) g = yf t i g := rfl
@[simp] theorem y19u (g : Nat) (b f : Bool) (e : Nat) (r r' : List (List AV)) (t : Heap) : y1d (⟨g, .arr b f e r⟩ :: t) 0 r' = ⟨g, .arr b f e r'⟩ :: t := rfl
@[simp] theorem y191 (o : AO) (t : Heap) (i : Nat) (r : List (List AV)) : y1d (o :: t) (i + 1) r = o :: y1d t i r := by
  simp only [y1d, List.getElem?_cons_succ]
  split <;> simp_all
@[simp] theorem yht (n id g i off : Nat) (v : AV) (h : Heap) : evSt n (.lp id g i off) v h = match yf h id g with
    | some (false, _, rows) => match rows[i]? with
      | some row => if (cellsOf v).length = n ∧ off + n ≤ row.length ∧ (cellsOf v).all yk = true then some (.tup [], y1d h id (rows.set i (yt off (cellsOf v) row))) else none
      | none => none
    | _ => none := rfl
@[simp] theorem ycb {vs row : List AV} (h : row.length = vs.length) : yt 0 vs row = vs := by
  simp [yt, ← h]
section
variable (x : Ins) (n : Int) (s : List UInt8) (o : Option (List Int))
@[simp] theorem y1bu : yt 0 [.int .i64 n] (enc x) = enc { x with op := n } := rfl
@[simp] theorem y1cs : yt 1 [.int .i64 n] (enc x) = enc { x with d := n } := rfl
@[simp] theorem y1bf : yt 2 [.int .i64 n] (enc x) = enc { x with a := n } := rfl
@[simp] theorem y1b9 : yt 3 [.int .i64 n] (enc x) = enc { x with b := n } := rfl
@[simp] theorem y1cn : yt 4 [.int .i64 n] (enc x) = enc { x with c := n } := rfl
@[simp] theorem y1cp : yt 5 [.int .i64 n] (enc x) = enc { x with n := n } := rfl
@[simp] theorem y1bo : yt 6 [.int .i64 n] (enc x) = enc { x with t := n } := rfl
@[simp] theorem y1bi : yt 7 [.str s] (enc x) = enc { x with s := s } := rfl
@[simp] theorem y1cx : yt 8 [slA o] (enc x) = enc { x with args := o } := rfl
end
def ycx (x : Ins) (v : AV) : List AV := [.int .i64 x.op, .int .i64 x.d, .int .i64 x.a, .int .i64 x.b, .int .i64 x.c, .int .i64 x.n, .int .i64 x.t, .str x.s, v]
@[simp] theorem y1b2 (x : Ins) (id g es off len : Nat) : yt 8 [.ls id g es off len] (enc x) = ycx x (.ls id g es off len) := rfl
@[simp] theorem y1b1 (x : Ins) : yt 8 [.nils] (enc x) = enc { x with args := none } := rfl
@[simp] theorem y16s (x : Ins) (v : AV) : (ycx x v).length = 9 := rfl
@[simp] theorem y16u (x : Ins) (v : AV) : y4c true 9 (ycx x v) = some (.agg (ycx x v)) := rfl
@[simp] theorem y16o (x : Ins) (w : AV) : (∀ v, v ∈ ycx x w → yk v = true) ↔ yk w = true := by simp [ycx]
def yh7 (r : Ex AV) (v : AV) : Prop := ∃ q, fz (y1n r.objs) yx r.v = some q ∧ q.v = v
@[simp] theorem y6i (agg : Bool) (n id g i off : Nat) (h : Heap) : evLd agg n (.lp id g i off) h = match yf h id g with
    | some (_, _, rows) => match rows[i]? with
      | some row => y4c agg n (row.drop off)
      | none => none
    | none => none := rfl
end Go.Vm
namespace Go.Vm
open Cel
def inI (n : Int) : Prop := -9223372036854775808 ≤ n ∧ n ≤ 9223372036854775807
abbrev tyI : Ty := .int .i64
theorem yac {cs : List AV} (h : tyI.has cs) : ∃ n : Int, cs = [.int .i64 n] ∧ inI n := by
  obtain ⟨n, rfl, h1, h2⟩ := h
  exact ⟨n, rfl, by simpa [IntKind.min, IntKind.max, IntKind.signed, IntKind.bits] using h1, by simpa [IntKind.min, IntKind.max, IntKind.signed, IntKind.bits] using h2⟩
theorem yc2 {cs : List AV} (h : Ty.str.has cs) : ∃ s : List UInt8, cs = [.str s] ∧ s.length ≤ reachBytes := h
theorem ym2 {α : Type} [Cel α] {T : Ty} {Q : α → Prop} (hT : ∀ row, T.has row → ∃ x : α, row = enc x ∧ Q x) : ∀ (rows : List (List AV)), (∀ row, row ∈ rows → T.has row) → ∃ L : List α, rows = L.map enc ∧ ∀ x ∈ L, Q x
  | [], _ => ⟨[], rfl, fun x h => by cases h⟩
  | r :: rows, h => by
    obtain ⟨L, rfl, hL⟩ := ym2 hT rows (fun row hr => h row (by simp [hr]))
    obtain ⟨x, rfl, hx⟩ := hT r (h r (by simp))
    refine ⟨x :: L, rfl, fun y hy => ?_⟩
    rcases List.mem_cons.1 hy with rfl | hy
    · exact hx
    · exact hL y hy
theorem y9a {α : Type} [Cel α] {T : Ty} {Q : α → Prop} (hT : ∀ row, T.has row → ∃ x : α, row = enc x ∧ Q x) {cs : List AV} (h : (Ty.slice (es α) T).has cs) : ∃ o : Option (List α), cs = [slA o] ∧ (lst o).length ≤ maxLen ∧ (lst o).length * T.bytes ≤ reachBytes ∧ ∀ x ∈ lst o, Q x := by
  rcases h with rfl | ⟨rows, rfl, hl, hz, hr⟩
  · exact ⟨none, rfl, Nat.zero_le _, by simp, fun x h => by cases h⟩
  · obtain ⟨L, rfl, hL⟩ := ym2 hT rows hr
    exact ⟨some L, rfl, by simpa using hl, by simpa using hz, hL⟩
abbrev y15h : Ty := .struct (.sCons tyI (.sCons tyI (.sCons tyI (.sCons .str .sNil))))
structure InsOk (x : Ins) : Prop where
  op : inI x.op
  d : inI x.d
  a : inI x.a
  b : inI x.b
  c : inI x.c
  n : inI x.n
  t : inI x.t
  s : x.s.length ≤ reachBytes
  len : (lst x.args).length * 8 ≤ reachBytes
  args : ∀ r ∈ lst x.args, inI r
structure RowOk (r : Row) : Prop where
  f : inI r.f
  t : inI r.t
  a : inI r.at_
  c : r.c.length ≤ reachBytes
structure FnIn (f : Fn) : Prop where
  regs : (lst f.regs).length * 8 ≤ reachBytes
  regI : ∀ x ∈ lst f.regs, inI x
  params : (lst f.params).length * 8 ≤ reachBytes
  parI : ∀ x ∈ lst f.params, inI x
  ret : inI f.ret
  code : (lst f.code).length * 96 ≤ reachBytes
  insI : ∀ x ∈ lst f.code, InsOk x
  rows : (lst f.rows).length * 40 ≤ reachBytes
  rowI : ∀ x ∈ lst f.rows, RowOk x
theorem y169 {cs : List AV} (h : y15h.has cs) : ∃ x : Row, cs = enc x ∧ RowOk x := by
  obtain ⟨_, _, rfl, h1, _, _, rfl, h2, _, _, rfl, h3, _, _, rfl, h8, rfl⟩ := h
  obtain ⟨f, rfl, k1⟩ := yac h1
  obtain ⟨t, rfl, k2⟩ := yac h2
  obtain ⟨a, rfl, k3⟩ := yac h3
  obtain ⟨s, rfl, k8⟩ := yc2 h8
  exact ⟨⟨f, t, a, s⟩, rfl, ⟨k1, k2, k3, k8⟩⟩
end Go.Vm
namespace Go.Vm
abbrev Txt := List UInt8
def sObj : Txt := [79, 98, 106, 101, 99, 116]
def y29 (s : Txt) : Txt := if 2 < s.length ∧ s.head? = some 76 ∧ s.getLast? = some 59 then (s.drop 1).dropLast else []
def y21 (s : Txt) : Txt := if 1 < s.length ∧ s.head? = some 91 then s.drop 1 else []
def ydi (s : Txt) : Int := if s = [73] then 1 else if s = [74] then 2 else if s = [78] ∨ s.head? = some 76 ∨ s.head? = some 91 then 3 else 0
section
variable (up : Txt → Txt → Bool)
def yo3 : Nat → Txt → Txt → Bool
  | 0, _, _ => false
  | n + 1, a, b =>
    if b = [] then true else if a = [] then false else if a = b then true else if a = [78] then decide (ydi b = 3) else
    if y29 b ≠ [] then (if a.head? = some 91 then decide (y29 b = sObj) else decide (y29 a ≠ []) && up (y29 a) (y29 b))
    else decide (y21 a ≠ []) && decide (y21 b ≠ []) && decide (ydi (y21 a) = 3) && yo3 n (y21 a) (y21 b)
def yn7 (a b : Txt) : Bool := yo3 up (a.length + 1) a b
theorem ydp {s : Txt} (h : y21 s ≠ []) : (y21 s).length + 1 = s.length ∧ s.head? = some 91 ∧ 1 < s.length := by
  unfold y21 at h ⊢
  split at h
  · rename_i hc
    rw [if_pos hc, List.length_drop]
    exact ⟨by omega, hc.2, hc.1⟩
  · exact (h rfl).elim
theorem yk1 : ∀ (n m : Nat) (a b : Txt), a.length < n → a.length < m → yo3 up n a b = yo3 up m a b
  | 0, _, _, _, h, _ => by omega
  | _ + 1, 0, _, _, _, h => by omega
  | n + 1, m + 1, a, b, h1, h2 => by
    unfold yo3
    by_cases he : y21 a ≠ []
    · have hl := (ydp he).1
      rw [yk1 n m (y21 a) (y21 b) (by omega) (by omega)]
    · rw [decide_eq_false he]
      simp only [Bool.false_and]
theorem yjy (a b : Txt) : yn7 up a b = (if b = [] then true else if a = [] then false else if a = b then true else if a = [78] then decide (ydi b = 3) else
    if y29 b ≠ [] then (if a.head? = some 91 then decide (y29 b = sObj) else decide (y29 a ≠ []) && up (y29 a) (y29 b))
    else decide (y21 a ≠ []) && decide (y21 b ≠ []) && decide (ydi (y21 a) = 3) && yn7 up (y21 a) (y21 b)) := by
  conv => lhs; unfold yn7 yo3
  by_cases he : y21 a ≠ []
  · have hl := (ydp he).1
    rw [yk1 up a.length ((y21 a).length + 1) (y21 a) (y21 b) (by omega) (by omega)]
    rfl
  · rw [decide_eq_false he]
    simp only [Bool.false_and]
end
end Go.Vm
namespace Go.Vm
open Cel
attribute [local simp] y7 y4i ydc
theorem yc5 (a b : UInt8) : decide ((a.toNat : Int) = (b.toNat : Int)) = decide (a = b) := by
  rw [Bool.eq_iff_iff]
  simp only [decide_eq_true_eq]
  constructor
  · intro h
    exact UInt8.toNat_inj.1 (by omega)
  · rintro rfl; rfl
@[simp] theorem y173 (a : UInt8) : decide ((a.toNat : Int) = 76) = decide (a = 76) := yc5 a 76
@[simp] theorem y152 (a : UInt8) : decide ((a.toNat : Int) = 91) = decide (a = 91) := yc5 a 91
@[simp] theorem y1ck (a : UInt8) : decide ((a.toNat : Int) = 59) = decide (a = 59) := yc5 a 59
@[simp] theorem y1et (a : UInt8) : decide ((a.toNat : Int) = 73) = decide (a = 73) := yc5 a 73
@[simp] theorem y1eu (a : UInt8) : decide ((a.toNat : Int) = 74) = decide (a = 74) := yc5 a 74
theorem yjl {s : Txt} {i : Nat} {b : UInt8} (h : s[i]? = some b) (k : IntKind) : y3c (.str s) (.int k i) = some (.int .u8 b.toNat) := by
  simp [y3c, h]
theorem y79 (a : UInt8) (s : Txt) (k : IntKind) : y3c (.str (a :: s)) (.int k 0) = some (.int .u8 a.toNat) := yjl (i := 0) rfl k
theorem yzs {s : Txt} {i : Nat} (h : i ≤ s.length) (k : IntKind) : yek (.str s) (some (.int k i)) none = some (.str (s.drop i)) := by
  simp [yek, y94, yia, h]
theorem y17p {s : Txt} {i j : Nat} (h : i ≤ j) (h2 : j ≤ s.length) (k k' : IntKind) : yek (.str s) (some (.int k i)) (some (.int k' j)) = some (.str ((s.take j).drop i)) := by
  simp [yek, y94, yia, h, h2]
abbrev Sm (s : Txt) : Prop := s.length ≤ 9223372036854775806
theorem y14b {s : Txt} (h : 2 < s.length) : ∃ a m z, s = a :: (m ++ [z]) ∧ m ≠ [] := by
  obtain ⟨a, r, rfl⟩ := List.exists_cons_of_ne_nil (l := s) (by intro e; rw [e] at h; simp at h)
  have hr : r ≠ [] := by intro e; rw [e] at h; simp at h
  refine ⟨a, r.dropLast, r.getLast hr, by rw [List.dropLast_concat_getLast], ?_⟩
  intro e
  have := congrArg List.length e
  simp at this h
  omega
theorem yu6 (a : UInt8) (m : Txt) (z : UInt8) (hm : m ≠ []) : y29 (a :: (m ++ [z])) = if a = 76 ∧ z = 59 then m else [] := by
  have : 0 < m.length := List.length_pos_iff.2 hm
  unfold y29
  have e1 : (a :: (m ++ [z])).getLast? = some z := by
    rw [← List.cons_append, List.getLast?_concat]
  rw [e1]
  simp only [List.length_cons, List.length_append, List.length_nil, List.head?_cons, Option.some.injEq, List.drop_one, List.tail_cons, List.dropLast_concat]
  by_cases h : a = 76 ∧ z = 59
  · rw [if_pos h, if_pos ⟨by omega, h.1, h.2⟩]
  · rw [if_neg h, if_neg (fun e => h ⟨e.2.1, e.2.2⟩)]
theorem y16e (s : Txt) (hs : Sm s) : (y8 E).p 35 [.str s] = some ⟨.str (y29 s), [], true, [], []⟩ := by
  rw [x_q3]
  by_cases h : 2 < s.length
  · obtain ⟨a, m, z, rfl, hm⟩ := y14b h
    have hl : (a :: (m ++ [z])).length = m.length + 2 := by simp
    unfold Sm at hs
    rw [hl] at hs
    rw [yu6 a m z hm]
    have hc : (2 : Int) < ((m.length + 2 : Nat) : Int) := by have := List.length_pos_iff.2 hm; omega
    have hw : IntKind.wrap .i64 (((m.length + 2 : Nat) : Int) - 1) = ((m.length + 1 : Nat) : Int) := by rw [ypk (by omega) (by omega)]; simp
    have ix : y3c (.str (a :: (m ++ [z]))) (.int .i64 ((m.length + 1 : Nat) : Int)) = some (.int .u8 z.toNat) := yjl (by simp) .i64
    have sl : yek (.str (a :: (m ++ [z]))) (some (.int .i64 1)) (some (.int .i64 ((m.length + 1 : Nat) : Int))) = some (.str m) := by
      have := y17p (s := a :: (m ++ [z])) (i := 1) (j := m.length + 1) (by omega) (by simp) .i64 .i64
      rw [show ((1 : Nat) : Int) = 1 from rfl] at this
      rw [this]
      simp
    unfold q3_3 q3_2
    rw [y8g, hl]
    simp only [y5, y4f, hc, decide_true, y4h, y79, y10, y173]
    by_cases h1 : a = 76
    · simp only [h1, decide_true, yr, y5, y4h, yae, hw, true_and]
      rw [h1] at ix sl
      simp only [ix, y5, y10, y1ck]
      by_cases h2 : z = 59
      · simp only [h2, decide_true, y22, if_true, yae, y5, hw]
        rw [h2] at sl
        rw [sl]
        simp
      · simp only [h2, decide_false, y14, if_false]
        simp [q3_1]
    · simp only [h1, decide_false, yr, y5, yc6, yz, y14, false_and, if_false]
      simp [q3_1]
  · have hc : ¬ (2 : Int) < (s.length : Int) := by omega
    have e : y29 s = [] := by unfold y29; rw [if_neg (fun q => h q.1)]
    rw [e]
    simp [q3_3, q3_2, q3_1, hc]
theorem yp3 (s : Txt) : (y8 E).p 36 [.str s] = some ⟨.str (y21 s), [], true, [], []⟩ := by
  rw [x_q4]
  match s with
  | [] => simp [y21, q4_3, q4_2, q4_1]
  | [a] => simp [y21, q4_3, q4_2, q4_1]
  | a :: b :: m =>
    have hc : (1 : Int) < ((a :: b :: m).length : Int) := by simp; omega
    have sl := yzs (s := a :: b :: m) (i := 1) (by simp) .i64
    rw [show ((1 : Nat) : Int) = 1 from rfl] at sl
    have e : y21 (a :: b :: m) = if a = 91 then b :: m else [] := by
      unfold y21
      simp
    rw [e]
    unfold q4_3 q4_2
    by_cases h1 : a = 91
    · subst h1
      simp only [y8g, y5, y4f, hc, decide_true, y4h, y79, y10, y152, yr, y22, if_true]
      rw [sl]
      simp
    · simp only [y8g, y5, y4f, hc, decide_true, y4h, y79, y10, y152, h1, decide_false, yr, y14, if_false]
      simp [q4_1]
theorem y182 (s : Txt) : (y8 E).p 34 [.str s] = some ⟨.int .i64 (ydi s), [], true, [], []⟩ := by
  rw [x_q5]
  unfold q5_3 q5_2
  by_cases h1 : s = [73]
  · rw [h1]; rfl
  by_cases h2 : s = [74]
  · rw [h2]; rfl
  by_cases h3 : s = [78]
  · rw [h3]; rfl
  have e : ydi s = if s.head? = some 76 ∨ s.head? = some 91 then 3 else 0 := by
    unfold ydi
    rw [if_neg h1, if_neg h2]
    simp only [h3, false_or]
  rw [e]
  simp only [y2h, h1, h2, h3, decide_false, y5, y14, y4x, y3i]
  cases s with
  | nil => simp [q5_1]
  | cons a m =>
    simp only [ne_eq, reduceCtorEq, not_false_eq_true, decide_true, y5, y4x, y4h, y79, y10, y173, List.head?_cons, Option.some.injEq]
    by_cases h4 : a = 76
    · simp [h4]
    · by_cases h5 : a = 91
      · simp [h5, y79]
      · simp [h4, h5, y79, q5_1]
def okC (m : Bool) (b : UInt8) : Bool := decide (97 ≤ b ∧ b ≤ 122) || decide (65 ≤ b ∧ b ≤ 90) || decide (48 ≤ b ∧ b ≤ 57) || decide (b = 95) || decide (b = 36) || decide (b = 47) || (m && (decide (b = 60) || decide (b = 62)))
def ybt (m : Bool) (s : Txt) : Bool := decide (1 ≤ s.length) && decide (s.length ≤ 60) && s.all (okC m)
theorem ynm (a b : UInt8) : decide ((a.toNat : Int) ≤ (b.toNat : Int)) = decide (a ≤ b) := by
  rw [Bool.eq_iff_iff]
  simp only [decide_eq_true_eq, UInt8.le_iff_toNat_le]
  omega
theorem yrx (m : Bool) (v17 v18 v19 : AV) (b : UInt8) (h : Heap) (hx : (match y2m 1 v17 v19 with | some a => evLd false 1 a h | none => none) = some (.int .u8 b.toNat)) :
    q6_4 (.bool m) v17 v18 v19 h = if okC m b then q6_3 (.bool m) v17 v18 v19 h else some ⟨.bool false, [], true, [], []⟩ := by
  cases hi : y2m 1 v17 v19 with
  | none => rw [hi] at hx; cases hx
  | some a =>
    rw [hi] at hx
    simp only at hx
    unfold q6_4
    have f97 : y9 .geq (.int .u8 b.toNat) (.int .u8 97) = some (.bool (decide (97 ≤ b))) := by rw [ybd]; exact congrArg (fun q => some (AV.bool q)) (ynm 97 b)
    have f122 : y9 .leq (.int .u8 b.toNat) (.int .u8 122) = some (.bool (decide (b ≤ 122))) := by rw [yas]; exact congrArg (fun q => some (AV.bool q)) (ynm b 122)
    have f65 : y9 .geq (.int .u8 b.toNat) (.int .u8 65) = some (.bool (decide (65 ≤ b))) := by rw [ybd]; exact congrArg (fun q => some (AV.bool q)) (ynm 65 b)
    have f90 : y9 .leq (.int .u8 b.toNat) (.int .u8 90) = some (.bool (decide (b ≤ 90))) := by rw [yas]; exact congrArg (fun q => some (AV.bool q)) (ynm b 90)
    have f48 : y9 .geq (.int .u8 b.toNat) (.int .u8 48) = some (.bool (decide (48 ≤ b))) := by rw [ybd]; exact congrArg (fun q => some (AV.bool q)) (ynm 48 b)
    have f57 : y9 .leq (.int .u8 b.toNat) (.int .u8 57) = some (.bool (decide (b ≤ 57))) := by rw [yas]; exact congrArg (fun q => some (AV.bool q)) (ynm b 57)
    have f95 : y9 .eql (.int .u8 b.toNat) (.int .u8 95) = some (.bool (decide (b = 95))) := by rw [y10]; exact congrArg (fun q => some (AV.bool q)) (yc5 b 95)
    have f36 : y9 .eql (.int .u8 b.toNat) (.int .u8 36) = some (.bool (decide (b = 36))) := by rw [y10]; exact congrArg (fun q => some (AV.bool q)) (yc5 b 36)
    have f47 : y9 .eql (.int .u8 b.toNat) (.int .u8 47) = some (.bool (decide (b = 47))) := by rw [y10]; exact congrArg (fun q => some (AV.bool q)) (yc5 b 47)
    have f60 : y9 .eql (.int .u8 b.toNat) (.int .u8 60) = some (.bool (decide (b = 60))) := by rw [y10]; exact congrArg (fun q => some (AV.bool q)) (yc5 b 60)
    have f62 : y9 .eql (.int .u8 b.toNat) (.int .u8 62) = some (.bool (decide (b = 62))) := by rw [y10]; exact congrArg (fun q => some (AV.bool q)) (yc5 b 62)
    have eo : okC m b = ((decide (97 ≤ b) && decide (b ≤ 122)) || (decide (65 ≤ b) && decide (b ≤ 90)) || (decide (48 ≤ b) && decide (b ≤ 57)) || decide (b = 95) || decide (b = 36) || decide (b = 47) || (m && (decide (b = 60) || decide (b = 62)))) := by
      unfold okC
      simp only [Bool.decide_and]
    rw [eo]
    simp only [hi, y5, hx]
    generalize decide (97 ≤ b) = q1 at f97 ⊢
    generalize decide (b ≤ 122) = q2 at f122 ⊢
    generalize decide (65 ≤ b) = q3 at f65 ⊢
    generalize decide (b ≤ 90) = q4 at f90 ⊢
    generalize decide (48 ≤ b) = q5 at f48 ⊢
    generalize decide (b ≤ 57) = q6 at f57 ⊢
    generalize decide (b = 95) = q7 at f95 ⊢
    generalize decide (b = 36) = q8 at f36 ⊢
    generalize decide (b = 47) = q9 at f47 ⊢
    generalize decide (b = 60) = q10 at f60 ⊢
    generalize decide (b = 62) = q11 at f62 ⊢
    cases q1 <;> cases q2 <;> simp only [f97, f122, y4h, y4x, y7o, yc6, y9b, y5, yr, yz] <;> first | rfl | skip
    all_goals (cases q3 <;> cases q4 <;> simp only [f65, f90, y4h, y4x, y7o, yc6, y9b, y5, yr, yz] <;> first | rfl | skip)
    all_goals (cases q5 <;> cases q6 <;> simp only [f48, f57, y4h, y4x, y7o, yc6, y9b, y5, yr, yz] <;> first | rfl | skip)
    all_goals (cases q7 <;> simp only [f95, y4h, y4x, y7o, yc6, y9b, y5, yr, yz] <;> first | rfl | skip)
    all_goals (cases q8 <;> simp only [f36, y4h, y4x, y7o, yc6, y9b, y5, yr, yz] <;> first | rfl | skip)
    all_goals (cases q9 <;> simp only [f47, y1r, Bool.not_true, Bool.not_false, y4h, y4x, y7o, yc6, y9b, y5, yr, yz] <;> first | rfl | skip)
    all_goals (cases m <;> first | rfl | (cases q10 <;> cases q11 <;> simp only [f60, f62, y1r, Bool.not_true, Bool.not_false, y4h, y4x, y7o, yc6, y9b, y5, yr, yz] <;> rfl))
end Go.Vm
namespace Go.Vm
open Cel
def nz {α : Type} : List α → Option (List α)
  | [] => none
  | x :: L => some (x :: L)
@[simp] theorem ytq {α : Type} (L : List α) : lst (nz L) = L := by cases L <;> rfl
section
variable {α : Type} [Cel α]
def y3a (α : Type) [Cel α] (j g : Nat) : List α → AV
  | [] => .nils
  | _ :: L => .ls j g (es α) 0 (L.length + 1)
def y5u (g : Nat) (o : AO) : List α → AO
  | [] => o
  | x :: L => ⟨g, .arr false false (es α) ((x :: L).map enc)⟩
@[simp] theorem yay (j g : Nat) : y3a α j g [] = .nils := rfl
@[simp] theorem y18l (g : Nat) (o : AO) : y5u g o ([] : List α) = o := rfl
@[simp] theorem yni (j g : Nat) (L : List α) (H : Heap) : y1j 1 (y3a α j g L) H = some (.int .i64 L.length) := by
  cases L <;> simp [y3a, y1j]
@[simp] theorem yf0 (j g : Nat) (L : List α) : cellsOf (y3a α j g L) = [y3a α j g L] := by cases L <;> rfl
@[simp] theorem y170 (j g : Nat) (L : List α) : yk (y3a α j g L) = true := by cases L <;> rfl
theorem ye0 {H : Heap} {fb j g b : Nat} {o : AO} {y : AV} {L M : List α} (hy : y19 H (es α) y = some (M.map enc)) (h : H[fb + j]? = some (y5u g o L)) (hs : (2 * (L.length + M.length) + 512) * b ≤ 2 ^ 48) :
    ∃ g', y2t fb (some j) (es α) b (y3a α (fb + j) g L) y H = some (y3a α (fb + j) g' (L ++ M), H.set (fb + j) (y5u g' o (L ++ M))) := by
  unfold y2t
  rw [hy]
  have hlt : fb + j < H.length := (List.getElem?_eq_some_iff.1 h).1
  cases L with
  | nil =>
    cases M with
    | nil =>
      refine ⟨g, ?_⟩
      simp only [y3a, List.map_nil, List.isEmpty_nil, if_true, List.append_nil, y5u]
      rw [y5u] at h
      rw [show H.set (fb + j) o = H from by
        refine List.ext_getElem? fun i => ?_
        rw [List.getElem?_set]
        split
        · rename_i e; subst e; simp [h]
        · rfl]
    | cons y M =>
      refine ⟨o.gen + 1, ?_⟩
      rw [y5u] at h
      have hm : (M.length + 1) * b ≤ 281474976710656 := Nat.le_trans (Nat.mul_le_mul_right b (by simp only [List.length_nil, List.length_cons]; omega)) hs
      simp [y3a, hm, y2k, place, h, y5u]
  | cons x L =>
    refine ⟨g + 1, ?_⟩
    have h' : H[fb + j]? = some ⟨g, .arr false false (es α) ((x :: L).map enc)⟩ := h
    simp only [y3a, h']
    rw [if_pos (by simp; first | simpa using hs | exact .inl (by simpa using hs))]
    simp only [List.drop_zero]
    rw [show ((x :: L).map (enc (α := α))).take (L.length + 1) = (x :: L).map enc from y8f (x :: L)]
    simp [y3a, y5u, Nat.add_right_comm]
end
@[simp] theorem y195 (h : Heap) (es id g es1 off len : Nat) : y19 h es (.ls id g es1 off len) = match yf h id g with
    | some (_, es', rows) => if es1 = es ∧ es' = es ∧ off + len ≤ rows.length then some ((rows.drop off).take len) else none
    | none => none := rfl
@[simp] theorem y1dp {α : Type} [Cel α] (x : α) (L : List α) : exO (nz (x :: L)) = ⟨.ls 0 0 (es α) 0 (L.length + 1), [.arr false false (es α) ((x :: L).map enc)], (x :: L).all scal, [], []⟩ := rfl
abbrev D0 : AO := ⟨0, .dead⟩
section
variable {α : Type} [Cel α]
end
@[simp] theorem y1db {α : Type} [Cel α] : exO (nz ([] : List α)) = ⟨.nils, [], true, [], []⟩ := rfl
theorem yxl {n : Nat} {p : Int} (h0 : 0 ≤ p) (h1 : p < (n : Int)) (id g : Nat) (k : IntKind) : y2m 1 (.ls id g 1 0 n) (.int k p) = some (.lp id g p.toNat 0) := by simp [y2m, h0, h1]
end Go.Vm
namespace Go.Vm
open Cel
section
variable {α : Type} [Cel α]
def ownV (j g : Nat) : Option (List α) → AV
  | none => .nils
  | some L => .ls j g (es α) 0 L.length
def ownO (g : Nat) (d : AO) : Option (List α) → AO
  | none => d
  | some L => ⟨g, .arr false false (es α) (L.map enc)⟩
def ownI (j : Nat) : Option (List α) → List Nat
  | none => []
  | some _ => [j]
@[simp] theorem y15i (j g : Nat) (o : Option (List α)) : cellsOf (ownV j g o) = [ownV j g o] := by cases o <;> rfl
@[simp] theorem y19j (j g : Nat) (o : Option (List α)) : yk (ownV j g o) = true := by cases o <;> rfl
@[simp] theorem y18z (j g : Nat) (o : Option (List α)) : known (ownV j g o) = true := by cases o <;> rfl
@[simp] theorem y189 (j g : Nat) (o : Option (List α)) (H : Heap) : y1j 1 (ownV j g o) H = some (.int .i64 (lst o).length) := by cases o <;> rfl
theorem yz4 {H : Heap} {i : Nat} {o : AO} (h : H[i]? = some o) : H.set i o = H := by
  refine List.ext_getElem? fun k => ?_
  rw [List.getElem?_set]
  split
  · rename_i e; subst e
    rw [if_pos (List.getElem?_eq_some_iff.1 h).1, h]
  · rfl
theorem yzp {H : Heap} {j g : Nat} {d : AO} {L : List α} (h : H[j]? = some (ownO g d (some L))) : yf H j g = some (false, es α, L.map enc) := by
  simp [yf, y1z, h, ownO]
theorem y179 {H : Heap} {j g k : Nat} {d : AO} {o : Option (List α)} (h : H[j]? = some (ownO g d o)) : fz H (k + 2) (ownV j g o) = some ⟨slA o, (lst o).all scal, ownI j o⟩ := by
  cases o with
  | none => rfl
  | some L =>
    rw [ownV, y18f, yzp h]
    simp only [List.drop_zero, Nat.zero_add, List.length_map, Nat.le_refl, and_self, if_true, y8f, yxg]
    simp [slA, ownI]
end
theorem y30 {E : Env} {C : Calls2} {fb f : Nat} {args : List AV} {h : Heap} {fa : Fz (List AV)} {r : Ex AV} {v : AV} (hE : E.pure f = true) (ha : yd (fz h yx) args = some fa) (hf : fa.ids = [])
    (hc : C.p f fa.v = some r) (hr : yh7 r v) (sl : Option Nat := none) (hsl : sl = none := by rfl) : y7 E C fb sl true f args h = some (v, h) := by
  subst hsl
  obtain ⟨q, h1, h2⟩ := hr
  simp [y7, hE, y4i, ha, hc, hf, h1, h2]
theorem yx7 {E : Env} {C : Calls2} {fb f : Nat} {args : List AV} {h : Heap} {fa : Fz (List AV)} {r : Ex AV} (hE : E.pure f = true) (ha : yd (fz h yx) args = some fa) (hf : fa.ids = [])
    (hc : C.p f fa.v = some r) (sl : Option Nat := none) (hsl : sl = none := by rfl) : ylx E C fb sl true f args h = some ([], []) := by
  subst hsl
  simp [ylx, hE, ha, hc, hf]
end Go.Vm
namespace Go.Vm
open Cel
theorem y26 {H : Heap} {a : Nat} {x : AO} (h : a < H.length) : (H.set a x)[a]? = some x := by simp [h]
theorem yj {H : Heap} {a b : Nat} {x : AO} (h : a ≠ b) : (H.set a x)[b]? = H[b]? := List.getElem?_set_ne h
theorem ynx {H : Heap} {n b : Nat} (h : b < H.length) : (H ++ yi n)[b]? = H[b]? := List.getElem?_append_left h
theorem y1cl {H : Heap} {n j : Nat} (h : j < n) : (H ++ yi n)[H.length + j]? = some ⟨0, .dead⟩ := by
  rw [List.getElem?_append_right (by omega), Nat.add_sub_cancel_left, yi, List.getElem?_replicate, if_pos h]
theorem y17 {H : Heap} {a : Nat} {x : AO} (h : H[a]? = some x) : a < H.length := (List.getElem?_eq_some_iff.1 h).1
theorem y151 {α : Type} [Cel α] {H : Heap} {id g : Nat} {L : List α} (h : H[id]? = some ⟨g, .arr false false (es α) (L.map enc)⟩) : y19 H (es α) (.ls id g (es α) 0 L.length) = some (L.map enc) := by
  simp [y19, yf, y1z, h]
theorem ys2 {α : Type} [Cel α] {H : Heap} {id g k : Nat} {L : List α} (h : H[id]? = some ⟨g, .arr false false (es α) (L.map enc)⟩) : fz H (k + 2) (.ls id g (es α) 0 L.length) = some ⟨slA (some L), L.all scal, [id]⟩ :=
  y179 (o := some L) (d := ⟨0, .dead⟩) h
theorem yj0 {H : Heap} {id g i es : Nat} {rows : List (List AV)} {v : AV} (h : H[id]? = some ⟨g, .arr false false es rows⟩) (hx : rows[i]? = some [v]) : evLd false 1 (.lp id g i 0) H = some v := by
  have hr : yf H id g = some (false, es, rows) := by simp [yf, y1z, h]
  rw [y6i, hr]
  simp [hx]
end Go.Vm
namespace Go.Vm
open Cel
attribute [local simp] y7 y4i ydc
def yf3 (s : Txt) : List (List AV) := s.map fun b => [.int .u8 b.toNat]
theorem ywd (m : Bool) (s : Txt) (hs : Sm s) : ∀ (d i : Nat), i + d = s.length →
    yrl (.bool m) (.ls 0 1 1 0 s.length) (.int .i64 s.length) (.int .i64 i) [⟨1, .arr false false 1 (yf3 s)⟩] = some ⟨.bool ((s.drop i).all (okC m)), [], true, [], []⟩ := by
  intro d
  induction d with
  | zero =>
    intro i hi
    have hc : ¬ ((i : Int) < (s.length : Int)) := by omega
    rw [yln, List.drop_eq_nil_of_le (by omega)]
    simp only [q6_6, yh, hc, decide_false, y5, q6_5, y14]
    rfl
  | succ d ih =>
    intro i hi
    have hlt : i < s.length := by omega
    have hc : ((i : Int) < (s.length : Int)) := by omega
    have hw := y38 hlt (by unfold Sm at hs; omega)
    have ih := ih (i + 1) (by omega)
    push_cast at ih
    rw [yln, List.drop_eq_getElem_cons hlt, List.all_cons]
    have hix : (match y2m 1 (.ls 0 1 1 0 s.length) (.int .i64 (i : Int)) with | some a => evLd false 1 a [⟨1, .arr false false 1 (yf3 s)⟩] | none => none) = some (.int .u8 (s[i]).toNat) := by
      have e1 : y2m 1 (.ls 0 1 1 0 s.length) (.int .i64 (i : Int)) = some (.lp 0 1 i 0) := by
        have := yxl (n := s.length) (p := (i : Int)) (by omega) hc 0 1 .i64
        simpa using this
      rw [e1]
      exact yj0 (id := 0) (es := 1) rfl (by simp [yf3, hlt])
    simp only [q6_6, yh, hc, decide_true, y5, q6_5, y22]
    rw [yrx m _ _ _ (s[i]) _ hix]
    cases hb : okC m s[i] with
    | false => simp
    | true =>
      simp only [if_true, Bool.true_and]
      rw [q6_3, y1a]
      simp only [y5, hw]
      exact ih
theorem y17m (s : Txt) (m : Bool) (hs : Sm s) : (y8 E).p 60 [.str s, .bool m] = some ⟨.bool (ybt m s), [], true, [], []⟩ := by
  rw [x_q6]
  unfold y13s y163 ybt
  by_cases h1 : (s.length : Int) < 1
  · have : ¬ 1 ≤ s.length := by omega
    simp [h1, this]
  by_cases h2 : (60 : Int) < s.length
  · have h2' : ¬ s.length ≤ 60 := by omega
    simp [h1, h2, h2']
  have h1' : 1 ≤ s.length := by omega
  have h2' : s.length ≤ 60 := by omega
  simp only [y8g, y5, yh, h1, decide_false, y4x, y4f, h2, yz, y14, q6_8]
  have e : s2bC 0 (some 0) (.str s) [⟨0, .dead⟩] = some (.ls 0 1 1 0 s.length, [⟨1, .arr false false 1 (yf3 s)⟩]) := by
    simp [s2bC, y2k, place, yf3]
  rw [e]
  simp only [yb, y9v, y5]
  rw [show (AV.int .i64 0) = .int .i64 ((0 : Nat) : Int) from rfl, ywd m s hs s.length 0 (by omega)]
  simp [h1', h2']
end Go.Vm
namespace Go.Vm
abbrev ATab := List (Txt × List Txt)
def akeys (A : ATab) : List Txt := A.map (·.1)
section
variable (up : Txt → List Txt)
inductive AOk : ATab → Prop
  | nil : AOk []
  | snoc {A : ATab} {n : Txt} {S : List Txt} : AOk A → n ∉ akeys A → n ∈ S → (∀ s ∈ up n, ∃ T, (s, T) ∈ A ∧ ∀ x ∈ T, x ∈ S) → (∀ x ∈ S, x = n ∨ ∃ s ∈ up n, ∃ T, (s, T) ∈ A ∧ x ∈ T) → AOk (A ++ [(n, S)])
variable {up}
theorem y6m {A : ATab} {n : Txt} {S : List Txt} (h : (n, S) ∈ A) : n ∈ akeys A := List.mem_map_of_mem h
theorem yhb {A : ATab} {n : Txt} (h : n ∈ akeys A) : ∃ S, (n, S) ∈ A := by
  unfold akeys at h
  obtain ⟨⟨m, S⟩, h1, rfl⟩ := List.mem_map.1 h
  exact ⟨S, h1⟩
theorem AOk.self {A : ATab} (h : AOk up A) : ∀ {n : Txt} {S : List Txt}, (n, S) ∈ A → n ∈ S := by
  induction h with
  | nil => intro n S hm; cases hm
  | @snoc A n S _ _ hS _ _ ih =>
    intro m T hm
    rcases List.mem_append.1 hm with hm | hm
    · exact ih hm
    · rw [List.mem_singleton] at hm
      injection hm with h1 h2
      subst h1; subst h2
      exact hS
theorem AOk.uniq {A : ATab} (h : AOk up A) : ∀ {n : Txt} {S T : List Txt}, (n, S) ∈ A → (n, T) ∈ A → S = T := by
  induction h with
  | nil => intro n S T hm; cases hm
  | @snoc A n S _ hn _ _ _ ih =>
    intro m U V h1 h2
    rcases List.mem_append.1 h1 with h1 | h1
    · rcases List.mem_append.1 h2 with h2 | h2
      · exact ih h1 h2
      · rw [List.mem_singleton] at h2
        injection h2 with e1 e2
        exact (hn (e1 ▸ y6m h1)).elim
    · rw [List.mem_singleton] at h1
      injection h1 with e1 e2
      subst e2
      rcases List.mem_append.1 h2 with h2 | h2
      · exact (hn (e1 ▸ y6m h2)).elim
      · rw [List.mem_singleton] at h2
        injection h2 with _ e2
        exact e2.symm
theorem AOk.trans {A : ATab} (h : AOk up A) : ∀ {n x : Txt} {S : List Txt}, (n, S) ∈ A → x ∈ S → ∃ T, (x, T) ∈ A ∧ ∀ y ∈ T, y ∈ S := by
  induction h with
  | nil => intro n x S hm; cases hm
  | @snoc A n S _ _ _ hup hin ih =>
    intro m x T hm hx
    rcases List.mem_append.1 hm with hm | hm
    · obtain ⟨U, h1, h2⟩ := ih hm hx
      exact ⟨U, List.mem_append_left _ h1, h2⟩
    · rw [List.mem_singleton] at hm
      injection hm with e1 e2
      subst e1; subst e2
      rcases hin x hx with rfl | ⟨s, hs, V, hV, hxV⟩
      · exact ⟨_, List.mem_append_right _ (by simp), fun y hy => hy⟩
      · obtain ⟨U, h1, h2⟩ := ih hV hxV
        obtain ⟨V', hV', hsub⟩ := hup s hs
        refine ⟨U, List.mem_append_left _ h1, fun y hy => ?_⟩
        have hyV := h2 y hy
        rename_i hA _ _
        have := AOk.uniq hA hV hV'
        subst this
        exact hsub y hyV
theorem AOk.top {A : ATab} (h : AOk up A) (hk : ∀ n ∈ akeys A, n = sObj ∨ up n ≠ []) : ∀ {n : Txt} {S : List Txt}, (n, S) ∈ A → sObj ∈ S := by
  induction h with
  | nil => intro n S hm; cases hm
  | @snoc A n S _ _ hS hup _ ih =>
    intro m T hm
    have ih : ∀ {n : Txt} {S : List Txt}, (n, S) ∈ A → sObj ∈ S := ih fun q hq => hk q (by unfold akeys at hq ⊢; rw [List.map_append]; exact List.mem_append_left _ hq)
    rcases List.mem_append.1 hm with hm | hm
    · exact ih hm
    · rw [List.mem_singleton] at hm
      injection hm with e1 e2
      subst e1; subst e2
      rcases hk m (by unfold akeys; simp) with h0 | h0
      · rw [← h0]; exact hS
      · obtain ⟨s, hs⟩ := List.exists_mem_of_ne_nil _ h0
        obtain ⟨V, hV, hsub⟩ := hup s hs
        exact hsub _ (ih hV)
theorem AOk.obj {A : ATab} (h : AOk up A) (h0 : up sObj = []) : ∀ {S : List Txt}, (sObj, S) ∈ A → ∀ x ∈ S, x = sObj := by
  induction h with
  | nil => intro S hm; cases hm
  | @snoc A n S _ _ _ _ hin ih =>
    intro T hm x hx
    rcases List.mem_append.1 hm with hm | hm
    · exact ih hm x hx
    · rw [List.mem_singleton] at hm
      injection hm with e1 e2
      subst e1; subst e2
      rcases hin x hx with h | ⟨s, hs, _⟩
      · exact h
      · rw [h0] at hs; cases hs
end
def alook (A : ATab) (n : Txt) : Option (List Txt) := (A.find? fun p => p.1 = n).map (·.2)
def upB (A : ATab) (x y : Txt) : Bool := ((alook A x).getD []).contains y
theorem y8q {A : ATab} {n : Txt} {S : List Txt} (h : alook A n = some S) : (n, S) ∈ A := by
  unfold alook at h
  cases hf : A.find? fun p => decide (p.1 = n) with
  | none => rw [hf] at h; cases h
  | some p =>
    rw [hf] at h
    have h1 := List.mem_of_find?_eq_some hf
    have h2 := List.find?_some hf
    injection h with h
    simp only [decide_eq_true_eq] at h2
    obtain ⟨a, b⟩ := p
    simp only at h h2
    subst h; subst h2
    exact h1
theorem ydb {A : ATab} {n : Txt} (h : alook A n = none) : n ∉ akeys A := by
  unfold alook at h
  intro hn
  obtain ⟨S, hS⟩ := yhb hn
  have h' : A.find? (fun p => decide (p.1 = n)) = none := by
    cases hf : A.find? fun p => decide (p.1 = n) with
    | none => rfl
    | some p => rw [hf] at h; cases h
  have := List.find?_eq_none.1 h' (n, S) hS
  simp at this
end Go.Vm
namespace Go.Vm
open Cel
structure By where
  n : Int
  deriving DecidableEq, Inhabited
instance : Cel By := ⟨1, fun b => [.int .u8 b.n], fun _ => rfl, fun _ => rfl, fun _ => rfl⟩
structure Cst where
  kind : Int
  num : Int
  text : List UInt8
  name : List UInt8
  desc : List UInt8
  deriving DecidableEq, Inhabited
structure Fld where
  fl : Int
  name : List UInt8
  desc : List UInt8
  deriving DecidableEq, Inhabited
structure Frm where
  pc : Int
  locals : Option (List Tx)
  stack : Option (List Tx)
  deriving DecidableEq, Inhabited
structure Mth where
  fl : Int
  name : List UInt8
  desc : List UInt8
  stack : Int
  locals : Int
  code : Option (List By)
  rows : Option (List Row)
  frames : Option (List Frm)
  deriving DecidableEq, Inhabited
structure Cls where
  fl : Int
  nm : List UInt8
  sup : List UInt8
  ifs : Option (List Tx)
  pool : Option (List Cst)
  flds : Option (List Fld)
  mths : Option (List Mth)
  deriving DecidableEq, Inhabited
instance : Cel Cst := ⟨5, fun x => [.int .i64 x.kind, .int .i64 x.num, .str x.text, .str x.name, .str x.desc], fun _ => rfl, fun _ => rfl, fun _ => rfl⟩
instance : Cel Fld := ⟨3, fun x => [.int .i64 x.fl, .str x.name, .str x.desc], fun _ => rfl, fun _ => rfl, fun _ => rfl⟩
instance : Cel Frm := ⟨3, fun x => [.int .i64 x.pc, slA x.locals, slA x.stack], fun _ => rfl, fun _ => by simp, fun _ => by simp⟩
instance : Cel Mth := ⟨8, fun x => [.int .i64 x.fl, .str x.name, .str x.desc, .int .i64 x.stack, .int .i64 x.locals, slA x.code, slA x.rows, slA x.frames], fun _ => rfl, fun _ => by simp, fun _ => by simp⟩
instance : Cel Cls := ⟨7, fun x => [.int .i64 x.fl, .str x.nm, .str x.sup, slA x.ifs, slA x.pool, slA x.flds, slA x.mths], fun _ => rfl, fun _ => by simp, fun _ => by simp⟩
@[simp] theorem y1e6 : es By = 1 := rfl
@[simp] theorem y1dj : es Cst = 5 := rfl
@[simp] theorem y1dt : es Fld = 3 := rfl
@[simp] theorem y1di : es Frm = 3 := rfl
@[simp] theorem y1do : es Mth = 8 := rfl
@[simp] theorem y1dl : es Cls = 7 := rfl
section
variable (x : Cls)
theorem y144 : enc x = [.int .i64 x.fl, .str x.nm, .str x.sup, slA x.ifs, slA x.pool, slA x.flds, slA x.mths] := rfl
@[simp high] theorem cls0 : (enc x).head? = some (.int .i64 x.fl) := rfl
@[simp high] theorem cls1 : ((enc x).drop 1).head? = some (.str x.nm) := rfl
@[simp high] theorem cls2 : ((enc x).drop 2).head? = some (.str x.sup) := rfl
@[simp high] theorem cls3 : ((enc x).drop 3).head? = some (slA x.ifs) := rfl
@[simp high] theorem cls4 : ((enc x).drop 4).head? = some (slA x.pool) := rfl
@[simp high] theorem cls5 : ((enc x).drop 5).head? = some (slA x.flds) := rfl
@[simp high] theorem cls6 : ((enc x).drop 6).head? = some (slA x.mths) := rfl
@[simp high] theorem y1e4 : (enc x)[0]? = some (.int .i64 x.fl) := rfl
@[simp high] theorem y1ep : (enc x)[1]? = some (.str x.nm) := rfl
@[simp high] theorem y1eb : (enc x)[2]? = some (.str x.sup) := rfl
@[simp high] theorem y1en : (enc x)[3]? = some (slA x.ifs) := rfl
@[simp] theorem ye4 : y4c true 7 (enc x) = some (.agg (enc x)) := y61 x
@[simp] theorem yi0 : (enc x).length = 7 := rfl
@[simp] theorem y07 : (enc x).all yk = true := y7y x
end
theorem ydm {o : Option (List Cls)} {x : Cls} {i : Nat} (hx : (lst o)[i]? = some x) (k : IntKind) : y2m 7 (slA o) (.int k i) = some (.rp (enc x)) := yef hx k
theorem ycf {o : Option (List Tx)} {x : Tx} {i : Nat} (hx : (lst o)[i]? = some x) (k : IntKind) : y2m 1 (slA o) (.int k i) = some (.rp [.str x.s]) := yef hx k
abbrev ywv : Ty := .slice 1 .str
abbrev y19y : Ty := .slice 1 (.int .u8)
abbrev y154 : Ty := .struct (.sCons tyI (.sCons tyI (.sCons .str (.sCons .str (.sCons .str .sNil)))))
abbrev y13r : Ty := .struct (.sCons tyI (.sCons .str (.sCons .str .sNil)))
abbrev y138 : Ty := .struct (.sCons tyI (.sCons ywv (.sCons ywv .sNil)))
abbrev y15n : Ty := .struct (.sCons tyI (.sCons .str (.sCons .str (.sCons tyI (.sCons tyI (.sCons y19y (.sCons (.slice 4 y15h) (.sCons (.slice 3 y138) .sNil))))))))
abbrev y14j : Ty := .struct (.sCons tyI (.sCons .str (.sCons .str (.sCons ywv (.sCons (.slice 5 y154) (.sCons (.slice 3 y13r) (.sCons (.slice 8 y15n) .sNil)))))))
abbrev yod : Ty := .slice 7 y14j
theorem ygy {cs : List AV} (h : ywv.has cs) : ∃ o : Option (List Tx), cs = [slA o] ∧ (lst o).length * 16 ≤ reachBytes ∧ ∀ x ∈ lst o, x.s.length ≤ reachBytes := by
  obtain ⟨o, h1, _, h2, h3⟩ := y9a (α := Tx) (T := .str) (Q := fun x => x.s.length ≤ reachBytes) (fun _ h => by obtain ⟨s, rfl, hs⟩ := yc2 h; exact ⟨⟨s⟩, rfl, hs⟩) h
  exact ⟨o, h1, by simpa [Ty.bytes] using h2, h3⟩
theorem y14a {cs : List AV} (h : y19y.has cs) : ∃ o : Option (List By), cs = [slA o] ∧ (lst o).length ≤ maxLen ∧ ∀ x ∈ lst o, 0 ≤ x.n ∧ x.n ≤ 255 := by
  obtain ⟨o, h1, h2, _, h3⟩ := y9a (α := By) (T := .int .u8) (Q := fun x => 0 ≤ x.n ∧ x.n ≤ 255) (fun _ h => by
    obtain ⟨n, rfl, a, b⟩ := h
    exact ⟨⟨n⟩, rfl, by simpa [IntKind.min, IntKind.signed] using a, by simpa [IntKind.max, IntKind.signed, IntKind.bits] using b⟩) h
  exact ⟨o, h1, h2, h3⟩
structure CstOk (x : Cst) : Prop where
  kind : inI x.kind
  num : inI x.num
structure MthOk (x : Mth) : Prop where
  fl : inI x.fl
  name : x.name.length ≤ reachBytes
  desc : x.desc.length ≤ reachBytes
structure ClsOk (x : Cls) : Prop where
  fl : inI x.fl
  nm : x.nm.length ≤ reachBytes
  sup : x.sup.length ≤ reachBytes
  ifs : (lst x.ifs).length * 16 ≤ reachBytes
  ifT : ∀ s ∈ lst x.ifs, s.s.length ≤ reachBytes
  pool : (lst x.pool).length ≤ maxLen
  flds : (lst x.flds).length ≤ maxLen
  mths : (lst x.mths).length ≤ maxLen
theorem y129 {cs : List AV} (h : y154.has cs) : ∃ x : Cst, cs = enc x ∧ CstOk x := by
  obtain ⟨_, _, rfl, h1, _, _, rfl, h2, _, _, rfl, h3, _, _, rfl, h4, _, _, rfl, h5, rfl⟩ := h
  obtain ⟨a, rfl, k1⟩ := yac h1
  obtain ⟨b, rfl, k2⟩ := yac h2
  obtain ⟨c, rfl, _⟩ := yc2 h3
  obtain ⟨d, rfl, _⟩ := yc2 h4
  obtain ⟨e, rfl, _⟩ := yc2 h5
  exact ⟨⟨a, b, c, d, e⟩, rfl, ⟨k1, k2⟩⟩
theorem y12d {cs : List AV} (h : y13r.has cs) : ∃ x : Fld, cs = enc x ∧ inI x.fl := by
  obtain ⟨_, _, rfl, h1, _, _, rfl, h2, _, _, rfl, h3, rfl⟩ := h
  obtain ⟨a, rfl, k1⟩ := yac h1
  obtain ⟨c, rfl, _⟩ := yc2 h2
  obtain ⟨d, rfl, _⟩ := yc2 h3
  exact ⟨⟨a, c, d⟩, rfl, k1⟩
theorem y158 {cs : List AV} (h : y138.has cs) : ∃ x : Frm, cs = enc x ∧ inI x.pc := by
  obtain ⟨_, _, rfl, h1, _, _, rfl, h2, _, _, rfl, h3, rfl⟩ := h
  obtain ⟨a, rfl, k1⟩ := yac h1
  obtain ⟨c, rfl, _⟩ := ygy h2
  obtain ⟨d, rfl, _⟩ := ygy h3
  exact ⟨⟨a, c, d⟩, rfl, k1⟩
theorem y14l {cs : List AV} (h : y15n.has cs) : ∃ x : Mth, cs = enc x ∧ MthOk x := by
  obtain ⟨_, _, rfl, h1, _, _, rfl, h2, _, _, rfl, h3, _, _, rfl, h4, _, _, rfl, h5, _, _, rfl, h6, _, _, rfl, h7, _, _, rfl, h8, rfl⟩ := h
  obtain ⟨a, rfl, k1⟩ := yac h1
  obtain ⟨b, rfl, k2⟩ := yc2 h2
  obtain ⟨c, rfl, k3⟩ := yc2 h3
  obtain ⟨d, rfl, _⟩ := yac h4
  obtain ⟨e, rfl, _⟩ := yac h5
  obtain ⟨f, rfl, _⟩ := y14a h6
  obtain ⟨g, rfl, _⟩ := y9a (α := Row) (T := y15h) (fun _ h => y169 h) h7
  obtain ⟨i, rfl, _⟩ := y9a (α := Frm) (T := y138) (fun _ h => y158 h) h8
  exact ⟨⟨a, b, c, d, e, f, g, i⟩, rfl, ⟨k1, k2, k3⟩⟩
theorem y11s {cs : List AV} (h : y14j.has cs) : ∃ x : Cls, cs = enc x ∧ ClsOk x := by
  obtain ⟨_, _, rfl, h1, _, _, rfl, h2, _, _, rfl, h3, _, _, rfl, h4, _, _, rfl, h5, _, _, rfl, h6, _, _, rfl, h7, rfl⟩ := h
  obtain ⟨a, rfl, k1⟩ := yac h1
  obtain ⟨b, rfl, k2⟩ := yc2 h2
  obtain ⟨c, rfl, k3⟩ := yc2 h3
  obtain ⟨d, rfl, k4, l4⟩ := ygy h4
  obtain ⟨e, rfl, k5, _⟩ := y9a (α := Cst) (T := y154) (fun _ h => y129 h) h5
  obtain ⟨f, rfl, k6, _⟩ := y9a (α := Fld) (T := y13r) (fun _ h => y12d h) h6
  obtain ⟨g, rfl, k7, _⟩ := y9a (α := Mth) (T := y15n) (fun _ h => y14l h) h7
  exact ⟨⟨a, b, c, d, e, f, g⟩, rfl, ⟨k1, k2, k3, k4, l4, k5, k6, k7⟩⟩
theorem ywx {cs : List AV} (h : yod.has cs) : ∃ o : Option (List Cls), cs = [slA o] ∧ (lst o).length * 136 ≤ reachBytes ∧ ∀ x ∈ lst o, ClsOk x := by
  obtain ⟨o, h1, _, h2, h3⟩ := y9a (α := Cls) (T := y14j) (fun _ h => y11s h) h
  exact ⟨o, h1, h2, h3⟩
end Go.Vm
