/- Facts for reading the machine's functions: combinators at known values; lists of things of one kind as slices. The things that the layers speak of: instructions, rows, functions. What is handed in, as things. Which type fits in which, in plain words. Types as texts on the machine: their class, element, kind; names. Lists that a function builds by appending, at a place of its own. What a callee made, as the caller's own: a list, or nothing. Heaps that grow: what lies where, behind one more object, behind one that is turned. Names and types' descriptors on the machine. Who stands above whom, in plain words: a table that is made from those above down. Classes, as things. -/
import Derived.Test.YtkcigmgchfcpkaaVc
import Derived.Test.YtkcigmgchfcpkaaFX
set_option linter.unusedSimpArgs false
set_option linter.unusedVariables false
set_option linter.unusedSectionVars false
namespace Go.Vm
section comb
variable {α : Type}
@[simp] theorem y3 (v : AV) (K : AV → Option α) : ob (some v) K = K v := rfl
@[simp] theorem yc (v : AV) (h : Heap) (K : AV → Heap → Option α) : oh (some (v, h)) K = K v h := rfl
@[simp] theorem y188 {β : Type} (v : β) (K : β → Option α) : ofp (some v) K = K v := rfl
@[simp] theorem y3b (x : Option AV) (K : AV → Option α) : gb (.bool true) true x K = ob x K := rfl
@[simp] theorem y3m (x : Option AV) (K : AV → Option α) : gb (.bool false) false x K = ob x K := rfl
@[simp] theorem y6u (x : Option AV) (K : AV → Option α) : gb (.bool true) false x K = K (.tup []) := rfl
@[simp] theorem y8q (x : Option AV) (K : AV → Option α) : gb (.bool false) true x K = K (.tup []) := rfl
@[simp] theorem y4r (w : Bool) (x : Option AV) (K : AV → Option α) : gb (.tup []) w x K = K (.tup []) := rfl
@[simp] theorem yam (x : Option (AV × Heap)) (h : Heap) (K : AV → Heap → Option α) : gh (.bool true) true x h K = oh x K := rfl
@[simp] theorem yt0 (x : Option (AV × Heap)) (h : Heap) (K : AV → Heap → Option α) : gh (.bool false) false x h K = oh x K := rfl
@[simp] theorem y18v (x : Option (AV × Heap)) (h : Heap) (K : AV → Heap → Option α) : gh (.bool true) false x h K = K (.tup []) h := rfl
@[simp] theorem y127 (x : Option (AV × Heap)) (h : Heap) (K : AV → Heap → Option α) : gh (.bool false) true x h K = K (.tup []) h := rfl
@[simp] theorem y1as (w : Bool) (x : Option (AV × Heap)) (h : Heap) (K : AV → Heap → Option α) : gh (.tup []) w x h K = K (.tup []) h := rfl
@[simp] theorem y1b0 (x : Option (List Nat × List Nat)) : fgd (.bool true) true x = x := rfl
@[simp] theorem y1ba (x : Option (List Nat × List Nat)) : fgd (.bool false) false x = x := rfl
@[simp] theorem y1b2 (x : Option (List Nat × List Nat)) : fgd (.bool true) false x = some ([], []) := rfl
@[simp] theorem y1av (x : Option (List Nat × List Nat)) : fgd (.bool false) true x = some ([], []) := rfl
@[simp] theorem y19f (w : Bool) (x : Option (List Nat × List Nat)) : fgd (.tup []) w x = some ([], []) := rfl
@[simp] theorem y1f (a b : Option α) : cnd (.bool true) a b = a := rfl
@[simp] theorem yy (a b : Option α) : cnd (.bool false) a b = b := rfl
@[simp] theorem y1bj (x : Option α) : okK true x = x := rfl
theorem ybr {α : Type} {b : Bool} (h : b = true) (x : Option α) : okK b x = x := by rw [h]; rfl
@[simp] theorem yj (a b : AV) : yk (.bool true) a b = some a := rfl
@[simp] theorem yl (a b : AV) : yk (.bool false) a b = some b := rfl
@[simp] theorem y18 (b : Bool) : evUn .not (.bool b) = some (.bool (!b)) := rfl
@[simp] theorem yop (neq a b : Bool) : ymi neq (.bool a) (.bool b) = some (.bool (if neq then !(a == b) else a == b)) := rfl
@[simp] theorem y2g (i : Nat) (vs : List AV) : y6v i (.tup vs) = vs[i]? := rfl
@[simp] theorem y166 (k k' : IntKind) (n : Int) : y12e k (.int k' n) = some (.int k (k.wrap n)) := rfl
@[simp] theorem y5g (cs : List AV) : y10 (.rp cs) = some (.rp cs) := rfl
@[simp] theorem y1t (id g i off : Nat) : y10 (.lp id g i off) = some (.lp id g i off) := rfl
@[congr] theorem y1c2 {x x' : Option AV} (h : x = x') (K : AV → Option α) : ob x K = ob x' K := by rw [h]
@[congr] theorem y1c1 {x x' : Option (AV × Heap)} (h : x = x') (K : AV → Heap → Option α) : oh x K = oh x' K := by rw [h]
@[congr] theorem y1b7 {β : Type} {x x' : Option β} (h : x = x') (K : β → Option α) : ofp x K = ofp x' K := by rw [h]
@[congr] theorem y1bn {g g' : AV} (h : g = g') (w : Bool) (x : Option AV) (K : AV → Option α) : gb g w x K = gb g' w x K := by rw [h]
@[congr] theorem y1bu {g g' : AV} (h : g = g') (w : Bool) (x : Option (AV × Heap)) (hp : Heap) (K : AV → Heap → Option α) : gh g w x hp K = gh g' w x hp K := by rw [h]
@[congr] theorem y1b3 {g g' : AV} (h : g = g') (w : Bool) (x : Option (List Nat × List Nat)) : fgd g w x = fgd g' w x := by rw [h]
@[congr] theorem y1ay {c c' : AV} (h : c = c') (a b : Option α) : cnd c a b = cnd c' a b := by rw [h]
@[congr] theorem y1bf {c c' : Bool} (h : c = c') (a : Option α) : okK c a = okK c' a := by rw [h]
end comb
section ints
variable (k : IntKind) (a b : Int)
@[simp] theorem yx : y9 .add (.int k a) (.int k b) = some (.int k (k.wrap (a + b))) := by simp [y9, y3o, y5m]
@[simp] theorem yet : y9 .sub (.int k a) (.int k b) = some (.int k (k.wrap (a - b))) := by simp [y9, y3o, y5m]
@[simp] theorem y156 : y9 .mul (.int k a) (.int k b) = some (.int k (k.wrap (a * b))) := by simp [y9, y3o, y5m]
@[simp] theorem yi : y9 .eql (.int k a) (.int k b) = some (.bool (decide (a = b))) := by simp [y9, y3o, y5m, Bool.beq_eq_decide_eq]
@[simp] theorem y8c : y9 .neq (.int k a) (.int k b) = some (.bool (decide (a ≠ b))) := by simp [y9, y3o, y5m, bne, Bool.beq_eq_decide_eq]
@[simp] theorem yh : y9 .lss (.int k a) (.int k b) = some (.bool (decide (a < b))) := by simp [y9, y3o, y5m]
@[simp] theorem yac : y9 .leq (.int k a) (.int k b) = some (.bool (decide (a ≤ b))) := by simp [y9, y3o, y5m]
@[simp] theorem y2u : y9 .gtr (.int k a) (.int k b) = some (.bool (decide (b < a))) := by simp [y9, y3o, y5m]
@[simp] theorem ybt : y9 .geq (.int k a) (.int k b) = some (.bool (decide (b ≤ a))) := by simp [y9, y3o, y5m]
end ints
@[simp] theorem y40 (a b : List UInt8) : y9 .eql (.str a) (.str b) = some (.bool (decide (a = b))) := by simp [y9, yfw, Bool.beq_eq_decide_eq]
@[simp] theorem y1x (a b : List UInt8) : y9 .neq (.str a) (.str b) = some (.bool (decide (a ≠ b))) := by simp [y9, yfw, Bool.beq_eq_decide_eq]
theorem yl2 {n : Int} (h0 : -9223372036854775808 ≤ n) (h1 : n < 9223372036854775808) : IntKind.wrap .i64 n = n := by
  simp [IntKind.wrap, IntKind.bits, IntKind.signed]; omega
theorem ypf {i n : Nat} (h : i < n) (hn : n ≤ 9223372036854775807) : IntKind.wrap .i64 ((i : Int) + 1) = ((i + 1 : Nat) : Int) := by
  rw [yl2] <;> omega
theorem y2j {i n : Nat} (h : i < n) (hn : n ≤ 9223372036854775807) : IntKind.wrap .i64 ((i : Int) + 1) = (i : Int) + 1 := by rw [ypf h hn]; rfl
theorem yp4 {n : Nat} (h : 0 < n) (hn : n ≤ 9223372036854775807) : IntKind.wrap .i64 ((n : Int) - 1) = ((n - 1 : Nat) : Int) := by
  rw [yl2] <;> omega
@[simp] theorem ye8 (k : Nat) (cs : List AV) : evFa k (.rp cs) = some (.rp (cs.drop k)) := rfl
@[simp] theorem y1q (k id g i o : Nat) : evFa k (.lp id g i o) = some (.lp id g i (o + k)) := rfl
@[simp] theorem y5w (agg : Bool) (n : Nat) (cs : List AV) (h : Heap) : evLd agg n (.rp cs) h = y4a agg n cs := rfl
@[simp] theorem ygf (n : Nat) (cs : List AV) : y4a false n cs = cs.head? := rfl
@[simp] theorem yb2 (cs : List AV) : cellsOf (.agg cs) = cs := rfl
@[simp] theorem y0x (k : IntKind) (n : Int) : cellsOf (.int k n) = [.int k n] := rfl
@[simp] theorem yz5 (b : Bool) : cellsOf (.bool b) = [.bool b] := rfl
@[simp] theorem y13d (s : List UInt8) : cellsOf (.str s) = [.str s] := rfl
@[simp] theorem yzg : cellsOf .nils = [.nils] := rfl
@[simp] theorem y14t (es : Nat) (rows : List (List AV)) : cellsOf (.rs es rows) = [.rs es rows] := rfl
@[simp] theorem y14p (id g es off len : Nat) : cellsOf (.ls id g es off len) = [.ls id g es off len] := rfl
class Cel (α : Type) where
  es : Nat
  enc : α → List AV
  len : ∀ x, (enc x).length = es
  pur : ∀ x, (enc x).all pure1 = true
  leaf : ∀ x, (enc x).all ym = true
open Cel
instance : Cel Int := ⟨1, fun n => [.int .i64 n], fun _ => rfl, fun _ => rfl, fun _ => rfl⟩
instance : Cel Bool := ⟨1, fun b => [.bool b], fun _ => rfl, fun _ => rfl, fun _ => rfl⟩
structure Tx where
  s : List UInt8
  deriving DecidableEq, Inhabited
instance : Cel Tx := ⟨1, fun b => [.str b.s], fun _ => rfl, fun _ => rfl, fun _ => rfl⟩
@[simp] theorem y19w (n : Int) : enc n = [.int .i64 n] := rfl
@[simp] theorem y181 (b : Bool) : enc b = [.bool b] := rfl
@[simp] theorem y1bd (b : Tx) : enc b = [.str b.s] := rfl
@[simp] theorem y1au : es Int = 1 := rfl
@[simp] theorem y1al : es Bool = 1 := rfl
@[simp] theorem y12b : es Tx = 1 := rfl
variable {α : Type} [Cel α]
def scal (x : α) : Bool := (enc x).all yv
@[simp] theorem y18b (n : Int) : scal n = true := rfl
@[simp] theorem y177 (b : Bool) : scal b = true := rfl
@[simp] theorem y19s (b : Tx) : scal b = true := rfl
def lst (o : Option (List α)) : List α := o.getD []
omit [Cel α] in
@[simp] theorem y18c : lst (none : Option (List α)) = [] := rfl
omit [Cel α] in
@[simp] theorem yxu (L : List α) : lst (some L) = L := rfl
def slA : Option (List α) → AV
  | none => .nils
  | some L => .rs (es α) (L.map enc)
instance : Cel (Option (List α)) := ⟨1, fun o => [slA o], fun _ => rfl, fun o => by cases o <;> rfl, fun o => by cases o <;> rfl⟩
@[simp] theorem y1ax (o : Option (List α)) : enc o = [slA o] := rfl
@[simp] theorem y1bo : es (Option (List α)) = 1 := rfl
@[simp] theorem y17n (k : IntKind) (n : Int) : pure1 (.int k n) = true := rfl
@[simp] theorem y14g (b : Bool) : pure1 (.bool b) = true := rfl
@[simp] theorem y16i (b : List UInt8) : pure1 (.str b) = true := rfl
@[simp] theorem y14h : pure1 .nils = true := rfl
@[simp] theorem y168 (k : IntKind) (n : Int) : ym (.int k n) = true := rfl
@[simp] theorem y14s (b : Bool) : ym (.bool b) = true := rfl
@[simp] theorem y163 (b : List UInt8) : ym (.str b) = true := rfl
@[simp] theorem y14o : ym .nils = true := rfl
@[simp] theorem y186 (es : Nat) (r : List (List AV)) : ym (.rs es r) = true := rfl
@[simp] theorem y18a (id g es off len : Nat) : ym (.ls id g es off len) = true := rfl
@[simp] theorem y189 (id g i o : Nat) : ym (.lp id g i o) = true := rfl
@[simp] theorem y11r (k : IntKind) (n : Int) : yv (.int k n) = true := rfl
@[simp] theorem yyx (b : Bool) : yv (.bool b) = true := rfl
@[simp] theorem y13u (b : List UInt8) : yv (.str b) = true := rfl
@[simp] theorem yzn : yv .nils = true := rfl
@[simp] theorem y14l (o : Option (List α)) : cellsOf (slA o) = [slA o] := by cases o <;> rfl
@[simp] theorem y17v (o : Option (List α)) : ym (slA o) = true := by cases o <;> rfl
@[simp] theorem yvx (o : Option (List α)) : pure1 (slA o) = true := by cases o <;> rfl
@[simp] theorem ym2 (o : Option (List α)) : yv (slA o) = (lst o).isEmpty := by
  cases o with
  | none => rfl
  | some L => cases L <;> rfl
@[simp] theorem y3d (o : Option (List α)) (h : Heap) : y19 1 (slA o) h = some (.int .i64 (lst o).length) := by cases o <;> simp [slA, y19]
@[simp] theorem y1i (s : List UInt8) (h : Heap) : y19 0 (.str s) h = some (.int .i64 s.length) := rfl
@[simp] theorem ydd (id g es off len : Nat) (h : Heap) : y19 1 (.ls id g es off len) h = some (.int .i64 len) := rfl
@[simp] theorem y14u (h : Heap) : y19 1 .nils h = some (.int .i64 0) := rfl
@[simp] theorem y19h (id g i o : Nat) : ids1 (.lp id g i o) = [id] := rfl
@[simp] theorem y1ai (id g es o l : Nat) : ids1 (.ls id g es o l) = [id] := rfl
@[simp] theorem y1an (cs : List AV) : ids1 (.rp cs) = [] := rfl
@[simp] theorem y187 (k : IntKind) (n : Int) : ids1 (.int k n) = [] := rfl
@[simp] theorem y180 (s : List UInt8) : ids1 (.str s) = [] := rfl
@[simp] theorem y198 (o : Option (List α)) : ids1 (slA o) = [] := by cases o <;> rfl
@[simp] theorem ywq (neq : Bool) (o : Option (List α)) : y6w 1 neq (slA o) .nils = some (.bool (if neq then o.isSome else o.isNone)) := by
  cases o <;> cases neq <;> rfl
theorem ydr {o : Option (List α)} {x : α} {i : Nat} (hx : (lst o)[i]? = some x) (k : IntKind) : y2v (es α) (slA o) (.int k i) = some (.rp (enc x)) := by
  cases o with
  | none => simp at hx
  | some L =>
    simp only [yxu] at hx
    simp [slA, y2v, hx]
@[simp] theorem y7s (o : Option (List α)) (h : Heap) : y2a h (es α) (slA o) = some ((lst o).map enc) := by
  cases o <;> simp [slA, y2a]
@[simp] theorem y1bt (o : Option (List α)) (h : Heap) : fz h y14 (slA o) = some ⟨slA o, (lst o).isEmpty, []⟩ := by
  rw [y19d (yvx o), ym2]
@[simp] theorem y17o (x : α) (h : Heap) : fz h y14 (.agg (enc x)) = some ⟨.agg (enc x), scal x, []⟩ := y14y h (pur x)
theorem yb1 (L : List α) : (L.map enc).all (·.all pure1) = true := by simp only [List.all_map, List.all_eq_true]; exact fun x _ => pur x
theorem yax (L : List α) : (L.map enc).all (·.all yv) = L.all scal := by simp only [List.all_map]; rfl
@[simp] theorem y13b (L : List α) (h : Heap) : ye (ye (fz h y14)) (L.map enc) = some ⟨L.map enc, L.all scal, []⟩ := by rw [ynw h (yb1 L), yax]
@[simp] theorem y16t (L : List α) (h : Heap) : ye (ye (fz h 11)) (L.map enc) = some ⟨L.map enc, L.all scal, []⟩ := by rw [yoj h (yb1 L), yax]
@[simp] theorem y19p (o : Option (List α)) : scal o = (lst o).isEmpty := by simp [scal]
@[simp] theorem y7k (L : List α) : (L.map (enc (α := α))).take L.length = L.map enc := by
  rw [List.take_of_length_le (by simp)]
@[simp] theorem y5y (x : α) : y4a true (es α) (enc x) = some (.agg (enc x)) := by
  simp only [y4a, if_true, len x, Nat.le_refl, if_pos]
  rw [List.take_of_length_le (by rw [len x]; exact Nat.le_refl _)]
@[simp] theorem y17y (x : α) : (∀ v, v ∈ enc x → ym v = true) ↔ True := by
  have := leaf x
  rw [List.all_eq_true] at this
  exact ⟨fun _ => trivial, fun _ => this⟩
theorem y7y (x : α) : (enc x).all ym = true := leaf x
@[simp] theorem y199 (h : Heap) (k : IntKind) (n : Int) : fz h y14 (.int k n) = some ⟨.int k n, true, []⟩ := rfl
@[simp] theorem y184 (h : Heap) (b : Bool) : fz h y14 (.bool b) = some ⟨.bool b, true, []⟩ := rfl
@[simp] theorem y18n (h : Heap) (b : List UInt8) : fz h y14 (.str b) = some ⟨.str b, true, []⟩ := rfl
@[simp] theorem y18d (h : Heap) : fz h y14 .nils = some ⟨.nils, true, []⟩ := rfl
@[simp] theorem y14j (h : Heap) (k : IntKind) (n : Int) : yr h (.int k n) = some ⟨.int k n, [], true, [], []⟩ := rfl
@[simp] theorem y12c (h : Heap) (b : Bool) : yr h (.bool b) = some ⟨.bool b, [], true, [], []⟩ := rfl
@[simp] theorem y14f (h : Heap) (s : List UInt8) : yr h (.str s) = some ⟨.str s, [], true, [], []⟩ := rfl
@[simp] theorem y12t (h : Heap) : yr h .nils = some ⟨.nils, [], true, [], []⟩ := rfl
@[simp] theorem y18g (h : Heap) (o : Option (List α)) : yr h (slA o) = some ⟨slA o, [], (lst o).isEmpty, [], []⟩ := by
  cases o with
  | none => rfl
  | some L => simp [slA, yym]
theorem y15y {v : AV} (hp : pure1 v = true) (h : Heap) (k : Nat) (os : List OC) : expo h (k + 1) v os = some ⟨v, os, yv v, [], []⟩ := by
  cases v <;> simp_all [expo, pure1]
theorem yyf {cs : List AV} (h : Heap) (k : Nat) (os : List OC) (hp : cs.all pure1 = true) : y2n (expo h (k + 1)) cs os = some ⟨cs, os, cs.all yv, [], []⟩ := by
  induction cs with
  | nil => rfl
  | cons c cs ih =>
    simp only [List.all_cons, Bool.and_eq_true] at hp
    rw [y2n, y15y hp.1]
    simp only [ih hp.2]
    rfl
theorem yu7 (h : Heap) (cs : List AV) : yr h (.agg cs) = match y2n (expo h 11) cs [] with
    | some r => if y3x r.xs r.fs then some ⟨.agg r.v, r.objs, r.fresh, [], []⟩ else none
    | none => none := by
  show (match (match y2n (expo h 11) cs [] with
    | some r => some (⟨.agg r.v, r.objs, r.fresh, r.xs, r.fs⟩ : Ex AV)
    | none => none) with
    | some r => if y3x r.xs r.fs then some (⟨r.v, r.objs, r.fresh, [], []⟩ : Ex AV) else none
    | none => none) = _
  cases y2n (expo h 11) cs [] <;> rfl
@[simp] theorem y155 (h : Heap) (x : α) : yr h (.agg (enc x)) = some ⟨.agg (enc x), [], scal x, [], []⟩ := by
  rw [yu7, yyf h 10 [] (pur x)]
  rfl
theorem y13g (h : Heap) (k : Nat) (x : α) : fz h (k + 2) (.agg (enc x)) = some ⟨.agg (enc x), scal x, []⟩ := by
  rw [yf5, ye5 h k (pur x)]
  rfl
theorem y16z (h : Heap) (k id g es1 off len : Nat) : fz h (k + 1) (.ls id g es1 off len) = match yg h id g with
    | some (_, es, rows) => if es1 = es ∧ off + len ≤ rows.length then (match ye (ye (fz h k)) ((rows.drop off).take len) with
      | some r => some ⟨.rs es r.v, r.fresh, id :: r.ids⟩
      | none => none) else none
    | none => none := by
  rw [fz]
  rfl
theorem yxi (L : List α) (h : Heap) (k : Nat) : ye (ye (fz h (k + 1))) (L.map enc) = some ⟨L.map enc, L.all scal, []⟩ := by rw [y5c h k (yb1 L), yax]
@[simp] theorem y6i {β γ : Type} (f : β → Option (Fz γ)) : ye f [] = some ⟨[], true, []⟩ := rfl
@[simp] theorem y1p {β γ : Type} (f : β → Option (Fz γ)) (x : β) (xs : List β) : ye f (x :: xs) = match f x, ye f xs with
    | some a, some b => some ⟨a.v :: b.v, a.fresh && b.fresh, a.ids ++ b.ids⟩
    | _, _ => none := rfl
end Go.Vm
namespace Go.Vm
open Cel
structure Ins where
  op : Int
  d : Int
  a : Int
  b : Int
  c : Int
  n : Int
  t : Int
  s : List UInt8
  args : Option (List Int)
  deriving DecidableEq, Inhabited
structure Row where
  f : Int
  t : Int
  at_ : Int
  c : List UInt8
  deriving DecidableEq, Inhabited
structure Fn where
  regs : Option (List Int)
  params : Option (List Int)
  ret : Int
  code : Option (List Ins)
  rows : Option (List Row)
  deriving DecidableEq, Inhabited
instance : Cel Ins := ⟨9, fun x => [.int .i64 x.op, .int .i64 x.d, .int .i64 x.a, .int .i64 x.b, .int .i64 x.c, .int .i64 x.n, .int .i64 x.t, .str x.s, slA x.args], fun _ => rfl,
  fun x => by simp, fun x => by simp⟩
instance : Cel Row := ⟨4, fun x => [.int .i64 x.f, .int .i64 x.t, .int .i64 x.at_, .str x.c], fun _ => rfl, fun x => rfl, fun x => rfl⟩
instance : Cel Fn := ⟨5, fun x => [slA x.regs, slA x.params, .int .i64 x.ret, slA x.code, slA x.rows], fun _ => rfl, fun x => by simp, fun x => by simp⟩
@[simp] theorem y1aw : es Ins = 9 := rfl
@[simp] theorem y1b1 : es Row = 4 := rfl
@[simp] theorem y1bi : es Fn = 5 := rfl
section
variable (x : Ins) (r : Row) (f : Fn)
@[simp high] theorem ins0 : (enc x).head? = some (.int .i64 x.op) := rfl
@[simp high] theorem y1bg : (enc x)[0]? = some (.int .i64 x.op) := rfl
@[simp high] theorem ins1 : ((enc x).drop 1).head? = some (.int .i64 x.d) := rfl
@[simp high] theorem y1br : (enc x)[1]? = some (.int .i64 x.d) := rfl
@[simp high] theorem ins2 : ((enc x).drop 2).head? = some (.int .i64 x.a) := rfl
@[simp high] theorem y1bs : (enc x)[2]? = some (.int .i64 x.a) := rfl
@[simp high] theorem ins3 : ((enc x).drop 3).head? = some (.int .i64 x.b) := rfl
@[simp high] theorem y1c3 : (enc x)[3]? = some (.int .i64 x.b) := rfl
@[simp high] theorem ins4 : ((enc x).drop 4).head? = some (.int .i64 x.c) := rfl
@[simp high] theorem y1bx : (enc x)[4]? = some (.int .i64 x.c) := rfl
@[simp high] theorem ins5 : ((enc x).drop 5).head? = some (.int .i64 x.n) := rfl
@[simp high] theorem y1c0 : (enc x)[5]? = some (.int .i64 x.n) := rfl
@[simp high] theorem ins6 : ((enc x).drop 6).head? = some (.int .i64 x.t) := rfl
@[simp high] theorem y1by : (enc x)[6]? = some (.int .i64 x.t) := rfl
@[simp high] theorem ins7 : ((enc x).drop 7).head? = some (.str x.s) := rfl
@[simp high] theorem y1c4 : (enc x)[7]? = some (.str x.s) := rfl
@[simp high] theorem ins8 : ((enc x).drop 8).head? = some (slA x.args) := rfl
@[simp high] theorem y1bk : (enc x)[8]? = some (slA x.args) := rfl
@[simp high] theorem row0 : (enc r).head? = some (.int .i64 r.f) := rfl
@[simp high] theorem y1bh : (enc r)[0]? = some (.int .i64 r.f) := rfl
@[simp high] theorem row1 : ((enc r).drop 1).head? = some (.int .i64 r.t) := rfl
@[simp high] theorem y1c5 : (enc r)[1]? = some (.int .i64 r.t) := rfl
@[simp high] theorem row2 : ((enc r).drop 2).head? = some (.int .i64 r.at_) := rfl
@[simp high] theorem y1bq : (enc r)[2]? = some (.int .i64 r.at_) := rfl
@[simp high] theorem row3 : ((enc r).drop 3).head? = some (.str r.c) := rfl
@[simp high] theorem y1bv : (enc r)[3]? = some (.str r.c) := rfl
@[simp high] theorem fn0 : (enc f).head? = some (slA f.regs) := rfl
@[simp high] theorem fn0q : (enc f)[0]? = some (slA f.regs) := rfl
@[simp high] theorem fn1 : ((enc f).drop 1).head? = some (slA f.params) := rfl
@[simp high] theorem fn1q : (enc f)[1]? = some (slA f.params) := rfl
@[simp high] theorem fn2 : ((enc f).drop 2).head? = some (.int .i64 f.ret) := rfl
@[simp high] theorem fn2q : (enc f)[2]? = some (.int .i64 f.ret) := rfl
@[simp high] theorem fn3 : ((enc f).drop 3).head? = some (slA f.code) := rfl
@[simp high] theorem fn3q : (enc f)[3]? = some (slA f.code) := rfl
@[simp high] theorem fn4 : ((enc f).drop 4).head? = some (slA f.rows) := rfl
@[simp high] theorem fn4q : (enc f)[4]? = some (slA f.rows) := rfl
@[simp] theorem y1a5 : y4a true 9 (enc x) = some (.agg (enc x)) := y5y x
@[simp] theorem y18s : y4a true 4 (enc r) = some (.agg (enc r)) := y5y r
@[simp] theorem y1b5 : y4a true 5 (enc f) = some (.agg (enc f)) := y5y f
@[simp] theorem y19c : (enc x).length = 9 := rfl
@[simp] theorem y18p : (enc r).length = 4 := rfl
@[simp] theorem y1b8 : (enc f).length = 5 := rfl
@[simp] theorem y18f : (enc x).all ym = true := y7y x
@[simp] theorem y185 : (enc r).all ym = true := y7y r
@[simp] theorem y1ao : (enc f).all ym = true := y7y f
end
@[simp] theorem y14e (o : Option (List Int)) (h : Heap) : y2a h 1 (slA o) = some ((lst o).map enc) := y7s o h
@[simp] theorem y14i (o : Option (List Ins)) (h : Heap) : y2a h 9 (slA o) = some ((lst o).map enc) := y7s o h
@[simp] theorem y14q (o : Option (List Row)) (h : Heap) : y2a h 4 (slA o) = some ((lst o).map enc) := y7s o h
def exO {α : Type} [Cel α] : Option (List α) → Ex AV
  | none => ⟨.nils, [], true, [], []⟩
  | some L => ⟨.ls 0 0 (es α) 0 L.length, [.arr false false (es α) (L.map enc)], L.all scal, [], []⟩
@[simp] theorem y152 {α : Type} [Cel α] (o : Option (List α)) : fz (y1o (exO o).objs) y14 (exO o).v = some ⟨slA o, (lst o).all scal, match o with | none => [] | some _ => [0]⟩ := by
  cases o with
  | none => rfl
  | some L =>
    show fz [⟨0, .arr false false (es α) (L.map enc)⟩] y14 (.ls 0 0 (es α) 0 L.length) = _
    rw [y1ag]
    simp [yg, y29, slA]
@[simp] theorem y183 {α : Type} [Cel α] (fb j : Nat) (L : List α) (h : Heap) : y28 fb (some j) (exO (some L)).objs [] h = match h[fb + j]? with
    | some o => some ([(fb + j, o.gen + 1)], h.set (fb + j) ⟨o.gen + 1, .arr false false (es α) (L.map enc)⟩)
    | none => none := by
  simp only [exO, y28, y4o, okOC, if_true, place, List.nil_append]
  cases h[fb + j]? <;> rfl
@[simp] theorem y15h {α : Type} [Cel α] (fb : Nat) (j : Option Nat) (h : Heap) : y28 fb j (exO (none : Option (List α))).objs [] h = some ([], h) := rfl
@[simp] theorem y17w {α : Type} [Cel α] (id g : Nat) (L : List α) : reloc [(id, g)] (exO (some L)).v = .ls id g (es α) 0 L.length := rfl
@[simp] theorem y15n {α : Type} [Cel α] (tab : List (Nat × Nat)) : reloc tab (exO (none : Option (List α))).v = .nils := rfl
attribute [simp] newC y3s y2s place
@[simp] theorem y17x (g : Nat) (b f : Bool) (e : Nat) (r : List (List AV)) (t : Heap) : yg (⟨g, .arr b f e r⟩ :: t) 0 g = some (f, e, r) := by simp [yg, y29]
@[simp] theorem y17z (o : AO) (t : Heap) (i g : Nat) : yg (o :: t) (i + 1) g = yg t i g := rfl
@[simp] theorem y158 (g : Nat) (b f : Bool) (e : Nat) (r r' : List (List AV)) (t : Heap) : y1a (⟨g, .arr b f e r⟩ :: t) 0 r' = ⟨g, .arr b f e r'⟩ :: t := rfl
@[simp] theorem y14w (o : AO) (t : Heap) (i : Nat) (r : List (List AV)) : y1a (o :: t) (i + 1) r = o :: y1a t i r := by
  simp only [y1a, List.getElem?_cons_succ]
  split <;> simp_all
@[simp] theorem yhh (n id g i off : Nat) (v : AV) (h : Heap) : evSt n (.lp id g i off) v h = match yg h id g with
    | some (false, _, rows) => match rows[i]? with
      | some row => if (cellsOf v).length = n ∧ off + n ≤ row.length ∧ (cellsOf v).all ym = true then some (.tup [], y1a h id (rows.set i (yt off (cellsOf v) row))) else none
      | none => none
    | _ => none := rfl
@[simp] theorem yct {vs row : List AV} (h : row.length = vs.length) : yt 0 vs row = vs := by
  simp [yt, ← h]
section
variable (x : Ins) (n : Int) (s : List UInt8) (o : Option (List Int))
@[simp] theorem y19v : yt 0 [.int .i64 n] (enc x) = enc { x with op := n } := rfl
@[simp] theorem y18x : yt 1 [.int .i64 n] (enc x) = enc { x with d := n } := rfl
@[simp] theorem y19u : yt 2 [.int .i64 n] (enc x) = enc { x with a := n } := rfl
@[simp] theorem y1aa : yt 3 [.int .i64 n] (enc x) = enc { x with b := n } := rfl
@[simp] theorem y19b : yt 4 [.int .i64 n] (enc x) = enc { x with c := n } := rfl
@[simp] theorem y1ae : yt 5 [.int .i64 n] (enc x) = enc { x with n := n } := rfl
@[simp] theorem y19l : yt 6 [.int .i64 n] (enc x) = enc { x with t := n } := rfl
@[simp] theorem y1ac : yt 7 [.str s] (enc x) = enc { x with s := s } := rfl
@[simp] theorem y18t : yt 8 [slA o] (enc x) = enc { x with args := o } := rfl
end
def ycj (x : Ins) (v : AV) : List AV := [.int .i64 x.op, .int .i64 x.d, .int .i64 x.a, .int .i64 x.b, .int .i64 x.c, .int .i64 x.n, .int .i64 x.t, .str x.s, v]
@[simp] theorem y182 (x : Ins) (id g es off len : Nat) : yt 8 [.ls id g es off len] (enc x) = ycj x (.ls id g es off len) := rfl
@[simp] theorem y18e (x : Ins) : yt 8 [.nils] (enc x) = enc { x with args := none } := rfl
@[simp] theorem y14k (x : Ins) (v : AV) : (ycj x v).length = 9 := rfl
@[simp] theorem y14n (x : Ins) (v : AV) : y4a true 9 (ycj x v) = some (.agg (ycj x v)) := rfl
@[simp] theorem y14m (x : Ins) (w : AV) : (∀ v, v ∈ ycj x w → ym v = true) ↔ ym w = true := by simp [ycj]
def ygr (r : Ex AV) (v : AV) : Prop := ∃ q, fz (y1o r.objs) y14 r.v = some q ∧ q.v = v
@[simp] theorem y5q (agg : Bool) (n id g i off : Nat) (h : Heap) : evLd agg n (.lp id g i off) h = match yg h id g with
    | some (_, _, rows) => match rows[i]? with
      | some row => y4a agg n (row.drop off)
      | none => none
    | none => none := rfl
end Go.Vm
namespace Go.Vm
open Cel
def inI (n : Int) : Prop := -9223372036854775808 ≤ n ∧ n ≤ 9223372036854775807
abbrev tyI : Ty := .int .i64
theorem yat {cs : List AV} (h : tyI.has cs) : ∃ n : Int, cs = [.int .i64 n] ∧ inI n := by
  obtain ⟨n, rfl, h1, h2⟩ := h
  exact ⟨n, rfl, by simpa [IntKind.min, IntKind.max, IntKind.signed, IntKind.bits] using h1, by simpa [IntKind.min, IntKind.max, IntKind.signed, IntKind.bits] using h2⟩
theorem y6r {cs : List AV} (h : Ty.str.has cs) : ∃ s : List UInt8, cs = [.str s] ∧ s.length ≤ reachBytes := h
theorem yjc {α : Type} [Cel α] {T : Ty} {Q : α → Prop} (hT : ∀ row, T.has row → ∃ x : α, row = enc x ∧ Q x) : ∀ (rows : List (List AV)), (∀ row, row ∈ rows → T.has row) → ∃ L : List α, rows = L.map enc ∧ ∀ x ∈ L, Q x
  | [], _ => ⟨[], rfl, fun x h => by cases h⟩
  | r :: rows, h => by
    obtain ⟨L, rfl, hL⟩ := yjc hT rows (fun row hr => h row (by simp [hr]))
    obtain ⟨x, rfl, hx⟩ := hT r (h r (by simp))
    refine ⟨x :: L, rfl, fun y hy => ?_⟩
    rcases List.mem_cons.1 hy with rfl | hy
    · exact hx
    · exact hL y hy
theorem y9c {α : Type} [Cel α] {T : Ty} {Q : α → Prop} (hT : ∀ row, T.has row → ∃ x : α, row = enc x ∧ Q x) {cs : List AV} (h : (Ty.slice (es α) T).has cs) : ∃ o : Option (List α), cs = [slA o] ∧ (lst o).length ≤ maxLen ∧ (lst o).length * T.bytes ≤ reachBytes ∧ ∀ x ∈ lst o, Q x := by
  rcases h with rfl | ⟨rows, rfl, hl, hz, hr⟩
  · exact ⟨none, rfl, Nat.zero_le _, by simp, fun x h => by cases h⟩
  · obtain ⟨L, rfl, hL⟩ := yjc hT rows hr
    exact ⟨some L, rfl, by simpa using hl, by simpa using hz, hL⟩
abbrev y124 : Ty := .struct (.sCons tyI (.sCons tyI (.sCons tyI (.sCons .str .sNil))))
structure InsOk (x : Ins) : Prop where
  op : inI x.op
  d : inI x.d
  a : inI x.a
  b : inI x.b
  c : inI x.c
  n : inI x.n
  t : inI x.t
  s : x.s.length ≤ reachBytes
  len : (lst x.args).length * 8 ≤ reachBytes
  args : ∀ r ∈ lst x.args, inI r
structure RowOk (r : Row) : Prop where
  f : inI r.f
  t : inI r.t
  a : inI r.at_
  c : r.c.length ≤ reachBytes
structure FnIn (f : Fn) : Prop where
  regs : (lst f.regs).length * 8 ≤ reachBytes
  regI : ∀ x ∈ lst f.regs, inI x
  params : (lst f.params).length * 8 ≤ reachBytes
  parI : ∀ x ∈ lst f.params, inI x
  ret : inI f.ret
  code : (lst f.code).length * 96 ≤ reachBytes
  insI : ∀ x ∈ lst f.code, InsOk x
  rows : (lst f.rows).length * 40 ≤ reachBytes
  rowI : ∀ x ∈ lst f.rows, RowOk x
theorem y13h {cs : List AV} (h : y124.has cs) : ∃ x : Row, cs = enc x ∧ RowOk x := by
  obtain ⟨_, _, rfl, h1, _, _, rfl, h2, _, _, rfl, h3, _, _, rfl, h8, rfl⟩ := h
  obtain ⟨f, rfl, k1⟩ := yat h1
  obtain ⟨t, rfl, k2⟩ := yat h2
  obtain ⟨a, rfl, k3⟩ := yat h3
  obtain ⟨s, rfl, k8⟩ := y6r h8
  exact ⟨⟨f, t, a, s⟩, rfl, ⟨k1, k2, k3, k8⟩⟩
end Go.Vm
namespace Go.Vm
abbrev Txt := List UInt8
def sObj : Txt := [79, 98, 106, 101, 99, 116]
def tObj : Txt := [76, 79, 98, 106, 101, 99, 116, 59]
def yo (s : Txt) : Txt := if 2 < s.length ∧ s.head? = some 76 ∧ s.getLast? = some 59 then (s.drop 1).dropLast else []
def y1h (s : Txt) : Txt := if 1 < s.length ∧ s.head? = some 91 then s.drop 1 else []
def y85 (s : Txt) : Int := if s = [73] then 1 else if s = [74] then 2 else if s = [78] ∨ s.head? = some 76 ∨ s.head? = some 91 then 3 else 0
section
variable (up : Txt → Txt → Bool)
def ym0 : Nat → Txt → Txt → Bool
  | 0, _, _ => false
  | n + 1, a, b =>
    if b = [] then true else if a = [] then false else if a = b then true else if a = [78] then decide (y85 b = 3) else
    if yo b ≠ [] then (if a.head? = some 91 then decide (yo b = sObj) else decide (yo a ≠ []) && up (yo a) (yo b))
    else decide (y1h a ≠ []) && decide (y1h b ≠ []) && decide (y85 (y1h a) = 3) && ym0 n (y1h a) (y1h b)
def y6t (a b : Txt) : Bool := ym0 up (a.length + 1) a b
theorem y51 {s : Txt} (h : y1h s ≠ []) : (y1h s).length + 1 = s.length ∧ s.head? = some 91 ∧ 1 < s.length := by
  unfold y1h at h ⊢
  split at h
  · rename_i hc
    rw [if_pos hc, List.length_drop]
    exact ⟨by omega, hc.2, hc.1⟩
  · exact (h rfl).elim
theorem y6h {s : Txt} (h : yo s ≠ []) : s.head? = some 76 ∧ 2 < s.length := by
  unfold yo at h
  split at h
  · rename_i hc
    exact ⟨hc.2.1, hc.1⟩
  · exact (h rfl).elim
theorem yhs : ∀ (n m : Nat) (a b : Txt), a.length < n → a.length < m → ym0 up n a b = ym0 up m a b
  | 0, _, _, _, h, _ => by omega
  | _ + 1, 0, _, _, _, h => by omega
  | n + 1, m + 1, a, b, h1, h2 => by
    unfold ym0
    by_cases he : y1h a ≠ []
    · have hl := (y51 he).1
      rw [yhs n m (y1h a) (y1h b) (by omega) (by omega)]
    · rw [decide_eq_false he]
      simp only [Bool.false_and]
theorem y2x (a b : Txt) : y6t up a b = (if b = [] then true else if a = [] then false else if a = b then true else if a = [78] then decide (y85 b = 3) else
    if yo b ≠ [] then (if a.head? = some 91 then decide (yo b = sObj) else decide (yo a ≠ []) && up (yo a) (yo b))
    else decide (y1h a ≠ []) && decide (y1h b ≠ []) && decide (y85 (y1h a) = 3) && y6t up (y1h a) (y1h b)) := by
  conv => lhs; unfold y6t ym0
  by_cases he : y1h a ≠ []
  · have hl := (y51 he).1
    rw [yhs up a.length ((y1h a).length + 1) (y1h a) (y1h b) (by omega) (by omega)]
    rfl
  · rw [decide_eq_false he]
    simp only [Bool.false_and]
theorem yiw (a : Txt) : y6t up a [] = true := by rw [y2x, if_pos rfl]
theorem y80 (a : Txt) : y6t up a a = true := by
  rw [y2x]
  split
  · rfl
  · rw [if_pos rfl]
theorem y78 {b : Txt} (h : b ≠ []) : y6t up [] b = false := by rw [y2x, if_neg h, if_pos rfl]
theorem yc8 {s : Txt} (h : yo s ≠ []) : y85 s = 3 := by
  obtain ⟨h1, h2⟩ := y6h h
  unfold y85
  rw [if_neg (fun e => by rw [e] at h2; simp at h2), if_neg (fun e => by rw [e] at h2; simp at h2), if_pos (.inr (.inl h1))]
theorem yeq {s : Txt} (h : y1h s ≠ []) : y85 s = 3 := by
  obtain ⟨_, h1, h2⟩ := y51 h
  unfold y85
  rw [if_neg (fun e => by rw [e] at h2; simp at h2), if_neg (fun e => by rw [e] at h2; simp at h2), if_pos (.inr (.inr h1))]
theorem ymh (ht : ∀ x y z, up x y = true → up y z = true → up x z = true) (ho : ∀ z, up sObj z = true → z = sObj) : ∀ (n : Nat) (a b c : Txt), a.length ≤ n → y6t up a b = true → y6t up b c = true → b ≠ [] → y6t up a c = true := by
  intro n
  induction n with
  | zero =>
    intro a b c hl h1 _ hb
    have : a = [] := List.eq_nil_of_length_eq_zero (by omega)
    rw [this, y78 up hb] at h1
    cases h1
  | succ n ih =>
    intro a b c hl h1 h2 hb
    by_cases hc : c = []
    · rw [hc]; exact yiw up a
    by_cases hab : a = b
    · rw [hab]; exact h2
    by_cases hbc : b = c
    · rw [← hbc]; exact h1
    have ha : a ≠ [] := fun e => by rw [e, y78 up hb] at h1; cases h1
    by_cases hac : a = c
    · rw [hac]; exact y80 up c
    rw [y2x, if_neg hb, if_neg ha, if_neg hab] at h1
    rw [y2x, if_neg hc, if_neg hb, if_neg hbc] at h2
    rw [y2x, if_neg hc, if_neg ha, if_neg hac]
    by_cases hN : a = [78]
    · rw [if_pos hN] at h1 ⊢
      rw [decide_eq_true_eq] at h1 ⊢
      have hbN : b ≠ [78] := fun e => hab (by rw [hN, e])
      rw [if_neg hbN] at h2
      by_cases hcc : yo c ≠ []
      · exact yc8 hcc
      · rw [if_neg hcc] at h2
        simp only [Bool.and_eq_true, decide_eq_true_eq] at h2
        exact yeq h2.1.1.2
    rw [if_neg hN] at h1 ⊢
    by_cases hcb : yo b ≠ []
    · obtain ⟨hb1, hb2⟩ := y6h hcb
      have hbN : b ≠ [78] := fun e => by rw [e] at hb2; simp at hb2
      have hb91 : b.head? ≠ some 91 := by rw [hb1]; decide
      rw [if_pos hcb] at h1
      rw [if_neg hbN] at h2
      by_cases hcc : yo c ≠ []
      · rw [if_pos hcc, if_neg hb91] at h2
        rw [if_pos hcc]
        simp only [Bool.and_eq_true, decide_eq_true_eq] at h2
        by_cases h91 : a.head? = some 91
        · rw [if_pos h91] at h1 ⊢
          rw [decide_eq_true_eq] at h1 ⊢
          rw [h1] at h2
          exact ho _ h2.2
        · rw [if_neg h91] at h1 ⊢
          simp only [Bool.and_eq_true, decide_eq_true_eq] at h1 ⊢
          exact ⟨h1.1, ht _ _ _ h1.2 h2.2⟩
      · rw [if_neg hcc] at h2
        simp only [Bool.and_eq_true, decide_eq_true_eq] at h2
        exact (hb91 (y51 h2.1.1.1).2.1).elim
    · rw [if_neg hcb] at h1
      simp only [Bool.and_eq_true, decide_eq_true_eq] at h1
      obtain ⟨⟨⟨e1, e2⟩, e3⟩, e4⟩ := h1
      obtain ⟨la, a91, _⟩ := y51 e1
      obtain ⟨lb, b91, b2⟩ := y51 e2
      have hbN : b ≠ [78] := fun e => by rw [e] at b2; simp at b2
      rw [if_neg hbN] at h2
      by_cases hcc : yo c ≠ []
      · rw [if_pos hcc, if_pos b91] at h2
        rw [if_pos hcc, if_pos a91]
        exact h2
      · rw [if_neg hcc] at h2 ⊢
        simp only [Bool.and_eq_true, decide_eq_true_eq] at h2 ⊢
        exact ⟨⟨⟨e1, h2.1.1.2⟩, e3⟩, ih _ _ _ (by omega) e4 h2.2 e2⟩
theorem yxb {x : Txt} (hx : x = [73] ∨ x = [74] ∨ (x.head? = some 91 ∧ 1 < x.length) ∨ (yo x ≠ [] ∧ up (yo x) sObj = true)) :
    let ref := decide (x.head? = some 76 ∨ x.head? = some 91)
    y6t up [78] x = ref ∧ y6t up x tObj = ref ∧ y6t up ([91] ++ x) ([91] ++ tObj) = ref := by
  have cO : yo tObj = sObj := by decide
  have cN : yo tObj ≠ [] := by decide
  have nO : tObj ≠ [] := by decide
  intro ref
  have hne : x ≠ [] := by
    rcases hx with rfl | rfl | ⟨h, _⟩ | ⟨h, _⟩
    · decide
    · decide
    · intro e; rw [e] at h; cases h
    · intro e; rw [e] at h; exact h (by decide)
  have h78 : x ≠ [78] := by
    rcases hx with rfl | rfl | ⟨_, h⟩ | ⟨h, _⟩
    · decide
    · decide
    · intro e; rw [e] at h; simp at h
    · intro e; rw [e] at h; exact h (by decide)
  have k : decide (y85 x = 3) = ref := by
    rcases hx with rfl | rfl | ⟨h, h2⟩ | ⟨h, _⟩
    · rfl
    · rfl
    · rw [show ref = true from decide_eq_true (.inr h)]
      refine decide_eq_true (yeq (s := x) ?_)
      unfold y1h
      rw [if_pos ⟨h2, h⟩]
      intro e
      have := congrArg List.length e
      simp at this
      omega
    · rw [show ref = true from decide_eq_true (.inl (y6h h).1)]
      exact decide_eq_true (yc8 h)
  have tO : y6t up x tObj = ref := by
    by_cases e : x = tObj
    · rw [e, y80]
      rw [show ref = true from by simp only [ref, e]; decide]
    rw [y2x, if_neg nO, if_neg hne, if_neg e, if_neg h78, if_pos cN, cO]
    rcases hx with rfl | rfl | ⟨h, _⟩ | ⟨h, h2⟩
    · rfl
    · rfl
    · rw [if_pos h, show ref = true from decide_eq_true (.inr h)]; rfl
    · have h76 := (y6h h).1
      rw [if_neg (by rw [h76]; decide), decide_eq_true h, h2, show ref = true from decide_eq_true (.inl h76)]; rfl
  refine ⟨?_, tO, ?_⟩
  · rw [y2x, if_neg hne, if_neg (by decide), if_neg (fun e => h78 e.symm), if_pos rfl, k]
  · by_cases e : x = tObj
    · rw [e, y80]
      rw [show ref = true from by simp only [ref, e]; decide]
    have e1 : y1h ([91] ++ x) = x := by
      unfold y1h
      rw [if_pos ⟨by rcases List.exists_cons_of_ne_nil hne with ⟨a, l, rfl⟩; simp, rfl⟩]
      rfl
    have e2 : y1h ([91] ++ tObj) = tObj := by decide
    have e3 : yo ([91] ++ tObj) = [] := by decide
    rw [y2x, if_neg (by decide), if_neg (by simp), if_neg (fun h => e (by simpa using h)), if_neg (fun h => by injection h with h1 _; exact absurd h1 (by decide)), if_neg (by rw [e3]; simp), e1, e2, decide_eq_true hne, decide_eq_true nO, tO, k]
    cases ref <;> rfl
end
end Go.Vm
namespace Go.Vm
open Cel
attribute [local simp] y6 y4d ycm
theorem yc0 (a b : UInt8) : decide ((a.toNat : Int) = (b.toNat : Int)) = decide (a = b) := by
  rw [Bool.eq_iff_iff]
  simp only [decide_eq_true_eq]
  constructor
  · intro h
    exact UInt8.toNat_inj.1 (by omega)
  · rintro rfl; rfl
@[simp] theorem yya (a : UInt8) : decide ((a.toNat : Int) = 76) = decide (a = 76) := yc0 a 76
@[simp] theorem ydc (a : UInt8) : decide ((a.toNat : Int) = 91) = decide (a = 91) := yc0 a 91
@[simp] theorem y14z (a : UInt8) : decide ((a.toNat : Int) = 59) = decide (a = 59) := yc0 a 59
@[simp] theorem y1ah (a : UInt8) : decide ((a.toNat : Int) = 73) = decide (a = 73) := yc0 a 73
@[simp] theorem y192 (a : UInt8) : decide ((a.toNat : Int) = 74) = decide (a = 74) := yc0 a 74
theorem y6j {s : Txt} {i : Nat} {b : UInt8} (h : s[i]? = some b) (k : IntKind) : y1k (.str s) (.int k i) = some (.int .u8 b.toNat) := by
  simp [y1k, h]
theorem y3l (a : UInt8) (s : Txt) (k : IntKind) : y1k (.str (a :: s)) (.int k 0) = some (.int .u8 a.toNat) := y6j (i := 0) rfl k
theorem yjx {s : Txt} {i : Nat} (h : i ≤ s.length) (k : IntKind) : yai (.str s) (some (.int k i)) none = some (.str (s.drop i)) := by
  simp [yai, y9f, ygz, h]
theorem yzs {s : Txt} {i j : Nat} (h : i ≤ j) (h2 : j ≤ s.length) (k k' : IntKind) : yai (.str s) (some (.int k i)) (some (.int k' j)) = some (.str ((s.take j).drop i)) := by
  simp [yai, y9f, ygz, h, h2]
abbrev Sm (s : Txt) : Prop := s.length ≤ 9223372036854775806
theorem y0d {s : Txt} (h : 2 < s.length) : ∃ a m z, s = a :: (m ++ [z]) ∧ m ≠ [] := by
  obtain ⟨a, r, rfl⟩ := List.exists_cons_of_ne_nil (l := s) (by intro e; rw [e] at h; simp at h)
  have hr : r ≠ [] := by intro e; rw [e] at h; simp at h
  refine ⟨a, r.dropLast, r.getLast hr, by rw [List.dropLast_concat_getLast], ?_⟩
  intro e
  have := congrArg List.length e
  simp at this h
  omega
theorem yfn (a : UInt8) (m : Txt) (z : UInt8) (hm : m ≠ []) : yo (a :: (m ++ [z])) = if a = 76 ∧ z = 59 then m else [] := by
  have : 0 < m.length := List.length_pos_iff.2 hm
  unfold yo
  have e1 : (a :: (m ++ [z])).getLast? = some z := by
    rw [← List.cons_append, List.getLast?_concat]
  rw [e1]
  simp only [List.length_cons, List.length_append, List.length_nil, List.head?_cons, Option.some.injEq, List.drop_one, List.tail_cons, List.dropLast_concat]
  by_cases h : a = 76 ∧ z = 59
  · rw [if_pos h, if_pos ⟨by omega, h.1, h.2⟩]
  · rw [if_neg h, if_neg (fun e => h ⟨e.2.1, e.2.2⟩)]
theorem y0z (s : Txt) (hs : Sm s) : (y8 E).p 35 [.str s] = some ⟨.str (yo s), [], true, [], []⟩ := by
  rw [x_q3]
  by_cases h : 2 < s.length
  · obtain ⟨a, m, z, rfl, hm⟩ := y0d h
    have hl : (a :: (m ++ [z])).length = m.length + 2 := by simp
    unfold Sm at hs
    rw [hl] at hs
    rw [yfn a m z hm]
    have hc : (2 : Int) < ((m.length + 2 : Nat) : Int) := by have := List.length_pos_iff.2 hm; omega
    have hw : IntKind.wrap .i64 (((m.length + 2 : Nat) : Int) - 1) = ((m.length + 1 : Nat) : Int) := by rw [yp4 (by omega) (by omega)]; simp
    have ix : y1k (.str (a :: (m ++ [z]))) (.int .i64 ((m.length + 1 : Nat) : Int)) = some (.int .u8 z.toNat) := y6j (by simp) .i64
    have sl : yai (.str (a :: (m ++ [z]))) (some (.int .i64 1)) (some (.int .i64 ((m.length + 1 : Nat) : Int))) = some (.str m) := by
      have := yzs (s := a :: (m ++ [z])) (i := 1) (j := m.length + 1) (by omega) (by simp) .i64 .i64
      rw [show ((1 : Nat) : Int) = 1 from rfl] at this
      rw [this]
      simp
    unfold q3_3 q3_2
    rw [y1i, hl]
    simp only [y3, y2u, hc, decide_true, y3b, y3l, yi, yya]
    by_cases h1 : a = 76
    · simp only [h1, decide_true, yj, y3, y3b, yet, hw, true_and]
      rw [h1] at ix sl
      simp only [ix, y3, yi, y14z]
      by_cases h2 : z = 59
      · simp only [h2, decide_true, y1f, if_true, yet, y3, hw]
        rw [h2] at sl
        rw [sl]
        simp
      · simp only [h2, decide_false, yy, if_false]
        simp [q3_1]
    · simp only [h1, decide_false, yj, y3, y8q, yl, yy, false_and, if_false]
      simp [q3_1]
  · have hc : ¬ (2 : Int) < (s.length : Int) := by omega
    have e : yo s = [] := by unfold yo; rw [if_neg (fun q => h q.1)]
    rw [e]
    simp [q3_3, q3_2, q3_1, hc]
theorem ys0 (s : Txt) : (y8 E).p 36 [.str s] = some ⟨.str (y1h s), [], true, [], []⟩ := by
  rw [x_q4]
  match s with
  | [] => simp [y1h, q4_3, q4_2, q4_1]
  | [a] => simp [y1h, q4_3, q4_2, q4_1]
  | a :: b :: m =>
    have hc : (1 : Int) < ((a :: b :: m).length : Int) := by simp; omega
    have sl := yjx (s := a :: b :: m) (i := 1) (by simp) .i64
    rw [show ((1 : Nat) : Int) = 1 from rfl] at sl
    have e : y1h (a :: b :: m) = if a = 91 then b :: m else [] := by
      unfold y1h
      simp
    rw [e]
    unfold q4_3 q4_2
    by_cases h1 : a = 91
    · subst h1
      simp only [y1i, y3, y2u, hc, decide_true, y3b, y3l, yi, ydc, yj, y1f, if_true]
      rw [sl]
      simp
    · simp only [y1i, y3, y2u, hc, decide_true, y3b, y3l, yi, ydc, h1, decide_false, yj, yy, if_false]
      simp [q4_1]
theorem y17r (s : Txt) : (y8 E).p 34 [.str s] = some ⟨.int .i64 (y85 s), [], true, [], []⟩ := by
  rw [x_q5]
  unfold q5_3 q5_2
  by_cases h1 : s = [73]
  · rw [h1]; rfl
  by_cases h2 : s = [74]
  · rw [h2]; rfl
  by_cases h3 : s = [78]
  · rw [h3]; rfl
  have e : y85 s = if s.head? = some 76 ∨ s.head? = some 91 then 3 else 0 := by
    unfold y85
    rw [if_neg h1, if_neg h2]
    simp only [h3, false_or]
  rw [e]
  simp only [y40, h1, h2, h3, decide_false, y3, yy, y3m, y1x]
  cases s with
  | nil => simp [q5_1]
  | cons a m =>
    simp only [ne_eq, reduceCtorEq, not_false_eq_true, decide_true, y3, y3m, y3b, y3l, yi, yya, List.head?_cons, Option.some.injEq]
    by_cases h4 : a = 76
    · simp [h4]
    · by_cases h5 : a = 91
      · simp [h5, y3l]
      · simp [h4, h5, y3l, q5_1]
def okC (m : Bool) (b : UInt8) : Bool := decide (97 ≤ b ∧ b ≤ 122) || decide (65 ≤ b ∧ b ≤ 90) || decide (48 ≤ b ∧ b ≤ 57) || decide (b = 95) || decide (b = 36) || decide (b = 47) || (m && (decide (b = 60) || decide (b = 62)))
def y7r (m : Bool) (s : Txt) : Bool := decide (1 ≤ s.length) && decide (s.length ≤ 60) && s.all (okC m)
theorem yms (a b : UInt8) : decide ((a.toNat : Int) ≤ (b.toNat : Int)) = decide (a ≤ b) := by
  rw [Bool.eq_iff_iff]
  simp only [decide_eq_true_eq, UInt8.le_iff_toNat_le]
  omega
theorem ysk (m : Bool) (v17 v18 v19 : AV) (b : UInt8) (h : Heap) (hx : (match y2v 1 v17 v19 with | some a => evLd false 1 a h | none => none) = some (.int .u8 b.toNat)) :
    q6_4 (.bool m) v17 v18 v19 h = if okC m b then q6_3 (.bool m) v17 v18 v19 h else some ⟨.bool false, [], true, [], []⟩ := by
  cases hi : y2v 1 v17 v19 with
  | none => rw [hi] at hx; cases hx
  | some a =>
    rw [hi] at hx
    simp only at hx
    unfold q6_4
    have f97 : y9 .geq (.int .u8 b.toNat) (.int .u8 97) = some (.bool (decide (97 ≤ b))) := by rw [ybt]; exact congrArg (fun q => some (AV.bool q)) (yms 97 b)
    have f122 : y9 .leq (.int .u8 b.toNat) (.int .u8 122) = some (.bool (decide (b ≤ 122))) := by rw [yac]; exact congrArg (fun q => some (AV.bool q)) (yms b 122)
    have f65 : y9 .geq (.int .u8 b.toNat) (.int .u8 65) = some (.bool (decide (65 ≤ b))) := by rw [ybt]; exact congrArg (fun q => some (AV.bool q)) (yms 65 b)
    have f90 : y9 .leq (.int .u8 b.toNat) (.int .u8 90) = some (.bool (decide (b ≤ 90))) := by rw [yac]; exact congrArg (fun q => some (AV.bool q)) (yms b 90)
    have f48 : y9 .geq (.int .u8 b.toNat) (.int .u8 48) = some (.bool (decide (48 ≤ b))) := by rw [ybt]; exact congrArg (fun q => some (AV.bool q)) (yms 48 b)
    have f57 : y9 .leq (.int .u8 b.toNat) (.int .u8 57) = some (.bool (decide (b ≤ 57))) := by rw [yac]; exact congrArg (fun q => some (AV.bool q)) (yms b 57)
    have f95 : y9 .eql (.int .u8 b.toNat) (.int .u8 95) = some (.bool (decide (b = 95))) := by rw [yi]; exact congrArg (fun q => some (AV.bool q)) (yc0 b 95)
    have f36 : y9 .eql (.int .u8 b.toNat) (.int .u8 36) = some (.bool (decide (b = 36))) := by rw [yi]; exact congrArg (fun q => some (AV.bool q)) (yc0 b 36)
    have f47 : y9 .eql (.int .u8 b.toNat) (.int .u8 47) = some (.bool (decide (b = 47))) := by rw [yi]; exact congrArg (fun q => some (AV.bool q)) (yc0 b 47)
    have f60 : y9 .eql (.int .u8 b.toNat) (.int .u8 60) = some (.bool (decide (b = 60))) := by rw [yi]; exact congrArg (fun q => some (AV.bool q)) (yc0 b 60)
    have f62 : y9 .eql (.int .u8 b.toNat) (.int .u8 62) = some (.bool (decide (b = 62))) := by rw [yi]; exact congrArg (fun q => some (AV.bool q)) (yc0 b 62)
    have eo : okC m b = ((decide (97 ≤ b) && decide (b ≤ 122)) || (decide (65 ≤ b) && decide (b ≤ 90)) || (decide (48 ≤ b) && decide (b ≤ 57)) || decide (b = 95) || decide (b = 36) || decide (b = 47) || (m && (decide (b = 60) || decide (b = 62)))) := by
      unfold okC
      simp only [Bool.decide_and]
    rw [eo]
    simp only [hi, y3, hx]
    generalize decide (97 ≤ b) = q1 at f97 ⊢
    generalize decide (b ≤ 122) = q2 at f122 ⊢
    generalize decide (65 ≤ b) = q3 at f65 ⊢
    generalize decide (b ≤ 90) = q4 at f90 ⊢
    generalize decide (48 ≤ b) = q5 at f48 ⊢
    generalize decide (b ≤ 57) = q6 at f57 ⊢
    generalize decide (b = 95) = q7 at f95 ⊢
    generalize decide (b = 36) = q8 at f36 ⊢
    generalize decide (b = 47) = q9 at f47 ⊢
    generalize decide (b = 60) = q10 at f60 ⊢
    generalize decide (b = 62) = q11 at f62 ⊢
    cases q1 <;> cases q2 <;> simp only [f97, f122, y3b, y3m, y6u, y8q, y4r, y3, yj, yl] <;> first | rfl | skip
    all_goals (cases q3 <;> cases q4 <;> simp only [f65, f90, y3b, y3m, y6u, y8q, y4r, y3, yj, yl] <;> first | rfl | skip)
    all_goals (cases q5 <;> cases q6 <;> simp only [f48, f57, y3b, y3m, y6u, y8q, y4r, y3, yj, yl] <;> first | rfl | skip)
    all_goals (cases q7 <;> simp only [f95, y3b, y3m, y6u, y8q, y4r, y3, yj, yl] <;> first | rfl | skip)
    all_goals (cases q8 <;> simp only [f36, y3b, y3m, y6u, y8q, y4r, y3, yj, yl] <;> first | rfl | skip)
    all_goals (cases q9 <;> simp only [f47, y18, Bool.not_true, Bool.not_false, y3b, y3m, y6u, y8q, y4r, y3, yj, yl] <;> first | rfl | skip)
    all_goals (cases m <;> first | rfl | (cases q10 <;> cases q11 <;> simp only [f60, f62, y18, Bool.not_true, Bool.not_false, y3b, y3m, y6u, y8q, y4r, y3, yj, yl] <;> rfl))
end Go.Vm
namespace Go.Vm
open Cel
def nz {α : Type} : List α → Option (List α)
  | [] => none
  | x :: L => some (x :: L)
@[simp] theorem y1bc {α : Type} (L : List α) : lst (nz L) = L := by cases L <;> rfl
section
variable {α : Type} [Cel α]
def y30 (α : Type) [Cel α] (j g : Nat) : List α → AV
  | [] => .nils
  | _ :: L => .ls j g (es α) 0 (L.length + 1)
def y5n (g : Nat) (o : AO) : List α → AO
  | [] => o
  | x :: L => ⟨g, .arr false false (es α) ((x :: L).map enc)⟩
@[simp] theorem ybo (j g : Nat) : y30 α j g [] = .nils := rfl
@[simp] theorem y15a (g : Nat) (o : AO) : y5n g o ([] : List α) = o := rfl
@[simp] theorem ymd (j g : Nat) (L : List α) (H : Heap) : y19 1 (y30 α j g L) H = some (.int .i64 L.length) := by
  cases L <;> simp [y30, y19]
@[simp] theorem yfl (j g : Nat) (L : List α) : cellsOf (y30 α j g L) = [y30 α j g L] := by cases L <;> rfl
@[simp] theorem y14r (j g : Nat) (L : List α) : ym (y30 α j g L) = true := by cases L <;> rfl
theorem ye2 {H : Heap} {fb j g b : Nat} {o : AO} {y : AV} {L M : List α} (hy : y2a H (es α) y = some (M.map enc)) (h : H[fb + j]? = some (y5n g o L)) (hs : (2 * (L.length + M.length) + 512) * b ≤ 2 ^ 48) :
    ∃ g', y69 fb (some j) (es α) b (y30 α (fb + j) g L) y H = some (y30 α (fb + j) g' (L ++ M), H.set (fb + j) (y5n g' o (L ++ M))) := by
  unfold y69
  rw [hy]
  have hlt : fb + j < H.length := (List.getElem?_eq_some_iff.1 h).1
  cases L with
  | nil =>
    cases M with
    | nil =>
      refine ⟨g, ?_⟩
      simp only [y30, List.map_nil, List.isEmpty_nil, if_true, List.append_nil, y5n]
      rw [y5n] at h
      rw [show H.set (fb + j) o = H from by
        refine List.ext_getElem? fun i => ?_
        rw [List.getElem?_set]
        split
        · rename_i e; subst e; simp [h]
        · rfl]
    | cons y M =>
      refine ⟨o.gen + 1, ?_⟩
      rw [y5n] at h
      have hm : (M.length + 1) * b ≤ 281474976710656 := Nat.le_trans (Nat.mul_le_mul_right b (by simp only [List.length_nil, List.length_cons]; omega)) hs
      simp [y30, hm, y2s, place, h, y5n]
  | cons x L =>
    refine ⟨g + 1, ?_⟩
    have h' : H[fb + j]? = some ⟨g, .arr false false (es α) ((x :: L).map enc)⟩ := h
    simp only [y30, h']
    rw [if_pos (by simp; first | simpa using hs | exact .inl (by simpa using hs))]
    simp only [List.drop_zero]
    rw [show ((x :: L).map (enc (α := α))).take (L.length + 1) = (x :: L).map enc from y7k (x :: L)]
    simp [y30, y5n, Nat.add_right_comm]
end
@[simp] theorem y15g (h : Heap) (es id g es1 off len : Nat) : y2a h es (.ls id g es1 off len) = match yg h id g with
    | some (_, es', rows) => if es1 = es ∧ es' = es ∧ off + len ≤ rows.length then some ((rows.drop off).take len) else none
    | none => none := rfl
@[simp] theorem y1b6 {α : Type} [Cel α] (x : α) (L : List α) : exO (nz (x :: L)) = ⟨.ls 0 0 (es α) 0 (L.length + 1), [.arr false false (es α) ((x :: L).map enc)], (x :: L).all scal, [], []⟩ := rfl
abbrev D0 : AO := ⟨0, .dead⟩
section
variable {α : Type} [Cel α]
end
@[simp] theorem y19r {α : Type} [Cel α] : exO (nz ([] : List α)) = ⟨.nils, [], true, [], []⟩ := rfl
theorem yvw {n : Nat} {p : Int} (h0 : 0 ≤ p) (h1 : p < (n : Int)) (id g : Nat) (k : IntKind) : y2v 1 (.ls id g 1 0 n) (.int k p) = some (.lp id g p.toNat 0) := by simp [y2v, h0, h1]
end Go.Vm
namespace Go.Vm
open Cel
section
variable {α : Type} [Cel α]
def ownV (j g : Nat) : Option (List α) → AV
  | none => .nils
  | some L => .ls j g (es α) 0 L.length
def ownO (g : Nat) (d : AO) : Option (List α) → AO
  | none => d
  | some L => ⟨g, .arr false false (es α) (L.map enc)⟩
def ownI (j : Nat) : Option (List α) → List Nat
  | none => []
  | some _ => [j]
@[simp] theorem y138 (j g : Nat) (o : Option (List α)) : cellsOf (ownV j g o) = [ownV j g o] := by cases o <;> rfl
@[simp] theorem y159 (j g : Nat) (o : Option (List α)) : ym (ownV j g o) = true := by cases o <;> rfl
@[simp] theorem y165 (j g : Nat) (o : Option (List α)) : known (ownV j g o) = true := by cases o <;> rfl
@[simp] theorem y154 (j g : Nat) (o : Option (List α)) (H : Heap) : y19 1 (ownV j g o) H = some (.int .i64 (lst o).length) := by cases o <;> rfl
theorem ywi {H : Heap} {i : Nat} {o : AO} (h : H[i]? = some o) : H.set i o = H := by
  refine List.ext_getElem? fun k => ?_
  rw [List.getElem?_set]
  split
  · rename_i e; subst e
    rw [if_pos (List.getElem?_eq_some_iff.1 h).1, h]
  · rfl
theorem ywl {H : Heap} {j g : Nat} {d : AO} {L : List α} (h : H[j]? = some (ownO g d (some L))) : yg H j g = some (false, es α, L.map enc) := by
  simp [yg, y29, h, ownO]
theorem y16n {H : Heap} {j g k : Nat} {d : AO} {o : Option (List α)} (h : H[j]? = some (ownO g d o)) : fz H (k + 2) (ownV j g o) = some ⟨slA o, (lst o).all scal, ownI j o⟩ := by
  cases o with
  | none => rfl
  | some L =>
    rw [ownV, y16z, ywl h]
    simp only [List.drop_zero, Nat.zero_add, List.length_map, Nat.le_refl, and_self, if_true, y7k, yxi]
    simp [slA, ownI]
end
theorem y6o {E : Env} {C : Calls2} {fb f : Nat} {args : List AV} {h : Heap} {fa : Fz (List AV)} {r : Ex AV} {v : AV} (hE : E.pure f = true) (ha : ye (fz h y14) args = some fa) (hf : fa.ids = [])
    (hc : C.p f fa.v = some r) (hr : ygr r v) (sl : Option Nat := none) (hsl : sl = none := by rfl) : y6 E C fb sl true f args h = some (v, h) := by
  subst hsl
  obtain ⟨q, h1, h2⟩ := hr
  simp [y6, hE, y4d, ha, hc, hf, h1, h2]
theorem ywb {E : Env} {C : Calls2} {fb f : Nat} {args : List AV} {h : Heap} {fa : Fz (List AV)} {r : Ex AV} (hE : E.pure f = true) (ha : ye (fz h y14) args = some fa) (hf : fa.ids = [])
    (hc : C.p f fa.v = some r) (sl : Option Nat := none) (hsl : sl = none := by rfl) : yky E C fb sl true f args h = some ([], []) := by
  subst hsl
  simp [yky, hE, ha, hc, hf]
end Go.Vm
namespace Go.Vm
open Cel
theorem y32 {H : Heap} {a : Nat} {x : AO} (h : a < H.length) : (H.set a x)[a]? = some x := by simp [h]
theorem yq {H : Heap} {a b : Nat} {x : AO} (h : a ≠ b) : (H.set a x)[b]? = H[b]? := List.getElem?_set_ne h
theorem yme {H : Heap} {n b : Nat} (h : b < H.length) : (H ++ yf n)[b]? = H[b]? := List.getElem?_append_left h
theorem y19i {H : Heap} {n j : Nat} (h : j < n) : (H ++ yf n)[H.length + j]? = some ⟨0, .dead⟩ := by
  rw [List.getElem?_append_right (by omega), Nat.add_sub_cancel_left, yf, List.getElem?_replicate, if_pos h]
theorem y1m {H : Heap} {a : Nat} {x : AO} (h : H[a]? = some x) : a < H.length := (List.getElem?_eq_some_iff.1 h).1
theorem y12l {α : Type} [Cel α] {H : Heap} {id g : Nat} {L : List α} (h : H[id]? = some ⟨g, .arr false false (es α) (L.map enc)⟩) : y2a H (es α) (.ls id g (es α) 0 L.length) = some (L.map enc) := by
  simp [y2a, yg, y29, h]
theorem ysg {α : Type} [Cel α] {H : Heap} {id g k : Nat} {L : List α} (h : H[id]? = some ⟨g, .arr false false (es α) (L.map enc)⟩) : fz H (k + 2) (.ls id g (es α) 0 L.length) = some ⟨slA (some L), L.all scal, [id]⟩ :=
  y16n (o := some L) (d := ⟨0, .dead⟩) h
theorem yku {H : Heap} {id g i es : Nat} {rows : List (List AV)} {v : AV} (h : H[id]? = some ⟨g, .arr false false es rows⟩) (hx : rows[i]? = some [v]) : evLd false 1 (.lp id g i 0) H = some v := by
  have hr : yg H id g = some (false, es, rows) := by simp [yg, y29, h]
  rw [y5q, hr]
  simp [hx]
end Go.Vm
namespace Go.Vm
open Cel
attribute [local simp] y6 y4d ycm
def yff (s : Txt) : List (List AV) := s.map fun b => [.int .u8 b.toNat]
theorem ysj (m : Bool) (s : Txt) (hs : Sm s) : ∀ (d i : Nat), i + d = s.length →
    ypp (.bool m) (.ls 0 1 1 0 s.length) (.int .i64 s.length) (.int .i64 i) [⟨1, .arr false false 1 (yff s)⟩] = some ⟨.bool ((s.drop i).all (okC m)), [], true, [], []⟩ := by
  intro d
  induction d with
  | zero =>
    intro i hi
    have hc : ¬ ((i : Int) < (s.length : Int)) := by omega
    rw [yl3, List.drop_eq_nil_of_le (by omega)]
    simp only [q6_6, yh, hc, decide_false, y3, q6_5, yy]
    rfl
  | succ d ih =>
    intro i hi
    have hlt : i < s.length := by omega
    have hc : ((i : Int) < (s.length : Int)) := by omega
    have hw := y2j hlt (by unfold Sm at hs; omega)
    have ih := ih (i + 1) (by omega)
    push_cast at ih
    rw [yl3, List.drop_eq_getElem_cons hlt, List.all_cons]
    have hix : (match y2v 1 (.ls 0 1 1 0 s.length) (.int .i64 (i : Int)) with | some a => evLd false 1 a [⟨1, .arr false false 1 (yff s)⟩] | none => none) = some (.int .u8 (s[i]).toNat) := by
      have e1 : y2v 1 (.ls 0 1 1 0 s.length) (.int .i64 (i : Int)) = some (.lp 0 1 i 0) := by
        have := yvw (n := s.length) (p := (i : Int)) (by omega) hc 0 1 .i64
        simpa using this
      rw [e1]
      exact yku (id := 0) (es := 1) rfl (by simp [yff, hlt])
    simp only [q6_6, yh, hc, decide_true, y3, q6_5, y1f]
    rw [ysk m _ _ _ (s[i]) _ hix]
    cases hb : okC m s[i] with
    | false => simp
    | true =>
      simp only [if_true, Bool.true_and]
      rw [q6_3, yx]
      simp only [y3, hw]
      exact ih
theorem yzj (s : Txt) (m : Bool) (hs : Sm s) : (y8 E).p 60 [.str s, .bool m] = some ⟨.bool (y7r m s), [], true, [], []⟩ := by
  rw [x_q6]
  unfold y146 y139 y7r
  by_cases h1 : (s.length : Int) < 1
  · have : ¬ 1 ≤ s.length := by omega
    simp [h1, this]
  by_cases h2 : (60 : Int) < s.length
  · have h2' : ¬ s.length ≤ 60 := by omega
    simp [h1, h2, h2']
  have h1' : 1 ≤ s.length := by omega
  have h2' : s.length ≤ 60 := by omega
  simp only [y1i, y3, yh, h1, decide_false, y3m, y2u, h2, yl, yy, q6_8]
  have e : s2bC 0 (some 0) (.str s) [⟨0, .dead⟩] = some (.ls 0 1 1 0 s.length, [⟨1, .arr false false 1 (yff s)⟩]) := by
    simp [s2bC, y2s, place, yff]
  rw [e]
  simp only [yc, ydd, y3]
  rw [show (AV.int .i64 0) = .int .i64 ((0 : Nat) : Int) from rfl, ysj m s hs s.length 0 (by omega)]
  simp [h1', h2']
def brk : Txt → Nat
  | [] => 0
  | b :: s => if b = 91 then brk s + 1 else 0
def semi : Txt → Option Nat
  | [] => none
  | b :: s => if b = 59 then some 0 else (semi s).map (· + 1)
def yby (s : Txt) : Nat :=
  let k := brk s
  if 8 < k ∨ k = s.length then 0 else
  match s.drop k with
  | [] => 0
  | c :: r => if c = 73 ∨ c = 74 then k + 1 else if c = 76 then (match semi r with
    | some j => if y7r false (r.take j) then k + 1 + j + 1 else 0
    | none => 0) else 0
theorem yjl : ∀ s : Txt, brk s ≤ s.length
  | [] => Nat.le_refl _
  | b :: s => by
    have := yjl s
    simp only [brk, List.length_cons]
    split <;> omega
theorem y8g : ∀ (s : Txt) (i : Nat), i ≤ brk s → brk (s.drop i) = brk s - i
  | s, 0, _ => rfl
  | [], i + 1, h => by simp [brk] at h
  | b :: s, i + 1, h => by
    simp only [brk] at h ⊢
    split at h
    · rename_i e
      rw [if_pos e, List.drop_succ_cons, y8g s i (by omega)]
      omega
    · omega
abbrev xI (n : Nat) : Option (Ex AV) := some ⟨.int .i64 (n : Int), [], true, [], []⟩
theorem yne (s : Txt) (hs : Sm s) (k : Nat) (hk : k < s.length) : ∀ (d i : Nat), i + d = s.length → k + 1 ≤ i →
    yt4 (.str s) (.int .i64 k) (.int .i64 i) [] = xI (match semi (s.drop i) with
      | some j => if y7r false ((s.take (i + j)).drop (k + 1)) then i + j + 1 else 0
      | none => 0) := by
  intro d
  induction d with
  | zero =>
    intro i hi _
    have hc : ¬ ((i : Int) < (s.length : Int)) := by omega
    rw [yiy, List.drop_eq_nil_of_le (by omega)]
    simp only [yq0, y1i, yh, hc, decide_false, y3, yy, semi]
    rfl
  | succ d ih =>
    intro i hi hki
    have hlt : i < s.length := by omega
    have hc : ((i : Int) < (s.length : Int)) := by omega
    have hw := y2j hlt (by unfold Sm at hs; omega)
    have hwk := y2j hk (by unfold Sm at hs; omega)
    have ih := ih (i + 1) (by omega) (by omega)
    push_cast at ih
    rw [yiy, List.drop_eq_getElem_cons hlt]
    have ix := y6j (s := s) (i := i) (List.getElem?_eq_getElem hlt) .i64
    simp only [yq0, y1i, yh, hc, decide_true, y3, y1f, q8_7, ix, yi, y14z, q8_6, semi]
    by_cases h59 : s[i] = 59
    · simp only [h59, decide_true, y1f, if_true, q8_5, yx, y3, hwk]
      have sl := yzs (s := s) (i := k + 1) (j := i) hki (by omega) .i64 .i64
      push_cast at sl
      rw [sl]
      have hN := yzj ((s.take i).drop (k + 1)) false (by unfold Sm at hs ⊢; simp; omega)
      have hcall : y6 E (y8 E) 0 none true 60 [.str ((s.take i).drop (k + 1)), .bool false] [] = some (.bool (y7r false ((s.take i).drop (k + 1))), []) := by
        simp [hN]
      simp only [y3, hcall, yc, Nat.add_zero]
      cases y7r false ((s.take i).drop (k + 1)) with
      | false => simp only [yy, q8_4]; rfl
      | true =>
        simp only [y1f, y3, hw, if_true]
        simp
    · simp only [h59, decide_false, yy, if_false, q8_3, yx, y3, hw]
      rw [ih]
      cases semi (s.drop (i + 1)) with
      | none => rfl
      | some j =>
        simp only [Option.map_some]
        rw [show i + 1 + j = i + (j + 1) by omega]
theorem yq5 (s : Txt) (hs : Sm s) : you (.str s) (.int .i64 (brk s)) [] = xI (yby s) := by
  have hl := yjl s
  unfold you yby
  by_cases h1 : 8 < brk s
  · have h1' : (8 : Int) < brk s := by omega
    simp only [y2u, h1', decide_true, y3, y6u, yj, y1f, h1, true_or, if_true]
    rfl
  have h1' : ¬ (8 : Int) < brk s := by omega
  by_cases h2 : brk s = s.length
  · have h2d : decide ((brk s : Int) = s.length) = true := decide_eq_true (by omega)
    rw [if_pos (.inr h2)]
    simp only [y2u, h1', decide_false, y3, y3m, y1i, yi, h2d, yl, y1f]
    rfl
  have h2' : ¬ (brk s : Int) = s.length := by omega
  have hlt : brk s < s.length := by omega
  have ix := y6j (s := s) (i := brk s) (List.getElem?_eq_getElem hlt) .i64
  have hw := y2j hlt (by unfold Sm at hs; omega)
  rw [if_neg (by omega), List.drop_eq_getElem_cons hlt]
  simp only [y2u, h1', decide_false, y3, y3m, y1i, yi, h2', yl, yy, yut, ix, ywj, y1ah, y192]
  by_cases h73 : s[brk s] = 73
  · simp only [h73, decide_true, y1f, ygp, yx, hw, y3, true_or, if_true]
    simp
  by_cases h74 : s[brk s] = 74
  · simp only [h74, decide_true, y1f, ygp, yx, hw, y3, or_true, if_true]
    rw [show decide ((74 : UInt8) = 73) = false from rfl]
    simp
  simp only [h73, h74, decide_false, yy, ygp, ywr, yi, yya, y3, or_self, if_false, yxw]
  by_cases h76 : s[brk s] = 76
  · simp only [h76, decide_true, y1f, if_true, yvk, yx, hw, y3]
    have := yne s hs (brk s) hlt (s.length - (brk s + 1)) (brk s + 1) (by omega) (Nat.le_refl _)
    push_cast at this
    rw [this]
    cases hj : semi (s.drop (brk s + 1)) with
    | none => rfl
    | some j =>
      simp only
      rw [show ((s.take (brk s + 1 + j)).drop (brk s + 1)) = (s.drop (brk s + 1)).take j by rw [List.take_drop]]
  · simp only [h76, decide_false, yy, if_false, q8_1]
    simp
theorem ywx (s : Txt) (hs : Sm s) : ∀ (d i : Nat), i + d = brk s → yg1 (.str s) (.int .i64 i) [] = xI (yby s) := by
  have hl := yjl s
  intro d
  induction d with
  | zero =>
    intro i hi
    have hi : i = brk s := by omega
    subst hi
    rw [yfi, yo3]
    by_cases h : brk s < s.length
    · have hc : ((brk s : Int) < (s.length : Int)) := by omega
      have ix := y6j (s := s) (i := brk s) (List.getElem?_eq_getElem h) .i64
      have hd := y8g s (brk s) (Nat.le_refl _)
      rw [List.drop_eq_getElem_cons h, Nat.sub_self] at hd
      have hn : s[brk s] ≠ 91 := by
        intro e
        rw [brk, if_pos e] at hd
        omega
      simp only [y1i, y3, yh, hc, decide_true, y3b, ix, yi, ydc, hn, decide_false, yj, yy]
      exact yq5 s hs
    · have hc : ¬ ((brk s : Int) < (s.length : Int)) := by omega
      simp only [y1i, y3, yh, hc, decide_false, y8q, yl, yy]
      exact yq5 s hs
  | succ d ih =>
    intro i hi
    have h : i < s.length := by omega
    have hc : ((i : Int) < (s.length : Int)) := by omega
    have ix := y6j (s := s) (i := i) (List.getElem?_eq_getElem h) .i64
    have hd := y8g s i (by omega)
    rw [List.drop_eq_getElem_cons h] at hd
    have hn : s[i] = 91 := by
      rw [brk] at hd
      split at hd
      · assumption
      · omega
    have hw := y2j h (by unfold Sm at hs; omega)
    have ih := ih (i + 1) (by omega)
    push_cast at ih
    rw [yfi, yo3]
    simp only [y1i, y3, yh, hc, decide_true, y3b, ix, yi, ydc, hn, yj, y1f, yy0, yx, hw]
    exact ih
theorem y15f (s : Txt) (hs : Sm s) : (y8 E).p 44 [.str s] = xI (yby s) := by
  rw [x_q8]
  have := ywx s hs (brk s) 0 (by omega)
  simp only [q8_1, q8_3, q8_4, q8_5, q8_6, q8_7, yq0, yvk, yxw, ywr, ygp, ywj, yut, you, yy0, yo3, y11v, y134]
  exact this
def yfh (s : Txt) : Bool := decide (s ≠ []) && decide (yby s = s.length)
theorem y15z (s : Txt) (hs : Sm s) : (y8 E).p 37 [.str s] = some ⟨.bool (yfh s), [], true, [], []⟩ := by
  rw [x_q7]
  have hcall : y6 E (y8 E) 0 none true 44 [.str s] [] = some (.int .i64 (yby s : Int), []) := by
    have := y15f s hs
    simp [this]
  unfold q7_1 yfh
  by_cases h : s = []
  · simp [h]
  · simp only [y1x, ne_eq, h, not_false_eq_true, decide_true, y3, y3b, yam, hcall, yc, y1i, yi, yj, Bool.true_and]
    have : decide ((yby s : Int) = (s.length : Int)) = decide (yby s = s.length) := by
      rw [Bool.eq_iff_iff]
      simp only [decide_eq_true_eq]
      omega
    rw [this]
    simp
end Go.Vm
namespace Go.Vm
abbrev ATab := List (Txt × List Txt)
def akeys (A : ATab) : List Txt := A.map (·.1)
section
variable (up : Txt → List Txt)
inductive AOk : ATab → Prop
  | nil : AOk []
  | snoc {A : ATab} {n : Txt} {S : List Txt} : AOk A → n ∉ akeys A → n ∈ S → (∀ s ∈ up n, ∃ T, (s, T) ∈ A ∧ ∀ x ∈ T, x ∈ S) → (∀ x ∈ S, x = n ∨ ∃ s ∈ up n, ∃ T, (s, T) ∈ A ∧ x ∈ T) → AOk (A ++ [(n, S)])
variable {up}
theorem ydq {A : ATab} {n : Txt} {S : List Txt} (h : (n, S) ∈ A) : n ∈ akeys A := List.mem_map_of_mem h
theorem yhn {A : ATab} {n : Txt} (h : n ∈ akeys A) : ∃ S, (n, S) ∈ A := by
  unfold akeys at h
  obtain ⟨⟨m, S⟩, h1, rfl⟩ := List.mem_map.1 h
  exact ⟨S, h1⟩
theorem AOk.uniq {A : ATab} (h : AOk up A) : ∀ {n : Txt} {S T : List Txt}, (n, S) ∈ A → (n, T) ∈ A → S = T := by
  induction h with
  | nil => intro n S T hm; cases hm
  | @snoc A n S _ hn _ _ _ ih =>
    intro m U V h1 h2
    rcases List.mem_append.1 h1 with h1 | h1
    · rcases List.mem_append.1 h2 with h2 | h2
      · exact ih h1 h2
      · rw [List.mem_singleton] at h2
        injection h2 with e1 e2
        exact (hn (e1 ▸ ydq h1)).elim
    · rw [List.mem_singleton] at h1
      injection h1 with e1 e2
      subst e2
      rcases List.mem_append.1 h2 with h2 | h2
      · exact (hn (e1 ▸ ydq h2)).elim
      · rw [List.mem_singleton] at h2
        injection h2 with _ e2
        exact e2.symm
theorem AOk.trans {A : ATab} (h : AOk up A) : ∀ {n x : Txt} {S : List Txt}, (n, S) ∈ A → x ∈ S → ∃ T, (x, T) ∈ A ∧ ∀ y ∈ T, y ∈ S := by
  induction h with
  | nil => intro n x S hm; cases hm
  | @snoc A n S _ _ _ hup hin ih =>
    intro m x T hm hx
    rcases List.mem_append.1 hm with hm | hm
    · obtain ⟨U, h1, h2⟩ := ih hm hx
      exact ⟨U, List.mem_append_left _ h1, h2⟩
    · rw [List.mem_singleton] at hm
      injection hm with e1 e2
      subst e1; subst e2
      rcases hin x hx with rfl | ⟨s, hs, V, hV, hxV⟩
      · exact ⟨_, List.mem_append_right _ (by simp), fun y hy => hy⟩
      · obtain ⟨U, h1, h2⟩ := ih hV hxV
        obtain ⟨V', hV', hsub⟩ := hup s hs
        refine ⟨U, List.mem_append_left _ h1, fun y hy => ?_⟩
        have hyV := h2 y hy
        rename_i hA _ _
        have := AOk.uniq hA hV hV'
        subst this
        exact hsub y hyV
theorem AOk.top {A : ATab} (h : AOk up A) (hk : ∀ n ∈ akeys A, n = sObj ∨ up n ≠ []) : ∀ {n : Txt} {S : List Txt}, (n, S) ∈ A → sObj ∈ S := by
  induction h with
  | nil => intro n S hm; cases hm
  | @snoc A n S _ _ hS hup _ ih =>
    intro m T hm
    have ih : ∀ {n : Txt} {S : List Txt}, (n, S) ∈ A → sObj ∈ S := ih fun q hq => hk q (by unfold akeys at hq ⊢; rw [List.map_append]; exact List.mem_append_left _ hq)
    rcases List.mem_append.1 hm with hm | hm
    · exact ih hm
    · rw [List.mem_singleton] at hm
      injection hm with e1 e2
      subst e1; subst e2
      rcases hk m (by unfold akeys; simp) with h0 | h0
      · rw [← h0]; exact hS
      · obtain ⟨s, hs⟩ := List.exists_mem_of_ne_nil _ h0
        obtain ⟨V, hV, hsub⟩ := hup s hs
        exact hsub _ (ih hV)
theorem AOk.obj {A : ATab} (h : AOk up A) (h0 : up sObj = []) : ∀ {S : List Txt}, (sObj, S) ∈ A → ∀ x ∈ S, x = sObj := by
  induction h with
  | nil => intro S hm; cases hm
  | @snoc A n S _ _ _ _ hin ih =>
    intro T hm x hx
    rcases List.mem_append.1 hm with hm | hm
    · exact ih hm x hx
    · rw [List.mem_singleton] at hm
      injection hm with e1 e2
      subst e1; subst e2
      rcases hin x hx with h | ⟨s, hs, _⟩
      · exact h
      · rw [h0] at hs; cases hs
end
def alook (A : ATab) (n : Txt) : Option (List Txt) := (A.find? fun p => p.1 = n).map (·.2)
def upB (A : ATab) (x y : Txt) : Bool := ((alook A x).getD []).contains y
theorem y8k {A : ATab} {n : Txt} {S : List Txt} (h : alook A n = some S) : (n, S) ∈ A := by
  unfold alook at h
  cases hf : A.find? fun p => decide (p.1 = n) with
  | none => rw [hf] at h; cases h
  | some p =>
    rw [hf] at h
    have h1 := List.mem_of_find?_eq_some hf
    have h2 := List.find?_some hf
    injection h with h
    simp only [decide_eq_true_eq] at h2
    obtain ⟨a, b⟩ := p
    simp only at h h2
    subst h; subst h2
    exact h1
theorem yd2 {A : ATab} {n : Txt} (h : alook A n = none) : n ∉ akeys A := by
  unfold alook at h
  intro hn
  obtain ⟨S, hS⟩ := yhn hn
  have h' : A.find? (fun p => decide (p.1 = n)) = none := by
    cases hf : A.find? fun p => decide (p.1 = n) with
    | none => rfl
    | some p => rw [hf] at h; cases h
  have := List.find?_eq_none.1 h' (n, S) hS
  simp at this
theorem ygn {up : Txt → List Txt} {A : ATab} (h : AOk up A) {x y : Txt} : upB A x y = true ↔ ∃ S, (x, S) ∈ A ∧ y ∈ S := by
  unfold upB
  constructor
  · intro hc
    cases ha : alook A x with
    | none => rw [ha] at hc; cases hc
    | some S =>
      rw [ha] at hc
      exact ⟨S, y8k ha, by simpa using hc⟩
  · rintro ⟨S, h1, h2⟩
    cases ha : alook A x with
    | none => exact (yd2 ha (ydq h1)).elim
    | some T =>
      have := h.uniq h1 (y8k ha)
      subst this
      simpa using h2
theorem yrm {up : Txt → List Txt} {A : ATab} (h : AOk up A) (x y z : Txt) (h1 : upB A x y = true) (h2 : upB A y z = true) : upB A x z = true := by
  rw [ygn h] at h1 h2 ⊢
  obtain ⟨S, a1, a2⟩ := h1
  obtain ⟨T, b1, b2⟩ := h2
  obtain ⟨U, c1, c2⟩ := h.trans a1 a2
  have := h.uniq b1 c1
  subst this
  exact ⟨S, a1, c2 z b2⟩
theorem y114 {up : Txt → List Txt} {A : ATab} (h : AOk up A) (h0 : up sObj = []) (z : Txt) (hz : upB A sObj z = true) : z = sObj := by
  rw [ygn h] at hz
  obtain ⟨S, a1, a2⟩ := hz
  exact h.obj h0 a1 z a2
theorem y0m {up : Txt → List Txt} {A : ATab} (h : AOk up A) (hk : ∀ n ∈ akeys A, n = sObj ∨ up n ≠ []) {n : Txt} (hn : n ∈ akeys A) : upB A n sObj = true := by
  obtain ⟨S, hS⟩ := yhn hn
  exact (ygn h).2 ⟨S, hS, h.top hk hS⟩
end Go.Vm
namespace Go.Vm
open Cel
structure By where
  n : Int
  deriving DecidableEq, Inhabited
instance : Cel By := ⟨1, fun b => [.int .u8 b.n], fun _ => rfl, fun _ => rfl, fun _ => rfl⟩
structure Cst where
  kind : Int
  num : Int
  text : List UInt8
  name : List UInt8
  desc : List UInt8
  deriving DecidableEq, Inhabited
structure Fld where
  fl : Int
  name : List UInt8
  desc : List UInt8
  deriving DecidableEq, Inhabited
structure Frm where
  pc : Int
  locals : Option (List Tx)
  stack : Option (List Tx)
  deriving DecidableEq, Inhabited
structure Mth where
  fl : Int
  name : List UInt8
  desc : List UInt8
  stack : Int
  locals : Int
  code : Option (List By)
  rows : Option (List Row)
  frames : Option (List Frm)
  deriving DecidableEq, Inhabited
structure Cls where
  fl : Int
  nm : List UInt8
  sup : List UInt8
  ifs : Option (List Tx)
  pool : Option (List Cst)
  flds : Option (List Fld)
  mths : Option (List Mth)
  deriving DecidableEq, Inhabited
instance : Cel Cst := ⟨5, fun x => [.int .i64 x.kind, .int .i64 x.num, .str x.text, .str x.name, .str x.desc], fun _ => rfl, fun _ => rfl, fun _ => rfl⟩
instance : Cel Fld := ⟨3, fun x => [.int .i64 x.fl, .str x.name, .str x.desc], fun _ => rfl, fun _ => rfl, fun _ => rfl⟩
instance : Cel Frm := ⟨3, fun x => [.int .i64 x.pc, slA x.locals, slA x.stack], fun _ => rfl, fun _ => by simp, fun _ => by simp⟩
instance : Cel Mth := ⟨8, fun x => [.int .i64 x.fl, .str x.name, .str x.desc, .int .i64 x.stack, .int .i64 x.locals, slA x.code, slA x.rows, slA x.frames], fun _ => rfl, fun _ => by simp, fun _ => by simp⟩
instance : Cel Cls := ⟨7, fun x => [.int .i64 x.fl, .str x.nm, .str x.sup, slA x.ifs, slA x.pool, slA x.flds, slA x.mths], fun _ => rfl, fun _ => by simp, fun _ => by simp⟩
@[simp] theorem y1bm : es By = 1 := rfl
@[simp] theorem y1be : es Cst = 5 := rfl
@[simp] theorem y1ap : es Fld = 3 := rfl
@[simp] theorem y1bb : es Frm = 3 := rfl
@[simp] theorem y1b9 : es Mth = 8 := rfl
@[simp] theorem y1aq : es Cls = 7 := rfl
section
variable (x : Cls)
theorem yt5 : enc x = [.int .i64 x.fl, .str x.nm, .str x.sup, slA x.ifs, slA x.pool, slA x.flds, slA x.mths] := rfl
@[simp high] theorem cls0 : (enc x).head? = some (.int .i64 x.fl) := rfl
@[simp high] theorem cls1 : ((enc x).drop 1).head? = some (.str x.nm) := rfl
@[simp high] theorem cls2 : ((enc x).drop 2).head? = some (.str x.sup) := rfl
@[simp high] theorem cls3 : ((enc x).drop 3).head? = some (slA x.ifs) := rfl
@[simp high] theorem cls4 : ((enc x).drop 4).head? = some (slA x.pool) := rfl
@[simp high] theorem cls5 : ((enc x).drop 5).head? = some (slA x.flds) := rfl
@[simp high] theorem cls6 : ((enc x).drop 6).head? = some (slA x.mths) := rfl
@[simp high] theorem y1bz : (enc x)[0]? = some (.int .i64 x.fl) := rfl
@[simp high] theorem y1bl : (enc x)[1]? = some (.str x.nm) := rfl
@[simp high] theorem y1bw : (enc x)[2]? = some (.str x.sup) := rfl
@[simp high] theorem y1bp : (enc x)[3]? = some (slA x.ifs) := rfl
@[simp] theorem yd8 : y4a true 7 (enc x) = some (.agg (enc x)) := y5y x
@[simp] theorem yh3 : (enc x).length = 7 := rfl
@[simp] theorem ywv : (enc x).all ym = true := y7y x
end
theorem ydu {o : Option (List Cls)} {x : Cls} {i : Nat} (hx : (lst o)[i]? = some x) (k : IntKind) : y2v 7 (slA o) (.int k i) = some (.rp (enc x)) := ydr hx k
theorem y02 {o : Option (List Tx)} {x : Tx} {i : Nat} (hx : (lst o)[i]? = some x) (k : IntKind) : y2v 1 (slA o) (.int k i) = some (.rp [.str x.s]) := ydr hx k
abbrev yvh : Ty := .slice 1 .str
abbrev y15v : Ty := .slice 1 (.int .u8)
abbrev y131 : Ty := .struct (.sCons tyI (.sCons tyI (.sCons .str (.sCons .str (.sCons .str .sNil)))))
abbrev y13m : Ty := .struct (.sCons tyI (.sCons .str (.sCons .str .sNil)))
abbrev y0l : Ty := .struct (.sCons tyI (.sCons yvh (.sCons yvh .sNil)))
abbrev y12z : Ty := .struct (.sCons tyI (.sCons .str (.sCons .str (.sCons tyI (.sCons tyI (.sCons y15v (.sCons (.slice 4 y124) (.sCons (.slice 3 y0l) .sNil))))))))
abbrev y11h : Ty := .struct (.sCons tyI (.sCons .str (.sCons .str (.sCons yvh (.sCons (.slice 5 y131) (.sCons (.slice 3 y13m) (.sCons (.slice 8 y12z) .sNil)))))))
abbrev yrx : Ty := .slice 7 y11h
theorem yhg {cs : List AV} (h : yvh.has cs) : ∃ o : Option (List Tx), cs = [slA o] ∧ (lst o).length * 16 ≤ reachBytes ∧ ∀ x ∈ lst o, x.s.length ≤ reachBytes := by
  obtain ⟨o, h1, _, h2, h3⟩ := y9c (α := Tx) (T := .str) (Q := fun x => x.s.length ≤ reachBytes) (fun _ h => by obtain ⟨s, rfl, hs⟩ := y6r h; exact ⟨⟨s⟩, rfl, hs⟩) h
  exact ⟨o, h1, by simpa [Ty.bytes] using h2, h3⟩
theorem y12x {cs : List AV} (h : y15v.has cs) : ∃ o : Option (List By), cs = [slA o] ∧ (lst o).length ≤ maxLen ∧ ∀ x ∈ lst o, 0 ≤ x.n ∧ x.n ≤ 255 := by
  obtain ⟨o, h1, h2, _, h3⟩ := y9c (α := By) (T := .int .u8) (Q := fun x => 0 ≤ x.n ∧ x.n ≤ 255) (fun _ h => by
    obtain ⟨n, rfl, a, b⟩ := h
    exact ⟨⟨n⟩, rfl, by simpa [IntKind.min, IntKind.signed] using a, by simpa [IntKind.max, IntKind.signed, IntKind.bits] using b⟩) h
  exact ⟨o, h1, h2, h3⟩
structure CstOk (x : Cst) : Prop where
  kind : inI x.kind
  num : inI x.num
structure MthOk (x : Mth) : Prop where
  fl : inI x.fl
  name : x.name.length ≤ reachBytes
  desc : x.desc.length ≤ reachBytes
structure ClsOk (x : Cls) : Prop where
  fl : inI x.fl
  nm : x.nm.length ≤ reachBytes
  sup : x.sup.length ≤ reachBytes
  ifs : (lst x.ifs).length * 16 ≤ reachBytes
  ifT : ∀ s ∈ lst x.ifs, s.s.length ≤ reachBytes
  pool : (lst x.pool).length ≤ maxLen
  flds : (lst x.flds).length ≤ maxLen
  mths : (lst x.mths).length ≤ maxLen
theorem y14b {cs : List AV} (h : y131.has cs) : ∃ x : Cst, cs = enc x ∧ CstOk x := by
  obtain ⟨_, _, rfl, h1, _, _, rfl, h2, _, _, rfl, h3, _, _, rfl, h4, _, _, rfl, h5, rfl⟩ := h
  obtain ⟨a, rfl, k1⟩ := yat h1
  obtain ⟨b, rfl, k2⟩ := yat h2
  obtain ⟨c, rfl, _⟩ := y6r h3
  obtain ⟨d, rfl, _⟩ := y6r h4
  obtain ⟨e, rfl, _⟩ := y6r h5
  exact ⟨⟨a, b, c, d, e⟩, rfl, ⟨k1, k2⟩⟩
theorem y0v {cs : List AV} (h : y13m.has cs) : ∃ x : Fld, cs = enc x ∧ inI x.fl := by
  obtain ⟨_, _, rfl, h1, _, _, rfl, h2, _, _, rfl, h3, rfl⟩ := h
  obtain ⟨a, rfl, k1⟩ := yat h1
  obtain ⟨c, rfl, _⟩ := y6r h2
  obtain ⟨d, rfl, _⟩ := y6r h3
  exact ⟨⟨a, c, d⟩, rfl, k1⟩
theorem y14c {cs : List AV} (h : y0l.has cs) : ∃ x : Frm, cs = enc x ∧ inI x.pc := by
  obtain ⟨_, _, rfl, h1, _, _, rfl, h2, _, _, rfl, h3, rfl⟩ := h
  obtain ⟨a, rfl, k1⟩ := yat h1
  obtain ⟨c, rfl, _⟩ := yhg h2
  obtain ⟨d, rfl, _⟩ := yhg h3
  exact ⟨⟨a, c, d⟩, rfl, k1⟩
theorem y12u {cs : List AV} (h : y12z.has cs) : ∃ x : Mth, cs = enc x ∧ MthOk x := by
  obtain ⟨_, _, rfl, h1, _, _, rfl, h2, _, _, rfl, h3, _, _, rfl, h4, _, _, rfl, h5, _, _, rfl, h6, _, _, rfl, h7, _, _, rfl, h8, rfl⟩ := h
  obtain ⟨a, rfl, k1⟩ := yat h1
  obtain ⟨b, rfl, k2⟩ := y6r h2
  obtain ⟨c, rfl, k3⟩ := y6r h3
  obtain ⟨d, rfl, _⟩ := yat h4
  obtain ⟨e, rfl, _⟩ := yat h5
  obtain ⟨f, rfl, _⟩ := y12x h6
  obtain ⟨g, rfl, _⟩ := y9c (α := Row) (T := y124) (fun _ h => y13h h) h7
  obtain ⟨i, rfl, _⟩ := y9c (α := Frm) (T := y0l) (fun _ h => y14c h) h8
  exact ⟨⟨a, b, c, d, e, f, g, i⟩, rfl, ⟨k1, k2, k3⟩⟩
theorem y13q {cs : List AV} (h : y11h.has cs) : ∃ x : Cls, cs = enc x ∧ ClsOk x := by
  obtain ⟨_, _, rfl, h1, _, _, rfl, h2, _, _, rfl, h3, _, _, rfl, h4, _, _, rfl, h5, _, _, rfl, h6, _, _, rfl, h7, rfl⟩ := h
  obtain ⟨a, rfl, k1⟩ := yat h1
  obtain ⟨b, rfl, k2⟩ := y6r h2
  obtain ⟨c, rfl, k3⟩ := y6r h3
  obtain ⟨d, rfl, k4, l4⟩ := yhg h4
  obtain ⟨e, rfl, k5, _⟩ := y9c (α := Cst) (T := y131) (fun _ h => y14b h) h5
  obtain ⟨f, rfl, k6, _⟩ := y9c (α := Fld) (T := y13m) (fun _ h => y0v h) h6
  obtain ⟨g, rfl, k7, _⟩ := y9c (α := Mth) (T := y12z) (fun _ h => y12u h) h7
  exact ⟨⟨a, b, c, d, e, f, g⟩, rfl, ⟨k1, k2, k3, k4, l4, k5, k6, k7⟩⟩
theorem yyc {cs : List AV} (h : yrx.has cs) : ∃ o : Option (List Cls), cs = [slA o] ∧ (lst o).length * 136 ≤ reachBytes ∧ ∀ x ∈ lst o, ClsOk x := by
  obtain ⟨o, h1, _, h2, h3⟩ := y9c (α := Cls) (T := y11h) (fun _ h => y13q h) h
  exact ⟨o, h1, h2, h3⟩
end Go.Vm
