/- Facts for reading the machine's functions: combinators at known values; lists of things of one kind as slices. The things that the layers speak of: instructions, rows, functions. What is handed in, as things. Which type fits in which, in plain words. Types as texts on the machine: their class, element, kind; names. Lists that a function builds by appending, at a place of its own. What a callee made, as the caller's own: a list, or nothing. Heaps that grow: what lies where, behind one more object, behind one that is turned. Names and types' descriptors on the machine. Who stands above whom, in plain words: a table that is made from those above down. Classes, as things. -/
import Derived.Test.YtkcigmgchfcpkaaVc
import Derived.Test.YtkcigmgchfcpkaaNX
set_option linter.unusedSimpArgs false
set_option linter.unusedVariables false
set_option linter.unusedSectionVars false
namespace Go.Vm
section comb
variable {α : Type}
@[simp] theorem y4 (v : AV) (K : AV → Option α) : ob (some v) K = K v := rfl
@[simp] theorem yc (v : AV) (h : Heap) (K : AV → Heap → Option α) : oh (some (v, h)) K = K v h := rfl
@[simp] theorem y1dx {β : Type} (v : β) (K : β → Option α) : ofp (some v) K = K v := rfl
@[simp] theorem y4d (x : Option AV) (K : AV → Option α) : gb (.bool true) true x K = ob x K := rfl
@[simp] theorem y6a (x : Option AV) (K : AV → Option α) : gb (.bool false) false x K = ob x K := rfl
@[simp] theorem y9c (x : Option AV) (K : AV → Option α) : gb (.bool true) false x K = K (.tup []) := rfl
@[simp] theorem yab (x : Option AV) (K : AV → Option α) : gb (.bool false) true x K = K (.tup []) := rfl
@[simp] theorem y9x (w : Bool) (x : Option AV) (K : AV → Option α) : gb (.tup []) w x K = K (.tup []) := rfl
@[simp] theorem yfv (x : Option (AV × Heap)) (h : Heap) (K : AV → Heap → Option α) : gh (.bool true) true x h K = oh x K := rfl
@[simp] theorem y1gf (x : Option (AV × Heap)) (h : Heap) (K : AV → Heap → Option α) : gh (.bool false) false x h K = oh x K := rfl
@[simp] theorem y1i8 (x : Option (AV × Heap)) (h : Heap) (K : AV → Heap → Option α) : gh (.bool true) false x h K = K (.tup []) h := rfl
@[simp] theorem y1el (x : Option (AV × Heap)) (h : Heap) (K : AV → Heap → Option α) : gh (.bool false) true x h K = K (.tup []) h := rfl
@[simp] theorem y1hc (w : Bool) (x : Option (AV × Heap)) (h : Heap) (K : AV → Heap → Option α) : gh (.tup []) w x h K = K (.tup []) h := rfl
@[simp] theorem y1hf (x : Option (List Nat × List Nat)) : fgd (.bool true) true x = x := rfl
@[simp] theorem y1h3 (x : Option (List Nat × List Nat)) : fgd (.bool false) false x = x := rfl
@[simp] theorem y1h9 (x : Option (List Nat × List Nat)) : fgd (.bool true) false x = some ([], []) := rfl
@[simp] theorem y1h8 (x : Option (List Nat × List Nat)) : fgd (.bool false) true x = some ([], []) := rfl
@[simp] theorem y1eo (w : Bool) (x : Option (List Nat × List Nat)) : fgd (.tup []) w x = some ([], []) := rfl
@[simp] theorem y1q (a b : Option α) : cnd (.bool true) a b = a := rfl
@[simp] theorem y10 (a b : Option α) : cnd (.bool false) a b = b := rfl
@[simp] theorem y1i5 (x : Option α) : okK true x = x := rfl
theorem ybz {α : Type} {b : Bool} (h : b = true) (x : Option α) : okK b x = x := by rw [h]; rfl
@[simp] theorem yo (a b : AV) : yk (.bool true) a b = some a := rfl
@[simp] theorem yy (a b : AV) : yk (.bool false) a b = some b := rfl
@[simp] theorem y2b (b : Bool) : evUn .not (.bool b) = some (.bool (!b)) := rfl
@[simp] theorem y18x (neq a b : Bool) : ysu neq (.bool a) (.bool b) = some (.bool (if neq then !(a == b) else a == b)) := rfl
@[simp] theorem y2w (i : Nat) (vs : List AV) : y4u i (.tup vs) = vs[i]? := rfl
@[simp] theorem ytr (k k' : IntKind) (n : Int) : ysc k (.int k' n) = some (.int k (k.wrap n)) := rfl
@[simp] theorem y7m (cs : List AV) : yn (.rp cs) = some (.rp cs) := rfl
@[simp] theorem y1x (id g i off : Nat) : yn (.lp id g i off) = some (.lp id g i off) := rfl
@[congr] theorem y1ho {x x' : Option AV} (h : x = x') (K : AV → Option α) : ob x K = ob x' K := by rw [h]
@[congr] theorem y1i0 {x x' : Option (AV × Heap)} (h : x = x') (K : AV → Heap → Option α) : oh x K = oh x' K := by rw [h]
@[congr] theorem y1gz {β : Type} {x x' : Option β} (h : x = x') (K : β → Option α) : ofp x K = ofp x' K := by rw [h]
@[congr] theorem y1i9 {g g' : AV} (h : g = g') (w : Bool) (x : Option AV) (K : AV → Option α) : gb g w x K = gb g' w x K := by rw [h]
@[congr] theorem y1i4 {g g' : AV} (h : g = g') (w : Bool) (x : Option (AV × Heap)) (hp : Heap) (K : AV → Heap → Option α) : gh g w x hp K = gh g' w x hp K := by rw [h]
@[congr] theorem y1ha {g g' : AV} (h : g = g') (w : Bool) (x : Option (List Nat × List Nat)) : fgd g w x = fgd g' w x := by rw [h]
@[congr] theorem y1gy {c c' : AV} (h : c = c') (a b : Option α) : cnd c a b = cnd c' a b := by rw [h]
@[congr] theorem y1hb {c c' : Bool} (h : c = c') (a : Option α) : okK c a = okK c' a := by rw [h]
end comb
section ints
variable (k : IntKind) (a b : Int)
@[simp] theorem y1b : y9 .add (.int k a) (.int k b) = some (.int k (k.wrap (a + b))) := by simp [y9, y49, y69]
@[simp] theorem yba : y9 .sub (.int k a) (.int k b) = some (.int k (k.wrap (a - b))) := by simp [y9, y49, y69]
@[simp] theorem y1bb : y9 .mul (.int k a) (.int k b) = some (.int k (k.wrap (a * b))) := by simp [y9, y49, y69]
@[simp] theorem y13 : y9 .eql (.int k a) (.int k b) = some (.bool (decide (a = b))) := by simp [y9, y49, y69, Bool.beq_eq_decide_eq]
@[simp] theorem ybh : y9 .neq (.int k a) (.int k b) = some (.bool (decide (a ≠ b))) := by simp [y9, y49, y69, bne, Bool.beq_eq_decide_eq]
@[simp] theorem yh : y9 .lss (.int k a) (.int k b) = some (.bool (decide (a < b))) := by simp [y9, y49, y69]
@[simp] theorem yck : y9 .leq (.int k a) (.int k b) = some (.bool (decide (a ≤ b))) := by simp [y9, y49, y69]
@[simp] theorem y3y : y9 .gtr (.int k a) (.int k b) = some (.bool (decide (b < a))) := by simp [y9, y49, y69]
@[simp] theorem yb6 : y9 .geq (.int k a) (.int k b) = some (.bool (decide (b ≤ a))) := by simp [y9, y49, y69]
end ints
@[simp] theorem y25 (a b : List UInt8) : y9 .eql (.str a) (.str b) = some (.bool (decide (a = b))) := by simp [y9, ygf, Bool.beq_eq_decide_eq]
@[simp] theorem y1k (a b : List UInt8) : y9 .neq (.str a) (.str b) = some (.bool (decide (a ≠ b))) := by simp [y9, ygf, Bool.beq_eq_decide_eq]
theorem y74 {n : Int} (h0 : -9223372036854775808 ≤ n) (h1 : n < 9223372036854775808) : IntKind.wrap .i64 n = n := by
  simp [IntKind.wrap, IntKind.bits, IntKind.signed]; omega
theorem yqs {i n : Nat} (h : i < n) (hn : n ≤ 9223372036854775807) : IntKind.wrap .i64 ((i : Int) + 1) = ((i + 1 : Nat) : Int) := by
  rw [y74] <;> omega
theorem y3e {i n : Nat} (h : i < n) (hn : n ≤ 9223372036854775807) : IntKind.wrap .i64 ((i : Int) + 1) = (i : Int) + 1 := by rw [yqs h hn]; rfl
theorem yz9 {n : Nat} (h : 0 < n) (hn : n ≤ 9223372036854775807) : IntKind.wrap .i64 ((n : Int) - 1) = ((n - 1 : Nat) : Int) := by
  rw [y74] <;> omega
@[simp] theorem yir (k : Nat) (cs : List AV) : evFa k (.rp cs) = some (.rp (cs.drop k)) := rfl
@[simp] theorem y1f (k id g i o : Nat) : evFa k (.lp id g i o) = some (.lp id g i (o + k)) := rfl
@[simp] theorem y4s (agg : Bool) (n : Nat) (cs : List AV) (h : Heap) : evLd agg n (.rp cs) h = y3h agg n cs := rfl
@[simp] theorem ybk (n : Nat) (cs : List AV) : y3h false n cs = cs.head? := rfl
@[simp] theorem yin (cs : List AV) : cellsOf (.agg cs) = cs := rfl
@[simp] theorem y19o (k : IntKind) (n : Int) : cellsOf (.int k n) = [.int k n] := rfl
@[simp] theorem y140 (b : Bool) : cellsOf (.bool b) = [.bool b] := rfl
@[simp] theorem y18q (s : List UInt8) : cellsOf (.str s) = [.str s] := rfl
@[simp] theorem y135 : cellsOf .nils = [.nils] := rfl
@[simp] theorem y1a8 (es : Nat) (rows : List (List AV)) : cellsOf (.rs es rows) = [.rs es rows] := rfl
@[simp] theorem y19z (id g es off len : Nat) : cellsOf (.ls id g es off len) = [.ls id g es off len] := rfl
class Cel (α : Type) where
  es : Nat
  enc : α → List AV
  len : ∀ x, (enc x).length = es
  pur : ∀ x, (enc x).all pure1 = true
  leaf : ∀ x, (enc x).all yj = true
open Cel
instance : Cel Int := ⟨1, fun n => [.int .i64 n], fun _ => rfl, fun _ => rfl, fun _ => rfl⟩
instance : Cel Bool := ⟨1, fun b => [.bool b], fun _ => rfl, fun _ => rfl, fun _ => rfl⟩
structure Tx where
  s : List UInt8
  deriving DecidableEq, Inhabited
instance : Cel Tx := ⟨1, fun b => [.str b.s], fun _ => rfl, fun _ => rfl, fun _ => rfl⟩
@[simp] theorem y1g8 (n : Int) : enc n = [.int .i64 n] := rfl
@[simp] theorem y1ee (b : Bool) : enc b = [.bool b] := rfl
@[simp] theorem y1gq (b : Tx) : enc b = [.str b.s] := rfl
@[simp] theorem y1h7 : es Int = 1 := rfl
@[simp] theorem y1fl : es Bool = 1 := rfl
@[simp] theorem y15d : es Tx = 1 := rfl
variable {α : Type} [Cel α]
def scal (x : α) : Bool := (enc x).all yw
@[simp] theorem y1dw (n : Int) : scal n = true := rfl
@[simp] theorem y1c3 (b : Bool) : scal b = true := rfl
@[simp] theorem y1g6 (b : Tx) : scal b = true := rfl
def lst (o : Option (List α)) : List α := o.getD []
omit [Cel α] in
@[simp] theorem y1e9 : lst (none : Option (List α)) = [] := rfl
omit [Cel α] in
@[simp] theorem y82 (L : List α) : lst (some L) = L := rfl
def slA : Option (List α) → AV
  | none => .nils
  | some L => .rs (es α) (L.map enc)
instance : Cel (Option (List α)) := ⟨1, fun o => [slA o], fun _ => rfl, fun o => by cases o <;> rfl, fun o => by cases o <;> rfl⟩
@[simp] theorem y1gv (o : Option (List α)) : enc o = [slA o] := rfl
@[simp] theorem y1hl : es (Option (List α)) = 1 := rfl
@[simp] theorem y1cz (k : IntKind) (n : Int) : pure1 (.int k n) = true := rfl
@[simp] theorem y19w (b : Bool) : pure1 (.bool b) = true := rfl
@[simp] theorem y1b4 (b : List UInt8) : pure1 (.str b) = true := rfl
@[simp] theorem y1a4 : pure1 .nils = true := rfl
@[simp] theorem y1ai (k : IntKind) (n : Int) : yj (.int k n) = true := rfl
@[simp] theorem y1a6 (b : Bool) : yj (.bool b) = true := rfl
@[simp] theorem y1dh (b : List UInt8) : yj (.str b) = true := rfl
@[simp] theorem y1a1 : yj .nils = true := rfl
@[simp] theorem y1e1 (es : Nat) (r : List (List AV)) : yj (.rs es r) = true := rfl
@[simp] theorem y1ea (id g es off len : Nat) : yj (.ls id g es off len) = true := rfl
@[simp] theorem y1e6 (id g i o : Nat) : yj (.lp id g i o) = true := rfl
@[simp] theorem y14o (k : IntKind) (n : Int) : yw (.int k n) = true := rfl
@[simp] theorem y13v (b : Bool) : yw (.bool b) = true := rfl
@[simp] theorem y152 (b : List UInt8) : yw (.str b) = true := rfl
@[simp] theorem y13j : yw .nils = true := rfl
@[simp] theorem y1a9 (o : Option (List α)) : cellsOf (slA o) = [slA o] := by cases o <;> rfl
@[simp] theorem y1e2 (o : Option (List α)) : yj (slA o) = true := by cases o <;> rfl
@[simp] theorem y120 (o : Option (List α)) : pure1 (slA o) = true := by cases o <;> rfl
@[simp] theorem yp2 (o : Option (List α)) : yw (slA o) = (lst o).isEmpty := by
  cases o with
  | none => rfl
  | some L => cases L <;> rfl
@[simp] theorem y2c (o : Option (List α)) (h : Heap) : y1t 1 (slA o) h = some (.int .i64 (lst o).length) := by cases o <;> simp [slA, y1t]
@[simp] theorem y86 (s : List UInt8) (h : Heap) : y1t 0 (.str s) h = some (.int .i64 s.length) := rfl
@[simp] theorem yak (id g es off len : Nat) (h : Heap) : y1t 1 (.ls id g es off len) h = some (.int .i64 len) := rfl
@[simp] theorem yos (h : Heap) : y1t 1 .nils h = some (.int .i64 0) := rfl
@[simp] theorem y1g4 (id g i o : Nat) : ids1 (.lp id g i o) = [id] := rfl
@[simp] theorem y1ge (id g es o l : Nat) : ids1 (.ls id g es o l) = [id] := rfl
@[simp] theorem y1go (cs : List AV) : ids1 (.rp cs) = [] := rfl
@[simp] theorem y1eb (k : IntKind) (n : Int) : ids1 (.int k n) = [] := rfl
@[simp] theorem y1e8 (s : List UInt8) : ids1 (.str s) = [] := rfl
@[simp] theorem y1gk (o : Option (List α)) : ids1 (slA o) = [] := by cases o <;> rfl
@[simp] theorem y0g (neq : Bool) (o : Option (List α)) : y66 1 neq (slA o) .nils = some (.bool (if neq then o.isSome else o.isNone)) := by
  cases o <;> cases neq <;> rfl
theorem y5u {o : Option (List α)} {x : α} {i : Nat} (hx : (lst o)[i]? = some x) (k : IntKind) : y21 (es α) (slA o) (.int k i) = some (.rp (enc x)) := by
  cases o with
  | none => simp at hx
  | some L =>
    simp only [y82] at hx
    simp [slA, y21, hx]
@[simp] theorem y8p (o : Option (List α)) (h : Heap) : y15 h (es α) (slA o) = some ((lst o).map enc) := by
  cases o <;> simp [slA, y15]
@[simp] theorem y1ht (o : Option (List α)) (h : Heap) : fz h yu (slA o) = some ⟨slA o, (lst o).isEmpty, []⟩ := by
  rw [y1gh (y120 o), yp2]
@[simp] theorem y1ag (x : α) (h : Heap) : fz h yu (.agg (enc x)) = some ⟨.agg (enc x), scal x, []⟩ := y1av h (pur x)
theorem yaw (L : List α) : (L.map enc).all (·.all pure1) = true := by simp only [List.all_map, List.all_eq_true]; exact fun x _ => pur x
theorem ycm (L : List α) : (L.map enc).all (·.all yw) = L.all scal := by simp only [List.all_map]; rfl
@[simp] theorem y19g (L : List α) (h : Heap) : yb (yb (fz h yu)) (L.map enc) = some ⟨L.map enc, L.all scal, []⟩ := by rw [yvm h (yaw L), ycm]
@[simp] theorem y1cm (L : List α) (h : Heap) : yb (yb (fz h 11)) (L.map enc) = some ⟨L.map enc, L.all scal, []⟩ := by rw [ypu h (yaw L), ycm]
@[simp] theorem y1fe (o : Option (List α)) : scal o = (lst o).isEmpty := by simp [scal]
@[simp] theorem y8s (L : List α) : (L.map (enc (α := α))).take L.length = L.map enc := by
  rw [List.take_of_length_le (by simp)]
@[simp] theorem y3v (x : α) : y3h true (es α) (enc x) = some (.agg (enc x)) := by
  simp only [y3h, if_true, len x, Nat.le_refl, if_pos]
  rw [List.take_of_length_le (by rw [len x]; exact Nat.le_refl _)]
@[simp] theorem y1dr (x : α) : (∀ v, v ∈ enc x → yj v = true) ↔ True := by
  have := leaf x
  rw [List.all_eq_true] at this
  exact ⟨fun _ => trivial, fun _ => this⟩
theorem y5t (x : α) : (enc x).all yj = true := leaf x
@[simp] theorem y1fz (h : Heap) (k : IntKind) (n : Int) : fz h yu (.int k n) = some ⟨.int k n, true, []⟩ := rfl
@[simp] theorem y1do (h : Heap) (b : Bool) : fz h yu (.bool b) = some ⟨.bool b, true, []⟩ := rfl
@[simp] theorem y1fv (h : Heap) (b : List UInt8) : fz h yu (.str b) = some ⟨.str b, true, []⟩ := rfl
@[simp] theorem y1dy (h : Heap) : fz h yu .nils = some ⟨.nils, true, []⟩ := rfl
@[simp] theorem y1a3 (h : Heap) (k : IntKind) (n : Int) : yq h (.int k n) = some ⟨.int k n, [], true, [], []⟩ := rfl
@[simp] theorem y15u (h : Heap) (b : Bool) : yq h (.bool b) = some ⟨.bool b, [], true, [], []⟩ := rfl
@[simp] theorem y19u (h : Heap) (s : List UInt8) : yq h (.str s) = some ⟨.str s, [], true, [], []⟩ := rfl
@[simp] theorem y167 (h : Heap) : yq h .nils = some ⟨.nils, [], true, [], []⟩ := rfl
@[simp] theorem y1ed (h : Heap) (o : Option (List α)) : yq h (slA o) = some ⟨slA o, [], (lst o).isEmpty, [], []⟩ := by
  cases o with
  | none => rfl
  | some L => simp [slA, y00]
theorem y1as {v : AV} (hp : pure1 v = true) (h : Heap) (k : Nat) (os : List OC) : expo h (k + 1) v os = some ⟨v, os, yw v, [], []⟩ := by
  cases v <;> simp_all [expo, pure1]
theorem ymf {cs : List AV} (h : Heap) (k : Nat) (os : List OC) (hp : cs.all pure1 = true) : y1z (expo h (k + 1)) cs os = some ⟨cs, os, cs.all yw, [], []⟩ := by
  induction cs with
  | nil => rfl
  | cons c cs ih =>
    simp only [List.all_cons, Bool.and_eq_true] at hp
    rw [y1z, y1as hp.1]
    simp only [ih hp.2]
    rfl
theorem yxs (h : Heap) (cs : List AV) : yq h (.agg cs) = match y1z (expo h 11) cs [] with
    | some r => if y2o r.xs r.fs then some ⟨.agg r.v, r.objs, r.fresh, [], []⟩ else none
    | none => none := by
  show (match (match y1z (expo h 11) cs [] with
    | some r => some (⟨.agg r.v, r.objs, r.fresh, r.xs, r.fs⟩ : Ex AV)
    | none => none) with
    | some r => if y2o r.xs r.fs then some (⟨r.v, r.objs, r.fresh, [], []⟩ : Ex AV) else none
    | none => none) = _
  cases y1z (expo h 11) cs [] <;> rfl
theorem ysn (h : Heap) (cs : List AV) : yq h (.tup cs) = match y1z (expo h 11) cs [] with
    | some r => if y2o r.xs r.fs then some ⟨.tup r.v, r.objs, r.fresh, [], []⟩ else none
    | none => none := by
  show (match (match y1z (expo h 11) cs [] with
    | some r => some (⟨.tup r.v, r.objs, r.fresh, r.xs, r.fs⟩ : Ex AV)
    | none => none) with
    | some r => if y2o r.xs r.fs then some (⟨r.v, r.objs, r.fresh, [], []⟩ : Ex AV) else none
    | none => none) = _
  cases y1z (expo h 11) cs [] <;> rfl
@[simp] theorem y1ch (h : Heap) (x : α) : yq h (.agg (enc x)) = some ⟨.agg (enc x), [], scal x, [], []⟩ := by
  rw [yxs, ymf h 10 [] (pur x)]
  rfl
theorem y127 (h : Heap) (k : Nat) (x : α) (os : List OC) : expo h (k + 2) (.agg (enc x)) os = some ⟨.agg (enc x), os, scal x, [], []⟩ := by
  rw [expo, ymf h k os (pur x)]
  rfl
theorem y14f (h : Heap) (k : Nat) (x : α) : fz h (k + 2) (.agg (enc x)) = some ⟨.agg (enc x), scal x, []⟩ := by
  rw [yay, yam h k (pur x)]
  rfl
theorem y1cl (h : Heap) (k id g es1 off len : Nat) : fz h (k + 1) (.ls id g es1 off len) = match ye h id g with
    | some (_, es, rows) => if es1 = es ∧ off + len ≤ rows.length then (match yb (yb (fz h k)) ((rows.drop off).take len) with
      | some r => some ⟨.rs es r.v, r.fresh, id :: r.ids⟩
      | none => none) else none
    | none => none := by
  rw [fz]
  rfl
theorem y12e (L : List α) (h : Heap) (k : Nat) : yb (yb (fz h (k + 1))) (L.map enc) = some ⟨L.map enc, L.all scal, []⟩ := by rw [y5l h k (yaw L), ycm]
@[simp] theorem y3i {β γ : Type} (f : β → Option (Fz γ)) : yb f [] = some ⟨[], true, []⟩ := rfl
@[simp] theorem yr {β γ : Type} (f : β → Option (Fz γ)) (x : β) (xs : List β) : yb f (x :: xs) = match f x, yb f xs with
    | some a, some b => some ⟨a.v :: b.v, a.fresh && b.fresh, a.ids ++ b.ids⟩
    | _, _ => none := rfl
end Go.Vm
namespace Go.Vm
open Cel
structure Ins where
  op : Int
  d : Int
  a : Int
  b : Int
  c : Int
  n : Int
  t : Int
  s : List UInt8
  args : Option (List Int)
  deriving DecidableEq, Inhabited
structure Row where
  f : Int
  t : Int
  at_ : Int
  c : List UInt8
  deriving DecidableEq, Inhabited
structure Fn where
  regs : Option (List Int)
  params : Option (List Int)
  ret : Int
  code : Option (List Ins)
  rows : Option (List Row)
  deriving DecidableEq, Inhabited
instance : Cel Ins := ⟨9, fun x => [.int .i64 x.op, .int .i64 x.d, .int .i64 x.a, .int .i64 x.b, .int .i64 x.c, .int .i64 x.n, .int .i64 x.t, .str x.s, slA x.args], fun _ => rfl,
  fun x => by simp, fun x => by simp⟩
instance : Cel Row := ⟨4, fun x => [.int .i64 x.f, .int .i64 x.t, .int .i64 x.at_, .str x.c], fun _ => rfl, fun x => rfl, fun x => rfl⟩
instance : Cel Fn := ⟨5, fun x => [slA x.regs, slA x.params, .int .i64 x.ret, slA x.code, slA x.rows], fun _ => rfl, fun x => by simp, fun x => by simp⟩
@[simp] theorem y1h6 : es Ins = 9 := rfl
@[simp] theorem y1h4 : es Row = 4 := rfl
@[simp] theorem y1hg : es Fn = 5 := rfl
section
variable (x : Ins) (r : Row) (f : Fn)
@[simp high] theorem ins0 : (enc x).head? = some (.int .i64 x.op) := rfl
@[simp high] theorem y1hm : (enc x)[0]? = some (.int .i64 x.op) := rfl
@[simp high] theorem ins1 : ((enc x).drop 1).head? = some (.int .i64 x.d) := rfl
@[simp high] theorem y1i6 : (enc x)[1]? = some (.int .i64 x.d) := rfl
@[simp high] theorem ins2 : ((enc x).drop 2).head? = some (.int .i64 x.a) := rfl
@[simp high] theorem y1i3 : (enc x)[2]? = some (.int .i64 x.a) := rfl
@[simp high] theorem ins3 : ((enc x).drop 3).head? = some (.int .i64 x.b) := rfl
@[simp high] theorem y1i7 : (enc x)[3]? = some (.int .i64 x.b) := rfl
@[simp high] theorem ins4 : ((enc x).drop 4).head? = some (.int .i64 x.c) := rfl
@[simp high] theorem y1hv : (enc x)[4]? = some (.int .i64 x.c) := rfl
@[simp high] theorem ins5 : ((enc x).drop 5).head? = some (.int .i64 x.n) := rfl
@[simp high] theorem y1hu : (enc x)[5]? = some (.int .i64 x.n) := rfl
@[simp high] theorem ins6 : ((enc x).drop 6).head? = some (.int .i64 x.t) := rfl
@[simp high] theorem y1hr : (enc x)[6]? = some (.int .i64 x.t) := rfl
@[simp high] theorem ins7 : ((enc x).drop 7).head? = some (.str x.s) := rfl
@[simp high] theorem y1hp : (enc x)[7]? = some (.str x.s) := rfl
@[simp high] theorem ins8 : ((enc x).drop 8).head? = some (slA x.args) := rfl
@[simp high] theorem y1hi : (enc x)[8]? = some (slA x.args) := rfl
@[simp high] theorem row0 : (enc r).head? = some (.int .i64 r.f) := rfl
@[simp high] theorem y1hz : (enc r)[0]? = some (.int .i64 r.f) := rfl
@[simp high] theorem row1 : ((enc r).drop 1).head? = some (.int .i64 r.t) := rfl
@[simp high] theorem y1hy : (enc r)[1]? = some (.int .i64 r.t) := rfl
@[simp high] theorem row2 : ((enc r).drop 2).head? = some (.int .i64 r.at_) := rfl
@[simp high] theorem y1hw : (enc r)[2]? = some (.int .i64 r.at_) := rfl
@[simp high] theorem row3 : ((enc r).drop 3).head? = some (.str r.c) := rfl
@[simp high] theorem y1hs : (enc r)[3]? = some (.str r.c) := rfl
@[simp high] theorem fn0 : (enc f).head? = some (slA f.regs) := rfl
@[simp high] theorem fn0q : (enc f)[0]? = some (slA f.regs) := rfl
@[simp high] theorem fn1 : ((enc f).drop 1).head? = some (slA f.params) := rfl
@[simp high] theorem fn1q : (enc f)[1]? = some (slA f.params) := rfl
@[simp high] theorem fn2 : ((enc f).drop 2).head? = some (.int .i64 f.ret) := rfl
@[simp high] theorem fn2q : (enc f)[2]? = some (.int .i64 f.ret) := rfl
@[simp high] theorem fn3 : ((enc f).drop 3).head? = some (slA f.code) := rfl
@[simp high] theorem fn3q : (enc f)[3]? = some (slA f.code) := rfl
@[simp high] theorem fn4 : ((enc f).drop 4).head? = some (slA f.rows) := rfl
@[simp high] theorem fn4q : (enc f)[4]? = some (slA f.rows) := rfl
@[simp] theorem y1gj : y3h true 9 (enc x) = some (.agg (enc x)) := y3v x
@[simp] theorem y1ey : y3h true 4 (enc r) = some (.agg (enc r)) := y3v r
@[simp] theorem y1h5 : y3h true 5 (enc f) = some (.agg (enc f)) := y3v f
@[simp] theorem y1er : (enc x).length = 9 := rfl
@[simp] theorem y1f5 : (enc r).length = 4 := rfl
@[simp] theorem y1gu : (enc f).length = 5 := rfl
@[simp] theorem y1dz : (enc x).all yj = true := y5t x
@[simp] theorem y1ds : (enc r).all yj = true := y5t r
@[simp] theorem y1fy : (enc f).all yj = true := y5t f
end
@[simp] theorem y19y (o : Option (List Int)) (h : Heap) : y15 h 1 (slA o) = some ((lst o).map enc) := y8p o h
@[simp] theorem y1a5 (o : Option (List Ins)) (h : Heap) : y15 h 9 (slA o) = some ((lst o).map enc) := y8p o h
@[simp] theorem y19x (o : Option (List Row)) (h : Heap) : y15 h 4 (slA o) = some ((lst o).map enc) := y8p o h
def exO {α : Type} [Cel α] : Option (List α) → Ex AV
  | none => ⟨.nils, [], true, [], []⟩
  | some L => ⟨.ls 0 0 (es α) 0 L.length, [.arr false false (es α) (L.map enc)], L.all scal, [], []⟩
@[simp] theorem y1cw {α : Type} [Cel α] (o : Option (List α)) : fz (y1u (exO o).objs) yu (exO o).v = some ⟨slA o, (lst o).all scal, match o with | none => [] | some _ => [0]⟩ := by
  cases o with
  | none => rfl
  | some L =>
    show fz [⟨0, .arr false false (es α) (L.map enc)⟩] yu (.ls 0 0 (es α) 0 L.length) = _
    rw [y1bw]
    simp [ye, y1p, slA]
@[simp] theorem y1du {α : Type} [Cel α] (fb j : Nat) (L : List α) (h : Heap) : y2n fb (some j) (exO (some L)).objs [] h = match h[fb + j]? with
    | some o => some ([(fb + j, o.gen + 1)], h.set (fb + j) ⟨o.gen + 1, .arr false false (es α) (L.map enc)⟩)
    | none => none := by
  simp only [exO, y2n, y52, okOC, if_true, place, List.nil_append]
  cases h[fb + j]? <;> rfl
@[simp] theorem y1cn {α : Type} [Cel α] (fb : Nat) (j : Option Nat) (h : Heap) : y2n fb j (exO (none : Option (List α))).objs [] h = some ([], h) := rfl
@[simp] theorem y1dq {α : Type} [Cel α] (id g : Nat) (L : List α) : reloc [(id, g)] (exO (some L)).v = .ls id g (es α) 0 L.length := rfl
@[simp] theorem y1be {α : Type} [Cel α] (tab : List (Nat × Nat)) : reloc tab (exO (none : Option (List α))).v = .nils := rfl
theorem ywz {α : Type} [Cel α] {h : Heap} {id g : Nat} {L : List α} (hr : ye h id g = some (false, es α, L.map enc)) : yq h (.ls id g (es α) 0 L.length) = some (exO (some L)) := by
  rw [yic, hr]
  simp [exO]
attribute [simp] newC y4j y2s place
@[simp] theorem y1ec (g : Nat) (b f : Bool) (e : Nat) (r : List (List AV)) (t : Heap) : ye (⟨g, .arr b f e r⟩ :: t) 0 g = some (f, e, r) := by simp [ye, y1p]
@[simp] theorem y1eg (o : AO) (t : Heap) (i g : Nat) : ye (o :: t) (i + 1) g = ye t i g := rfl
@[simp] theorem y1cj (g : Nat) (b f : Bool) (e : Nat) (r r' : List (List AV)) (t : Heap) : y1e (⟨g, .arr b f e r⟩ :: t) 0 r' = ⟨g, .arr b f e r'⟩ :: t := rfl
@[simp] theorem y1cr (o : AO) (t : Heap) (i : Nat) (r : List (List AV)) : y1e (o :: t) (i + 1) r = o :: y1e t i r := by
  simp only [y1e, List.getElem?_cons_succ]
  split <;> simp_all
@[simp] theorem yi1 (n id g i off : Nat) (v : AV) (h : Heap) : evSt n (.lp id g i off) v h = match ye h id g with
    | some (false, _, rows) => match rows[i]? with
      | some row => if (cellsOf v).length = n ∧ off + n ≤ row.length ∧ (cellsOf v).all yj = true then some (.tup [], y1e h id (rows.set i (ym off (cellsOf v) row))) else none
      | none => none
    | _ => none := rfl
@[simp] theorem yd1 {vs row : List AV} (h : row.length = vs.length) : ym 0 vs row = vs := by
  simp [ym, ← h]
section
variable (x : Ins) (n : Int) (s : List UInt8) (o : Option (List Int))
@[simp] theorem y1ff : ym 0 [.int .i64 n] (enc x) = enc { x with op := n } := rfl
@[simp] theorem y1fp : ym 1 [.int .i64 n] (enc x) = enc { x with d := n } := rfl
@[simp] theorem y1fu : ym 2 [.int .i64 n] (enc x) = enc { x with a := n } := rfl
@[simp] theorem y1g1 : ym 3 [.int .i64 n] (enc x) = enc { x with b := n } := rfl
@[simp] theorem y1fc : ym 4 [.int .i64 n] (enc x) = enc { x with c := n } := rfl
@[simp] theorem y1ew : ym 5 [.int .i64 n] (enc x) = enc { x with n := n } := rfl
@[simp] theorem y1g7 : ym 6 [.int .i64 n] (enc x) = enc { x with t := n } := rfl
@[simp] theorem y1fb : ym 7 [.str s] (enc x) = enc { x with s := s } := rfl
@[simp] theorem y1fj : ym 8 [slA o] (enc x) = enc { x with args := o } := rfl
end
def yd4 (x : Ins) (v : AV) : List AV := [.int .i64 x.op, .int .i64 x.d, .int .i64 x.a, .int .i64 x.b, .int .i64 x.c, .int .i64 x.n, .int .i64 x.t, .str x.s, v]
@[simp] theorem y1ef (x : Ins) (id g es off len : Nat) : ym 8 [.ls id g es off len] (enc x) = yd4 x (.ls id g es off len) := rfl
@[simp] theorem y1e5 (x : Ins) : ym 8 [.nils] (enc x) = enc { x with args := none } := rfl
@[simp] theorem y1a7 (x : Ins) (v : AV) : (yd4 x v).length = 9 := rfl
@[simp] theorem y19v (x : Ins) (v : AV) : y3h true 9 (yd4 x v) = some (.agg (yd4 x v)) := rfl
@[simp] theorem y1a0 (x : Ins) (w : AV) : (∀ v, v ∈ yd4 x w → yj v = true) ↔ yj w = true := by simp [yd4]
def yg6 (r : Ex AV) (v : AV) : Prop := ∃ q, fz (y1u r.objs) yu r.v = some q ∧ q.v = v
@[simp] theorem y6z (agg : Bool) (n id g i off : Nat) (h : Heap) : evLd agg n (.lp id g i off) h = match ye h id g with
    | some (_, _, rows) => match rows[i]? with
      | some row => y3h agg n (row.drop off)
      | none => none
    | none => none := rfl
end Go.Vm
namespace Go.Vm
open Cel
def inI (n : Int) : Prop := -9223372036854775808 ≤ n ∧ n ≤ 9223372036854775807
theorem y1gi {cs : List AV} (h : Ty.bool.has cs) : ∃ b : Bool, cs = [.bool b] := h
theorem y1fi {cs : List AV} (h : Ty.str.has cs) : ∃ s : List UInt8, cs = [.str s] ∧ s.length ≤ reachBytes := h
theorem yn8 {α : Type} [Cel α] {T : Ty} {Q : α → Prop} (hT : ∀ row, T.has row → ∃ x : α, row = enc x ∧ Q x) : ∀ (rows : List (List AV)), (∀ row, row ∈ rows → T.has row) → ∃ L : List α, rows = L.map enc ∧ ∀ x ∈ L, Q x
  | [], _ => ⟨[], rfl, fun x h => by cases h⟩
  | r :: rows, h => by
    obtain ⟨L, rfl, hL⟩ := yn8 hT rows (fun row hr => h row (by simp [hr]))
    obtain ⟨x, rfl, hx⟩ := hT r (h r (by simp))
    refine ⟨x :: L, rfl, fun y hy => ?_⟩
    rcases List.mem_cons.1 hy with rfl | hy
    · exact hx
    · exact hL y hy
theorem y1d7 {α : Type} [Cel α] {T : Ty} {Q : α → Prop} (hT : ∀ row, T.has row → ∃ x : α, row = enc x ∧ Q x) {cs : List AV} (h : (Ty.slice (es α) T).has cs) : ∃ o : Option (List α), cs = [slA o] ∧ (lst o).length ≤ maxLen ∧ (lst o).length * T.bytes ≤ reachBytes ∧ ∀ x ∈ lst o, Q x := by
  rcases h with rfl | ⟨rows, rfl, hl, hz, hr⟩
  · exact ⟨none, rfl, Nat.zero_le _, by simp, fun x h => by cases h⟩
  · obtain ⟨L, rfl, hL⟩ := yn8 hT rows hr
    exact ⟨some L, rfl, by simpa using hl, by simpa using hz, hL⟩
abbrev yio : Ty := .slice 1 .bool
theorem yvp {cs : List AV} (h : yio.has cs) : ∃ o : Option (List Bool), cs = [slA o] ∧ (lst o).length ≤ reachBytes ∧ ∀ x ∈ lst o, True := by
  obtain ⟨o, h1, _, h2, h3⟩ := y1d7 (α := Bool) (T := .bool) (Q := fun _ => True) (fun _ h => by obtain ⟨b, rfl⟩ := y1gi h; exact ⟨b, rfl, trivial⟩) h
  exact ⟨o, h1, by simpa [Ty.bytes] using h2, h3⟩
structure InsOk (x : Ins) : Prop where
  op : inI x.op
  d : inI x.d
  a : inI x.a
  b : inI x.b
  c : inI x.c
  n : inI x.n
  t : inI x.t
  s : x.s.length ≤ reachBytes
  len : (lst x.args).length * 8 ≤ reachBytes
  args : ∀ r ∈ lst x.args, inI r
structure RowOk (r : Row) : Prop where
  f : inI r.f
  t : inI r.t
  a : inI r.at_
  c : r.c.length ≤ reachBytes
structure FnIn (f : Fn) : Prop where
  regs : (lst f.regs).length * 8 ≤ reachBytes
  regI : ∀ x ∈ lst f.regs, inI x
  params : (lst f.params).length * 8 ≤ reachBytes
  parI : ∀ x ∈ lst f.params, inI x
  ret : inI f.ret
  code : (lst f.code).length * 96 ≤ reachBytes
  insI : ∀ x ∈ lst f.code, InsOk x
  rows : (lst f.rows).length * 40 ≤ reachBytes
  rowI : ∀ x ∈ lst f.rows, RowOk x
end Go.Vm
namespace Go.Vm
abbrev Txt := List UInt8
def sObj : Txt := [79, 98, 106, 101, 99, 116]
def y2j (s : Txt) : Txt := if 2 < s.length ∧ s.head? = some 76 ∧ s.getLast? = some 59 then (s.drop 1).dropLast else []
def y27 (s : Txt) : Txt := if 1 < s.length ∧ s.head? = some 91 then s.drop 1 else []
def yfb (s : Txt) : Int := if s = [73] then 1 else if s = [74] then 2 else if s = [78] ∨ s.head? = some 76 ∨ s.head? = some 91 then 3 else 0
section
variable (up : Txt → Txt → Bool)
def yoj : Nat → Txt → Txt → Bool
  | 0, _, _ => false
  | n + 1, a, b =>
    if b = [] then true else if a = [] then false else if a = b then true else if a = [78] then decide (yfb b = 3) else
    if y2j b ≠ [] then (if a.head? = some 91 then decide (y2j b = sObj) else decide (y2j a ≠ []) && up (y2j a) (y2j b))
    else decide (y27 a ≠ []) && decide (y27 b ≠ []) && decide (yfb (y27 a) = 3) && yoj n (y27 a) (y27 b)
def ypl (a b : Txt) : Bool := yoj up (a.length + 1) a b
theorem yey {s : Txt} (h : y27 s ≠ []) : (y27 s).length + 1 = s.length ∧ s.head? = some 91 ∧ 1 < s.length := by
  unfold y27 at h ⊢
  split at h
  · rename_i hc
    rw [if_pos hc, List.length_drop]
    exact ⟨by omega, hc.2, hc.1⟩
  · exact (h rfl).elim
theorem yl6 : ∀ (n m : Nat) (a b : Txt), a.length < n → a.length < m → yoj up n a b = yoj up m a b
  | 0, _, _, _, h, _ => by omega
  | _ + 1, 0, _, _, _, h => by omega
  | n + 1, m + 1, a, b, h1, h2 => by
    unfold yoj
    by_cases he : y27 a ≠ []
    · have hl := (yey he).1
      rw [yl6 n m (y27 a) (y27 b) (by omega) (by omega)]
    · rw [decide_eq_false he]
      simp only [Bool.false_and]
theorem ykv (a b : Txt) : ypl up a b = (if b = [] then true else if a = [] then false else if a = b then true else if a = [78] then decide (yfb b = 3) else
    if y2j b ≠ [] then (if a.head? = some 91 then decide (y2j b = sObj) else decide (y2j a ≠ []) && up (y2j a) (y2j b))
    else decide (y27 a ≠ []) && decide (y27 b ≠ []) && decide (yfb (y27 a) = 3) && ypl up (y27 a) (y27 b)) := by
  conv => lhs; unfold ypl yoj
  by_cases he : y27 a ≠ []
  · have hl := (yey he).1
    rw [yl6 up a.length ((y27 a).length + 1) (y27 a) (y27 b) (by omega) (by omega)]
    rfl
  · rw [decide_eq_false he]
    simp only [Bool.false_and]
end
end Go.Vm
namespace Go.Vm
open Cel
attribute [local simp] y7 y4n ydi
theorem yct (a b : UInt8) : decide ((a.toNat : Int) = (b.toNat : Int)) = decide (a = b) := by
  rw [Bool.eq_iff_iff]
  simp only [decide_eq_true_eq]
  constructor
  · intro h
    exact UInt8.toNat_inj.1 (by omega)
  · rintro rfl; rfl
@[simp] theorem y1bl (a : UInt8) : decide ((a.toNat : Int) = 76) = decide (a = 76) := yct a 76
@[simp] theorem y18i (a : UInt8) : decide ((a.toNat : Int) = 91) = decide (a = 91) := yct a 91
@[simp] theorem y1ek (a : UInt8) : decide ((a.toNat : Int) = 59) = decide (a = 59) := yct a 59
@[simp] theorem y1i1 (a : UInt8) : decide ((a.toNat : Int) = 73) = decide (a = 73) := yct a 73
@[simp] theorem y1hn (a : UInt8) : decide ((a.toNat : Int) = 74) = decide (a = 74) := yct a 74
theorem yju {s : Txt} {i : Nat} {b : UInt8} (h : s[i]? = some b) (k : IntKind) : y3l (.str s) (.int k i) = some (.int .u8 b.toNat) := by
  simp [y3l, h]
theorem y7k (a : UInt8) (s : Txt) (k : IntKind) : y3l (.str (a :: s)) (.int k 0) = some (.int .u8 a.toNat) := yju (i := 0) rfl k
theorem y12i {s : Txt} {i : Nat} (h : i ≤ s.length) (k : IntKind) : yf4 (.str s) (some (.int k i)) none = some (.str (s.drop i)) := by
  simp [yf4, ya3, yiq, h]
theorem y1bz {s : Txt} {i j : Nat} (h : i ≤ j) (h2 : j ≤ s.length) (k k' : IntKind) : yf4 (.str s) (some (.int k i)) (some (.int k' j)) = some (.str ((s.take j).drop i)) := by
  simp [yf4, ya3, yiq, h, h2]
abbrev Sm (s : Txt) : Prop := s.length ≤ 9223372036854775806
theorem y15y {s : Txt} (h : 2 < s.length) : ∃ a m z, s = a :: (m ++ [z]) ∧ m ≠ [] := by
  obtain ⟨a, r, rfl⟩ := List.exists_cons_of_ne_nil (l := s) (by intro e; rw [e] at h; simp at h)
  have hr : r ≠ [] := by intro e; rw [e] at h; simp at h
  refine ⟨a, r.dropLast, r.getLast hr, by rw [List.dropLast_concat_getLast], ?_⟩
  intro e
  have := congrArg List.length e
  simp at this h
  omega
theorem yvh (a : UInt8) (m : Txt) (z : UInt8) (hm : m ≠ []) : y2j (a :: (m ++ [z])) = if a = 76 ∧ z = 59 then m else [] := by
  have : 0 < m.length := List.length_pos_iff.2 hm
  unfold y2j
  have e1 : (a :: (m ++ [z])).getLast? = some z := by
    rw [← List.cons_append, List.getLast?_concat]
  rw [e1]
  simp only [List.length_cons, List.length_append, List.length_nil, List.head?_cons, Option.some.injEq, List.drop_one, List.tail_cons, List.dropLast_concat]
  by_cases h : a = 76 ∧ z = 59
  · rw [if_pos h, if_pos ⟨by omega, h.1, h.2⟩]
  · rw [if_neg h, if_neg (fun e => h ⟨e.2.1, e.2.2⟩)]
theorem y16b (s : Txt) (hs : Sm s) : (y6 E).p 35 [.str s] = some ⟨.str (y2j s), [], true, [], []⟩ := by
  rw [x_q3]
  by_cases h : 2 < s.length
  · obtain ⟨a, m, z, rfl, hm⟩ := y15y h
    have hl : (a :: (m ++ [z])).length = m.length + 2 := by simp
    unfold Sm at hs
    rw [hl] at hs
    rw [yvh a m z hm]
    have hc : (2 : Int) < ((m.length + 2 : Nat) : Int) := by have := List.length_pos_iff.2 hm; omega
    have hw : IntKind.wrap .i64 (((m.length + 2 : Nat) : Int) - 1) = ((m.length + 1 : Nat) : Int) := by rw [yz9 (by omega) (by omega)]; simp
    have ix : y3l (.str (a :: (m ++ [z]))) (.int .i64 ((m.length + 1 : Nat) : Int)) = some (.int .u8 z.toNat) := yju (by simp) .i64
    have sl : yf4 (.str (a :: (m ++ [z]))) (some (.int .i64 1)) (some (.int .i64 ((m.length + 1 : Nat) : Int))) = some (.str m) := by
      have := y1bz (s := a :: (m ++ [z])) (i := 1) (j := m.length + 1) (by omega) (by simp) .i64 .i64
      rw [show ((1 : Nat) : Int) = 1 from rfl] at this
      rw [this]
      simp
    unfold q3_3 q3_2
    rw [y86, hl]
    simp only [y4, y3y, hc, decide_true, y4d, y7k, y13, y1bl]
    by_cases h1 : a = 76
    · simp only [h1, decide_true, yo, y4, y4d, yba, hw, true_and]
      rw [h1] at ix sl
      simp only [ix, y4, y13, y1ek]
      by_cases h2 : z = 59
      · simp only [h2, decide_true, y1q, if_true, yba, y4, hw]
        rw [h2] at sl
        rw [sl]
        simp
      · simp only [h2, decide_false, y10, if_false]
        simp [q3_1]
    · simp only [h1, decide_false, yo, y4, yab, yy, y10, false_and, if_false]
      simp [q3_1]
  · have hc : ¬ (2 : Int) < (s.length : Int) := by omega
    have e : y2j s = [] := by unfold y2j; rw [if_neg (fun q => h q.1)]
    rw [e]
    simp [q3_3, q3_2, q3_1, hc]
theorem yqv (s : Txt) : (y6 E).p 36 [.str s] = some ⟨.str (y27 s), [], true, [], []⟩ := by
  rw [x_q4]
  match s with
  | [] => simp [y27, q4_3, q4_2, q4_1]
  | [a] => simp [y27, q4_3, q4_2, q4_1]
  | a :: b :: m =>
    have hc : (1 : Int) < ((a :: b :: m).length : Int) := by simp; omega
    have sl := y12i (s := a :: b :: m) (i := 1) (by simp) .i64
    rw [show ((1 : Nat) : Int) = 1 from rfl] at sl
    have e : y27 (a :: b :: m) = if a = 91 then b :: m else [] := by
      unfold y27
      simp
    rw [e]
    unfold q4_3 q4_2
    by_cases h1 : a = 91
    · subst h1
      simp only [y86, y4, y3y, hc, decide_true, y4d, y7k, y13, y18i, yo, y1q, if_true]
      rw [sl]
      simp
    · simp only [y86, y4, y3y, hc, decide_true, y4d, y7k, y13, y18i, h1, decide_false, yo, y10, if_false]
      simp [q4_1]
theorem y1ak (s : Txt) : (y6 E).p 34 [.str s] = some ⟨.int .i64 (yfb s), [], true, [], []⟩ := by
  rw [x_q5]
  unfold q5_3 q5_2
  by_cases h1 : s = [73]
  · rw [h1]; rfl
  by_cases h2 : s = [74]
  · rw [h2]; rfl
  by_cases h3 : s = [78]
  · rw [h3]; rfl
  have e : yfb s = if s.head? = some 76 ∨ s.head? = some 91 then 3 else 0 := by
    unfold yfb
    rw [if_neg h1, if_neg h2]
    simp only [h3, false_or]
  rw [e]
  simp only [y25, h1, h2, h3, decide_false, y4, y10, y6a, y1k]
  cases s with
  | nil => simp [q5_1]
  | cons a m =>
    simp only [ne_eq, reduceCtorEq, not_false_eq_true, decide_true, y4, y6a, y4d, y7k, y13, y1bl, List.head?_cons, Option.some.injEq]
    by_cases h4 : a = 76
    · simp [h4]
    · by_cases h5 : a = 91
      · simp [h5, y7k]
      · simp [h4, h5, y7k, q5_1]
def okC (m : Bool) (b : UInt8) : Bool := decide (97 ≤ b ∧ b ≤ 122) || decide (65 ≤ b ∧ b ≤ 90) || decide (48 ≤ b ∧ b ≤ 57) || decide (b = 95) || decide (b = 36) || decide (b = 47) || (m && (decide (b = 60) || decide (b = 62)))
def y7x (m : Bool) (s : Txt) : Bool := decide (1 ≤ s.length) && decide (s.length ≤ 60) && s.all (okC m)
theorem yoa (a b : UInt8) : decide ((a.toNat : Int) ≤ (b.toNat : Int)) = decide (a ≤ b) := by
  rw [Bool.eq_iff_iff]
  simp only [decide_eq_true_eq, UInt8.le_iff_toNat_le]
  omega
theorem yro (m : Bool) (v17 v18 v19 : AV) (b : UInt8) (h : Heap) (hx : (match y21 1 v17 v19 with | some a => evLd false 1 a h | none => none) = some (.int .u8 b.toNat)) :
    q6_4 (.bool m) v17 v18 v19 h = if okC m b then q6_3 (.bool m) v17 v18 v19 h else some ⟨.bool false, [], true, [], []⟩ := by
  cases hi : y21 1 v17 v19 with
  | none => rw [hi] at hx; cases hx
  | some a =>
    rw [hi] at hx
    simp only at hx
    unfold q6_4
    have f97 : y9 .geq (.int .u8 b.toNat) (.int .u8 97) = some (.bool (decide (97 ≤ b))) := by rw [yb6]; exact congrArg (fun q => some (AV.bool q)) (yoa 97 b)
    have f122 : y9 .leq (.int .u8 b.toNat) (.int .u8 122) = some (.bool (decide (b ≤ 122))) := by rw [yck]; exact congrArg (fun q => some (AV.bool q)) (yoa b 122)
    have f65 : y9 .geq (.int .u8 b.toNat) (.int .u8 65) = some (.bool (decide (65 ≤ b))) := by rw [yb6]; exact congrArg (fun q => some (AV.bool q)) (yoa 65 b)
    have f90 : y9 .leq (.int .u8 b.toNat) (.int .u8 90) = some (.bool (decide (b ≤ 90))) := by rw [yck]; exact congrArg (fun q => some (AV.bool q)) (yoa b 90)
    have f48 : y9 .geq (.int .u8 b.toNat) (.int .u8 48) = some (.bool (decide (48 ≤ b))) := by rw [yb6]; exact congrArg (fun q => some (AV.bool q)) (yoa 48 b)
    have f57 : y9 .leq (.int .u8 b.toNat) (.int .u8 57) = some (.bool (decide (b ≤ 57))) := by rw [yck]; exact congrArg (fun q => some (AV.bool q)) (yoa b 57)
    have f95 : y9 .eql (.int .u8 b.toNat) (.int .u8 95) = some (.bool (decide (b = 95))) := by rw [y13]; exact congrArg (fun q => some (AV.bool q)) (yct b 95)
    have f36 : y9 .eql (.int .u8 b.toNat) (.int .u8 36) = some (.bool (decide (b = 36))) := by rw [y13]; exact congrArg (fun q => some (AV.bool q)) (yct b 36)
    have f47 : y9 .eql (.int .u8 b.toNat) (.int .u8 47) = some (.bool (decide (b = 47))) := by rw [y13]; exact congrArg (fun q => some (AV.bool q)) (yct b 47)
    have f60 : y9 .eql (.int .u8 b.toNat) (.int .u8 60) = some (.bool (decide (b = 60))) := by rw [y13]; exact congrArg (fun q => some (AV.bool q)) (yct b 60)
    have f62 : y9 .eql (.int .u8 b.toNat) (.int .u8 62) = some (.bool (decide (b = 62))) := by rw [y13]; exact congrArg (fun q => some (AV.bool q)) (yct b 62)
    have eo : okC m b = ((decide (97 ≤ b) && decide (b ≤ 122)) || (decide (65 ≤ b) && decide (b ≤ 90)) || (decide (48 ≤ b) && decide (b ≤ 57)) || decide (b = 95) || decide (b = 36) || decide (b = 47) || (m && (decide (b = 60) || decide (b = 62)))) := by
      unfold okC
      simp only [Bool.decide_and]
    rw [eo]
    simp only [hi, y4, hx]
    generalize decide (97 ≤ b) = q1 at f97 ⊢
    generalize decide (b ≤ 122) = q2 at f122 ⊢
    generalize decide (65 ≤ b) = q3 at f65 ⊢
    generalize decide (b ≤ 90) = q4 at f90 ⊢
    generalize decide (48 ≤ b) = q5 at f48 ⊢
    generalize decide (b ≤ 57) = q6 at f57 ⊢
    generalize decide (b = 95) = q7 at f95 ⊢
    generalize decide (b = 36) = q8 at f36 ⊢
    generalize decide (b = 47) = q9 at f47 ⊢
    generalize decide (b = 60) = q10 at f60 ⊢
    generalize decide (b = 62) = q11 at f62 ⊢
    cases q1 <;> cases q2 <;> simp only [f97, f122, y4d, y6a, y9c, yab, y9x, y4, yo, yy] <;> first | rfl | skip
    all_goals (cases q3 <;> cases q4 <;> simp only [f65, f90, y4d, y6a, y9c, yab, y9x, y4, yo, yy] <;> first | rfl | skip)
    all_goals (cases q5 <;> cases q6 <;> simp only [f48, f57, y4d, y6a, y9c, yab, y9x, y4, yo, yy] <;> first | rfl | skip)
    all_goals (cases q7 <;> simp only [f95, y4d, y6a, y9c, yab, y9x, y4, yo, yy] <;> first | rfl | skip)
    all_goals (cases q8 <;> simp only [f36, y4d, y6a, y9c, yab, y9x, y4, yo, yy] <;> first | rfl | skip)
    all_goals (cases q9 <;> simp only [f47, y2b, Bool.not_true, Bool.not_false, y4d, y6a, y9c, yab, y9x, y4, yo, yy] <;> first | rfl | skip)
    all_goals (cases m <;> first | rfl | (cases q10 <;> cases q11 <;> simp only [f60, f62, y2b, Bool.not_true, Bool.not_false, y4d, y6a, y9c, yab, y9x, y4, yo, yy] <;> rfl))
end Go.Vm
namespace Go.Vm
open Cel
def nz {α : Type} : List α → Option (List α)
  | [] => none
  | x :: L => some (x :: L)
@[simp] theorem y1bi {α : Type} (L : List α) : lst (nz L) = L := by cases L <;> rfl
section
variable {α : Type} [Cel α]
def y2l (α : Type) [Cel α] (j g : Nat) : List α → AV
  | [] => .nils
  | _ :: L => .ls j g (es α) 0 (L.length + 1)
def y38 (g : Nat) (o : AO) : List α → AO
  | [] => o
  | x :: L => ⟨g, .arr false false (es α) ((x :: L).map enc)⟩
@[simp] theorem yc3 (j g : Nat) : y2l α j g [] = .nils := rfl
@[simp] theorem y1bg (g : Nat) (o : AO) : y38 g o ([] : List α) = o := rfl
@[simp] theorem yoo (j g : Nat) (L : List α) (H : Heap) : y1t 1 (y2l α j g L) H = some (.int .i64 L.length) := by
  cases L <;> simp [y2l, y1t]
@[simp] theorem ygv (j g : Nat) (L : List α) : cellsOf (y2l α j g L) = [y2l α j g L] := by cases L <;> rfl
@[simp] theorem y1a2 (j g : Nat) (L : List α) : yj (y2l α j g L) = true := by cases L <;> rfl
theorem yae {H : Heap} {fb j g b : Nat} {o : AO} {y : AV} {L M : List α} (hy : y15 H (es α) y = some (M.map enc)) (h : H[fb + j]? = some (y38 g o L)) (hs : (2 * (L.length + M.length) + 512) * b ≤ 2 ^ 48) :
    ∃ g', y2d fb (some j) (es α) b (y2l α (fb + j) g L) y H = some (y2l α (fb + j) g' (L ++ M), H.set (fb + j) (y38 g' o (L ++ M))) := by
  unfold y2d
  rw [hy]
  have hlt : fb + j < H.length := (List.getElem?_eq_some_iff.1 h).1
  cases L with
  | nil =>
    cases M with
    | nil =>
      refine ⟨g, ?_⟩
      simp only [y2l, List.map_nil, List.isEmpty_nil, if_true, List.append_nil, y38]
      rw [y38] at h
      rw [show H.set (fb + j) o = H from by
        refine List.ext_getElem? fun i => ?_
        rw [List.getElem?_set]
        split
        · rename_i e; subst e; simp [h]
        · rfl]
    | cons y M =>
      refine ⟨o.gen + 1, ?_⟩
      rw [y38] at h
      have hm : (M.length + 1) * b ≤ 281474976710656 := Nat.le_trans (Nat.mul_le_mul_right b (by simp only [List.length_nil, List.length_cons]; omega)) hs
      simp [y2l, hm, y2s, place, h, y38]
  | cons x L =>
    refine ⟨g + 1, ?_⟩
    have h' : H[fb + j]? = some ⟨g, .arr false false (es α) ((x :: L).map enc)⟩ := h
    simp only [y2l, h']
    rw [if_pos (by simp; first | simpa using hs | exact .inl (by simpa using hs))]
    simp only [List.drop_zero]
    rw [show ((x :: L).map (enc (α := α))).take (L.length + 1) = (x :: L).map enc from y8s (x :: L)]
    simp [y2l, y38, Nat.add_right_comm]
end
@[simp] theorem y1d9 (h : Heap) (es id g es1 off len : Nat) : y15 h es (.ls id g es1 off len) = match ye h id g with
    | some (_, es', rows) => if es1 = es ∧ es' = es ∧ off + len ≤ rows.length then some ((rows.drop off).take len) else none
    | none => none := rfl
@[simp] theorem y1he {α : Type} [Cel α] (x : α) (L : List α) : exO (nz (x :: L)) = ⟨.ls 0 0 (es α) 0 (L.length + 1), [.arr false false (es α) ((x :: L).map enc)], (x :: L).all scal, [], []⟩ := rfl
abbrev D0 : AO := ⟨0, .dead⟩
section
variable {α : Type} [Cel α]
end
@[simp] theorem y1em {α : Type} [Cel α] : exO (nz ([] : List α)) = ⟨.nils, [], true, [], []⟩ := rfl
theorem y12o {n : Nat} {p : Int} (h0 : 0 ≤ p) (h1 : p < (n : Int)) (id g : Nat) (k : IntKind) : y21 1 (.ls id g 1 0 n) (.int k p) = some (.lp id g p.toNat 0) := by simp [y21, h0, h1]
end Go.Vm
namespace Go.Vm
open Cel
section
variable {α : Type} [Cel α]
def ownV (j g : Nat) : Option (List α) → AV
  | none => .nils
  | some L => .ls j g (es α) 0 L.length
def ownO (g : Nat) (d : AO) : Option (List α) → AO
  | none => d
  | some L => ⟨g, .arr false false (es α) (L.map enc)⟩
def ownI (j : Nat) : Option (List α) → List Nat
  | none => []
  | some _ => [j]
@[simp] theorem y174 (j g : Nat) (o : Option (List α)) : cellsOf (ownV j g o) = [ownV j g o] := by cases o <;> rfl
@[simp] theorem y1ab (j g : Nat) (o : Option (List α)) : yj (ownV j g o) = true := by cases o <;> rfl
@[simp] theorem y1b8 (j g : Nat) (o : Option (List α)) : known (ownV j g o) = true := by cases o <;> rfl
@[simp] theorem y1dm (j g : Nat) (o : Option (List α)) (H : Heap) : y1t 1 (ownV j g o) H = some (.int .i64 (lst o).length) := by cases o <;> rfl
theorem y11c {H : Heap} {i : Nat} {o : AO} (h : H[i]? = some o) : H.set i o = H := by
  refine List.ext_getElem? fun k => ?_
  rw [List.getElem?_set]
  split
  · rename_i e; subst e
    rw [if_pos (List.getElem?_eq_some_iff.1 h).1, h]
  · rfl
theorem yzj {H : Heap} {j g : Nat} {d : AO} {L : List α} (h : H[j]? = some (ownO g d (some L))) : ye H j g = some (false, es α, L.map enc) := by
  simp [ye, y1p, h, ownO]
theorem y1ca {H : Heap} {j g k : Nat} {d : AO} {o : Option (List α)} (h : H[j]? = some (ownO g d o)) : fz H (k + 2) (ownV j g o) = some ⟨slA o, (lst o).all scal, ownI j o⟩ := by
  cases o with
  | none => rfl
  | some L =>
    rw [ownV, y1cl, yzj h]
    simp only [List.drop_zero, Nat.zero_add, List.length_map, Nat.le_refl, and_self, if_true, y8s, y12e]
    simp [slA, ownI]
end
theorem y5c {E : Env} {C : Calls2} {fb f : Nat} {args : List AV} {h : Heap} {fa : Fz (List AV)} {r : Ex AV} {v : AV} (hE : E.pure f = true) (ha : yb (fz h yu) args = some fa) (hf : fa.ids = [])
    (hc : C.p f fa.v = some r) (hr : yg6 r v) (sl : Option Nat := none) (hsl : sl = none := by rfl) : y7 E C fb sl true f args h = some (v, h) := by
  subst hsl
  obtain ⟨q, h1, h2⟩ := hr
  simp [y7, hE, y4n, ha, hc, hf, h1, h2]
theorem y12q {E : Env} {C : Calls2} {fb f : Nat} {args : List AV} {h : Heap} {fa : Fz (List AV)} {r : Ex AV} (hE : E.pure f = true) (ha : yb (fz h yu) args = some fa) (hf : fa.ids = [])
    (hc : C.p f fa.v = some r) (sl : Option Nat := none) (hsl : sl = none := by rfl) : ykf E C fb sl true f args h = some ([], []) := by
  subst hsl
  simp [ykf, hE, ha, hc, hf]
end Go.Vm
namespace Go.Vm
open Cel
theorem y22 {H : Heap} {a : Nat} {x : AO} (h : a < H.length) : (H.set a x)[a]? = some x := by simp [h]
theorem yi {H : Heap} {a b : Nat} {x : AO} (h : a ≠ b) : (H.set a x)[b]? = H[b]? := List.getElem?_set_ne h
theorem yoe {H : Heap} {n b : Nat} (h : b < H.length) : (H ++ yg n)[b]? = H[b]? := List.getElem?_append_left h
theorem y1ep {H : Heap} {n j : Nat} (h : j < n) : (H ++ yg n)[H.length + j]? = some ⟨0, .dead⟩ := by
  rw [List.getElem?_append_right (by omega), Nat.add_sub_cancel_left, yg, List.getElem?_replicate, if_pos h]
theorem yz {H : Heap} {a : Nat} {x : AO} (h : H[a]? = some x) : a < H.length := (List.getElem?_eq_some_iff.1 h).1
theorem y19r {α : Type} [Cel α] {H : Heap} {id g : Nat} {L : List α} (h : H[id]? = some ⟨g, .arr false false (es α) (L.map enc)⟩) : y15 H (es α) (.ls id g (es α) 0 L.length) = some (L.map enc) := by
  simp [y15, ye, y1p, h]
theorem yn1 {α : Type} [Cel α] {H : Heap} {id g k : Nat} {L : List α} (h : H[id]? = some ⟨g, .arr false false (es α) (L.map enc)⟩) : fz H (k + 2) (.ls id g (es α) 0 L.length) = some ⟨slA (some L), L.all scal, [id]⟩ :=
  y1ca (o := some L) (d := ⟨0, .dead⟩) h
theorem yn7 {H : Heap} {id g i es : Nat} {rows : List (List AV)} {v : AV} (h : H[id]? = some ⟨g, .arr false false es rows⟩) (hx : rows[i]? = some [v]) : evLd false 1 (.lp id g i 0) H = some v := by
  have hr : ye H id g = some (false, es, rows) := by simp [ye, y1p, h]
  rw [y6z, hr]
  simp [hx]
end Go.Vm
namespace Go.Vm
open Cel
attribute [local simp] y7 y4n ydi
def yg9 (s : Txt) : List (List AV) := s.map fun b => [.int .u8 b.toNat]
theorem ytc (m : Bool) (s : Txt) (hs : Sm s) : ∀ (d i : Nat), i + d = s.length →
    yuh (.bool m) (.ls 0 1 1 0 s.length) (.int .i64 s.length) (.int .i64 i) [⟨1, .arr false false 1 (yg9 s)⟩] = some ⟨.bool ((s.drop i).all (okC m)), [], true, [], []⟩ := by
  intro d
  induction d with
  | zero =>
    intro i hi
    have hc : ¬ ((i : Int) < (s.length : Int)) := by omega
    rw [ylm, List.drop_eq_nil_of_le (by omega)]
    simp only [q6_6, yh, hc, decide_false, y4, q6_5, y10]
    rfl
  | succ d ih =>
    intro i hi
    have hlt : i < s.length := by omega
    have hc : ((i : Int) < (s.length : Int)) := by omega
    have hw := y3e hlt (by unfold Sm at hs; omega)
    have ih := ih (i + 1) (by omega)
    push_cast at ih
    rw [ylm, List.drop_eq_getElem_cons hlt, List.all_cons]
    have hix : (match y21 1 (.ls 0 1 1 0 s.length) (.int .i64 (i : Int)) with | some a => evLd false 1 a [⟨1, .arr false false 1 (yg9 s)⟩] | none => none) = some (.int .u8 (s[i]).toNat) := by
      have e1 : y21 1 (.ls 0 1 1 0 s.length) (.int .i64 (i : Int)) = some (.lp 0 1 i 0) := by
        have := y12o (n := s.length) (p := (i : Int)) (by omega) hc 0 1 .i64
        simpa using this
      rw [e1]
      exact yn7 (id := 0) (es := 1) rfl (by simp [yg9, hlt])
    simp only [q6_6, yh, hc, decide_true, y4, q6_5, y1q]
    rw [yro m _ _ _ (s[i]) _ hix]
    cases hb : okC m s[i] with
    | false => simp
    | true =>
      simp only [if_true, Bool.true_and]
      rw [q6_3, y1b]
      simp only [y4, hw]
      exact ih
theorem y1br (s : Txt) (m : Bool) (hs : Sm s) : (y6 E).p 60 [.str s, .bool m] = some ⟨.bool (y7x m s), [], true, [], []⟩ := by
  rw [x_q6]
  unfold y16s y15h y7x
  by_cases h1 : (s.length : Int) < 1
  · have : ¬ 1 ≤ s.length := by omega
    simp [h1, this]
  by_cases h2 : (60 : Int) < s.length
  · have h2' : ¬ s.length ≤ 60 := by omega
    simp [h1, h2, h2']
  have h1' : 1 ≤ s.length := by omega
  have h2' : s.length ≤ 60 := by omega
  simp only [y86, y4, yh, h1, decide_false, y6a, y3y, h2, yy, y10, q6_8]
  have e : s2bC 0 (some 0) (.str s) [⟨0, .dead⟩] = some (.ls 0 1 1 0 s.length, [⟨1, .arr false false 1 (yg9 s)⟩]) := by
    simp [s2bC, y2s, place, yg9]
  rw [e]
  simp only [yc, yak, y4]
  rw [show (AV.int .i64 0) = .int .i64 ((0 : Nat) : Int) from rfl, ytc m s hs s.length 0 (by omega)]
  simp [h1', h2']
end Go.Vm
namespace Go.Vm
abbrev ATab := List (Txt × List Txt)
def akeys (A : ATab) : List Txt := A.map (·.1)
section
variable (up : Txt → List Txt)
inductive AOk : ATab → Prop
  | nil : AOk []
  | snoc {A : ATab} {n : Txt} {S : List Txt} : AOk A → n ∉ akeys A → n ∈ S → (∀ s ∈ up n, ∃ T, (s, T) ∈ A ∧ ∀ x ∈ T, x ∈ S) → (∀ x ∈ S, x = n ∨ ∃ s ∈ up n, ∃ T, (s, T) ∈ A ∧ x ∈ T) → AOk (A ++ [(n, S)])
variable {up}
theorem yfe {A : ATab} {n : Txt} {S : List Txt} (h : (n, S) ∈ A) : n ∈ akeys A := List.mem_map_of_mem h
theorem yyf {A : ATab} {n : Txt} (h : n ∈ akeys A) : ∃ S, (n, S) ∈ A := by
  unfold akeys at h
  obtain ⟨⟨m, S⟩, h1, rfl⟩ := List.mem_map.1 h
  exact ⟨S, h1⟩
theorem AOk.uniq {A : ATab} (h : AOk up A) : ∀ {n : Txt} {S T : List Txt}, (n, S) ∈ A → (n, T) ∈ A → S = T := by
  induction h with
  | nil => intro n S T hm; cases hm
  | @snoc A n S _ hn _ _ _ ih =>
    intro m U V h1 h2
    rcases List.mem_append.1 h1 with h1 | h1
    · rcases List.mem_append.1 h2 with h2 | h2
      · exact ih h1 h2
      · rw [List.mem_singleton] at h2
        injection h2 with e1 e2
        exact (hn (e1 ▸ yfe h1)).elim
    · rw [List.mem_singleton] at h1
      injection h1 with e1 e2
      subst e2
      rcases List.mem_append.1 h2 with h2 | h2
      · exact (hn (e1 ▸ yfe h2)).elim
      · rw [List.mem_singleton] at h2
        injection h2 with _ e2
        exact e2.symm
theorem AOk.trans {A : ATab} (h : AOk up A) : ∀ {n x : Txt} {S : List Txt}, (n, S) ∈ A → x ∈ S → ∃ T, (x, T) ∈ A ∧ ∀ y ∈ T, y ∈ S := by
  induction h with
  | nil => intro n x S hm; cases hm
  | @snoc A n S _ _ _ hup hin ih =>
    intro m x T hm hx
    rcases List.mem_append.1 hm with hm | hm
    · obtain ⟨U, h1, h2⟩ := ih hm hx
      exact ⟨U, List.mem_append_left _ h1, h2⟩
    · rw [List.mem_singleton] at hm
      injection hm with e1 e2
      subst e1; subst e2
      rcases hin x hx with rfl | ⟨s, hs, V, hV, hxV⟩
      · exact ⟨_, List.mem_append_right _ (by simp), fun y hy => hy⟩
      · obtain ⟨U, h1, h2⟩ := ih hV hxV
        obtain ⟨V', hV', hsub⟩ := hup s hs
        refine ⟨U, List.mem_append_left _ h1, fun y hy => ?_⟩
        have hyV := h2 y hy
        rename_i hA _ _
        have := AOk.uniq hA hV hV'
        subst this
        exact hsub y hyV
theorem AOk.top {A : ATab} (h : AOk up A) (hk : ∀ n ∈ akeys A, n = sObj ∨ up n ≠ []) : ∀ {n : Txt} {S : List Txt}, (n, S) ∈ A → sObj ∈ S := by
  induction h with
  | nil => intro n S hm; cases hm
  | @snoc A n S _ _ hS hup _ ih =>
    intro m T hm
    have ih : ∀ {n : Txt} {S : List Txt}, (n, S) ∈ A → sObj ∈ S := ih fun q hq => hk q (by unfold akeys at hq ⊢; rw [List.map_append]; exact List.mem_append_left _ hq)
    rcases List.mem_append.1 hm with hm | hm
    · exact ih hm
    · rw [List.mem_singleton] at hm
      injection hm with e1 e2
      subst e1; subst e2
      rcases hk m (by unfold akeys; simp) with h0 | h0
      · rw [← h0]; exact hS
      · obtain ⟨s, hs⟩ := List.exists_mem_of_ne_nil _ h0
        obtain ⟨V, hV, hsub⟩ := hup s hs
        exact hsub _ (ih hV)
theorem AOk.obj {A : ATab} (h : AOk up A) (h0 : up sObj = []) : ∀ {S : List Txt}, (sObj, S) ∈ A → ∀ x ∈ S, x = sObj := by
  induction h with
  | nil => intro S hm; cases hm
  | @snoc A n S _ _ _ _ hin ih =>
    intro T hm x hx
    rcases List.mem_append.1 hm with hm | hm
    · exact ih hm x hx
    · rw [List.mem_singleton] at hm
      injection hm with e1 e2
      subst e1; subst e2
      rcases hin x hx with h | ⟨s, hs, _⟩
      · exact h
      · rw [h0] at hs; cases hs
end
def alook (A : ATab) (n : Txt) : Option (List Txt) := (A.find? fun p => p.1 = n).map (·.2)
def upB (A : ATab) (x y : Txt) : Bool := ((alook A x).getD []).contains y
theorem y9g {A : ATab} {n : Txt} {S : List Txt} (h : alook A n = some S) : (n, S) ∈ A := by
  unfold alook at h
  cases hf : A.find? fun p => decide (p.1 = n) with
  | none => rw [hf] at h; cases h
  | some p =>
    rw [hf] at h
    have h1 := List.mem_of_find?_eq_some hf
    have h2 := List.find?_some hf
    injection h with h
    simp only [decide_eq_true_eq] at h2
    obtain ⟨a, b⟩ := p
    simp only at h h2
    subst h; subst h2
    exact h1
theorem yov {A : ATab} {n : Txt} (h : alook A n = none) : n ∉ akeys A := by
  unfold alook at h
  intro hn
  obtain ⟨S, hS⟩ := yyf hn
  have h' : A.find? (fun p => decide (p.1 = n)) = none := by
    cases hf : A.find? fun p => decide (p.1 = n) with
    | none => rfl
    | some p => rw [hf] at h; cases h
  have := List.find?_eq_none.1 h' (n, S) hS
  simp at this
end Go.Vm
namespace Go.Vm
open Cel
structure By where
  n : Int
  deriving DecidableEq, Inhabited
instance : Cel By := ⟨1, fun b => [.int .u8 b.n], fun _ => rfl, fun _ => rfl, fun _ => rfl⟩
structure Cst where
  kind : Int
  num : Int
  text : List UInt8
  name : List UInt8
  desc : List UInt8
  deriving DecidableEq, Inhabited
structure Fld where
  fl : Int
  name : List UInt8
  desc : List UInt8
  deriving DecidableEq, Inhabited
structure Frm where
  pc : Int
  locals : Option (List Tx)
  stack : Option (List Tx)
  deriving DecidableEq, Inhabited
structure Mth where
  fl : Int
  name : List UInt8
  desc : List UInt8
  stack : Int
  locals : Int
  code : Option (List By)
  rows : Option (List Row)
  frames : Option (List Frm)
  deriving DecidableEq, Inhabited
structure Cls where
  fl : Int
  nm : List UInt8
  sup : List UInt8
  ifs : Option (List Tx)
  pool : Option (List Cst)
  flds : Option (List Fld)
  mths : Option (List Mth)
  deriving DecidableEq, Inhabited
instance : Cel Cst := ⟨5, fun x => [.int .i64 x.kind, .int .i64 x.num, .str x.text, .str x.name, .str x.desc], fun _ => rfl, fun _ => rfl, fun _ => rfl⟩
instance : Cel Fld := ⟨3, fun x => [.int .i64 x.fl, .str x.name, .str x.desc], fun _ => rfl, fun _ => rfl, fun _ => rfl⟩
instance : Cel Frm := ⟨3, fun x => [.int .i64 x.pc, slA x.locals, slA x.stack], fun _ => rfl, fun _ => by simp, fun _ => by simp⟩
instance : Cel Mth := ⟨8, fun x => [.int .i64 x.fl, .str x.name, .str x.desc, .int .i64 x.stack, .int .i64 x.locals, slA x.code, slA x.rows, slA x.frames], fun _ => rfl, fun _ => by simp, fun _ => by simp⟩
instance : Cel Cls := ⟨7, fun x => [.int .i64 x.fl, .str x.nm, .str x.sup, slA x.ifs, slA x.pool, slA x.flds, slA x.mths], fun _ => rfl, fun _ => by simp, fun _ => by simp⟩
@[simp] theorem y1hq : es By = 1 := rfl
@[simp] theorem y1gr : es Cst = 5 := rfl
@[simp] theorem y1gt : es Fld = 3 := rfl
@[simp] theorem y1gx : es Frm = 3 := rfl
@[simp] theorem y1h0 : es Mth = 8 := rfl
@[simp] theorem y1h1 : es Cls = 7 := rfl
section
variable (x : Cls)
theorem yq3 : enc x = [.int .i64 x.fl, .str x.nm, .str x.sup, slA x.ifs, slA x.pool, slA x.flds, slA x.mths] := rfl
@[simp high] theorem cls0 : (enc x).head? = some (.int .i64 x.fl) := rfl
@[simp high] theorem cls1 : ((enc x).drop 1).head? = some (.str x.nm) := rfl
@[simp high] theorem cls2 : ((enc x).drop 2).head? = some (.str x.sup) := rfl
@[simp high] theorem cls3 : ((enc x).drop 3).head? = some (slA x.ifs) := rfl
@[simp high] theorem cls4 : ((enc x).drop 4).head? = some (slA x.pool) := rfl
@[simp high] theorem cls5 : ((enc x).drop 5).head? = some (slA x.flds) := rfl
@[simp high] theorem cls6 : ((enc x).drop 6).head? = some (slA x.mths) := rfl
@[simp high] theorem y1hk : (enc x)[0]? = some (.int .i64 x.fl) := rfl
@[simp high] theorem y1hx : (enc x)[1]? = some (.str x.nm) := rfl
@[simp high] theorem y1hh : (enc x)[2]? = some (.str x.sup) := rfl
@[simp high] theorem y1i2 : (enc x)[3]? = some (slA x.ifs) := rfl
@[simp] theorem yih : y3h true 7 (enc x) = some (.agg (enc x)) := y3v x
@[simp] theorem yhs : (enc x).length = 7 := rfl
@[simp] theorem y112 : (enc x).all yj = true := y5t x
end
theorem yj1 {o : Option (List Cls)} {x : Cls} {i : Nat} (hx : (lst o)[i]? = some x) (k : IntKind) : y21 7 (slA o) (.int k i) = some (.rp (enc x)) := y5u hx k
theorem y13r {o : Option (List Tx)} {x : Tx} {i : Nat} (hx : (lst o)[i]? = some x) (k : IntKind) : y21 1 (slA o) (.int k i) = some (.rp [.str x.s]) := y5u hx k
structure CstOk (x : Cst) : Prop where
  kind : inI x.kind
  num : inI x.num
structure MthOk (x : Mth) : Prop where
  fl : inI x.fl
  name : x.name.length ≤ reachBytes
  desc : x.desc.length ≤ reachBytes
structure ClsOk (x : Cls) : Prop where
  fl : inI x.fl
  nm : x.nm.length ≤ reachBytes
  sup : x.sup.length ≤ reachBytes
  ifs : (lst x.ifs).length * 16 ≤ reachBytes
  ifT : ∀ s ∈ lst x.ifs, s.s.length ≤ reachBytes
  pool : (lst x.pool).length ≤ maxLen
  flds : (lst x.flds).length ≤ maxLen
  mths : (lst x.mths).length ≤ maxLen
end Go.Vm
