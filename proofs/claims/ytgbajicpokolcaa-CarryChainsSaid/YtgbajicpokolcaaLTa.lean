/- Facts for reading the machine's functions: combinators at known values; lists of things of one kind as slices. The things that the layers speak of: instructions, rows, functions. What is handed in, as things. What is told of instructions, in plain words. The pass 'carry', in plain words: which register is a copy of which. What the facts of the pass 'carry' say behind an instruction, where ways meet. What is told of types' descriptors. Names, the type at a text's beginning, types. What the stack's instructions over numbers take and give. What an instruction wants of its registers, in plain words. When an instruction, a function is well formed, in plain words. Lists that a function builds by appending, at a place of its own. Places that can be reached: a search with a stack, a search in rounds, a search that stops where something is found. Plain Lean; nothing here speaks of a program. Which places follow a place, in plain words. -/
import Derived.Test.YtgbajicpokolcaaVc
import Derived.Test.YtgbajicpokolcaaLX
set_option linter.unusedSimpArgs false
set_option linter.unusedVariables false
set_option linter.unusedSectionVars false
namespace Go.Vm
section comb
variable {α : Type}
@[simp] theorem y2 (v : AV) (K : AV → Option α) : ob (some v) K = K v := rfl
@[simp] theorem yb (v : AV) (h : Heap) (K : AV → Heap → Option α) : oh (some (v, h)) K = K v h := rfl
@[simp] theorem ydp {β : Type} (v : β) (K : β → Option α) : ofp (some v) K = K v := rfl
@[simp] theorem ybm (x : Option AV) (K : AV → Option α) : gb (.bool true) true x K = ob x K := rfl
@[simp] theorem yg2 (x : Option AV) (K : AV → Option α) : gb (.bool false) false x K = ob x K := rfl
@[simp] theorem ytf (x : Option AV) (K : AV → Option α) : gb (.bool true) false x K = K (.tup []) := rfl
@[simp] theorem ysf (x : Option AV) (K : AV → Option α) : gb (.bool false) true x K = K (.tup []) := rfl
@[simp] theorem yln (w : Bool) (x : Option AV) (K : AV → Option α) : gb (.tup []) w x K = K (.tup []) := rfl
@[simp] theorem y2nr (x : Option (AV × Heap)) (h : Heap) (K : AV → Heap → Option α) : gh (.bool true) true x h K = oh x K := rfl
@[simp] theorem y2ph (x : Option (AV × Heap)) (h : Heap) (K : AV → Heap → Option α) : gh (.bool false) false x h K = oh x K := rfl
@[simp] theorem y2pe (x : Option (AV × Heap)) (h : Heap) (K : AV → Heap → Option α) : gh (.bool true) false x h K = K (.tup []) h := rfl
@[simp] theorem y2la (x : Option (AV × Heap)) (h : Heap) (K : AV → Heap → Option α) : gh (.bool false) true x h K = K (.tup []) h := rfl
@[simp] theorem y2jl (w : Bool) (x : Option (AV × Heap)) (h : Heap) (K : AV → Heap → Option α) : gh (.tup []) w x h K = K (.tup []) h := rfl
@[simp] theorem y2oy (x : Option (List Nat × List Nat)) : fgd (.bool true) true x = x := rfl
@[simp] theorem y2p0 (x : Option (List Nat × List Nat)) : fgd (.bool false) false x = x := rfl
@[simp] theorem y2om (x : Option (List Nat × List Nat)) : fgd (.bool true) false x = some ([], []) := rfl
@[simp] theorem y2oz (x : Option (List Nat × List Nat)) : fgd (.bool false) true x = some ([], []) := rfl
@[simp] theorem y2mv (w : Bool) (x : Option (List Nat × List Nat)) : fgd (.tup []) w x = some ([], []) := rfl
@[simp] theorem y25 (a b : Option α) : cnd (.bool true) a b = a := rfl
@[simp] theorem y2e (a b : Option α) : cnd (.bool false) a b = b := rfl
@[simp] theorem y2ex (x : Option α) : okK true x = x := rfl
theorem y19r {α : Type} {b : Bool} (h : b = true) (x : Option α) : okK b x = x := by rw [h]; rfl
@[simp] theorem y3m (a b : AV) : y7 (.bool true) a b = some a := rfl
@[simp] theorem y41 (a b : AV) : y7 (.bool false) a b = some b := rfl
@[simp] theorem y4f (b : Bool) : evUn .not (.bool b) = some (.bool (!b)) := rfl
@[simp] theorem y2l3 (neq a b : Bool) : y1zz neq (.bool a) (.bool b) = some (.bool (if neq then !(a == b) else a == b)) := rfl
@[simp] theorem y2h2 (i : Nat) (vs : List AV) : y57 i (.tup vs) = vs[i]? := rfl
@[simp] theorem ypq (k k' : IntKind) (n : Int) : ybk k (.int k' n) = some (.int k (k.wrap n)) := rfl
@[simp] theorem y23l (cs : List AV) : ygd (.rp cs) = some (.rp cs) := rfl
@[simp] theorem y28b (id g i off : Nat) : ygd (.lp id g i off) = some (.lp id g i off) := rfl
@[congr] theorem y2pf {x x' : Option AV} (h : x = x') (K : AV → Option α) : ob x K = ob x' K := by rw [h]
@[congr] theorem y2pn {x x' : Option (AV × Heap)} (h : x = x') (K : AV → Heap → Option α) : oh x K = oh x' K := by rw [h]
@[congr] theorem y2os {β : Type} {x x' : Option β} (h : x = x') (K : β → Option α) : ofp x K = ofp x' K := by rw [h]
@[congr] theorem y2p4 {g g' : AV} (h : g = g') (w : Bool) (x : Option AV) (K : AV → Option α) : gb g w x K = gb g' w x K := by rw [h]
@[congr] theorem y2p9 {g g' : AV} (h : g = g') (w : Bool) (x : Option (AV × Heap)) (hp : Heap) (K : AV → Heap → Option α) : gh g w x hp K = gh g' w x hp K := by rw [h]
@[congr] theorem y2ok {g g' : AV} (h : g = g') (w : Bool) (x : Option (List Nat × List Nat)) : fgd g w x = fgd g' w x := by rw [h]
@[congr] theorem y2op {c c' : AV} (h : c = c') (a b : Option α) : cnd c a b = cnd c' a b := by rw [h]
@[congr] theorem y2ox {c c' : Bool} (h : c = c') (a : Option α) : okK c a = okK c' a := by rw [h]
end comb
section ints
variable (k : IntKind) (a b : Int)
@[simp] theorem y27 : y3 .add (.int k a) (.int k b) = some (.int k (k.wrap (a + b))) := by simp [y3, y6a, y9o]
@[simp] theorem ygr : y3 .sub (.int k a) (.int k b) = some (.int k (k.wrap (a - b))) := by simp [y3, y6a, y9o]
@[simp] theorem y2ih : y3 .mul (.int k a) (.int k b) = some (.int k (k.wrap (a * b))) := by simp [y3, y6a, y9o]
@[simp] theorem y2t : y3 .eql (.int k a) (.int k b) = some (.bool (decide (a = b))) := by simp [y3, y6a, y9o, Bool.beq_eq_decide_eq]
@[simp] theorem y7c : y3 .neq (.int k a) (.int k b) = some (.bool (decide (a ≠ b))) := by simp [y3, y6a, y9o, bne, Bool.beq_eq_decide_eq]
@[simp] theorem yi : y3 .lss (.int k a) (.int k b) = some (.bool (decide (a < b))) := by simp [y3, y6a, y9o]
@[simp] theorem yhn : y3 .leq (.int k a) (.int k b) = some (.bool (decide (a ≤ b))) := by simp [y3, y6a, y9o]
@[simp] theorem y59 : y3 .gtr (.int k a) (.int k b) = some (.bool (decide (b < a))) := by simp [y3, y6a, y9o]
@[simp] theorem y7e : y3 .geq (.int k a) (.int k b) = some (.bool (decide (b ≤ a))) := by simp [y3, y6a, y9o]
end ints
@[simp] theorem y2ck (a b : List UInt8) : y3 .eql (.str a) (.str b) = some (.bool (decide (a = b))) := by simp [y3, yyq, Bool.beq_eq_decide_eq]
@[simp] theorem y2ch (a b : List UInt8) : y3 .neq (.str a) (.str b) = some (.bool (decide (a ≠ b))) := by simp [y3, yyq, Bool.beq_eq_decide_eq]
theorem y1a {n : Int} (h0 : -9223372036854775808 ≤ n) (h1 : n < 9223372036854775808) : IntKind.wrap .i64 n = n := by
  simp [IntKind.wrap, IntKind.bits, IntKind.signed]; omega
theorem y1p6 {i n : Nat} (h : i < n) (hn : n ≤ 9223372036854775807) : IntKind.wrap .i64 ((i : Int) + 1) = ((i + 1 : Nat) : Int) := by
  rw [y1a] <;> omega
theorem y21 {i n : Nat} (h : i < n) (hn : n ≤ 9223372036854775807) : IntKind.wrap .i64 ((i : Int) + 1) = (i : Int) + 1 := by rw [y1p6 h hn]; rfl
@[simp] theorem y2lx (k : Nat) (cs : List AV) : evFa k (.rp cs) = some (.rp (cs.drop k)) := rfl
@[simp] theorem ygs (k id g i o : Nat) : evFa k (.lp id g i o) = some (.lp id g i (o + k)) := rfl
@[simp] theorem yum (agg : Bool) (n : Nat) (cs : List AV) (h : Heap) : evLd agg n (.rp cs) h = y69 agg n cs := rfl
@[simp] theorem y7z (n : Nat) (cs : List AV) : y69 false n cs = cs.head? := rfl
@[simp] theorem y23o (cs : List AV) : cellsOf (.agg cs) = cs := rfl
@[simp] theorem y29e (k : IntKind) (n : Int) : cellsOf (.int k n) = [.int k n] := rfl
@[simp] theorem y21a (b : Bool) : cellsOf (.bool b) = [.bool b] := rfl
@[simp] theorem y292 (s : List UInt8) : cellsOf (.str s) = [.str s] := rfl
@[simp] theorem y21g : cellsOf .nils = [.nils] := rfl
@[simp] theorem y2ce (es : Nat) (rows : List (List AV)) : cellsOf (.rs es rows) = [.rs es rows] := rfl
@[simp] theorem y2cl (id g es off len : Nat) : cellsOf (.ls id g es off len) = [.ls id g es off len] := rfl
class Cel (α : Type) where
  es : Nat
  enc : α → List AV
  len : ∀ x, (enc x).length = es
  pur : ∀ x, (enc x).all pure1 = true
  leaf : ∀ x, (enc x).all y11 = true
open Cel
instance : Cel Int := ⟨1, fun n => [.int .i64 n], fun _ => rfl, fun _ => rfl, fun _ => rfl⟩
instance : Cel Bool := ⟨1, fun b => [.bool b], fun _ => rfl, fun _ => rfl, fun _ => rfl⟩
structure Tx where
  s : List UInt8
  deriving DecidableEq, Inhabited
instance : Cel Tx := ⟨1, fun b => [.str b.s], fun _ => rfl, fun _ => rfl, fun _ => rfl⟩
@[simp] theorem y2ni (n : Int) : enc n = [.int .i64 n] := rfl
@[simp] theorem y2jn (b : Bool) : enc b = [.bool b] := rfl
@[simp] theorem y2ou (b : Tx) : enc b = [.str b.s] := rfl
@[simp] theorem y1a6 : es Int = 1 := rfl
@[simp] theorem y2mw : es Bool = 1 := rfl
@[simp] theorem y2pl : es Tx = 1 := rfl
variable {α : Type} [Cel α]
def scal (x : α) : Bool := (enc x).all y2d
@[simp] theorem y2ki (n : Int) : scal n = true := rfl
@[simp] theorem y2dc (b : Bool) : scal b = true := rfl
@[simp] theorem y2n7 (b : Tx) : scal b = true := rfl
def lst (o : Option (List α)) : List α := o.getD []
omit [Cel α] in
@[simp] theorem y2k4 : lst (none : Option (List α)) = [] := rfl
omit [Cel α] in
@[simp] theorem y3j (L : List α) : lst (some L) = L := rfl
def slA : Option (List α) → AV
  | none => .nils
  | some L => .rs (es α) (L.map enc)
instance : Cel (Option (List α)) := ⟨1, fun o => [slA o], fun _ => rfl, fun o => by cases o <;> rfl, fun o => by cases o <;> rfl⟩
@[simp] theorem y2ot (o : Option (List α)) : enc o = [slA o] := rfl
@[simp] theorem y2pb : es (Option (List α)) = 1 := rfl
@[simp] theorem y2dx (k : IntKind) (n : Int) : pure1 (.int k n) = true := rfl
@[simp] theorem y2cj (b : Bool) : pure1 (.bool b) = true := rfl
@[simp] theorem y2e4 (b : List UInt8) : pure1 (.str b) = true := rfl
@[simp] theorem y2cs : pure1 .nils = true := rfl
@[simp] theorem y2gk (k : IntKind) (n : Int) : y11 (.int k n) = true := rfl
@[simp] theorem y2cf (b : Bool) : y11 (.bool b) = true := rfl
@[simp] theorem y2jb (b : List UInt8) : y11 (.str b) = true := rfl
@[simp] theorem y2cp : y11 .nils = true := rfl
@[simp] theorem y2kd (es : Nat) (r : List (List AV)) : y11 (.rs es r) = true := rfl
@[simp] theorem y2jz (id g es off len : Nat) : y11 (.ls id g es off len) = true := rfl
@[simp] theorem y2k7 (id g i o : Nat) : y11 (.lp id g i o) = true := rfl
@[simp] theorem y2ax (k : IntKind) (n : Int) : y2d (.int k n) = true := rfl
@[simp] theorem y227 (b : Bool) : y2d (.bool b) = true := rfl
@[simp] theorem y2be (b : List UInt8) : y2d (.str b) = true := rfl
@[simp] theorem y232 : y2d .nils = true := rfl
@[simp] theorem y175 (o : Option (List α)) : cellsOf (slA o) = [slA o] := by cases o <;> rfl
@[simp] theorem y2jy (o : Option (List α)) : y11 (slA o) = true := by cases o <;> rfl
@[simp] theorem y1yp (o : Option (List α)) : pure1 (slA o) = true := by cases o <;> rfl
@[simp] theorem y16d (o : Option (List α)) : y2d (slA o) = (lst o).isEmpty := by
  cases o with
  | none => rfl
  | some L => cases L <;> rfl
@[simp] theorem y6o (o : Option (List α)) (h : Heap) : yt 1 (slA o) h = some (.int .i64 (lst o).length) := by cases o <;> simp [slA, yt]
@[simp] theorem yd7 (s : List UInt8) (h : Heap) : yt 0 (.str s) h = some (.int .i64 s.length) := rfl
@[simp] theorem y84 (id g es off len : Nat) (h : Heap) : yt 1 (.ls id g es off len) h = some (.int .i64 len) := rfl
@[simp] theorem y2cq (h : Heap) : yt 1 .nils h = some (.int .i64 0) := rfl
@[simp] theorem y2nh (id g i o : Nat) : ids1 (.lp id g i o) = [id] := rfl
@[simp] theorem y2mx (id g es o l : Nat) : ids1 (.ls id g es o l) = [id] := rfl
@[simp] theorem y2mj (cs : List AV) : ids1 (.rp cs) = [] := rfl
@[simp] theorem y2js (k : IntKind) (n : Int) : ids1 (.int k n) = [] := rfl
@[simp] theorem y2jq (s : List UInt8) : ids1 (.str s) = [] := rfl
@[simp] theorem y2mk (o : Option (List α)) : ids1 (slA o) = [] := by cases o <;> rfl
@[simp] theorem y1uu (neq : Bool) (o : Option (List α)) : y4u 1 neq (slA o) .nils = some (.bool (if neq then o.isSome else o.isNone)) := by
  cases o <;> cases neq <;> rfl
theorem ygi {o : Option (List α)} {x : α} {i : Nat} (hx : (lst o)[i]? = some x) (k : IntKind) : yg (es α) (slA o) (.int k i) = some (.rp (enc x)) := by
  cases o with
  | none => simp at hx
  | some L =>
    simp only [y3j] at hx
    simp [slA, yg, hx]
theorem yov {o : Option (List α)} {x : α} {n : Int} (h0 : 0 ≤ n) (hx : (lst o)[n.toNat]? = some x) (k : IntKind) : yg (es α) (slA o) (.int k n) = some (.rp (enc x)) := by
  obtain ⟨i, rfl⟩ := Int.eq_ofNat_of_zero_le h0
  exact ygi (by simpa using hx) k
@[simp] theorem yhg (o : Option (List α)) (h : Heap) : y33 h (es α) (slA o) = some ((lst o).map enc) := by
  cases o <;> simp [slA, y33]
@[simp] theorem ymh (o : Option (List α)) (h : Heap) : fz h y1d (slA o) = some ⟨slA o, (lst o).isEmpty, []⟩ := by
  rw [y2ns (y1yp o), y16d]
@[simp] theorem y7k (x : α) (h : Heap) : fz h y1d (.agg (enc x)) = some ⟨.agg (enc x), scal x, []⟩ := y2ig h (pur x)
theorem yjg (L : List α) : (L.map enc).all (·.all pure1) = true := by simp only [List.all_map, List.all_eq_true]; exact fun x _ => pur x
theorem yj7 (L : List α) : (L.map enc).all (·.all y2d) = L.all scal := by simp only [List.all_map]; rfl
@[simp] theorem y1ij (L : List α) (h : Heap) : yo (yo (fz h y1d)) (L.map enc) = some ⟨L.map enc, L.all scal, []⟩ := by rw [y1gp h (yjg L), yj7]
@[simp] theorem y19k (L : List α) (h : Heap) : yo (yo (fz h 11)) (L.map enc) = some ⟨L.map enc, L.all scal, []⟩ := by rw [y1o7 h (yjg L), yj7]
@[simp] theorem y2ng (o : Option (List α)) : scal o = (lst o).isEmpty := by simp [scal]
@[simp] theorem y61 (L : List α) : (L.map (enc (α := α))).take L.length = L.map enc := by
  rw [List.take_of_length_le (by simp)]
@[simp] theorem yhl (x : α) : y69 true (es α) (enc x) = some (.agg (enc x)) := by
  simp only [y69, if_true, len x, Nat.le_refl, if_pos]
  rw [List.take_of_length_le (by rw [len x]; exact Nat.le_refl _)]
@[simp] theorem y2kj (x : α) : (∀ v, v ∈ enc x → y11 v = true) ↔ True := by
  have := leaf x
  rw [List.all_eq_true] at this
  exact ⟨fun _ => trivial, fun _ => this⟩
theorem ynx (x : α) : (enc x).all y11 = true := leaf x
@[simp] theorem y1gu (h : Heap) (k : IntKind) (n : Int) : fz h y1d (.int k n) = some ⟨.int k n, true, []⟩ := rfl
@[simp] theorem ymx (h : Heap) (b : Bool) : fz h y1d (.bool b) = some ⟨.bool b, true, []⟩ := rfl
@[simp] theorem y2oe (h : Heap) (b : List UInt8) : fz h y1d (.str b) = some ⟨.str b, true, []⟩ := rfl
@[simp] theorem y2jp (h : Heap) : fz h y1d .nils = some ⟨.nils, true, []⟩ := rfl
@[simp] theorem y2cn (h : Heap) (k : IntKind) (n : Int) : y8 h (.int k n) = some ⟨.int k n, [], true, [], []⟩ := rfl
@[simp] theorem y65 (h : Heap) (b : Bool) : y8 h (.bool b) = some ⟨.bool b, [], true, [], []⟩ := rfl
@[simp] theorem y2cr (h : Heap) (s : List UInt8) : y8 h (.str s) = some ⟨.str s, [], true, [], []⟩ := rfl
@[simp] theorem y246 (h : Heap) : y8 h .nils = some ⟨.nils, [], true, [], []⟩ := rfl
@[simp] theorem y2ka (h : Heap) (o : Option (List α)) : y8 h (slA o) = some ⟨slA o, [], (lst o).isEmpty, [], []⟩ := by
  cases o with
  | none => rfl
  | some L => simp [slA, y1u0]
theorem yp8 {v : AV} (hp : pure1 v = true) (h : Heap) (k : Nat) (os : List OC) : expo h (k + 1) v os = some ⟨v, os, y2d v, [], []⟩ := by
  cases v <;> simp_all [expo, pure1]
theorem y1zc {cs : List AV} (h : Heap) (k : Nat) (os : List OC) (hp : cs.all pure1 = true) : y4v (expo h (k + 1)) cs os = some ⟨cs, os, cs.all y2d, [], []⟩ := by
  induction cs with
  | nil => rfl
  | cons c cs ih =>
    simp only [List.all_cons, Bool.and_eq_true] at hp
    rw [y4v, yp8 hp.1]
    simp only [ih hp.2]
    rfl
theorem ydd (h : Heap) (cs : List AV) : y8 h (.agg cs) = match y4v (expo h 11) cs [] with
    | some r => if y3y r.xs r.fs then some ⟨.agg r.v, r.objs, r.fresh, [], []⟩ else none
    | none => none := by
  show (match (match y4v (expo h 11) cs [] with
    | some r => some (⟨.agg r.v, r.objs, r.fresh, r.xs, r.fs⟩ : Ex AV)
    | none => none) with
    | some r => if y3y r.xs r.fs then some (⟨r.v, r.objs, r.fresh, [], []⟩ : Ex AV) else none
    | none => none) = _
  cases y4v (expo h 11) cs [] <;> rfl
@[simp] theorem y2en (h : Heap) (x : α) : y8 h (.agg (enc x)) = some ⟨.agg (enc x), [], scal x, [], []⟩ := by
  rw [ydd, y1zc h 10 [] (pur x)]
  rfl
theorem y1bh (h : Heap) (k id g es1 off len : Nat) (os : List OC) : expo h (k + 1) (.ls id g es1 off len) os = match yh h id g with
    | some (true, _, _) => exFz h (.ls id g es1 off len) os
    | some (false, es, rows) => if es1 = es ∧ off + len ≤ rows.length then
        match yo (yo (fz h y1d)) ((rows.drop off).take len) with
        | some r => some ⟨.ls os.length 0 es 0 len, os ++ [.arr false false es r.v], r.fresh, [id], r.ids⟩
        | none => none
      else none
    | none => none := by
  rw [expo]
  rfl
theorem y20y (h : Heap) (k id g es1 off len : Nat) : fz h (k + 1) (.ls id g es1 off len) = match yh h id g with
    | some (_, es, rows) => if es1 = es ∧ off + len ≤ rows.length then (match yo (yo (fz h k)) ((rows.drop off).take len) with
      | some r => some ⟨.rs es r.v, r.fresh, id :: r.ids⟩
      | none => none) else none
    | none => none := by
  rw [fz]
  rfl
theorem yw3 (L : List α) (h : Heap) (k : Nat) : yo (yo (fz h (k + 1))) (L.map enc) = some ⟨L.map enc, L.all scal, []⟩ := by rw [y8d h k (yjg L), yj7]
@[simp] theorem yw {β γ : Type} (f : β → Option (Fz γ)) : yo f [] = some ⟨[], true, []⟩ := rfl
@[simp] theorem ym {β γ : Type} (f : β → Option (Fz γ)) (x : β) (xs : List β) : yo f (x :: xs) = match f x, yo f xs with
    | some a, some b => some ⟨a.v :: b.v, a.fresh && b.fresh, a.ids ++ b.ids⟩
    | _, _ => none := rfl
end Go.Vm
namespace Go.Vm
open Cel
structure Ins where
  op : Int
  d : Int
  a : Int
  b : Int
  c : Int
  n : Int
  t : Int
  s : List UInt8
  args : Option (List Int)
  deriving DecidableEq, Inhabited
structure Row where
  f : Int
  t : Int
  at_ : Int
  c : List UInt8
  deriving DecidableEq, Inhabited
structure Fn where
  regs : Option (List Int)
  params : Option (List Int)
  ret : Int
  code : Option (List Ins)
  rows : Option (List Row)
  deriving DecidableEq, Inhabited
instance : Cel Ins := ⟨9, fun x => [.int .i64 x.op, .int .i64 x.d, .int .i64 x.a, .int .i64 x.b, .int .i64 x.c, .int .i64 x.n, .int .i64 x.t, .str x.s, slA x.args], fun _ => rfl,
  fun x => by simp, fun x => by simp⟩
instance : Cel Row := ⟨4, fun x => [.int .i64 x.f, .int .i64 x.t, .int .i64 x.at_, .str x.c], fun _ => rfl, fun x => rfl, fun x => rfl⟩
instance : Cel Fn := ⟨5, fun x => [slA x.regs, slA x.params, .int .i64 x.ret, slA x.code, slA x.rows], fun _ => rfl, fun x => by simp, fun x => by simp⟩
@[simp] theorem y2on : es Ins = 9 := rfl
@[simp] theorem y2or : es Row = 4 := rfl
@[simp] theorem y2pk : es Fn = 5 := rfl
theorem y2fr (x : Fn) : enc x = [slA x.regs, slA x.params, .int .i64 x.ret, slA x.code, slA x.rows] := rfl
section
variable (x : Ins) (r : Row) (f : Fn)
@[simp high] theorem ins0 : (enc x).head? = some (.int .i64 x.op) := rfl
@[simp high] theorem y2p5 : (enc x)[0]? = some (.int .i64 x.op) := rfl
@[simp high] theorem ins1 : ((enc x).drop 1).head? = some (.int .i64 x.d) := rfl
@[simp high] theorem y2p8 : (enc x)[1]? = some (.int .i64 x.d) := rfl
@[simp high] theorem ins2 : ((enc x).drop 2).head? = some (.int .i64 x.a) := rfl
@[simp high] theorem y2pc : (enc x)[2]? = some (.int .i64 x.a) := rfl
@[simp high] theorem ins3 : ((enc x).drop 3).head? = some (.int .i64 x.b) := rfl
@[simp high] theorem y2pm : (enc x)[3]? = some (.int .i64 x.b) := rfl
@[simp high] theorem ins4 : ((enc x).drop 4).head? = some (.int .i64 x.c) := rfl
@[simp high] theorem y2pa : (enc x)[4]? = some (.int .i64 x.c) := rfl
@[simp high] theorem ins5 : ((enc x).drop 5).head? = some (.int .i64 x.n) := rfl
@[simp high] theorem y2pj : (enc x)[5]? = some (.int .i64 x.n) := rfl
@[simp high] theorem ins6 : ((enc x).drop 6).head? = some (.int .i64 x.t) := rfl
@[simp high] theorem y2p6 : (enc x)[6]? = some (.int .i64 x.t) := rfl
@[simp high] theorem ins7 : ((enc x).drop 7).head? = some (.str x.s) := rfl
@[simp high] theorem y2p7 : (enc x)[7]? = some (.str x.s) := rfl
@[simp high] theorem ins8 : ((enc x).drop 8).head? = some (slA x.args) := rfl
@[simp high] theorem y2pg : (enc x)[8]? = some (slA x.args) := rfl
@[simp high] theorem row0 : (enc r).head? = some (.int .i64 r.f) := rfl
@[simp high] theorem y2pd : (enc r)[0]? = some (.int .i64 r.f) := rfl
@[simp high] theorem row1 : ((enc r).drop 1).head? = some (.int .i64 r.t) := rfl
@[simp high] theorem y2p2 : (enc r)[1]? = some (.int .i64 r.t) := rfl
@[simp high] theorem row2 : ((enc r).drop 2).head? = some (.int .i64 r.at_) := rfl
@[simp high] theorem y2pi : (enc r)[2]? = some (.int .i64 r.at_) := rfl
@[simp high] theorem row3 : ((enc r).drop 3).head? = some (.str r.c) := rfl
@[simp high] theorem y2p3 : (enc r)[3]? = some (.str r.c) := rfl
@[simp high] theorem fn0 : (enc f).head? = some (slA f.regs) := rfl
@[simp high] theorem fn0q : (enc f)[0]? = some (slA f.regs) := rfl
@[simp high] theorem fn1 : ((enc f).drop 1).head? = some (slA f.params) := rfl
@[simp high] theorem fn1q : (enc f)[1]? = some (slA f.params) := rfl
@[simp high] theorem fn2 : ((enc f).drop 2).head? = some (.int .i64 f.ret) := rfl
@[simp high] theorem fn2q : (enc f)[2]? = some (.int .i64 f.ret) := rfl
@[simp high] theorem fn3 : ((enc f).drop 3).head? = some (slA f.code) := rfl
@[simp high] theorem fn3q : (enc f)[3]? = some (slA f.code) := rfl
@[simp high] theorem fn4 : ((enc f).drop 4).head? = some (slA f.rows) := rfl
@[simp high] theorem fn4q : (enc f)[4]? = some (slA f.rows) := rfl
@[simp] theorem yn7 : y69 true 9 (enc x) = some (.agg (enc x)) := yhl x
@[simp] theorem y2l8 : y69 true 4 (enc r) = some (.agg (enc r)) := yhl r
@[simp] theorem y2ov : y69 true 5 (enc f) = some (.agg (enc f)) := yhl f
@[simp] theorem yta : (enc x).length = 9 := rfl
@[simp] theorem y2kx : (enc r).length = 4 := rfl
@[simp] theorem y2oo : (enc f).length = 5 := rfl
@[simp] theorem y1tr : (enc x).all y11 = true := ynx x
@[simp] theorem y2k3 : (enc r).all y11 = true := ynx r
@[simp] theorem y2o6 : (enc f).all y11 = true := ynx f
end
theorem yas {o : Option (List Ins)} {x : Ins} {i : Nat} (hx : (lst o)[i]? = some x) (k : IntKind) : yg 9 (slA o) (.int k i) = some (.rp (enc x)) := ygi hx k
theorem yo5 {o : Option (List Row)} {x : Row} {i : Nat} (hx : (lst o)[i]? = some x) (k : IntKind) : yg 4 (slA o) (.int k i) = some (.rp (enc x)) := ygi hx k
theorem y2b {o : Option (List Int)} {x : Int} {i : Nat} (hx : (lst o)[i]? = some x) (k : IntKind) : yg 1 (slA o) (.int k i) = some (.rp [.int .i64 x]) := ygi hx k
theorem ybd {o : Option (List Ins)} {x : Ins} {n : Int} (h0 : 0 ≤ n) (hx : (lst o)[n.toNat]? = some x) (k : IntKind) : yg 9 (slA o) (.int k n) = some (.rp (enc x)) := yov h0 hx k
theorem yns {o : Option (List Int)} {x : Int} {n : Int} (h0 : 0 ≤ n) (hx : (lst o)[n.toNat]? = some x) (k : IntKind) : yg 1 (slA o) (.int k n) = some (.rp [.int .i64 x]) := yov h0 hx k
@[simp] theorem y17c (o : Option (List Int)) (h : Heap) : y33 h 1 (slA o) = some ((lst o).map enc) := yhg o h
@[simp] theorem y2cm (o : Option (List Ins)) (h : Heap) : y33 h 9 (slA o) = some ((lst o).map enc) := yhg o h
@[simp] theorem y2ci (o : Option (List Row)) (h : Heap) : y33 h 4 (slA o) = some ((lst o).map enc) := yhg o h
def exO {α : Type} [Cel α] : Option (List α) → Ex AV
  | none => ⟨.nils, [], true, [], []⟩
  | some L => ⟨.ls 0 0 (es α) 0 L.length, [.arr false false (es α) (L.map enc)], L.all scal, [], []⟩
@[simp] theorem yfl {α : Type} [Cel α] (o : Option (List α)) : fz (y22 (exO o).objs) y1d (exO o).v = some ⟨slA o, (lst o).all scal, match o with | none => [] | some _ => [0]⟩ := by
  cases o with
  | none => rfl
  | some L =>
    show fz [⟨0, .arr false false (es α) (L.map enc)⟩] y1d (.ls 0 0 (es α) 0 L.length) = _
    rw [y1z5]
    simp [yh, y32, slA]
@[simp] theorem yw6 {α : Type} [Cel α] (fb j : Nat) (L : List α) (h : Heap) : y23 fb (some j) (exO (some L)).objs [] h = match h[fb + j]? with
    | some o => some ([(fb + j, o.gen + 1)], h.set (fb + j) ⟨o.gen + 1, .arr false false (es α) (L.map enc)⟩)
    | none => none := by
  simp only [exO, y23, y5d, okOC, if_true, place, List.nil_append]
  cases h[fb + j]? <;> rfl
@[simp] theorem y2dh {α : Type} [Cel α] (fb : Nat) (j : Option Nat) (h : Heap) : y23 fb j (exO (none : Option (List α))).objs [] h = some ([], h) := rfl
@[simp] theorem y14l {α : Type} [Cel α] (id g : Nat) (L : List α) : reloc [(id, g)] (exO (some L)).v = .ls id g (es α) 0 L.length := rfl
@[simp] theorem y2fs {α : Type} [Cel α] (tab : List (Nat × Nat)) : reloc tab (exO (none : Option (List α))).v = .nils := rfl
theorem y6h {α : Type} [Cel α] (o : Option (List α)) : (exO o).fresh = (lst o).all scal := by cases o <;> rfl
theorem y1y {α : Type} [Cel α] {h : Heap} {id g : Nat} {L : List α} (hr : yh h id g = some (false, es α, L.map enc)) : y8 h (.ls id g (es α) 0 L.length) = some (exO (some L)) := by
  rw [yj2, hr]
  simp [exO]
attribute [simp] newC yad y3g place
@[simp] theorem ydw (g : Nat) (b f : Bool) (e : Nat) (r : List (List AV)) (t : Heap) : yh (⟨g, .arr b f e r⟩ :: t) 0 g = some (f, e, r) := by simp [yh, y32]
@[simp] theorem yn3 (o : AO) (t : Heap) (i g : Nat) : yh (o :: t) (i + 1) g = yh t i g := rfl
@[simp] theorem y2ji (g : Nat) (b f : Bool) (e : Nat) (r r' : List (List AV)) (t : Heap) : y1x (⟨g, .arr b f e r⟩ :: t) 0 r' = ⟨g, .arr b f e r'⟩ :: t := rfl
@[simp] theorem y2d5 (o : AO) (t : Heap) (i : Nat) (r : List (List AV)) : y1x (o :: t) (i + 1) r = o :: y1x t i r := by
  simp only [y1x, List.getElem?_cons_succ]
  split <;> simp_all
@[simp] theorem y5g (n id g i off : Nat) (v : AV) (h : Heap) : evSt n (.lp id g i off) v h = match yh h id g with
    | some (false, _, rows) => match rows[i]? with
      | some row => if (cellsOf v).length = n ∧ off + n ≤ row.length ∧ (cellsOf v).all y11 = true then some (.tup [], y1x h id (rows.set i (yx off (cellsOf v) row))) else none
      | none => none
    | _ => none := rfl
@[simp] theorem yev {vs row : List AV} (h : row.length = vs.length) : yx 0 vs row = vs := by
  simp [yx, ← h]
section
variable (x : Ins) (n : Int) (s : List UInt8) (o : Option (List Int))
@[simp] theorem y2l6 : yx 0 [.int .i64 n] (enc x) = enc { x with op := n } := rfl
@[simp] theorem y2nj : yx 1 [.int .i64 n] (enc x) = enc { x with d := n } := rfl
@[simp] theorem y2o4 : yx 2 [.int .i64 n] (enc x) = enc { x with a := n } := rfl
@[simp] theorem y2mf : yx 3 [.int .i64 n] (enc x) = enc { x with b := n } := rfl
@[simp] theorem y2m5 : yx 4 [.int .i64 n] (enc x) = enc { x with c := n } := rfl
@[simp] theorem y2ms : yx 5 [.int .i64 n] (enc x) = enc { x with n := n } := rfl
@[simp] theorem y2lg : yx 6 [.int .i64 n] (enc x) = enc { x with t := n } := rfl
@[simp] theorem y2lf : yx 7 [.str s] (enc x) = enc { x with s := s } := rfl
@[simp] theorem y2nn : yx 8 [slA o] (enc x) = enc { x with args := o } := rfl
end
def y7h (x : Ins) (v : AV) : List AV := [.int .i64 x.op, .int .i64 x.d, .int .i64 x.a, .int .i64 x.b, .int .i64 x.c, .int .i64 x.n, .int .i64 x.t, .str x.s, v]
@[simp] theorem y2jv (x : Ins) (id g es off len : Nat) : yx 8 [.ls id g es off len] (enc x) = y7h x (.ls id g es off len) := rfl
@[simp] theorem y2jx (x : Ins) : yx 8 [.nils] (enc x) = enc { x with args := none } := rfl
@[simp] theorem y2co (x : Ins) (v : AV) : (y7h x v).length = 9 := rfl
@[simp] theorem y2cg (x : Ins) (v : AV) : y69 true 9 (y7h x v) = some (.agg (y7h x v)) := rfl
@[simp] theorem y2ct (x : Ins) (w : AV) : (∀ v, v ∈ y7h x w → y11 v = true) ↔ y11 w = true := by simp [y7h]
theorem y1d4 (x : Ins) {L : List Int} (os : List OC) {i : Nat} (h : os[i]? = some (.arr false false 1 (L.map enc))) :
    ∃ q, fz (y22 os) y1d (.agg (y7h x (.ls i 0 1 0 L.length))) = some q ∧ q.v = .agg (enc { x with args := some L }) := by
  have hr : yh (y22 os) i 0 = some (false, 1, L.map enc) := by simp [yh, y32, y22, h]
  have e : fz (y22 os) 11 (.ls i 0 1 0 L.length) = some ⟨.rs 1 (L.map enc), L.all scal, [i]⟩ := by
    rw [y20y _ 10, hr]
    simp only [List.drop_zero, Nat.zero_add, List.length_map, Nat.le_refl, and_self, if_true, y61, yw3 L (y22 os) 9, List.append_nil]
  refine ⟨_, (ydj _ 11 _).trans (by rw [y7h]; simp only [ym, fz_p (show pure1 (AV.int .i64 _) = true from rfl) _ 10, fz_p (show pure1 (AV.str x.s) = true from rfl) _ 10, e, yw]; rfl), rfl⟩
theorem yr7 (x : Ins) {L : List Int} {h : Heap} {id g : Nat} (hr : yh h id g = some (false, 1, L.map enc)) :
    y8 h (.agg (y7h x (.ls id g 1 0 L.length))) = some ⟨.agg (y7h x (.ls 0 0 1 0 L.length)), [.arr false false 1 (L.map enc)], true, [], []⟩ := by
  have e : expo h 11 (.ls id g 1 0 L.length) [] = some ⟨.ls 0 0 1 0 L.length, [.arr false false 1 (L.map enc)], true, [id], []⟩ := by
    rw [y1bh _ 10, hr]
    simp
  rw [ydd, y7h]
  simp only [y4v, yp8 (show pure1 (AV.int .i64 _) = true from rfl) _ 10, yp8 (show pure1 (AV.str x.s) = true from rfl) _ 10, e]
  simp [y3y, y7h]
def ytl (r : Ex AV) (v : AV) : Prop := ∃ q, fz (y22 r.objs) y1d r.v = some q ∧ q.v = v
@[simp] theorem y34 (agg : Bool) (n id g i off : Nat) (h : Heap) : evLd agg n (.lp id g i off) h = match yh h id g with
    | some (_, _, rows) => match rows[i]? with
      | some row => y69 agg n (row.drop off)
      | none => none
    | none => none := rfl
end Go.Vm
namespace Go.Vm
open Cel
def inI (n : Int) : Prop := -9223372036854775808 ≤ n ∧ n ≤ 9223372036854775807
abbrev tyI : Ty := .int .i64
theorem y2eb {cs : List AV} (h : tyI.has cs) : ∃ n : Int, cs = [.int .i64 n] ∧ inI n := by
  obtain ⟨n, rfl, h1, h2⟩ := h
  exact ⟨n, rfl, by simpa [IntKind.min, IntKind.max, IntKind.signed, IntKind.bits] using h1, by simpa [IntKind.min, IntKind.max, IntKind.signed, IntKind.bits] using h2⟩
structure InsOk (x : Ins) : Prop where
  op : inI x.op
  d : inI x.d
  a : inI x.a
  b : inI x.b
  c : inI x.c
  n : inI x.n
  t : inI x.t
  s : x.s.length ≤ reachBytes
  len : (lst x.args).length * 8 ≤ reachBytes
  args : ∀ r ∈ lst x.args, inI r
structure RowOk (r : Row) : Prop where
  f : inI r.f
  t : inI r.t
  a : inI r.at_
  c : r.c.length ≤ reachBytes
structure FnIn (f : Fn) : Prop where
  regs : (lst f.regs).length * 8 ≤ reachBytes
  regI : ∀ x ∈ lst f.regs, inI x
  params : (lst f.params).length * 8 ≤ reachBytes
  parI : ∀ x ∈ lst f.params, inI x
  ret : inI f.ret
  code : (lst f.code).length * 96 ≤ reachBytes
  insI : ∀ x ∈ lst f.code, InsOk x
  rows : (lst f.rows).length * 40 ≤ reachBytes
  rowI : ∀ x ∈ lst f.rows, RowOk x
end Go.Vm
namespace Go.Vm
def calls (o : Int) : Bool := decide (23 ≤ o) && decide (o ≤ 26)
def ends (o : Int) : Bool := decide (o = 27) || decide (o = 30) || decide (o = 31)
def leads (o : Int) : Bool := decide (o = 27) || decide (o = 28) || decide (o = 29)
def throws (o : Int) : Bool := (decide (7 ≤ o) && decide (o ≤ 12)) || decide (o = 20) || decide (o = 21) || decide (o = 31) || calls o
def writes (o : Int) : Bool := decide (o ∈ [1, 2, 3, 4, 5, 6, 13, 15, 16, 18, 20, 21, 22, 32]) || calls o
def defr (x : Ins) : Int := if writes x.op then x.d else -1
def reads (o : Int) : Nat :=
  if o ∈ [4, 6, 7, 8, 10, 12, 15, 16, 19, 21, 22, 31] then 1 else if o ∈ [5, 9, 11, 13, 17, 28] then 2 else if o = 14 then 3 else 0
def uses (x : Ins) : Option (List Int) :=
  if calls x.op then x.args
  else if x.op = 29 then (if x.b < 0 then some [x.a] else some [x.a, x.b])
  else if x.op = 30 then (if 0 ≤ x.a then some [x.a] else none)
  else if reads x.op = 1 then some [x.a] else if reads x.op = 2 then some [x.a, x.b] else if reads x.op = 3 then some [x.a, x.b, x.c] else none
def y4b (x : Ins) : List Int → Ins
  | [] => x
  | [a] => { x with a := a }
  | [a, b] => { x with a := a, b := b }
  | a :: b :: c :: _ => { x with a := a, b := b, c := c }
def repl (x : Ins) (l : Option (List Int)) : Ins :=
  if (lst (uses x)).length ≠ (lst l).length then x
  else if calls x.op then { x with args := l }
  else y4b x (lst l)
theorem yy8 {x : Ins} (h : calls x.op = false) : (lst (uses x)).length ≤ 3 := by
  unfold uses
  rw [h]
  simp only [Bool.false_eq_true, if_false]
  repeat' split
  all_goals simp
theorem ycu (o : Int) : o = 1 ∨ o = 2 ∨ o = 3 ∨ o = 4 ∨ o = 5 ∨ o = 6 ∨ o = 7 ∨ o = 8 ∨ o = 9 ∨ o = 10 ∨ o = 11 ∨ o = 12 ∨ o = 13 ∨ o = 14 ∨ o = 15 ∨ o = 16 ∨ o = 17 ∨ o = 18 ∨ o = 19 ∨ o = 20 ∨ o = 21 ∨ o = 22 ∨ o = 23 ∨ o = 24 ∨ o = 25 ∨ o = 26 ∨ o = 27 ∨ o = 28 ∨ o = 29 ∨ o = 30 ∨ o = 31 ∨ o = 32 ∨ o = 33 ∨ o < 1 ∨ 33 < o := by omega
theorem lo_f {o : Int} (h : o < 1) : (¬ o = 1 ∧ ¬ o = 2 ∧ ¬ o = 3 ∧ ¬ o = 4 ∧ ¬ o = 5 ∧ ¬ o = 6 ∧ ¬ o = 7 ∧ ¬ o = 8 ∧ ¬ o = 9 ∧ ¬ o = 10 ∧ ¬ o = 11 ∧ ¬ o = 12 ∧ ¬ o = 13 ∧ ¬ o = 14 ∧ ¬ o = 15 ∧ ¬ o = 16 ∧ ¬ o = 17 ∧ ¬ o = 18 ∧ ¬ o = 19 ∧ ¬ o = 20 ∧ ¬ o = 21 ∧ ¬ o = 22 ∧ ¬ o = 23 ∧ ¬ o = 24 ∧ ¬ o = 25 ∧ ¬ o = 26 ∧ ¬ o = 27 ∧ ¬ o = 28 ∧ ¬ o = 29 ∧ ¬ o = 30 ∧ ¬ o = 31 ∧ ¬ o = 32 ∧ ¬ o = 33) ∧ ¬ 7 ≤ o ∧ ¬ 23 ≤ o ∧ ¬ 1 ≤ o := by omega
theorem hi_f {o : Int} (h : 33 < o) : (¬ o = 1 ∧ ¬ o = 2 ∧ ¬ o = 3 ∧ ¬ o = 4 ∧ ¬ o = 5 ∧ ¬ o = 6 ∧ ¬ o = 7 ∧ ¬ o = 8 ∧ ¬ o = 9 ∧ ¬ o = 10 ∧ ¬ o = 11 ∧ ¬ o = 12 ∧ ¬ o = 13 ∧ ¬ o = 14 ∧ ¬ o = 15 ∧ ¬ o = 16 ∧ ¬ o = 17 ∧ ¬ o = 18 ∧ ¬ o = 19 ∧ ¬ o = 20 ∧ ¬ o = 21 ∧ ¬ o = 22 ∧ ¬ o = 23 ∧ ¬ o = 24 ∧ ¬ o = 25 ∧ ¬ o = 26 ∧ ¬ o = 27 ∧ ¬ o = 28 ∧ ¬ o = 29 ∧ ¬ o = 30 ∧ ¬ o = 31 ∧ ¬ o = 32 ∧ ¬ o = 33) ∧ 7 ≤ o ∧ 23 ≤ o ∧ ¬ o ≤ 12 ∧ ¬ o ≤ 26 ∧ 1 ≤ o := by omega
end Go.Vm
namespace Go.Vm
abbrev Fx := List Int
def metL (a b : Fx) : Fx := List.zipWith (fun x y => if x = y then x else -1) a b
def metM : Option Fx → Fx → Fx
  | none, b => b
  | some a, b => metL a b
def unq (r : Int) (s : Fx) : Fx := s.map fun q => if q = r then -1 else q
def wrtL (s : Fx) (r : Int) : Fx := unq r (s.set r.toNat (-1))
def behM (s : Fx) (x : Ins) : Fx :=
  if defr x < 0 ∨ (x.op = 4 ∧ x.a = defr x) then s
  else if x.op = 4 then
    (if 0 ≤ s.getD x.a.toNat (-1) ∧ s.getD x.a.toNat (-1) ≠ defr x then (wrtL s (defr x)).set (defr x).toNat (s.getD x.a.toNat (-1))
     else if s.getD x.a.toNat (-1) = defr x then s else (wrtL s (defr x)).set (defr x).toNat x.a)
  else (wrtL s (defr x)).set (defr x).toNat (-1)
theorem ycz (s : Fx) (r : Int) : (wrtL s r).length = s.length := by simp [wrtL, unq]
theorem ybb (s : Fx) (x : Ins) : (behM s x).length = s.length := by
  unfold behM
  repeat' split
  all_goals simp [ycz]
theorem y146 {a b : Fx} (h : a.length = b.length) : (metL a b).length = a.length := by simp [metL, h]
def metK (k : Nat) (a b : Fx) : Fx := metL (a.take k) (b.take k) ++ a.drop k
theorem y2h1 (a b : Fx) : metK 0 a b = a := by simp [metK, metL]
theorem y1uy {a b : Fx} (h : a.length = b.length) : metK a.length a b = metL a b := by
  simp [metK, h]
  rw [← h]; simp
theorem yvp {k : Nat} {a b : Fx} (h : a.length = b.length) : (metK k a b).length = a.length := by
  simp only [metK, metL, List.length_append, List.length_zipWith, List.length_take, List.length_drop, h]; omega
theorem y29j {k : Nat} {a b : Fx} (h : a.length = b.length) (hk : k < a.length) : (metK k a b)[k]? = some a[k] := by
  have hl : (metL (a.take k) (b.take k)).length = k := by simp [metL]; omega
  rw [metK, List.getElem?_append_right (by omega), hl, Nat.sub_self]
  simp [hk]
theorem y1kx {k : Nat} {a b : Fx} (h : a.length = b.length) (hk : k < a.length) : metK (k + 1) a b = (metK k a b).set k (if a[k] = b[k] then a[k] else -1) := by
  have hl : (metL (a.take k) (b.take k)).length = k := by simp [metL]; omega
  have hb : k < b.length := by omega
  refine List.ext_getElem? fun i => ?_
  rw [List.getElem?_set]
  have hs : (metL (a.take (k + 1)) (b.take (k + 1))).length = k + 1 := by simp [metL]; omega
  by_cases e : k = i
  · subst e
    rw [if_pos rfl, if_pos (by rw [yvp h]; exact hk), metK, List.getElem?_append_left (by omega)]
    simp [metL, List.getElem?_zipWith, hk, hb]
  · rw [if_neg e]
    by_cases hi : i < k
    · rw [metK, metK, List.getElem?_append_left (by omega), List.getElem?_append_left (by omega)]
      simp only [metL, List.getElem?_zipWith, List.getElem?_take]
      rw [if_pos (by omega), if_pos (by omega), if_pos hi, if_pos hi]
    · rw [metK, metK, List.getElem?_append_right (by omega), List.getElem?_append_right (by omega), hs, hl, List.getElem?_drop, List.getElem?_drop]
      congr 1; omega
def unK (k : Nat) (r : Int) (s : Fx) : Fx := unq r (s.take k) ++ s.drop k
theorem y2ls (r : Int) (s : Fx) : unK 0 r s = s := by simp [unK, unq]
theorem y24w (r : Int) (s : Fx) : unK s.length r s = unq r s := by simp [unK]
theorem y1ez (k : Nat) (r : Int) (s : Fx) : (unK k r s).length = s.length := by
  simp only [unK, unq, List.length_append, List.length_map, List.length_take, List.length_drop]; omega
theorem y2fq {k : Nat} {r : Int} {s : Fx} (hk : k < s.length) : (unK k r s)[k]? = some s[k] := by
  have hl : (unq r (s.take k)).length = k := by simp [unq]; omega
  rw [unK, List.getElem?_append_right (by omega), hl, Nat.sub_self]
  simp [hk]
theorem y1zu {k : Nat} {r : Int} {s : Fx} (hk : k < s.length) : unK (k + 1) r s = (unK k r s).set k (if s[k] = r then -1 else s[k]) := by
  have hl : (unq r (s.take k)).length = k := by simp [unq]; omega
  have hs : (unq r (s.take (k + 1))).length = k + 1 := by simp [unq]; omega
  refine List.ext_getElem? fun i => ?_
  rw [List.getElem?_set]
  by_cases e : k = i
  · subst e
    rw [if_pos rfl, if_pos (by rw [y1ez]; exact hk), unK, List.getElem?_append_left (by omega)]
    simp [unq, hk]
  · rw [if_neg e]
    by_cases hi : i < k
    · rw [unK, unK, List.getElem?_append_left (by omega), List.getElem?_append_left (by omega)]
      simp only [unq, List.getElem?_map, List.getElem?_take]
      rw [if_pos (by omega), if_pos hi]
    · rw [unK, unK, List.getElem?_append_right (by omega), List.getElem?_append_right (by omega), hs, hl, List.getElem?_drop, List.getElem?_drop]
      congr 1; omega
end Go.Vm
namespace Go.Vm
theorem yb4 {s : Fx} {i r : Nat} {v : Int} (hr : r < s.length) : (s.set i v).getD r (-1) = if i = r then v else s.getD r (-1) := by
  rw [List.getD_eq_getElem?_getD, List.getD_eq_getElem?_getD, List.getElem?_set]
  by_cases e : i = r
  · subst e; simp [hr]
  · simp [e]
theorem y1or {s : Fx} {r : Int} {k : Nat} : (unq r s).getD k (-1) = if s.getD k (-1) = r then -1 else s.getD k (-1) := by
  rw [List.getD_eq_getElem?_getD, List.getD_eq_getElem?_getD, unq, List.getElem?_map]
  cases s[k]? with
  | none => simp
  | some x => simp
theorem y0u {a b : Fx} {k : Nat} {q : Int} (hq : 0 ≤ q) (h : (metL a b).getD k (-1) = q) : a.getD k (-1) = q ∧ b.getD k (-1) = q := by
  rw [List.getD_eq_getElem?_getD, metL, List.getElem?_zipWith] at h
  rw [List.getD_eq_getElem?_getD, List.getD_eq_getElem?_getD]
  cases ha : a[k]? with
  | none => rw [ha] at h; simp at h; omega
  | some x =>
    cases hb : b[k]? with
    | none => rw [ha, hb] at h; simp at h; omega
    | some y =>
      rw [ha, hb] at h
      simp only [Option.getD_some] at h ⊢
      split at h
      · rename_i e; subst e; exact ⟨h, h⟩
      · omega
theorem yni {s : Fx} {d q : Int} {k : Nat} (hk : k < s.length) (hq : 0 ≤ q) (h : (wrtL s d).getD k (-1) = q) : s.getD k (-1) = q ∧ q ≠ d := by
  rw [wrtL, y1or, yb4 hk] at h
  by_cases e : d.toNat = k
  · rw [if_pos e] at h
    split at h <;> omega
  · rw [if_neg e] at h
    split at h
    · omega
    · rename_i h2; rw [h] at h2; exact ⟨h, h2⟩
theorem ynt {s : Fx} {x : Ins} {k : Nat} {q : Int} (hk : k < s.length) (hq : 0 ≤ q) (h : (behM s x).getD k (-1) = q) :
    s.getD k (-1) = q ∨ (x.op = 4 ∧ (k : Int) = defr x ∧ (x.a = q ∨ s.getD x.a.toNat (-1) = q)) := by
  unfold behM at h
  have hw : k < (wrtL s (defr x)).length := by rw [ycz]; exact hk
  split at h
  · exact .inl h
  · rename_i h0
    have hd : 0 ≤ defr x := by
      refine Classical.byContradiction fun hh => h0 (.inl (by omega))
    split at h
    · rename_i h4
      split at h
      · rw [yb4 hw] at h
        split at h
        · rename_i e; exact .inr ⟨h4, by omega, .inr h⟩
        · exact .inl (yni hk hq h).1
      · split at h
        · exact .inl h
        · rw [yb4 hw] at h
          split at h
          · rename_i e; exact .inr ⟨h4, by omega, .inl h⟩
          · exact .inl (yni hk hq h).1
    · rw [yb4 hw] at h
      split at h
      · omega
      · exact .inl (yni hk hq h).1
end Go.Vm
namespace Go.Vm
open Cel
attribute [local simp] y4 y20 yp
def okB (b : UInt8) : Bool := (decide (97 ≤ b.toNat) && decide (b.toNat ≤ 122)) || (decide (65 ≤ b.toNat) && decide (b.toNat ≤ 90)) || (decide (48 ≤ b.toNat) && decide (b.toNat ≤ 57)) || decide (b.toNat = 95) || decide (b.toNat = 36) || decide (b.toNat = 47)
def y7b (s : List UInt8) : Bool := decide (1 ≤ s.length) && decide (s.length ≤ 60) && s.all okB
theorem y1b5 (s : List UInt8) (i : Nat) (hi : i < s.length) (v18 : AV) :
    q7_4 (.bool false) (.ls 0 1 1 0 s.length) v18 (.int .i64 i) [⟨1, .arr false false 1 (s.map fun b => [.int .u8 b.toNat])⟩] =
      if okB s[i] then q7_3 (.bool false) (.ls 0 1 1 0 s.length) v18 (.int .i64 i) [⟨1, .arr false false 1 (s.map fun b => [.int .u8 b.toNat])⟩] else some ⟨.bool false, [], true, [], []⟩ := by
  have hc : ((i : Int) < (s.length : Int)) := by omega
  generalize hb : s[i].toNat = n
  have e : (s.map fun b => ([.int .u8 b.toNat] : List AV))[i]? = some [.int .u8 (n : Int)] := by
    rw [List.getElem?_map, List.getElem?_eq_getElem hi, ← hb]; rfl
  have ho : okB s[i] = ((decide (97 ≤ n) && decide (n ≤ 122)) || (decide (65 ≤ n) && decide (n ≤ 90)) || (decide (48 ≤ n) && decide (n ≤ 57)) || decide (n = 95) || decide (n = 36) || decide (n = 47)) := by
    rw [okB, hb]
  rw [ho]
  have c1 : ∀ k : Nat, ((k : Int) ≤ (n : Int)) = (k ≤ n) := fun k => by simp
  have f1 : ((97 : Int) ≤ (n : Int)) = (97 ≤ n) := c1 97
  have f2 : ((65 : Int) ≤ (n : Int)) = (65 ≤ n) := c1 65
  have f3 : ((48 : Int) ≤ (n : Int)) = (48 ≤ n) := c1 48
  have g1 : ((n : Int) ≤ (122 : Int)) = (n ≤ 122) := by simp; omega
  have g2 : ((n : Int) ≤ (90 : Int)) = (n ≤ 90) := by simp; omega
  have g3 : ((n : Int) ≤ (57 : Int)) = (n ≤ 57) := by simp; omega
  have d1 : ((n : Int) = (95 : Int)) = (n = 95) := by simp; omega
  have d2 : ((n : Int) = (36 : Int)) = (n = 36) := by simp; omega
  have d3 : ((n : Int) = (47 : Int)) = (n = 47) := by simp; omega
  have step : ∀ (b1 b2 b3 b4 b5 b6 b7 b8 b9 : Bool), decide (97 ≤ n) = b1 → decide (n ≤ 122) = b2 → decide (65 ≤ n) = b3 → decide (n ≤ 90) = b4 → decide (48 ≤ n) = b5 → decide (n ≤ 57) = b6 → decide (n = 95) = b7 → decide (n = 36) = b8 → decide (n = 47) = b9 →
      q7_4 (.bool false) (.ls 0 1 1 0 s.length) v18 (.int .i64 i) [⟨1, .arr false false 1 (s.map fun b => [.int .u8 b.toNat])⟩] =
      if (b1 && b2) || (b3 && b4) || (b5 && b6) || b7 || b8 || b9 then q7_3 (.bool false) (.ls 0 1 1 0 s.length) v18 (.int .i64 i) [⟨1, .arr false false 1 (s.map fun b => [.int .u8 b.toNat])⟩] else some ⟨.bool false, [], true, [], []⟩ := by
    intro b1 b2 b3 b4 b5 b6 b7 b8 b9 h1 h2 h3 h4 h5 h6 h7 h8 h9
    rw [q7_4]
    have e0 : yg 1 (.ls 0 1 1 0 s.length) (.int .i64 i) = some (.lp 0 1 i 0) := by simp [yg, hc, hi]
    have tri : ∀ a b : Bool, (a = false) ∨ (a = true ∧ b = false) ∨ (a = true ∧ b = true) := by intro a b; cases a <;> cases b <;> simp
    have l1 : y3 .geq (.int .u8 (n : Int)) (.int .u8 97) = some (.bool b1) := by rw [y7e]; simp only [f1, h1]
    have l2 : y3 .leq (.int .u8 (n : Int)) (.int .u8 122) = some (.bool b2) := by rw [yhn]; simp only [g1, h2]
    have l3 : y3 .geq (.int .u8 (n : Int)) (.int .u8 65) = some (.bool b3) := by rw [y7e]; simp only [f2, h3]
    have l4 : y3 .leq (.int .u8 (n : Int)) (.int .u8 90) = some (.bool b4) := by rw [yhn]; simp only [g2, h4]
    have l5 : y3 .geq (.int .u8 (n : Int)) (.int .u8 48) = some (.bool b5) := by rw [y7e]; simp only [f3, h5]
    have l6 : y3 .leq (.int .u8 (n : Int)) (.int .u8 57) = some (.bool b6) := by rw [yhn]; simp only [g3, h6]
    have l7 : y3 .eql (.int .u8 (n : Int)) (.int .u8 95) = some (.bool b7) := by rw [y2t]; simp only [d1, h7]
    have l8 : y3 .eql (.int .u8 (n : Int)) (.int .u8 36) = some (.bool b8) := by rw [y2t]; simp only [d2, h8]
    have l9 : y3 .eql (.int .u8 (n : Int)) (.int .u8 47) = some (.bool b9) := by rw [y2t]; simp only [d3, h9]
    clear h1 h2 h3 h4 h5 h6 h7 h8 h9
    simp only [e0, y2, y34, ydw, e, List.drop_zero, y7z, List.head?_cons, l1]
    generalize q7_3 (.bool false) (.ls 0 1 1 0 s.length) v18 (.int .i64 i) [⟨1, .arr false false 1 (s.map fun b => [.int .u8 b.toNat])⟩] = Z
    rcases tri b1 b2 with rfl | ⟨rfl, rfl⟩ | ⟨rfl, rfl⟩ <;> simp only [l2, ybm, yg2, ytf, ysf, yln, y2, y3m, y41, y4f, y25, y2e, l3, y65] <;> try (simp; done)
    all_goals rcases tri b3 b4 with rfl | ⟨rfl, rfl⟩ | ⟨rfl, rfl⟩ <;> simp only [l4, ybm, yg2, ytf, ysf, yln, y2, y3m, y41, y4f, y25, y2e, l5, y65] <;> try (simp; done)
    all_goals rcases tri b5 b6 with rfl | ⟨rfl, rfl⟩ | ⟨rfl, rfl⟩ <;> simp only [l6, ybm, yg2, ytf, ysf, yln, y2, y3m, y41, y4f, y25, y2e, l7, y65] <;> try (simp; done)
    all_goals cases b7 <;> simp only [ybm, yg2, ytf, ysf, yln, y2, y3m, y41, y4f, y25, y2e, l8, y65] <;> try (simp; done)
    all_goals cases b8 <;> simp only [ybm, yg2, ytf, ysf, yln, y2, y3m, y41, y4f, y25, y2e, l9, y65] <;> try (simp; done)
    all_goals cases b9 <;> simp
  exact step _ _ _ _ _ _ _ _ _ rfl rfl rfl rfl rfl rfl rfl rfl rfl
end Go.Vm
namespace Go.Vm
open Cel
attribute [local simp] y4 y20 yp
theorem y1gl (s : List UInt8) (hl : s.length ≤ 60) : ∀ (d i : Nat), i + d = s.length →
    y1fp (.bool false) (.ls 0 1 1 0 s.length) (.int .i64 s.length) (.int .i64 i) [⟨1, .arr false false 1 (s.map fun b => [.int .u8 b.toNat])⟩] = some ⟨.bool ((s.drop i).all okB), [], true, [], []⟩ := by
  intro d
  induction d with
  | zero =>
    intro i hi
    have e1 : s.drop i = [] := List.drop_eq_nil_of_le (by omega)
    have hc : ¬ ((i : Int) < (s.length : Int)) := by omega
    rw [y12x, e1]
    simp [q7_6, q7_5, q7_1, hc]
  | succ d ih =>
    intro i hi
    have hlt : i < s.length := by omega
    have hc : ((i : Int) < (s.length : Int)) := by omega
    have := ih (i + 1) (by omega)
    push_cast at this
    have e1 : (s.drop i).all okB = (okB s[i] && (s.drop (i + 1)).all okB) := by rw [List.drop_eq_getElem_cons hlt, List.all_cons]
    have hw : IntKind.wrap .i64 ((i : Int) + 1) = (i : Int) + 1 := y1a (by omega) (by omega)
    rw [y12x, e1]
    simp only [q7_6, q7_5, yi, y2, hc, decide_true, y25, y1b5 s i hlt]
    cases okB s[i]
    · simp
    · simp [q7_3, hw, this]
@[simp] theorem y2oq (s : List UInt8) : (y5 E).p 60 [.str s, .bool false] = some ⟨.bool (y7b s), [], true, [], []⟩ := by
  rw [x_q7]
  by_cases h1 : ((s.length : Int) < 1)
  · have : ¬ 1 ≤ s.length := by omega
    simp [q7_1, q7_3, q7_4, q7_5, q7_6, q7_8, y1i2, y1av, h1, y7b, this]
  by_cases h2 : ((60 : Int) < (s.length : Int))
  · have : ¬ s.length ≤ 60 := by omega
    simp [q7_1, q7_3, q7_4, q7_5, q7_6, q7_8, y1i2, y1av, h1, h2, y7b, this]
  · have a1 : 1 ≤ s.length := by omega
    have a2 : s.length ≤ 60 := by omega
    have := y1gl s a2 s.length 0 (by omega)
    simp only [List.drop_zero] at this
    simp only [y7b, a1, a2, decide_true, Bool.true_and, ← this]
    simp [y1av, y1i2, q7_8, h1, h2, s2bC]
def lead : List UInt8 → Nat
  | [] => 0
  | c :: r => if c = 91 then lead r + 1 else 0
theorem ya9 : ∀ s : List UInt8, lead s ≤ s.length
  | [] => Nat.le_refl _
  | c :: r => by
    have := ya9 r
    simp only [lead, List.length_cons]
    split <;> omega
theorem yt3 : ∀ {s : List UInt8} {i : Nat}, i < lead s → s[i]? = some 91
  | [], i, h => by simp [lead] at h
  | c :: r, i, h => by
    simp only [lead] at h
    split at h
    · rename_i e
      cases i with
      | zero => simp [e]
      | succ i => simpa using yt3 (s := r) (by omega)
    · omega
theorem yuj : ∀ {s : List UInt8} {c : UInt8}, s[lead s]? = some c → c ≠ 91
  | [], c, h => by simp at h
  | d :: r, c, h => by
    simp only [lead] at h
    split at h
    · exact yuj (s := r) (by simpa using h)
    · rename_i e; simp at h; rw [← h]; exact e
def yrl (s : List UInt8) : Nat :=
  if 8 < lead s ∨ lead s = s.length then 0
  else if s[lead s]? = some 73 ∨ s[lead s]? = some 74 then lead s + 1
  else if s[lead s]? = some 76 then
    (if (s.drop (lead s + 1)).findIdx (· == 59) < (s.drop (lead s + 1)).length ∧ y7b ((s.take (lead s + 1 + (s.drop (lead s + 1)).findIdx (· == 59))).drop (lead s + 1)) = true then lead s + 1 + (s.drop (lead s + 1)).findIdx (· == 59) + 1 else 0)
  else 0
theorem ixstr {s : List UInt8} {i : Nat} {c : UInt8} (h : s[i]? = some c) : y5h (.str s) (.int .i64 i) = some (.int .u8 c.toNat) := by
  simp [y5h, h]
theorem y5o (c : UInt8) (k : UInt8) : ((c.toNat : Int) = (k.toNat : Int)) ↔ c = k := by
  rw [Int.ofNat_inj]; exact ⟨fun h => UInt8.toNat_inj.1 h, fun h => by rw [h]⟩
theorem y1aw (s : List UInt8) (hs : s.length ≤ 9223372036854775807) (h : Heap) : ∀ (d i : Nat), i + d = lead s → yox (.str s) (.int .i64 i) h = yjm (.str s) (.int .i64 (lead s)) h := by
  intro d
  induction d with
  | zero =>
    intro i hi
    obtain rfl : i = lead s := by omega
    rw [yrk]
    have := ya9 s
    by_cases hc : lead s < s.length
    · have e := List.getElem?_eq_getElem hc
      have hne := yuj e
      have hc' : ((lead s : Int) < (s.length : Int)) := by omega
      have hb : ¬ ((s[lead s].toNat : Int) = 91) := fun hh => hne ((y5o _ 91).1 hh)
      simp [y1fg, hc', ixstr e, hb]
    · have hc' : ¬ ((lead s : Int) < (s.length : Int)) := by omega
      simp [y1fg, hc']
  | succ d ih =>
    intro i hi
    have e := yt3 (s := s) (i := i) (by omega)
    have := ya9 s
    have hc' : ((i : Int) < (s.length : Int)) := by omega
    have ih := ih (i + 1) (by omega)
    push_cast at ih
    rw [yrk]
    simp [y1fg, hc', ixstr e, y286, y21 (show i < s.length by omega) hs, ih]
theorem y1om (s : List UInt8) (hs : s.length ≤ 9223372036854775807) (n : Nat) (h : Heap) : ∀ (d i : Nat), n + 1 ≤ i → i + d = s.length →
    y1qp (.str s) (.int .i64 n) (.int .i64 i) h =
      some ⟨.int .i64 (if (s.drop i).findIdx (· == 59) < (s.drop i).length ∧ y7b ((s.take (i + (s.drop i).findIdx (· == 59))).drop (n + 1)) = true then (i + (s.drop i).findIdx (· == 59) + 1 : Nat) else (0 : Nat)), [], true, [], []⟩ := by
  intro d
  induction d with
  | zero =>
    intro i h1 hi
    rw [ywr]
    have e1 : s.drop i = [] := List.drop_eq_nil_of_le (by omega)
    have hc : ¬ ((i : Int) < (s.length : Int)) := by omega
    simp [y176, q9_1, hc, e1]
  | succ d ih =>
    intro i h1 hi
    rw [ywr]
    have hlt : i < s.length := by omega
    have e := List.getElem?_eq_getElem hlt
    have hc : ((i : Int) < (s.length : Int)) := by omega
    have hd : s.drop i = s[i] :: s.drop (i + 1) := List.drop_eq_getElem_cons hlt
    by_cases hb : s[i] = 59
    · have hb' : ((s[i].toNat : Int) = 59) := (y5o _ 59).2 hb
      have hf : (s.drop i).findIdx (· == 59) = 0 := by rw [hd, List.findIdx_cons]; simp [hb]
      have hw1 : IntKind.wrap .i64 ((n : Int) + 1) = (n : Int) + 1 := y21 (show n < s.length by omega) hs
      have hsl : yde (.str s) (some (.int .i64 ((n : Int) + 1))) (some (.int .i64 (i : Int))) = some (.str ((s.take i).drop (n + 1))) := by
        have a1 : ((0 : Int) ≤ (i : Int) ∧ (i : Int) ≤ (s.length : Int)) := by omega
        have a2 : ((0 : Int) ≤ (n : Int) + 1 ∧ (n : Int) + 1 ≤ (i : Int)) := by omega
        simp only [yde, y6t, ycb, if_pos a1, Int.toNat_natCast, if_pos a2]
        rfl
      rw [hf]
      have hlen : 0 < (s.drop i).length := by rw [List.length_drop]; omega
      cases hn : y7b ((s.take i).drop (n + 1)) with
      | true =>
        simp only [y176, q9_7, q9_6, q9_5, yd7, y2, yi, hc, decide_true, y25, ixstr e, y2t, hb', y27, hw1, hsl]
        simp [hn, hlt, y21 hlt hs]
        omega
      | false =>
        simp only [y176, q9_7, q9_6, q9_5, yd7, y2, yi, hc, decide_true, y25, ixstr e, y2t, hb', y27, hw1, hsl]
        simp [hn, q9_4]
    · have hb' : ¬ ((s[i].toNat : Int) = 59) := fun hh => hb ((y5o _ 59).1 hh)
      have hf : (s.drop i).findIdx (· == 59) = (s.drop (i + 1)).findIdx (· == 59) + 1 := by
        rw [hd, List.findIdx_cons]
        have : (s[i] == 59) = false := by simpa using hb
        rw [this]; rfl
      have hl : (s.drop i).length = (s.drop (i + 1)).length + 1 := by rw [hd]; rfl
      have ih := ih (i + 1) (by omega) (by omega)
      push_cast at ih
      rw [hf, hl]
      have e2 : i + ((s.drop (i + 1)).findIdx (· == 59) + 1) = i + 1 + (s.drop (i + 1)).findIdx (· == 59) := by omega
      rw [e2]
      simp only [y176, q9_7, q9_6, q9_3, yd7, y2, yi, hc, decide_true, y25, y2e, ixstr e, y2t, hb', decide_false, y27, y21 hlt hs, ih]
      simp only [Nat.add_lt_add_iff_right]
      push_cast
      rfl
@[simp] theorem y2gs (s : List UInt8) (hs : s.length ≤ 9223372036854775807) : (y5 E).p 44 [.str s] = some ⟨.int .i64 (yrl s), [], true, [], []⟩ := by
  rw [x_q9]
  have h0 := y1aw s hs [] (lead s) 0 (by omega)
  simp only [Int.ofNat_zero] at h0
  have hle := ya9 s
  have key : yjm (.str s) (.int .i64 (lead s)) [] = some ⟨.int .i64 (yrl s), [], true, [], []⟩ := by
    unfold yrl
    by_cases h8 : 8 < lead s
    · have h8' : ((8 : Int) < (lead s : Int)) := by omega
      simp [yjm, h8', h8]
    by_cases hl : lead s = s.length
    · have h8' : ¬ ((8 : Int) < (lead s : Int)) := by omega
      have hl' : ((lead s : Int) = (s.length : Int)) := by omega
      have h9' : ¬ ((8 : Int) < (s.length : Int)) := by omega
      simp [yjm, h8', h9', hl', hl]
    · have h8' : ¬ ((8 : Int) < (lead s : Int)) := by omega
      have hl' : ¬ ((lead s : Int) = (s.length : Int)) := by omega
      have hlt : lead s < s.length := by omega
      have e := List.getElem?_eq_getElem hlt
      rw [if_neg (by simp [h8, hl]), e]
      have hw := y21 hlt hs
      by_cases c1 : s[lead s] = 73
      · have c1' : ((s[lead s].toNat : Int) = 73) := (y5o _ 73).2 c1
        simp [yjm, y16w, y182, yup, h8', hl', ixstr e, c1', c1, hw]
      by_cases c2 : s[lead s] = 74
      · have c2' : ((s[lead s].toNat : Int) = 74) := (y5o _ 74).2 c2
        simp [yjm, y16w, y182, yup, h8', hl', ixstr e, c2', c2, hw]
      have c1' : ¬ ((s[lead s].toNat : Int) = 73) := fun hh => c1 ((y5o _ 73).1 hh)
      have c2' : ¬ ((s[lead s].toNat : Int) = 74) := fun hh => c2 ((y5o _ 74).1 hh)
      by_cases c3 : s[lead s] = 76
      · have c3' : ((s[lead s].toNat : Int) = 76) := (y5o _ 76).2 c3
        have := y1om s hs (lead s) [] _ (lead s + 1) (Nat.le_refl _) (show lead s + 1 + (s.length - (lead s + 1)) = s.length by omega)
        push_cast at this
        simp [yjm, y16w, y182, yup, y1zp, y1yj, y26a, h8', hl', ixstr e, c1', c2', c3', c1, c2, c3, hw, this]
        split <;> simp
      · have c3' : ¬ ((s[lead s].toNat : Int) = 76) := fun hh => c3 ((y5o _ 76).1 hh)
        simp [yjm, y16w, y182, yup, y1zp, y1yj, q9_1, h8', hl', ixstr e, c1', c2', c3', c1, c2, c3]
  rw [← key, ← h0]
  simp [y24h, y23m]
def y7m (s : List UInt8) : Bool := decide (s ≠ []) && decide (yrl s = s.length)
@[simp] theorem y2fe (s : List UInt8) (hs : s.length ≤ 9223372036854775807) : (y5 E).p 37 [.str s] = some ⟨.bool (y7m s), [], true, [], []⟩ := by
  rw [x_q8]
  have h := y2gs s hs
  by_cases h1 : s = []
  · simp [q8_1, h1, y7m]
  · have e : ((yrl s : Int) = (s.length : Int)) ↔ yrl s = s.length := by omega
    simp [q8_1, h1, y7m, h, e]
end Go.Vm
namespace Go.Vm
open Cel
attribute [local simp] y4 y20 yp
def numK (c : Int) : Int × Int × Int :=
  if c ∈ [96, 100, 104, 108, 112, 120, 122, 124, 126, 128, 130] then (1, 1, 1)
  else if c ∈ [97, 101, 105, 109, 113, 127, 129, 131] then (2, 2, 2)
  else if c ∈ [121, 123, 125] then (2, 1, 2)
  else if c = 148 then (2, 2, 1)
  else if c ∈ [116, 145, 146, 147] then (1, 0, 1)
  else if c = 117 then (2, 0, 2)
  else if c = 133 then (1, 0, 2)
  else if c = 136 then (2, 0, 1)
  else (0, 0, 0)
def yyw (r : Option (Ex AV)) (k : Int × Int × Int) : Bool :=
  match r with
  | some ⟨.tup [.int .i64 a, .int .i64 b, .int .i64 c], [], true, [], []⟩ => a == k.1 && b == k.2.1 && c == k.2.2
  | _ => false
theorem yp9 {r : Option (Ex AV)} {k : Int × Int × Int} (h : yyw r k = true) : r = some ⟨.tup [.int .i64 k.1, .int .i64 k.2.1, .int .i64 k.2.2], [], true, [], []⟩ := by
  unfold yyw at h
  split at h
  · simp only [Bool.and_eq_true, beq_iff_eq] at h
    obtain ⟨⟨h1, h2⟩, h3⟩ := h
    rw [h1, h2, h3]
  · cases h
theorem yae {n : Nat} {f : Nat → Bool} (h : ((List.range n).all f) = true) (i : Nat) (hi : i < n) : f i = true := by
  rw [List.all_eq_true] at h
  exact h i (List.mem_range.2 hi)
theorem y2gu : ((List.range 60).all fun i => yyw ((both E 30).1.p 50 [.int .i64 (95 + i)]) (numK (95 + i))) = true := by kernel_rfl
theorem yg8 {c : Int} (h : c < 96 ∨ 148 < c) : numK c = (0, 0, 0) := by
  simp only [numK, List.mem_cons, List.not_mem_nil, or_false]
  repeat' split
  all_goals first | rfl | omega
theorem y29h (c : Int) : (y5 E).p 50 [.int .i64 c] = some ⟨.tup [.int .i64 (numK c).1, .int .i64 (numK c).2.1, .int .i64 (numK c).2.2], [], true, [], []⟩ := by
  by_cases h : c < 96 ∨ 148 < c
  · rw [yg8 h, y2nl]
    have h2 : ∀ k : Int, 96 ≤ k → k ≤ 148 → ¬ c = k := by omega
    simp [y24d, y18m, y24b, y27t, y2bs, y1fs, y2at, yji, y2bm, y7j, y1dz, y1j5, y1mi, h2]
    rfl
  · have := yae y2gu (c - 95).toNat (by omega)
    have e : (95 + ((c - 95).toNat : Int)) = c := by omega
    simp only [e] at this
    exact y154 30 (yp9 this)
end Go.Vm
namespace Go.Vm
def ye (x : Ins) : Int × Int × Int × Int × Bool :=
  match x.op with
  | 1 => (0, -1, -1, -1, true)
  | 2 => (3, -1, -1, -1, true)
  | 3 => (3, -1, -1, -1, true)
  | 4 => (0, 0, -1, -1, true)
  | 5 => ((numK x.n).2.2, (numK x.n).1, (numK x.n).2.1, -1, decide (¬ (numK x.n).2.1 = 0))
  | 6 => ((numK x.n).2.2, (numK x.n).1, -1, -1, decide (¬ (numK x.n).1 = 0) && decide ((numK x.n).2.1 = 0))
  | 7 => (-1, 0, -1, -1, true)
  | 8 => (-1, 3, -1, -1, true)
  | 9 => (-1, 3, 1, -1, true)
  | 10 => (-1, 1, -1, -1, true)
  | 11 => (-1, 3, 3, -1, true)
  | 12 => (-1, 3, -1, -1, y7m x.s)
  | 13 => (0, 3, 1, -1, true)
  | 14 => (-1, 3, 1, 0, true)
  | 15 => (1, 3, -1, -1, true)
  | 16 => (0, 3, -1, -1, decide (0 ≤ x.n))
  | 17 => (-1, 3, 0, -1, decide (0 ≤ x.n))
  | 18 => (0, -1, -1, -1, true)
  | 19 => (-1, 0, -1, -1, true)
  | 20 => (3, -1, -1, -1, true)
  | 21 => (3, 1, -1, -1, y7m x.s)
  | 22 => (1, 3, -1, -1, y7m x.s)
  | 23 => (if x.d = -1 then -1 else 0, -1, -1, -1, decide (0 ≤ x.n) && decide ((lst x.args).length ≤ 21))
  | 24 => (if x.d = -1 then -1 else 0, -1, -1, -1, decide (0 < (lst x.args).length) && decide (0 ≤ x.n) && decide ((lst x.args).length ≤ 21))
  | 25 => (if x.d = -1 then -1 else 0, -1, -1, -1, decide (0 < (lst x.args).length) && decide ((lst x.args).length ≤ 21))
  | 26 => (if x.d = -1 then -1 else 0, -1, -1, -1, decide (0 ≤ x.n) && decide ((lst x.args).length ≤ 21))
  | 27 => (-1, -1, -1, -1, true)
  | 28 => (-1, 1, 1, -1, decide (0 ≤ x.n) && decide (x.n ≤ 5))
  | 29 => (-1, 3, if x.b = -1 then -1 else 3, -1, decide (x.n = 0) || decide (x.n = 1))
  | 30 => (-1, if x.a = -1 then -1 else 0, -1, -1, true)
  | 31 => (-1, 3, -1, -1, true)
  | 32 => (3, -1, -1, -1, true)
  | 33 => (-1, -1, -1, -1, true)
  | _ => (0, 0, 0, 0, false)
def exK (k : Int × Int × Int × Int × Bool) : Ex AV := ⟨.tup [.agg [.int .i64 k.1, .int .i64 k.2.1, .int .i64 k.2.2.1, .int .i64 k.2.2.2.1], .bool k.2.2.2.2], [], true, [], []⟩
theorem ym4 {x : Ins} (h : x.op < 1 ∨ 33 < x.op) : ye x = (0, 0, 0, 0, false) := by
  unfold ye
  split <;> first | rfl | omega
end Go.Vm
namespace Go.Vm
def regK (R : List Int) (r : Int) : Int := if r < 0 then 0 else R.getD r.toNat 0
def inR (R : List Int) (r : Int) : Bool := decide (0 ≤ r) && decide (r < R.length)
def y1f (R : List Int) (w r : Int) : Bool := decide (w < 0) || (inR R r && (decide (w ≤ 0) || decide (regK R r = w)))
def yea (R : List Int) (x : Ins) : Bool :=
  match lst x.args with
  | [] => true
  | r :: _ => !(decide (x.op = 24) || decide (x.op = 25)) || decide (regK R r = 3)
def y4t (R : List Int) (x : Ins) : Bool := !calls x.op || (yea R x && (lst x.args).all (inR R))
def y30 (R : List Int) (ret : Int) (n : Nat) (x : Ins) : Bool :=
  if x.op = 1 then decide (¬ regK R x.d = 3) && (decide (regK R x.d = 2) || decide (x.n = IntKind.wrap .i64 (IntKind.wrap .i32 x.n)))
  else if x.op = 4 then decide (regK R x.d = regK R x.a)
  else if x.op = 7 then decide (¬ regK R x.a = 3)
  else if x.op = 30 then (decide (x.a = -1) == decide (ret = 0)) && (decide (x.a = -1) || decide (regK R x.a = ret))
  else !leads x.op || (decide (0 ≤ x.t) && decide (x.t < n))
def y15 (f : Fn) (x : Ins) : Bool :=
  (ye x).2.2.2.2 && y1f (lst f.regs) (ye x).1 x.d && y1f (lst f.regs) (ye x).2.1 x.a && y1f (lst f.regs) (ye x).2.2.1 x.b && y1f (lst f.regs) (ye x).2.2.2.1 x.c &&
    y4t (lst f.regs) x && y30 (lst f.regs) f.ret (lst f.code).length x
theorem yt5 {R : List Int} {r : Int} (h : inR R r = true) : 0 ≤ r ∧ r.toNat < R.length ∧ R[r.toNat]? = some (regK R r) := by
  simp only [inR, Bool.and_eq_true, decide_eq_true_eq] at h
  have h1 : r.toNat < R.length := by omega
  refine ⟨h.1, h1, ?_⟩
  rw [regK, if_neg (by omega), List.getD_eq_getElem?_getD, List.getElem?_eq_getElem h1]; rfl
def y4x (n : Nat) (t : Int) : Bool := decide (0 ≤ t) && decide (t < n)
def y3e (C : List Ins) (i : Nat) (x : Ins) : Bool :=
  !((decide (x.op = 32) && (decide (i = 0) || !ends ((C.getD (i - 1) default).op))) || (leads x.op && decide ((C.getD x.t.toNat default).op = 32)))
def y3v (f : Fn) (C : List Ins) : Nat → List Ins → Bool
  | _, [] => true
  | i, x :: r => y15 f x && y3e C i x && y3v f C (i + 1) r
def y43 (C : List Ins) (r : Row) : Bool :=
  !(decide (r.f < 0) || decide (r.t ≤ r.f) || decide ((C.length : Int) < r.t) || decide (r.at_ < 0) || decide ((C.length : Int) ≤ r.at_) || decide (¬ (C.getD r.at_.toNat default).op = 32))
def yci (R : List Int) : Nat → List Int → List Int → Bool
  | _, _, [] => true
  | i, seen, p :: r => (inR R p && !seen.contains p && decide (i ≤ 20)) && yci R (i + 1) (seen ++ [p]) r
def wf (f : Fn) : Bool :=
  decide (1 ≤ (lst f.code).length) && decide ((lst f.code).length ≤ 20000) && decide ((lst f.regs).length ≤ 20000) && decide (0 ≤ f.ret) && decide (f.ret ≤ 3) && ends ((lst f.code).getD ((lst f.code).length - 1) default).op &&
    (lst f.regs).all (fun k => decide (1 ≤ k) && decide (k ≤ 3)) && yci (lst f.regs) 0 [] (lst f.params) && y3v f (lst f.code) 0 (lst f.code) && (lst f.rows).all (y43 (lst f.code))
end Go.Vm
namespace Go.Vm
open Cel
def nz {α : Type} : List α → Option (List α)
  | [] => none
  | x :: L => some (x :: L)
@[simp] theorem ydk {α : Type} (L : List α) : lst (nz L) = L := by cases L <;> rfl
section
variable {α : Type} [Cel α]
def y1w (α : Type) [Cel α] (j g : Nat) : List α → AV
  | [] => .nils
  | _ :: L => .ls j g (es α) 0 (L.length + 1)
def y2z (g : Nat) (o : AO) : List α → AO
  | [] => o
  | x :: L => ⟨g, .arr false false (es α) ((x :: L).map enc)⟩
@[simp] theorem ypr (j g : Nat) : y1w α j g [] = .nils := rfl
@[simp] theorem yoj (g : Nat) (o : AO) : y2z g o ([] : List α) = o := rfl
@[simp] theorem y2cd (j g : Nat) (L : List α) (H : Heap) : yt 1 (y1w α j g L) H = some (.int .i64 L.length) := by
  cases L <;> simp [y1w, yt]
@[simp] theorem yfu (j g : Nat) (L : List α) : cellsOf (y1w α j g L) = [y1w α j g L] := by cases L <;> rfl
@[simp] theorem ym5 (j g : Nat) (L : List α) : y11 (y1w α j g L) = true := by cases L <;> rfl
theorem yqv {H : Heap} {j g : Nat} {o : AO} {x : α} {L : List α} (h : H[j]? = some (y2z g o (x :: L))) : yh H j g = some (false, es α, (x :: L).map enc) := by
  simp [yh, y32, h, y2z]
theorem y24c {H : Heap} {j g : Nat} {o : AO} {L : List α} (h : H[j]? = some (y2z g o L)) : fz H y1d (y1w α j g L) = some ⟨slA (nz L), L.all scal, ids1 (y1w α j g L)⟩ := by
  cases L with
  | nil => rfl
  | cons x L =>
    rw [y1w, y1z5, yqv h]
    simp only [List.drop_zero, Nat.zero_add, List.length_map, List.length_cons, Nat.le_refl, and_self, if_true]
    rw [show ((x :: L).map (enc (α := α))).take (L.length + 1) = (x :: L).map enc from y61 (x :: L), y19k]
    simp [slA, nz, ids1]
theorem y18t {H : Heap} {j g : Nat} {o : AO} {L : List α} (h : H[j]? = some (y2z g o L)) : y8 H (y1w α j g L) = some ⟨match L with | [] => .nils | _ :: _ => .ls 0 0 (es α) 0 L.length, match L with | [] => [] | _ :: _ => [.arr false false (es α) (L.map enc)], L.all scal, [], []⟩ := by
  cases L with
  | nil => rfl
  | cons x L =>
    rw [y1w, yj2, yqv h]
    simp only [List.drop_zero, Nat.zero_add, List.length_map, List.length_cons, Nat.le_refl, and_self, if_true]
    rw [show ((x :: L).map (enc (α := α))).take (L.length + 1) = (x :: L).map enc from y61 (x :: L), y1ij]
    simp
theorem ycc {H : Heap} {j g : Nat} {o : AO} {L : List α} (h : H[j]? = some (y2z g o L)) : y8 H (y1w α j g L) = some (exO (nz L)) := by
  rw [y18t h]
  cases L <;> rfl
theorem y137 {H : Heap} {fb j g b : Nat} {o : AO} {y : AV} {L M : List α} (hy : y33 H (es α) y = some (M.map enc)) (h : H[fb + j]? = some (y2z g o L)) (hs : (2 * (L.length + M.length) + 512) * b ≤ 2 ^ 48) :
    ∃ g', y2y fb (some j) (es α) b (y1w α (fb + j) g L) y H = some (y1w α (fb + j) g' (L ++ M), H.set (fb + j) (y2z g' o (L ++ M))) := by
  unfold y2y
  rw [hy]
  have hlt : fb + j < H.length := (List.getElem?_eq_some_iff.1 h).1
  cases L with
  | nil =>
    cases M with
    | nil =>
      refine ⟨g, ?_⟩
      simp only [y1w, List.map_nil, List.isEmpty_nil, if_true, List.append_nil, y2z]
      rw [y2z] at h
      rw [show H.set (fb + j) o = H from by
        refine List.ext_getElem? fun i => ?_
        rw [List.getElem?_set]
        split
        · rename_i e; subst e; simp [h]
        · rfl]
    | cons y M =>
      refine ⟨o.gen + 1, ?_⟩
      rw [y2z] at h
      have hm : (M.length + 1) * b ≤ 281474976710656 := Nat.le_trans (Nat.mul_le_mul_right b (by simp only [List.length_nil, List.length_cons]; omega)) hs
      simp [y1w, hm, y3g, place, h, y2z]
  | cons x L =>
    refine ⟨g + 1, ?_⟩
    have h' : H[fb + j]? = some ⟨g, .arr false false (es α) ((x :: L).map enc)⟩ := h
    simp only [y1w, h']
    rw [if_pos (by simp; simpa using hs)]
    simp only [List.drop_zero]
    rw [show ((x :: L).map (enc (α := α))).take (L.length + 1) = (x :: L).map enc from y61 (x :: L)]
    simp [y1w, y2z, Nat.add_right_comm]
end
@[simp] theorem y1he (h : Heap) (es id g es1 off len : Nat) : y33 h es (.ls id g es1 off len) = match yh h id g with
    | some (_, es', rows) => if es1 = es ∧ es' = es ∧ off + len ≤ rows.length then some ((rows.drop off).take len) else none
    | none => none := rfl
theorem y1w1 {H : Heap} {j g : Nat} {o : AO} {L : List Int} (h : H[j]? = some (y2z g o L)) : fz H y1d (y1w Int j g L) = some ⟨slA (nz L), true, ids1 (y1w Int j g L)⟩ := by
  rw [y24c h]
  simp
theorem yu9 {H : Heap} {fb j g : Nat} {o : AO} {y : AV} {L : List Int} {n : Int} (hy : y33 H 1 y = some [[.int .i64 n]]) (h : H[fb + j]? = some (y2z g o L)) (hs : L.length ≤ 17000000000000) :
    ∃ g', y2y fb (some j) 1 8 (y1w Int (fb + j) g L) y H = some (y1w Int (fb + j) g' (L ++ [n]), H.set (fb + j) (y2z g' o (L ++ [n]))) := by
  refine y137 (α := Int) (M := [n]) hy h ?_
  have : (2 * (L.length + [n].length) + 512) * 8 ≤ (2 * (17000000000000 + 1) + 512) * 8 := Nat.mul_le_mul_right 8 (by simp only [List.length_singleton]; omega)
  exact Nat.le_trans this (by decide)
theorem y1a8 {i : Int} {n : Nat} (h0 : 0 ≤ i) (h : i < n) (hn : n ≤ 9223372036854775807) : IntKind.wrap .i64 (i + 1) = i + 1 := by
  rw [y1a] <;> omega
@[simp] theorem y2p1 {α : Type} [Cel α] (x : α) (L : List α) : exO (nz (x :: L)) = ⟨.ls 0 0 (es α) 0 (L.length + 1), [.arr false false (es α) ((x :: L).map enc)], (x :: L).all scal, [], []⟩ := rfl
theorem yeb {H : Heap} {id g : Nat} {a : Int} (h : yh H id g = some (false, 1, [[.int .i64 a]])) : y8 H (.ls id g 1 0 1) = some (exO (nz [a])) := y1y (α := Int) (L := [a]) h
theorem y15w {H : Heap} {id g : Nat} {a b : Int} (h : yh H id g = some (false, 1, [[.int .i64 a], [.int .i64 b]])) : y8 H (.ls id g 1 0 2) = some (exO (nz [a, b])) := y1y (α := Int) (L := [a, b]) h
abbrev D0 : AO := ⟨0, .dead⟩
section
variable {α : Type} [Cel α]
theorem yun {H : Heap} {fb id g b : Nat} {sl : Option Nat} {y : AV} {L M T : List α} (hy : y33 H (es α) y = some (M.map enc)) (h : H[id]? = some ⟨g, .arr false false (es α) ((L ++ T).map enc)⟩) (hs : (2 * (L.length + M.length) + 512) * b ≤ 2 ^ 48) :
    y2y fb sl (es α) b (.ls id g (es α) 0 L.length) y H = some (.ls id (g + 1) (es α) 0 (L ++ M).length, H.set id ⟨g + 1, .arr false false (es α) ((L ++ M).map enc)⟩) := by
  unfold y2y
  rw [hy]
  simp only [h]
  rw [if_pos (by simp; simpa using hs)]
  simp only [List.drop_zero, List.map_append, List.length_append]
  rw [List.take_append_of_le_length (by simp), y61, List.length_map]
end
theorem y2hc (id g : Nat) (L : Nat) : yg 1 (.ls id g 1 0 (L + 1)) (.int .i64 (L : Int)) = some (.lp id g L 0) := by
  have : (L : Int) < (L : Int) + 1 := by omega
  simp [yg, this]
theorem y23w (id g : Nat) (L : Nat) : y5s 1 (.ls id g 1 0 (L + 1)) none (some (.int .i64 (L : Int))) = some (.ls id g 1 0 L) := by
  have : (L : Int) ≤ (L : Int) + 1 := by omega
  simp [y5s, yny, y6t, ycb, this]
@[simp] theorem y2nu {α : Type} [Cel α] : exO (nz ([] : List α)) = ⟨.nils, [], true, [], []⟩ := rfl
theorem yna {α : Type} [Cel α] {H : Heap} {id g i : Nat} {L : List α} {v : AV} {y : α} (h : H[id]? = some ⟨g, .arr false false (es α) (L.map enc)⟩) (hi : i < L.length) (hv : cellsOf v = enc y) :
    evSt (es α) (.lp id g i 0) v H = some (.tup [], H.set id ⟨g, .arr false false (es α) ((L.set i y).map enc)⟩) := by
  have hr : yh H id g = some (false, es α, L.map enc) := by simp [yh, y32, h]
  have hg : (L.map (enc (α := α)))[i]? = some (enc L[i]) := by simp [hi]
  rw [y5g, hr]
  simp only [hg, hv]
  rw [if_pos ⟨len y, by rw [len]; omega, leaf y⟩]
  rw [yev (by rw [len, len]), y1x, h]
  simp only
  rw [List.map_set]
theorem y1mc {a b : Nat} (h : a + b ≤ 137438953472) : (2 * (a + b) + 512) * 8 ≤ 2 ^ 48 := by
  have : (2 * (a + b) + 512) * 8 ≤ (2 * 137438953472 + 512) * 8 := Nat.mul_le_mul_right 8 (by omega)
  exact Nat.le_trans this (by decide)
theorem y23e {α : Type} [Cel α] {H : Heap} {id g i : Nat} {L : List α} {x : α} {v : AV} (h : H[id]? = some ⟨g, .arr false false (es α) (L.map enc)⟩) (hx : L[i]? = some x) (hv : (enc x).head? = some v) : evLd false 1 (.lp id g i 0) H = some v := by
  have hr : yh H id g = some (false, es α, L.map enc) := by simp [yh, y32, h]
  have hg : (L.map (enc (α := α)))[i]? = some (enc x) := by simp [hx]
  rw [y34, hr]
  simp only [hg, y7z, List.drop_zero, hv]
abbrev AB (f : Fn) : AO := ⟨1, .arr true false 5 [enc f]⟩
abbrev AI (g : Nat) (L : List Int) : AO := ⟨g, .arr false false 1 (L.map enc)⟩
abbrev AX (g : Nat) (x : Ins) : AO := ⟨g, .arr true false 9 [enc x]⟩
theorem y12p {α : Type} [Cel α] {j g : Nat} {L : List α} (h : L ≠ []) : y1w α j g L = .ls j g (es α) 0 L.length := by
  cases L with
  | nil => exact (h rfl).elim
  | cons x L => rfl
theorem yjo {n : Nat} {p : Int} (h0 : 0 ≤ p) (h1 : p < (n : Int)) (id g : Nat) (k : IntKind) : yg 1 (.ls id g 1 0 n) (.int k p) = some (.lp id g p.toNat 0) := by simp [yg, h0, h1]
end Go.Vm
namespace Go.Vm
section
variable (n : Nat) (S : Nat → List Int) (A : List Int)
inductive Rch : Nat → Prop
  | base {j : Int} : j ∈ A → 0 ≤ j → j < n → Rch j.toNat
  | step {i : Nat} {j : Int} : Rch i → j ∈ S i → 0 ≤ j → j < n → Rch j.toNat
def unseen (seen : List Bool) : Nat := seen.countP (! ·)
end
section
variable {n : Nat} {S : Nat → List Int} {A : List Int}
theorem Rch.lt {i : Nat} (h : Rch n S A i) : i < n := by cases h <;> omega
theorem yd6 {op : List Int} {i : Int} (h : op.getLast? = some i) : op = op.dropLast ++ [i] := by
  have hne : op ≠ [] := by intro e; rw [e] at h; cases h
  have := List.dropLast_concat_getLast hne
  rw [List.getLast?_eq_some_getLast hne] at h
  injection h with h
  rw [h] at this
  exact this.symm
theorem yft {op : List Int} {j : Int} (h : j ∈ op.dropLast) : j ∈ op := (List.dropLast_sublist op).mem h
structure DfsI (n : Nat) (S : Nat → List Int) (A : List Int) (seen : List Bool) (op : List Int) : Prop where
  len : seen.length = n
  ok : ∀ i : Nat, seen[i]? = some true → Rch n S A i
  opn : ∀ j : Int, j ∈ op → 0 ≤ j → j < n → Rch n S A j.toNat
  cl : ∀ (i : Nat) (j : Int), seen[i]? = some true → j ∈ S i → 0 ≤ j → j < n → seen[j.toNat]? = some true ∨ j ∈ op
  st : ∀ j : Int, j ∈ A → 0 ≤ j → j < n → seen[j.toNat]? = some true ∨ j ∈ op
theorem DfsI.start : DfsI n S A (List.replicate n false) A where
  len := by simp
  ok i h := by rw [List.getElem?_replicate] at h; split at h <;> cases h
  opn j h h0 h1 := .base h h0 h1
  cl i j h := by rw [List.getElem?_replicate] at h; split at h <;> cases h
  st j h _ _ := .inr h
theorem DfsI.skip {seen : List Bool} {op : List Int} (I : DfsI n S A seen op) {i : Int} (hop : op.getLast? = some i) (hc : i < 0 ∨ (n : Int) ≤ i ∨ seen.getD i.toNat true = true) : DfsI n S A seen op.dropLast := by
  have e := yd6 hop
  have key : ∀ j : Int, 0 ≤ j → j < n → (seen[j.toNat]? = some true ∨ j ∈ op) → seen[j.toNat]? = some true ∨ j ∈ op.dropLast := by
    intro j h0 h1 h
    rcases h with h | h
    · exact .inl h
    · rw [e, List.mem_append, List.mem_singleton] at h
      rcases h with h | rfl
      · exact .inr h
      · rcases hc with hc | hc | hc
        · omega
        · omega
        · left
          have : j.toNat < seen.length := by rw [I.len]; omega
          rw [List.getD_eq_getElem?_getD, List.getElem?_eq_getElem this] at hc
          rw [List.getElem?_eq_getElem this]
          simpa using hc
  exact ⟨I.len, I.ok, fun j hj => I.opn j (yft hj), fun i j h1 h2 h3 h4 => key j h3 h4 (I.cl i j h1 h2 h3 h4), fun j h1 h3 h4 => key j h3 h4 (I.st j h1 h3 h4)⟩
theorem DfsI.take {seen : List Bool} {op : List Int} (I : DfsI n S A seen op) {i : Int} (hop : op.getLast? = some i) (h0 : 0 ≤ i) (h1 : i < n) : DfsI n S A (seen.set i.toNat true) (op.dropLast ++ S i.toNat) := by
  have e := yd6 hop
  have hi : Rch n S A i.toNat := I.opn i (by rw [e]; simp) h0 h1
  have hlt : i.toNat < seen.length := by rw [I.len]; omega
  have hset : ∀ j : Nat, (seen.set i.toNat true)[j]? = some true ↔ seen[j]? = some true ∨ j = i.toNat := by
    intro j
    rw [List.getElem?_set]
    by_cases hj : i.toNat = j
    · subst hj; simp [hlt]
    · rw [if_neg hj]
      exact ⟨.inl, fun h => h.resolve_right (fun e => hj e.symm)⟩
  have key : ∀ j : Int, 0 ≤ j → j < n → (seen[j.toNat]? = some true ∨ j ∈ op) → (seen.set i.toNat true)[j.toNat]? = some true ∨ j ∈ op.dropLast ++ S i.toNat := by
    intro j h2 h3 h
    rw [hset]
    rcases h with h | h
    · exact .inl (.inl h)
    · rw [e, List.mem_append, List.mem_singleton] at h
      rcases h with h | rfl
      · exact .inr (List.mem_append_left _ h)
      · exact .inl (.inr rfl)
  refine ⟨by simpa using I.len, fun j hj => ?_, fun j hj h2 h3 => ?_, fun k j hk hj h2 h3 => ?_, fun j hj h2 h3 => key j h2 h3 (I.st j hj h2 h3)⟩
  · rcases (hset j).1 hj with h | rfl
    · exact I.ok j h
    · exact hi
  · rcases List.mem_append.1 hj with h | h
    · exact I.opn j (yft h) h2 h3
    · exact .step hi h h2 h3
  · rcases (hset k).1 hk with h | rfl
    · exact key j h2 h3 (I.cl k j h hj h2 h3)
    · exact .inr (List.mem_append_right _ hj)
theorem DfsI.done {seen : List Bool} (I : DfsI n S A seen []) (i : Nat) : seen[i]? = some true ↔ Rch n S A i := by
  refine ⟨I.ok i, fun h => ?_⟩
  induction h with
  | base h h0 h1 => exact (I.st _ h h0 h1).resolve_right (by simp)
  | step _ hj h0 h1 ih => exact (I.cl _ _ ih hj h0 h1).resolve_right (by simp)
structure RI (n : Nat) (S : Nat → List Int) (A : List Int) (seen : List Bool) (s : List Bool × Bool) : Prop where
  len : s.1.length = n
  ok : ∀ i : Nat, s.1[i]? = some true → Rch n S A i
  up : ∀ i : Nat, seen[i]? = some true → s.1[i]? = some true
  un : unseen s.1 ≤ unseen seen
  lt : s.2 = true → unseen s.1 < unseen seen
  eq : s.2 = false → s.1 = seen
end
theorem y15n {α : Type} {n k : Nat} {p q : Nat → α} {v : α} (hq : q k = v) (he : ∀ j, j ≠ k → q j = p j) : ((List.range n).map p).set k v = (List.range n).map q := by
  refine List.ext_getElem (by simp) fun i h1 h2 => ?_
  rw [List.getElem_set]
  simp only [List.getElem_map, List.getElem_range]
  by_cases e : k = i
  · rw [if_pos e, ← e, hq]
  · rw [if_neg e, he i (fun h => e h.symm)]
end Go.Vm
namespace Go.Vm
def addN (l : List Int) (j : Int) : List Int := if l.contains j then l else l ++ [j]
def yk (f : Fn) (i : Nat) : Ins := (lst f.code).getD i default
def yqm (x : Ins) (i : Int) : List Int := if leads x.op then addN (if ends x.op then [] else [i + 1]) x.t else if ends x.op then [] else [i + 1]
def y4r (f : Fn) (i : Int) : List Int := if i < 0 ∨ ((lst f.code).length : Int) ≤ i then [] else yqm (yk f i.toNat) i
def y44 (i : Int) : List Row → List Int → List Int
  | [], l => l
  | r :: rs, l => if r.f ≤ i ∧ i < r.t then (if r.c = [] then addN l r.at_ else y44 i rs (addN l r.at_)) else y44 i rs l
def y1r (f : Fn) (i : Int) : List Int := if i < 0 ∨ ((lst f.code).length : Int) ≤ i then [] else if throws (yk f i.toNat).op then y44 i (lst f.rows) [] else []
theorem yzc (l : List Int) (j : Int) : (addN l j).length ≤ l.length + 1 := by
  unfold addN
  split <;> simp
theorem y1kv (x : Ins) (i : Int) : (yqm x i).length ≤ 2 := by
  unfold yqm
  split
  · have := yzc (if ends x.op then [] else [i + 1]) x.t
    split at this <;> simp_all <;> omega
  · split <;> simp
theorem y1nb (f : Fn) (i : Int) : (y4r f i).length ≤ 2 := by
  unfold y4r
  split
  · simp
  · exact y1kv _ _
theorem ycp (i : Int) : ∀ (rs : List Row) (l : List Int), (y44 i rs l).length ≤ l.length + rs.length
  | [], l => by simp [y44]
  | r :: rs, l => by
    have h1 := yzc l r.at_
    have h2 := ycp i rs (addN l r.at_)
    have h3 := ycp i rs l
    unfold y44
    simp only [List.length_cons]
    split
    · split <;> omega
    · omega
theorem ytu (f : Fn) (i : Int) : (y1r f i).length ≤ (lst f.rows).length := by
  unfold y1r
  split
  · simp
  · split
    · have := ycp i (lst f.rows) []
      simpa using this
    · simp
theorem y3i {f : Fn} {i : Nat} (h : i < (lst f.code).length) : (lst f.code)[i]? = some (yk f i) := by
  rw [yk, List.getD_eq_getElem?_getD, List.getElem?_eq_getElem h]; rfl
def y3w (f : Fn) (i : Nat) : Bool :=
  decide (i = 0) || (leads (yk f (i - 1)).op || ends (yk f (i - 1)).op) || (lst f.code).any (fun x => leads x.op && decide (x.t = i)) || (lst f.rows).any (fun r => decide (r.f = i) || decide (r.t = i) || decide (r.at_ = i))
theorem y1uv {f : Fn} {i : Nat} (h : i = 0) : y3w f i = true := by subst h; simp [y3w]
def y4i (f : Fn) : Nat → List Int
  | 0 => []
  | k + 1 => y4i f k ++ (if y3w f k then [(k : Int)] else [])
def y5q (f : Fn) : List Int := y4i f (lst f.code).length
theorem yf3 (f : Fn) : ∀ k, (y4i f k).length ≤ k
  | 0 => Nat.le_refl _
  | k + 1 => by
    have := yf3 f k
    rw [y4i, List.length_append]
    split <;> simp <;> omega
end Go.Vm
