/- Facts for reading the machine's functions: combinators at known values; lists of things of one kind as slices. The things that the layers speak of: instructions, rows, functions. What is handed in, as things. What is told of instructions, in plain words. The pass 'carry', in plain words: which register is a copy of which. What the facts of the pass 'carry' say behind an instruction, where ways meet. What is told of types' descriptors. Names, the type at a text's beginning, types. What the stack's instructions over numbers take and give. What an instruction wants of its registers, in plain words. When an instruction, a function is well formed, in plain words. Lists that a function builds by appending, at a place of its own. Places that can be reached: a search with a stack, a search in rounds, a search that stops where something is found. Plain Lean; nothing here speaks of a program. Which places follow a place, in plain words. -/
import Derived.Test.YtgbajicpokolcaaVc
import Derived.Test.YtgbajicpokolcaaJX
set_option linter.unusedSimpArgs false
set_option linter.unusedVariables false
set_option linter.unusedSectionVars false
namespace Go.Vm
section comb
variable {α : Type}
@[simp] theorem y4 (v : AV) (K : AV → Option α) : ob (some v) K = K v := rfl
@[simp] theorem y8 (v : AV) (h : Heap) (K : AV → Heap → Option α) : oh (some (v, h)) K = K v h := rfl
@[simp] theorem yjo {β : Type} (v : β) (K : β → Option α) : ofp (some v) K = K v := rfl
@[simp] theorem ybg (x : Option AV) (K : AV → Option α) : gb (.bool true) true x K = ob x K := rfl
@[simp] theorem ynq (x : Option AV) (K : AV → Option α) : gb (.bool false) false x K = ob x K := rfl
@[simp] theorem yzo (x : Option AV) (K : AV → Option α) : gb (.bool true) false x K = K (.tup []) := rfl
@[simp] theorem ygc (x : Option AV) (K : AV → Option α) : gb (.bool false) true x K = K (.tup []) := rfl
@[simp] theorem ygp (w : Bool) (x : Option AV) (K : AV → Option α) : gb (.tup []) w x K = K (.tup []) := rfl
@[simp] theorem y29c (x : Option (AV × Heap)) (h : Heap) (K : AV → Heap → Option α) : gh (.bool true) true x h K = oh x K := rfl
@[simp] theorem y297 (x : Option (AV × Heap)) (h : Heap) (K : AV → Heap → Option α) : gh (.bool false) false x h K = oh x K := rfl
@[simp] theorem y295 (x : Option (AV × Heap)) (h : Heap) (K : AV → Heap → Option α) : gh (.bool true) false x h K = K (.tup []) h := rfl
@[simp] theorem y29f (x : Option (AV × Heap)) (h : Heap) (K : AV → Heap → Option α) : gh (.bool false) true x h K = K (.tup []) h := rfl
@[simp] theorem y28v (w : Bool) (x : Option (AV × Heap)) (h : Heap) (K : AV → Heap → Option α) : gh (.tup []) w x h K = K (.tup []) h := rfl
@[simp] theorem y28w (x : Option (List Nat × List Nat)) : fgd (.bool true) true x = x := rfl
@[simp] theorem y28f (x : Option (List Nat × List Nat)) : fgd (.bool false) false x = x := rfl
@[simp] theorem y28u (x : Option (List Nat × List Nat)) : fgd (.bool true) false x = some ([], []) := rfl
@[simp] theorem y28k (x : Option (List Nat × List Nat)) : fgd (.bool false) true x = some ([], []) := rfl
@[simp] theorem y26x (w : Bool) (x : Option (List Nat × List Nat)) : fgd (.tup []) w x = some ([], []) := rfl
@[simp] theorem y1h (a b : Option α) : cnd (.bool true) a b = a := rfl
@[simp] theorem y1t (a b : Option α) : cnd (.bool false) a b = b := rfl
@[simp] theorem y1vh (x : Option α) : okK true x = x := rfl
theorem y21q {α : Type} {b : Bool} (h : b = true) (x : Option α) : okK b x = x := by rw [h]; rfl
@[simp] theorem y2o (a b : AV) : yf (.bool true) a b = some a := rfl
@[simp] theorem y33 (a b : AV) : yf (.bool false) a b = some b := rfl
@[simp] theorem y3f (b : Bool) : evUn .not (.bool b) = some (.bool (!b)) := rfl
@[simp] theorem y25s (neq a b : Bool) : y1kk neq (.bool a) (.bool b) = some (.bool (if neq then !(a == b) else a == b)) := rfl
@[simp] theorem y21b (i : Nat) (vs : List AV) : y3d i (.tup vs) = vs[i]? := rfl
@[simp] theorem y205 (k k' : IntKind) (n : Int) : y18d k (.int k' n) = some (.int k (k.wrap n)) := rfl
@[simp] theorem y1s2 (cs : List AV) : ydd (.rp cs) = some (.rp cs) := rfl
@[simp] theorem y1wj (id g i off : Nat) : ydd (.lp id g i off) = some (.lp id g i off) := rfl
@[congr] theorem y29l {x x' : Option AV} (h : x = x') (K : AV → Option α) : ob x K = ob x' K := by rw [h]
@[congr] theorem y298 {x x' : Option (AV × Heap)} (h : x = x') (K : AV → Heap → Option α) : oh x K = oh x' K := by rw [h]
@[congr] theorem y28l {β : Type} {x x' : Option β} (h : x = x') (K : β → Option α) : ofp x K = ofp x' K := by rw [h]
@[congr] theorem y29j {g g' : AV} (h : g = g') (w : Bool) (x : Option AV) (K : AV → Option α) : gb g w x K = gb g' w x K := by rw [h]
@[congr] theorem y29i {g g' : AV} (h : g = g') (w : Bool) (x : Option (AV × Heap)) (hp : Heap) (K : AV → Heap → Option α) : gh g w x hp K = gh g' w x hp K := by rw [h]
@[congr] theorem y28s {g g' : AV} (h : g = g') (w : Bool) (x : Option (List Nat × List Nat)) : fgd g w x = fgd g' w x := by rw [h]
@[congr] theorem y28r {c c' : AV} (h : c = c') (a b : Option α) : cnd c a b = cnd c' a b := by rw [h]
@[congr] theorem y28d {c c' : Bool} (h : c = c') (a : Option α) : okK c a = okK c' a := by rw [h]
end comb
section ints
variable (k : IntKind) (a b : Int)
@[simp] theorem y1f : y6 .add (.int k a) (.int k b) = some (.int k (k.wrap (a + b))) := by simp [y6, y4u, y8i]
@[simp] theorem ymi : y6 .sub (.int k a) (.int k b) = some (.int k (k.wrap (a - b))) := by simp [y6, y4u, y8i]
@[simp] theorem y23o : y6 .mul (.int k a) (.int k b) = some (.int k (k.wrap (a * b))) := by simp [y6, y4u, y8i]
@[simp] theorem yy : y6 .eql (.int k a) (.int k b) = some (.bool (decide (a = b))) := by simp [y6, y4u, y8i, Bool.beq_eq_decide_eq]
@[simp] theorem yl7 : y6 .neq (.int k a) (.int k b) = some (.bool (decide (a ≠ b))) := by simp [y6, y4u, y8i, bne, Bool.beq_eq_decide_eq]
@[simp] theorem yq : y6 .lss (.int k a) (.int k b) = some (.bool (decide (a < b))) := by simp [y6, y4u, y8i]
@[simp] theorem yfv : y6 .leq (.int k a) (.int k b) = some (.bool (decide (a ≤ b))) := by simp [y6, y4u, y8i]
@[simp] theorem yaw : y6 .gtr (.int k a) (.int k b) = some (.bool (decide (b < a))) := by simp [y6, y4u, y8i]
@[simp] theorem yfp : y6 .geq (.int k a) (.int k b) = some (.bool (decide (b ≤ a))) := by simp [y6, y4u, y8i]
end ints
@[simp] theorem y1yn (a b : List UInt8) : y6 .eql (.str a) (.str b) = some (.bool (decide (a = b))) := by simp [y6, yur, Bool.beq_eq_decide_eq]
@[simp] theorem y1yq (a b : List UInt8) : y6 .neq (.str a) (.str b) = some (.bool (decide (a ≠ b))) := by simp [y6, yur, Bool.beq_eq_decide_eq]
theorem y22 {n : Int} (h0 : -9223372036854775808 ≤ n) (h1 : n < 9223372036854775808) : IntKind.wrap .i64 n = n := by
  simp [IntKind.wrap, IntKind.bits, IntKind.signed]; omega
theorem y1af {i n : Nat} (h : i < n) (hn : n ≤ 9223372036854775807) : IntKind.wrap .i64 ((i : Int) + 1) = ((i + 1 : Nat) : Int) := by
  rw [y22] <;> omega
theorem y2j {i n : Nat} (h : i < n) (hn : n ≤ 9223372036854775807) : IntKind.wrap .i64 ((i : Int) + 1) = (i : Int) + 1 := by rw [y1af h hn]; rfl
@[simp] theorem y267 (k : Nat) (cs : List AV) : evFa k (.rp cs) = some (.rp (cs.drop k)) := rfl
@[simp] theorem y3g (k id g i o : Nat) : evFa k (.lp id g i o) = some (.lp id g i (o + k)) := rfl
@[simp] theorem you (agg : Bool) (n : Nat) (cs : List AV) (h : Heap) : evLd agg n (.rp cs) h = y43 agg n cs := rfl
@[simp] theorem y5b (n : Nat) (cs : List AV) : y43 false n cs = cs.head? := rfl
@[simp] theorem y1uu (cs : List AV) : cellsOf (.agg cs) = cs := rfl
@[simp] theorem y1ro (k : IntKind) (n : Int) : cellsOf (.int k n) = [.int k n] := rfl
@[simp] theorem y1pm (b : Bool) : cellsOf (.bool b) = [.bool b] := rfl
@[simp] theorem y1sr (s : List UInt8) : cellsOf (.str s) = [.str s] := rfl
@[simp] theorem y1qk : cellsOf .nils = [.nils] := rfl
@[simp] theorem y1z3 (es : Nat) (rows : List (List AV)) : cellsOf (.rs es rows) = [.rs es rows] := rfl
@[simp] theorem y1yv (id g es off len : Nat) : cellsOf (.ls id g es off len) = [.ls id g es off len] := rfl
class Cel (α : Type) where
  es : Nat
  enc : α → List AV
  len : ∀ x, (enc x).length = es
  pur : ∀ x, (enc x).all pure1 = true
  leaf : ∀ x, (enc x).all yx = true
open Cel
instance : Cel Int := ⟨1, fun n => [.int .i64 n], fun _ => rfl, fun _ => rfl, fun _ => rfl⟩
instance : Cel Bool := ⟨1, fun b => [.bool b], fun _ => rfl, fun _ => rfl, fun _ => rfl⟩
structure Tx where
  s : List UInt8
  deriving DecidableEq, Inhabited
instance : Cel Tx := ⟨1, fun b => [.str b.s], fun _ => rfl, fun _ => rfl, fun _ => rfl⟩
@[simp] theorem y25c (n : Int) : enc n = [.int .i64 n] := rfl
@[simp] theorem y24m (b : Bool) : enc b = [.bool b] := rfl
@[simp] theorem y28y (b : Tx) : enc b = [.str b.s] := rfl
@[simp] theorem yuj : es Int = 1 := rfl
@[simp] theorem y174 : es Bool = 1 := rfl
@[simp] theorem y29m : es Tx = 1 := rfl
variable {α : Type} [Cel α]
def scal (x : α) : Bool := (enc x).all y1g
@[simp] theorem y256 (n : Int) : scal n = true := rfl
@[simp] theorem y20s (b : Bool) : scal b = true := rfl
@[simp] theorem y26i (b : Tx) : scal b = true := rfl
def lst (o : Option (List α)) : List α := o.getD []
omit [Cel α] in
@[simp] theorem y255 : lst (none : Option (List α)) = [] := rfl
omit [Cel α] in
@[simp] theorem y8z (L : List α) : lst (some L) = L := rfl
def slA : Option (List α) → AV
  | none => .nils
  | some L => .rs (es α) (L.map enc)
instance : Cel (Option (List α)) := ⟨1, fun o => [slA o], fun _ => rfl, fun o => by cases o <;> rfl, fun o => by cases o <;> rfl⟩
@[simp] theorem y28o (o : Option (List α)) : enc o = [slA o] := rfl
@[simp] theorem y29h : es (Option (List α)) = 1 := rfl
@[simp] theorem y22w (k : IntKind) (n : Int) : pure1 (.int k n) = true := rfl
@[simp] theorem y1yy (b : Bool) : pure1 (.bool b) = true := rfl
@[simp] theorem y213 (b : List UInt8) : pure1 (.str b) = true := rfl
@[simp] theorem y1z4 : pure1 .nils = true := rfl
@[simp] theorem y22j (k : IntKind) (n : Int) : yx (.int k n) = true := rfl
@[simp] theorem y1z1 (b : Bool) : yx (.bool b) = true := rfl
@[simp] theorem y1z7 (b : List UInt8) : yx (.str b) = true := rfl
@[simp] theorem y1yx : yx .nils = true := rfl
@[simp] theorem y24g (es : Nat) (r : List (List AV)) : yx (.rs es r) = true := rfl
@[simp] theorem y253 (id g es off len : Nat) : yx (.ls id g es off len) = true := rfl
@[simp] theorem y24z (id g i o : Nat) : yx (.lp id g i o) = true := rfl
@[simp] theorem y1wp (k : IntKind) (n : Int) : y1g (.int k n) = true := rfl
@[simp] theorem y1qn (b : Bool) : y1g (.bool b) = true := rfl
@[simp] theorem y1vj (b : List UInt8) : y1g (.str b) = true := rfl
@[simp] theorem y1po : y1g .nils = true := rfl
@[simp] theorem yyz (o : Option (List α)) : cellsOf (slA o) = [slA o] := by cases o <;> rfl
@[simp] theorem y24s (o : Option (List α)) : yx (slA o) = true := by cases o <;> rfl
@[simp] theorem yan (o : Option (List α)) : pure1 (slA o) = true := by cases o <;> rfl
@[simp] theorem yze (o : Option (List α)) : y1g (slA o) = (lst o).isEmpty := by
  cases o with
  | none => rfl
  | some L => cases L <;> rfl
@[simp] theorem y6j (o : Option (List α)) (h : Heap) : y12 1 (slA o) h = some (.int .i64 (lst o).length) := by cases o <;> simp [slA, y12]
@[simp] theorem yed (s : List UInt8) (h : Heap) : y12 0 (.str s) h = some (.int .i64 s.length) := rfl
@[simp] theorem y53 (id g es off len : Nat) (h : Heap) : y12 1 (.ls id g es off len) h = some (.int .i64 len) := rfl
@[simp] theorem y1z0 (h : Heap) : y12 1 .nils h = some (.int .i64 0) := rfl
@[simp] theorem y274 (id g i o : Nat) : ids1 (.lp id g i o) = [id] := rfl
@[simp] theorem y26d (id g es o l : Nat) : ids1 (.ls id g es o l) = [id] := rfl
@[simp] theorem y27g (cs : List AV) : ids1 (.rp cs) = [] := rfl
@[simp] theorem y254 (k : IntKind) (n : Int) : ids1 (.int k n) = [] := rfl
@[simp] theorem y24x (s : List UInt8) : ids1 (.str s) = [] := rfl
@[simp] theorem y26t (o : Option (List α)) : ids1 (slA o) = [] := by cases o <;> rfl
@[simp] theorem y1kr (neq : Bool) (o : Option (List α)) : y7b 1 neq (slA o) .nils = some (.bool (if neq then o.isSome else o.isNone)) := by
  cases o <;> cases neq <;> rfl
theorem yd5 {o : Option (List α)} {x : α} {i : Nat} (hx : (lst o)[i]? = some x) (k : IntKind) : yu (es α) (slA o) (.int k i) = some (.rp (enc x)) := by
  cases o with
  | none => simp at hx
  | some L =>
    simp only [y8z] at hx
    simp [slA, yu, hx]
theorem ymv {o : Option (List α)} {x : α} {n : Int} (h0 : 0 ≤ n) (hx : (lst o)[n.toNat]? = some x) (k : IntKind) : yu (es α) (slA o) (.int k n) = some (.rp (enc x)) := by
  obtain ⟨i, rfl⟩ := Int.eq_ofNat_of_zero_le h0
  exact yd5 (by simpa using hx) k
@[simp] theorem ye3 (o : Option (List α)) (h : Heap) : y2m h (es α) (slA o) = some ((lst o).map enc) := by
  cases o <;> simp [slA, y2m]
@[simp] theorem y1hu (o : Option (List α)) (h : Heap) : fz h y19 (slA o) = some ⟨slA o, (lst o).isEmpty, []⟩ := by
  rw [y272 (yan o), yze]
@[simp] theorem yak (x : α) (h : Heap) : fz h y19 (.agg (enc x)) = some ⟨.agg (enc x), scal x, []⟩ := y227 h (pur x)
theorem yen (L : List α) : (L.map enc).all (·.all pure1) = true := by simp only [List.all_map, List.all_eq_true]; exact fun x _ => pur x
theorem yfr (L : List α) : (L.map enc).all (·.all y1g) = L.all scal := by simp only [List.all_map]; rfl
@[simp] theorem y1dp (L : List α) (h : Heap) : yj (yj (fz h y19)) (L.map enc) = some ⟨L.map enc, L.all scal, []⟩ := by rw [y1ge h (yen L), yfr]
@[simp] theorem y1av (L : List α) (h : Heap) : yj (yj (fz h 11)) (L.map enc) = some ⟨L.map enc, L.all scal, []⟩ := by rw [y1a5 h (yen L), yfr]
@[simp] theorem y25f (o : Option (List α)) : scal o = (lst o).isEmpty := by simp [scal]
@[simp] theorem y5o (L : List α) : (L.map (enc (α := α))).take L.length = L.map enc := by
  rw [List.take_of_length_le (by simp)]
@[simp] theorem yel (x : α) : y43 true (es α) (enc x) = some (.agg (enc x)) := by
  simp only [y43, if_true, len x, Nat.le_refl, if_pos]
  rw [List.take_of_length_le (by rw [len x]; exact Nat.le_refl _)]
@[simp] theorem y252 (x : α) : (∀ v, v ∈ enc x → yx v = true) ↔ True := by
  have := leaf x
  rw [List.all_eq_true] at this
  exact ⟨fun _ => trivial, fun _ => this⟩
theorem yiz (x : α) : (enc x).all yx = true := leaf x
@[simp] theorem y1yh (h : Heap) (k : IntKind) (n : Int) : fz h y19 (.int k n) = some ⟨.int k n, true, []⟩ := rfl
@[simp] theorem yje (h : Heap) (b : Bool) : fz h y19 (.bool b) = some ⟨.bool b, true, []⟩ := rfl
@[simp] theorem y287 (h : Heap) (b : List UInt8) : fz h y19 (.str b) = some ⟨.str b, true, []⟩ := rfl
@[simp] theorem y251 (h : Heap) : fz h y19 .nils = some ⟨.nils, true, []⟩ := rfl
@[simp] theorem y1yr (h : Heap) (k : IntKind) (n : Int) : yi h (.int k n) = some ⟨.int k n, [], true, [], []⟩ := rfl
@[simp] theorem y4w (h : Heap) (b : Bool) : yi h (.bool b) = some ⟨.bool b, [], true, [], []⟩ := rfl
@[simp] theorem y1yu (h : Heap) (s : List UInt8) : yi h (.str s) = some ⟨.str s, [], true, [], []⟩ := rfl
@[simp] theorem y1sx (h : Heap) : yi h .nils = some ⟨.nils, [], true, [], []⟩ := rfl
@[simp] theorem y24k (h : Heap) (o : Option (List α)) : yi h (slA o) = some ⟨slA o, [], (lst o).isEmpty, [], []⟩ := by
  cases o with
  | none => rfl
  | some L => simp [slA, y1jp]
theorem yhy {v : AV} (hp : pure1 v = true) (h : Heap) (k : Nat) (os : List OC) : expo h (k + 1) v os = some ⟨v, os, y1g v, [], []⟩ := by
  cases v <;> simp_all [expo, pure1]
theorem y1nn {cs : List AV} (h : Heap) (k : Nat) (os : List OC) (hp : cs.all pure1 = true) : y3m (expo h (k + 1)) cs os = some ⟨cs, os, cs.all y1g, [], []⟩ := by
  induction cs with
  | nil => rfl
  | cons c cs ih =>
    simp only [List.all_cons, Bool.and_eq_true] at hp
    rw [y3m, yhy hp.1]
    simp only [ih hp.2]
    rfl
theorem yaa (h : Heap) (cs : List AV) : yi h (.agg cs) = match y3m (expo h 11) cs [] with
    | some r => if y32 r.xs r.fs then some ⟨.agg r.v, r.objs, r.fresh, [], []⟩ else none
    | none => none := by
  show (match (match y3m (expo h 11) cs [] with
    | some r => some (⟨.agg r.v, r.objs, r.fresh, r.xs, r.fs⟩ : Ex AV)
    | none => none) with
    | some r => if y32 r.xs r.fs then some (⟨r.v, r.objs, r.fresh, [], []⟩ : Ex AV) else none
    | none => none) = _
  cases y3m (expo h 11) cs [] <;> rfl
@[simp] theorem y1fy (h : Heap) (x : α) : yi h (.agg (enc x)) = some ⟨.agg (enc x), [], scal x, [], []⟩ := by
  rw [yaa, y1nn h 10 [] (pur x)]
  rfl
theorem y1xt (h : Heap) (k id g es1 off len : Nat) (os : List OC) : expo h (k + 1) (.ls id g es1 off len) os = match yk h id g with
    | some (true, _, _) => exFz h (.ls id g es1 off len) os
    | some (false, es, rows) => if es1 = es ∧ off + len ≤ rows.length then
        match yj (yj (fz h y19)) ((rows.drop off).take len) with
        | some r => some ⟨.ls os.length 0 es 0 len, os ++ [.arr false false es r.v], r.fresh, [id], r.ids⟩
        | none => none
      else none
    | none => none := by
  rw [expo]
  rfl
theorem y23s (h : Heap) (k id g es1 off len : Nat) : fz h (k + 1) (.ls id g es1 off len) = match yk h id g with
    | some (_, es, rows) => if es1 = es ∧ off + len ≤ rows.length then (match yj (yj (fz h k)) ((rows.drop off).take len) with
      | some r => some ⟨.rs es r.v, r.fresh, id :: r.ids⟩
      | none => none) else none
    | none => none := by
  rw [fz]
  rfl
theorem y1n6 (L : List α) (h : Heap) (k : Nat) : yj (yj (fz h (k + 1))) (L.map enc) = some ⟨L.map enc, L.all scal, []⟩ := by rw [y6c h k (yen L), yfr]
@[simp] theorem y14 {β γ : Type} (f : β → Option (Fz γ)) : yj f [] = some ⟨[], true, []⟩ := rfl
@[simp] theorem yo {β γ : Type} (f : β → Option (Fz γ)) (x : β) (xs : List β) : yj f (x :: xs) = match f x, yj f xs with
    | some a, some b => some ⟨a.v :: b.v, a.fresh && b.fresh, a.ids ++ b.ids⟩
    | _, _ => none := rfl
end Go.Vm
namespace Go.Vm
open Cel
structure Ins where
  op : Int
  d : Int
  a : Int
  b : Int
  c : Int
  n : Int
  t : Int
  s : List UInt8
  args : Option (List Int)
  deriving DecidableEq, Inhabited
structure Row where
  f : Int
  t : Int
  at_ : Int
  c : List UInt8
  deriving DecidableEq, Inhabited
structure Fn where
  regs : Option (List Int)
  params : Option (List Int)
  ret : Int
  code : Option (List Ins)
  rows : Option (List Row)
  deriving DecidableEq, Inhabited
instance : Cel Ins := ⟨9, fun x => [.int .i64 x.op, .int .i64 x.d, .int .i64 x.a, .int .i64 x.b, .int .i64 x.c, .int .i64 x.n, .int .i64 x.t, .str x.s, slA x.args], fun _ => rfl,
  fun x => by simp, fun x => by simp⟩
instance : Cel Row := ⟨4, fun x => [.int .i64 x.f, .int .i64 x.t, .int .i64 x.at_, .str x.c], fun _ => rfl, fun x => rfl, fun x => rfl⟩
instance : Cel Fn := ⟨5, fun x => [slA x.regs, slA x.params, .int .i64 x.ret, slA x.code, slA x.rows], fun _ => rfl, fun x => by simp, fun x => by simp⟩
@[simp] theorem y28e : es Ins = 9 := rfl
@[simp] theorem y28i : es Row = 4 := rfl
@[simp] theorem y292 : es Fn = 5 := rfl
theorem y1w9 (x : Row) : enc x = [.int .i64 x.f, .int .i64 x.t, .int .i64 x.at_, .str x.c] := rfl
section
variable (x : Ins) (r : Row) (f : Fn)
@[simp high] theorem ins0 : (enc x).head? = some (.int .i64 x.op) := rfl
@[simp high] theorem y29b : (enc x)[0]? = some (.int .i64 x.op) := rfl
@[simp high] theorem ins1 : ((enc x).drop 1).head? = some (.int .i64 x.d) := rfl
@[simp high] theorem y29n : (enc x)[1]? = some (.int .i64 x.d) := rfl
@[simp high] theorem ins2 : ((enc x).drop 2).head? = some (.int .i64 x.a) := rfl
@[simp high] theorem y29d : (enc x)[2]? = some (.int .i64 x.a) := rfl
@[simp high] theorem ins3 : ((enc x).drop 3).head? = some (.int .i64 x.b) := rfl
@[simp high] theorem y29k : (enc x)[3]? = some (.int .i64 x.b) := rfl
@[simp high] theorem ins4 : ((enc x).drop 4).head? = some (.int .i64 x.c) := rfl
@[simp high] theorem y294 : (enc x)[4]? = some (.int .i64 x.c) := rfl
@[simp high] theorem ins5 : ((enc x).drop 5).head? = some (.int .i64 x.n) := rfl
@[simp high] theorem y296 : (enc x)[5]? = some (.int .i64 x.n) := rfl
@[simp high] theorem ins6 : ((enc x).drop 6).head? = some (.int .i64 x.t) := rfl
@[simp high] theorem y299 : (enc x)[6]? = some (.int .i64 x.t) := rfl
@[simp high] theorem ins7 : ((enc x).drop 7).head? = some (.str x.s) := rfl
@[simp high] theorem y290 : (enc x)[7]? = some (.str x.s) := rfl
@[simp high] theorem ins8 : ((enc x).drop 8).head? = some (slA x.args) := rfl
@[simp high] theorem y29a : (enc x)[8]? = some (slA x.args) := rfl
@[simp high] theorem row0 : (enc r).head? = some (.int .i64 r.f) := rfl
@[simp high] theorem y29g : (enc r)[0]? = some (.int .i64 r.f) := rfl
@[simp high] theorem row1 : ((enc r).drop 1).head? = some (.int .i64 r.t) := rfl
@[simp high] theorem y291 : (enc r)[1]? = some (.int .i64 r.t) := rfl
@[simp high] theorem row2 : ((enc r).drop 2).head? = some (.int .i64 r.at_) := rfl
@[simp high] theorem y29e : (enc r)[2]? = some (.int .i64 r.at_) := rfl
@[simp high] theorem row3 : ((enc r).drop 3).head? = some (.str r.c) := rfl
@[simp high] theorem y293 : (enc r)[3]? = some (.str r.c) := rfl
@[simp high] theorem fn0 : (enc f).head? = some (slA f.regs) := rfl
@[simp high] theorem fn0q : (enc f)[0]? = some (slA f.regs) := rfl
@[simp high] theorem fn1 : ((enc f).drop 1).head? = some (slA f.params) := rfl
@[simp high] theorem fn1q : (enc f)[1]? = some (slA f.params) := rfl
@[simp high] theorem fn2 : ((enc f).drop 2).head? = some (.int .i64 f.ret) := rfl
@[simp high] theorem fn2q : (enc f)[2]? = some (.int .i64 f.ret) := rfl
@[simp high] theorem fn3 : ((enc f).drop 3).head? = some (slA f.code) := rfl
@[simp high] theorem fn3q : (enc f)[3]? = some (slA f.code) := rfl
@[simp high] theorem fn4 : ((enc f).drop 4).head? = some (slA f.rows) := rfl
@[simp high] theorem fn4q : (enc f)[4]? = some (slA f.rows) := rfl
@[simp] theorem yjs : y43 true 9 (enc x) = some (.agg (enc x)) := yel x
@[simp] theorem y27w : y43 true 4 (enc r) = some (.agg (enc r)) := yel r
@[simp] theorem y28t : y43 true 5 (enc f) = some (.agg (enc f)) := yel f
@[simp] theorem ynk : (enc x).length = 9 := rfl
@[simp] theorem y26k : (enc r).length = 4 := rfl
@[simp] theorem y28x : (enc f).length = 5 := rfl
@[simp] theorem y1me : (enc x).all yx = true := yiz x
@[simp] theorem y24j : (enc r).all yx = true := yiz r
@[simp] theorem y280 : (enc f).all yx = true := yiz f
end
theorem yf3 {o : Option (List Ins)} {x : Ins} {i : Nat} (hx : (lst o)[i]? = some x) (k : IntKind) : yu 9 (slA o) (.int k i) = some (.rp (enc x)) := yd5 hx k
theorem yng {o : Option (List Row)} {x : Row} {i : Nat} (hx : (lst o)[i]? = some x) (k : IntKind) : yu 4 (slA o) (.int k i) = some (.rp (enc x)) := yd5 hx k
theorem y8g {o : Option (List Int)} {x : Int} {i : Nat} (hx : (lst o)[i]? = some x) (k : IntKind) : yu 1 (slA o) (.int k i) = some (.rp [.int .i64 x]) := yd5 hx k
theorem yd9 {o : Option (List Ins)} {x : Ins} {n : Int} (h0 : 0 ≤ n) (hx : (lst o)[n.toNat]? = some x) (k : IntKind) : yu 9 (slA o) (.int k n) = some (.rp (enc x)) := ymv h0 hx k
theorem yxw {o : Option (List Int)} {x : Int} {n : Int} (h0 : 0 ≤ n) (hx : (lst o)[n.toNat]? = some x) (k : IntKind) : yu 1 (slA o) (.int k n) = some (.rp [.int .i64 x]) := ymv h0 hx k
@[simp] theorem y1yo (o : Option (List Int)) (h : Heap) : y2m h 1 (slA o) = some ((lst o).map enc) := ye3 o h
@[simp] theorem y1ys (o : Option (List Ins)) (h : Heap) : y2m h 9 (slA o) = some ((lst o).map enc) := ye3 o h
@[simp] theorem y1z2 (o : Option (List Row)) (h : Heap) : y2m h 4 (slA o) = some ((lst o).map enc) := ye3 o h
def exO {α : Type} [Cel α] : Option (List α) → Ex AV
  | none => ⟨.nils, [], true, [], []⟩
  | some L => ⟨.ls 0 0 (es α) 0 L.length, [.arr false false (es α) (L.map enc)], L.all scal, [], []⟩
@[simp] theorem y1a1 {α : Type} [Cel α] (o : Option (List α)) : fz (y1q (exO o).objs) y19 (exO o).v = some ⟨slA o, (lst o).all scal, match o with | none => [] | some _ => [0]⟩ := by
  cases o with
  | none => rfl
  | some L =>
    show fz [⟨0, .arr false false (es α) (L.map enc)⟩] y19 (.ls 0 0 (es α) 0 L.length) = _
    rw [y1ly]
    simp [yk, y2w, slA]
@[simp] theorem y1hy {α : Type} [Cel α] (fb j : Nat) (L : List α) (h : Heap) : y1w fb (some j) (exO (some L)).objs [] h = match h[fb + j]? with
    | some o => some ([(fb + j, o.gen + 1)], h.set (fb + j) ⟨o.gen + 1, .arr false false (es α) (L.map enc)⟩)
    | none => none := by
  simp only [exO, y1w, y3u, okOC, if_true, place, List.nil_append]
  cases h[fb + j]? <;> rfl
@[simp] theorem y23i {α : Type} [Cel α] (fb : Nat) (j : Option Nat) (h : Heap) : y1w fb j (exO (none : Option (List α))).objs [] h = some ([], h) := rfl
@[simp] theorem y1o3 {α : Type} [Cel α] (id g : Nat) (L : List α) : reloc [(id, g)] (exO (some L)).v = .ls id g (es α) 0 L.length := rfl
@[simp] theorem y21e {α : Type} [Cel α] (tab : List (Nat × Nat)) : reloc tab (exO (none : Option (List α))).v = .nils := rfl
theorem y19c {α : Type} [Cel α] (o : Option (List α)) : (exO o).fresh = (lst o).all scal := by cases o <;> rfl
theorem y5g {α : Type} [Cel α] {h : Heap} {id g : Nat} {L : List α} (hr : yk h id g = some (false, es α, L.map enc)) : yi h (.ls id g (es α) 0 L.length) = some (exO (some L)) := by
  rw [ydr, hr]
  simp [exO]
attribute [simp] newC y6z y2z place
@[simp] theorem ya7 (g : Nat) (b f : Bool) (e : Nat) (r : List (List AV)) (t : Heap) : yk (⟨g, .arr b f e r⟩ :: t) 0 g = some (f, e, r) := by simp [yk, y2w]
@[simp] theorem yju (o : AO) (t : Heap) (i g : Nat) : yk (o :: t) (i + 1) g = yk t i g := rfl
@[simp] theorem y21w (g : Nat) (b f : Bool) (e : Nat) (r r' : List (List AV)) (t : Heap) : y1e (⟨g, .arr b f e r⟩ :: t) 0 r' = ⟨g, .arr b f e r'⟩ :: t := rfl
@[simp] theorem y20u (o : AO) (t : Heap) (i : Nat) (r : List (List AV)) : y1e (o :: t) (i + 1) r = o :: y1e t i r := by
  simp only [y1e, List.getElem?_cons_succ]
  split <;> simp_all
@[simp] theorem y2l (n id g i off : Nat) (v : AV) (h : Heap) : evSt n (.lp id g i off) v h = match yk h id g with
    | some (false, _, rows) => match rows[i]? with
      | some row => if (cellsOf v).length = n ∧ off + n ≤ row.length ∧ (cellsOf v).all yx = true then some (.tup [], y1e h id (rows.set i (yr off (cellsOf v) row))) else none
      | none => none
    | _ => none := rfl
@[simp] theorem ybw {vs row : List AV} (h : row.length = vs.length) : yr 0 vs row = vs := by
  simp [yr, ← h]
section
variable (x : Ins) (n : Int) (s : List UInt8) (o : Option (List Int))
@[simp] theorem y27b : yr 0 [.int .i64 n] (enc x) = enc { x with op := n } := rfl
@[simp] theorem y25n : yr 1 [.int .i64 n] (enc x) = enc { x with d := n } := rfl
@[simp] theorem y27z : yr 2 [.int .i64 n] (enc x) = enc { x with a := n } := rfl
@[simp] theorem y25l : yr 3 [.int .i64 n] (enc x) = enc { x with b := n } := rfl
@[simp] theorem y26r : yr 4 [.int .i64 n] (enc x) = enc { x with c := n } := rfl
@[simp] theorem y270 : yr 5 [.int .i64 n] (enc x) = enc { x with n := n } := rfl
@[simp] theorem y27p : yr 6 [.int .i64 n] (enc x) = enc { x with t := n } := rfl
@[simp] theorem y273 : yr 7 [.str s] (enc x) = enc { x with s := s } := rfl
@[simp] theorem y27o : yr 8 [slA o] (enc x) = enc { x with args := o } := rfl
end
def yh0 (x : Ins) (v : AV) : List AV := [.int .i64 x.op, .int .i64 x.d, .int .i64 x.a, .int .i64 x.b, .int .i64 x.c, .int .i64 x.n, .int .i64 x.t, .str x.s, v]
@[simp] theorem y24e (x : Ins) (id g es off len : Nat) : yr 8 [.ls id g es off len] (enc x) = yh0 x (.ls id g es off len) := rfl
@[simp] theorem y24u (x : Ins) : yr 8 [.nils] (enc x) = enc { x with args := none } := rfl
@[simp] theorem y1yp (x : Ins) (v : AV) : (yh0 x v).length = 9 := rfl
@[simp] theorem y1yw (x : Ins) (v : AV) : y43 true 9 (yh0 x v) = some (.agg (yh0 x v)) := rfl
@[simp] theorem y1yt (x : Ins) (w : AV) : (∀ v, v ∈ yh0 x w → yx v = true) ↔ yx w = true := by simp [yh0]
def ynl (r : Ex AV) (v : AV) : Prop := ∃ q, fz (y1q r.objs) y19 r.v = some q ∧ q.v = v
@[simp] theorem y2v (agg : Bool) (n id g i off : Nat) (h : Heap) : evLd agg n (.lp id g i off) h = match yk h id g with
    | some (_, _, rows) => match rows[i]? with
      | some row => y43 agg n (row.drop off)
      | none => none
    | none => none := rfl
end Go.Vm
namespace Go.Vm
open Cel
def inI (n : Int) : Prop := -9223372036854775808 ≤ n ∧ n ≤ 9223372036854775807
abbrev tyI : Ty := .int .i64
theorem y1wu {cs : List AV} (h : tyI.has cs) : ∃ n : Int, cs = [.int .i64 n] ∧ inI n := by
  obtain ⟨n, rfl, h1, h2⟩ := h
  exact ⟨n, rfl, by simpa [IntKind.min, IntKind.max, IntKind.signed, IntKind.bits] using h1, by simpa [IntKind.min, IntKind.max, IntKind.signed, IntKind.bits] using h2⟩
structure InsOk (x : Ins) : Prop where
  op : inI x.op
  d : inI x.d
  a : inI x.a
  b : inI x.b
  c : inI x.c
  n : inI x.n
  t : inI x.t
  s : x.s.length ≤ reachBytes
  len : (lst x.args).length * 8 ≤ reachBytes
  args : ∀ r ∈ lst x.args, inI r
structure RowOk (r : Row) : Prop where
  f : inI r.f
  t : inI r.t
  a : inI r.at_
  c : r.c.length ≤ reachBytes
structure FnIn (f : Fn) : Prop where
  regs : (lst f.regs).length * 8 ≤ reachBytes
  regI : ∀ x ∈ lst f.regs, inI x
  params : (lst f.params).length * 8 ≤ reachBytes
  parI : ∀ x ∈ lst f.params, inI x
  ret : inI f.ret
  code : (lst f.code).length * 96 ≤ reachBytes
  insI : ∀ x ∈ lst f.code, InsOk x
  rows : (lst f.rows).length * 40 ≤ reachBytes
  rowI : ∀ x ∈ lst f.rows, RowOk x
end Go.Vm
namespace Go.Vm
def calls (o : Int) : Bool := decide (23 ≤ o) && decide (o ≤ 26)
def ends (o : Int) : Bool := decide (o = 27) || decide (o = 30) || decide (o = 31)
def leads (o : Int) : Bool := decide (o = 27) || decide (o = 28) || decide (o = 29)
def throws (o : Int) : Bool := (decide (7 ≤ o) && decide (o ≤ 12)) || decide (o = 20) || decide (o = 21) || decide (o = 31) || calls o
def writes (o : Int) : Bool := decide (o ∈ [1, 2, 3, 4, 5, 6, 13, 15, 16, 18, 20, 21, 22, 32]) || calls o
def defr (x : Ins) : Int := if writes x.op then x.d else -1
def reads (o : Int) : Nat :=
  if o ∈ [4, 6, 7, 8, 10, 12, 15, 16, 19, 21, 22, 31] then 1 else if o ∈ [5, 9, 11, 13, 17, 28] then 2 else if o = 14 then 3 else 0
def uses (x : Ins) : Option (List Int) :=
  if calls x.op then x.args
  else if x.op = 29 then (if x.b < 0 then some [x.a] else some [x.a, x.b])
  else if x.op = 30 then (if 0 ≤ x.a then some [x.a] else none)
  else if reads x.op = 1 then some [x.a] else if reads x.op = 2 then some [x.a, x.b] else if reads x.op = 3 then some [x.a, x.b, x.c] else none
theorem ydc (o : Int) : o = 1 ∨ o = 2 ∨ o = 3 ∨ o = 4 ∨ o = 5 ∨ o = 6 ∨ o = 7 ∨ o = 8 ∨ o = 9 ∨ o = 10 ∨ o = 11 ∨ o = 12 ∨ o = 13 ∨ o = 14 ∨ o = 15 ∨ o = 16 ∨ o = 17 ∨ o = 18 ∨ o = 19 ∨ o = 20 ∨ o = 21 ∨ o = 22 ∨ o = 23 ∨ o = 24 ∨ o = 25 ∨ o = 26 ∨ o = 27 ∨ o = 28 ∨ o = 29 ∨ o = 30 ∨ o = 31 ∨ o = 32 ∨ o = 33 ∨ o < 1 ∨ 33 < o := by omega
theorem lo_f {o : Int} (h : o < 1) : (¬ o = 1 ∧ ¬ o = 2 ∧ ¬ o = 3 ∧ ¬ o = 4 ∧ ¬ o = 5 ∧ ¬ o = 6 ∧ ¬ o = 7 ∧ ¬ o = 8 ∧ ¬ o = 9 ∧ ¬ o = 10 ∧ ¬ o = 11 ∧ ¬ o = 12 ∧ ¬ o = 13 ∧ ¬ o = 14 ∧ ¬ o = 15 ∧ ¬ o = 16 ∧ ¬ o = 17 ∧ ¬ o = 18 ∧ ¬ o = 19 ∧ ¬ o = 20 ∧ ¬ o = 21 ∧ ¬ o = 22 ∧ ¬ o = 23 ∧ ¬ o = 24 ∧ ¬ o = 25 ∧ ¬ o = 26 ∧ ¬ o = 27 ∧ ¬ o = 28 ∧ ¬ o = 29 ∧ ¬ o = 30 ∧ ¬ o = 31 ∧ ¬ o = 32 ∧ ¬ o = 33) ∧ ¬ 7 ≤ o ∧ ¬ 23 ≤ o ∧ ¬ 1 ≤ o := by omega
theorem hi_f {o : Int} (h : 33 < o) : (¬ o = 1 ∧ ¬ o = 2 ∧ ¬ o = 3 ∧ ¬ o = 4 ∧ ¬ o = 5 ∧ ¬ o = 6 ∧ ¬ o = 7 ∧ ¬ o = 8 ∧ ¬ o = 9 ∧ ¬ o = 10 ∧ ¬ o = 11 ∧ ¬ o = 12 ∧ ¬ o = 13 ∧ ¬ o = 14 ∧ ¬ o = 15 ∧ ¬ o = 16 ∧ ¬ o = 17 ∧ ¬ o = 18 ∧ ¬ o = 19 ∧ ¬ o = 20 ∧ ¬ o = 21 ∧ ¬ o = 22 ∧ ¬ o = 23 ∧ ¬ o = 24 ∧ ¬ o = 25 ∧ ¬ o = 26 ∧ ¬ o = 27 ∧ ¬ o = 28 ∧ ¬ o = 29 ∧ ¬ o = 30 ∧ ¬ o = 31 ∧ ¬ o = 32 ∧ ¬ o = 33) ∧ 7 ≤ o ∧ 23 ≤ o ∧ ¬ o ≤ 12 ∧ ¬ o ≤ 26 ∧ 1 ≤ o := by omega
end Go.Vm
namespace Go.Vm
abbrev Fx := List Int
def unq (r : Int) (s : Fx) : Fx := s.map fun q => if q = r then -1 else q
def wrtL (s : Fx) (r : Int) : Fx := unq r (s.set r.toNat (-1))
def behM (s : Fx) (x : Ins) : Fx :=
  if defr x < 0 ∨ (x.op = 4 ∧ x.a = defr x) then s
  else if x.op = 4 then
    (if 0 ≤ s.getD x.a.toNat (-1) ∧ s.getD x.a.toNat (-1) ≠ defr x then (wrtL s (defr x)).set (defr x).toNat (s.getD x.a.toNat (-1))
     else if s.getD x.a.toNat (-1) = defr x then s else (wrtL s (defr x)).set (defr x).toNat x.a)
  else (wrtL s (defr x)).set (defr x).toNat (-1)
end Go.Vm
namespace Go.Vm
end Go.Vm
namespace Go.Vm
open Cel
attribute [local simp] y9 y1x yt
def okB (b : UInt8) : Bool := (decide (97 ≤ b.toNat) && decide (b.toNat ≤ 122)) || (decide (65 ≤ b.toNat) && decide (b.toNat ≤ 90)) || (decide (48 ≤ b.toNat) && decide (b.toNat ≤ 57)) || decide (b.toNat = 95) || decide (b.toNat = 36) || decide (b.toNat = 47)
def yew (s : List UInt8) : Bool := decide (1 ≤ s.length) && decide (s.length ≤ 60) && s.all okB
theorem y177 (s : List UInt8) (i : Nat) (hi : i < s.length) (v18 : AV) :
    q7_4 (.bool false) (.ls 0 1 1 0 s.length) v18 (.int .i64 i) [⟨1, .arr false false 1 (s.map fun b => [.int .u8 b.toNat])⟩] =
      if okB s[i] then q7_3 (.bool false) (.ls 0 1 1 0 s.length) v18 (.int .i64 i) [⟨1, .arr false false 1 (s.map fun b => [.int .u8 b.toNat])⟩] else some ⟨.bool false, [], true, [], []⟩ := by
  have hc : ((i : Int) < (s.length : Int)) := by omega
  generalize hb : s[i].toNat = n
  have e : (s.map fun b => ([.int .u8 b.toNat] : List AV))[i]? = some [.int .u8 (n : Int)] := by
    rw [List.getElem?_map, List.getElem?_eq_getElem hi, ← hb]; rfl
  have ho : okB s[i] = ((decide (97 ≤ n) && decide (n ≤ 122)) || (decide (65 ≤ n) && decide (n ≤ 90)) || (decide (48 ≤ n) && decide (n ≤ 57)) || decide (n = 95) || decide (n = 36) || decide (n = 47)) := by
    rw [okB, hb]
  rw [ho]
  have c1 : ∀ k : Nat, ((k : Int) ≤ (n : Int)) = (k ≤ n) := fun k => by simp
  have f1 : ((97 : Int) ≤ (n : Int)) = (97 ≤ n) := c1 97
  have f2 : ((65 : Int) ≤ (n : Int)) = (65 ≤ n) := c1 65
  have f3 : ((48 : Int) ≤ (n : Int)) = (48 ≤ n) := c1 48
  have g1 : ((n : Int) ≤ (122 : Int)) = (n ≤ 122) := by simp; omega
  have g2 : ((n : Int) ≤ (90 : Int)) = (n ≤ 90) := by simp; omega
  have g3 : ((n : Int) ≤ (57 : Int)) = (n ≤ 57) := by simp; omega
  have d1 : ((n : Int) = (95 : Int)) = (n = 95) := by simp; omega
  have d2 : ((n : Int) = (36 : Int)) = (n = 36) := by simp; omega
  have d3 : ((n : Int) = (47 : Int)) = (n = 47) := by simp; omega
  have step : ∀ (b1 b2 b3 b4 b5 b6 b7 b8 b9 : Bool), decide (97 ≤ n) = b1 → decide (n ≤ 122) = b2 → decide (65 ≤ n) = b3 → decide (n ≤ 90) = b4 → decide (48 ≤ n) = b5 → decide (n ≤ 57) = b6 → decide (n = 95) = b7 → decide (n = 36) = b8 → decide (n = 47) = b9 →
      q7_4 (.bool false) (.ls 0 1 1 0 s.length) v18 (.int .i64 i) [⟨1, .arr false false 1 (s.map fun b => [.int .u8 b.toNat])⟩] =
      if (b1 && b2) || (b3 && b4) || (b5 && b6) || b7 || b8 || b9 then q7_3 (.bool false) (.ls 0 1 1 0 s.length) v18 (.int .i64 i) [⟨1, .arr false false 1 (s.map fun b => [.int .u8 b.toNat])⟩] else some ⟨.bool false, [], true, [], []⟩ := by
    intro b1 b2 b3 b4 b5 b6 b7 b8 b9 h1 h2 h3 h4 h5 h6 h7 h8 h9
    rw [q7_4]
    have e0 : yu 1 (.ls 0 1 1 0 s.length) (.int .i64 i) = some (.lp 0 1 i 0) := by simp [yu, hc, hi]
    have tri : ∀ a b : Bool, (a = false) ∨ (a = true ∧ b = false) ∨ (a = true ∧ b = true) := by intro a b; cases a <;> cases b <;> simp
    have l1 : y6 .geq (.int .u8 (n : Int)) (.int .u8 97) = some (.bool b1) := by rw [yfp]; simp only [f1, h1]
    have l2 : y6 .leq (.int .u8 (n : Int)) (.int .u8 122) = some (.bool b2) := by rw [yfv]; simp only [g1, h2]
    have l3 : y6 .geq (.int .u8 (n : Int)) (.int .u8 65) = some (.bool b3) := by rw [yfp]; simp only [f2, h3]
    have l4 : y6 .leq (.int .u8 (n : Int)) (.int .u8 90) = some (.bool b4) := by rw [yfv]; simp only [g2, h4]
    have l5 : y6 .geq (.int .u8 (n : Int)) (.int .u8 48) = some (.bool b5) := by rw [yfp]; simp only [f3, h5]
    have l6 : y6 .leq (.int .u8 (n : Int)) (.int .u8 57) = some (.bool b6) := by rw [yfv]; simp only [g3, h6]
    have l7 : y6 .eql (.int .u8 (n : Int)) (.int .u8 95) = some (.bool b7) := by rw [yy]; simp only [d1, h7]
    have l8 : y6 .eql (.int .u8 (n : Int)) (.int .u8 36) = some (.bool b8) := by rw [yy]; simp only [d2, h8]
    have l9 : y6 .eql (.int .u8 (n : Int)) (.int .u8 47) = some (.bool b9) := by rw [yy]; simp only [d3, h9]
    clear h1 h2 h3 h4 h5 h6 h7 h8 h9
    simp only [e0, y4, y2v, ya7, e, List.drop_zero, y5b, List.head?_cons, l1]
    generalize q7_3 (.bool false) (.ls 0 1 1 0 s.length) v18 (.int .i64 i) [⟨1, .arr false false 1 (s.map fun b => [.int .u8 b.toNat])⟩] = Z
    rcases tri b1 b2 with rfl | ⟨rfl, rfl⟩ | ⟨rfl, rfl⟩ <;> simp only [l2, ybg, ynq, yzo, ygc, ygp, y4, y2o, y33, y3f, y1h, y1t, l3, y4w] <;> try (simp; done)
    all_goals rcases tri b3 b4 with rfl | ⟨rfl, rfl⟩ | ⟨rfl, rfl⟩ <;> simp only [l4, ybg, ynq, yzo, ygc, ygp, y4, y2o, y33, y3f, y1h, y1t, l5, y4w] <;> try (simp; done)
    all_goals rcases tri b5 b6 with rfl | ⟨rfl, rfl⟩ | ⟨rfl, rfl⟩ <;> simp only [l6, ybg, ynq, yzo, ygc, ygp, y4, y2o, y33, y3f, y1h, y1t, l7, y4w] <;> try (simp; done)
    all_goals cases b7 <;> simp only [ybg, ynq, yzo, ygc, ygp, y4, y2o, y33, y3f, y1h, y1t, l8, y4w] <;> try (simp; done)
    all_goals cases b8 <;> simp only [ybg, ynq, yzo, ygc, ygp, y4, y2o, y33, y3f, y1h, y1t, l9, y4w] <;> try (simp; done)
    all_goals cases b9 <;> simp
  exact step _ _ _ _ _ _ _ _ _ rfl rfl rfl rfl rfl rfl rfl rfl rfl
end Go.Vm
namespace Go.Vm
open Cel
attribute [local simp] y9 y1x yt
theorem y11z (s : List UInt8) (hl : s.length ≤ 60) : ∀ (d i : Nat), i + d = s.length →
    y1ek (.bool false) (.ls 0 1 1 0 s.length) (.int .i64 s.length) (.int .i64 i) [⟨1, .arr false false 1 (s.map fun b => [.int .u8 b.toNat])⟩] = some ⟨.bool ((s.drop i).all okB), [], true, [], []⟩ := by
  intro d
  induction d with
  | zero =>
    intro i hi
    have e1 : s.drop i = [] := List.drop_eq_nil_of_le (by omega)
    have hc : ¬ ((i : Int) < (s.length : Int)) := by omega
    rw [yqp, e1]
    simp [q7_6, q7_5, q7_1, hc]
  | succ d ih =>
    intro i hi
    have hlt : i < s.length := by omega
    have hc : ((i : Int) < (s.length : Int)) := by omega
    have := ih (i + 1) (by omega)
    push_cast at this
    have e1 : (s.drop i).all okB = (okB s[i] && (s.drop (i + 1)).all okB) := by rw [List.drop_eq_getElem_cons hlt, List.all_cons]
    have hw : IntKind.wrap .i64 ((i : Int) + 1) = (i : Int) + 1 := y22 (by omega) (by omega)
    rw [yqp, e1]
    simp only [q7_6, q7_5, yq, y4, hc, decide_true, y1h, y177 s i hlt]
    cases okB s[i]
    · simp
    · simp [q7_3, hw, this]
@[simp] theorem y28q (s : List UInt8) : (yb E).p 60 [.str s, .bool false] = some ⟨.bool (yew s), [], true, [], []⟩ := by
  rw [x_q7]
  by_cases h1 : ((s.length : Int) < 1)
  · have : ¬ 1 ≤ s.length := by omega
    simp [q7_1, q7_3, q7_4, q7_5, q7_6, q7_8, y13a, y1co, h1, yew, this]
  by_cases h2 : ((60 : Int) < (s.length : Int))
  · have : ¬ s.length ≤ 60 := by omega
    simp [q7_1, q7_3, q7_4, q7_5, q7_6, q7_8, y13a, y1co, h1, h2, yew, this]
  · have a1 : 1 ≤ s.length := by omega
    have a2 : s.length ≤ 60 := by omega
    have := y11z s a2 s.length 0 (by omega)
    simp only [List.drop_zero] at this
    simp only [yew, a1, a2, decide_true, Bool.true_and, ← this]
    simp [y1co, y13a, q7_8, h1, h2, s2bC]
def lead : List UInt8 → Nat
  | [] => 0
  | c :: r => if c = 91 then lead r + 1 else 0
theorem yjd : ∀ s : List UInt8, lead s ≤ s.length
  | [] => Nat.le_refl _
  | c :: r => by
    have := yjd r
    simp only [lead, List.length_cons]
    split <;> omega
theorem y1c9 : ∀ {s : List UInt8} {i : Nat}, i < lead s → s[i]? = some 91
  | [], i, h => by simp [lead] at h
  | c :: r, i, h => by
    simp only [lead] at h
    split at h
    · rename_i e
      cases i with
      | zero => simp [e]
      | succ i => simpa using y1c9 (s := r) (by omega)
    · omega
theorem y13p : ∀ {s : List UInt8} {c : UInt8}, s[lead s]? = some c → c ≠ 91
  | [], c, h => by simp at h
  | d :: r, c, h => by
    simp only [lead] at h
    split at h
    · exact y13p (s := r) (by simpa using h)
    · rename_i e; simp at h; rw [← h]; exact e
def yzt (s : List UInt8) : Nat :=
  if 8 < lead s ∨ lead s = s.length then 0
  else if s[lead s]? = some 73 ∨ s[lead s]? = some 74 then lead s + 1
  else if s[lead s]? = some 76 then
    (if (s.drop (lead s + 1)).findIdx (· == 59) < (s.drop (lead s + 1)).length ∧ yew ((s.take (lead s + 1 + (s.drop (lead s + 1)).findIdx (· == 59))).drop (lead s + 1)) = true then lead s + 1 + (s.drop (lead s + 1)).findIdx (· == 59) + 1 else 0)
  else 0
theorem ixstr {s : List UInt8} {i : Nat} {c : UInt8} (h : s[i]? = some c) : y87 (.str s) (.int .i64 i) = some (.int .u8 c.toNat) := by
  simp [y87, h]
theorem y6o (c : UInt8) (k : UInt8) : ((c.toNat : Int) = (k.toNat : Int)) ↔ c = k := by
  rw [Int.ofNat_inj]; exact ⟨fun h => UInt8.toNat_inj.1 h, fun h => by rw [h]⟩
theorem y17o (s : List UInt8) (hs : s.length ≤ 9223372036854775807) (h : Heap) : ∀ (d i : Nat), i + d = lead s → yn6 (.str s) (.int .i64 i) h = ygk (.str s) (.int .i64 (lead s)) h := by
  intro d
  induction d with
  | zero =>
    intro i hi
    obtain rfl : i = lead s := by omega
    rw [yl2]
    have := yjd s
    by_cases hc : lead s < s.length
    · have e := List.getElem?_eq_getElem hc
      have hne := y13p e
      have hc' : ((lead s : Int) < (s.length : Int)) := by omega
      have hb : ¬ ((s[lead s].toNat : Int) = 91) := fun hh => hne ((y6o _ 91).1 hh)
      simp [y1es, hc', ixstr e, hb]
    · have hc' : ¬ ((lead s : Int) < (s.length : Int)) := by omega
      simp [y1es, hc']
  | succ d ih =>
    intro i hi
    have e := y1c9 (s := s) (i := i) (by omega)
    have := yjd s
    have hc' : ((i : Int) < (s.length : Int)) := by omega
    have ih := ih (i + 1) (by omega)
    push_cast at ih
    rw [yl2]
    simp [y1es, hc', ixstr e, y1ti, y2j (show i < s.length by omega) hs, ih]
theorem y0w (s : List UInt8) (hs : s.length ≤ 9223372036854775807) (n : Nat) (h : Heap) : ∀ (d i : Nat), n + 1 ≤ i → i + d = s.length →
    y195 (.str s) (.int .i64 n) (.int .i64 i) h =
      some ⟨.int .i64 (if (s.drop i).findIdx (· == 59) < (s.drop i).length ∧ yew ((s.take (i + (s.drop i).findIdx (· == 59))).drop (n + 1)) = true then (i + (s.drop i).findIdx (· == 59) + 1 : Nat) else (0 : Nat)), [], true, [], []⟩ := by
  intro d
  induction d with
  | zero =>
    intro i h1 hi
    rw [ypf]
    have e1 : s.drop i = [] := List.drop_eq_nil_of_le (by omega)
    have hc : ¬ ((i : Int) < (s.length : Int)) := by omega
    simp [yzf, q9_1, hc, e1]
  | succ d ih =>
    intro i h1 hi
    rw [ypf]
    have hlt : i < s.length := by omega
    have e := List.getElem?_eq_getElem hlt
    have hc : ((i : Int) < (s.length : Int)) := by omega
    have hd : s.drop i = s[i] :: s.drop (i + 1) := List.drop_eq_getElem_cons hlt
    by_cases hb : s[i] = 59
    · have hb' : ((s[i].toNat : Int) = 59) := (y6o _ 59).2 hb
      have hf : (s.drop i).findIdx (· == 59) = 0 := by rw [hd, List.findIdx_cons]; simp [hb]
      have hw1 : IntKind.wrap .i64 ((n : Int) + 1) = (n : Int) + 1 := y2j (show n < s.length by omega) hs
      have hsl : y1h4 (.str s) (some (.int .i64 ((n : Int) + 1))) (some (.int .i64 (i : Int))) = some (.str ((s.take i).drop (n + 1))) := by
        have a1 : ((0 : Int) ≤ (i : Int) ∧ (i : Int) ≤ (s.length : Int)) := by omega
        have a2 : ((0 : Int) ≤ (n : Int) + 1 ∧ (n : Int) + 1 ≤ (i : Int)) := by omega
        simp only [y1h4, yao, yla, if_pos a1, Int.toNat_natCast, if_pos a2]
        rfl
      rw [hf]
      have hlen : 0 < (s.drop i).length := by rw [List.length_drop]; omega
      cases hn : yew ((s.take i).drop (n + 1)) with
      | true =>
        simp only [yzf, q9_7, q9_6, q9_5, yed, y4, yq, hc, decide_true, y1h, ixstr e, yy, hb', y1f, hw1, hsl]
        simp [hn, hlt, y2j hlt hs]
        omega
      | false =>
        simp only [yzf, q9_7, q9_6, q9_5, yed, y4, yq, hc, decide_true, y1h, ixstr e, yy, hb', y1f, hw1, hsl]
        simp [hn, q9_4]
    · have hb' : ¬ ((s[i].toNat : Int) = 59) := fun hh => hb ((y6o _ 59).1 hh)
      have hf : (s.drop i).findIdx (· == 59) = (s.drop (i + 1)).findIdx (· == 59) + 1 := by
        rw [hd, List.findIdx_cons]
        have : (s[i] == 59) = false := by simpa using hb
        rw [this]; rfl
      have hl : (s.drop i).length = (s.drop (i + 1)).length + 1 := by rw [hd]; rfl
      have ih := ih (i + 1) (by omega) (by omega)
      push_cast at ih
      rw [hf, hl]
      have e2 : i + ((s.drop (i + 1)).findIdx (· == 59) + 1) = i + 1 + (s.drop (i + 1)).findIdx (· == 59) := by omega
      rw [e2]
      simp only [yzf, q9_7, q9_6, q9_3, yed, y4, yq, hc, decide_true, y1h, y1t, ixstr e, yy, hb', decide_false, y1f, y2j hlt hs, ih]
      simp only [Nat.add_lt_add_iff_right]
      push_cast
      rfl
@[simp] theorem y23v (s : List UInt8) (hs : s.length ≤ 9223372036854775807) : (yb E).p 44 [.str s] = some ⟨.int .i64 (yzt s), [], true, [], []⟩ := by
  rw [x_q9]
  have h0 := y17o s hs [] (lead s) 0 (by omega)
  simp only [Int.ofNat_zero] at h0
  have hle := yjd s
  have key : ygk (.str s) (.int .i64 (lead s)) [] = some ⟨.int .i64 (yzt s), [], true, [], []⟩ := by
    unfold yzt
    by_cases h8 : 8 < lead s
    · have h8' : ((8 : Int) < (lead s : Int)) := by omega
      simp [ygk, h8', h8]
    by_cases hl : lead s = s.length
    · have h8' : ¬ ((8 : Int) < (lead s : Int)) := by omega
      have hl' : ((lead s : Int) = (s.length : Int)) := by omega
      have h9' : ¬ ((8 : Int) < (s.length : Int)) := by omega
      simp [ygk, h8', h9', hl', hl]
    · have h8' : ¬ ((8 : Int) < (lead s : Int)) := by omega
      have hl' : ¬ ((lead s : Int) = (s.length : Int)) := by omega
      have hlt : lead s < s.length := by omega
      have e := List.getElem?_eq_getElem hlt
      rw [if_neg (by simp [h8, hl]), e]
      have hw := y2j hlt hs
      by_cases c1 : s[lead s] = 73
      · have c1' : ((s[lead s].toNat : Int) = 73) := (y6o _ 73).2 c1
        simp [ygk, yzx, yyw, yow, h8', hl', ixstr e, c1', c1, hw]
      by_cases c2 : s[lead s] = 74
      · have c2' : ((s[lead s].toNat : Int) = 74) := (y6o _ 74).2 c2
        simp [ygk, yzx, yyw, yow, h8', hl', ixstr e, c2', c2, hw]
      have c1' : ¬ ((s[lead s].toNat : Int) = 73) := fun hh => c1 ((y6o _ 73).1 hh)
      have c2' : ¬ ((s[lead s].toNat : Int) = 74) := fun hh => c2 ((y6o _ 74).1 hh)
      by_cases c3 : s[lead s] = 76
      · have c3' : ((s[lead s].toNat : Int) = 76) := (y6o _ 76).2 c3
        have := y0w s hs (lead s) [] _ (lead s + 1) (Nat.le_refl _) (show lead s + 1 + (s.length - (lead s + 1)) = s.length by omega)
        push_cast at this
        simp [ygk, yzx, yyw, yow, y1l5, y1kw, y1ui, h8', hl', ixstr e, c1', c2', c3', c1, c2, c3, hw, this]
        split <;> simp
      · have c3' : ¬ ((s[lead s].toNat : Int) = 76) := fun hh => c3 ((y6o _ 76).1 hh)
        simp [ygk, yzx, yyw, yow, y1l5, y1kw, q9_1, h8', hl', ixstr e, c1', c2', c3', c1, c2, c3]
  rw [← key, ← h0]
  simp [y1r8, y1yf]
def yiu (s : List UInt8) : Bool := decide (s ≠ []) && decide (yzt s = s.length)
@[simp] theorem y1zd (s : List UInt8) (hs : s.length ≤ 9223372036854775807) : (yb E).p 37 [.str s] = some ⟨.bool (yiu s), [], true, [], []⟩ := by
  rw [x_q8]
  have h := y23v s hs
  by_cases h1 : s = []
  · simp [q8_1, h1, yiu]
  · have e : ((yzt s : Int) = (s.length : Int)) ↔ yzt s = s.length := by omega
    simp [q8_1, h1, yiu, h, e]
end Go.Vm
namespace Go.Vm
open Cel
attribute [local simp] y9 y1x yt
def numK (c : Int) : Int × Int × Int :=
  if c ∈ [96, 100, 104, 108, 112, 120, 122, 124, 126, 128, 130] then (1, 1, 1)
  else if c ∈ [97, 101, 105, 109, 113, 127, 129, 131] then (2, 2, 2)
  else if c ∈ [121, 123, 125] then (2, 1, 2)
  else if c = 148 then (2, 2, 1)
  else if c ∈ [116, 145, 146, 147] then (1, 0, 1)
  else if c = 117 then (2, 0, 2)
  else if c = 133 then (1, 0, 2)
  else if c = 136 then (2, 0, 1)
  else (0, 0, 0)
def y17k (r : Option (Ex AV)) (k : Int × Int × Int) : Bool :=
  match r with
  | some ⟨.tup [.int .i64 a, .int .i64 b, .int .i64 c], [], true, [], []⟩ => a == k.1 && b == k.2.1 && c == k.2.2
  | _ => false
theorem y1bg {r : Option (Ex AV)} {k : Int × Int × Int} (h : y17k r k = true) : r = some ⟨.tup [.int .i64 k.1, .int .i64 k.2.1, .int .i64 k.2.2], [], true, [], []⟩ := by
  unfold y17k at h
  split at h
  · simp only [Bool.and_eq_true, beq_iff_eq] at h
    obtain ⟨⟨h1, h2⟩, h3⟩ := h
    rw [h1, h2, h3]
  · cases h
theorem y1dw {n : Nat} {f : Nat → Bool} (h : ((List.range n).all f) = true) (i : Nat) (hi : i < n) : f i = true := by
  rw [List.all_eq_true] at h
  exact h i (List.mem_range.2 hi)
theorem y244 : ((List.range 60).all fun i => y17k ((both E 30).1.p 50 [.int .i64 (95 + i)]) (numK (95 + i))) = true := by kernel_rfl
theorem y1jm {c : Int} (h : c < 96 ∨ 148 < c) : numK c = (0, 0, 0) := by
  simp only [numK, List.mem_cons, List.not_mem_nil, or_false]
  repeat' split
  all_goals first | rfl | omega
theorem y1wq (c : Int) : (yb E).p 50 [.int .i64 c] = some ⟨.tup [.int .i64 (numK c).1, .int .i64 (numK c).2.1, .int .i64 (numK c).2.2], [], true, [], []⟩ := by
  by_cases h : c < 96 ∨ 148 < c
  · rw [y1jm h, y26u]
    have h2 : ∀ k : Int, 96 ≤ k → k ≤ 148 → ¬ c = k := by omega
    simp [y1tg, yzz, y1w1, y1tt, y1vk, y0x, y1rk, ygj, y1tj, y5p, y1bi, y123, y11s, h2]
    rfl
  · have := y1dw y244 (c - 95).toNat (by omega)
    have e : (95 + ((c - 95).toNat : Int)) = c := by omega
    simp only [e] at this
    exact y20q 30 (y1bg this)
end Go.Vm
namespace Go.Vm
def yl (x : Ins) : Int × Int × Int × Int × Bool :=
  match x.op with
  | 1 => (0, -1, -1, -1, true)
  | 2 => (3, -1, -1, -1, true)
  | 3 => (3, -1, -1, -1, true)
  | 4 => (0, 0, -1, -1, true)
  | 5 => ((numK x.n).2.2, (numK x.n).1, (numK x.n).2.1, -1, decide (¬ (numK x.n).2.1 = 0))
  | 6 => ((numK x.n).2.2, (numK x.n).1, -1, -1, decide (¬ (numK x.n).1 = 0) && decide ((numK x.n).2.1 = 0))
  | 7 => (-1, 0, -1, -1, true)
  | 8 => (-1, 3, -1, -1, true)
  | 9 => (-1, 3, 1, -1, true)
  | 10 => (-1, 1, -1, -1, true)
  | 11 => (-1, 3, 3, -1, true)
  | 12 => (-1, 3, -1, -1, yiu x.s)
  | 13 => (0, 3, 1, -1, true)
  | 14 => (-1, 3, 1, 0, true)
  | 15 => (1, 3, -1, -1, true)
  | 16 => (0, 3, -1, -1, decide (0 ≤ x.n))
  | 17 => (-1, 3, 0, -1, decide (0 ≤ x.n))
  | 18 => (0, -1, -1, -1, true)
  | 19 => (-1, 0, -1, -1, true)
  | 20 => (3, -1, -1, -1, true)
  | 21 => (3, 1, -1, -1, yiu x.s)
  | 22 => (1, 3, -1, -1, yiu x.s)
  | 23 => (if x.d = -1 then -1 else 0, -1, -1, -1, decide (0 ≤ x.n) && decide ((lst x.args).length ≤ 21))
  | 24 => (if x.d = -1 then -1 else 0, -1, -1, -1, decide (0 < (lst x.args).length) && decide (0 ≤ x.n) && decide ((lst x.args).length ≤ 21))
  | 25 => (if x.d = -1 then -1 else 0, -1, -1, -1, decide (0 < (lst x.args).length) && decide ((lst x.args).length ≤ 21))
  | 26 => (if x.d = -1 then -1 else 0, -1, -1, -1, decide (0 ≤ x.n) && decide ((lst x.args).length ≤ 21))
  | 27 => (-1, -1, -1, -1, true)
  | 28 => (-1, 1, 1, -1, decide (0 ≤ x.n) && decide (x.n ≤ 5))
  | 29 => (-1, 3, if x.b = -1 then -1 else 3, -1, decide (x.n = 0) || decide (x.n = 1))
  | 30 => (-1, if x.a = -1 then -1 else 0, -1, -1, true)
  | 31 => (-1, 3, -1, -1, true)
  | 32 => (3, -1, -1, -1, true)
  | 33 => (-1, -1, -1, -1, true)
  | _ => (0, 0, 0, 0, false)
def exK (k : Int × Int × Int × Int × Bool) : Ex AV := ⟨.tup [.agg [.int .i64 k.1, .int .i64 k.2.1, .int .i64 k.2.2.1, .int .i64 k.2.2.2.1], .bool k.2.2.2.2], [], true, [], []⟩
theorem yzl {x : Ins} (h : x.op < 1 ∨ 33 < x.op) : yl x = (0, 0, 0, 0, false) := by
  unfold yl
  split <;> first | rfl | omega
end Go.Vm
namespace Go.Vm
def regK (R : List Int) (r : Int) : Int := if r < 0 then 0 else R.getD r.toNat 0
def inR (R : List Int) (r : Int) : Bool := decide (0 ≤ r) && decide (r < R.length)
def y25 (R : List Int) (w r : Int) : Bool := decide (w < 0) || (inR R r && (decide (w ≤ 0) || decide (regK R r = w)))
def yod (R : List Int) (x : Ins) : Bool :=
  match lst x.args with
  | [] => true
  | r :: _ => !(decide (x.op = 24) || decide (x.op = 25)) || decide (regK R r = 3)
def ydw (R : List Int) (x : Ins) : Bool := !calls x.op || (yod R x && (lst x.args).all (inR R))
def y3i (R : List Int) (ret : Int) (n : Nat) (x : Ins) : Bool :=
  if x.op = 1 then decide (¬ regK R x.d = 3) && (decide (regK R x.d = 2) || decide (x.n = IntKind.wrap .i64 (IntKind.wrap .i32 x.n)))
  else if x.op = 4 then decide (regK R x.d = regK R x.a)
  else if x.op = 7 then decide (¬ regK R x.a = 3)
  else if x.op = 30 then (decide (x.a = -1) == decide (ret = 0)) && (decide (x.a = -1) || decide (regK R x.a = ret))
  else !leads x.op || (decide (0 ≤ x.t) && decide (x.t < n))
def y2h (f : Fn) (x : Ins) : Bool :=
  (yl x).2.2.2.2 && y25 (lst f.regs) (yl x).1 x.d && y25 (lst f.regs) (yl x).2.1 x.a && y25 (lst f.regs) (yl x).2.2.1 x.b && y25 (lst f.regs) (yl x).2.2.2.1 x.c &&
    ydw (lst f.regs) x && y3i (lst f.regs) f.ret (lst f.code).length x
theorem y19d {R : List Int} {r : Int} (h : inR R r = true) : 0 ≤ r ∧ r.toNat < R.length ∧ R[r.toNat]? = some (regK R r) := by
  simp only [inR, Bool.and_eq_true, decide_eq_true_eq] at h
  have h1 : r.toNat < R.length := by omega
  refine ⟨h.1, h1, ?_⟩
  rw [regK, if_neg (by omega), List.getD_eq_getElem?_getD, List.getElem?_eq_getElem h1]; rfl
def y1dh (n : Nat) (t : Int) : Bool := decide (0 ≤ t) && decide (t < n)
def y47 (C : List Ins) (i : Nat) (x : Ins) : Bool :=
  !((decide (x.op = 32) && (decide (i = 0) || !ends ((C.getD (i - 1) default).op))) || (leads x.op && decide ((C.getD x.t.toNat default).op = 32)))
def y59 (f : Fn) (C : List Ins) : Nat → List Ins → Bool
  | _, [] => true
  | i, x :: r => y2h f x && y47 C i x && y59 f C (i + 1) r
def y7t (C : List Ins) (r : Row) : Bool :=
  !(decide (r.f < 0) || decide (r.t ≤ r.f) || decide ((C.length : Int) < r.t) || decide (r.at_ < 0) || decide ((C.length : Int) ≤ r.at_) || decide (¬ (C.getD r.at_.toNat default).op = 32))
def yg5 (R : List Int) : Nat → List Int → List Int → Bool
  | _, _, [] => true
  | i, seen, p :: r => (inR R p && !seen.contains p && decide (i ≤ 20)) && yg5 R (i + 1) (seen ++ [p]) r
def wf (f : Fn) : Bool :=
  decide (1 ≤ (lst f.code).length) && decide ((lst f.code).length ≤ 20000) && decide ((lst f.regs).length ≤ 20000) && decide (0 ≤ f.ret) && decide (f.ret ≤ 3) && ends ((lst f.code).getD ((lst f.code).length - 1) default).op &&
    (lst f.regs).all (fun k => decide (1 ≤ k) && decide (k ≤ 3)) && yg5 (lst f.regs) 0 [] (lst f.params) && y59 f (lst f.code) 0 (lst f.code) && (lst f.rows).all (y7t (lst f.code))
end Go.Vm
namespace Go.Vm
open Cel
def nz {α : Type} : List α → Option (List α)
  | [] => none
  | x :: L => some (x :: L)
@[simp] theorem ydt {α : Type} (L : List α) : lst (nz L) = L := by cases L <;> rfl
section
variable {α : Type} [Cel α]
def y1b (α : Type) [Cel α] (j g : Nat) : List α → AV
  | [] => .nils
  | _ :: L => .ls j g (es α) 0 (L.length + 1)
def y13 (g : Nat) (o : AO) : List α → AO
  | [] => o
  | x :: L => ⟨g, .arr false false (es α) ((x :: L).map enc)⟩
@[simp] theorem yaz (j g : Nat) : y1b α j g [] = .nils := rfl
@[simp] theorem ykr (g : Nat) (o : AO) : y13 g o ([] : List α) = o := rfl
@[simp] theorem y1yz (j g : Nat) (L : List α) (H : Heap) : y12 1 (y1b α j g L) H = some (.int .i64 L.length) := by
  cases L <;> simp [y1b, y12]
@[simp] theorem yl3 (j g : Nat) (L : List α) : cellsOf (y1b α j g L) = [y1b α j g L] := by cases L <;> rfl
@[simp] theorem ybn (j g : Nat) (L : List α) : yx (y1b α j g L) = true := by cases L <;> rfl
theorem ylp {H : Heap} {j g : Nat} {o : AO} {x : α} {L : List α} (h : H[j]? = some (y13 g o (x :: L))) : yk H j g = some (false, es α, (x :: L).map enc) := by
  simp [yk, y2w, h, y13]
theorem y1t9 {H : Heap} {j g : Nat} {o : AO} {L : List α} (h : H[j]? = some (y13 g o L)) : fz H y19 (y1b α j g L) = some ⟨slA (nz L), L.all scal, ids1 (y1b α j g L)⟩ := by
  cases L with
  | nil => rfl
  | cons x L =>
    rw [y1b, y1ly, ylp h]
    simp only [List.drop_zero, Nat.zero_add, List.length_map, List.length_cons, Nat.le_refl, and_self, if_true]
    rw [show ((x :: L).map (enc (α := α))).take (L.length + 1) = (x :: L).map enc from y5o (x :: L), y1av]
    simp [slA, nz, ids1]
theorem yyo {H : Heap} {j g : Nat} {o : AO} {L : List α} (h : H[j]? = some (y13 g o L)) : yi H (y1b α j g L) = some ⟨match L with | [] => .nils | _ :: _ => .ls 0 0 (es α) 0 L.length, match L with | [] => [] | _ :: _ => [.arr false false (es α) (L.map enc)], L.all scal, [], []⟩ := by
  cases L with
  | nil => rfl
  | cons x L =>
    rw [y1b, ydr, ylp h]
    simp only [List.drop_zero, Nat.zero_add, List.length_map, List.length_cons, Nat.le_refl, and_self, if_true]
    rw [show ((x :: L).map (enc (α := α))).take (L.length + 1) = (x :: L).map enc from y5o (x :: L), y1dp]
    simp
theorem ydu {H : Heap} {j g : Nat} {o : AO} {L : List α} (h : H[j]? = some (y13 g o L)) : yi H (y1b α j g L) = some (exO (nz L)) := by
  rw [yyo h]
  cases L <;> rfl
theorem yde {H : Heap} {fb j g b : Nat} {o : AO} {y : AV} {L M : List α} (hy : y2m H (es α) y = some (M.map enc)) (h : H[fb + j]? = some (y13 g o L)) (hs : (2 * (L.length + M.length) + 512) * b ≤ 2 ^ 48) :
    ∃ g', y26 fb (some j) (es α) b (y1b α (fb + j) g L) y H = some (y1b α (fb + j) g' (L ++ M), H.set (fb + j) (y13 g' o (L ++ M))) := by
  unfold y26
  rw [hy]
  have hlt : fb + j < H.length := (List.getElem?_eq_some_iff.1 h).1
  cases L with
  | nil =>
    cases M with
    | nil =>
      refine ⟨g, ?_⟩
      simp only [y1b, List.map_nil, List.isEmpty_nil, if_true, List.append_nil, y13]
      rw [y13] at h
      rw [show H.set (fb + j) o = H from by
        refine List.ext_getElem? fun i => ?_
        rw [List.getElem?_set]
        split
        · rename_i e; subst e; simp [h]
        · rfl]
    | cons y M =>
      refine ⟨o.gen + 1, ?_⟩
      rw [y13] at h
      have hm : (M.length + 1) * b ≤ 281474976710656 := Nat.le_trans (Nat.mul_le_mul_right b (by simp only [List.length_nil, List.length_cons]; omega)) hs
      simp [y1b, hm, y2z, place, h, y13]
  | cons x L =>
    refine ⟨g + 1, ?_⟩
    have h' : H[fb + j]? = some ⟨g, .arr false false (es α) ((x :: L).map enc)⟩ := h
    simp only [y1b, h']
    rw [if_pos (by simp; first | simpa using hs | exact .inl (by simpa using hs))]
    simp only [List.drop_zero]
    rw [show ((x :: L).map (enc (α := α))).take (L.length + 1) = (x :: L).map enc from y5o (x :: L)]
    simp [y1b, y13, Nat.add_right_comm]
end
@[simp] theorem y22g (h : Heap) (es id g es1 off len : Nat) : y2m h es (.ls id g es1 off len) = match yk h id g with
    | some (_, es', rows) => if es1 = es ∧ es' = es ∧ off + len ≤ rows.length then some ((rows.drop off).take len) else none
    | none => none := rfl
theorem y1kz {H : Heap} {j g : Nat} {o : AO} {L : List Int} (h : H[j]? = some (y13 g o L)) : fz H y19 (y1b Int j g L) = some ⟨slA (nz L), true, ids1 (y1b Int j g L)⟩ := by
  rw [y1t9 h]
  simp
theorem y1s1 {H : Heap} {fb j g : Nat} {o : AO} {y : AV} {L : List Int} {n : Int} (hy : y2m H 1 y = some [[.int .i64 n]]) (h : H[fb + j]? = some (y13 g o L)) (hs : L.length ≤ 17000000000000) :
    ∃ g', y26 fb (some j) 1 8 (y1b Int (fb + j) g L) y H = some (y1b Int (fb + j) g' (L ++ [n]), H.set (fb + j) (y13 g' o (L ++ [n]))) := by
  refine yde (α := Int) (M := [n]) hy h ?_
  have : (2 * (L.length + [n].length) + 512) * 8 ≤ (2 * (17000000000000 + 1) + 512) * 8 := Nat.mul_le_mul_right 8 (by simp only [List.length_singleton]; omega)
  exact Nat.le_trans this (by decide)
theorem y0p {i : Int} {n : Nat} (h0 : 0 ≤ i) (h : i < n) (hn : n ≤ 9223372036854775807) : IntKind.wrap .i64 (i + 1) = i + 1 := by
  rw [y22] <;> omega
@[simp] theorem y28j {α : Type} [Cel α] (x : α) (L : List α) : exO (nz (x :: L)) = ⟨.ls 0 0 (es α) 0 (L.length + 1), [.arr false false (es α) ((x :: L).map enc)], (x :: L).all scal, [], []⟩ := rfl
theorem yb8 {H : Heap} {id g : Nat} {a : Int} (h : yk H id g = some (false, 1, [[.int .i64 a]])) : yi H (.ls id g 1 0 1) = some (exO (nz [a])) := y5g (α := Int) (L := [a]) h
theorem yy8 {H : Heap} {id g : Nat} {a b : Int} (h : yk H id g = some (false, 1, [[.int .i64 a], [.int .i64 b]])) : yi H (.ls id g 1 0 2) = some (exO (nz [a, b])) := y5g (α := Int) (L := [a, b]) h
abbrev D0 : AO := ⟨0, .dead⟩
section
variable {α : Type} [Cel α]
theorem yk2 {H : Heap} {fb id g b : Nat} {sl : Option Nat} {y : AV} {L M T : List α} (hy : y2m H (es α) y = some (M.map enc)) (h : H[id]? = some ⟨g, .arr false false (es α) ((L ++ T).map enc)⟩) (hs : (2 * (L.length + M.length) + 512) * b ≤ 2 ^ 48) :
    y26 fb sl (es α) b (.ls id g (es α) 0 L.length) y H = some (.ls id (g + 1) (es α) 0 (L ++ M).length, H.set id ⟨g + 1, .arr false false (es α) ((L ++ M).map enc)⟩) := by
  unfold y26
  rw [hy]
  simp only [h]
  rw [if_pos (by simp; first | simpa using hs | exact .inl (by simpa using hs))]
  simp only [List.drop_zero, List.map_append, List.length_append]
  rw [List.take_append_of_le_length (by simp), y5o, List.length_map]
end
theorem y21p {H : Heap} {id g : Nat} {L T : List Int} {i : Int} (h : yk H id g = some (false, 1, (L ++ i :: T).map enc)) : evLd false 1 (.lp id g L.length 0) H = some (.int .i64 i) := by
  simp [evLd, h]
theorem y1pl (id g : Nat) (L : Nat) : yu 1 (.ls id g 1 0 (L + 1)) (.int .i64 (L : Int)) = some (.lp id g L 0) := by
  have : (L : Int) < (L : Int) + 1 := by omega
  simp [yu, this]
theorem y14n (id g : Nat) (L : Nat) : y9f 1 (.ls id g 1 0 (L + 1)) none (some (.int .i64 (L : Int))) = some (.ls id g 1 0 L) := by
  have : (L : Int) ≤ (L : Int) + 1 := by omega
  simp [y9f, ynx, yao, yla, this]
@[simp] theorem y277 {α : Type} [Cel α] : exO (nz ([] : List α)) = ⟨.nils, [], true, [], []⟩ := rfl
theorem yeb {α : Type} [Cel α] {H : Heap} {id g i : Nat} {L : List α} {v : AV} {y : α} (h : H[id]? = some ⟨g, .arr false false (es α) (L.map enc)⟩) (hi : i < L.length) (hv : cellsOf v = enc y) :
    evSt (es α) (.lp id g i 0) v H = some (.tup [], H.set id ⟨g, .arr false false (es α) ((L.set i y).map enc)⟩) := by
  have hr : yk H id g = some (false, es α, L.map enc) := by simp [yk, y2w, h]
  have hg : (L.map (enc (α := α)))[i]? = some (enc L[i]) := by simp [hi]
  rw [y2l, hr]
  simp only [hg, hv]
  rw [if_pos ⟨len y, by rw [len]; omega, leaf y⟩]
  rw [ybw (by rw [len, len]), y1e, h]
  simp only
  rw [List.map_set]
theorem ye5 {a b : Nat} (h : a + b ≤ 137438953472) : (2 * (a + b) + 512) * 8 ≤ 2 ^ 48 := by
  have : (2 * (a + b) + 512) * 8 ≤ (2 * 137438953472 + 512) * 8 := Nat.mul_le_mul_right 8 (by omega)
  exact Nat.le_trans this (by decide)
theorem yzk {α : Type} [Cel α] {H : Heap} {id g i : Nat} {L : List α} {x : α} {v : AV} (h : H[id]? = some ⟨g, .arr false false (es α) (L.map enc)⟩) (hx : L[i]? = some x) (hv : (enc x).head? = some v) : evLd false 1 (.lp id g i 0) H = some v := by
  have hr : yk H id g = some (false, es α, L.map enc) := by simp [yk, y2w, h]
  have hg : (L.map (enc (α := α)))[i]? = some (enc x) := by simp [hx]
  rw [y2v, hr]
  simp only [hg, y5b, List.drop_zero, hv]
abbrev AB (f : Fn) : AO := ⟨1, .arr true false 5 [enc f]⟩
abbrev AL (g : Nat) (L : List Bool) : AO := ⟨g, .arr false false 1 (L.map enc)⟩
abbrev AI (g : Nat) (L : List Int) : AO := ⟨g, .arr false false 1 (L.map enc)⟩
abbrev AX (g : Nat) (x : Ins) : AO := ⟨g, .arr true false 9 [enc x]⟩
theorem yj4 {α : Type} [Cel α] {j g : Nat} {L : List α} (h : L ≠ []) : y1b α j g L = .ls j g (es α) 0 L.length := by
  cases L with
  | nil => exact (h rfl).elim
  | cons x L => rfl
theorem ykf {α : Type} [Cel α] {g : Nat} {o : AO} {L : List α} (h : L ≠ []) : y13 g o L = ⟨g, .arr false false (es α) (L.map enc)⟩ := by
  cases L with
  | nil => exact (h rfl).elim
  | cons x L => rfl
theorem y9z {n : Nat} {p : Int} (h0 : 0 ≤ p) (h1 : p < (n : Int)) (id g : Nat) (k : IntKind) : yu 1 (.ls id g 1 0 n) (.int k p) = some (.lp id g p.toNat 0) := by simp [yu, h0, h1]
end Go.Vm
namespace Go.Vm
section
variable (n : Nat) (S : Nat → List Int) (A : List Int)
inductive Rch : Nat → Prop
  | base {j : Int} : j ∈ A → 0 ≤ j → j < n → Rch j.toNat
  | step {i : Nat} {j : Int} : Rch i → j ∈ S i → 0 ≤ j → j < n → Rch j.toNat
def dfs : Nat → List Bool → List Int → Option (List Bool)
  | 0, _, _ => none
  | k + 1, seen, op => match op.getLast? with
    | none => some seen
    | some i => if i < 0 ∨ (n : Int) ≤ i ∨ seen.getD i.toNat true = true then dfs k seen op.dropLast else dfs k (seen.set i.toNat true) (op.dropLast ++ S i.toNat)
def unseen (seen : List Bool) : Nat := seen.countP (! ·)
end
section
variable {n : Nat} {S : Nat → List Int} {A : List Int}
theorem Rch.lt {i : Nat} (h : Rch n S A i) : i < n := by cases h <;> omega
theorem yit {seen : List Bool} {i : Nat} (h : i < seen.length) (hs : seen[i] = false) : unseen (seen.set i true) + 1 = unseen seen := by
  unfold unseen
  induction seen generalizing i with
  | nil => simp at h
  | cons b l ih =>
    cases i with
    | zero => simp at hs; simp [hs]
    | succ i =>
      simp only [List.set_cons_succ, List.countP_cons]
      have := ih (i := i) (by simpa using h) (by simpa using hs)
      omega
theorem y4b {op : List Int} {i : Int} (h : op.getLast? = some i) : op = op.dropLast ++ [i] := by
  have hne : op ≠ [] := by intro e; rw [e] at h; cases h
  have := List.dropLast_concat_getLast hne
  rw [List.getLast?_eq_some_getLast hne] at h
  injection h with h
  rw [h] at this
  exact this.symm
theorem yck {op : List Int} {j : Int} (h : j ∈ op.dropLast) : j ∈ op := (List.dropLast_sublist op).mem h
theorem y1uh {seen : List Bool} {i : Nat} (h : i < seen.length) (hs : ¬ seen.getD i true = true) : seen[i] = false := by
  rw [List.getD_eq_getElem?_getD, List.getElem?_eq_getElem h] at hs
  simpa using hs
theorem yjh {B : Nat} (hB : ∀ i, i < n → (S i).length ≤ B) : ∀ (k : Nat) (seen : List Bool) (op : List Int), seen.length = n → unseen seen * (B + 1) + op.length < k → ∃ r, dfs n S k seen op = some r
  | 0, _, _, _, h => by omega
  | k + 1, seen, op, hl, h => by
    rw [dfs]
    cases hop : op.getLast? with
    | none => exact ⟨seen, rfl⟩
    | some i =>
      have e := y4b hop
      have el : op.length = op.dropLast.length + 1 := by rw [e]; simp
      simp only
      split
      · exact yjh hB k seen op.dropLast hl (by omega)
      · rename_i hc
        have h0 : 0 ≤ i := by omega
        have h1 : i.toNat < n := by omega
        have hs := y1uh (i := i.toNat) (by omega) (fun h => hc (.inr (.inr h)))
        have hu := yit (by omega) hs
        have hb := hB i.toNat h1
        refine yjh hB k _ _ (by simpa using hl) ?_
        rw [List.length_append]
        rw [← hu, Nat.add_mul] at h
        omega
structure DfsI (n : Nat) (S : Nat → List Int) (A : List Int) (seen : List Bool) (op : List Int) : Prop where
  len : seen.length = n
  ok : ∀ i : Nat, seen[i]? = some true → Rch n S A i
  opn : ∀ j : Int, j ∈ op → 0 ≤ j → j < n → Rch n S A j.toNat
  cl : ∀ (i : Nat) (j : Int), seen[i]? = some true → j ∈ S i → 0 ≤ j → j < n → seen[j.toNat]? = some true ∨ j ∈ op
  st : ∀ j : Int, j ∈ A → 0 ≤ j → j < n → seen[j.toNat]? = some true ∨ j ∈ op
theorem DfsI.start : DfsI n S A (List.replicate n false) A where
  len := by simp
  ok i h := by rw [List.getElem?_replicate] at h; split at h <;> cases h
  opn j h h0 h1 := .base h h0 h1
  cl i j h := by rw [List.getElem?_replicate] at h; split at h <;> cases h
  st j h _ _ := .inr h
theorem DfsI.skip {seen : List Bool} {op : List Int} (I : DfsI n S A seen op) {i : Int} (hop : op.getLast? = some i) (hc : i < 0 ∨ (n : Int) ≤ i ∨ seen.getD i.toNat true = true) : DfsI n S A seen op.dropLast := by
  have e := y4b hop
  have key : ∀ j : Int, 0 ≤ j → j < n → (seen[j.toNat]? = some true ∨ j ∈ op) → seen[j.toNat]? = some true ∨ j ∈ op.dropLast := by
    intro j h0 h1 h
    rcases h with h | h
    · exact .inl h
    · rw [e, List.mem_append, List.mem_singleton] at h
      rcases h with h | rfl
      · exact .inr h
      · rcases hc with hc | hc | hc
        · omega
        · omega
        · left
          have : j.toNat < seen.length := by rw [I.len]; omega
          rw [List.getD_eq_getElem?_getD, List.getElem?_eq_getElem this] at hc
          rw [List.getElem?_eq_getElem this]
          simpa using hc
  exact ⟨I.len, I.ok, fun j hj => I.opn j (yck hj), fun i j h1 h2 h3 h4 => key j h3 h4 (I.cl i j h1 h2 h3 h4), fun j h1 h3 h4 => key j h3 h4 (I.st j h1 h3 h4)⟩
theorem DfsI.take {seen : List Bool} {op : List Int} (I : DfsI n S A seen op) {i : Int} (hop : op.getLast? = some i) (h0 : 0 ≤ i) (h1 : i < n) : DfsI n S A (seen.set i.toNat true) (op.dropLast ++ S i.toNat) := by
  have e := y4b hop
  have hi : Rch n S A i.toNat := I.opn i (by rw [e]; simp) h0 h1
  have hlt : i.toNat < seen.length := by rw [I.len]; omega
  have hset : ∀ j : Nat, (seen.set i.toNat true)[j]? = some true ↔ seen[j]? = some true ∨ j = i.toNat := by
    intro j
    rw [List.getElem?_set]
    by_cases hj : i.toNat = j
    · subst hj; simp [hlt]
    · rw [if_neg hj]
      exact ⟨.inl, fun h => h.resolve_right (fun e => hj e.symm)⟩
  have key : ∀ j : Int, 0 ≤ j → j < n → (seen[j.toNat]? = some true ∨ j ∈ op) → (seen.set i.toNat true)[j.toNat]? = some true ∨ j ∈ op.dropLast ++ S i.toNat := by
    intro j h2 h3 h
    rw [hset]
    rcases h with h | h
    · exact .inl (.inl h)
    · rw [e, List.mem_append, List.mem_singleton] at h
      rcases h with h | rfl
      · exact .inr (List.mem_append_left _ h)
      · exact .inl (.inr rfl)
  refine ⟨by simpa using I.len, fun j hj => ?_, fun j hj h2 h3 => ?_, fun k j hk hj h2 h3 => ?_, fun j hj h2 h3 => key j h2 h3 (I.st j hj h2 h3)⟩
  · rcases (hset j).1 hj with h | rfl
    · exact I.ok j h
    · exact hi
  · rcases List.mem_append.1 hj with h | h
    · exact I.opn j (yck h) h2 h3
    · exact .step hi h h2 h3
  · rcases (hset k).1 hk with h | rfl
    · exact key j h2 h3 (I.cl k j h hj h2 h3)
    · exact .inr (List.mem_append_right _ hj)
theorem DfsI.done {seen : List Bool} (I : DfsI n S A seen []) (i : Nat) : seen[i]? = some true ↔ Rch n S A i := by
  refine ⟨I.ok i, fun h => ?_⟩
  induction h with
  | base h h0 h1 => exact (I.st _ h h0 h1).resolve_right (by simp)
  | step _ hj h0 h1 ih => exact (I.cl _ _ ih hj h0 h1).resolve_right (by simp)
theorem yk4 : ∀ (k : Nat) (seen : List Bool) (op : List Int) (r : List Bool), DfsI n S A seen op → dfs n S k seen op = some r → r.length = n ∧ ∀ i : Nat, r[i]? = some true ↔ Rch n S A i
  | 0, _, _, _, _, h => by cases h
  | k + 1, seen, op, r, I, h => by
    rw [dfs] at h
    cases hop : op.getLast? with
    | none =>
      rw [hop] at h
      injection h with h
      subst h
      rw [List.getLast?_eq_none_iff] at hop
      subst hop
      exact ⟨I.len, I.done⟩
    | some i =>
      rw [hop] at h
      simp only at h
      split at h
      · rename_i hc
        exact yk4 k _ _ r (I.skip hop hc) h
      · rename_i hc
        exact yk4 k _ _ r (I.take hop (by omega) (by omega)) h
structure RI (n : Nat) (S : Nat → List Int) (A : List Int) (seen : List Bool) (s : List Bool × Bool) : Prop where
  len : s.1.length = n
  ok : ∀ i : Nat, s.1[i]? = some true → Rch n S A i
  up : ∀ i : Nat, seen[i]? = some true → s.1[i]? = some true
  un : unseen s.1 ≤ unseen seen
  lt : s.2 = true → unseen s.1 < unseen seen
  eq : s.2 = false → s.1 = seen
theorem y18r {a b : List Bool} (hl : a.length = b.length) (h : ∀ i : Nat, a[i]? = some true ↔ b[i]? = some true) : a = b := by
  refine List.ext_getElem hl fun i h1 h2 => ?_
  have := h i
  rw [List.getElem?_eq_getElem h1, List.getElem?_eq_getElem h2] at this
  simp only [Option.some.injEq] at this
  cases ha : a[i] <;> cases hb : b[i] <;> simp_all
end
theorem ylj {α : Type} {n k : Nat} {p q : Nat → α} {v : α} (hq : q k = v) (he : ∀ j, j ≠ k → q j = p j) : ((List.range n).map p).set k v = (List.range n).map q := by
  refine List.ext_getElem (by simp) fun i h1 h2 => ?_
  rw [List.getElem_set]
  simp only [List.getElem_map, List.getElem_range]
  by_cases e : k = i
  · rw [if_pos e, ← e, hq]
  · rw [if_neg e, he i (fun h => e h.symm)]
end Go.Vm
namespace Go.Vm
def addN (l : List Int) (j : Int) : List Int := if l.contains j then l else l ++ [j]
def ye (f : Fn) (i : Nat) : Ins := (lst f.code).getD i default
def yk8 (x : Ins) (i : Int) : List Int := if leads x.op then addN (if ends x.op then [] else [i + 1]) x.t else if ends x.op then [] else [i + 1]
def y1v (f : Fn) (i : Int) : List Int := if i < 0 ∨ ((lst f.code).length : Int) ≤ i then [] else yk8 (ye f i.toNat) i
def y35 (i : Int) : List Row → List Int → List Int
  | [], l => l
  | r :: rs, l => if r.f ≤ i ∧ i < r.t then (if r.c = [] then addN l r.at_ else y35 i rs (addN l r.at_)) else y35 i rs l
def yv (f : Fn) (i : Int) : List Int := if i < 0 ∨ ((lst f.code).length : Int) ≤ i then [] else if throws (ye f i.toNat).op then y35 i (lst f.rows) [] else []
def ycy (f : Fn) (i : Nat) : List Int := y1v f i ++ yv f i
theorem yvv (l : List Int) (j : Int) : (addN l j).length ≤ l.length + 1 := by
  unfold addN
  split <;> simp
theorem y1el (x : Ins) (i : Int) : (yk8 x i).length ≤ 2 := by
  unfold yk8
  split
  · have := yvv (if ends x.op then [] else [i + 1]) x.t
    split at this <;> simp_all <;> omega
  · split <;> simp
theorem ydp (f : Fn) (i : Int) : (y1v f i).length ≤ 2 := by
  unfold y1v
  split
  · simp
  · exact y1el _ _
theorem y9v (i : Int) : ∀ (rs : List Row) (l : List Int), (y35 i rs l).length ≤ l.length + rs.length
  | [], l => by simp [y35]
  | r :: rs, l => by
    have h1 := yvv l r.at_
    have h2 := y9v i rs (addN l r.at_)
    have h3 := y9v i rs l
    unfold y35
    simp only [List.length_cons]
    split
    · split <;> omega
    · omega
theorem yf7 (f : Fn) (i : Int) : (yv f i).length ≤ (lst f.rows).length := by
  unfold yv
  split
  · simp
  · split
    · have := y9v i (lst f.rows) []
      simpa using this
    · simp
theorem yl8 (f : Fn) (i : Nat) : (ycy f i).length ≤ (lst f.rows).length + 2 := by
  have h1 := ydp f i
  have h2 := yf7 f i
  unfold ycy
  rw [List.length_append]
  omega
theorem y3e {f : Fn} {i : Nat} (h : i < (lst f.code).length) : (lst f.code)[i]? = some (ye f i) := by
  rw [ye, List.getD_eq_getElem?_getD, List.getElem?_eq_getElem h]; rfl
open Classical in
noncomputable def y88 (f : Fn) : List Bool := (List.range (lst f.code).length).map fun i => decide (Rch (lst f.code).length (ycy f) [0] i)
theorem ybt (f : Fn) : (y88 f).length = (lst f.code).length := by simp [y88]
theorem yi4 (f : Fn) (i : Nat) : (y88 f)[i]? = some true ↔ Rch (lst f.code).length (ycy f) [0] i := by
  unfold y88
  by_cases h : i < (lst f.code).length
  · simp [h]
  · have : ¬ Rch (lst f.code).length (ycy f) [0] i := fun hr => h hr.lt
    simp [h, this]
theorem y1b7 {f : Fn} {r : List Bool} (hl : r.length = (lst f.code).length) (h : ∀ i : Nat, r[i]? = some true ↔ Rch (lst f.code).length (ycy f) [0] i) : r = y88 f :=
  y18r (by rw [hl, ybt]) fun i => (h i).trans (yi4 f i).symm
def ycq (f : Fn) (i : Nat) : Bool :=
  decide (i = 0) || (leads (ye f (i - 1)).op || ends (ye f (i - 1)).op) || (lst f.code).any (fun x => leads x.op && decide (x.t = i)) || (lst f.rows).any (fun r => decide (r.f = i) || decide (r.t = i) || decide (r.at_ = i))
end Go.Vm
