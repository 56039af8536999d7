/- Facts for reading the machine's functions: combinators at known values; lists of things of one kind as slices. The things that the layers speak of: instructions, rows, functions. What is handed in, as things. What is told of instructions, in plain words. Code words, in plain words. What the functions of 'ins' answer of single instructions. Clones of lists of numbers. What 'Uses' answers. The register that an instruction writes. Lists that a function builds by appending, at a place of its own. What a callee made, as the caller's own: a list, or nothing. Heaps that grow: what lies where, behind one more object, behind one that is turned. Code words: the small functions on the machine. Code words: the builder on the machine, and one word more. A thing as a variable of its own. Code words: the builder's methods on the machine. -/
import Derived.Test.YtjlbafgbohekfaaVc
import Derived.Test.YtjlbafgbohekfaaNX
set_option linter.unusedSimpArgs false
set_option linter.unusedVariables false
set_option linter.unusedSectionVars false
namespace Go.Vm
section comb
variable {α : Type}
@[simp] theorem y9 (v : AV) (K : AV → Option α) : ob (some v) K = K v := rfl
@[simp] theorem ye (v : AV) (h : Heap) (K : AV → Heap → Option α) : oh (some (v, h)) K = K v h := rfl
@[simp] theorem y21b {β : Type} (v : β) (K : β → Option α) : ofp (some v) K = K v := rfl
@[simp] theorem y9n (x : Option AV) (K : AV → Option α) : gb (.bool true) true x K = ob x K := rfl
@[simp] theorem y51 (x : Option AV) (K : AV → Option α) : gb (.bool false) false x K = ob x K := rfl
@[simp] theorem y6z (x : Option AV) (K : AV → Option α) : gb (.bool true) false x K = K (.tup []) := rfl
@[simp] theorem ye0 (x : Option AV) (K : AV → Option α) : gb (.bool false) true x K = K (.tup []) := rfl
@[simp] theorem y92 (w : Bool) (x : Option AV) (K : AV → Option α) : gb (.tup []) w x K = K (.tup []) := rfl
@[simp] theorem y1he (x : Option (AV × Heap)) (h : Heap) (K : AV → Heap → Option α) : gh (.bool true) true x h K = oh x K := rfl
@[simp] theorem y1z0 (x : Option (AV × Heap)) (h : Heap) (K : AV → Heap → Option α) : gh (.bool false) false x h K = oh x K := rfl
@[simp] theorem y1wi (x : Option (AV × Heap)) (h : Heap) (K : AV → Heap → Option α) : gh (.bool true) false x h K = K (.tup []) h := rfl
@[simp] theorem yro (x : Option (AV × Heap)) (h : Heap) (K : AV → Heap → Option α) : gh (.bool false) true x h K = K (.tup []) h := rfl
@[simp] theorem y2p1 (w : Bool) (x : Option (AV × Heap)) (h : Heap) (K : AV → Heap → Option α) : gh (.tup []) w x h K = K (.tup []) h := rfl
@[simp] theorem y2uz (x : Option (List Nat × List Nat)) : fgd (.bool true) true x = x := rfl
@[simp] theorem y2v0 (x : Option (List Nat × List Nat)) : fgd (.bool false) false x = x := rfl
@[simp] theorem y2um (x : Option (List Nat × List Nat)) : fgd (.bool true) false x = some ([], []) := rfl
@[simp] theorem y2uy (x : Option (List Nat × List Nat)) : fgd (.bool false) true x = some ([], []) := rfl
@[simp] theorem y2s7 (w : Bool) (x : Option (List Nat × List Nat)) : fgd (.tup []) w x = some ([], []) := rfl
@[simp] theorem y1b (a b : Option α) : cnd (.bool true) a b = a := rfl
@[simp] theorem y1h (a b : Option α) : cnd (.bool false) a b = b := rfl
@[simp] theorem y2ub (x : Option α) : okK true x = x := rfl
theorem y1gj {α : Type} {b : Bool} (h : b = true) (x : Option α) : okK b x = x := by rw [h]; rfl
@[simp] theorem y1g (a b : AV) : yh (.bool true) a b = some a := rfl
@[simp] theorem y1d (a b : AV) : yh (.bool false) a b = some b := rfl
@[simp] theorem y2a (b : Bool) : evUn .not (.bool b) = some (.bool (!b)) := rfl
@[simp] theorem y2s6 (neq a b : Bool) : y1uj neq (.bool a) (.bool b) = some (.bool (if neq then !(a == b) else a == b)) := rfl
@[simp] theorem y1y (i : Nat) (vs : List AV) : y29 i (.tup vs) = vs[i]? := rfl
@[simp] theorem y2g (k k' : IntKind) (n : Int) : y80 k (.int k' n) = some (.int k (k.wrap n)) := rfl
@[simp] theorem y2h6 (cs : List AV) : yp (.rp cs) = some (.rp cs) := rfl
@[simp] theorem y1l (id g i off : Nat) : yp (.lp id g i off) = some (.lp id g i off) := rfl
@[congr] theorem y2v6 {x x' : Option AV} (h : x = x') (K : AV → Option α) : ob x K = ob x' K := by rw [h]
@[congr] theorem y2vc {x x' : Option (AV × Heap)} (h : x = x') (K : AV → Heap → Option α) : oh x K = oh x' K := by rw [h]
@[congr] theorem y2uu {β : Type} {x x' : Option β} (h : x = x') (K : β → Option α) : ofp x K = ofp x' K := by rw [h]
@[congr] theorem y2vn {g g' : AV} (h : g = g') (w : Bool) (x : Option AV) (K : AV → Option α) : gb g w x K = gb g' w x K := by rw [h]
@[congr] theorem y2vm {g g' : AV} (h : g = g') (w : Bool) (x : Option (AV × Heap)) (hp : Heap) (K : AV → Heap → Option α) : gh g w x hp K = gh g' w x hp K := by rw [h]
@[congr] theorem y2ul {g g' : AV} (h : g = g') (w : Bool) (x : Option (List Nat × List Nat)) : fgd g w x = fgd g' w x := by rw [h]
@[congr] theorem y2ux {c c' : AV} (h : c = c') (a b : Option α) : cnd c a b = cnd c' a b := by rw [h]
@[congr] theorem y2ui {c c' : Bool} (h : c = c') (a : Option α) : okK c a = okK c' a := by rw [h]
end comb
section ints
variable (k : IntKind) (a b : Int)
@[simp] theorem yz : yb .add (.int k a) (.int k b) = some (.int k (k.wrap (a + b))) := by simp [yb, y4v, yb0]
@[simp] theorem y59 : yb .sub (.int k a) (.int k b) = some (.int k (k.wrap (a - b))) := by simp [yb, y4v, yb0]
@[simp] theorem y2mx : yb .mul (.int k a) (.int k b) = some (.int k (k.wrap (a * b))) := by simp [yb, y4v, yb0]
@[simp] theorem yy : yb .eql (.int k a) (.int k b) = some (.bool (decide (a = b))) := by simp [yb, y4v, yb0, z3a]
@[simp] theorem y6f : yb .neq (.int k a) (.int k b) = some (.bool (decide (a ≠ b))) := by simp [yb, y4v, yb0, bne, z3a]
@[simp] theorem yg : yb .lss (.int k a) (.int k b) = some (.bool (decide (a < b))) := by simp [yb, y4v, yb0]
@[simp] theorem yj1 : yb .leq (.int k a) (.int k b) = some (.bool (decide (a ≤ b))) := by simp [yb, y4v, yb0]
@[simp] theorem y4m : yb .gtr (.int k a) (.int k b) = some (.bool (decide (b < a))) := by simp [yb, y4v, yb0]
@[simp] theorem y1j : yb .geq (.int k a) (.int k b) = some (.bool (decide (b ≤ a))) := by simp [yb, y4v, yb0]
end ints
@[simp] theorem y2he (a b : List UInt8) : yb .eql (.str a) (.str b) = some (.bool (decide (a = b))) := by simp [yb, y11l, z3a]
@[simp] theorem y2hd (a b : List UInt8) : yb .neq (.str a) (.str b) = some (.bool (decide (a ≠ b))) := by simp [yb, y11l, z3a]
theorem y1a {n : Int} (h0 : -9223372036854775808 ≤ n) (h1 : n < 9223372036854775808) : IntKind.wrap .i64 n = n := by
 simp [IntKind.wrap, IntKind.bits, IntKind.signed]; omega
theorem y1il {i n : Nat} (h : i < n) (hn : n ≤ 9223372036854775807) : IntKind.wrap .i64 ((i : Int) + 1) = ((i + 1 : Nat) : Int) := by
 rw [y1a] <;> omega
theorem y2x {i n : Nat} (h : i < n) (hn : n ≤ 9223372036854775807) : IntKind.wrap .i64 ((i : Int) + 1) = (i : Int) + 1 := by rw [y1il h hn]; rfl
theorem y1u4 {α : Type} [DecidableEq α] {a b : List α} {i : Nat} (h1 : i < a.length) (h2 : i < b.length) : decide (a.drop i = b.drop i) = (decide (a[i] = b[i]) && decide (a.drop (i + 1) = b.drop (i + 1))) := by
 rw [← Bool.decide_and]
 congr 1
 rw [zk h1, zk h2, List.cons_eq_cons]
@[simp] theorem y2sk (k : Nat) (cs : List AV) : evFa k (.rp cs) = some (.rp (cs.drop k)) := rfl
@[simp] theorem yk (k id g i o : Nat) : evFa k (.lp id g i o) = some (.lp id g i (o + k)) := rfl
@[simp] theorem y2q (agg : Bool) (n : Nat) (cs : List AV) (h : Heap) : evLd agg n (.rp cs) h = y4w agg n cs := rfl
@[simp] theorem y2s (n : Nat) (cs : List AV) : y4w false n cs = cs.head? := rfl
@[simp] theorem y2d8 (cs : List AV) : cellsOf (.agg cs) = cs := rfl
@[simp] theorem y2dm (k : IntKind) (n : Int) : cellsOf (.int k n) = [.int k n] := rfl
@[simp] theorem y25z (b : Bool) : cellsOf (.bool b) = [.bool b] := rfl
@[simp] theorem y2fk (s : List UInt8) : cellsOf (.str s) = [.str s] := rfl
@[simp] theorem y25w : cellsOf .nils = [.nils] := rfl
@[simp] theorem y2hp (es : Nat) (rows : List (List AV)) : cellsOf (.rs es rows) = [.rs es rows] := rfl
@[simp] theorem y2ho (id g es off len : Nat) : cellsOf (.ls id g es off len) = [.ls id g es off len] := rfl
class Cel (α : Type) where
 es : Nat
 enc : α → List AV
 len : ∀ x, (enc x).length = es
 pur : ∀ x, (enc x).all pure1 = true
 leaf : ∀ x, (enc x).all y19 = true
open Cel
instance : Cel Int := ⟨1, fun n => [.int .i64 n], fun _ => rfl, fun _ => rfl, fun _ => rfl⟩
instance : Cel Bool := ⟨1, fun b => [.bool b], fun _ => rfl, fun _ => rfl, fun _ => rfl⟩
abbrev Str := List UInt8
structure Tx where
 s : List UInt8
 deriving DecidableEq, Inhabited
instance : Cel Tx := ⟨1, fun b => [.str b.s], fun _ => rfl, fun _ => rfl, fun _ => rfl⟩
@[simp] theorem y2rd (n : Int) : enc n = [.int .i64 n] := rfl
@[simp] theorem y2qo (b : Bool) : enc b = [.bool b] := rfl
@[simp] theorem y2uk (b : Tx) : enc b = [.str b.s] := rfl
@[simp] theorem ys7 : es Int = 1 := rfl
@[simp] theorem y2to : es Bool = 1 := rfl
@[simp] theorem y2vo : es Tx = 1 := rfl
variable {α : Type} [Cel α]
def scal (x : α) : Bool := (enc x).all y1u
@[simp] theorem y2pt (n : Int) : scal n = true := rfl
@[simp] theorem y2jz (b : Bool) : scal b = true := rfl
@[simp] theorem y2rj (b : Tx) : scal b = true := rfl
def lst (o : Option (List α)) : List α := o.getD []
omit [Cel α] in
@[simp] theorem y21x : lst (none : Option (List α)) = [] := rfl
omit [Cel α] in
@[simp] theorem y57 (L : List α) : lst (some L) = L := rfl
def slA : Option (List α) → AV
 | none => .nils
 | some L => .rs (es α) (L.map enc)
instance : Cel (Option (List α)) := ⟨1, fun o => [slA o], fun _ => rfl, fun o => by cases o <;> rfl, fun o => by cases o <;> rfl⟩
@[simp] theorem y2up (o : Option (List α)) : enc o = [slA o] := rfl
@[simp] theorem y2vj : es (Option (List α)) = 1 := rfl
@[simp] theorem y2ki (k : IntKind) (n : Int) : pure1 (.int k n) = true := rfl
@[simp] theorem y2hi (b : Bool) : pure1 (.bool b) = true := rfl
@[simp] theorem y2nd (b : List UInt8) : pure1 (.str b) = true := rfl
@[simp] theorem y2hc : pure1 .nils = true := rfl
@[simp] theorem y2la (k : IntKind) (n : Int) : y19 (.int k n) = true := rfl
@[simp] theorem y2hb (b : Bool) : y19 (.bool b) = true := rfl
@[simp] theorem y2pa (b : List UInt8) : y19 (.str b) = true := rfl
@[simp] theorem y2hh : y19 .nils = true := rfl
@[simp] theorem y2qn (es : Nat) (r : List (List AV)) : y19 (.rs es r) = true := rfl
@[simp] theorem y2q2 (id g es off len : Nat) : y19 (.ls id g es off len) = true := rfl
@[simp] theorem y2q4 (id g i o : Nat) : y19 (.lp id g i o) = true := rfl
@[simp] theorem y2ef (k : IntKind) (n : Int) : y1u (.int k n) = true := rfl
@[simp] theorem y26c (b : Bool) : y1u (.bool b) = true := rfl
@[simp] theorem y29s (b : List UInt8) : y1u (.str b) = true := rfl
@[simp] theorem y267 : y1u .nils = true := rfl
@[simp] theorem y2hm (o : Option (List α)) : cellsOf (slA o) = [slA o] := by cases o <;> rfl
@[simp] theorem y2q5 (o : Option (List α)) : y19 (slA o) = true := by cases o <;> rfl
@[simp] theorem y125 (o : Option (List α)) : pure1 (slA o) = true := by cases o <;> rfl
@[simp] theorem y17j (o : Option (List α)) : y1u (slA o) = (lst o).isEmpty := by
 cases o with
 | none => rfl
 | some L => cases L <;> rfl
@[simp] theorem y12 (o : Option (List α)) (h : Heap) : y17 1 (slA o) h = some (.int .i64 (lst o).length) := by cases o <;> simp [slA, y17]
@[simp] theorem yhx (s : List UInt8) (h : Heap) : y17 0 (.str s) h = some (.int .i64 s.length) := rfl
@[simp] theorem y1yn (id g es off len : Nat) (h : Heap) : y17 1 (.ls id g es off len) h = some (.int .i64 len) := rfl
@[simp] theorem y2hf (h : Heap) : y17 1 .nils h = some (.int .i64 0) := rfl
@[simp] theorem y2e3 (id g i o : Nat) : ids1 (.lp id g i o) = [id] := rfl
@[simp] theorem y2gw (id g es o l : Nat) : ids1 (.ls id g es o l) = [id] := rfl
@[simp] theorem y2u3 (cs : List AV) : ids1 (.rp cs) = [] := rfl
@[simp] theorem y2q8 (k : IntKind) (n : Int) : ids1 (.int k n) = [] := rfl
@[simp] theorem y2qi (s : List UInt8) : ids1 (.str s) = [] := rfl
@[simp] theorem y2t9 (o : Option (List α)) : ids1 (slA o) = [] := by cases o <;> rfl
@[simp] theorem y1yq (neq : Bool) (o : Option (List α)) : yg0 1 neq (slA o) .nils = some (.bool (if neq then o.isSome else o.isNone)) := by
 cases o <;> cases neq <;> rfl
theorem y7x {o : Option (List α)} {x : α} {i : Nat} (hx : (lst o)[i]? = some x) (k : IntKind) : y10 (es α) (slA o) (.int k i) = some (.rp (enc x)) := by
 cases o with
 | none => simp at hx
 | some L =>
  simp only [y57] at hx
  simp [slA, y10, hx]
theorem yad {o : Option (List α)} {x : α} {n : Int} (h0 : 0 ≤ n) (hx : (lst o)[n.toNat]? = some x) (k : IntKind) : y10 (es α) (slA o) (.int k n) = some (.rp (enc x)) := by
 obtain ⟨i, rfl⟩ := Int.eq_ofNat_of_zero_le h0
 exact y7x (by simpa using hx) k
@[simp] theorem yij (o : Option (List α)) (h : Heap) : y28 h (es α) (slA o) = some ((lst o).map enc) := by
 cases o <;> simp [slA, y28]
@[simp] theorem y2te (o : Option (List α)) (h : Heap) : fz h y1m (slA o) = some ⟨slA o, (lst o).isEmpty, []⟩ := by
 rw [y2sa (y125 o), y17j]
@[simp] theorem y64 (x : α) (h : Heap) : fz h y1m (.agg (enc x)) = some ⟨.agg (enc x), scal x, []⟩ := y2ji h (pur x)
theorem yi2 (L : List α) : (L.map enc).all (·.all pure1) = true := by simp only [List.all_map, z19]; exact fun x _ => pur x
theorem yhw (L : List α) : (L.map enc).all (·.all y1u) = L.all scal := by simp only [List.all_map]; rfl
@[simp] theorem y1h5 (L : List α) (h : Heap) : yv (yv (fz h y1m)) (L.map enc) = some ⟨L.map enc, L.all scal, []⟩ := by rw [y1qb h (yi2 L), yhw]
@[simp] theorem y1in (L : List α) (h : Heap) : yv (yv (fz h 11)) (L.map enc) = some ⟨L.map enc, L.all scal, []⟩ := by rw [y1ek h (yi2 L), yhw]
@[simp] theorem y2ry (o : Option (List α)) : scal o = (lst o).isEmpty := by simp [scal]
@[simp] theorem y77 (L : List α) : (L.map (enc (α := α))).take L.length = L.map enc := by
 rw [z2c (by simp)]
@[simp] theorem yar (x : α) : y4w true (es α) (enc x) = some (.agg (enc x)) := by
 simp only [y4w, if_true, len x, zi, if_pos]
 rw [z2c (by rw [len x]; exact zi _)]
@[simp] theorem y2qr (x : α) : (∀ v, v ∈ enc x → y19 v = true) ↔ True := by
 have := leaf x
 rw [z19] at this
 exact ⟨fun _ => trivial, fun _ => this⟩
theorem y5t (x : α) : (enc x).all y19 = true := leaf x
@[simp] theorem yo1 (h : Heap) (k : IntKind) (n : Int) : fz h y1m (.int k n) = some ⟨.int k n, true, []⟩ := rfl
@[simp] theorem ynw (h : Heap) (b : Bool) : fz h y1m (.bool b) = some ⟨.bool b, true, []⟩ := rfl
@[simp] theorem y2ud (h : Heap) (b : List UInt8) : fz h y1m (.str b) = some ⟨.str b, true, []⟩ := rfl
@[simp] theorem y2q0 (h : Heap) : fz h y1m .nils = some ⟨.nils, true, []⟩ := rfl
@[simp] theorem y2hj (h : Heap) (k : IntKind) (n : Int) : yo h (.int k n) = some ⟨.int k n, [], true, [], []⟩ := rfl
@[simp] theorem y1w (h : Heap) (b : Bool) : yo h (.bool b) = some ⟨.bool b, [], true, [], []⟩ := rfl
@[simp] theorem y2hr (h : Heap) (s : List UInt8) : yo h (.str s) = some ⟨.str s, [], true, [], []⟩ := rfl
@[simp] theorem y29p (h : Heap) : yo h .nils = some ⟨.nils, [], true, [], []⟩ := rfl
@[simp] theorem y2pu (h : Heap) (o : Option (List α)) : yo h (slA o) = some ⟨slA o, [], (lst o).isEmpty, [], []⟩ := by
 cases o with
 | none => rfl
 | some L => simp [slA, y1ys]
theorem y26e {v : AV} (hp : pure1 v = true) (h : Heap) (k : Nat) (os : List OC) : expo h (k + 1) v os = some ⟨v, os, y1u v, [], []⟩ := by
 cases v <;> simp_all [expo, pure1]
theorem y244 {cs : List AV} (h : Heap) (k : Nat) (os : List OC) (hp : cs.all pure1 = true) : y30 (expo h (k + 1)) cs os = some ⟨cs, os, cs.all y1u, [], []⟩ := by
 induction cs with
 | nil => rfl
 | cons c cs ih =>
  simp only [List.all_cons, zc] at hp
  rw [y30, y26e hp.1]
  simp only [ih hp.2]
  rfl
theorem y1if (h : Heap) (cs : List AV) : yo h (.agg cs) = match y30 (expo h 11) cs [] with
  | some r => if y3l r.xs r.fs then some ⟨.agg r.v, r.objs, r.fresh, [], []⟩ else none
  | none => none := by
 show (match (match y30 (expo h 11) cs [] with
  | some r => some (⟨.agg r.v, r.objs, r.fresh, r.xs, r.fs⟩ : Ex AV)
  | none => none) with
  | some r => if y3l r.xs r.fs then some (⟨r.v, r.objs, r.fresh, [], []⟩ : Ex AV) else none
  | none => none) = _
 cases y30 (expo h 11) cs [] <;> rfl
theorem ycr (h : Heap) (cs : List AV) : yo h (.tup cs) = match y30 (expo h 11) cs [] with
  | some r => if y3l r.xs r.fs then some ⟨.tup r.v, r.objs, r.fresh, [], []⟩ else none
  | none => none := by
 show (match (match y30 (expo h 11) cs [] with
  | some r => some (⟨.tup r.v, r.objs, r.fresh, r.xs, r.fs⟩ : Ex AV)
  | none => none) with
  | some r => if y3l r.xs r.fs then some (⟨r.v, r.objs, r.fresh, [], []⟩ : Ex AV) else none
  | none => none) = _
 cases y30 (expo h 11) cs [] <;> rfl
@[simp] theorem y2mo (h : Heap) (x : α) : yo h (.agg (enc x)) = some ⟨.agg (enc x), [], scal x, [], []⟩ := by
 rw [y1if, y244 h 10 [] (pur x)]
 rfl
theorem yu5 (h : Heap) (k id g es1 off len : Nat) (os : List OC) : expo h (k + 1) (.ls id g es1 off len) os = match yr h id g with
  | some (true, _, _) => exFz h (.ls id g es1 off len) os
  | some (false, es, rows) => if es1 = es ∧ off + len ≤ rows.length then
    match yv (yv (fz h y1m)) ((rows.drop off).take len) with
    | some r => some ⟨.ls os.length 0 es 0 len, os ++ [.arr false false es r.v], r.fresh, [id], r.ids⟩
    | none => none
   else none
  | none => none := by
 rw [expo]
 rfl
theorem y2p4 (h : Heap) (k id g es1 off len : Nat) : fz h (k + 1) (.ls id g es1 off len) = match yr h id g with
  | some (_, es, rows) => if es1 = es ∧ off + len ≤ rows.length then (match yv (yv (fz h k)) ((rows.drop off).take len) with
   | some r => some ⟨.rs es r.v, r.fresh, id :: r.ids⟩
   | none => none) else none
  | none => none := by
 rw [fz]
 rfl
theorem y1yj (L : List α) (h : Heap) (k : Nat) : yv (yv (fz h (k + 1))) (L.map enc) = some ⟨L.map enc, L.all scal, []⟩ := by rw [y8b h k (yi2 L), yhw]
@[simp] theorem y1k {β γ : Type} (f : β → Option (Fz γ)) : yv f [] = some ⟨[], true, []⟩ := rfl
@[simp] theorem ym {β γ : Type} (f : β → Option (Fz γ)) (x : β) (xs : List β) : yv f (x :: xs) = match f x, yv f xs with
  | some a, some b => some ⟨a.v :: b.v, a.fresh && b.fresh, a.ids ++ b.ids⟩
  | _, _ => none := rfl
theorem y27r {E : Env} {C : Calls2} {fb : Nat} {f : Nat} {args : List AV} {h : Heap} {fa : Fz (List AV)} {r : Ex AV} {q : Fz AV} (hE : E.pure f = true) (ha : yv (fz h y1m) args = some fa)
  (hf : fa.ids = []) (hc : C.p f fa.v = some r) (hq : fz (y2n r.objs) y1m r.v = some q) (sl : Option Nat := none) (hsl : sl = none := by rfl) : yc E C fb sl true f args h = some (q.v, h) := by
 subst hsl
 simp [yc, hE, y38, ha, hc, hf, hq]
end Go.Vm
namespace Go.Vm
open Cel
structure Ins where
 op : Int
 d : Int
 a : Int
 b : Int
 c : Int
 n : Int
 t : Int
 s : List UInt8
 args : Option (List Int)
 deriving DecidableEq, Inhabited
structure Row where
 f : Int
 t : Int
 at_ : Int
 c : List UInt8
 deriving DecidableEq, Inhabited
structure Fn where
 regs : Option (List Int)
 params : Option (List Int)
 ret : Int
 code : Option (List Ins)
 rows : Option (List Row)
 deriving DecidableEq, Inhabited
instance : Cel Ins := ⟨9, fun x => [.int .i64 x.op, .int .i64 x.d, .int .i64 x.a, .int .i64 x.b, .int .i64 x.c, .int .i64 x.n, .int .i64 x.t, .str x.s, slA x.args], fun _ => rfl,
 fun x => by simp, fun x => by simp⟩
instance : Cel Row := ⟨4, fun x => [.int .i64 x.f, .int .i64 x.t, .int .i64 x.at_, .str x.c], fun _ => rfl, fun x => rfl, fun x => rfl⟩
instance : Cel Fn := ⟨5, fun x => [slA x.regs, slA x.params, .int .i64 x.ret, slA x.code, slA x.rows], fun _ => rfl, fun x => by simp, fun x => by simp⟩
@[simp] theorem y2uo : es Ins = 9 := rfl
@[simp] theorem y2uh : es Row = 4 := rfl
@[simp] theorem y2vh : es Fn = 5 := rfl
section
variable (x : Ins) (r : Row) (f : Fn)
@[simp high] theorem ins0 : (enc x).head? = some (.int .i64 x.op) := rfl
@[simp high] theorem y2vb : (enc x)[0]? = some (.int .i64 x.op) := rfl
@[simp high] theorem ins1 : ((enc x).drop 1).head? = some (.int .i64 x.d) := rfl
@[simp high] theorem y2v2 : (enc x)[1]? = some (.int .i64 x.d) := rfl
@[simp high] theorem ins2 : ((enc x).drop 2).head? = some (.int .i64 x.a) := rfl
@[simp high] theorem y2v7 : (enc x)[2]? = some (.int .i64 x.a) := rfl
@[simp high] theorem ins3 : ((enc x).drop 3).head? = some (.int .i64 x.b) := rfl
@[simp high] theorem y2ve : (enc x)[3]? = some (.int .i64 x.b) := rfl
@[simp high] theorem ins4 : ((enc x).drop 4).head? = some (.int .i64 x.c) := rfl
@[simp high] theorem y2va : (enc x)[4]? = some (.int .i64 x.c) := rfl
@[simp high] theorem ins5 : ((enc x).drop 5).head? = some (.int .i64 x.n) := rfl
@[simp high] theorem y2vl : (enc x)[5]? = some (.int .i64 x.n) := rfl
@[simp high] theorem ins6 : ((enc x).drop 6).head? = some (.int .i64 x.t) := rfl
@[simp high] theorem y2vi : (enc x)[6]? = some (.int .i64 x.t) := rfl
@[simp high] theorem ins7 : ((enc x).drop 7).head? = some (.str x.s) := rfl
@[simp high] theorem y2v9 : (enc x)[7]? = some (.str x.s) := rfl
@[simp high] theorem ins8 : ((enc x).drop 8).head? = some (slA x.args) := rfl
@[simp high] theorem y2vd : (enc x)[8]? = some (slA x.args) := rfl
@[simp high] theorem row0 : (enc r).head? = some (.int .i64 r.f) := rfl
@[simp high] theorem y2v4 : (enc r)[0]? = some (.int .i64 r.f) := rfl
@[simp high] theorem row1 : ((enc r).drop 1).head? = some (.int .i64 r.t) := rfl
@[simp high] theorem y2vf : (enc r)[1]? = some (.int .i64 r.t) := rfl
@[simp high] theorem row2 : ((enc r).drop 2).head? = some (.int .i64 r.at_) := rfl
@[simp high] theorem y2vg : (enc r)[2]? = some (.int .i64 r.at_) := rfl
@[simp high] theorem row3 : ((enc r).drop 3).head? = some (.str r.c) := rfl
@[simp high] theorem y2vk : (enc r)[3]? = some (.str r.c) := rfl
@[simp high] theorem fn0 : (enc f).head? = some (slA f.regs) := rfl
@[simp high] theorem fn0q : (enc f)[0]? = some (slA f.regs) := rfl
@[simp high] theorem fn1 : ((enc f).drop 1).head? = some (slA f.params) := rfl
@[simp high] theorem fn1q : (enc f)[1]? = some (slA f.params) := rfl
@[simp high] theorem fn2 : ((enc f).drop 2).head? = some (.int .i64 f.ret) := rfl
@[simp high] theorem fn2q : (enc f)[2]? = some (.int .i64 f.ret) := rfl
@[simp high] theorem fn3 : ((enc f).drop 3).head? = some (slA f.code) := rfl
@[simp high] theorem fn3q : (enc f)[3]? = some (slA f.code) := rfl
@[simp high] theorem fn4 : ((enc f).drop 4).head? = some (slA f.rows) := rfl
@[simp high] theorem fn4q : (enc f)[4]? = some (slA f.rows) := rfl
@[simp] theorem yeh : y4w true 9 (enc x) = some (.agg (enc x)) := yar x
@[simp] theorem y2ab : y4w true 4 (enc r) = some (.agg (enc r)) := yar r
@[simp] theorem y2ug : y4w true 5 (enc f) = some (.agg (enc f)) := yar f
@[simp] theorem yhg : (enc x).length = 9 := rfl
@[simp] theorem y2se : (enc r).length = 4 := rfl
@[simp] theorem y2un : (enc f).length = 5 := rfl
@[simp] theorem y135 : (enc x).all y19 = true := y5t x
@[simp] theorem y2ps : (enc r).all y19 = true := y5t r
@[simp] theorem y2rh : (enc f).all y19 = true := y5t f
end
theorem yeo {o : Option (List Ins)} {x : Ins} {i : Nat} (hx : (lst o)[i]? = some x) (k : IntKind) : y10 9 (slA o) (.int k i) = some (.rp (enc x)) := y7x hx k
theorem yuf {o : Option (List Row)} {x : Row} {i : Nat} (hx : (lst o)[i]? = some x) (k : IntKind) : y10 4 (slA o) (.int k i) = some (.rp (enc x)) := y7x hx k
theorem y3j {o : Option (List Int)} {x : Int} {i : Nat} (hx : (lst o)[i]? = some x) (k : IntKind) : y10 1 (slA o) (.int k i) = some (.rp [.int .i64 x]) := y7x hx k
theorem ye1 {o : Option (List Ins)} {x : Ins} {n : Int} (h0 : 0 ≤ n) (hx : (lst o)[n.toNat]? = some x) (k : IntKind) : y10 9 (slA o) (.int k n) = some (.rp (enc x)) := yad h0 hx k
theorem ywh {o : Option (List Int)} {x : Int} {n : Int} (h0 : 0 ≤ n) (hx : (lst o)[n.toNat]? = some x) (k : IntKind) : y10 1 (slA o) (.int k n) = some (.rp [.int .i64 x]) := yad h0 hx k
@[simp] theorem y2hn (o : Option (List Int)) (h : Heap) : y28 h 1 (slA o) = some ((lst o).map enc) := yij o h
@[simp] theorem y2hg (o : Option (List Ins)) (h : Heap) : y28 h 9 (slA o) = some ((lst o).map enc) := yij o h
@[simp] theorem y2hk (o : Option (List Row)) (h : Heap) : y28 h 4 (slA o) = some ((lst o).map enc) := yij o h
def exO {α : Type} [Cel α] : Option (List α) → Ex AV
 | none => ⟨.nils, [], true, [], []⟩
 | some L => ⟨.ls 0 0 (es α) 0 L.length, [.arr false false (es α) (L.map enc)], L.all scal, [], []⟩
@[simp] theorem y15e {α : Type} [Cel α] (o : Option (List α)) : fz (y2n (exO o).objs) y1m (exO o).v = some ⟨slA o, (lst o).all scal, match o with | none => [] | some _ => [0]⟩ := by
 cases o with
 | none => rfl
 | some L =>
  show fz [⟨0, .arr false false (es α) (L.map enc)⟩] y1m (.ls 0 0 (es α) 0 L.length) = _
  rw [y2ej]
  simp [yr, y23, slA]
@[simp] theorem y2qe {α : Type} [Cel α] (fb j : Nat) (L : List α) (h : Heap) : y39 fb (some j) (exO (some L)).objs [] h = match h[fb + j]? with
  | some o => some ([(fb + j, o.gen + 1)], h.set (fb + j) ⟨o.gen + 1, .arr false false (es α) (L.map enc)⟩)
  | none => none := by
 simp only [exO, y39, y53, okOC, if_true, place, List.nil_append]
 cases h[fb + j]? <;> rfl
@[simp] theorem y2ne {α : Type} [Cel α] (fb : Nat) (j : Option Nat) (h : Heap) : y39 fb j (exO (none : Option (List α))).objs [] h = some ([], h) := rfl
@[simp] theorem y2q1 {α : Type} [Cel α] (id g : Nat) (L : List α) : reloc [(id, g)] (exO (some L)).v = .ls id g (es α) 0 L.length := rfl
@[simp] theorem y2iz {α : Type} [Cel α] (tab : List (Nat × Nat)) : reloc tab (exO (none : Option (List α))).v = .nils := rfl
theorem y46 {α : Type} [Cel α] {h : Heap} {id g : Nat} {L : List α} (hr : yr h id g = some (false, es α, L.map enc)) : yo h (.ls id g (es α) 0 L.length) = some (exO (some L)) := by
 rw [yjj, hr]
 simp [exO]
attribute [simp] newC y8l y2k place
@[simp] theorem ygq (g : Nat) (b f : Bool) (e : Nat) (r : List (List AV)) (t : Heap) : yr (⟨g, .arr b f e r⟩ :: t) 0 g = some (f, e, r) := by simp [yr, y23]
@[simp] theorem yob (o : AO) (t : Heap) (i g : Nat) : yr (o :: t) (i + 1) g = yr t i g := rfl
@[simp] theorem y2pj (g : Nat) (b f : Bool) (e : Nat) (r r' : List (List AV)) (t : Heap) : y2j (⟨g, .arr b f e r⟩ :: t) 0 r' = ⟨g, .arr b f e r'⟩ :: t := rfl
@[simp] theorem y2kv (o : AO) (t : Heap) (i : Nat) (r : List (List AV)) : y2j (o :: t) (i + 1) r = o :: y2j t i r := by
 simp only [y2j, List.getElem?_cons_succ]
 split <;> simp_all
@[simp] theorem yor (n id g i off : Nat) (v : AV) (h : Heap) : evSt n (.lp id g i off) v h = match yr h id g with
  | some (false, _, rows) => match rows[i]? with
   | some row => if (cellsOf v).length = n ∧ off + n ≤ row.length ∧ (cellsOf v).all y19 = true then some (.tup [], y2j h id (rows.set i (y1f off (cellsOf v) row))) else none
   | none => none
  | _ => none := rfl
@[simp] theorem yl0 {vs row : List AV} (h : row.length = vs.length) : y1f 0 vs row = vs := by
 simp [y1f, ← h]
section
variable (x : Ins) (n : Int) (s : List UInt8) (o : Option (List Int))
@[simp] theorem y2rn : y1f 0 [.int .i64 n] (enc x) = enc { x with op := n } := rfl
@[simp] theorem y2r9 : y1f 1 [.int .i64 n] (enc x) = enc { x with d := n } := rfl
@[simp] theorem y2sq : y1f 2 [.int .i64 n] (enc x) = enc { x with a := n } := rfl
@[simp] theorem y2rz : y1f 3 [.int .i64 n] (enc x) = enc { x with b := n } := rfl
@[simp] theorem y2st : y1f 4 [.int .i64 n] (enc x) = enc { x with c := n } := rfl
@[simp] theorem y2ua : y1f 5 [.int .i64 n] (enc x) = enc { x with n := n } := rfl
@[simp] theorem y2qt : y1f 6 [.int .i64 n] (enc x) = enc { x with t := n } := rfl
@[simp] theorem y2ta : y1f 7 [.str s] (enc x) = enc { x with s := s } := rfl
@[simp] theorem y2td : y1f 8 [slA o] (enc x) = enc { x with args := o } := rfl
end
def y47 (x : Ins) (v : AV) : List AV := [.int .i64 x.op, .int .i64 x.d, .int .i64 x.a, .int .i64 x.b, .int .i64 x.c, .int .i64 x.n, .int .i64 x.t, .str x.s, v]
@[simp] theorem y2qc (x : Ins) (id g es off len : Nat) : y1f 8 [.ls id g es off len] (enc x) = y47 x (.ls id g es off len) := rfl
@[simp] theorem y2pz (x : Ins) : y1f 8 [.nils] (enc x) = enc { x with args := none } := rfl
@[simp] theorem y170 (x : Ins) (v : AV) : (y47 x v).length = 9 := rfl
@[simp] theorem y2hl (x : Ins) (v : AV) : y4w true 9 (y47 x v) = some (.agg (y47 x v)) := rfl
@[simp] theorem y2hq (x : Ins) (w : AV) : (∀ v, v ∈ y47 x w → y19 v = true) ↔ y19 w = true := by simp [y47]
theorem y15v (x : Ins) (v : AV) (h : y19 v = true) : (y47 x v).all y19 = true := by simp [y47, h]
def y72 (r : Ex AV) (v : AV) : Prop := ∃ q, fz (y2n r.objs) y1m r.v = some q ∧ q.v = v
@[simp] theorem y3z (agg : Bool) (n id g i off : Nat) (h : Heap) : evLd agg n (.lp id g i off) h = match yr h id g with
  | some (_, _, rows) => match rows[i]? with
   | some row => y4w agg n (row.drop off)
   | none => none
  | none => none := rfl
end Go.Vm
namespace Go.Vm
open Cel
def inI (n : Int) : Prop := -9223372036854775808 ≤ n ∧ n ≤ 9223372036854775807
abbrev tyI : Ty := .int .i64
theorem y2rk {cs : List AV} (h : tyI.has cs) : ∃ n : Int, cs = [.int .i64 n] ∧ inI n := by
 obtain ⟨n, rfl, h1, h2⟩ := h
 exact ⟨n, rfl, by simpa [IntKind.min, IntKind.max, IntKind.signed, IntKind.bits] using h1, by simpa [IntKind.min, IntKind.max, IntKind.signed, IntKind.bits] using h2⟩
theorem y2u7 {cs : List AV} (h : Ty.str.has cs) : ∃ s : List UInt8, cs = [.str s] ∧ s.length ≤ reachBytes := h
theorem ywf {α : Type} [Cel α] {T : Ty} {Q : α → Prop} (hT : ∀ row, T.has row → ∃ x : α, row = enc x ∧ Q x) : ∀ (rows : List (List AV)), (∀ row, row ∈ rows → T.has row) → ∃ L : List α, rows = L.map enc ∧ ∀ x ∈ L, Q x
 | [], _ => ⟨[], rfl, fun x h => by cases h⟩
 | r :: rows, h => by
  obtain ⟨L, rfl, hL⟩ := ywf hT rows (fun row hr => h row (by simp [hr]))
  obtain ⟨x, rfl, hx⟩ := hT r (h r (by simp))
  refine ⟨x :: L, rfl, fun y hy => ?_⟩
  rcases zq.1 hy with rfl | hy
  ·exact hx
  ·exact hL y hy
theorem y265 {α : Type} [Cel α] {T : Ty} {Q : α → Prop} (hT : ∀ row, T.has row → ∃ x : α, row = enc x ∧ Q x) {cs : List AV} (h : (Ty.slice (es α) T).has cs) : ∃ o : Option (List α), cs = [slA o] ∧ (lst o).length ≤ maxLen ∧ (lst o).length * T.bytes ≤ reachBytes ∧ ∀ x ∈ lst o, Q x := by
 rcases h with rfl | ⟨rows, rfl, hl, hz, hr⟩
 ·exact ⟨none, rfl, z2s _, by simp, fun x h => by cases h⟩
 ·obtain ⟨L, rfl, hL⟩ := ywf hT rows hr
  exact ⟨some L, rfl, by simpa using hl, by simpa using hz, hL⟩
abbrev y1ok : Ty := .slice 1 tyI
theorem y1v4 {cs : List AV} (h : y1ok.has cs) : ∃ o : Option (List Int), cs = [slA o] ∧ (lst o).length * 8 ≤ reachBytes ∧ ∀ x ∈ lst o, inI x := by
 obtain ⟨o, h1, _, h2, h3⟩ := y265 (α := Int) (T := tyI) (fun _ h => y2rk h) h
 exact ⟨o, h1, h2, h3⟩
abbrev y1ru : Ty := .slice 1 .str
theorem y1xx {cs : List AV} (h : y1ru.has cs) : ∃ o : Option (List Tx), cs = [slA o] ∧ ∀ t ∈ lst o, t.s.length ≤ reachBytes := by
 obtain ⟨o, h1, _, _, h3⟩ := y265 (α := Tx) (T := .str) (Q := fun t => t.s.length ≤ reachBytes) (fun _ h => by obtain ⟨s, rfl, k⟩ := y2u7 h; exact ⟨⟨s⟩, rfl, k⟩) h
 exact ⟨o, h1, h3⟩
structure InsOk (x : Ins) : Prop where
 op : inI x.op
 d : inI x.d
 a : inI x.a
 b : inI x.b
 c : inI x.c
 n : inI x.n
 t : inI x.t
 s : x.s.length ≤ reachBytes
 len : (lst x.args).length * 8 ≤ reachBytes
 args : ∀ r ∈ lst x.args, inI r
structure RowOk (r : Row) : Prop where
 f : inI r.f
 t : inI r.t
 a : inI r.at_
 c : r.c.length ≤ reachBytes
structure FnIn (f : Fn) : Prop where
 regs : (lst f.regs).length * 8 ≤ reachBytes
 regI : ∀ x ∈ lst f.regs, inI x
 params : (lst f.params).length * 8 ≤ reachBytes
 parI : ∀ x ∈ lst f.params, inI x
 ret : inI f.ret
 code : (lst f.code).length * 96 ≤ reachBytes
 insI : ∀ x ∈ lst f.code, InsOk x
 rows : (lst f.rows).length * 40 ≤ reachBytes
 rowI : ∀ x ∈ lst f.rows, RowOk x
end Go.Vm
namespace Go.Vm
def calls (o : Int) : Bool := decide (23 ≤ o) && decide (o ≤ 26)
def ends (o : Int) : Bool := decide (o = 27) || decide (o = 30) || decide (o = 31)
def leads (o : Int) : Bool := decide (o = 27) || decide (o = 28) || decide (o = 29)
def throws (o : Int) : Bool := (decide (7 ≤ o) && decide (o ≤ 12)) || decide (o = 20) || decide (o = 21) || decide (o = 31) || calls o
def writes (o : Int) : Bool := decide (o ∈ [1, 2, 3, 4, 5, 6, 13, 15, 16, 18, 20, 21, 22, 32]) || calls o
def defr (x : Ins) : Int := if writes x.op then x.d else -1
def reads (o : Int) : Nat :=
 if o ∈ [4, 6, 7, 8, 10, 12, 15, 16, 19, 21, 22, 31] then 1 else if o ∈ [5, 9, 11, 13, 17, 28] then 2 else if o = 14 then 3 else 0
def uses (x : Ins) : Option (List Int) :=
 if calls x.op then x.args
 else if x.op = 29 then (if x.b < 0 then some [x.a] else some [x.a, x.b])
 else if x.op = 30 then (if 0 ≤ x.a then some [x.a] else none)
 else if reads x.op = 1 then some [x.a] else if reads x.op = 2 then some [x.a, x.b] else if reads x.op = 3 then some [x.a, x.b, x.c] else none
theorem ydj (o : Int) : o = 1 ∨ o = 2 ∨ o = 3 ∨ o = 4 ∨ o = 5 ∨ o = 6 ∨ o = 7 ∨ o = 8 ∨ o = 9 ∨ o = 10 ∨ o = 11 ∨ o = 12 ∨ o = 13 ∨ o = 14 ∨ o = 15 ∨ o = 16 ∨ o = 17 ∨ o = 18 ∨ o = 19 ∨ o = 20 ∨ o = 21 ∨ o = 22 ∨ o = 23 ∨ o = 24 ∨ o = 25 ∨ o = 26 ∨ o = 27 ∨ o = 28 ∨ o = 29 ∨ o = 30 ∨ o = 31 ∨ o = 32 ∨ o = 33 ∨ o < 1 ∨ 33 < o := by omega
theorem lo_f {o : Int} (h : o < 1) : (¬ o = 1 ∧ ¬ o = 2 ∧ ¬ o = 3 ∧ ¬ o = 4 ∧ ¬ o = 5 ∧ ¬ o = 6 ∧ ¬ o = 7 ∧ ¬ o = 8 ∧ ¬ o = 9 ∧ ¬ o = 10 ∧ ¬ o = 11 ∧ ¬ o = 12 ∧ ¬ o = 13 ∧ ¬ o = 14 ∧ ¬ o = 15 ∧ ¬ o = 16 ∧ ¬ o = 17 ∧ ¬ o = 18 ∧ ¬ o = 19 ∧ ¬ o = 20 ∧ ¬ o = 21 ∧ ¬ o = 22 ∧ ¬ o = 23 ∧ ¬ o = 24 ∧ ¬ o = 25 ∧ ¬ o = 26 ∧ ¬ o = 27 ∧ ¬ o = 28 ∧ ¬ o = 29 ∧ ¬ o = 30 ∧ ¬ o = 31 ∧ ¬ o = 32 ∧ ¬ o = 33) ∧ ¬ 7 ≤ o ∧ ¬ 23 ≤ o ∧ ¬ 1 ≤ o := by omega
theorem hi_f {o : Int} (h : 33 < o) : (¬ o = 1 ∧ ¬ o = 2 ∧ ¬ o = 3 ∧ ¬ o = 4 ∧ ¬ o = 5 ∧ ¬ o = 6 ∧ ¬ o = 7 ∧ ¬ o = 8 ∧ ¬ o = 9 ∧ ¬ o = 10 ∧ ¬ o = 11 ∧ ¬ o = 12 ∧ ¬ o = 13 ∧ ¬ o = 14 ∧ ¬ o = 15 ∧ ¬ o = 16 ∧ ¬ o = 17 ∧ ¬ o = 18 ∧ ¬ o = 19 ∧ ¬ o = 20 ∧ ¬ o = 21 ∧ ¬ o = 22 ∧ ¬ o = 23 ∧ ¬ o = 24 ∧ ¬ o = 25 ∧ ¬ o = 26 ∧ ¬ o = 27 ∧ ¬ o = 28 ∧ ¬ o = 29 ∧ ¬ o = 30 ∧ ¬ o = 31 ∧ ¬ o = 32 ∧ ¬ o = 33) ∧ 7 ≤ o ∧ 23 ≤ o ∧ ¬ o ≤ 12 ∧ ¬ o ≤ 26 ∧ 1 ≤ o := by omega
end Go.Vm
namespace Go.Vm
open Cel
structure Wd where
 n : Int
 deriving DecidableEq, Inhabited
instance : Cel Wd := ⟨1, fun w => [.int .u32 w.n], fun _ => rfl, fun _ => rfl, fun _ => rfl⟩
@[simp] theorem y2v5 : es Wd = 1 := rfl
theorem y2nj (w : Wd) : enc w = [.int .u32 w.n] := rfl
def ixOf {κ : Type} [DecidableEq κ] (k : κ) : List κ → Nat
 | [] => 0
 | x :: r => if k = x then 0 else ixOf k r + 1
def wU (n : Int) : Int := IntKind.wrap .u32 n
def regU (r : Int) : Int := if r < 0 then 255 else wU r
def on1M (x : Ins) (i : Nat) : Int := if calls x.op then -1 else (lst (uses x)).getD i (-1)
def shlU (a : Int) (k : Nat) : Int := wU (a * 2 ^ k)
def orU (a b : Int) : Int := wU (BitVec.ofInt 32 a ||| BitVec.ofInt 32 b).toNat
def y2r (x : Ins) : Int := orU (orU (orU (shlU (wU x.op) 24) (shlU (regU (defr x)) 16)) (shlU (regU (on1M x 0)) 8)) (regU (on1M x 1))
structure BS where
 W : List Wd
 N : List Int
 T : List Tx
 Y : List Int
def adW (s : BS) (n : Int) : BS := { s with W := s.W ++ [⟨n⟩] }
def adN (s : BS) (n : Int) : BS := if n ∈ s.N then s else { s with N := s.N ++ [n] }
def adT (s : BS) (t : Tx) : BS := if t ∈ s.T then s else { s with T := s.T ++ [t] }
def wayM (s : BS) (t : Int) : BS := adW { s with Y := s.Y ++ [(s.W.length : Int)] } (wU t)
def numW (s : BS) (n : Int) : BS := adW (adN s n) (wU (ixOf n s.N))
def yea (s : BS) (t : Str) : BS := adW (adT s ⟨t⟩) (wU (ixOf ⟨t⟩ s.T))
def yhp : List Int → BS → BS
 | [], s => s
 | r :: l, s => yhp l (adW s (regU r))
def yn5 (s : BS) (x : Ins) : BS := yhp (lst x.args) (adW s (wU (lst x.args).length))
def k1 (o : Int) : Bool := decide (o = 1) || decide (o = 5) || decide (o = 6) || decide (o = 16) || decide (o = 17) || decide (o = 18) || decide (o = 19) || decide (o = 20)
def k2 (o : Int) : Bool := decide (o = 3) || decide (o = 12) || decide (o = 21) || decide (o = 22)
def y44 (s : BS) (x : Ins) : BS :=
 if k1 x.op then numW s x.n
 else if k2 x.op then yea s x.s
 else if x.op = 14 then adW s (regU x.c)
 else if x.op = 27 then wayM s x.t
 else if x.op = 28 ∨ x.op = 29 then adW (wayM s x.t) (wU x.n)
 else if x.op = 25 then yn5 (yea s x.s) x
 else if x.op = 23 ∨ x.op = 24 ∨ x.op = 26 then yn5 (numW s x.n) x
 else s
def putM (s : BS) (x : Ins) : BS := y44 (adW s (y2r x)) x
def y1x (o : Int) : Int := if k1 o || k2 o || decide (o = 14) || decide (o = 27) then 1 else if decide (28 ≤ o) && decide (o ≤ 29) || calls o then 2 else 0
theorem y1px : ∀ (l : List Int) (s : BS), yhp l s = { s with W := s.W ++ l.map fun r => ⟨regU r⟩ }
 | [], s => by simp [yhp]
 | r :: l, s => by
  rw [yhp, y1px l]
  simp [adW]
end Go.Vm
namespace Go.Vm
open Cel
attribute [local simp] yc y38 y1t
@[simp] theorem y2ur (x : Ins) : (yd E).p 24 [.agg (enc x)] = some ⟨.bool (ends x.op), [], true, [], []⟩ := by
 rw [y2sv, y295]
 by_cases h1 : x.op = 27
 ·simp [h1, ends]
 by_cases h2 : x.op = 30
 ·simp [h2, ends]
 by_cases h3 : x.op = 31 <;> simp [h1, h2, h3, ends]
@[simp] theorem y2uf (x : Ins) : (yd E).p 22 [.agg (enc x)] = some ⟨.bool (leads x.op), [], true, [], []⟩ := by
 rw [y2sb, y2cj]
 by_cases h1 : x.op = 27
 ·simp [h1, leads]
 by_cases h2 : x.op = 28
 ·simp [h2, leads]
 by_cases h3 : x.op = 29 <;> simp [h1, h2, h3, leads]
@[simp] theorem yel (x : Ins) : (yd E).p 17 [.agg (enc x)] = some ⟨.bool (calls x.op), [], true, [], []⟩ := by
 rw [y2u1, y2g3]
 by_cases h1 : 23 ≤ x.op
 ·by_cases h2 : x.op ≤ 26 <;> simp [h1, h2, calls]
 ·simp [h1, calls]
end Go.Vm
namespace Go.Vm
open Cel
attribute [local simp] yc y38 y1t
@[simp] theorem ytn (o : Option (List Int)) (h : (lst o).length ≤ 17592186043904) : (yd E).p 39 [slA o] = some (exO o) := by
 rw [y2j3]
 cases o with
 | none => simp [y156, yx4, y01]; rfl
 | some L =>
  simp only [y57] at h
  have h1 : (2 * L.length + 512) * 8 ≤ 281474976710656 := by omega
  simp [y156, yx4, y01, yl, y1i, y1v, h1]
  exact y46 (α := Int) (by simp)
end Go.Vm
namespace Go.Vm
open Cel
attribute [local simp] yc y38 y1t
theorem y2ic (x : Ins) (h : x.op = 4 ∨ x.op = 6 ∨ x.op = 7 ∨ x.op = 8 ∨ x.op = 10 ∨ x.op = 12 ∨ x.op = 15 ∨ x.op = 16 ∨ x.op = 19 ∨ x.op = 21 ∨ x.op = 22 ∨ x.op = 31) : (yd E).p 10 [.agg (enc x)] = some (exO (uses x)) := by
 rw [ysk]
 rcases h with h|h|h|h|h|h|h|h|h|h|h|h <;> (simp [h, uses, calls, reads, ycb, yd3, yct, ydz, ycm, ya9, ye6, ye5, ydt, y4o, y6y, y3f, y6t, y6n, y6v, yl, y1i]; exact y46 (α := Int) (L := [x.a]) (by simp))
theorem y2om (x : Ins) (h : x.op = 5 ∨ x.op = 9 ∨ x.op = 11 ∨ x.op = 13 ∨ x.op = 17 ∨ x.op = 28) : (yd E).p 10 [.agg (enc x)] = some (exO (uses x)) := by
 rw [ysk]
 rcases h with h|h|h|h|h|h <;> (simp [h, uses, calls, reads, ycb, yd3, yct, ydz, ycm, ya9, ye6, ye5, ydt, y4o, y6y, y3f, y6t, y6n, y6v, yl, y1i]; exact y46 (α := Int) (L := [x.a, x.b]) (by simp))
theorem y2ie (x : Ins) (h : x.op = 14) : (yd E).p 10 [.agg (enc x)] = some (exO (uses x)) := by
 rw [ysk]
 simp [h, uses, calls, reads, ycb, yd3, yct, ydz, ycm, ya9, ye6, ye5, ydt, y4o, y6y, y3f, y6t, y6n, y6v, yl, y1i]
 exact y46 (α := Int) (L := [x.a, x.b, x.c]) (by simp)
theorem y2ju (x : Ins) (h : x.op = 23 ∨ x.op = 24 ∨ x.op = 25 ∨ x.op = 26) (hl : (lst x.args).length ≤ 17592186043904) : (yd E).p 10 [.agg (enc x)] = some (exO (uses x)) := by
 rw [ysk]
 have e : uses x = x.args := by rcases h with h|h|h|h <;> simp [h, uses, calls]
 rw [e]
 have hc := ytn x.args hl
 cases ha : x.args with
 | none =>
  rw [ha] at hc
  rcases h with h|h|h|h <;> (simp [h, ycb, yd3, yct, ydz, ycm, ya9, ye6, ye5, ydt, y4o, y6y, y3f, y6t, y6n, y6v, ha, hc, exO, y39, reloc, ybb, y3d]; done)
 | some L =>
  rw [ha] at hc
  rcases h with h|h|h|h <;> (simp [h, ycb, yd3, yct, ydz, ycm, ya9, ye6, ye5, ydt, y4o, y6y, y3f, y6t, y6n, y6v, ha, hc, y39, y53, okOC, reloc, ybb, y3d, exO]; exact y46 (α := Int) (L := L) (by simp))
theorem y2oj (x : Ins) (h : x.op = 29) : (yd E).p 10 [.agg (enc x)] = some (exO (uses x)) := by
 rw [ysk]
 by_cases hb : x.b < 0
 ·simp [hb, h, uses, calls, reads, ycb, yd3, yct, ydz, ycm, ya9, ye6, ye5, ydt, y4o, y6y, y3f, y6t, y6n, y6v, yl, y1i]
  exact y46 (α := Int) (L := [x.a]) (by simp)
 ·simp [hb, h, uses, calls, reads, ycb, yd3, yct, ydz, ycm, ya9, ye6, ye5, ydt, y4o, y6y, y3f, y6t, y6n, y6v, yl, y1i]
  exact y46 (α := Int) (L := [x.a, x.b]) (by simp)
theorem y2i4 (x : Ins) (h : x.op = 30) : (yd E).p 10 [.agg (enc x)] = some (exO (uses x)) := by
 rw [ysk]
 by_cases hb : 0 ≤ x.a
 ·simp [hb, h, uses, calls, reads, ycb, yd3, yct, ydz, ycm, ya9, ye6, ye5, ydt, y4o, y6y, y3f, y6t, y6n, y6v, yl, y1i]
  exact y46 (α := Int) (L := [x.a]) (by simp)
 ·simp [hb, h, uses, calls, reads, ycb, yd3, yct, ydz, ycm, ya9, ye6, ye5, ydt, y4o, y6y, y3f, y6t, y6n, y6v, yl, y1i, exO]
theorem y2p8 (x : Ins) (h : x.op = 1 ∨ x.op = 2 ∨ x.op = 3 ∨ x.op = 18 ∨ x.op = 20 ∨ x.op = 27 ∨ x.op = 32 ∨ x.op = 33 ∨ x.op < 1 ∨ 33 < x.op) : (yd E).p 10 [.agg (enc x)] = some (exO (uses x)) := by
 rw [ysk]
 rcases h with h|h|h|h|h|h|h|h|h|h
 all_goals first | (simp [h, uses, calls, reads, ycb, yd3, yct, ydz, ycm, ya9, ye6, ye5, ydt, y4o, y6y, y3f, y6t, y6n, y6v, exO]; done) | (simp [lo_f h, uses, calls, reads, ycb, yd3, yct, ydz, ycm, ya9, ye6, ye5, ydt, y4o, y6y, y3f, y6t, y6n, y6v, exO]; done) | simp [hi_f h, uses, calls, reads, ycb, yd3, yct, ydz, ycm, ya9, ye6, ye5, ydt, y4o, y6y, y3f, y6t, y6n, y6v, exO]
theorem y27g (x : Ins) (hl : (lst x.args).length ≤ 17592186043904) : (yd E).p 10 [.agg (enc x)] = some (exO (uses x)) := by
 by_cases h1 : x.op = 4 ∨ x.op = 6 ∨ x.op = 7 ∨ x.op = 8 ∨ x.op = 10 ∨ x.op = 12 ∨ x.op = 15 ∨ x.op = 16 ∨ x.op = 19 ∨ x.op = 21 ∨ x.op = 22 ∨ x.op = 31
 ·exact y2ic x h1
 by_cases h2 : x.op = 5 ∨ x.op = 9 ∨ x.op = 11 ∨ x.op = 13 ∨ x.op = 17 ∨ x.op = 28
 ·exact y2om x h2
 by_cases h4 : x.op = 23 ∨ x.op = 24 ∨ x.op = 25 ∨ x.op = 26
 ·exact y2ju x h4 hl
 by_cases h5 : x.op = 29
 ·exact y2oj x h5
 by_cases h6 : x.op = 30
 ·exact y2i4 x h6
 by_cases h3 : x.op = 14
 ·exact y2ie x h3
 exact y2p8 x (by omega)
end Go.Vm
namespace Go.Vm
open Cel
attribute [local simp] yc y38 y1t
@[simp] theorem y2km (x : Ins) : (yd E).p 9 [.agg (enc x)] = some ⟨.int .i64 (defr x), [], true, [], []⟩ := by
 rw [y2rv]
 rcases ydj x.op with h|h|h|h|h|h|h|h|h|h|h|h|h|h|h|h|h|h|h|h|h|h|h|h|h|h|h|h|h|h|h|h|h|h|h <;> first | (simp [h, defr, writes, calls, y1o1, y199, y9m, y1pz, y1q0, y1nx]; done) | (simp [lo_f h, defr, writes, calls, y1o1, y199, y9m, y1pz, y1q0, y1nx]; done) | simp [hi_f h, defr, writes, calls, y1o1, y199, y9m, y1pz, y1q0, y1nx]
end Go.Vm
namespace Go.Vm
open Cel
def nz {α : Type} : List α → Option (List α)
 | [] => none
 | x :: L => some (x :: L)
@[simp] theorem y4r {α : Type} (L : List α) : lst (nz L) = L := by cases L <;> rfl
section
variable {α : Type} [Cel α]
def y1c (α : Type) [Cel α] (j g : Nat) : List α → AV
 | [] => .nils
 | _ :: L => .ls j g (es α) 0 (L.length + 1)
def y2l (g : Nat) (o : AO) : List α → AO
 | [] => o
 | x :: L => ⟨g, .arr false false (es α) ((x :: L).map enc)⟩
@[simp] theorem yrx (j g : Nat) : y1c α j g [] = .nils := rfl
@[simp] theorem y1sd (g : Nat) (o : AO) : y2l g o ([] : List α) = o := rfl
@[simp] theorem y2ha (j g : Nat) (L : List α) (H : Heap) : y17 1 (y1c α j g L) H = some (.int .i64 L.length) := by
 cases L <;> simp [y1c, y17]
@[simp] theorem yae (j g : Nat) (L : List α) : cellsOf (y1c α j g L) = [y1c α j g L] := by cases L <;> rfl
@[simp] theorem y7d (j g : Nat) (L : List α) : y19 (y1c α j g L) = true := by cases L <;> rfl
theorem yre {H : Heap} {j g : Nat} {o : AO} {x : α} {L : List α} (h : H[j]? = some (y2l g o (x :: L))) : yr H j g = some (false, es α, (x :: L).map enc) := by
 simp [yr, y23, h, y2l]
theorem y1cd {H : Heap} {j g : Nat} {o : AO} {L : List α} (h : H[j]? = some (y2l g o L)) : fz H y1m (y1c α j g L) = some ⟨slA (nz L), L.all scal, ids1 (y1c α j g L)⟩ := by
 cases L with
 | nil => rfl
 | cons x L =>
  rw [y1c, y2ej, yre h]
  simp only [List.drop_zero, zd, zy, List.length_cons, zi, and_self, if_true]
  rw [show ((x :: L).map (enc (α := α))).take (L.length + 1) = (x :: L).map enc from y77 (x :: L), y1in]
  simp [slA, nz, ids1]
theorem y164 {H : Heap} {j g : Nat} {o : AO} {L : List α} (h : H[j]? = some (y2l g o L)) : yo H (y1c α j g L) = some ⟨match L with | [] => .nils | _ :: _ => .ls 0 0 (es α) 0 L.length, match L with | [] => [] | _ :: _ => [.arr false false (es α) (L.map enc)], L.all scal, [], []⟩ := by
 cases L with
 | nil => rfl
 | cons x L =>
  rw [y1c, yjj, yre h]
  simp only [List.drop_zero, zd, zy, List.length_cons, zi, and_self, if_true]
  rw [show ((x :: L).map (enc (α := α))).take (L.length + 1) = (x :: L).map enc from y77 (x :: L), y1h5]
  simp
theorem yio {H : Heap} {j g : Nat} {o : AO} {L : List α} (h : H[j]? = some (y2l g o L)) : yo H (y1c α j g L) = some (exO (nz L)) := by
 rw [y164 h]
 cases L <;> rfl
theorem ygt {H : Heap} {fb j g b : Nat} {o : AO} {y : AV} {L M : List α} (hy : y28 H (es α) y = some (M.map enc)) (h : H[fb + j]? = some (y2l g o L)) (hs : (2 * (L.length + M.length) + 512) * b ≤ 2 ^ 48) :
  ∃ g', y1v fb (some j) (es α) b (y1c α (fb + j) g L) y H = some (y1c α (fb + j) g' (L ++ M), H.set (fb + j) (y2l g' o (L ++ M))) := by
 unfold y1v
 rw [hy]
 have hlt : fb + j < H.length := (zb.1 h).1
 cases L with
 | nil =>
  cases M with
  | nil =>
   refine ⟨g, ?_⟩
   simp only [y1c, List.map_nil, List.isEmpty_nil, if_true, List.append_nil, y2l]
   rw [y2l] at h
   rw [show H.set (fb + j) o = H from by
    refine z1r fun i => ?_
    rw [zu]
    split
    ·rename_i e; subst e; simp [h]
    ·rfl]
  | cons y M =>
   refine ⟨o.gen + 1, ?_⟩
   rw [y2l] at h
   have hm : (M.length + 1) * b ≤ 281474976710656 := z1o (z1q b (by simp only [List.length_nil, List.length_cons]; omega)) hs
   simp [y1c, hm, y2k, place, h, y2l]
 | cons x L =>
  refine ⟨g + 1, ?_⟩
  have h' : H[fb + j]? = some ⟨g, .arr false false (es α) ((x :: L).map enc)⟩ := h
  simp only [y1c, h']
  rw [if_pos (by simp; first | simpa using hs | exact .inl (by simpa using hs))]
  simp only [List.drop_zero]
  rw [show ((x :: L).map (enc (α := α))).take (L.length + 1) = (x :: L).map enc from y77 (x :: L)]
  simp [y1c, y2l, Nat.add_right_comm]
end
@[simp] theorem y2oo (h : Heap) (es id g es1 off len : Nat) : y28 h es (.ls id g es1 off len) = match yr h id g with
  | some (_, es', rows) => if es1 = es ∧ es' = es ∧ off + len ≤ rows.length then some ((rows.drop off).take len) else none
  | none => none := rfl
theorem y1zj {H : Heap} {j g : Nat} {o : AO} {L : List Int} (h : H[j]? = some (y2l g o L)) : fz H y1m (y1c Int j g L) = some ⟨slA (nz L), true, ids1 (y1c Int j g L)⟩ := by
 rw [y1cd h]
 simp
theorem yoi {H : Heap} {fb j g : Nat} {o : AO} {y : AV} {L : List Int} {n : Int} (hy : y28 H 1 y = some [[.int .i64 n]]) (h : H[fb + j]? = some (y2l g o L)) (hs : L.length ≤ 17000000000000) :
  ∃ g', y1v fb (some j) 1 8 (y1c Int (fb + j) g L) y H = some (y1c Int (fb + j) g' (L ++ [n]), H.set (fb + j) (y2l g' o (L ++ [n]))) := by
 refine ygt (α := Int) (M := [n]) hy h ?_
 have : (2 * (L.length + [n].length) + 512) * 8 ≤ (2 * (17000000000000 + 1) + 512) * 8 := z1q 8 (by simp only [List.length_singleton]; omega)
 exact z1o this (by decide)
theorem y1sz {i : Int} {n : Nat} (h0 : 0 ≤ i) (h : i < n) (hn : n ≤ 9223372036854775807) : IntKind.wrap .i64 (i + 1) = i + 1 := by
 rw [y1a] <;> omega
@[simp] theorem y2us {α : Type} [Cel α] (x : α) (L : List α) : exO (nz (x :: L)) = ⟨.ls 0 0 (es α) 0 (L.length + 1), [.arr false false (es α) ((x :: L).map enc)], (x :: L).all scal, [], []⟩ := rfl
theorem ye8 {H : Heap} {id g : Nat} {a : Int} (h : yr H id g = some (false, 1, [[.int .i64 a]])) : yo H (.ls id g 1 0 1) = some (exO (nz [a])) := y46 (α := Int) (L := [a]) h
theorem y15w {H : Heap} {id g : Nat} {a b : Int} (h : yr H id g = some (false, 1, [[.int .i64 a], [.int .i64 b]])) : yo H (.ls id g 1 0 2) = some (exO (nz [a, b])) := y46 (α := Int) (L := [a, b]) h
abbrev D0 : AO := ⟨0, .dead⟩
section
variable {α : Type} [Cel α]
theorem ysw {H : Heap} {fb id g b : Nat} {sl : Option Nat} {y : AV} {L M T : List α} (hy : y28 H (es α) y = some (M.map enc)) (h : H[id]? = some ⟨g, .arr false false (es α) ((L ++ T).map enc)⟩) (hs : (2 * (L.length + M.length) + 512) * b ≤ 2 ^ 48) :
  y1v fb sl (es α) b (.ls id g (es α) 0 L.length) y H = some (.ls id (g + 1) (es α) 0 (L ++ M).length, H.set id ⟨g + 1, .arr false false (es α) ((L ++ M).map enc)⟩) := by
 unfold y1v
 rw [hy]
 simp only [h]
 rw [if_pos (by simp; first | simpa using hs | exact .inl (by simpa using hs))]
 simp only [List.drop_zero, z2m, zg]
 rw [List.take_append_of_le_length (by simp), y77, zy]
end
@[simp] theorem y2u2 {α : Type} [Cel α] : exO (nz ([] : List α)) = ⟨.nils, [], true, [], []⟩ := rfl
theorem yed {α : Type} [Cel α] {H : Heap} {id g i : Nat} {L : List α} {v : AV} {y : α} (h : H[id]? = some ⟨g, .arr false false (es α) (L.map enc)⟩) (hi : i < L.length) (hv : cellsOf v = enc y) :
  evSt (es α) (.lp id g i 0) v H = some (.tup [], H.set id ⟨g, .arr false false (es α) ((L.set i y).map enc)⟩) := by
 have hr : yr H id g = some (false, es α, L.map enc) := by simp [yr, y23, h]
 have hg : (L.map (enc (α := α)))[i]? = some (enc L[i]) := by simp [hi]
 rw [yor, hr]
 simp only [hg, hv]
 rw [if_pos ⟨len y, by rw [len]; omega, leaf y⟩]
 rw [yl0 (by rw [len, len]), y2j, h]
 simp only
 rw [List.map_set]
theorem ypb {a b : Nat} (h : a + b ≤ 137438953472) : (2 * (a + b) + 512) * 8 ≤ 2 ^ 48 := by
 have : (2 * (a + b) + 512) * 8 ≤ (2 * 137438953472 + 512) * 8 := z1q 8 (by omega)
 exact z1o this (by decide)
theorem yot {α : Type} [Cel α] {H : Heap} {id g i : Nat} {L : List α} {x : α} {v : AV} (h : H[id]? = some ⟨g, .arr false false (es α) (L.map enc)⟩) (hx : L[i]? = some x) (hv : (enc x).head? = some v) : evLd false 1 (.lp id g i 0) H = some v := by
 have hr : yr H id g = some (false, es α, L.map enc) := by simp [yr, y23, h]
 have hg : (L.map (enc (α := α)))[i]? = some (enc x) := by simp [hx]
 rw [y3z, hr]
 simp only [hg, y2s, List.drop_zero, hv]
abbrev AB (f : Fn) : AO := ⟨1, .arr true false 5 [enc f]⟩
abbrev AI (g : Nat) (L : List Int) : AO := ⟨g, .arr false false 1 (L.map enc)⟩
abbrev AX (g : Nat) (x : Ins) : AO := ⟨g, .arr true false 9 [enc x]⟩
theorem y0y {α : Type} [Cel α] {j g : Nat} {L : List α} (h : L ≠ []) : y1c α j g L = .ls j g (es α) 0 L.length := by
 cases L with
 | nil => exact (h rfl).elim
 | cons x L => rfl
theorem ygh {α : Type} [Cel α] {g : Nat} {o : AO} {L : List α} (h : L ≠ []) : y2l g o L = ⟨g, .arr false false (es α) (L.map enc)⟩ := by
 cases L with
 | nil => exact (h rfl).elim
 | cons x L => rfl
theorem yga {n : Nat} {p : Int} (h0 : 0 ≤ p) (h1 : p < (n : Int)) (id g : Nat) (k : IntKind) : y10 1 (.ls id g 1 0 n) (.int k p) = some (.lp id g p.toNat 0) := by simp [y10, h0, h1]
end Go.Vm
namespace Go.Vm
open Cel
section
variable {α : Type} [Cel α]
def ownV (j g : Nat) : Option (List α) → AV
 | none => .nils
 | some L => .ls j g (es α) 0 L.length
def ownO (g : Nat) (d : AO) : Option (List α) → AO
 | none => d
 | some L => ⟨g, .arr false false (es α) (L.map enc)⟩
def exV (k : Nat) : Option (List α) → AV
 | none => .nils
 | some L => .ls k 0 (es α) 0 L.length
def exOs : Option (List α) → List OC
 | none => []
 | some L => [.arr false false (es α) (L.map enc)]
def ownI (j : Nat) : Option (List α) → List Nat
 | none => []
 | some _ => [j]
@[simp] theorem y28t (j g : Nat) (o : Option (List α)) : cellsOf (ownV j g o) = [ownV j g o] := by cases o <;> rfl
@[simp] theorem y2l3 (j g : Nat) (o : Option (List α)) : y19 (ownV j g o) = true := by cases o <;> rfl
@[simp] theorem y2pn (j g : Nat) (o : Option (List α)) : known (ownV j g o) = true := by cases o <;> rfl
@[simp] theorem y2jn (j g : Nat) (o : Option (List α)) (H : Heap) : y17 1 (ownV j g o) H = some (.int .i64 (lst o).length) := by cases o <;> rfl
theorem ynp {H : Heap} {i : Nat} {o : AO} (h : H[i]? = some o) : H.set i o = H := by
 refine z1r fun k => ?_
 rw [zu]
 split
 ·rename_i e; subst e
  rw [if_pos (zb.1 h).1, h]
 ·rfl
theorem yyf {H : Heap} {j g : Nat} {d : AO} {L : List α} (h : H[j]? = some (ownO g d (some L))) : yr H j g = some (false, es α, L.map enc) := by
 simp [yr, y23, h, ownO]
theorem y25v {H : Heap} {j g k : Nat} {d : AO} {o : Option (List α)} (h : H[j]? = some (ownO g d o)) : fz H (k + 2) (ownV j g o) = some ⟨slA o, (lst o).all scal, ownI j o⟩ := by
 cases o with
 | none => rfl
 | some L =>
  rw [ownV, y2p4, yyf h]
  simp only [List.drop_zero, zd, zy, zi, and_self, if_true, y77, y1yj]
  simp [slA, ownI]
theorem y0k {H : Heap} {j g k : Nat} {d : AO} {o : Option (List α)} (h : H[j]? = some (ownO g d o)) (os : List OC) :
  expo H (k + 1) (ownV j g o) os = some ⟨exV os.length o, os ++ exOs o, (lst o).all scal, ownI j o, []⟩ := by
 cases o with
 | none => simp [ownV, expo, pure1, exV, exOs, ownI]
 | some L =>
  rw [ownV, yu5, yyf h]
  simp only [List.drop_zero, zd, zy, zi, and_self, if_true, y77, y1h5]
  rfl
end
theorem y2em {α : Type} [Cel α] (o : Option (List α)) (A B : List OC) (L : List α) (h : o = some L) : (y2n (A ++ exOs o ++ B))[A.length]? = some (ownO 0 ⟨0, .dead⟩ o) := by
 subst h
 simp [y2n, exOs, ownO]
theorem yd8 {α : Type} [Cel α] (o : Option (List α)) (A B : List OC) (k : Nat) : fz (y2n (A ++ exOs o ++ B)) (k + 2) (exV A.length o) = some ⟨slA o, (lst o).all scal, ownI A.length o⟩ := by
 cases ho : o with
 | none => rfl
 | some L => exact y25v (g := 0) (o := some L) (by have := y2em o A B L ho; rwa [ho] at this)
theorem y18 {E : Env} {C : Calls2} {fb f : Nat} {args : List AV} {h : Heap} {fa : Fz (List AV)} {r : Ex AV} {v : AV} (hE : E.pure f = true) (ha : yv (fz h y1m) args = some fa) (hf : fa.ids = [])
  (hc : C.p f fa.v = some r) (hr : y72 r v) (sl : Option Nat := none) (hsl : sl = none := by rfl) : yc E C fb sl true f args h = some (v, h) := by
 subst hsl
 obtain ⟨q, h1, h2⟩ := hr
 simp [yc, hE, y38, ha, hc, hf, h1, h2]
theorem yge {E : Env} {C : Calls2} {fb f : Nat} {args : List AV} {h : Heap} {fa : Fz (List AV)} {r : Ex AV} (hE : E.pure f = true) (ha : yv (fz h y1m) args = some fa) (hf : fa.ids = [])
  (hc : C.p f fa.v = some r) (sl : Option Nat := none) (hsl : sl = none := by rfl) : y90 E C fb sl true f args h = some ([], []) := by
 subst hsl
 simp [y90, hE, ha, hc, hf]
end Go.Vm
namespace Go.Vm
open Cel
theorem y2e {H : Heap} {a : Nat} {x : AO} (h : a < H.length) : (H.set a x)[a]? = some x := by simp [h]
theorem yn {H : Heap} {a b : Nat} {x : AO} (h : a ≠ b) : (H.set a x)[b]? = H[b]? := z17 h
theorem y2t5 {H : Heap} {n b : Nat} (h : b < H.length) : (H ++ yj n)[b]? = H[b]? := zx h
theorem y2si {H : Heap} {n j : Nat} (h : j < n) : (H ++ yj n)[H.length + j]? = some ⟨0, .dead⟩ := by
 rw [z2a (by omega), Nat.add_sub_cancel_left, yj, z29, if_pos h]
theorem y3m {H : Heap} {a : Nat} {x : AO} (h : H[a]? = some x) : a < H.length := (zb.1 h).1
theorem y2gu {α : Type} [Cel α] {H : Heap} {id g : Nat} {L : List α} (h : H[id]? = some ⟨g, .arr false false (es α) (L.map enc)⟩) : y28 H (es α) (.ls id g (es α) 0 L.length) = some (L.map enc) := by
 simp [y28, yr, y23, h]
theorem yh1 {α : Type} [Cel α] {H : Heap} {id g k : Nat} {L : List α} (h : H[id]? = some ⟨g, .arr false false (es α) (L.map enc)⟩) : fz H (k + 2) (.ls id g (es α) 0 L.length) = some ⟨slA (some L), L.all scal, [id]⟩ :=
 y25v (o := some L) (d := ⟨0, .dead⟩) h
theorem y26f {H : Heap} {id g i es : Nat} {rows : List (List AV)} {v : AV} (h : H[id]? = some ⟨g, .arr false false es rows⟩) (hx : rows[i]? = some [v]) : evLd false 1 (.lp id g i 0) H = some v := by
 have hr : yr H id g = some (false, es, rows) := by simp [yr, y23, h]
 rw [y3z, hr]
 simp [hx]
end Go.Vm
namespace Go.Vm
open Cel
theorem or_u (a b : Int) : yb .or (.int .u32 a) (.int .u32 b) = some (.int .u32 (orU a b)) := rfl
theorem y2a0 (a : Int) (k : Nat) (hk : k ≤ 32) : yb .shl (.int .u32 a) (.int .u64 k) = some (.int .u32 (shlU a k)) := by
 have h0 : ¬ (k : Int) < 0 := by omega
 have h1 : min ((k : Int)).toNat IntKind.u32.bits = k := by
  show min _ 32 = k
  omega
 simp only [yb, y4v, if_true, ygv, if_neg h0, h1]
 rfl
theorem y2ln (r : Int) : (yd E).p 240 [.int .i64 r] = some ⟨.int .u32 (regU r), [], true, [], []⟩ := by
 rw [y2sj]
 unfold regU
 by_cases h : r < 0
 ·simp [y1z2, y239, y1vi, h]
 ·simp [y1z2, y239, y1vi, h]
  rfl
theorem y2c3 (x : Ins) : (yd E).p 239 [.agg (enc x)] = some ⟨.int .i64 (defr x), [], true, [], []⟩ := by
 rw [y2u0]
 simp [y284, yc, y38]
theorem y2jf {E : Env} {C : Calls2} {fb : Nat} {f : Nat} {args : List AV} {h : Heap} {fa : Fz (List AV)} {α : Type} [Cel α] {o : Option (List α)} (hE : E.pure f = true) (ha : yv (fz h y1m) args = some fa)
  (hf : fa.ids = []) (hc : C.p f fa.v = some (exO o)) : yc E C fb none true f args h = some (slA o, h) :=
 y27r hE ha hf hc (y15e o)
theorem yt9 (x : Ins) (H : Heap) : yv (fz H y1m) [.agg (enc x)] = some ⟨[.agg (enc x)], scal x && true, []⟩ := by
 rw [ym, y64, y1k]; rfl
theorem y12a (x : Ins) (hl : (lst x.args).length ≤ 17592186043904) (i : Nat) (hi : i < 1000) : (yd E).p 241 [.agg (enc x), .int .i64 i] = some ⟨.int .i64 (on1M x i), [], true, [], []⟩ := by
 rw [y2re]
 have cu : ∀ H, yc E (yd E) 0 none true 10 [.agg (enc x)] H = some (slA (uses x), H) := fun H => y2jf rfl (yt9 x H) rfl (y27g x hl)
 have cc : ∀ H, yc E (yd E) 0 none true 17 [.agg (enc x)] H = some (.bool (calls x.op), H) := fun H => y18 rfl (yt9 x H) rfl (yel x) ⟨_, rfl, rfl⟩
 have n0 : newC 0 (some 0) (cellsOf (.agg (enc x))) [D0] = some (.lp 0 1 0 0, [AX 1 x]) := by simp
 have l0 : evLd true 9 (.lp 0 1 0 0) [AX 1 x] = some (.agg (enc x)) := by simp
 unfold on1M
 show y178 _ _ [D0] = _
 cases hc : calls x.op with
 | true =>
  simp only [y178, n0, ye, y1g7, l0, y9, cu, cc, hc, y2a, z1w, ye0, y92, y1d, y1h, y1y2, if_true]
  rfl
 | false =>
  by_cases h : i < (lst (uses x)).length
  ·have h' : (i : Int) < ((lst (uses x)).length : Int) := by omega
   have g : (lst (uses x))[i]? = some ((lst (uses x)).getD i (-1)) := by simp [h]
   simp only [y178, n0, ye, y1g7, l0, y9, cu, cc, hc, y2a, z28, y9n, y12, yg, h', decide_true, y1g, y1b, y3j g, zp, if_false]
   rfl
  ·have h' : ¬ (i : Int) < ((lst (uses x)).length : Int) := by omega
   have g : (lst (uses x)).getD i (-1) = -1 := by simp [h]
   simp only [y178, n0, ye, y1g7, l0, y9, cu, cc, hc, y2a, z28, y9n, y12, yg, h', decide_false, y1g, y1h, y1y2, zp, if_false, g]
   rfl
theorem y2d6 (o : Int) : (yd E).p 234 [.int .i64 o] = some ⟨.int .i64 (y1x o), [], true, [], []⟩ := by
 rw [y2tl]
 rcases ydj o with h|h|h|h|h|h|h|h|h|h|h|h|h|h|h|h|h|h|h|h|h|h|h|h|h|h|h|h|h|h|h|h|h|h|h <;> first | (simp [h, y1x, k1, k2, calls, y1en, ykb, y1fk, y9p, y197, y1i5, y1tb]; done) | (simp [lo_f h, y1x, k1, k2, calls, y1en, ykb, y1fk, y9p, y197, y1i5, y1tb]; omega) | (simp [hi_f h, y1x, k1, k2, calls, y1en, ykb, y1fk, y9p, y197, y1i5, y1tb]; omega)
end Go.Vm
namespace Go.Vm
open Cel
section
variable {κ : Type} [DecidableEq κ] (kf : κ → AV)
def ixE : Nat → List κ → List (AV × AV)
 | _, [] => []
 | i, k :: r => (kf k, .int .i64 i) :: ixE (i + 1) r
variable {kf} {ks : List Nat}
theorem y04 (hk : ∀ a b, y2f false ks (kf a) (kf b) = some (decide (a = b))) (k : κ) : ∀ (L : List κ) (i : Nat), mfind false ks (kf k) (ixE kf i L) = some (if k ∈ L then some (.int .i64 ((i + ixOf k L : Nat) : Int)) else none)
 | [], i => by simp [ixE, mfind, y58]
 | x :: r, i => by
  have ih := y04 hk k r (i + 1)
  simp only [ixE, mfind, hk, ixOf]
  by_cases e : k = x
  ·simp [e]
  ·simp only [e, decide_false, ih, List.mem_cons, false_or, if_false]
   rw [show i + 1 + ixOf k r = i + (ixOf k r + 1) by omega]
theorem y1ir (hk : ∀ a b, y2f false ks (kf a) (kf b) = some (decide (a = b))) (k : κ) (v : AV) : ∀ (L : List κ) (i : Nat), k ∉ L → mset false ks (kf k) v (ixE kf i L) = some (ixE kf i L ++ [(kf k, v)])
 | [], i, _ => by simp [ixE, mset, y58]
 | x :: r, i, h => by
  rw [zq, not_or] at h
  have ih := y1ir hk k v r (i + 1) h.2
  simp [ixE, mset, hk, h.1, ih]
theorem y1fa (k : κ) : ∀ (L : List κ) (i : Nat), ixE kf i (L ++ [k]) = ixE kf i L ++ [(kf k, .int .i64 ((i + L.length : Nat) : Int))]
 | [], i => by simp [ixE]
 | x :: r, i => by
  rw [z20, ixE, ixE, y1fa k r, z20, zl, show i + 1 + r.length = i + (r.length + 1) by omega]
theorem yi5 {k : κ} : ∀ {L : List κ}, k ∉ L → ixOf k L = L.length
 | [], _ => rfl
 | x :: r, h => by
  rw [zq, not_or] at h
  rw [ixOf, if_neg h.1, yi5 h.2, zl]
end
abbrev kI (n : Int) : AV := .int .i64 n
abbrev kT (t : Tx) : AV := .str t.s
theorem keyI (a b : Int) : y2f false [0] (kI a) (kI b) = some (decide (a = b)) := by
 have e : y2f false [0] (kI a) (kI b) = some (a == b) := rfl
 rw [e]; congr 1
theorem keyT (a b : Tx) : y2f false [2] (kT a) (kT b) = some (decide (a = b)) := by
 have e : y2f false [2] (kT a) (kT b) = some (a.s == b.s) := rfl
 rw [e]
 congr 1
 rw [Bool.eq_iff_iff, beq_iff_eq, decide_eq_true_eq]
 exact ⟨fun h => by cases a; cases b; cases h; rfl, fun h => by rw [h]⟩
theorem y54 {H : Heap} {id g es : Nat} {r : List AV} (h : H[id]? = some ⟨g, .arr false false es [r]⟩) : y28 H es (.ls id g es 0 1) = some [r] := by
 simp [y28, yr, y23, h]
def y2p (id g : Nat) : List (List AV) → AV
 | [] => .nils
 | _ :: L => .ls id g 1 0 (L.length + 1)
@[simp] theorem y24j (id g : Nat) (L : List (List AV)) : cellsOf (y2p id g L) = [y2p id g L] := by cases L <;> rfl
@[simp] theorem y28u (id g : Nat) (L : List (List AV)) : y19 (y2p id g L) = true := by cases L <;> rfl
@[simp] theorem y6d (id g : Nat) (L : List (List AV)) (H : Heap) : y17 1 (y2p id g L) H = some (.int .i64 L.length) := by
 cases L <;> simp [y2p, y17]
theorem y1xj {H : Heap} {fb j id g b : Nat} {d : AO} {y : AV} {L : List (List AV)} {r : List AV} (hy : y28 H 1 y = some [r]) (h : L ≠ [] → H[id]? = some ⟨g, .arr false false 1 L⟩) (hd : H[fb + j]? = some d) (hL : L.length ≤ 1000000) (hb : b ≤ 96) :
  ∃ g', y1v fb (some j) 1 b (y2p id g L) y H = some (y2p (if L = [] then fb + j else id) g' (L ++ [r]), H.set (if L = [] then fb + j else id) ⟨g', .arr false false 1 (L ++ [r])⟩) := by
 have e48 : (2:Nat) ^ 48 = 281474976710656 := by decide
 unfold y1v
 rw [hy]
 cases L with
 | nil =>
  refine ⟨d.gen + 1, ?_⟩
  have : 1 * b ≤ 281474976710656 := by omega
  simp [y2p, y2k, place, hd, this]
  omega
 | cons x L =>
  refine ⟨g + 1, ?_⟩
  have h' := h (by simp)
  have hs : (2 * (L.length + 1 + 1) + 512) * b ≤ 281474976710656 := z1o (Nat.mul_le_mul_left _ hb) (by simp only [List.length_cons] at hL; omega)
  simp only [y2p, h']
  rw [if_pos (by simp; first | simpa using hs | exact .inl (by simpa using hs))]
  simp only [List.drop_zero, List.length_singleton, List.cons_append, zg, reduceCtorEq, if_false]
  rw [show (x :: L).take (L.length + 1) = x :: L from List.take_length (l := x :: L)]
  rfl
structure BC where
 vR : AV
 vM : AV
 regs : Int
 args : Int
 ret : Int
def offB : Nat → Nat
 | 0 => 0
 | 1 => 3
 | 2 => 4
 | _ => 10
def y45 (c : BC) (P G : Nat → Nat) (X : Nat → List (List AV)) : List AV :=
 [y2p (P 0) (G 0) (X 0), c.vR, c.vM, y2p (P 1) (G 1) (X 1), y2p (P 2) (G 2) (X 2), .int .i64 c.regs, .int .i64 c.args, .int .i64 c.ret, .lm 2 1, .lm 3 1, y2p (P 3) (G 3) (X 3)]
abbrev boxO (row : List AV) : AO := ⟨1, .arr true false 11 [row]⟩
structure WRep (H : Heap) (K : List (Nat × AO)) (P G : Nat → Nat) (c : BC) (X : Nat → List (List AV)) : Prop where
 box : H[4]? = some (boxO (y45 c P G X))
 obj : ∀ k, k < 4 → X k ≠ [] → H[P k]? = some ⟨G k, .arr false false 1 (X k)⟩
 inj : ∀ k, k < 4 → X k ≠ [] → ∀ l, l < 4 → X l ≠ [] → P k = P l → k = l
 far : ∀ k, k < 4 → X k ≠ [] → P k ≠ 4
 keep : ∀ p ∈ K, H[p.1]? = some p.2 ∧ p.1 ≠ 4 ∧ ∀ k, k < 4 → X k ≠ [] → P k ≠ p.1
 nd : (K.map (·.1)).Nodup
theorem WRep.swap {H : Heap} {a b : Nat × AO} {K : List (Nat × AO)} {P G : Nat → Nat} {c : BC} {X : Nat → List (List AV)} (R : WRep H (a :: b :: K) P G c X) : WRep H (b :: a :: K) P G c X :=
 ⟨R.box, R.obj, R.inj, R.far, fun p hp => R.keep p (by simp only [List.mem_cons] at hp ⊢; rcases hp with h | h | h <;> simp [h]), ((List.Perm.swap b a K).map _).nodup_iff.1 R.nd⟩
theorem WRep.drop {H : Heap} {a : Nat × AO} {K : List (Nat × AO)} {P G : Nat → Nat} {c : BC} {X : Nat → List (List AV)} (R : WRep H (a :: K) P G c X) : WRep H K P G c X :=
 ⟨R.box, R.obj, R.inj, R.far, fun p hp => R.keep p (z18 _ hp), (z21.1 R.nd).2⟩
theorem WRep.at {H : Heap} {A B : List (Nat × AO)} {i : Nat} {o : AO} {P G : Nat → Nat} {c : BC} {X : Nat → List (List AV)} (R : WRep H (A ++ (i, o) :: B) P G c X) : H[i]? = some o := (R.keep (i, o) (by simp)).1
theorem WRep.put {H : Heap} {A B : List (Nat × AO)} {i : Nat} {o : AO} {P G : Nat → Nat} {c : BC} {X : Nat → List (List AV)} (R : WRep H (A ++ (i, o) :: B) P G c X) (o' : AO) : WRep (H.set i o') (A ++ (i, o') :: B) P G c X := by
 obtain ⟨k1, k2, k3⟩ := R.keep (i, o) (by simp)
 have hl := y3m k1
 have nd := R.nd
 rw [z2m, z10] at nd
 obtain ⟨n1, n2, n3⟩ := z2e.1 nd
 rw [z21] at n2
 refine ⟨by rw [yn k2]; exact R.box, fun k hk h => by rw [yn (k3 k hk h).symm]; exact R.obj k hk h, R.inj, R.far, fun p hp => ?_, by rw [z2m, z10]; exact nd⟩
 rw [zt, zq] at hp
 rcases hp with hp | rfl | hp
 ·obtain ⟨m1, m2⟩ := R.keep p (by simp [hp])
  refine ⟨?_, m2⟩
  rw [yn fun e => n3 p.1 (List.mem_map_of_mem hp) i (by simp) e.symm]
  exact m1
 ·exact ⟨y2e hl, k2, k3⟩
 ·obtain ⟨m1, m2⟩ := R.keep p (by simp [hp])
  refine ⟨?_, m2⟩
  rw [yn fun e => n2.1 (by have := List.mem_map_of_mem (f := (·.1)) hp; rw [← e] at this; exact this)]
  exact m1
theorem WRep.grow {H : Heap} {K : List (Nat × AO)} {P G : Nat → Nat} {c : BC} {X : Nat → List (List AV)} (R : WRep H K P G c X) (o : AO) : WRep (H ++ [o]) ((H.length, o) :: K) P G c X := by
 have l4 := y3m R.box
 have a : ∀ {i : Nat}, i < H.length → (H ++ [o])[i]? = H[i]? := fun h => zx h
 refine ⟨by rw [a l4]; exact R.box, fun k hk h => by rw [a (y3m (R.obj k hk h))]; exact R.obj k hk h, R.inj, R.far, fun p hp => ?_, ?_⟩
 ·rcases zq.1 hp with rfl | hp
  ·exact ⟨by simp, by simp only; omega, fun k hk h => by have := y3m (R.obj k hk h); simp only; omega⟩
  ·obtain ⟨m1, m2⟩ := R.keep p hp
   exact ⟨by rw [a (y3m m1)]; exact m1, m2⟩
 ·rw [z10, z21]
  refine ⟨fun h => ?_, R.nd⟩
  obtain ⟨q, h1, h2⟩ := z1y.1 h
  have := y3m (R.keep q h1).1
  simp only at h2
  omega
theorem WRep.dead2 {H : Heap} {K : List (Nat × AO)} {P G : Nat → Nat} {c : BC} {X : Nat → List (List AV)} (R : WRep H K P G c X) : WRep (H ++ yj 2) ((H.length, D0) :: (H.length + 1, D0) :: K) P G c X := by
 have := ((R.grow D0).grow D0).swap
 rwa [z1m, zg] at this
theorem WRep.ld {H : Heap} {K : List (Nat × AO)} {P G : Nat → Nat} {c : BC} {X : Nat → List (List AV)} (R : WRep H K P G c X) (off : Nat) {v : AV} (h : (y45 c P G X)[off]? = some v) : evLd false 1 (.lp 4 1 0 off) H = some v := by
 have hr : yr H 4 1 = some (false, 11, [y45 c P G X]) := by simp [yr, y23, R.box]
 simp only [evLd, hr, List.getElem?_cons_zero, y4w, zp, if_false]
 rw [List.head?_drop]
 exact h
def updX (X : Nat → List (List AV)) (k : Nat) (r : List AV) (l : Nat) : List (List AV) := if l = k then X k ++ [r] else X l
theorem y16n {c : BC} {P G : Nat → Nat} {X : Nat → List (List AV)} {k : Nat} (hk : k < 4) (i g : Nat) (r : List AV) :
  (y45 c P G X).set (offB k) (y2p i g (X k ++ [r])) = y45 c (fun l => if l = k then i else P l) (fun l => if l = k then g else G l) (updX X k r) := by
 rcases k with _ | _ | _ | _ | k
 ·rfl
 ·rfl
 ·rfl
 ·rfl
 ·omega
theorem y17k {c : BC} {P G : Nat → Nat} {X : Nat → List (List AV)} {k : Nat} (hk : k < 4) : (y45 c P G X)[offB k]? = some (y2p (P k) (G k) (X k)) := by
 rcases k with _ | _ | _ | _ | k
 ·rfl
 ·rfl
 ·rfl
 ·rfl
 ·omega
theorem y82 {H : Heap} {id g es off : Nat} {row : List AV} {v : AV} (h : H[id]? = some ⟨g, .arr true false es [row]⟩) (ho : off < row.length) (hc : cellsOf v = [v]) (hl : y19 v = true) :
  evSt 1 (.lp id g 0 off) v H = some (.tup [], H.set id ⟨g, .arr true false es [row.set off v]⟩) := by
 have hr : yr H id g = some (false, es, [row]) := by simp [yr, y23, h]
 rw [yor, hr]
 simp only [List.getElem?_cons_zero, hc]
 rw [if_pos ⟨rfl, ho, by simp [hl]⟩]
 rw [y2j, h]
 simp only [List.set_cons_zero]
 have e : y1f off [v] row = row.set off v := by
  rw [y1f, zj, List.set_eq_take_append_cons_drop, if_pos ho, z1m]
  rfl
 rw [e]
theorem WRep.push {H : Heap} {K : List (Nat × AO)} {P G : Nat → Nat} {c : BC} {X : Nat → List (List AV)} {fb j b : Nat} {d : AO} {y : AV} {r : List AV} (R : WRep H ((fb + j, d) :: K) P G c X) (k : Nat) (hk : k < 4) (hy : y28 H 1 y = some [r]) (hL : (X k).length ≤ 1000000) (hb : b ≤ 96) :
  ∃ v H' P' G', y1v fb (some j) 1 b (y2p (P k) (G k) (X k)) y H = some (v, H') ∧ evSt 1 (.lp 4 1 0 (offB k)) v H' = some (.tup [], H'.set 4 (boxO (y45 c P' G' (updX X k r)))) ∧ WRep (H'.set 4 (boxO (y45 c P' G' (updX X k r)))) K P' G' c (updX X k r) := by
 obtain ⟨k1, k2, k3⟩ := R.keep (fb + j, d) (by simp)
 obtain ⟨g', e⟩ := y1xj (fb := fb) (j := j) (b := b) hy (R.obj k hk) k1 hL hb
 have l4 := y3m R.box
 have hj := y3m k1
 have hne : (if X k = [] then fb + j else P k) ≠ 4 := by
  split
  ·exact k2
  ·rename_i h
   exact R.far k hk h
 have hlt : (if X k = [] then fb + j else P k) < H.length := by
  split
  ·exact hj
  ·rename_i h
   exact y3m (R.obj k hk h)
 have hoth : ∀ l, l < 4 → X l ≠ [] → l ≠ k → P l ≠ (if X k = [] then fb + j else P k) := by
  intro l hl hX hlk
  split
  ·exact k3 l hl hX
  ·rename_i h
   exact fun e => hlk (R.inj l hl hX k hk h e)
 have hb' : offB k < (y45 c P G X).length := by
  have := y17k (c := c) (P := P) (G := G) (X := X) hk
  exact (zb.1 this).1
 have nd := z21.1 R.nd
 have hX' : ∀ l, l ≠ k → updX X k r l ≠ [] → X l ≠ [] := fun l e h => by simpa only [updX, e, if_false] using h
 refine ⟨_, _, fun l => if l = k then (if X k = [] then fb + j else P k) else P l, fun l => if l = k then g' else G l, e, ?_, ?_⟩
 ·rw [y82 (row := y45 c P G X) (by rw [yn hne]; exact R.box) hb' (by simp) (by simp), y16n hk]
 ·refine ⟨y2e (by rw [zh]; exact l4), fun l hl hX => ?_, fun a ha xa b hb xb h => ?_, fun l hl hX => ?_, fun p hp => ?_, nd.2⟩
  ·by_cases el : l = k
   ·subst el
    simp only [if_true, updX]
    rw [yn (by exact hne.symm)]
    exact y2e hlt
   ·have hX := hX' l el hX
    simp only [updX, el, if_false]
    rw [yn (R.far l hl hX).symm, yn (hoth l hl hX el).symm]
    exact R.obj l hl hX
  ·by_cases ea : a = k <;> by_cases eb : b = k
   ·rw [ea, eb]
   ·rw [if_pos ea, if_neg eb] at h
    exact (hoth b hb (hX' b eb xb) eb h.symm).elim
   ·rw [if_neg ea, if_pos eb] at h
    exact (hoth a ha (hX' a ea xa) ea h).elim
   ·rw [if_neg ea, if_neg eb] at h
    exact R.inj a ha (hX' a ea xa) b hb (hX' b eb xb) h
  ·by_cases el : l = k
   ·simp only [el, if_true]
    exact hne
   ·simp only [el, if_false]
    exact R.far l hl (hX' l el hX)
  ·obtain ⟨m1, m2, m3⟩ := R.keep p (z18 _ hp)
   have hp1 : p.1 ≠ (if X k = [] then fb + j else P k) := by
    split
    ·exact fun e => nd.1 (by have := List.mem_map_of_mem (f := (·.1)) hp; rw [e] at this; exact this)
    ·rename_i h
     exact (m3 k hk h).symm
   refine ⟨by rw [yn m2.symm, yn hp1.symm]; exact m1, m2, fun l hl hX => ?_⟩
   by_cases el : l = k
   ·simp only [el, if_true]
    exact hp1.symm
   ·simp only [el, if_false]
    exact m3 l hl (hX' l el hX)
end Go.Vm
namespace Go.Vm
open Cel
abbrev AG {α : Type} [Cel α] (g : Nat) (x : α) : AO := ⟨g, .arr true false (es α) [enc x]⟩
section
variable {α : Type} [Cel α]
theorem yql {H : Heap} {fb j : Nat} {o : AO} (x : α) (h : H[fb + j]? = some o) : newC fb (some j) (enc x) H = some (.lp (fb + j) (o.gen + 1) 0 0, H.set (fb + j) (AG (o.gen + 1) x)) := by
 unfold newC
 rw [if_pos (y5t x)]
 simp only [y8l, place, h, len]
theorem y2tc {H : Heap} {id g : Nat} {c d : α} {v : AV} (h : H[id]? = some (AG g c)) (hv : cellsOf v = enc d) : evSt (es α) (.lp id g 0 0) v H = some (.tup [], H.set id (AG g d)) := by
 have hr : yr H id g = some (false, es α, [enc c]) := by simp [yr, y23, h]
 simp only [evSt, hr, List.getElem?_cons_zero, hv]
 rw [if_pos ⟨len d, by rw [len]; omega, y5t d⟩]
 have e : y1f 0 (enc d) (enc c) = enc d := by
  unfold y1f
  rw [List.take_zero, z16, zd, z14 (by rw [len, len]; omega), z15]
 rw [e]
 simp [y2j, h]
theorem st_g {H : Heap} {id g : Nat} {c d : α} (h : H[id]? = some (AG g c)) : evSt (es α) (.lp id g 0 0) (.agg (enc d)) H = some (.tup [], H.set id (AG g d)) := y2tc h rfl
theorem ld_g {H : Heap} {id g k : Nat} {c : α} {v : AV} (h : H[id]? = some (AG g c)) (hv : ((enc c).drop k).head? = some v) : evLd false 1 (.lp id g 0 k) H = some v := by
 have hr : yr H id g = some (false, es α, [enc c]) := by simp [yr, y23, h]
 simp only [evLd, hr, List.getElem?_cons_zero, y4w]
 exact hv
theorem ysm {H : Heap} {id g : Nat} {c : α} (h : H[id]? = some (AG g c)) : evLd true (es α) (.lp id g 0 0) H = some (.agg (enc c)) := by
 have hr : yr H id g = some (false, es α, [enc c]) := by simp [yr, y23, h]
 simp only [evLd, hr, List.getElem?_cons_zero, List.drop_zero]
 exact yar c
end
end Go.Vm
namespace Go.Vm
open Cel
def xs (s : BS) : Nat → List (List AV)
 | 0 => s.W.map enc
 | 1 => s.N.map enc
 | 2 => s.T.map enc
 | 3 => s.Y.map enc
 | _ => []
abbrev nmO (L : List Int) : AO := ⟨1, .map false (ixE kI 0 L)⟩
abbrev tmO (L : List Tx) : AO := ⟨1, .map false (ixE kT 0 L)⟩
def Bd (H : Heap) (K : List (Nat × AO)) (c : BC) (s : BS) : Prop := ∃ P G, WRep H ((2, nmO s.N) :: (3, tmO s.T) :: K) P G c (xs s)
def BS.size (s : BS) : Nat := s.W.length + s.N.length + s.T.length + s.Y.length
abbrev P4 : AV := .lp 4 1 0 0
theorem xs_W (s : BS) (n : Int) : updX (xs s) 0 [.int .u32 n] = xs (adW s n) := by
 funext l
 rcases l with _ | _ | _ | _ | l <;> simp [updX, xs, adW, y2nj]
theorem yh4 {E : Env} {C : Calls2} {fb f : Nat} {ro : Bool} {args : List AV} {h : Heap} (hE : E.pure f = false) : yc E C fb none ro f args h = C.i f args h.length h := by simp [yc, hE]
theorem bs_c {H : Heap} {fb j : Nat} {o : AO} {z v : AV} (h : H[fb + j]? = some o) (hz : y19 z = true) (hv : y19 v = true) (hc : cellsOf v = [v]) : yl fb (some j) 1 1 [z] [(0, v)] H = some (.ls (fb + j) (o.gen + 1) 1 0 1, H.set (fb + j) ⟨o.gen + 1, .arr false false 1 [[v]]⟩) := by
 simp [yl, y1i, y2k, place, h, hz, hv, hc]
theorem Bd.drop {H : Heap} {a : Nat × AO} {K : List (Nat × AO)} {c : BC} {s : BS} (B : Bd H (a :: K) c s) : Bd H K c s := by
 obtain ⟨P, G, R⟩ := B
 exact ⟨P, G, R.box, R.obj, R.inj, R.far, fun p hp => R.keep p (by simp only [List.mem_cons] at hp ⊢; rcases hp with h | h | h <;> simp [h]), by
  have := R.nd
  simp only [List.map_cons, List.nodup_cons, List.mem_cons, not_or] at this ⊢
  exact ⟨⟨this.1.1, this.1.2.2⟩, this.2.1.2, this.2.2.2⟩⟩
theorem Bd.at {H : Heap} {A B : List (Nat × AO)} {i : Nat} {o : AO} {c : BC} {s : BS} (R : Bd H (A ++ (i, o) :: B) c s) : H[i]? = some o := by
 obtain ⟨P, G, R⟩ := R
 exact (R.keep (i, o) (by simp)).1
theorem Bd.hd {H : Heap} {B : List (Nat × AO)} {i : Nat} {o : AO} {c : BC} {s : BS} (R : Bd H ((i, o) :: B) c s) : H[i]? = some o := Bd.at (A := []) R
theorem Bd.put {H : Heap} {A B : List (Nat × AO)} {i : Nat} {o : AO} {c : BC} {s : BS} (R : Bd H (A ++ (i, o) :: B) c s) (o' : AO) : Bd (H.set i o') (A ++ (i, o') :: B) c s := by
 obtain ⟨P, G, R⟩ := R
 exact ⟨P, G, WRep.put (A := (2, nmO s.N) :: (3, tmO s.T) :: A) R o'⟩
theorem Bd.grow {H : Heap} {K : List (Nat × AO)} {c : BC} {s : BS} (B : Bd H K c s) (o : AO) : Bd (H ++ [o]) ((H.length, o) :: K) c s := by
 obtain ⟨P, G, R⟩ := B
 have := R.grow o
 refine ⟨P, G, this.box, this.obj, this.inj, this.far, fun p hp => this.keep p (by simp only [List.mem_cons] at hp ⊢; rcases hp with h | h | h | h <;> simp [h]), ?_⟩
 have := this.nd
 simp only [List.map_cons, List.nodup_cons, List.mem_cons, not_or] at this ⊢
 exact ⟨⟨this.2.1.1, fun e => this.1.1 e.symm, this.2.1.2⟩, ⟨fun e => this.1.2.1 e.symm, this.2.2.1⟩, this.1.2.2, this.2.2.2⟩
theorem ybq {H : Heap} {K : List (Nat × AO)} {c : BC} {s : BS} (B : Bd H K c s) (hs : s.size ≤ 1000000) (n : Int) (fb : Nat) :
  ∃ H', yc E (yd E) fb none false 242 [P4, .int .u32 n] H = some (.tup [], H') ∧ Bd H' K c (adW s n) := by
 obtain ⟨P, G, R⟩ := B
 have R1 := R.dead2
 have R2 := WRep.put (A := []) R1 ⟨1, .arr false false 1 [[.int .u32 n]]⟩
 obtain ⟨v, H', P', G', e1, e2, R3⟩ := WRep.push (fb := H.length) (j := 1) (b := 4) R2.swap 0 (by omega) (y54 (WRep.at (A := []) R2)) (by simp only [xs, zy]; unfold BS.size at hs; omega) (by omega)
 rw [xs_W] at R3 e2
 refine ⟨_, ?_, P', G', R3.drop⟩
 have eb := bs_c (fb := H.length) (j := 0) (z := .int .u32 0) (v := .int .u32 n) (WRep.at (A := []) R1) rfl rfl rfl
 have el := R1.ld 0 rfl
 rw [yh4 rfl, y2ue, if_pos rfl]
 simp only [Nat.add_zero, show D0.gen + 1 = 1 from rfl] at eb
 simp only [offB] at e2
 simp only [y2dq, y1l, y9, yk, Nat.add_zero, el, eb, ye, e1, e2]
theorem y1ip {κ : Type} [DecidableEq κ] {kf : κ → AV} {ks : List Nat} (hk : ∀ a b, y2f false ks (kf a) (kf b) = some (decide (a = b))) {H : Heap} {id g : Nat} {L : List κ} (h : H[id]? = some ⟨g, .map false (ixE kf 0 L)⟩) (z : AV) (k : κ) :
  y2z false ks z true (.lm id g) (kf k) H = some (if k ∈ L then .tup [.int .i64 (ixOf k L), .bool true] else .tup [z, .bool false]) := by
 have e1 : y3t H id g = none := by simp [y3t, y23, h]
 have e2 : y6l H id g = some (false, ixE kf 0 L) := by simp [y6l, y23, h]
 simp only [y2z, e1, e2, Option.map_some, y04 hk]
 split <;> simp_all
theorem y19w {κ : Type} [DecidableEq κ] {kf : κ → AV} {ks : List Nat} (hk : ∀ a b, y2f false ks (kf a) (kf b) = some (decide (a = b))) {H : Heap} {id g : Nat} {L : List κ} (h : H[id]? = some ⟨g, .map false (ixE kf 0 L)⟩) {k : κ} (hn : k ∉ L) :
  y3x false ks (.lm id g) (kf k) (.int .i64 L.length) H = some (.tup [], H.set id ⟨g, .map false (ixE kf 0 (L ++ [k]))⟩) := by
 have e2 : y6l H id g = some (false, ixE kf 0 L) := by simp [y6l, y23, h]
 simp only [y3x, e2, y1ir hk k _ L 0 hn, y3p, h, y1fa, zd]
theorem xs_N (s : BS) (n : Int) : updX (xs s) 1 [.int .i64 n] = xs { s with N := s.N ++ [n] } := by
 funext l
 rcases l with _ | _ | _ | _ | l <;> simp [updX, xs]
theorem xs_T (s : BS) (t : Tx) : updX (xs s) 2 [.str t.s] = xs { s with T := s.T ++ [t] } := by
 funext l
 rcases l with _ | _ | _ | _ | l <;> simp [updX, xs]
theorem xs_Y (s : BS) (n : Int) : updX (xs s) 3 [.int .i64 n] = xs { s with Y := s.Y ++ [n] } := by
 funext l
 rcases l with _ | _ | _ | _ | l <;> simp [updX, xs]
theorem y2if {H : Heap} {K : List (Nat × AO)} {c : BC} {s : BS} (B : Bd H K c s) (hs : s.size ≤ 1000000) (n : Int) (fb : Nat) :
  ∃ H', yc E (yd E) fb none false 243 [P4, .int .i64 n] H = some (.int .u32 (wU (ixOf n s.N)), H') ∧ Bd H' K c (adN s n) := by
 obtain ⟨P, G, R⟩ := B
 have R1 := R.dead2
 have el := R1.ld 8 (v := .lm 2 1) rfl
 have em := y1ip keyI (WRep.at (A := [_, _]) R1) (.int .i64 0) n
 rw [yh4 rfl, x_q9, if_pos rfl]
 by_cases h : n ∈ s.N
 ·rw [if_pos h] at em
  refine ⟨_, ?_, P, G, by rw [adN, if_pos h]; exact R1.drop.drop⟩
  simp only [q9_4, q9_3, y1l, y9, yk, zd, el, em, y1y, List.getElem?_cons_zero, List.getElem?_cons_succ, q9_2, y2a, z1w, y1h, q9_1, y2g]
  rfl
 ·rw [if_neg h] at em
  have ep := y19w keyI (WRep.at (A := [_, _]) R1) h
  have R2 := WRep.put (A := [_, _]) R1 (nmO (s.N ++ [n]))
  have R3 := WRep.put (A := []) R2 ⟨1, .arr false false 1 [[.int .i64 n]]⟩
  obtain ⟨v, H', P', G', e1, e2, R4⟩ := WRep.push (fb := H.length) (j := 1) (b := 8) R3.swap 1 (by omega) (y54 (WRep.at (A := []) R3)) (by simp only [xs, zy]; unfold BS.size at hs; omega) (by omega)
  rw [xs_N] at R4 e2
  refine ⟨_, ?_, P', G', by rw [adN, if_neg h]; exact R4.drop⟩
  have eb := bs_c (fb := H.length) (j := 0) (z := .int .i64 0) (v := .int .i64 n) (WRep.at (A := []) R2) rfl rfl rfl
  have el3 := R1.ld 3 rfl
  have el4 := R2.ld 3 rfl
  simp only [Nat.add_zero, show D0.gen + 1 = 1 from rfl] at eb
  have en : (((xs s 1).length : Nat) : Int) = s.N.length := by simp [xs]
  simp only [offB] at e2
  simp only [q9_4, q9_3, y1l, y9, yk, zd, Nat.add_zero, el, em, y1y, List.getElem?_cons_zero, List.getElem?_cons_succ, q9_2, y2a, z28, y1b, el3, y6d, en, ep, ye, el4, eb, e1]
  rw [e2, ye, q9_1, y2g, y9, yi5 h]
  rfl
theorem y26p {H : Heap} {K : List (Nat × AO)} {c : BC} {s : BS} (B : Bd H K c s) (hs : s.size ≤ 1000000) (t : Str) (fb : Nat) :
  ∃ H', yc E (yd E) fb none false 244 [P4, .str t] H = some (.int .u32 (wU (ixOf ⟨t⟩ s.T)), H') ∧ Bd H' K c (adT s ⟨t⟩) := by
 obtain ⟨P, G, R⟩ := B
 have R1 := R.dead2
 have el := R1.ld 9 (v := .lm 3 1) rfl
 have em := y1ip keyT (WRep.at (A := [_, _, _]) R1) (.int .i64 0) ⟨t⟩
 rw [yh4 rfl, y2tb, if_pos rfl]
 by_cases h : (⟨t⟩ : Tx) ∈ s.T
 ·rw [if_pos h] at em
  refine ⟨_, ?_, P, G, by rw [adT, if_pos h]; exact R1.drop.drop⟩
  simp only [y1v0, y21o, y1l, y9, yk, zd, el, em, y1y, List.getElem?_cons_zero, List.getElem?_cons_succ, y22d, y2a, z1w, y1h, y1mn, y2g]
  rfl
 ·rw [if_neg h] at em
  have ep := y19w keyT (WRep.at (A := [_, _, _]) R1) h
  have R2 := WRep.put (A := [_, _, _]) R1 (tmO (s.T ++ [⟨t⟩]))
  have R3 := WRep.put (A := []) R2 ⟨1, .arr false false 1 [[.str t]]⟩
  obtain ⟨v, H', P', G', e1, e2, R4⟩ := WRep.push (fb := H.length) (j := 1) (b := 16) R3.swap 2 (by omega) (y54 (WRep.at (A := []) R3)) (by simp only [xs, zy]; unfold BS.size at hs; omega) (by omega)
  rw [xs_T s ⟨t⟩] at R4 e2
  refine ⟨_, ?_, P', G', by rw [adT, if_neg h]; exact R4.drop⟩
  have eb := bs_c (fb := H.length) (j := 0) (z := .str []) (v := .str t) (WRep.at (A := []) R2) rfl rfl rfl
  have el3 := R1.ld 4 rfl
  have el4 := R2.ld 4 rfl
  simp only [Nat.add_zero, show D0.gen + 1 = 1 from rfl] at eb
  have en : (((xs s 2).length : Nat) : Int) = s.T.length := by simp [xs]
  simp only [offB] at e2
  simp only [y1v0, y21o, y1l, y9, yk, zd, Nat.add_zero, el, em, y1y, List.getElem?_cons_zero, List.getElem?_cons_succ, y22d, y2a, z28, y1b, el3, y6d, en, ep, ye, el4, eb, e1]
  rw [e2, ye, y1mn, y2g, y9, yi5 h]
  rfl
end Go.Vm
