/- Facts for reading the machine's functions: combinators at known values; lists of things of one kind as slices. The things that the layers speak of: instructions, rows, functions. What is handed in, as things. Lists that a function builds by appending, at a place of its own. What a callee made, as the caller's own: a list, or nothing. Heaps that grow: what lies where, behind one more object, behind one that is turned. What is told of instructions, in plain words. Clones of lists of numbers. Clones of lists of instructions, of rows. ins.Copy in its caller's heap: all lists, those of arguments too, are objects of one's own. ins.Copy with all its lists in objects of one's own: in its caller's heap, and as a call. How a function reads, and is handed out, whose lists, those of arguments too, are objects of one's own. Whether two lists of numbers are the same. Whether two lists of numbers, two instructions are the same; a number in a list. -/
import Derived.Test.YtgbajicpokolcaaVc
import Derived.Test.YtgbajicpokolcaaDX
set_option linter.unusedSimpArgs false
set_option linter.unusedVariables false
set_option linter.unusedSectionVars false
namespace Go.Vm
section comb
variable {α : Type}
@[simp] theorem y4 (v : AV) (K : AV → Option α) : ob (some v) K = K v := rfl
@[simp] theorem yw (v : AV) (h : Heap) (K : AV → Heap → Option α) : oh (some (v, h)) K = K v h := rfl
@[simp] theorem y5h {β : Type} (v : β) (K : β → Option α) : ofp (some v) K = K v := rfl
@[simp] theorem y11x (x : Option AV) (K : AV → Option α) : gb (.bool true) true x K = ob x K := rfl
@[simp] theorem yjf (x : Option AV) (K : AV → Option α) : gb (.bool false) false x K = ob x K := rfl
@[simp] theorem ysg (x : Option AV) (K : AV → Option α) : gb (.bool true) false x K = K (.tup []) := rfl
@[simp] theorem yy7 (x : Option AV) (K : AV → Option α) : gb (.bool false) true x K = K (.tup []) := rfl
@[simp] theorem yj9 (w : Bool) (x : Option AV) (K : AV → Option α) : gb (.tup []) w x K = K (.tup []) := rfl
@[simp] theorem y1l4 (x : Option (AV × Heap)) (h : Heap) (K : AV → Heap → Option α) : gh (.bool true) true x h K = oh x K := rfl
@[simp] theorem y1ig (x : Option (AV × Heap)) (h : Heap) (K : AV → Heap → Option α) : gh (.bool false) false x h K = oh x K := rfl
@[simp] theorem y1lc (x : Option (AV × Heap)) (h : Heap) (K : AV → Heap → Option α) : gh (.bool true) false x h K = K (.tup []) h := rfl
@[simp] theorem y1lm (x : Option (AV × Heap)) (h : Heap) (K : AV → Heap → Option α) : gh (.bool false) true x h K = K (.tup []) h := rfl
@[simp] theorem y1kr (w : Bool) (x : Option (AV × Heap)) (h : Heap) (K : AV → Heap → Option α) : gh (.tup []) w x h K = K (.tup []) h := rfl
@[simp] theorem y1ko (x : Option (List Nat × List Nat)) : fgd (.bool true) true x = x := rfl
@[simp] theorem y1h6 (x : Option (List Nat × List Nat)) : fgd (.bool false) false x = x := rfl
@[simp] theorem y1kd (x : Option (List Nat × List Nat)) : fgd (.bool true) false x = some ([], []) := rfl
@[simp] theorem y1kt (x : Option (List Nat × List Nat)) : fgd (.bool false) true x = some ([], []) := rfl
@[simp] theorem y1jt (w : Bool) (x : Option (List Nat × List Nat)) : fgd (.tup []) w x = some ([], []) := rfl
@[simp] theorem y34 (a b : Option α) : cnd (.bool true) a b = a := rfl
@[simp] theorem y7n (a b : Option α) : cnd (.bool false) a b = b := rfl
@[simp] theorem y1le (x : Option α) : okK true x = x := rfl
theorem ynx {α : Type} {b : Bool} (h : b = true) (x : Option α) : okK b x = x := by rw [h]; rfl
@[simp] theorem y7p (a b : AV) : yb (.bool true) a b = some a := rfl
@[simp] theorem y45 (a b : AV) : yb (.bool false) a b = some b := rfl
@[simp] theorem y2z (b : Bool) : evUn .not (.bool b) = some (.bool (!b)) := rfl
@[simp] theorem y1io (neq a b : Bool) : y16a neq (.bool a) (.bool b) = some (.bool (if neq then !(a == b) else a == b)) := rfl
@[simp] theorem y1f1 (i : Nat) (vs : List AV) : y9v i (.tup vs) = vs[i]? := rfl
@[simp] theorem y1f5 (k k' : IntKind) (n : Int) : y127 k (.int k' n) = some (.int k (k.wrap n)) := rfl
@[simp] theorem y1ck (cs : List AV) : ybz (.rp cs) = some (.rp cs) := rfl
@[simp] theorem y1aa (id g i off : Nat) : ybz (.lp id g i off) = some (.lp id g i off) := rfl
@[congr] theorem y1lk {x x' : Option AV} (h : x = x') (K : AV → Option α) : ob x K = ob x' K := by rw [h]
@[congr] theorem y1l2 {x x' : Option (AV × Heap)} (h : x = x') (K : AV → Heap → Option α) : oh x K = oh x' K := by rw [h]
@[congr] theorem y1ks {β : Type} {x x' : Option β} (h : x = x') (K : β → Option α) : ofp x K = ofp x' K := by rw [h]
@[congr] theorem y1la {g g' : AV} (h : g = g') (w : Bool) (x : Option AV) (K : AV → Option α) : gb g w x K = gb g' w x K := by rw [h]
@[congr] theorem y1kz {g g' : AV} (h : g = g') (w : Bool) (x : Option (AV × Heap)) (hp : Heap) (K : AV → Heap → Option α) : gh g w x hp K = gh g' w x hp K := by rw [h]
@[congr] theorem y1kl {g g' : AV} (h : g = g') (w : Bool) (x : Option (List Nat × List Nat)) : fgd g w x = fgd g' w x := by rw [h]
@[congr] theorem y1kf {c c' : AV} (h : c = c') (a b : Option α) : cnd c a b = cnd c' a b := by rw [h]
@[congr] theorem y1km {c c' : Bool} (h : c = c') (a : Option α) : okK c a = okK c' a := by rw [h]
end comb
section ints
variable (k : IntKind) (a b : Int)
@[simp] theorem y3q : y3 .add (.int k a) (.int k b) = some (.int k (k.wrap (a + b))) := by simp [y3, y43, y7k]
@[simp] theorem y1go : y3 .sub (.int k a) (.int k b) = some (.int k (k.wrap (a - b))) := by simp [y3, y43, y7k]
@[simp] theorem y1gq : y3 .mul (.int k a) (.int k b) = some (.int k (k.wrap (a * b))) := by simp [y3, y43, y7k]
@[simp] theorem y4x : y3 .eql (.int k a) (.int k b) = some (.bool (decide (a = b))) := by simp [y3, y43, y7k, Bool.beq_eq_decide_eq]
@[simp] theorem yuj : y3 .neq (.int k a) (.int k b) = some (.bool (decide (a ≠ b))) := by simp [y3, y43, y7k, bne, Bool.beq_eq_decide_eq]
@[simp] theorem ym : y3 .lss (.int k a) (.int k b) = some (.bool (decide (a < b))) := by simp [y3, y43, y7k]
@[simp] theorem yd2 : y3 .leq (.int k a) (.int k b) = some (.bool (decide (a ≤ b))) := by simp [y3, y43, y7k]
@[simp] theorem ycl : y3 .gtr (.int k a) (.int k b) = some (.bool (decide (b < a))) := by simp [y3, y43, y7k]
@[simp] theorem yd8 : y3 .geq (.int k a) (.int k b) = some (.bool (decide (b ≤ a))) := by simp [y3, y43, y7k]
end ints
@[simp] theorem y1ef (a b : List UInt8) : y3 .eql (.str a) (.str b) = some (.bool (decide (a = b))) := by simp [y3, yll, Bool.beq_eq_decide_eq]
@[simp] theorem y1e1 (a b : List UInt8) : y3 .neq (.str a) (.str b) = some (.bool (decide (a ≠ b))) := by simp [y3, yll, Bool.beq_eq_decide_eq]
theorem y31 {n : Int} (h0 : -9223372036854775808 ≤ n) (h1 : n < 9223372036854775808) : IntKind.wrap .i64 n = n := by
  simp [IntKind.wrap, IntKind.bits, IntKind.signed]; omega
theorem y0a {i n : Nat} (h : i < n) (hn : n ≤ 9223372036854775807) : IntKind.wrap .i64 ((i : Int) + 1) = ((i + 1 : Nat) : Int) := by
  rw [y31] <;> omega
theorem y2n {i n : Nat} (h : i < n) (hn : n ≤ 9223372036854775807) : IntKind.wrap .i64 ((i : Int) + 1) = (i : Int) + 1 := by rw [y0a h hn]; rfl
theorem ypq {α : Type} [DecidableEq α] {a b : List α} {i : Nat} (h1 : i < a.length) (h2 : i < b.length) : decide (a.drop i = b.drop i) = (decide (a[i] = b[i]) && decide (a.drop (i + 1) = b.drop (i + 1))) := by
  rw [← Bool.decide_and]
  congr 1
  rw [List.drop_eq_getElem_cons h1, List.drop_eq_getElem_cons h2, List.cons_eq_cons]
@[simp] theorem y1k7 (k : Nat) (cs : List AV) : evFa k (.rp cs) = some (.rp (cs.drop k)) := rfl
@[simp] theorem y1jc (k id g i o : Nat) : evFa k (.lp id g i o) = some (.lp id g i (o + k)) := rfl
@[simp] theorem yl1 (agg : Bool) (n : Nat) (cs : List AV) (h : Heap) : evLd agg n (.rp cs) h = y3x agg n cs := rfl
@[simp] theorem y54 (n : Nat) (cs : List AV) : y3x false n cs = cs.head? := rfl
@[simp] theorem y18n (cs : List AV) : cellsOf (.agg cs) = cs := rfl
@[simp] theorem y1b4 (k : IntKind) (n : Int) : cellsOf (.int k n) = [.int k n] := rfl
@[simp] theorem y17b (b : Bool) : cellsOf (.bool b) = [.bool b] := rfl
@[simp] theorem y1cr (s : List UInt8) : cellsOf (.str s) = [.str s] := rfl
@[simp] theorem y18d : cellsOf .nils = [.nils] := rfl
@[simp] theorem y1e2 (es : Nat) (rows : List (List AV)) : cellsOf (.rs es rows) = [.rs es rows] := rfl
@[simp] theorem y1ea (id g es off len : Nat) : cellsOf (.ls id g es off len) = [.ls id g es off len] := rfl
class Cel (α : Type) where
  es : Nat
  enc : α → List AV
  len : ∀ x, (enc x).length = es
  pur : ∀ x, (enc x).all pure1 = true
  leaf : ∀ x, (enc x).all yl = true
open Cel
instance : Cel Int := ⟨1, fun n => [.int .i64 n], fun _ => rfl, fun _ => rfl, fun _ => rfl⟩
instance : Cel Bool := ⟨1, fun b => [.bool b], fun _ => rfl, fun _ => rfl, fun _ => rfl⟩
structure Tx where
  s : List UInt8
  deriving DecidableEq, Inhabited
instance : Cel Tx := ⟨1, fun b => [.str b.s], fun _ => rfl, fun _ => rfl, fun _ => rfl⟩
@[simp] theorem y1j9 (n : Int) : enc n = [.int .i64 n] := rfl
@[simp] theorem y1hv (b : Bool) : enc b = [.bool b] := rfl
@[simp] theorem y1ki (b : Tx) : enc b = [.str b.s] := rfl
@[simp] theorem y1ft : es Int = 1 := rfl
@[simp] theorem y1jh : es Bool = 1 := rfl
@[simp] theorem y1l0 : es Tx = 1 := rfl
variable {α : Type} [Cel α]
def scal (x : α) : Bool := (enc x).all yx
@[simp] theorem y1hz (n : Int) : scal n = true := rfl
@[simp] theorem y1ha (b : Bool) : scal b = true := rfl
@[simp] theorem y1je (b : Tx) : scal b = true := rfl
def lst (o : Option (List α)) : List α := o.getD []
omit [Cel α] in
@[simp] theorem y1ho : lst (none : Option (List α)) = [] := rfl
omit [Cel α] in
@[simp] theorem y48 (L : List α) : lst (some L) = L := rfl
def slA : Option (List α) → AV
  | none => .nils
  | some L => .rs (es α) (L.map enc)
instance : Cel (Option (List α)) := ⟨1, fun o => [slA o], fun _ => rfl, fun o => by cases o <;> rfl, fun o => by cases o <;> rfl⟩
@[simp] theorem y1kq (o : Option (List α)) : enc o = [slA o] := rfl
@[simp] theorem y1l1 : es (Option (List α)) = 1 := rfl
@[simp] theorem y1fo (k : IntKind) (n : Int) : pure1 (.int k n) = true := rfl
@[simp] theorem y1eh (b : Bool) : pure1 (.bool b) = true := rfl
@[simp] theorem y1gn (b : List UInt8) : pure1 (.str b) = true := rfl
@[simp] theorem y1ee : pure1 .nils = true := rfl
@[simp] theorem y1f2 (k : IntKind) (n : Int) : yl (.int k n) = true := rfl
@[simp] theorem y1e5 (b : Bool) : yl (.bool b) = true := rfl
@[simp] theorem y1f8 (b : List UInt8) : yl (.str b) = true := rfl
@[simp] theorem y1e6 : yl .nils = true := rfl
@[simp] theorem y1hp (es : Nat) (r : List (List AV)) : yl (.rs es r) = true := rfl
@[simp] theorem y1hl (id g es off len : Nat) : yl (.ls id g es off len) = true := rfl
@[simp] theorem y1hn (id g i o : Nat) : yl (.lp id g i o) = true := rfl
@[simp] theorem y193 (k : IntKind) (n : Int) : yx (.int k n) = true := rfl
@[simp] theorem y183 (b : Bool) : yx (.bool b) = true := rfl
@[simp] theorem y1ba (b : List UInt8) : yx (.str b) = true := rfl
@[simp] theorem y18e : yx .nils = true := rfl
@[simp] theorem y1e0 (o : Option (List α)) : cellsOf (slA o) = [slA o] := by cases o <;> rfl
@[simp] theorem y1hw (o : Option (List α)) : yl (slA o) = true := by cases o <;> rfl
@[simp] theorem y16o (o : Option (List α)) : pure1 (slA o) = true := by cases o <;> rfl
@[simp] theorem yso (o : Option (List α)) : yx (slA o) = (lst o).isEmpty := by
  cases o with
  | none => rfl
  | some L => cases L <;> rfl
@[simp] theorem yhi (o : Option (List α)) (h : Heap) : yz 1 (slA o) h = some (.int .i64 (lst o).length) := by cases o <;> simp [slA, yz]
@[simp] theorem ycx (s : List UInt8) (h : Heap) : yz 0 (.str s) h = some (.int .i64 s.length) := rfl
@[simp] theorem y1ht (id g es off len : Nat) (h : Heap) : yz 1 (.ls id g es off len) h = some (.int .i64 len) := rfl
@[simp] theorem y1eg (h : Heap) : yz 1 .nils h = some (.int .i64 0) := rfl
@[simp] theorem y1ir (id g i o : Nat) : ids1 (.lp id g i o) = [id] := rfl
@[simp] theorem y1jb (id g es o l : Nat) : ids1 (.ls id g es o l) = [id] := rfl
@[simp] theorem y1i8 (cs : List AV) : ids1 (.rp cs) = [] := rfl
@[simp] theorem y1hu (k : IntKind) (n : Int) : ids1 (.int k n) = [] := rfl
@[simp] theorem y1hq (s : List UInt8) : ids1 (.str s) = [] := rfl
@[simp] theorem y1k2 (o : Option (List α)) : ids1 (slA o) = [] := by cases o <;> rfl
@[simp] theorem y166 (neq : Bool) (o : Option (List α)) : ygd 1 neq (slA o) .nils = some (.bool (if neq then o.isSome else o.isNone)) := by
  cases o <;> cases neq <;> rfl
theorem ybt {o : Option (List α)} {x : α} {i : Nat} (hx : (lst o)[i]? = some x) (k : IntKind) : yu (es α) (slA o) (.int k i) = some (.rp (enc x)) := by
  cases o with
  | none => simp at hx
  | some L =>
    simp only [y48] at hx
    simp [slA, yu, hx]
theorem yhp {o : Option (List α)} {x : α} {n : Int} (h0 : 0 ≤ n) (hx : (lst o)[n.toNat]? = some x) (k : IntKind) : yu (es α) (slA o) (.int k n) = some (.rp (enc x)) := by
  obtain ⟨i, rfl⟩ := Int.eq_ofNat_of_zero_le h0
  exact ybt (by simpa using hx) k
@[simp] theorem yck (o : Option (List α)) (h : Heap) : y33 h (es α) (slA o) = some ((lst o).map enc) := by
  cases o <;> simp [slA, y33]
@[simp] theorem y14o (o : Option (List α)) (h : Heap) : fz h y13 (slA o) = some ⟨slA o, (lst o).isEmpty, []⟩ := by
  rw [y1jy (y16o o), yso]
@[simp] theorem ygg (x : α) (h : Heap) : fz h y13 (.agg (enc x)) = some ⟨.agg (enc x), scal x, []⟩ := y1ek h (pur x)
theorem ydd (L : List α) : (L.map enc).all (·.all pure1) = true := by simp only [List.all_map, List.all_eq_true]; exact fun x _ => pur x
theorem yc8 (L : List α) : (L.map enc).all (·.all yx) = L.all scal := by simp only [List.all_map]; rfl
@[simp] theorem y1ax (L : List α) (h : Heap) : yc (yc (fz h y13)) (L.map enc) = some ⟨L.map enc, L.all scal, []⟩ := by rw [yur h (ydd L), yc8]
@[simp] theorem y1f7 (L : List α) (h : Heap) : yc (yc (fz h 11)) (L.map enc) = some ⟨L.map enc, L.all scal, []⟩ := by rw [y12u h (ydd L), yc8]
@[simp] theorem y1j0 (o : Option (List α)) : scal o = (lst o).isEmpty := by simp [scal]
@[simp] theorem yjc (L : List α) : (L.map (enc (α := α))).take L.length = L.map enc := by
  rw [List.take_of_length_le (by simp)]
@[simp] theorem ycj (x : α) : y3x true (es α) (enc x) = some (.agg (enc x)) := by
  simp only [y3x, if_true, len x, Nat.le_refl, if_pos]
  rw [List.take_of_length_le (by rw [len x]; exact Nat.le_refl _)]
@[simp] theorem y1hm (x : α) : (∀ v, v ∈ enc x → yl v = true) ↔ True := by
  have := leaf x
  rw [List.all_eq_true] at this
  exact ⟨fun _ => trivial, fun _ => this⟩
theorem ygs (x : α) : (enc x).all yl = true := leaf x
@[simp] theorem y1j6 (h : Heap) (k : IntKind) (n : Int) : fz h y13 (.int k n) = some ⟨.int k n, true, []⟩ := rfl
@[simp] theorem yhf (h : Heap) (b : Bool) : fz h y13 (.bool b) = some ⟨.bool b, true, []⟩ := rfl
@[simp] theorem y1iz (h : Heap) (b : List UInt8) : fz h y13 (.str b) = some ⟨.str b, true, []⟩ := rfl
@[simp] theorem y1i0 (h : Heap) : fz h y13 .nils = some ⟨.nils, true, []⟩ := rfl
@[simp] theorem y1ed (h : Heap) (k : IntKind) (n : Int) : yd h (.int k n) = some ⟨.int k n, [], true, [], []⟩ := rfl
@[simp] theorem y3r (h : Heap) (b : Bool) : yd h (.bool b) = some ⟨.bool b, [], true, [], []⟩ := rfl
@[simp] theorem y1eb (h : Heap) (s : List UInt8) : yd h (.str s) = some ⟨.str s, [], true, [], []⟩ := rfl
@[simp] theorem y1cd (h : Heap) : yd h .nils = some ⟨.nils, [], true, [], []⟩ := rfl
@[simp] theorem y1hs (h : Heap) (o : Option (List α)) : yd h (slA o) = some ⟨slA o, [], (lst o).isEmpty, [], []⟩ := by
  cases o with
  | none => rfl
  | some L => simp [slA, y16g]
theorem y18a {v : AV} (hp : pure1 v = true) (h : Heap) (k : Nat) (os : List OC) : expo h (k + 1) v os = some ⟨v, os, yx v, [], []⟩ := by
  cases v <;> simp_all [expo, pure1]
theorem y147 {cs : List AV} (h : Heap) (k : Nat) (os : List OC) (hp : cs.all pure1 = true) : y3e (expo h (k + 1)) cs os = some ⟨cs, os, cs.all yx, [], []⟩ := by
  induction cs with
  | nil => rfl
  | cons c cs ih =>
    simp only [List.all_cons, Bool.and_eq_true] at hp
    rw [y3e, y18a hp.1]
    simp only [ih hp.2]
    rfl
theorem yip (h : Heap) (cs : List AV) : yd h (.agg cs) = match y3e (expo h 11) cs [] with
    | some r => if y2y r.xs r.fs then some ⟨.agg r.v, r.objs, r.fresh, [], []⟩ else none
    | none => none := by
  show (match (match y3e (expo h 11) cs [] with
    | some r => some (⟨.agg r.v, r.objs, r.fresh, r.xs, r.fs⟩ : Ex AV)
    | none => none) with
    | some r => if y2y r.xs r.fs then some (⟨r.v, r.objs, r.fresh, [], []⟩ : Ex AV) else none
    | none => none) = _
  cases y3e (expo h 11) cs [] <;> rfl
@[simp] theorem y1ei (h : Heap) (x : α) : yd h (.agg (enc x)) = some ⟨.agg (enc x), [], scal x, [], []⟩ := by
  rw [yip, y147 h 10 [] (pur x)]
  rfl
theorem y11b (h : Heap) (k id g es1 off len : Nat) (os : List OC) : expo h (k + 1) (.ls id g es1 off len) os = match yg h id g with
    | some (true, _, _) => exFz h (.ls id g es1 off len) os
    | some (false, es, rows) => if es1 = es ∧ off + len ≤ rows.length then
        match yc (yc (fz h y13)) ((rows.drop off).take len) with
        | some r => some ⟨.ls os.length 0 es 0 len, os ++ [.arr false false es r.v], r.fresh, [id], r.ids⟩
        | none => none
      else none
    | none => none := by
  rw [expo]
  rfl
theorem y17v (h : Heap) (k id g es1 off len : Nat) : fz h (k + 1) (.ls id g es1 off len) = match yg h id g with
    | some (_, es, rows) => if es1 = es ∧ off + len ≤ rows.length then (match yc (yc (fz h k)) ((rows.drop off).take len) with
      | some r => some ⟨.rs es r.v, r.fresh, id :: r.ids⟩
      | none => none) else none
    | none => none := by
  rw [fz]
  rfl
theorem y15f (L : List α) (h : Heap) (k : Nat) : yc (yc (fz h (k + 1))) (L.map enc) = some ⟨L.map enc, L.all scal, []⟩ := by rw [y5a h k (ydd L), yc8]
@[simp] theorem y10 {β γ : Type} (f : β → Option (Fz γ)) : yc f [] = some ⟨[], true, []⟩ := rfl
@[simp] theorem yk {β γ : Type} (f : β → Option (Fz γ)) (x : β) (xs : List β) : yc f (x :: xs) = match f x, yc f xs with
    | some a, some b => some ⟨a.v :: b.v, a.fresh && b.fresh, a.ids ++ b.ids⟩
    | _, _ => none := rfl
end Go.Vm
namespace Go.Vm
open Cel
structure Ins where
  op : Int
  d : Int
  a : Int
  b : Int
  c : Int
  n : Int
  t : Int
  s : List UInt8
  args : Option (List Int)
  deriving DecidableEq, Inhabited
structure Row where
  f : Int
  t : Int
  at_ : Int
  c : List UInt8
  deriving DecidableEq, Inhabited
structure Fn where
  regs : Option (List Int)
  params : Option (List Int)
  ret : Int
  code : Option (List Ins)
  rows : Option (List Row)
  deriving DecidableEq, Inhabited
instance : Cel Ins := ⟨9, fun x => [.int .i64 x.op, .int .i64 x.d, .int .i64 x.a, .int .i64 x.b, .int .i64 x.c, .int .i64 x.n, .int .i64 x.t, .str x.s, slA x.args], fun _ => rfl,
  fun x => by simp, fun x => by simp⟩
instance : Cel Row := ⟨4, fun x => [.int .i64 x.f, .int .i64 x.t, .int .i64 x.at_, .str x.c], fun _ => rfl, fun x => rfl, fun x => rfl⟩
instance : Cel Fn := ⟨5, fun x => [slA x.regs, slA x.params, .int .i64 x.ret, slA x.code, slA x.rows], fun _ => rfl, fun x => by simp, fun x => by simp⟩
@[simp] theorem y1kx : es Ins = 9 := rfl
@[simp] theorem y1kj : es Row = 4 := rfl
@[simp] theorem y1ld : es Fn = 5 := rfl
theorem y1bo (x : Row) : enc x = [.int .i64 x.f, .int .i64 x.t, .int .i64 x.at_, .str x.c] := rfl
section
variable (x : Ins) (r : Row) (f : Fn)
@[simp high] theorem ins0 : (enc x).head? = some (.int .i64 x.op) := rfl
@[simp high] theorem y1ll : (enc x)[0]? = some (.int .i64 x.op) := rfl
@[simp high] theorem ins1 : ((enc x).drop 1).head? = some (.int .i64 x.d) := rfl
@[simp high] theorem y1l6 : (enc x)[1]? = some (.int .i64 x.d) := rfl
@[simp high] theorem ins2 : ((enc x).drop 2).head? = some (.int .i64 x.a) := rfl
@[simp high] theorem y1l8 : (enc x)[2]? = some (.int .i64 x.a) := rfl
@[simp high] theorem ins3 : ((enc x).drop 3).head? = some (.int .i64 x.b) := rfl
@[simp high] theorem y1lf : (enc x)[3]? = some (.int .i64 x.b) := rfl
@[simp high] theorem ins4 : ((enc x).drop 4).head? = some (.int .i64 x.c) := rfl
@[simp high] theorem y1l9 : (enc x)[4]? = some (.int .i64 x.c) := rfl
@[simp high] theorem ins5 : ((enc x).drop 5).head? = some (.int .i64 x.n) := rfl
@[simp high] theorem y1l3 : (enc x)[5]? = some (.int .i64 x.n) := rfl
@[simp high] theorem ins6 : ((enc x).drop 6).head? = some (.int .i64 x.t) := rfl
@[simp high] theorem y1lg : (enc x)[6]? = some (.int .i64 x.t) := rfl
@[simp high] theorem ins7 : ((enc x).drop 7).head? = some (.str x.s) := rfl
@[simp high] theorem y1l5 : (enc x)[7]? = some (.str x.s) := rfl
@[simp high] theorem ins8 : ((enc x).drop 8).head? = some (slA x.args) := rfl
@[simp high] theorem y1l7 : (enc x)[8]? = some (slA x.args) := rfl
@[simp high] theorem row0 : (enc r).head? = some (.int .i64 r.f) := rfl
@[simp high] theorem y1lh : (enc r)[0]? = some (.int .i64 r.f) := rfl
@[simp high] theorem row1 : ((enc r).drop 1).head? = some (.int .i64 r.t) := rfl
@[simp high] theorem y1lb : (enc r)[1]? = some (.int .i64 r.t) := rfl
@[simp high] theorem row2 : ((enc r).drop 2).head? = some (.int .i64 r.at_) := rfl
@[simp high] theorem y1li : (enc r)[2]? = some (.int .i64 r.at_) := rfl
@[simp high] theorem row3 : ((enc r).drop 3).head? = some (.str r.c) := rfl
@[simp high] theorem y1lj : (enc r)[3]? = some (.str r.c) := rfl
@[simp high] theorem fn0 : (enc f).head? = some (slA f.regs) := rfl
@[simp high] theorem fn0q : (enc f)[0]? = some (slA f.regs) := rfl
@[simp high] theorem fn1 : ((enc f).drop 1).head? = some (slA f.params) := rfl
@[simp high] theorem fn1q : (enc f)[1]? = some (slA f.params) := rfl
@[simp high] theorem fn2 : ((enc f).drop 2).head? = some (.int .i64 f.ret) := rfl
@[simp high] theorem fn2q : (enc f)[2]? = some (.int .i64 f.ret) := rfl
@[simp high] theorem fn3 : ((enc f).drop 3).head? = some (slA f.code) := rfl
@[simp high] theorem fn3q : (enc f)[3]? = some (slA f.code) := rfl
@[simp high] theorem fn4 : ((enc f).drop 4).head? = some (slA f.rows) := rfl
@[simp high] theorem fn4q : (enc f)[4]? = some (slA f.rows) := rfl
@[simp] theorem yk2 : y3x true 9 (enc x) = some (.agg (enc x)) := ycj x
@[simp] theorem y1ix : y3x true 4 (enc r) = some (.agg (enc r)) := ycj r
@[simp] theorem y1kg : y3x true 5 (enc f) = some (.agg (enc f)) := ycj f
@[simp] theorem y1ad : (enc x).length = 9 := rfl
@[simp] theorem y1k6 : (enc r).length = 4 := rfl
@[simp] theorem y1ku : (enc f).length = 5 := rfl
@[simp] theorem y1hx : (enc x).all yl = true := ygs x
@[simp] theorem y1i1 : (enc r).all yl = true := ygs r
@[simp] theorem yxq : (enc f).all yl = true := ygs f
end
theorem ydt {o : Option (List Ins)} {x : Ins} {i : Nat} (hx : (lst o)[i]? = some x) (k : IntKind) : yu 9 (slA o) (.int k i) = some (.rp (enc x)) := ybt hx k
theorem yjs {o : Option (List Row)} {x : Row} {i : Nat} (hx : (lst o)[i]? = some x) (k : IntKind) : yu 4 (slA o) (.int k i) = some (.rp (enc x)) := ybt hx k
theorem y8j {o : Option (List Int)} {x : Int} {i : Nat} (hx : (lst o)[i]? = some x) (k : IntKind) : yu 1 (slA o) (.int k i) = some (.rp [.int .i64 x]) := ybt hx k
theorem ylh {o : Option (List Ins)} {x : Ins} {n : Int} (h0 : 0 ≤ n) (hx : (lst o)[n.toNat]? = some x) (k : IntKind) : yu 9 (slA o) (.int k n) = some (.rp (enc x)) := yhp h0 hx k
theorem y13w {o : Option (List Int)} {x : Int} {n : Int} (h0 : 0 ≤ n) (hx : (lst o)[n.toNat]? = some x) (k : IntKind) : yu 1 (slA o) (.int k n) = some (.rp [.int .i64 x]) := yhp h0 hx k
@[simp] theorem y1e9 (o : Option (List Int)) (h : Heap) : y33 h 1 (slA o) = some ((lst o).map enc) := yck o h
@[simp] theorem y1e4 (o : Option (List Ins)) (h : Heap) : y33 h 9 (slA o) = some ((lst o).map enc) := yck o h
@[simp] theorem y1e7 (o : Option (List Row)) (h : Heap) : y33 h 4 (slA o) = some ((lst o).map enc) := yck o h
def exO {α : Type} [Cel α] : Option (List α) → Ex AV
  | none => ⟨.nils, [], true, [], []⟩
  | some L => ⟨.ls 0 0 (es α) 0 L.length, [.arr false false (es α) (L.map enc)], L.all scal, [], []⟩
@[simp] theorem y1kc {α : Type} [Cel α] (o : Option (List α)) : fz (y1d (exO o).objs) y13 (exO o).v = some ⟨slA o, (lst o).all scal, match o with | none => [] | some _ => [0]⟩ := by
  cases o with
  | none => rfl
  | some L =>
    show fz [⟨0, .arr false false (es α) (L.map enc)⟩] y13 (.ls 0 0 (es α) 0 L.length) = _
    rw [y1i5]
    simp [yg, y3w, slA]
@[simp] theorem y15t {α : Type} [Cel α] (fb j : Nat) (L : List α) (h : Heap) : y1y fb (some j) (exO (some L)).objs [] h = match h[fb + j]? with
    | some o => some ([(fb + j, o.gen + 1)], h.set (fb + j) ⟨o.gen + 1, .arr false false (es α) (L.map enc)⟩)
    | none => none := by
  simp only [exO, y1y, y4h, okOC, if_true, place, List.nil_append]
  cases h[fb + j]? <;> rfl
@[simp] theorem y1ew {α : Type} [Cel α] (fb : Nat) (j : Option Nat) (h : Heap) : y1y fb j (exO (none : Option (List α))).objs [] h = some ([], h) := rfl
@[simp] theorem y15w {α : Type} [Cel α] (id g : Nat) (L : List α) : reloc [(id, g)] (exO (some L)).v = .ls id g (es α) 0 L.length := rfl
@[simp] theorem y1er {α : Type} [Cel α] (tab : List (Nat × Nat)) : reloc tab (exO (none : Option (List α))).v = .nils := rfl
theorem y9j {α : Type} [Cel α] {h : Heap} {id g : Nat} {L : List α} (hr : yg h id g = some (false, es α, L.map enc)) : yd h (.ls id g (es α) 0 L.length) = some (exO (some L)) := by
  rw [yju, hr]
  simp [exO]
attribute [simp] newC y4z y3g place
@[simp] theorem ybq (g : Nat) (b f : Bool) (e : Nat) (r : List (List AV)) (t : Heap) : yg (⟨g, .arr b f e r⟩ :: t) 0 g = some (f, e, r) := by simp [yg, y3w]
@[simp] theorem yh9 (o : AO) (t : Heap) (i g : Nat) : yg (o :: t) (i + 1) g = yg t i g := rfl
@[simp] theorem y1fa (g : Nat) (b f : Bool) (e : Nat) (r r' : List (List AV)) (t : Heap) : y1b (⟨g, .arr b f e r⟩ :: t) 0 r' = ⟨g, .arr b f e r'⟩ :: t := rfl
@[simp] theorem y1gj (o : AO) (t : Heap) (i : Nat) (r : List (List AV)) : y1b (o :: t) (i + 1) r = o :: y1b t i r := by
  simp only [y1b, List.getElem?_cons_succ]
  split <;> simp_all
@[simp] theorem ydh (n id g i off : Nat) (v : AV) (h : Heap) : evSt n (.lp id g i off) v h = match yg h id g with
    | some (false, _, rows) => match rows[i]? with
      | some row => if (cellsOf v).length = n ∧ off + n ≤ row.length ∧ (cellsOf v).all yl = true then some (.tup [], y1b h id (rows.set i (yf off (cellsOf v) row))) else none
      | none => none
    | _ => none := rfl
@[simp] theorem yfd {vs row : List AV} (h : row.length = vs.length) : yf 0 vs row = vs := by
  simp [yf, ← h]
section
variable (x : Ins) (n : Int) (s : List UInt8) (o : Option (List Int))
@[simp] theorem y1k1 : yf 0 [.int .i64 n] (enc x) = enc { x with op := n } := rfl
@[simp] theorem y1jm : yf 1 [.int .i64 n] (enc x) = enc { x with d := n } := rfl
@[simp] theorem y1jo : yf 2 [.int .i64 n] (enc x) = enc { x with a := n } := rfl
@[simp] theorem y1k3 : yf 3 [.int .i64 n] (enc x) = enc { x with b := n } := rfl
@[simp] theorem y1jx : yf 4 [.int .i64 n] (enc x) = enc { x with c := n } := rfl
@[simp] theorem y1jr : yf 5 [.int .i64 n] (enc x) = enc { x with n := n } := rfl
@[simp] theorem y1is : yf 6 [.int .i64 n] (enc x) = enc { x with t := n } := rfl
@[simp] theorem y1iv : yf 7 [.str s] (enc x) = enc { x with s := s } := rfl
@[simp] theorem y1il : yf 8 [slA o] (enc x) = enc { x with args := o } := rfl
end
def yfy (x : Ins) (v : AV) : List AV := [.int .i64 x.op, .int .i64 x.d, .int .i64 x.a, .int .i64 x.b, .int .i64 x.c, .int .i64 x.n, .int .i64 x.t, .str x.s, v]
@[simp] theorem y1hy (x : Ins) (id g es off len : Nat) : yf 8 [.ls id g es off len] (enc x) = yfy x (.ls id g es off len) := rfl
@[simp] theorem y1hr (x : Ins) : yf 8 [.nils] (enc x) = enc { x with args := none } := rfl
@[simp] theorem y1e3 (x : Ins) (v : AV) : (yfy x v).length = 9 := rfl
@[simp] theorem y1e8 (x : Ins) (v : AV) : y3x true 9 (yfy x v) = some (.agg (yfy x v)) := rfl
@[simp] theorem y1dy (x : Ins) (w : AV) : (∀ v, v ∈ yfy x w → yl v = true) ↔ yl w = true := by simp [yfy]
def y1g8 (r : Ex AV) (v : AV) : Prop := ∃ q, fz (y1d r.objs) y13 r.v = some q ∧ q.v = v
@[simp] theorem y4f (agg : Bool) (n id g i off : Nat) (h : Heap) : evLd agg n (.lp id g i off) h = match yg h id g with
    | some (_, _, rows) => match rows[i]? with
      | some row => y3x agg n (row.drop off)
      | none => none
    | none => none := rfl
end Go.Vm
namespace Go.Vm
open Cel
def inI (n : Int) : Prop := -9223372036854775808 ≤ n ∧ n ≤ 9223372036854775807
abbrev tyI : Ty := .int .i64
theorem ybd {cs : List AV} (h : tyI.has cs) : ∃ n : Int, cs = [.int .i64 n] ∧ inI n := by
  obtain ⟨n, rfl, h1, h2⟩ := h
  exact ⟨n, rfl, by simpa [IntKind.min, IntKind.max, IntKind.signed, IntKind.bits] using h1, by simpa [IntKind.min, IntKind.max, IntKind.signed, IntKind.bits] using h2⟩
theorem y1gg {cs : List AV} (h : Ty.str.has cs) : ∃ s : List UInt8, cs = [.str s] ∧ s.length ≤ reachBytes := h
theorem yoz {α : Type} [Cel α] {T : Ty} {Q : α → Prop} (hT : ∀ row, T.has row → ∃ x : α, row = enc x ∧ Q x) : ∀ (rows : List (List AV)), (∀ row, row ∈ rows → T.has row) → ∃ L : List α, rows = L.map enc ∧ ∀ x ∈ L, Q x
  | [], _ => ⟨[], rfl, fun x h => by cases h⟩
  | r :: rows, h => by
    obtain ⟨L, rfl, hL⟩ := yoz hT rows (fun row hr => h row (by simp [hr]))
    obtain ⟨x, rfl, hx⟩ := hT r (h r (by simp))
    refine ⟨x :: L, rfl, fun y hy => ?_⟩
    rcases List.mem_cons.1 hy with rfl | hy
    · exact hx
    · exact hL y hy
theorem y0l {α : Type} [Cel α] {T : Ty} {Q : α → Prop} (hT : ∀ row, T.has row → ∃ x : α, row = enc x ∧ Q x) {cs : List AV} (h : (Ty.slice (es α) T).has cs) : ∃ o : Option (List α), cs = [slA o] ∧ (lst o).length ≤ maxLen ∧ (lst o).length * T.bytes ≤ reachBytes ∧ ∀ x ∈ lst o, Q x := by
  rcases h with rfl | ⟨rows, rfl, hl, hz, hr⟩
  · exact ⟨none, rfl, Nat.zero_le _, by simp, fun x h => by cases h⟩
  · obtain ⟨L, rfl, hL⟩ := yoz hT rows hr
    exact ⟨some L, rfl, by simpa using hl, by simpa using hz, hL⟩
abbrev yn8 : Ty := .slice 1 tyI
theorem yhd {cs : List AV} (h : yn8.has cs) : ∃ o : Option (List Int), cs = [slA o] ∧ (lst o).length * 8 ≤ reachBytes ∧ ∀ x ∈ lst o, inI x := by
  obtain ⟨o, h1, _, h2, h3⟩ := y0l (α := Int) (T := tyI) (fun _ h => ybd h) h
  exact ⟨o, h1, h2, h3⟩
abbrev y1ac : Ty := .struct (.sCons tyI (.sCons tyI (.sCons tyI (.sCons tyI (.sCons tyI (.sCons tyI (.sCons tyI (.sCons .str (.sCons yn8 .sNil)))))))))
abbrev y1c4 : Ty := .struct (.sCons tyI (.sCons tyI (.sCons tyI (.sCons .str .sNil))))
structure InsOk (x : Ins) : Prop where
  op : inI x.op
  d : inI x.d
  a : inI x.a
  b : inI x.b
  c : inI x.c
  n : inI x.n
  t : inI x.t
  s : x.s.length ≤ reachBytes
  len : (lst x.args).length * 8 ≤ reachBytes
  args : ∀ r ∈ lst x.args, inI r
structure RowOk (r : Row) : Prop where
  f : inI r.f
  t : inI r.t
  a : inI r.at_
  c : r.c.length ≤ reachBytes
structure FnIn (f : Fn) : Prop where
  regs : (lst f.regs).length * 8 ≤ reachBytes
  regI : ∀ x ∈ lst f.regs, inI x
  params : (lst f.params).length * 8 ≤ reachBytes
  parI : ∀ x ∈ lst f.params, inI x
  ret : inI f.ret
  code : (lst f.code).length * 96 ≤ reachBytes
  insI : ∀ x ∈ lst f.code, InsOk x
  rows : (lst f.rows).length * 40 ≤ reachBytes
  rowI : ∀ x ∈ lst f.rows, RowOk x
theorem y18k {cs : List AV} (h : y1ac.has cs) : ∃ x : Ins, cs = enc x ∧ InsOk x := by
  obtain ⟨_, _, rfl, h1, _, _, rfl, h2, _, _, rfl, h3, _, _, rfl, h4, _, _, rfl, h5, _, _, rfl, h6, _, _, rfl, h7, _, _, rfl, h8, _, _, rfl, h9, rfl⟩ := h
  obtain ⟨op, rfl, k1⟩ := ybd h1
  obtain ⟨d, rfl, k2⟩ := ybd h2
  obtain ⟨a, rfl, k3⟩ := ybd h3
  obtain ⟨b, rfl, k4⟩ := ybd h4
  obtain ⟨c, rfl, k5⟩ := ybd h5
  obtain ⟨n, rfl, k6⟩ := ybd h6
  obtain ⟨t, rfl, k7⟩ := ybd h7
  obtain ⟨s, rfl, k8⟩ := y1gg h8
  obtain ⟨l, rfl, k9, k10⟩ := yhd h9
  exact ⟨⟨op, d, a, b, c, n, t, s, l⟩, rfl, ⟨k1, k2, k3, k4, k5, k6, k7, k8, k9, k10⟩⟩
theorem y1dc {cs : List AV} (h : y1c4.has cs) : ∃ x : Row, cs = enc x ∧ RowOk x := by
  obtain ⟨_, _, rfl, h1, _, _, rfl, h2, _, _, rfl, h3, _, _, rfl, h8, rfl⟩ := h
  obtain ⟨f, rfl, k1⟩ := ybd h1
  obtain ⟨t, rfl, k2⟩ := ybd h2
  obtain ⟨a, rfl, k3⟩ := ybd h3
  obtain ⟨s, rfl, k8⟩ := y1gg h8
  exact ⟨⟨f, t, a, s⟩, rfl, ⟨k1, k2, k3, k8⟩⟩
abbrev tyFn : Ty := .struct (.sCons yn8 (.sCons yn8 (.sCons tyI (.sCons (.slice 9 y1ac) (.sCons (.slice 4 y1c4) .sNil)))))
theorem y1hg {cs : List AV} (h : tyFn.has cs) : ∃ x : Fn, cs = enc x ∧ FnIn x := by
  obtain ⟨_, _, rfl, h1, _, _, rfl, h2, _, _, rfl, h3, _, _, rfl, h4, _, _, rfl, h5, rfl⟩ := h
  obtain ⟨regs, rfl, k1, l1⟩ := yhd h1
  obtain ⟨params, rfl, k2, l2⟩ := yhd h2
  obtain ⟨ret, rfl, k3⟩ := ybd h3
  obtain ⟨code, rfl, _, k4, l4⟩ := y0l (α := Ins) (T := y1ac) (fun _ h => y18k h) h4
  obtain ⟨rows, rfl, _, k5, l5⟩ := y0l (α := Row) (T := y1c4) (fun _ h => y1dc h) h5
  exact ⟨⟨regs, params, ret, code, rows⟩, rfl, ⟨k1, l1, k2, l2, k3, k4, l4, k5, l5⟩⟩
end Go.Vm
namespace Go.Vm
open Cel
def nz {α : Type} : List α → Option (List α)
  | [] => none
  | x :: L => some (x :: L)
@[simp] theorem y1ke {α : Type} (L : List α) : lst (nz L) = L := by cases L <;> rfl
section
variable {α : Type} [Cel α]
def yt4 (α : Type) [Cel α] (j g : Nat) : List α → AV
  | [] => .nils
  | _ :: L => .ls j g (es α) 0 (L.length + 1)
def y1jn (g : Nat) (o : AO) : List α → AO
  | [] => o
  | x :: L => ⟨g, .arr false false (es α) ((x :: L).map enc)⟩
@[simp] theorem y1h5 (j g : Nat) : yt4 α j g [] = .nils := rfl
@[simp] theorem y1gk (g : Nat) (o : AO) : y1jn g o ([] : List α) = o := rfl
@[simp] theorem y1dz (j g : Nat) (L : List α) (H : Heap) : yz 1 (yt4 α j g L) H = some (.int .i64 L.length) := by
  cases L <;> simp [yt4, yz]
@[simp] theorem y17s (j g : Nat) (L : List α) : cellsOf (yt4 α j g L) = [yt4 α j g L] := by cases L <;> rfl
@[simp] theorem y1ec (j g : Nat) (L : List α) : yl (yt4 α j g L) = true := by cases L <;> rfl
end
@[simp] theorem y1gm (h : Heap) (es id g es1 off len : Nat) : y33 h es (.ls id g es1 off len) = match yg h id g with
    | some (_, es', rows) => if es1 = es ∧ es' = es ∧ off + len ≤ rows.length then some ((rows.drop off).take len) else none
    | none => none := rfl
@[simp] theorem y1kv {α : Type} [Cel α] (x : α) (L : List α) : exO (nz (x :: L)) = ⟨.ls 0 0 (es α) 0 (L.length + 1), [.arr false false (es α) ((x :: L).map enc)], (x :: L).all scal, [], []⟩ := rfl
abbrev D0 : AO := ⟨0, .dead⟩
section
variable {α : Type} [Cel α]
end
@[simp] theorem y1im {α : Type} [Cel α] : exO (nz ([] : List α)) = ⟨.nils, [], true, [], []⟩ := rfl
theorem y19v {α : Type} [Cel α] {H : Heap} {id g i : Nat} {L : List α} {v : AV} {y : α} (h : H[id]? = some ⟨g, .arr false false (es α) (L.map enc)⟩) (hi : i < L.length) (hv : cellsOf v = enc y) :
    evSt (es α) (.lp id g i 0) v H = some (.tup [], H.set id ⟨g, .arr false false (es α) ((L.set i y).map enc)⟩) := by
  have hr : yg H id g = some (false, es α, L.map enc) := by simp [yg, y3w, h]
  have hg : (L.map (enc (α := α)))[i]? = some (enc L[i]) := by simp [hi]
  rw [ydh, hr]
  simp only [hg, hv]
  rw [if_pos ⟨len y, by rw [len]; omega, leaf y⟩]
  rw [yfd (by rw [len, len]), y1b, h]
  simp only
  rw [List.map_set]
abbrev AB (f : Fn) : AO := ⟨1, .arr true false 5 [enc f]⟩
end Go.Vm
namespace Go.Vm
open Cel
section
variable {α : Type} [Cel α]
def ownV (j g : Nat) : Option (List α) → AV
  | none => .nils
  | some L => .ls j g (es α) 0 L.length
def ownO (g : Nat) (d : AO) : Option (List α) → AO
  | none => d
  | some L => ⟨g, .arr false false (es α) (L.map enc)⟩
def exV (k : Nat) : Option (List α) → AV
  | none => .nils
  | some L => .ls k 0 (es α) 0 L.length
def exOs : Option (List α) → List OC
  | none => []
  | some L => [.arr false false (es α) (L.map enc)]
def ownI (j : Nat) : Option (List α) → List Nat
  | none => []
  | some _ => [j]
@[simp] theorem ykx (j g : Nat) (o : Option (List α)) : cellsOf (ownV j g o) = [ownV j g o] := by cases o <;> rfl
@[simp] theorem y1ff (j g : Nat) (o : Option (List α)) : yl (ownV j g o) = true := by cases o <;> rfl
@[simp] theorem y1fx (j g : Nat) (o : Option (List α)) : known (ownV j g o) = true := by cases o <;> rfl
@[simp] theorem y4y (j g : Nat) (o : Option (List α)) (H : Heap) : yz 1 (ownV j g o) H = some (.int .i64 (lst o).length) := by cases o <;> rfl
theorem y14x {H : Heap} {i : Nat} {o : AO} (h : H[i]? = some o) : H.set i o = H := by
  refine List.ext_getElem? fun k => ?_
  rw [List.getElem?_set]
  split
  · rename_i e; subst e
    rw [if_pos (List.getElem?_eq_some_iff.1 h).1, h]
  · rfl
theorem y90 {E : Env} {C : Calls2} {fb j f : Nat} {args : List AV} {H : Heap} {fa : Fz (List AV)} {N : Option (List α)} {o : AO} (hE : E.pure f = true) (ha : yc (fz H y13) args = some fa) (hc : C.p f fa.v = some (exO N))
    (hf : fa.ids = []) (ho : H[fb + j]? = some o) : y5 E C fb (some j) false f args H = some (ownV (fb + j) (o.gen + 1) N, H.set (fb + j) (ownO (o.gen + 1) o N)) := by
  simp only [y5, hE, Bool.false_and, Bool.not_false, Bool.and_self, if_true, y1q, ha, hc]
  have hfr : ((exO N).fresh || fa.ids.isEmpty) = true := by rw [hf]; simp
  simp only [hfr, if_true]
  cases N with
  | none =>
    simp only [exO, y1y, Bool.false_eq_true, if_false, ownV, ownO, y14x ho]
    rfl
  | some L => simp only [Bool.false_eq_true, if_false, y15t, ho, y15w, ownV, ownO]
theorem yiq {E : Env} {C : Calls2} {fb j f : Nat} {args : List AV} {H : Heap} {fa : Fz (List AV)} {N : Option (List α)} (hE : E.pure f = true) (ha : yc (fz H y13) args = some fa) (hc : C.p f fa.v = some (exO N))
    (hf : fa.ids = []) : y51 E C fb (some j) false f args H = some ([], ownI (fb + j) N) := by
  cases N with
  | none => simp [y51, hE, ha, hc, hf, exO, ownI]
  | some L => simp [y51, hE, ha, hc, hf, exO, ownI]
theorem yoa {H : Heap} {j g : Nat} {d : AO} {L : List α} (h : H[j]? = some (ownO g d (some L))) : yg H j g = some (false, es α, L.map enc) := by
  simp [yg, y3w, h, ownO]
theorem y17h {H : Heap} {j g k : Nat} {d : AO} {o : Option (List α)} (h : H[j]? = some (ownO g d o)) : fz H (k + 2) (ownV j g o) = some ⟨slA o, (lst o).all scal, ownI j o⟩ := by
  cases o with
  | none => rfl
  | some L =>
    rw [ownV, y17v, yoa h]
    simp only [List.drop_zero, Nat.zero_add, List.length_map, Nat.le_refl, and_self, if_true, yjc, y15f]
    simp [slA, ownI]
theorem y15e {H : Heap} {j g k : Nat} {d : AO} {o : Option (List α)} (h : H[j]? = some (ownO g d o)) (os : List OC) :
    expo H (k + 1) (ownV j g o) os = some ⟨exV os.length o, os ++ exOs o, (lst o).all scal, ownI j o, []⟩ := by
  cases o with
  | none => simp [ownV, expo, pure1, exV, exOs, ownI]
  | some L =>
    rw [ownV, y11b, yoa h]
    simp only [List.drop_zero, Nat.zero_add, List.length_map, Nat.le_refl, and_self, if_true, yjc, y1ax]
    rfl
end
def yav (f : Fn) : Ex AV :=
  ⟨.agg [exV 0 f.regs, exV (exOs f.regs).length f.params, .int .i64 f.ret, exV (exOs f.regs ++ exOs f.params).length f.code, exV (exOs f.regs ++ exOs f.params ++ exOs f.code).length f.rows],
    exOs f.regs ++ exOs f.params ++ exOs f.code ++ exOs f.rows, (lst f.code).all scal && (lst f.rows).all scal, [], []⟩
theorem y1cm {α : Type} [Cel α] (o : Option (List α)) (A B : List OC) (L : List α) (h : o = some L) : (y1d (A ++ exOs o ++ B))[A.length]? = some (ownO 0 ⟨0, .dead⟩ o) := by
  subst h
  simp [y1d, exOs, ownO]
theorem yof {α : Type} [Cel α] (o : Option (List α)) (A B : List OC) (k : Nat) : fz (y1d (A ++ exOs o ++ B)) (k + 2) (exV A.length o) = some ⟨slA o, (lst o).all scal, ownI A.length o⟩ := by
  cases ho : o with
  | none => rfl
  | some L => exact y17h (g := 0) (o := some L) (by have := y1cm o A B L ho; rwa [ho] at this)
theorem yt5 (f : Fn) : y1g8 (yav f) (.agg (enc f)) := by
  have h1 := yof f.regs [] (exOs f.params ++ exOs f.code ++ exOs f.rows) 9
  have h2 := yof f.params (exOs f.regs) (exOs f.code ++ exOs f.rows) 9
  have h3 := yof f.code (exOs f.regs ++ exOs f.params) (exOs f.rows) 9
  have h4 := yof f.rows (exOs f.regs ++ exOs f.params ++ exOs f.code) [] 9
  simp only [List.nil_append, List.append_nil, List.append_assoc, List.length_nil, List.length_append] at h1 h2 h3 h4
  have hi : fz (y1d (yav f).objs) 11 (.int .i64 f.ret) = some ⟨.int .i64 f.ret, true, []⟩ := rfl
  refine ⟨_, (ye2 _ 11 _).trans (by
    simp only [yav, yk, List.append_assoc, List.length_append] at hi ⊢
    simp only [h1, h2, h3, h4, hi, y10]
    rfl), rfl⟩
theorem yf3 {E : Env} {C : Calls2} {fb f : Nat} {args : List AV} {h : Heap} {fa : Fz (List AV)} {r : Ex AV} {v : AV} (hE : E.pure f = true) (ha : yc (fz h y13) args = some fa) (hf : fa.ids = [])
    (hc : C.p f fa.v = some r) (hr : y1g8 r v) (sl : Option Nat := none) (hsl : sl = none := by rfl) : y5 E C fb sl true f args h = some (v, h) := by
  subst hsl
  obtain ⟨q, h1, h2⟩ := hr
  simp [y5, hE, y1q, ha, hc, hf, h1, h2]
end Go.Vm
namespace Go.Vm
open Cel
theorem ykm {H : Heap} {a : Nat} {x : AO} (h : a < H.length) : (H.set a x)[a]? = some x := by simp [h]
theorem y2o {H : Heap} {a b : Nat} {x : AO} (h : a ≠ b) : (H.set a x)[b]? = H[b]? := List.getElem?_set_ne h
theorem yef {H : Heap} {a : Nat} {x : AO} (h : H[a]? = some x) : a < H.length := (List.getElem?_eq_some_iff.1 h).1
end Go.Vm
namespace Go.Vm
def calls (o : Int) : Bool := decide (23 ≤ o) && decide (o ≤ 26)
def ends (o : Int) : Bool := decide (o = 27) || decide (o = 30) || decide (o = 31)
def leads (o : Int) : Bool := decide (o = 27) || decide (o = 28) || decide (o = 29)
def reads (o : Int) : Nat :=
  if o ∈ [4, 6, 7, 8, 10, 12, 15, 16, 19, 21, 22, 31] then 1 else if o ∈ [5, 9, 11, 13, 17, 28] then 2 else if o = 14 then 3 else 0
theorem lo_f {o : Int} (h : o < 1) : (¬ o = 1 ∧ ¬ o = 2 ∧ ¬ o = 3 ∧ ¬ o = 4 ∧ ¬ o = 5 ∧ ¬ o = 6 ∧ ¬ o = 7 ∧ ¬ o = 8 ∧ ¬ o = 9 ∧ ¬ o = 10 ∧ ¬ o = 11 ∧ ¬ o = 12 ∧ ¬ o = 13 ∧ ¬ o = 14 ∧ ¬ o = 15 ∧ ¬ o = 16 ∧ ¬ o = 17 ∧ ¬ o = 18 ∧ ¬ o = 19 ∧ ¬ o = 20 ∧ ¬ o = 21 ∧ ¬ o = 22 ∧ ¬ o = 23 ∧ ¬ o = 24 ∧ ¬ o = 25 ∧ ¬ o = 26 ∧ ¬ o = 27 ∧ ¬ o = 28 ∧ ¬ o = 29 ∧ ¬ o = 30 ∧ ¬ o = 31 ∧ ¬ o = 32 ∧ ¬ o = 33) ∧ ¬ 7 ≤ o ∧ ¬ 23 ≤ o ∧ ¬ 1 ≤ o := by omega
theorem hi_f {o : Int} (h : 33 < o) : (¬ o = 1 ∧ ¬ o = 2 ∧ ¬ o = 3 ∧ ¬ o = 4 ∧ ¬ o = 5 ∧ ¬ o = 6 ∧ ¬ o = 7 ∧ ¬ o = 8 ∧ ¬ o = 9 ∧ ¬ o = 10 ∧ ¬ o = 11 ∧ ¬ o = 12 ∧ ¬ o = 13 ∧ ¬ o = 14 ∧ ¬ o = 15 ∧ ¬ o = 16 ∧ ¬ o = 17 ∧ ¬ o = 18 ∧ ¬ o = 19 ∧ ¬ o = 20 ∧ ¬ o = 21 ∧ ¬ o = 22 ∧ ¬ o = 23 ∧ ¬ o = 24 ∧ ¬ o = 25 ∧ ¬ o = 26 ∧ ¬ o = 27 ∧ ¬ o = 28 ∧ ¬ o = 29 ∧ ¬ o = 30 ∧ ¬ o = 31 ∧ ¬ o = 32 ∧ ¬ o = 33) ∧ 7 ≤ o ∧ 23 ≤ o ∧ ¬ o ≤ 12 ∧ ¬ o ≤ 26 ∧ 1 ≤ o := by omega
end Go.Vm
namespace Go.Vm
open Cel
attribute [local simp] y5 y1q yq
theorem ypr {n b : Nat} (hb : b ≤ 200) (h : n ≤ 2 ^ 38) : (2 * n + 512) * b ≤ 281474976710656 := by
  have e : (2:Nat)^38 = 274877906944 := by decide
  have h1 : (2 * n + 512) ≤ 549755814400 := by omega
  have : (2 * n + 512) * b ≤ 549755814400 * 200 := Nat.mul_le_mul h1 hb
  omega
@[simp] theorem y8q (o : Option (List Int)) (h : (lst o).length ≤ 17592186043904) : (y7 E).p 39 [slA o] = some (exO o) := by
  rw [y1fp]
  cases o with
  | none => simp [yrn, ynh, yqa]; rfl
  | some L =>
    simp only [y48] at h
    have h1 : (2 * L.length + 512) * 8 ≤ 281474976710656 := by omega
    simp [yrn, ynh, yqa, y7b, y2j, y95, h1]
    exact y9j (α := Int) (by simp)
end Go.Vm
namespace Go.Vm
open Cel
attribute [local simp] y5 y1q yq
@[simp] theorem yko (o : Option (List Ins)) (h : (lst o).length ≤ 2 ^ 38) : (y7 E).p 40 [slA o] = some (exO o) := by
  rw [y1es]
  cases o with
  | none => simp [yn1, ypc, ypx]; rfl
  | some L =>
    have h1 := ypr (b := 96) (by omega) h
    simp only [y48] at h1
    simp [yn1, ypc, ypx, y7b, y2j, y95, h1]
    exact y9j (α := Ins) (by simp)
@[simp] theorem y1b8 (o : Option (List Row)) (h : (lst o).length ≤ 2 ^ 38) : (y7 E).p 41 [slA o] = some (exO o) := by
  rw [y17l]
  cases o with
  | none => simp [yf6, yg3, yf2]; rfl
  | some L =>
    have h1 := ypr (b := 40) (by omega) h
    simp only [y48] at h1
    simp [yf6, yg3, yf2, y7b, y2j, y95, h1]
    exact y9j (α := Row) (by simp)
end Go.Vm
namespace Go.Vm
open Cel
attribute [local simp] yq
def mid (P l S : Heap) : Heap := P ++ (l ++ S)
section
variable {P l S : Heap} {j : Nat}
theorem y2t (h : j < l.length) : (mid P l S)[P.length + j]? = l[j]? := by
  unfold mid
  rw [List.getElem?_append_right (by omega), Nat.add_sub_cancel_left, List.getElem?_append_left h]
theorem y77 {x : AO} (h : j < l.length) : (mid P l S).set (P.length + j) x = mid P (l.set j x) S := by
  unfold mid
  rw [List.set_append_right _ _ (by omega), Nat.add_sub_cancel_left, List.set_append_left _ _ h]
theorem y1cw : (mid P l S).length = P.length + l.length + S.length := by
  unfold mid
  rw [List.length_append, List.length_append]; omega
theorem y197 {X : Heap} : mid P l S ++ X = mid P l (S ++ X) := by
  unfold mid
  rw [List.append_assoc, List.append_assoc]
theorem ybv (i : Nat) : (mid P l S)[P.length + l.length + i]? = S[i]? := by
  unfold mid
  rw [List.getElem?_append_right (by omega), List.getElem?_append_right (by omega)]
  congr 1; omega
theorem yjv {cs : List AV} {o : AO} (hl : cs.all yl = true) (hj : j < l.length) (ho : l[j]? = some o) : newC P.length (some j) cs (mid P l S) = some (.lp (P.length + j) (o.gen + 1) 0 0, mid P (l.set j ⟨o.gen + 1, .arr true false cs.length [cs]⟩) S) := by
  rw [newC, if_pos hl, y4z, place]
  simp only [y2t hj, ho, y77 hj]
end
theorem ldc {H : Heap} {a k : Nat} {c : List AV} {v : AV} (h : H[a]? = some ⟨1, .arr true false 5 [c]⟩) (hv : c[k]? = some v) : evLd false 1 (.lp a 1 0 k) H = some v := by
  have hr : yg H a 1 = some (false, 5, [c]) := by simp [yg, y3w, h]
  rw [y4f, hr]
  simp only [List.getElem?_cons_zero, y54, List.head?_drop, hv]
theorem ldb {H : Heap} {a : Nat} {c : List AV} (h : H[a]? = some ⟨1, .arr true false 5 [c]⟩) (hl : c.length = 5) : evLd true 5 (.lp a 1 0 0) H = some (.agg c) := by
  have hr : yg H a 1 = some (false, 5, [c]) := by simp [yg, y3w, h]
  rw [y4f, hr]
  simp only [List.getElem?_cons_zero, List.drop_zero, y3x, if_true, hl, Nat.le_refl]
  rw [List.take_of_length_le (by omega)]
theorem stb {H : Heap} {a : Nat} {c d : List AV} (h : H[a]? = some ⟨1, .arr true false 5 [c]⟩) (hl : c.length = 5) (hd : d.length = 5) (hf : d.all yl = true) :
    evSt 5 (.lp a 1 0 0) (.agg d) H = some (.tup [], H.set a ⟨1, .arr true false 5 [d]⟩) := by
  have hr : yg H a 1 = some (false, 5, [c]) := by simp [yg, y3w, h]
  rw [ydh, hr]
  simp only [List.getElem?_cons_zero, show cellsOf (.agg d) = d from rfl]
  rw [if_pos ⟨hd, by omega, hf⟩, yfd (by rw [hd, hl]), y1b, h]
  rfl
theorem yj1 (o : Option (List Row)) (h : (lst o).length ≤ 3518437208781) : (y7 E).p 41 [slA o] = some (exO o) := by
  rw [y17l]
  cases o with
  | none => simp [yf6, yg3, yf2]; rfl
  | some L =>
    simp only [y48] at h
    have h1 : (L.length + L.length / 4 + 512) * 40 ≤ 281474976710656 := by omega
    simp [yf6, yg3, yf2, y7b, y2j, y95, h1, y5, y1q]
    exact y9j (α := Row) (by simp)
structure FnCp (f : Fn) : Prop where
  regs : (lst f.regs).length ≤ 17592186043904
  params : (lst f.params).length ≤ 17592186043904
  code : (lst f.code).length ≤ 30000
  rows : (lst f.rows).length ≤ 3518437208781
  args : ∀ x ∈ lst f.code, (lst x.args).length ≤ 17592186043904
abbrev argO (x : Ins) : AO := ownO 1 D0 x.args
def rowI (N i : Nat) (x : Ins) : List AV := (enc x).take 8 ++ [ownV (N + i) 1 x.args]
def y3l (N k : Nat) (L : List Ins) : List (List AV) := (List.range L.length).map fun j => if j < k then rowI N j (L.getD j default) else enc (L.getD j default)
theorem y29 (N k : Nat) (L : List Ins) : (y3l N k L).length = L.length := by simp [y3l]
theorem y19m (N : Nat) (L : List Ins) : y3l N 0 L = L.map enc := by
  refine List.ext_getElem? fun i => ?_
  unfold y3l
  rw [List.getElem?_map, List.getElem?_map]
  by_cases h : i < L.length
  · rw [List.getElem?_range h, List.getElem?_eq_getElem h]
    simp [h]
  · rw [List.getElem?_eq_none (by simpa using h), List.getElem?_eq_none (by omega)]; rfl
theorem y8s {N k : Nat} {L : List Ins} {i : Nat} {x : Ins} (h : L[i]? = some x) : (y3l N k L)[i]? = some (if i < k then rowI N i x else enc x) := by
  have hi := (List.getElem?_eq_some_iff.1 h).1
  unfold y3l
  rw [List.getElem?_map, List.getElem?_range hi, Option.map_some, List.getD_eq_getElem?_getD, h]
  rfl
theorem ytm {N k : Nat} {L : List Ins} {x : Ins} (h : L[k]? = some x) : (y3l N k L).set k (rowI N k x) = y3l N (k + 1) L := by
  have hk := (List.getElem?_eq_some_iff.1 h).1
  refine List.ext_getElem? fun j => ?_
  rw [List.getElem?_set, y29]
  by_cases hj : j < L.length
  · have hy := List.getElem?_eq_getElem hj
    rw [y8s hy, y8s hy]
    by_cases e : k = j
    · subst e
      rw [h] at hy
      injection hy with hy
      rw [if_pos rfl, if_pos hk, if_pos (by omega), hy]
    · rw [if_neg e]
      by_cases h2 : j < k
      · rw [if_pos h2, if_pos (by omega)]
      · rw [if_neg h2, if_neg (by omega)]
  · rw [if_neg (by omega), List.getElem?_eq_none (by rw [y29]; omega), List.getElem?_eq_none (by rw [y29]; omega)]
abbrev fnJ (b : Nat) (f : Fn) : List AV := [ownV (b + 2) 1 f.regs, ownV (b + 3) 1 f.params, .int .i64 f.ret, ownV (b + 4) 1 f.code, ownV (b + 5) 1 f.rows]
def ysx (N k : Nat) : Option (List Ins) → AO
  | none => D0
  | some L => ⟨1, .arr false false 9 (y3l N k L)⟩
theorem y1dp (N : Nat) (o : Option (List Ins)) : ysx N 0 o = ownO 1 D0 o := by
  cases o with
  | none => rfl
  | some L => rw [ysx, y19m]; rfl
abbrev GBx (c : List AV) : AO := ⟨1, .arr true false 5 [c]⟩
abbrev cpL (b N k : Nat) (f : Fn) (c : List AV) : Heap := [AB f, GBx c, ownO 1 D0 f.regs, ownO 1 D0 f.params, ysx N k f.code, ownO 1 D0 f.rows, GBx (fnJ b f)]
theorem y1b0 (x : Ins) (v : AV) : yf 8 [v] (enc x) = (enc x).take 8 ++ [v] := rfl
section
variable {f : Fn} (hs : FnCp f) (P S : Heap) (c : List AV)
include hs
theorem y03 : ∀ (d k : Nat), k + d = (lst f.code).length →
    y2a P.length (.lp (P.length + 1) 1 0 0) (.lp (P.length + 6) 1 0 0) (.int .i64 (lst f.code).length) (.int .i64 (k : Int)) (mid P (cpL P.length (P.length + 7 + S.length) k f c) (S ++ ((lst f.code).take k).map argO)) =
      y3j P.length (.lp (P.length + 1) 1 0 0) (.lp (P.length + 6) 1 0 0) (mid P (cpL P.length (P.length + 7 + S.length) (lst f.code).length f c) (S ++ (lst f.code).map argO)) := by
  have hcl := hs.code
  intro d
  induction d with
  | zero =>
    intro k hk
    have e : k = (lst f.code).length := by omega
    subst e
    have hn : ¬ (((lst f.code).length : Int) < ((lst f.code).length : Int)) := by omega
    rw [List.take_length, y4v, y3i, ym, y4, decide_eq_false hn, y3m, y7n]
  | succ d ih =>
    intro k hk
    have hlt : k < (lst f.code).length := by omega
    have hc : (k : Int) < ((lst f.code).length : Int) := by omega
    obtain ⟨L, hL⟩ : ∃ L, f.code = some L := by
      cases hf : f.code with
      | none => rw [hf] at hlt; exact absurd hlt (Nat.not_lt_zero _)
      | some L => exact ⟨L, rfl⟩
    have hlL : lst f.code = L := by rw [hL]; rfl
    have ih := ih (k + 1) (by omega)
    have hx : L[k]? = some (lst f.code)[k] := by
      simp only [hL, y48] at hlt ⊢
      exact List.getElem?_eq_getElem hlt
    have ha := hs.args _ (List.getElem_mem hlt)
    have htk : ((lst f.code).take (k + 1)).map argO = ((lst f.code).take k).map argO ++ [argO (lst f.code)[k]] := by
      rw [List.take_succ_eq_append_getElem hlt, List.map_append]; rfl
    have hSl : (S ++ ((lst f.code).take k).map argO).length = S.length + k := by
      rw [List.length_append, List.length_map, List.length_take]; omega
    rw [htk, ← List.append_assoc] at ih
    generalize (lst f.code)[k] = x at *
    generalize S ++ ((lst f.code).take k).map argO = S' at *
    -- the heap with one more place
    have hH : (mid P (cpL P.length (P.length + 7 + S.length) k f c) S').length = P.length + 7 + S.length + k := by
      rw [y1cw, hSl]
      show P.length + 7 + (S.length + k) = _
      omega
    have hdead : mid P (cpL P.length (P.length + 7 + S.length) k f c) S' ++ yh 1 = mid P (cpL P.length (P.length + 7 + S.length) k f c) (S' ++ [D0]) := y197
    have b6 : (mid P (cpL P.length (P.length + 7 + S.length) k f c) (S' ++ [D0]))[P.length + 6]? = some (GBx (fnJ P.length f)) := y2t (by simp)
    have l3 := ldc b6 (k := 3) rfl
    rw [hL] at l3
    have b4 : (mid P (cpL P.length (P.length + 7 + S.length) k f c) (S' ++ [D0]))[P.length + 4]? = some ⟨1, .arr false false 9 (y3l (P.length + 7 + S.length) k L)⟩ := by
      rw [y2t (by simp)]
      show some (ysx (P.length + 7 + S.length) k f.code) = _
      rw [hL]; rfl
    have hkL : k < L.length := (List.getElem?_eq_some_iff.1 hx).1
    have ix : yu 9 (ownV (P.length + 4) 1 (some L)) (.int .i64 (k : Int)) = some (.lp (P.length + 4) 1 k 0) := by
      simp [ownV, yu, hkL]
    have hr : yg (mid P (cpL P.length (P.length + 7 + S.length) k f c) (S' ++ [D0])) (P.length + 4) 1 = some (false, 9, y3l (P.length + 7 + S.length) k L) := by simp [yg, y3w, b4]
    have hrow : (y3l (P.length + 7 + S.length) k L)[k]? = some (enc x) := by
      have := y8s (N := P.length + 7 + S.length) (k := k) hx
      rwa [if_neg (Nat.lt_irrefl k)] at this
    have l8 : evLd false 1 (.lp (P.length + 4) 1 k 8) (mid P (cpL P.length (P.length + 7 + S.length) k f c) (S' ++ [D0])) = some (slA x.args) := by
      rw [y4f, hr]
      simp only [hrow, y54]
      rfl
    have ha1 : yc (fz (mid P (cpL P.length (P.length + 7 + S.length) k f c) (S' ++ [D0])) y13) [slA x.args] = some ⟨[slA x.args], (lst x.args).isEmpty && true, []⟩ := by
      rw [yk, y14o, y10]; rfl
    have k39 := y8q x.args ha
    have hdd : (mid P (cpL P.length (P.length + 7 + S.length) k f c) (S' ++ [D0]))[P.length + 7 + S.length + k + 0]? = some D0 := by
      have := ybv (P := P) (l := cpL P.length (P.length + 7 + S.length) k f c) (S := S' ++ [D0]) (S.length + k)
      rw [show P.length + 7 + S.length + k + 0 = P.length + (cpL P.length (P.length + 7 + S.length) k f c).length + (S.length + k) by show _ = P.length + 7 + (S.length + k); omega, this, ← hSl, List.getElem?_append_right (Nat.le_refl _), Nat.sub_self]
      rfl
    have c1 := y90 (α := Int) (E := E) (C := y7 E) (fb := P.length + 7 + S.length + k) (j := 0) (f := 39) (o := D0) rfl ha1 k39 rfl hdd
    have f1 := yiq (α := Int) (E := E) (C := y7 E) (fb := P.length + 7 + S.length + k) (j := 0) (f := 39) (H := mid P (cpL P.length (P.length + 7 + S.length) k f c) (S' ++ [D0])) rfl ha1 k39 rfl
    have hset : (mid P (cpL P.length (P.length + 7 + S.length) k f c) (S' ++ [D0])).set (P.length + 7 + S.length + k + 0) (ownO (D0.gen + 1) D0 x.args) = mid P (cpL P.length (P.length + 7 + S.length) k f c) (S' ++ [argO x]) := by
      unfold mid
      rw [List.set_append_right _ _ (by omega), List.set_append_right _ _ (by show 7 ≤ _; omega), List.set_append_right _ _ (by rw [hSl]; show S.length + k ≤ _ - _ - 7; omega)]
      have : P.length + 7 + S.length + k + 0 - P.length - (cpL P.length (P.length + 7 + S.length) k f c).length - S'.length = 0 := by
        rw [hSl]
        show P.length + 7 + S.length + k + 0 - P.length - 7 - (S.length + k) = 0
        omega
      rw [this]
      rfl
    rw [hset] at c1
    have b4' : (mid P (cpL P.length (P.length + 7 + S.length) k f c) (S' ++ [argO x]))[P.length + 4]? = some ⟨1, .arr false false 9 (y3l (P.length + 7 + S.length) k L)⟩ := by
      rw [y2t (by simp)]
      show some (ysx (P.length + 7 + S.length) k f.code) = _
      rw [hL]; rfl
    have hr' : yg (mid P (cpL P.length (P.length + 7 + S.length) k f c) (S' ++ [argO x])) (P.length + 4) 1 = some (false, 9, y3l (P.length + 7 + S.length) k L) := by simp [yg, y3w, b4']
    have st : evSt 1 (.lp (P.length + 4) 1 k 8) (ownV (P.length + 7 + S.length + k + 0) (D0.gen + 1) x.args) (mid P (cpL P.length (P.length + 7 + S.length) k f c) (S' ++ [argO x])) = some (.tup [], mid P (cpL P.length (P.length + 7 + S.length) (k + 1) f c) (S' ++ [argO x])) := by
      rw [ydh, hr']
      simp only [hrow, ykx]
      rw [if_pos ⟨rfl, by rw [y1ad]; exact Nat.le_refl _, by simp⟩, y1b0, y1b, b4']
      simp only
      rw [show (enc x).take 8 ++ [ownV (P.length + 7 + S.length + k + 0) (D0.gen + 1) x.args] = rowI (P.length + 7 + S.length) k x from rfl, ytm hx, y77 (by simp)]
      have e4 : (cpL P.length (P.length + 7 + S.length) k f c).set 4 ⟨1, .arr false false 9 (y3l (P.length + 7 + S.length) (k + 1) L)⟩ = cpL P.length (P.length + 7 + S.length) (k + 1) f c := by
        show [AB f, GBx c, ownO 1 D0 f.regs, ownO 1 D0 f.params, ⟨1, .arr false false 9 (y3l (P.length + 7 + S.length) (k + 1) L)⟩, ownO 1 D0 f.rows, GBx (fnJ P.length f)] = _
        rw [cpL, hL]; rfl
      rw [e4]
    have hp : yi [([], []), (ids1 (.lp (P.length + 6) 1 0 3), []), ([], []), ([], []), (ids1 (.lp (P.length + 6) 1 0 3), []), ([], []), ([], []), ([], []), (ids1 (.lp (P.length + 4) 1 k 8), []), ([], ownI (P.length + 7 + S.length + k + 0) x.args), ([], []), ([], []), ([], ids1 (.lp (P.length + 4) 1 k 8))] [(1, 9)] = true := by
      cases x.args with
      | none => simp [yi, y1f, meets, ownI, ids1]
      | some A =>
        simp [yi, y1f, meets, ownI, ids1]
        omega
    have nl : y3 .add (.int .i64 (k : Int)) (.int .i64 1) = some (.int .i64 ((k + 1 : Nat) : Int)) := by
      rw [y3q]
      congr 2
      rw [y31] <;> omega
    have fa : ∀ a b i j : Nat, evFa j (.lp a b i 0) = some (.lp a b i (0 + j)) := fun a b i j => rfl
    rw [y4v, y3i, ym, y4, decide_eq_true hc, y3m, y34, y5q, hH, hdead]
    simp only [fa, Nat.zero_add, y4, l3, ix, l8, f1, y5h, c1, yw, st]
    rw [ynx hp, y5c, nl, y4]
    exact ih
end
end Go.Vm
namespace Go.Vm
open Cel
section
variable {α β : Type} {j k : Nat}
theorem y14f (h : j ≠ k) (o : Option (List α)) (o' : Option (List β)) : meets (ownI j o) (ownI k o') = false := by
  cases o <;> cases o' <;> simp [meets, ownI, h]
theorem y171 (h : j ≠ k) (o : Option (List α)) : meets [j] (ownI k o) = false := by
  cases o <;> simp [meets, ownI, h]
theorem y148 (h : j ≠ k) (o : Option (List α)) : meets (ownI j o) [k] = false := by
  cases o <;> simp [meets, ownI, h]
theorem y15c (h : j ≠ k) : meets [j] [k] = false := by simp [meets, h]
theorem y1dw (l : List Nat) : meets [] l = false := rfl
theorem y14b (l : List Nat) : meets l [] = false := by simp [meets]
end
section
variable {f : Fn} (hs : FnCp f) (P S : Heap)
include hs
abbrev cpH (P S : Heap) (f : Fn) : Heap := mid P (cpL P.length (P.length + 7 + S.length) (lst f.code).length f (fnJ P.length f)) (S ++ (lst f.code).map argO)
theorem yml : y2b P.length (.agg (enc f)) (mid P [D0, D0, D0, D0, D0, D0, D0] S) = some (.agg (fnJ P.length f), cpH P S f) := by
  have k1 := y8q f.regs hs.regs
  have k2 := y8q f.params hs.params
  have hc38 := hs.code
  have e38 : (2:Nat) ^ 38 = 274877906944 := by decide
  have k3 := yko f.code (by omega)
  have k4 := yj1 f.rows hs.rows
  have ha1 : ∀ (o : Option (List Int)) (H : Heap), yc (fz H y13) [slA o] = some ⟨[slA o], (lst o).isEmpty && true, []⟩ := fun o H => by
    rw [yk, y14o, y10]; rfl
  have ha2 : ∀ (o : Option (List Ins)) (H : Heap), yc (fz H y13) [slA o] = some ⟨[slA o], (lst o).isEmpty && true, []⟩ := fun o H => by
    rw [yk, y14o, y10]; rfl
  have ha3 : ∀ (o : Option (List Row)) (H : Heap), yc (fz H y13) [slA o] = some ⟨[slA o], (lst o).isEmpty && true, []⟩ := fun o H => by
    rw [yk, y14o, y10]; rfl
  have n0 : newC P.length (some 0) (cellsOf (.agg (enc f))) (mid P [D0, D0, D0, D0, D0, D0, D0] S) = some (.lp (P.length + 0) 1 0 0, mid P [AB f, D0, D0, D0, D0, D0, D0] S) := yjv (l := [D0, D0, D0, D0, D0, D0, D0]) (j := 0) (o := D0) (yxq f) (by decide) rfl
  have n1 : newC P.length (some 1) [.nils, .nils, .int .i64 0, .nils, .nils] (mid P [AB f, D0, D0, D0, D0, D0, D0] S) = some (.lp (P.length + 1) 1 0 0, mid P [AB f, GBx [.nils, .nils, .int .i64 0, .nils, .nils], D0, D0, D0, D0, D0] S) := yjv (l := [AB f, D0, D0, D0, D0, D0, D0]) (j := 1) (o := D0) rfl (by simp) rfl
  have lk : ∀ (k : Nat) (v : AV) (a b c d e g : AO), (enc f)[k]? = some v → evLd false 1 (.lp (P.length + 0) 1 0 k) (mid P [AB f, a, b, c, d, e, g] S) = some v := fun k v a b c d e g h => ldc (y2t (l := [AB f, a, b, c, d, e, g]) (j := 0) (by simp)) h
  have c1 := y90 (α := Int) (E := E) (C := y7 E) (fb := P.length) (j := 2) (f := 39) (H := mid P [AB f, GBx [.nils, .nils, .int .i64 0, .nils, .nils], D0, D0, D0, D0, D0] S) (o := D0) rfl (ha1 f.regs _) k1 rfl (y2t (by simp))
  have f1 := fun H => yiq (α := Int) (E := E) (C := y7 E) (fb := P.length) (j := 2) (f := 39) (H := H) rfl (ha1 f.regs H) k1 rfl
  rw [y77 (by simp)] at c1
  have c2 := y90 (α := Int) (E := E) (C := y7 E) (fb := P.length) (j := 3) (f := 39) (H := mid P [AB f, GBx [.nils, .nils, .int .i64 0, .nils, .nils], ownO 1 D0 f.regs, D0, D0, D0, D0] S) (o := D0) rfl (ha1 f.params _) k2 rfl (y2t (by simp))
  have f2 := fun H => yiq (α := Int) (E := E) (C := y7 E) (fb := P.length) (j := 3) (f := 39) (H := H) rfl (ha1 f.params H) k2 rfl
  rw [y77 (by simp)] at c2
  have c3 := y90 (α := Ins) (E := E) (C := y7 E) (fb := P.length) (j := 4) (f := 40) (H := mid P [AB f, GBx [.nils, .nils, .int .i64 0, .nils, .nils], ownO 1 D0 f.regs, ownO 1 D0 f.params, D0, D0, D0] S) (o := D0) rfl (ha2 f.code _) k3 rfl (y2t (by simp))
  have f3 := fun H => yiq (α := Ins) (E := E) (C := y7 E) (fb := P.length) (j := 4) (f := 40) (H := H) rfl (ha2 f.code H) k3 rfl
  rw [y77 (by simp)] at c3
  have c4 := y90 (α := Row) (E := E) (C := y7 E) (fb := P.length) (j := 5) (f := 41) (H := mid P [AB f, GBx [.nils, .nils, .int .i64 0, .nils, .nils], ownO 1 D0 f.regs, ownO 1 D0 f.params, ownO 1 D0 f.code, D0, D0] S) (o := D0) rfl (ha3 f.rows _) k4 rfl (y2t (by simp))
  have f4 := fun H => yiq (α := Row) (E := E) (C := y7 E) (fb := P.length) (j := 5) (f := 41) (H := H) rfl (ha3 f.rows H) k4 rfl
  rw [y77 (by simp)] at c4
  have c1' : y5 E (y7 E) P.length (some 2) false 39 [slA f.regs] (mid P [AB f, GBx [.nils, .nils, .int .i64 0, .nils, .nils], D0, D0, D0, D0, D0] S) = some (ownV (P.length + 2) 1 f.regs, mid P [AB f, GBx [.nils, .nils, .int .i64 0, .nils, .nils], ownO 1 D0 f.regs, D0, D0, D0, D0] S) := c1
  have c2' : y5 E (y7 E) P.length (some 3) false 39 [slA f.params] (mid P [AB f, GBx [.nils, .nils, .int .i64 0, .nils, .nils], ownO 1 D0 f.regs, D0, D0, D0, D0] S) = some (ownV (P.length + 3) 1 f.params, mid P [AB f, GBx [.nils, .nils, .int .i64 0, .nils, .nils], ownO 1 D0 f.regs, ownO 1 D0 f.params, D0, D0, D0] S) := c2
  have c3' : y5 E (y7 E) P.length (some 4) false 40 [slA f.code] (mid P [AB f, GBx [.nils, .nils, .int .i64 0, .nils, .nils], ownO 1 D0 f.regs, ownO 1 D0 f.params, D0, D0, D0] S) = some (ownV (P.length + 4) 1 f.code, mid P [AB f, GBx [.nils, .nils, .int .i64 0, .nils, .nils], ownO 1 D0 f.regs, ownO 1 D0 f.params, ownO 1 D0 f.code, D0, D0] S) := c3
  have c4' : y5 E (y7 E) P.length (some 5) false 41 [slA f.rows] (mid P [AB f, GBx [.nils, .nils, .int .i64 0, .nils, .nils], ownO 1 D0 f.regs, ownO 1 D0 f.params, ownO 1 D0 f.code, D0, D0] S) = some (ownV (P.length + 5) 1 f.rows, mid P [AB f, GBx [.nils, .nils, .int .i64 0, .nils, .nils], ownO 1 D0 f.regs, ownO 1 D0 f.params, ownO 1 D0 f.code, ownO 1 D0 f.rows, D0] S) := c4
  have hb : yt [.nils, .nils, .int .i64 0, .nils, .nils] [(0, 1, ownV (P.length + 2) 1 f.regs), (1, 1, ownV (P.length + 3) 1 f.params), (2, 1, .int .i64 f.ret), (3, 1, ownV (P.length + 4) 1 f.code), (4, 1, ownV (P.length + 5) 1 f.rows)] = some (.agg (fnJ P.length f)) := by
    simp [yt, y32, yf]
    rfl
  have n6 : newC P.length (some 6) [.nils, .nils, .int .i64 0, .nils, .nils] (mid P [AB f, GBx [.nils, .nils, .int .i64 0, .nils, .nils], ownO 1 D0 f.regs, ownO 1 D0 f.params, ownO 1 D0 f.code, ownO 1 D0 f.rows, D0] S) = some (.lp (P.length + 6) 1 0 0, mid P [AB f, GBx [.nils, .nils, .int .i64 0, .nils, .nils], ownO 1 D0 f.regs, ownO 1 D0 f.params, ownO 1 D0 f.code, ownO 1 D0 f.rows, GBx [.nils, .nils, .int .i64 0, .nils, .nils]] S) :=
    yjv (l := [AB f, GBx [.nils, .nils, .int .i64 0, .nils, .nils], ownO 1 D0 f.regs, ownO 1 D0 f.params, ownO 1 D0 f.code, ownO 1 D0 f.rows, D0]) (j := 6) (o := D0) rfl (by simp) rfl
  have hlf : (fnJ P.length f).all yl = true := by simp
  have s6 := stb (H := mid P [AB f, GBx [.nils, .nils, .int .i64 0, .nils, .nils], ownO 1 D0 f.regs, ownO 1 D0 f.params, ownO 1 D0 f.code, ownO 1 D0 f.rows, GBx [.nils, .nils, .int .i64 0, .nils, .nils]] S) (a := P.length + 6) (d := fnJ P.length f) (y2t (by simp)) rfl rfl hlf
  rw [y77 (by simp)] at s6
  have s6' : evSt 5 (.lp (P.length + 6) 1 0 0) (.agg (fnJ P.length f)) (mid P [AB f, GBx [.nils, .nils, .int .i64 0, .nils, .nils], ownO 1 D0 f.regs, ownO 1 D0 f.params, ownO 1 D0 f.code, ownO 1 D0 f.rows, GBx [.nils, .nils, .int .i64 0, .nils, .nils]] S) = some (.tup [], mid P (cpL P.length (P.length + 7 + S.length) 0 f [.nils, .nils, .int .i64 0, .nils, .nils]) S) := by
    rw [cpL, y1dp]
    exact s6
  have hp : yi [([], []), (ids1 (.lp (P.length + 0) 1 0 0), []), ([], ownI (P.length + 2) f.regs), ([], []), (ids1 (.lp (P.length + 0) 1 0 1), []), ([], ownI (P.length + 3) f.params), ([], []), (ids1 (.lp (P.length + 0) 1 0 2), []), ([], []), (ids1 (.lp (P.length + 0) 1 0 3), []), ([], ownI (P.length + 4) f.code), ([], []), (ids1 (.lp (P.length + 0) 1 0 4), []), ([], ownI (P.length + 5) f.rows), ([], []), ([], [P.length + 6]), ([], ids1 (.lp (P.length + 6) 1 0 0))]
      [(2, 4), (2, 7), (5, 7), (2, 9), (5, 9), (7, 10), (2, 12), (5, 12), (10, 12), (7, 13), (1, 15), (2, 15), (4, 15), (5, 15), (7, 15), (9, 15), (10, 15), (12, 15), (13, 15)] = true := by
    simp [yi, y1f, y14f, y171, y148, y15c, y1dw, y14b, ids1]
  have lp := y03 hs P S [.nils, .nils, .int .i64 0, .nils, .nils] _ 0 (Nat.zero_add _)
  rw [List.take_zero, List.map_nil, List.append_nil] at lp
  have z0 : ((0 : Nat) : Int) = 0 := rfl
  rw [z0] at lp
  have b6 : ∀ (k : Nat) (c : List AV) (X : Heap), (mid P (cpL P.length (P.length + 7 + S.length) k f c) X)[P.length + 6]? = some (GBx (fnJ P.length f)) := fun k c X => y2t (by simp)
  have b1 : ∀ (k : Nat) (c : List AV) (X : Heap), (mid P (cpL P.length (P.length + 7 + S.length) k f c) X)[P.length + 1]? = some (GBx c) := fun k c X => y2t (by simp)
  have fa : ∀ a k : Nat, evFa k (.lp a 1 0 0) = some (.lp a 1 0 (0 + k)) := fun a k => rfl
  have l3 : ∀ (k : Nat) (c : List AV) (X : Heap), evLd false 1 (.lp (P.length + 6) 1 0 3) (mid P (cpL P.length (P.length + 7 + S.length) k f c) X) = some (ownV (P.length + 4) 1 f.code) := fun k c X => ldc (b6 k c X) rfl
  have s1 := stb (H := mid P (cpL P.length (P.length + 7 + S.length) (lst f.code).length f [.nils, .nils, .int .i64 0, .nils, .nils]) (S ++ (lst f.code).map argO)) (a := P.length + 1) (d := fnJ P.length f) (b1 _ _ _) rfl rfl hlf
  rw [y77 (by simp)] at s1
  have s1' : evSt 5 (.lp (P.length + 1) 1 0 0) (.agg (fnJ P.length f)) (mid P (cpL P.length (P.length + 7 + S.length) (lst f.code).length f [.nils, .nils, .int .i64 0, .nils, .nils]) (S ++ (lst f.code).map argO)) = some (.tup [], cpH P S f) := s1
  have l6 := ldb (b6 (lst f.code).length [.nils, .nils, .int .i64 0, .nils, .nils] (S ++ (lst f.code).map argO)) rfl
  have l1 : evLd true 5 (.lp (P.length + 1) 1 0 0) (cpH P S f) = some (.agg (fnJ P.length f)) := ldb (b1 (lst f.code).length (fnJ P.length f) (S ++ (lst f.code).map argO)) rfl
  rw [y2b, n0, yw, n1, yw, y4c]
  have fb : ∀ k : Nat, evFa k (.lp (P.length + 0) 1 0 0) = some (.lp (P.length + 0) 1 0 k) := fun k => by
    rw [fa, Nat.zero_add]
  rw [fb, y4, lk 0 (slA f.regs) _ _ _ _ _ _ rfl, y4, f1, y5h, c1', yw, fb, y4, lk 1 (slA f.params) _ _ _ _ _ _ rfl, y4, f2, y5h, c2', yw, fb, y4, lk 2 (.int .i64 f.ret) _ _ _ _ _ _ rfl, y4,
    fb, y4, lk 3 (slA f.code) _ _ _ _ _ _ rfl, y4, f3, y5h, c3', yw, fb, y4, lk 4 (slA f.rows) _ _ _ _ _ _ rfl, y4, f4, y5h, c4', yw, hb, y4, n6, yw, s6', yw]
  rw [ynx hp, y59]
  simp only [fa, Nat.zero_add, y4, l3, y4y]
  rw [lp, y3j, l6, y4, s1', yw, l1, y4]
end
end Go.Vm
namespace Go.Vm
open Cel
structure FnJ (H : Heap) (b N : Nat) (f : Fn) : Prop where
  regs : ∀ L, f.regs = some L → H[b + 2]? = some ⟨1, .arr false false 1 (L.map enc)⟩
  params : ∀ L, f.params = some L → H[b + 3]? = some ⟨1, .arr false false 1 (L.map enc)⟩
  code : ∀ L, f.code = some L → H[b + 4]? = some ⟨1, .arr false false 9 (y3l N L.length L)⟩
  rows : ∀ L, f.rows = some L → H[b + 5]? = some ⟨1, .arr false false 4 (L.map enc)⟩
  args : ∀ (i : Nat) x L, (lst f.code)[i]? = some x → x.args = some L → H[N + i]? = some ⟨1, .arr false false 1 (L.map enc)⟩
theorem yhh {α : Type} [Cel α] {H : Heap} {j k : Nat} {o : Option (List α)} (h : ∀ L, o = some L → H[j]? = some ⟨1, .arr false false (es α) (L.map enc)⟩) : fz H (k + 2) (ownV j 1 o) = some ⟨slA o, (lst o).all scal, ownI j o⟩ := by
  cases o with
  | none => rfl
  | some L => exact y17h (d := ⟨0, .dead⟩) (o := some L) (h L rfl)
theorem ycg {α : Type} [Cel α] {H : Heap} {j k : Nat} {o : Option (List α)} (h : ∀ L, o = some L → H[j]? = some ⟨1, .arr false false (es α) (L.map enc)⟩) (os : List OC) :
    expo H (k + 1) (ownV j 1 o) os = some ⟨exV os.length o, os ++ exOs o, (lst o).all scal, ownI j o, []⟩ := by
  cases o with
  | none => simp [ownV, expo, pure1, exV, exOs, ownI]
  | some L => exact y15e (d := ⟨0, .dead⟩) (o := some L) (h L rfl) os
theorem y1du {H : Heap} {N i k : Nat} {x : Ins} (h : ∀ L, x.args = some L → H[N + i]? = some ⟨1, .arr false false 1 (L.map enc)⟩) : yc (fz H (k + 2)) (rowI N i x) = some ⟨enc x, true, ownI (N + i) x.args⟩ := by
  have ha : fz H (k + 2) (ownV (N + i) 1 x.args) = some ⟨slA x.args, (lst x.args).all scal, ownI (N + i) x.args⟩ := yhh (α := Int) h
  have hsc : (lst x.args).all scal = true := by simp
  rw [hsc] at ha
  have hi : ∀ n : Int, fz H (k + 2) (.int .i64 n) = some ⟨.int .i64 n, true, []⟩ := fun n => rfl
  have hst : fz H (k + 2) (.str x.s) = some ⟨.str x.s, true, []⟩ := rfl
  show yc (fz H (k + 2)) [.int .i64 x.op, .int .i64 x.d, .int .i64 x.a, .int .i64 x.b, .int .i64 x.c, .int .i64 x.n, .int .i64 x.t, .str x.s, ownV (N + i) 1 x.args] = _
  simp only [yk, hi, hst, ha, y10, Bool.and_self, List.nil_append, List.append_nil]
  rfl
theorem ys8 {N n : Nat} {L : List Ins} {i : Nat} {x : Ins} (hn : n = L.length) (h : L[i]? = some x) : (y3l N n L).drop i = rowI N i x :: (y3l N n L).drop (i + 1) := by
  have hi := (List.getElem?_eq_some_iff.1 h).1
  have hl : i < (y3l N n L).length := by rw [y29]; exact hi
  have := y8s (N := N) (k := n) h
  rw [if_pos (by omega), List.getElem?_eq_getElem hl] at this
  injection this with this
  rw [List.drop_eq_getElem_cons hl, this]
theorem yhc {H : Heap} {N k : Nat} {L : List Ins} (h : ∀ (i : Nat) x A, L[i]? = some x → x.args = some A → H[N + i]? = some ⟨1, .arr false false 1 (A.map enc)⟩) :
    ∀ (d i : Nat), i + d = L.length → ∃ ids, yc (yc (fz H (k + 2))) ((y3l N L.length L).drop i) = some ⟨(L.drop i).map enc, true, ids⟩ ∧ ∀ id ∈ ids, N ≤ id
  | 0, i, hi => by
    have e1 : (y3l N L.length L).drop i = [] := List.drop_eq_nil_of_le (by rw [y29]; omega)
    have e2 : L.drop i = [] := List.drop_eq_nil_of_le (by omega)
    rw [e1, e2]
    exact ⟨[], rfl, fun id h => by cases h⟩
  | d + 1, i, hi => by
    obtain ⟨ids, h1, h2⟩ := yhc (k := k) h d (i + 1) (by omega)
    have hlt : i < L.length := by omega
    have hx := List.getElem?_eq_getElem hlt
    have hr := y1du (H := H) (N := N) (i := i) (k := k) (x := L[i]) (fun A hA => h i _ A hx hA)
    rw [ys8 rfl hx, List.drop_eq_getElem_cons hlt, yk, hr, h1]
    refine ⟨_, rfl, fun id hid => ?_⟩
    rcases List.mem_append.1 hid with hid | hid
    · cases hq : L[i].args with
      | none => rw [hq] at hid; cases hid
      | some A =>
        rw [hq] at hid
        simp [ownI] at hid
        omega
    · exact h2 id hid
section
variable {H : Heap} {b N : Nat} {f : Fn} (J : FnJ H b N f)
include J
theorem FnJ.cf (k : Nat) : ∃ ids, fz H (k + 3) (ownV (b + 4) 1 f.code) = some ⟨slA f.code, true, ids⟩ ∧ ∀ id ∈ ids, id = b + 4 ∨ N ≤ id := by
  cases hc : f.code with
  | none => exact ⟨[], rfl, fun id h => by cases h⟩
  | some L =>
    have hr : yg H (b + 4) 1 = some (false, 9, y3l N L.length L) := by simp [yg, y3w, J.code L hc]
    obtain ⟨ids, h1, h2⟩ := yhc (H := H) (N := N) (k := k) (L := L) (fun i x A hx hA => J.args i x A (by rw [hc]; exact hx) hA) L.length 0 (Nat.zero_add _)
    refine ⟨(b + 4) :: ids, ?_, fun id hid => ?_⟩
    · have e : ownV (b + 4) 1 (some L) = (.ls (b + 4) 1 9 0 L.length : AV) := rfl
      rw [e, y17v, hr]
      simp only
      rw [if_pos (show _ ∧ _ from ⟨by trivial, by rw [y29]; omega⟩), List.drop_zero, List.take_of_length_le (by rw [y29]; exact Nat.le_refl _)]
      rw [List.drop_zero, List.drop_zero] at h1
      rw [h1]
      rfl
    · rcases List.mem_cons.1 hid with h | h
      · exact .inl h
      · exact .inr (h2 id h)
theorem FnJ.fz : ∃ fr ids, Go.Vm.fz H y13 (.agg (fnJ b f)) = some ⟨.agg (enc f), fr, ids⟩ := by
  have h1 := yhh (α := Int) (H := H) (j := b + 2) (k := 9) J.regs
  have h2 := yhh (α := Int) (H := H) (j := b + 3) (k := 9) J.params
  obtain ⟨ids, h3, _⟩ := J.cf 8
  have h4 := yhh (α := Row) (H := H) (j := b + 5) (k := 9) J.rows
  have hi : Go.Vm.fz H 11 (.int .i64 f.ret) = some ⟨.int .i64 f.ret, true, []⟩ := rfl
  refine ⟨_, _, (ye2 _ 11 _).trans (by
    simp only [yk, h1, h2, h3, h4, hi, y10]
    rfl)⟩
theorem FnJ.cx (os : List OC) : ∃ ids, expo H 11 (ownV (b + 4) 1 f.code) os = some ⟨exV os.length f.code, os ++ exOs f.code, true, ownI (b + 4) f.code, ids⟩ ∧ ∀ id ∈ ids, N ≤ id := by
  cases hc : f.code with
  | none => exact ⟨[], by simp [ownV, expo, pure1, exV, exOs, ownI, yx], fun id h => by cases h⟩
  | some L =>
    have hr : yg H (b + 4) 1 = some (false, 9, y3l N L.length L) := by simp [yg, y3w, J.code L hc]
    obtain ⟨ids, h1, h2⟩ := yhc (H := H) (N := N) (k := 10) (L := L) (fun i x A hx hA => J.args i x A (by rw [hc]; exact hx) hA) L.length 0 (Nat.zero_add _)
    refine ⟨ids, ?_, h2⟩
    have e : ownV (b + 4) 1 (some L) = (.ls (b + 4) 1 9 0 L.length : AV) := rfl
    rw [e, y11b, hr]
    simp only
    rw [if_pos (show _ ∧ _ from ⟨by trivial, by rw [y29]; omega⟩), List.drop_zero, List.take_of_length_le (by rw [y29]; exact Nat.le_refl _)]
    rw [List.drop_zero, List.drop_zero] at h1
    rw [show y13 = 10 + 2 from rfl, h1]
    rfl
theorem FnJ.expo (hN : b + 7 ≤ N) : yd H (.agg (fnJ b f)) = some { yav f with fresh := true } := by
  have x1 := fun os => ycg (α := Int) (H := H) (j := b + 2) (k := 10) J.regs os
  have x2 := fun os => ycg (α := Int) (H := H) (j := b + 3) (k := 10) J.params os
  have x4 := fun os => ycg (α := Row) (H := H) (j := b + 5) (k := 10) J.rows os
  have xi := fun os => y18a (v := .int .i64 f.ret) rfl H 10 os
  obtain ⟨ids, x3, hids⟩ := J.cx (exOs f.regs ++ exOs f.params)
  have sc1 : (lst f.regs).all scal = true := by simp
  have sc2 : (lst f.params).all scal = true := by simp
  have sc3 : (lst f.rows).all scal = true := by
    rw [List.all_eq_true]
    intro r _
    rfl
  rw [yip]
  simp only [fnJ, y3e, x1, x2, x3, x4, xi, List.nil_append]
  have ap : y2y (ownI (b + 2) f.regs ++ (ownI (b + 3) f.params ++ ([] ++ (ownI (b + 4) f.code ++ (ownI (b + 5) f.rows ++ []))))) ([] ++ ([] ++ ([] ++ (ids ++ ([] ++ []))))) = true := by
    have no : ∀ j, j < N → ids.contains j = false := fun j hj => by
      rw [← Bool.not_eq_true]
      intro hc
      have := hids j (by simpa using hc)
      omega
    have n2 := no (b + 2) (by omega)
    have n3 := no (b + 3) (by omega)
    have n4 := no (b + 4) (by omega)
    have n5 := no (b + 5) (by omega)
    simp only [List.nil_append, List.append_nil]
    cases f.regs <;> cases f.params <;> cases f.code <;> cases f.rows <;> simp [ownI, y2y] <;> simp_all
  simp only [List.nil_append] at ap
  rw [if_pos ap]
  simp only [sc1, sc2, sc3, yx, Bool.and_self, yav, List.length_append, List.append_assoc]
  rfl
end
theorem cp_J {f : Fn} (P S : Heap) : FnJ (cpH P S f) P.length (P.length + 7 + S.length) f := by
  have g : ∀ j o, (cpL P.length (P.length + 7 + S.length) (lst f.code).length f (fnJ P.length f))[j]? = some o → (cpH P S f)[P.length + j]? = some o := fun j o h => by
    rw [cpH, y2t (List.getElem?_eq_some_iff.1 h).1]; exact h
  refine ⟨fun L h => g 2 _ ?_, fun L h => g 3 _ ?_, fun L h => g 4 _ ?_, fun L h => g 5 _ ?_, fun i x L hx hL => ?_⟩
  · show some (ownO 1 D0 f.regs) = _
    rw [h]; rfl
  · show some (ownO 1 D0 f.params) = _
    rw [h]; rfl
  · show some (ysx _ (lst f.code).length f.code) = _
    rw [h]; rfl
  · show some (ownO 1 D0 f.rows) = _
    rw [h]; rfl
  have e : P.length + 7 + S.length + i = P.length + (cpL P.length (P.length + 7 + S.length) (lst f.code).length f (fnJ P.length f)).length + (S.length + i) := by
    show _ = P.length + 7 + (S.length + i)
    omega
  rw [e, cpH, ybv, List.getElem?_append_right (by omega), Nat.add_sub_cancel_left, List.getElem?_map, hx]
  show some (ownO 1 D0 x.args) = _
  rw [hL]; rfl
theorem y1ex {f : Nat} {cf : CFunc} {args : List AV} (hf : E.fn f = some cf) : (y7 E).p f args = match (y7 E).i f args 0 [] with
    | some (v, h) => yd h v
    | none => none := by
  rw [yfl, y40, hf, yfw, ycr, hf]
  rfl
theorem y1bq {f : Fn} (hs : FnCp f) : (y7 E).p 13 [.agg (enc f)] = some { yav f with fresh := true } := by
  obtain ⟨cf, hcf⟩ : ∃ cf, E.fn 13 = some cf := ⟨_, rfl⟩
  rw [y1ex hcf, y9k, if_pos (show 0 = ([] : Heap).length from rfl)]
  have h := yml hs [] []
  have e : (mid [] [D0, D0, D0, D0, D0, D0, D0] [] : Heap) = [] ++ yh 7 := rfl
  rw [e] at h
  have h' : y2b 0 (.agg (enc f)) ([] ++ yh 7) = some (.agg (fnJ 0 f), cpH [] [] f) := h
  rw [h']
  exact (cp_J (f := f) [] []).expo (Nat.le_refl _)
end Go.Vm
namespace Go.Vm
open Cel
attribute [local simp] y5 y1q yq
theorem yv3 (a b : Option (List Int)) (hn : (lst a).length = (lst b).length) (hl : (lst a).length ≤ 9223372036854775807) (h : Heap) : ∀ (d i : Nat), i + d = (lst a).length →
    yag (slA a) (slA b) (.int .i64 i) h = some ⟨.bool (decide ((lst a).drop i = (lst b).drop i)), [], true, [], []⟩ := by
  intro d
  induction d with
  | zero =>
    intro i hi
    have e1 : (lst a).drop i = [] := List.drop_eq_nil_of_le (by omega)
    have e2 : (lst b).drop i = [] := List.drop_eq_nil_of_le (by omega)
    rw [ygc, e1, e2]
    have : ¬ ((i : Int) < ((lst a).length : Int)) := by omega
    simp [ycz, yec, yd6, yce, yci, ydf, y8r, this]
  | succ d ih =>
    intro i hi
    have h1 : i < (lst a).length := by omega
    have h2 : i < (lst b).length := by omega
    have hc : ((i : Int) < ((lst a).length : Int)) := by omega
    have k1 := y8j (o := a) (i := i) (List.getElem?_eq_getElem h1) .i64
    have k2 := y8j (o := b) (i := i) (List.getElem?_eq_getElem h2) .i64
    rw [ygc, ypq h1 h2]
    by_cases he : (lst a)[i] = (lst b)[i]
    · have := ih (i + 1) (by omega)
      push_cast at this
      simp [ycz, yec, yd6, yce, yci, ydf, y8r, hc, k1, k2, he, y2n h1 hl, this]
    · simp [ycz, yec, yd6, yce, yci, ydf, y8r, hc, k1, k2, he]
@[simp] theorem y126 (a b : Option (List Int)) (hl : (lst a).length ≤ 9223372036854775807) : (y7 E).p 11 [slA a, slA b] = some ⟨.bool (decide (lst a = lst b)), [], true, [], []⟩ := by
  rw [y1gd]
  by_cases hn : (lst a).length = (lst b).length
  · have := yv3 a b hn hl [] (lst a).length 0 (by omega)
    simp only [Int.ofNat_zero, List.drop_zero] at this
    have hn' : ((lst a).length : Int) = ((lst b).length : Int) := by omega
    simp [ycz, yec, yd6, yce, yci, ydf, y8r, hn', show yag (slA a) (slA b) (.int .i64 0) [] = _ from this]
  · have hn' : ¬ ((lst a).length : Int) = ((lst b).length : Int) := by omega
    have : ¬ lst a = lst b := fun h => hn (by rw [h])
    simp [ycz, yec, yd6, yce, yci, ydf, y8r, hn', this]
end Go.Vm
namespace Go.Vm
open Cel
attribute [local simp] y5 y1q yq
def y2x (x y : Ins) : Bool := decide (x.op = y.op) && decide (x.d = y.d) && decide (x.a = y.a) && decide (x.b = y.b) && decide (x.c = y.c) && decide (x.n = y.n) && decide (x.t = y.t) && decide (x.s = y.s) && decide (lst x.args = lst y.args)
set_option maxHeartbeats 1000000 in
@[simp] theorem yvi (x y : Ins) (hl : (lst x.args).length ≤ 9223372036854775807) : (y7 E).p 28 [.agg (enc x), .agg (enc y)] = some ⟨.bool (y2x x y), [], true, [], []⟩ := by
  rw [y1eo]
  have hi := y126 x.args y.args hl
  by_cases h1 : x.op = y.op
  · by_cases h2 : x.d = y.d
    · by_cases h3 : x.a = y.a
      · by_cases h4 : x.b = y.b
        · by_cases h5 : x.c = y.c
          · by_cases h6 : x.n = y.n
            · by_cases h7 : x.t = y.t
              · by_cases h8 : x.s = y.s
                · simp [y73, y2x, h1, h2, h3, h4, h5, h6, h7, h8, hi]
                · simp [y73, y2x, h1, h2, h3, h4, h5, h6, h7, h8]
              · simp [y73, y2x, h1, h2, h3, h4, h5, h6, h7]
            · simp [y73, y2x, h1, h2, h3, h4, h5, h6]
          · simp [y73, y2x, h1, h2, h3, h4, h5]
        · simp [y73, y2x, h1, h2, h3, h4]
      · simp [y73, y2x, h1, h2, h3]
    · simp [y73, y2x, h1, h2]
  · simp [y73, y2x, h1]
end Go.Vm
