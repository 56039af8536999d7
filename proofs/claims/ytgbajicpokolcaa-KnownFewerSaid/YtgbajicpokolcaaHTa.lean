/- Facts for reading the machine's functions: combinators at known values; lists of things of one kind as slices. The things that the layers speak of: instructions, rows, functions. What is handed in, as things. What is told of instructions, in plain words. The pass 'carry', in plain words: which register is a copy of which. What the facts of the pass 'carry' say behind an instruction, where ways meet. What is told of types' descriptors. Names, the type at a text's beginning, types. What the stack's instructions over numbers take and give. What an instruction wants of its registers, in plain words. When an instruction, a function is well formed, in plain words. Lists that a function builds by appending, at a place of its own. Places that can be reached: a search with a stack, a search in rounds, a search that stops where something is found. Plain Lean; nothing here speaks of a program. Which places follow a place, in plain words. -/
import Derived.Test.YtgbajicpokolcaaVc
import Derived.Test.YtgbajicpokolcaaHX
set_option linter.unusedSimpArgs false
set_option linter.unusedVariables false
set_option linter.unusedSectionVars false
namespace Go.Vm
section comb
variable {α : Type}
@[simp] theorem y5 (v : AV) (K : AV → Option α) : ob (some v) K = K v := rfl
@[simp] theorem yc (v : AV) (h : Heap) (K : AV → Heap → Option α) : oh (some (v, h)) K = K v h := rfl
@[simp] theorem y6v {β : Type} (v : β) (K : β → Option α) : ofp (some v) K = K v := rfl
@[simp] theorem y5o (x : Option AV) (K : AV → Option α) : gb (.bool true) true x K = ob x K := rfl
@[simp] theorem yff (x : Option AV) (K : AV → Option α) : gb (.bool false) false x K = ob x K := rfl
@[simp] theorem yr4 (x : Option AV) (K : AV → Option α) : gb (.bool true) false x K = K (.tup []) := rfl
@[simp] theorem y82 (x : Option AV) (K : AV → Option α) : gb (.bool false) true x K = K (.tup []) := rfl
@[simp] theorem y4i (w : Bool) (x : Option AV) (K : AV → Option α) : gb (.tup []) w x K = K (.tup []) := rfl
@[simp] theorem y28w (x : Option (AV × Heap)) (h : Heap) (K : AV → Heap → Option α) : gh (.bool true) true x h K = oh x K := rfl
@[simp] theorem y2ui (x : Option (AV × Heap)) (h : Heap) (K : AV → Heap → Option α) : gh (.bool false) false x h K = oh x K := rfl
@[simp] theorem y2s0 (x : Option (AV × Heap)) (h : Heap) (K : AV → Heap → Option α) : gh (.bool true) false x h K = K (.tup []) h := rfl
@[simp] theorem y1sk (x : Option (AV × Heap)) (h : Heap) (K : AV → Heap → Option α) : gh (.bool false) true x h K = K (.tup []) h := rfl
@[simp] theorem ysz (w : Bool) (x : Option (AV × Heap)) (h : Heap) (K : AV → Heap → Option α) : gh (.tup []) w x h K = K (.tup []) h := rfl
@[simp] theorem y2ve (x : Option (List Nat × List Nat)) : fgd (.bool true) true x = x := rfl
@[simp] theorem y2lc (x : Option (List Nat × List Nat)) : fgd (.bool false) false x = x := rfl
@[simp] theorem y2kw (x : Option (List Nat × List Nat)) : fgd (.bool true) false x = some ([], []) := rfl
@[simp] theorem y2vq (x : Option (List Nat × List Nat)) : fgd (.bool false) true x = some ([], []) := rfl
@[simp] theorem y2uu (w : Bool) (x : Option (List Nat × List Nat)) : fgd (.tup []) w x = some ([], []) := rfl
@[simp] theorem y22 (a b : Option α) : cnd (.bool true) a b = a := rfl
@[simp] theorem y28 (a b : Option α) : cnd (.bool false) a b = b := rfl
@[simp] theorem y23m (x : Option α) : okK true x = x := rfl
theorem y1up {α : Type} {b : Bool} (h : b = true) (x : Option α) : okK b x = x := by rw [h]; rfl
@[simp] theorem y1c (a b : AV) : yb (.bool true) a b = some a := rfl
@[simp] theorem y1i (a b : AV) : yb (.bool false) a b = some b := rfl
@[simp] theorem y47 (b : Bool) : evUn .not (.bool b) = some (.bool (!b)) := rfl
@[simp] theorem y2t3 (neq a b : Bool) : y26s neq (.bool a) (.bool b) = some (.bool (if neq then !(a == b) else a == b)) := rfl
@[simp] theorem y2nf (i : Nat) (vs : List AV) : y42 i (.tup vs) = vs[i]? := rfl
@[simp] theorem y2oj (k k' : IntKind) (n : Int) : y1ck k (.int k' n) = some (.int k (k.wrap n)) := rfl
@[simp] theorem y2jq (cs : List AV) : yhm (.rp cs) = some (.rp cs) := rfl
@[simp] theorem y2iq (id g i off : Nat) : yhm (.lp id g i off) = some (.lp id g i off) := rfl
@[congr] theorem y2vy {x x' : Option AV} (h : x = x') (K : AV → Option α) : ob x K = ob x' K := by rw [h]
@[congr] theorem y2vx {x x' : Option (AV × Heap)} (h : x = x') (K : AV → Heap → Option α) : oh x K = oh x' K := by rw [h]
@[congr] theorem y2vl {β : Type} {x x' : Option β} (h : x = x') (K : β → Option α) : ofp x K = ofp x' K := by rw [h]
@[congr] theorem y2vv {g g' : AV} (h : g = g') (w : Bool) (x : Option AV) (K : AV → Option α) : gb g w x K = gb g' w x K := by rw [h]
@[congr] theorem y2vz {g g' : AV} (h : g = g') (w : Bool) (x : Option (AV × Heap)) (hp : Heap) (K : AV → Heap → Option α) : gh g w x hp K = gh g' w x hp K := by rw [h]
@[congr] theorem y2vj {g g' : AV} (h : g = g') (w : Bool) (x : Option (List Nat × List Nat)) : fgd g w x = fgd g' w x := by rw [h]
@[congr] theorem y2vo {c c' : AV} (h : c = c') (a b : Option α) : cnd c a b = cnd c' a b := by rw [h]
@[congr] theorem y2vr {c c' : Bool} (h : c = c') (a : Option α) : okK c a = okK c' a := by rw [h]
end comb
section ints
variable (k : IntKind) (a b : Int)
@[simp] theorem y46 : y6 .add (.int k a) (.int k b) = some (.int k (k.wrap (a + b))) := by simp [y6, y6j, yac]
@[simp] theorem yuq : y6 .sub (.int k a) (.int k b) = some (.int k (k.wrap (a - b))) := by simp [y6, y6j, yac]
@[simp] theorem y2no : y6 .mul (.int k a) (.int k b) = some (.int k (k.wrap (a * b))) := by simp [y6, y6j, yac]
@[simp] theorem yu : y6 .eql (.int k a) (.int k b) = some (.bool (decide (a = b))) := by simp [y6, y6j, yac, Bool.beq_eq_decide_eq]
@[simp] theorem yij : y6 .neq (.int k a) (.int k b) = some (.bool (decide (a ≠ b))) := by simp [y6, y6j, yac, bne, Bool.beq_eq_decide_eq]
@[simp] theorem y12 : y6 .lss (.int k a) (.int k b) = some (.bool (decide (a < b))) := by simp [y6, y6j, yac]
@[simp] theorem y7k : y6 .leq (.int k a) (.int k b) = some (.bool (decide (a ≤ b))) := by simp [y6, y6j, yac]
@[simp] theorem y7o : y6 .gtr (.int k a) (.int k b) = some (.bool (decide (b < a))) := by simp [y6, y6j, yac]
@[simp] theorem yej : y6 .geq (.int k a) (.int k b) = some (.bool (decide (b ≤ a))) := by simp [y6, y6j, yac]
end ints
@[simp] theorem y2kh (a b : List UInt8) : y6 .eql (.str a) (.str b) = some (.bool (decide (a = b))) := by simp [y6, y156, Bool.beq_eq_decide_eq]
@[simp] theorem y2ko (a b : List UInt8) : y6 .neq (.str a) (.str b) = some (.bool (decide (a ≠ b))) := by simp [y6, y156, Bool.beq_eq_decide_eq]
theorem y2r {n : Int} (h0 : -9223372036854775808 ≤ n) (h1 : n < 9223372036854775808) : IntKind.wrap .i64 n = n := by
  simp [IntKind.wrap, IntKind.bits, IntKind.signed]; omega
theorem y1o5 {i n : Nat} (h : i < n) (hn : n ≤ 9223372036854775807) : IntKind.wrap .i64 ((i : Int) + 1) = ((i + 1 : Nat) : Int) := by
  rw [y2r] <;> omega
theorem y1j {i n : Nat} (h : i < n) (hn : n ≤ 9223372036854775807) : IntKind.wrap .i64 ((i : Int) + 1) = (i : Int) + 1 := by rw [y1o5 h hn]; rfl
theorem y1ay {α : Type} [DecidableEq α] {a b : List α} {i : Nat} (h1 : i < a.length) (h2 : i < b.length) : decide (a.drop i = b.drop i) = (decide (a[i] = b[i]) && decide (a.drop (i + 1) = b.drop (i + 1))) := by
  rw [← Bool.decide_and]
  congr 1
  rw [List.drop_eq_getElem_cons h1, List.drop_eq_getElem_cons h2, List.cons_eq_cons]
@[simp] theorem y2v3 (k : Nat) (cs : List AV) : evFa k (.rp cs) = some (.rp (cs.drop k)) := rfl
@[simp] theorem yq3 (k id g i o : Nat) : evFa k (.lp id g i o) = some (.lp id g i (o + k)) := rfl
@[simp] theorem yy3 (agg : Bool) (n : Nat) (cs : List AV) (h : Heap) : evLd agg n (.rp cs) h = y6b agg n cs := rfl
@[simp] theorem y79 (n : Nat) (cs : List AV) : y6b false n cs = cs.head? := rfl
@[simp] theorem ykc (cs : List AV) : cellsOf (.agg cs) = cs := rfl
@[simp] theorem y2ee (k : IntKind) (n : Int) : cellsOf (.int k n) = [.int k n] := rfl
@[simp] theorem y2b7 (b : Bool) : cellsOf (.bool b) = [.bool b] := rfl
@[simp] theorem y2fh (s : List UInt8) : cellsOf (.str s) = [.str s] := rfl
@[simp] theorem y2bf : cellsOf .nils = [.nils] := rfl
@[simp] theorem y2ke (es : Nat) (rows : List (List AV)) : cellsOf (.rs es rows) = [.rs es rows] := rfl
@[simp] theorem y2k7 (id g es off len : Nat) : cellsOf (.ls id g es off len) = [.ls id g es off len] := rfl
class Cel (α : Type) where
  es : Nat
  enc : α → List AV
  len : ∀ x, (enc x).length = es
  pur : ∀ x, (enc x).all pure1 = true
  leaf : ∀ x, (enc x).all y16 = true
open Cel
instance : Cel Int := ⟨1, fun n => [.int .i64 n], fun _ => rfl, fun _ => rfl, fun _ => rfl⟩
instance : Cel Bool := ⟨1, fun b => [.bool b], fun _ => rfl, fun _ => rfl, fun _ => rfl⟩
structure Tx where
  s : List UInt8
  deriving DecidableEq, Inhabited
instance : Cel Tx := ⟨1, fun b => [.str b.s], fun _ => rfl, fun _ => rfl, fun _ => rfl⟩
@[simp] theorem y2t8 (n : Int) : enc n = [.int .i64 n] := rfl
@[simp] theorem y2rb (b : Bool) : enc b = [.bool b] := rfl
@[simp] theorem y2vf (b : Tx) : enc b = [.str b.s] := rfl
@[simp] theorem ywx : es Int = 1 := rfl
@[simp] theorem y2u1 : es Bool = 1 := rfl
@[simp] theorem y2w3 : es Tx = 1 := rfl
variable {α : Type} [Cel α]
def scal (x : α) : Bool := (enc x).all y26
@[simp] theorem y2ra (n : Int) : scal n = true := rfl
@[simp] theorem y2n5 (b : Bool) : scal b = true := rfl
@[simp] theorem y2si (b : Tx) : scal b = true := rfl
def lst (o : Option (List α)) : List α := o.getD []
omit [Cel α] in
@[simp] theorem y2qm : lst (none : Option (List α)) = [] := rfl
omit [Cel α] in
@[simp] theorem ybd (L : List α) : lst (some L) = L := rfl
def slA : Option (List α) → AV
  | none => .nils
  | some L => .rs (es α) (L.map enc)
instance : Cel (Option (List α)) := ⟨1, fun o => [slA o], fun _ => rfl, fun o => by cases o <;> rfl, fun o => by cases o <;> rfl⟩
@[simp] theorem y2vs (o : Option (List α)) : enc o = [slA o] := rfl
@[simp] theorem y2vt : es (Option (List α)) = 1 := rfl
@[simp] theorem y2mt (k : IntKind) (n : Int) : pure1 (.int k n) = true := rfl
@[simp] theorem y2kn (b : Bool) : pure1 (.bool b) = true := rfl
@[simp] theorem y2pg (b : List UInt8) : pure1 (.str b) = true := rfl
@[simp] theorem y2kg : pure1 .nils = true := rfl
@[simp] theorem y2lz (k : IntKind) (n : Int) : y16 (.int k n) = true := rfl
@[simp] theorem y2km (b : Bool) : y16 (.bool b) = true := rfl
@[simp] theorem y2nk (b : List UInt8) : y16 (.str b) = true := rfl
@[simp] theorem y2kj : y16 .nils = true := rfl
@[simp] theorem y2qy (es : Nat) (r : List (List AV)) : y16 (.rs es r) = true := rfl
@[simp] theorem y2r5 (id g es off len : Nat) : y16 (.ls id g es off len) = true := rfl
@[simp] theorem y2r8 (id g i o : Nat) : y16 (.lp id g i o) = true := rfl
@[simp] theorem y2j7 (k : IntKind) (n : Int) : y26 (.int k n) = true := rfl
@[simp] theorem y29u (b : Bool) : y26 (.bool b) = true := rfl
@[simp] theorem y2jp (b : List UInt8) : y26 (.str b) = true := rfl
@[simp] theorem y29o : y26 .nils = true := rfl
@[simp] theorem y1gu (o : Option (List α)) : cellsOf (slA o) = [slA o] := by cases o <;> rfl
@[simp] theorem y2rc (o : Option (List α)) : y16 (slA o) = true := by cases o <;> rfl
@[simp] theorem y198 (o : Option (List α)) : pure1 (slA o) = true := by cases o <;> rfl
@[simp] theorem yof (o : Option (List α)) : y26 (slA o) = (lst o).isEmpty := by
  cases o with
  | none => rfl
  | some L => cases L <;> rfl
@[simp] theorem y8z (o : Option (List α)) (h : Heap) : yv 1 (slA o) h = some (.int .i64 (lst o).length) := by cases o <;> simp [slA, yv]
@[simp] theorem ye4 (s : List UInt8) (h : Heap) : yv 0 (.str s) h = some (.int .i64 s.length) := rfl
@[simp] theorem y6q (id g es off len : Nat) (h : Heap) : yv 1 (.ls id g es off len) h = some (.int .i64 len) := rfl
@[simp] theorem y2kk (h : Heap) : yv 1 .nils h = some (.int .i64 0) := rfl
@[simp] theorem y2sv (id g i o : Nat) : ids1 (.lp id g i o) = [id] := rfl
@[simp] theorem y2tp (id g es o l : Nat) : ids1 (.ls id g es o l) = [id] := rfl
@[simp] theorem y2rk (cs : List AV) : ids1 (.rp cs) = [] := rfl
@[simp] theorem y2qt (k : IntKind) (n : Int) : ids1 (.int k n) = [] := rfl
@[simp] theorem y2r7 (s : List UInt8) : ids1 (.str s) = [] := rfl
@[simp] theorem y2u5 (o : Option (List α)) : ids1 (slA o) = [] := by cases o <;> rfl
@[simp] theorem y25w (neq : Bool) (o : Option (List α)) : y9c 1 neq (slA o) .nils = some (.bool (if neq then o.isSome else o.isNone)) := by
  cases o <;> cases neq <;> rfl
theorem yei {o : Option (List α)} {x : α} {i : Nat} (hx : (lst o)[i]? = some x) (k : IntKind) : yn (es α) (slA o) (.int k i) = some (.rp (enc x)) := by
  cases o with
  | none => simp at hx
  | some L =>
    simp only [ybd] at hx
    simp [slA, yn, hx]
theorem yt0 {o : Option (List α)} {x : α} {n : Int} (h0 : 0 ≤ n) (hx : (lst o)[n.toNat]? = some x) (k : IntKind) : yn (es α) (slA o) (.int k n) = some (.rp (enc x)) := by
  obtain ⟨i, rfl⟩ := Int.eq_ofNat_of_zero_le h0
  exact yei (by simpa using hx) k
@[simp] theorem ykl (o : Option (List α)) (h : Heap) : y3s h (es α) (slA o) = some ((lst o).map enc) := by
  cases o <;> simp [slA, y3s]
@[simp] theorem y1qz (o : Option (List α)) (h : Heap) : fz h y18 (slA o) = some ⟨slA o, (lst o).isEmpty, []⟩ := by
  rw [y2tc (y198 o), yof]
theorem y2hr (o : Option (List α)) (h : Heap) (k : Nat) : fz h (k + 1) (slA o) = some ⟨slA o, (lst o).isEmpty, []⟩ := by
  rw [fz_p (y198 o), yof]
@[simp] theorem y81 (x : α) (h : Heap) : fz h y18 (.agg (enc x)) = some ⟨.agg (enc x), scal x, []⟩ := y2lg h (pur x)
theorem ykm (L : List α) : (L.map enc).all (·.all pure1) = true := by simp only [List.all_map, List.all_eq_true]; exact fun x _ => pur x
theorem yis (L : List α) : (L.map enc).all (·.all y26) = L.all scal := by simp only [List.all_map]; rfl
@[simp] theorem y1lf (L : List α) (h : Heap) : yl (yl (fz h y18)) (L.map enc) = some ⟨L.map enc, L.all scal, []⟩ := by rw [y1p7 h (ykm L), yis]
@[simp] theorem y1l2 (L : List α) (h : Heap) : yl (yl (fz h 11)) (L.map enc) = some ⟨L.map enc, L.all scal, []⟩ := by rw [y1x3 h (ykm L), yis]
@[simp] theorem y2s5 (o : Option (List α)) : scal o = (lst o).isEmpty := by simp [scal]
@[simp] theorem y8a (L : List α) : (L.map (enc (α := α))).take L.length = L.map enc := by
  rw [List.take_of_length_le (by simp)]
@[simp] theorem yiv (x : α) : y6b true (es α) (enc x) = some (.agg (enc x)) := by
  simp only [y6b, if_true, len x, Nat.le_refl, if_pos]
  rw [List.take_of_length_le (by rw [len x]; exact Nat.le_refl _)]
@[simp] theorem y2qq (x : α) : (∀ v, v ∈ enc x → y16 v = true) ↔ True := by
  have := leaf x
  rw [List.all_eq_true] at this
  exact ⟨fun _ => trivial, fun _ => this⟩
theorem ypk (x : α) : (enc x).all y16 = true := leaf x
@[simp] theorem y1pw (h : Heap) (k : IntKind) (n : Int) : fz h y18 (.int k n) = some ⟨.int k n, true, []⟩ := rfl
@[simp] theorem yq0 (h : Heap) (b : Bool) : fz h y18 (.bool b) = some ⟨.bool b, true, []⟩ := rfl
@[simp] theorem y2tj (h : Heap) (b : List UInt8) : fz h y18 (.str b) = some ⟨.str b, true, []⟩ := rfl
@[simp] theorem y2qk (h : Heap) : fz h y18 .nils = some ⟨.nils, true, []⟩ := rfl
@[simp] theorem y2k9 (h : Heap) (k : IntKind) (n : Int) : yd h (.int k n) = some ⟨.int k n, [], true, [], []⟩ := rfl
@[simp] theorem y6a (h : Heap) (b : Bool) : yd h (.bool b) = some ⟨.bool b, [], true, [], []⟩ := rfl
@[simp] theorem y2kl (h : Heap) (s : List UInt8) : yd h (.str s) = some ⟨.str s, [], true, [], []⟩ := rfl
@[simp] theorem y2db (h : Heap) : yd h .nils = some ⟨.nils, [], true, [], []⟩ := rfl
@[simp] theorem y2r2 (h : Heap) (o : Option (List α)) : yd h (slA o) = some ⟨slA o, [], (lst o).isEmpty, [], []⟩ := by
  cases o with
  | none => rfl
  | some L => simp [slA, y25x]
theorem y1xw {v : AV} (hp : pure1 v = true) (h : Heap) (k : Nat) (os : List OC) : expo h (k + 1) v os = some ⟨v, os, y26 v, [], []⟩ := by
  cases v <;> simp_all [expo, pure1]
theorem y25t {cs : List AV} (h : Heap) (k : Nat) (os : List OC) (hp : cs.all pure1 = true) : y5h (expo h (k + 1)) cs os = some ⟨cs, os, cs.all y26, [], []⟩ := by
  induction cs with
  | nil => rfl
  | cons c cs ih =>
    simp only [List.all_cons, Bool.and_eq_true] at hp
    rw [y5h, y1xw hp.1]
    simp only [ih hp.2]
    rfl
theorem yjz (h : Heap) (cs : List AV) : yd h (.agg cs) = match y5h (expo h 11) cs [] with
    | some r => if y4l r.xs r.fs then some ⟨.agg r.v, r.objs, r.fresh, [], []⟩ else none
    | none => none := by
  show (match (match y5h (expo h 11) cs [] with
    | some r => some (⟨.agg r.v, r.objs, r.fresh, r.xs, r.fs⟩ : Ex AV)
    | none => none) with
    | some r => if y4l r.xs r.fs then some (⟨r.v, r.objs, r.fresh, [], []⟩ : Ex AV) else none
    | none => none) = _
  cases y5h (expo h 11) cs [] <;> rfl
@[simp] theorem y2n3 (h : Heap) (x : α) : yd h (.agg (enc x)) = some ⟨.agg (enc x), [], scal x, [], []⟩ := by
  rw [yjz, y25t h 10 [] (pur x)]
  rfl
theorem y2c7 (h : Heap) (k id g es1 off len : Nat) (os : List OC) : expo h (k + 1) (.ls id g es1 off len) os = match yt h id g with
    | some (true, _, _) => exFz h (.ls id g es1 off len) os
    | some (false, es, rows) => if es1 = es ∧ off + len ≤ rows.length then
        match yl (yl (fz h y18)) ((rows.drop off).take len) with
        | some r => some ⟨.ls os.length 0 es 0 len, os ++ [.arr false false es r.v], r.fresh, [id], r.ids⟩
        | none => none
      else none
    | none => none := by
  rw [expo]
  rfl
theorem y2os (h : Heap) (k id g es1 off len : Nat) : fz h (k + 1) (.ls id g es1 off len) = match yt h id g with
    | some (_, es, rows) => if es1 = es ∧ off + len ≤ rows.length then (match yl (yl (fz h k)) ((rows.drop off).take len) with
      | some r => some ⟨.rs es r.v, r.fresh, id :: r.ids⟩
      | none => none) else none
    | none => none := by
  rw [fz]
  rfl
theorem y24z (L : List α) (h : Heap) (k : Nat) : yl (yl (fz h (k + 1))) (L.map enc) = some ⟨L.map enc, L.all scal, []⟩ := by rw [y8y h k (ykm L), yis]
@[simp] theorem y15 {β γ : Type} (f : β → Option (Fz γ)) : yl f [] = some ⟨[], true, []⟩ := rfl
@[simp] theorem yj {β γ : Type} (f : β → Option (Fz γ)) (x : β) (xs : List β) : yl f (x :: xs) = match f x, yl f xs with
    | some a, some b => some ⟨a.v :: b.v, a.fresh && b.fresh, a.ids ++ b.ids⟩
    | _, _ => none := rfl
end Go.Vm
namespace Go.Vm
open Cel
structure Ins where
  op : Int
  d : Int
  a : Int
  b : Int
  c : Int
  n : Int
  t : Int
  s : List UInt8
  args : Option (List Int)
  deriving DecidableEq, Inhabited
structure Row where
  f : Int
  t : Int
  at_ : Int
  c : List UInt8
  deriving DecidableEq, Inhabited
structure Fn where
  regs : Option (List Int)
  params : Option (List Int)
  ret : Int
  code : Option (List Ins)
  rows : Option (List Row)
  deriving DecidableEq, Inhabited
instance : Cel Ins := ⟨9, fun x => [.int .i64 x.op, .int .i64 x.d, .int .i64 x.a, .int .i64 x.b, .int .i64 x.c, .int .i64 x.n, .int .i64 x.t, .str x.s, slA x.args], fun _ => rfl,
  fun x => by simp, fun x => by simp⟩
instance : Cel Row := ⟨4, fun x => [.int .i64 x.f, .int .i64 x.t, .int .i64 x.at_, .str x.c], fun _ => rfl, fun x => rfl, fun x => rfl⟩
instance : Cel Fn := ⟨5, fun x => [slA x.regs, slA x.params, .int .i64 x.ret, slA x.code, slA x.rows], fun _ => rfl, fun x => by simp, fun x => by simp⟩
@[simp] theorem y2vg : es Ins = 9 := rfl
@[simp] theorem y2vn : es Row = 4 := rfl
@[simp] theorem y2vu : es Fn = 5 := rfl
theorem y2eq (x : Row) : enc x = [.int .i64 x.f, .int .i64 x.t, .int .i64 x.at_, .str x.c] := rfl
section
variable (x : Ins) (r : Row) (f : Fn)
@[simp high] theorem ins0 : (enc x).head? = some (.int .i64 x.op) := rfl
@[simp high] theorem y2w0 : (enc x)[0]? = some (.int .i64 x.op) := rfl
@[simp high] theorem ins1 : ((enc x).drop 1).head? = some (.int .i64 x.d) := rfl
@[simp high] theorem y2wa : (enc x)[1]? = some (.int .i64 x.d) := rfl
@[simp high] theorem ins2 : ((enc x).drop 2).head? = some (.int .i64 x.a) := rfl
@[simp high] theorem y2w4 : (enc x)[2]? = some (.int .i64 x.a) := rfl
@[simp high] theorem ins3 : ((enc x).drop 3).head? = some (.int .i64 x.b) := rfl
@[simp high] theorem y2vw : (enc x)[3]? = some (.int .i64 x.b) := rfl
@[simp high] theorem ins4 : ((enc x).drop 4).head? = some (.int .i64 x.c) := rfl
@[simp high] theorem y2w5 : (enc x)[4]? = some (.int .i64 x.c) := rfl
@[simp high] theorem ins5 : ((enc x).drop 5).head? = some (.int .i64 x.n) := rfl
@[simp high] theorem y2w6 : (enc x)[5]? = some (.int .i64 x.n) := rfl
@[simp high] theorem ins6 : ((enc x).drop 6).head? = some (.int .i64 x.t) := rfl
@[simp high] theorem y2wb : (enc x)[6]? = some (.int .i64 x.t) := rfl
@[simp high] theorem ins7 : ((enc x).drop 7).head? = some (.str x.s) := rfl
@[simp high] theorem y2w7 : (enc x)[7]? = some (.str x.s) := rfl
@[simp high] theorem ins8 : ((enc x).drop 8).head? = some (slA x.args) := rfl
@[simp high] theorem y2w1 : (enc x)[8]? = some (slA x.args) := rfl
@[simp high] theorem row0 : (enc r).head? = some (.int .i64 r.f) := rfl
@[simp high] theorem y2w9 : (enc r)[0]? = some (.int .i64 r.f) := rfl
@[simp high] theorem row1 : ((enc r).drop 1).head? = some (.int .i64 r.t) := rfl
@[simp high] theorem y2w8 : (enc r)[1]? = some (.int .i64 r.t) := rfl
@[simp high] theorem row2 : ((enc r).drop 2).head? = some (.int .i64 r.at_) := rfl
@[simp high] theorem y2w2 : (enc r)[2]? = some (.int .i64 r.at_) := rfl
@[simp high] theorem row3 : ((enc r).drop 3).head? = some (.str r.c) := rfl
@[simp high] theorem y2wc : (enc r)[3]? = some (.str r.c) := rfl
@[simp high] theorem fn0 : (enc f).head? = some (slA f.regs) := rfl
@[simp high] theorem fn0q : (enc f)[0]? = some (slA f.regs) := rfl
@[simp high] theorem fn1 : ((enc f).drop 1).head? = some (slA f.params) := rfl
@[simp high] theorem fn1q : (enc f)[1]? = some (slA f.params) := rfl
@[simp high] theorem fn2 : ((enc f).drop 2).head? = some (.int .i64 f.ret) := rfl
@[simp high] theorem fn2q : (enc f)[2]? = some (.int .i64 f.ret) := rfl
@[simp high] theorem fn3 : ((enc f).drop 3).head? = some (slA f.code) := rfl
@[simp high] theorem fn3q : (enc f)[3]? = some (slA f.code) := rfl
@[simp high] theorem fn4 : ((enc f).drop 4).head? = some (slA f.rows) := rfl
@[simp high] theorem fn4q : (enc f)[4]? = some (slA f.rows) := rfl
@[simp] theorem yr0 : y6b true 9 (enc x) = some (.agg (enc x)) := yiv x
@[simp] theorem y2rm : y6b true 4 (enc r) = some (.agg (enc r)) := yiv r
@[simp] theorem y2vb : y6b true 5 (enc f) = some (.agg (enc f)) := yiv f
@[simp] theorem y0m : (enc x).length = 9 := rfl
@[simp] theorem y2tk : (enc r).length = 4 := rfl
@[simp] theorem y2b3 : (enc f).length = 5 := rfl
@[simp] theorem y22j : (enc x).all y16 = true := ypk x
@[simp] theorem y2qz : (enc r).all y16 = true := ypk r
@[simp] theorem yzf : (enc f).all y16 = true := ypk f
end
theorem y4v {o : Option (List Ins)} {x : Ins} {i : Nat} (hx : (lst o)[i]? = some x) (k : IntKind) : yn 9 (slA o) (.int k i) = some (.rp (enc x)) := yei hx k
theorem ydi {o : Option (List Row)} {x : Row} {i : Nat} (hx : (lst o)[i]? = some x) (k : IntKind) : yn 4 (slA o) (.int k i) = some (.rp (enc x)) := yei hx k
theorem y3l {o : Option (List Int)} {x : Int} {i : Nat} (hx : (lst o)[i]? = some x) (k : IntKind) : yn 1 (slA o) (.int k i) = some (.rp [.int .i64 x]) := yei hx k
theorem y6s {o : Option (List Ins)} {x : Ins} {n : Int} (h0 : 0 ≤ n) (hx : (lst o)[n.toNat]? = some x) (k : IntKind) : yn 9 (slA o) (.int k n) = some (.rp (enc x)) := yt0 h0 hx k
theorem y19h {o : Option (List Int)} {x : Int} {n : Int} (h0 : 0 ≤ n) (hx : (lst o)[n.toNat]? = some x) (k : IntKind) : yn 1 (slA o) (.int k n) = some (.rp [.int .i64 x]) := yt0 h0 hx k
@[simp] theorem y2kb (o : Option (List Int)) (h : Heap) : y3s h 1 (slA o) = some ((lst o).map enc) := ykl o h
@[simp] theorem y1h0 (o : Option (List Ins)) (h : Heap) : y3s h 9 (slA o) = some ((lst o).map enc) := ykl o h
@[simp] theorem y2kd (o : Option (List Row)) (h : Heap) : y3s h 4 (slA o) = some ((lst o).map enc) := ykl o h
def exO {α : Type} [Cel α] : Option (List α) → Ex AV
  | none => ⟨.nils, [], true, [], []⟩
  | some L => ⟨.ls 0 0 (es α) 0 L.length, [.arr false false (es α) (L.map enc)], L.all scal, [], []⟩
@[simp] theorem yvo {α : Type} [Cel α] (o : Option (List α)) : fz (y2j (exO o).objs) y18 (exO o).v = some ⟨slA o, (lst o).all scal, match o with | none => [] | some _ => [0]⟩ := by
  cases o with
  | none => rfl
  | some L =>
    show fz [⟨0, .arr false false (es α) (L.map enc)⟩] y18 (.ls 0 0 (es α) 0 L.length) = _
    rw [y1z9]
    simp [yt, y3w, slA]
@[simp] theorem y13y {α : Type} [Cel α] (fb j : Nat) (L : List α) (h : Heap) : y2n fb (some j) (exO (some L)).objs [] h = match h[fb + j]? with
    | some o => some ([(fb + j, o.gen + 1)], h.set (fb + j) ⟨o.gen + 1, .arr false false (es α) (L.map enc)⟩)
    | none => none := by
  simp only [exO, y2n, y52, okOC, if_true, place, List.nil_append]
  cases h[fb + j]? <;> rfl
@[simp] theorem y2mp {α : Type} [Cel α] (fb : Nat) (j : Option Nat) (h : Heap) : y2n fb j (exO (none : Option (List α))).objs [] h = some ([], h) := rfl
@[simp] theorem y12o {α : Type} [Cel α] (id g : Nat) (L : List α) : reloc [(id, g)] (exO (some L)).v = .ls id g (es α) 0 L.length := rfl
@[simp] theorem y2pj {α : Type} [Cel α] (tab : List (Nat × Nat)) : reloc tab (exO (none : Option (List α))).v = .nils := rfl
theorem yuy {α : Type} [Cel α] (o : Option (List α)) : (exO o).fresh = (lst o).all scal := by cases o <;> rfl
theorem y66 {α : Type} [Cel α] {h : Heap} {id g : Nat} {L : List α} (hr : yt h id g = some (false, es α, L.map enc)) : yd h (.ls id g (es α) 0 L.length) = some (exO (some L)) := by
  rw [yil, hr]
  simp [exO]
attribute [simp] newC y89 y4d place
@[simp] theorem ye9 (g : Nat) (b f : Bool) (e : Nat) (r : List (List AV)) (t : Heap) : yt (⟨g, .arr b f e r⟩ :: t) 0 g = some (f, e, r) := by simp [yt, y3w]
@[simp] theorem ypu (o : AO) (t : Heap) (i g : Nat) : yt (o :: t) (i + 1) g = yt t i g := rfl
@[simp] theorem y2ps (g : Nat) (b f : Bool) (e : Nat) (r r' : List (List AV)) (t : Heap) : y23 (⟨g, .arr b f e r⟩ :: t) 0 r' = ⟨g, .arr b f e r'⟩ :: t := rfl
@[simp] theorem y2ng (o : AO) (t : Heap) (i : Nat) (r : List (List AV)) : y23 (o :: t) (i + 1) r = o :: y23 t i r := by
  simp only [y23, List.getElem?_cons_succ]
  split <;> simp_all
@[simp] theorem y76 (n id g i off : Nat) (v : AV) (h : Heap) : evSt n (.lp id g i off) v h = match yt h id g with
    | some (false, _, rows) => match rows[i]? with
      | some row => if (cellsOf v).length = n ∧ off + n ≤ row.length ∧ (cellsOf v).all y16 = true then some (.tup [], y23 h id (rows.set i (y13 off (cellsOf v) row))) else none
      | none => none
    | _ => none := rfl
@[simp] theorem yg6 {vs row : List AV} (h : row.length = vs.length) : y13 0 vs row = vs := by
  simp [y13, ← h]
section
variable (x : Ins) (n : Int) (s : List UInt8) (o : Option (List Int))
@[simp] theorem y2un : y13 0 [.int .i64 n] (enc x) = enc { x with op := n } := rfl
@[simp] theorem y2sm : y13 1 [.int .i64 n] (enc x) = enc { x with d := n } := rfl
@[simp] theorem y2ux : y13 2 [.int .i64 n] (enc x) = enc { x with a := n } := rfl
@[simp] theorem y2ro : y13 3 [.int .i64 n] (enc x) = enc { x with b := n } := rfl
@[simp] theorem y2sa : y13 4 [.int .i64 n] (enc x) = enc { x with c := n } := rfl
@[simp] theorem y2us : y13 5 [.int .i64 n] (enc x) = enc { x with n := n } := rfl
@[simp] theorem y2t9 : y13 6 [.int .i64 n] (enc x) = enc { x with t := n } := rfl
@[simp] theorem y2v0 : y13 7 [.str s] (enc x) = enc { x with s := s } := rfl
@[simp] theorem y2ud : y13 8 [slA o] (enc x) = enc { x with args := o } := rfl
end
def yo6 (x : Ins) (v : AV) : List AV := [.int .i64 x.op, .int .i64 x.d, .int .i64 x.a, .int .i64 x.b, .int .i64 x.c, .int .i64 x.n, .int .i64 x.t, .str x.s, v]
@[simp] theorem y2r3 (x : Ins) (id g es off len : Nat) : y13 8 [.ls id g es off len] (enc x) = yo6 x (.ls id g es off len) := rfl
@[simp] theorem y2rh (x : Ins) : y13 8 [.nils] (enc x) = enc { x with args := none } := rfl
@[simp] theorem y2kc (x : Ins) (v : AV) : (yo6 x v).length = 9 := rfl
@[simp] theorem y2ka (x : Ins) (v : AV) : y6b true 9 (yo6 x v) = some (.agg (yo6 x v)) := rfl
@[simp] theorem y2ki (x : Ins) (w : AV) : (∀ v, v ∈ yo6 x w → y16 v = true) ↔ y16 w = true := by simp [yo6]
def y1lb (r : Ex AV) (v : AV) : Prop := ∃ q, fz (y2j r.objs) y18 r.v = some q ∧ q.v = v
@[simp] theorem y3y (agg : Bool) (n id g i off : Nat) (h : Heap) : evLd agg n (.lp id g i off) h = match yt h id g with
    | some (_, _, rows) => match rows[i]? with
      | some row => y6b agg n (row.drop off)
      | none => none
    | none => none := rfl
end Go.Vm
namespace Go.Vm
open Cel
def inI (n : Int) : Prop := -9223372036854775808 ≤ n ∧ n ≤ 9223372036854775807
abbrev tyI : Ty := .int .i64
theorem yh3 {cs : List AV} (h : tyI.has cs) : ∃ n : Int, cs = [.int .i64 n] ∧ inI n := by
  obtain ⟨n, rfl, h1, h2⟩ := h
  exact ⟨n, rfl, by simpa [IntKind.min, IntKind.max, IntKind.signed, IntKind.bits] using h1, by simpa [IntKind.min, IntKind.max, IntKind.signed, IntKind.bits] using h2⟩
theorem y2q8 {cs : List AV} (h : Ty.str.has cs) : ∃ s : List UInt8, cs = [.str s] ∧ s.length ≤ reachBytes := h
theorem y1bk {α : Type} [Cel α] {T : Ty} {Q : α → Prop} (hT : ∀ row, T.has row → ∃ x : α, row = enc x ∧ Q x) : ∀ (rows : List (List AV)), (∀ row, row ∈ rows → T.has row) → ∃ L : List α, rows = L.map enc ∧ ∀ x ∈ L, Q x
  | [], _ => ⟨[], rfl, fun x h => by cases h⟩
  | r :: rows, h => by
    obtain ⟨L, rfl, hL⟩ := y1bk hT rows (fun row hr => h row (by simp [hr]))
    obtain ⟨x, rfl, hx⟩ := hT r (h r (by simp))
    refine ⟨x :: L, rfl, fun y hy => ?_⟩
    rcases List.mem_cons.1 hy with rfl | hy
    · exact hx
    · exact hL y hy
theorem y1sh {α : Type} [Cel α] {T : Ty} {Q : α → Prop} (hT : ∀ row, T.has row → ∃ x : α, row = enc x ∧ Q x) {cs : List AV} (h : (Ty.slice (es α) T).has cs) : ∃ o : Option (List α), cs = [slA o] ∧ (lst o).length ≤ maxLen ∧ (lst o).length * T.bytes ≤ reachBytes ∧ ∀ x ∈ lst o, Q x := by
  rcases h with rfl | ⟨rows, rfl, hl, hz, hr⟩
  · exact ⟨none, rfl, Nat.zero_le _, by simp, fun x h => by cases h⟩
  · obtain ⟨L, rfl, hL⟩ := y1bk hT rows hr
    exact ⟨some L, rfl, by simpa using hl, by simpa using hz, hL⟩
abbrev y15i : Ty := .slice 1 tyI
theorem ypy {cs : List AV} (h : y15i.has cs) : ∃ o : Option (List Int), cs = [slA o] ∧ (lst o).length * 8 ≤ reachBytes ∧ ∀ x ∈ lst o, inI x := by
  obtain ⟨o, h1, _, h2, h3⟩ := y1sh (α := Int) (T := tyI) (fun _ h => yh3 h) h
  exact ⟨o, h1, h2, h3⟩
abbrev y2is : Ty := .struct (.sCons tyI (.sCons tyI (.sCons tyI (.sCons tyI (.sCons tyI (.sCons tyI (.sCons tyI (.sCons .str (.sCons y15i .sNil)))))))))
abbrev y2ho : Ty := .struct (.sCons tyI (.sCons tyI (.sCons tyI (.sCons .str .sNil))))
structure InsOk (x : Ins) : Prop where
  op : inI x.op
  d : inI x.d
  a : inI x.a
  b : inI x.b
  c : inI x.c
  n : inI x.n
  t : inI x.t
  s : x.s.length ≤ reachBytes
  len : (lst x.args).length * 8 ≤ reachBytes
  args : ∀ r ∈ lst x.args, inI r
structure RowOk (r : Row) : Prop where
  f : inI r.f
  t : inI r.t
  a : inI r.at_
  c : r.c.length ≤ reachBytes
structure FnIn (f : Fn) : Prop where
  regs : (lst f.regs).length * 8 ≤ reachBytes
  regI : ∀ x ∈ lst f.regs, inI x
  params : (lst f.params).length * 8 ≤ reachBytes
  parI : ∀ x ∈ lst f.params, inI x
  ret : inI f.ret
  code : (lst f.code).length * 96 ≤ reachBytes
  insI : ∀ x ∈ lst f.code, InsOk x
  rows : (lst f.rows).length * 40 ≤ reachBytes
  rowI : ∀ x ∈ lst f.rows, RowOk x
theorem y2f8 {cs : List AV} (h : y2is.has cs) : ∃ x : Ins, cs = enc x ∧ InsOk x := by
  obtain ⟨_, _, rfl, h1, _, _, rfl, h2, _, _, rfl, h3, _, _, rfl, h4, _, _, rfl, h5, _, _, rfl, h6, _, _, rfl, h7, _, _, rfl, h8, _, _, rfl, h9, rfl⟩ := h
  obtain ⟨op, rfl, k1⟩ := yh3 h1
  obtain ⟨d, rfl, k2⟩ := yh3 h2
  obtain ⟨a, rfl, k3⟩ := yh3 h3
  obtain ⟨b, rfl, k4⟩ := yh3 h4
  obtain ⟨c, rfl, k5⟩ := yh3 h5
  obtain ⟨n, rfl, k6⟩ := yh3 h6
  obtain ⟨t, rfl, k7⟩ := yh3 h7
  obtain ⟨s, rfl, k8⟩ := y2q8 h8
  obtain ⟨l, rfl, k9, k10⟩ := ypy h9
  exact ⟨⟨op, d, a, b, c, n, t, s, l⟩, rfl, ⟨k1, k2, k3, k4, k5, k6, k7, k8, k9, k10⟩⟩
theorem y2g3 {cs : List AV} (h : y2ho.has cs) : ∃ x : Row, cs = enc x ∧ RowOk x := by
  obtain ⟨_, _, rfl, h1, _, _, rfl, h2, _, _, rfl, h3, _, _, rfl, h8, rfl⟩ := h
  obtain ⟨f, rfl, k1⟩ := yh3 h1
  obtain ⟨t, rfl, k2⟩ := yh3 h2
  obtain ⟨a, rfl, k3⟩ := yh3 h3
  obtain ⟨s, rfl, k8⟩ := y2q8 h8
  exact ⟨⟨f, t, a, s⟩, rfl, ⟨k1, k2, k3, k8⟩⟩
abbrev tyFn : Ty := .struct (.sCons y15i (.sCons y15i (.sCons tyI (.sCons (.slice 9 y2is) (.sCons (.slice 4 y2ho) .sNil)))))
theorem y2o1 {cs : List AV} (h : tyFn.has cs) : ∃ x : Fn, cs = enc x ∧ FnIn x := by
  obtain ⟨_, _, rfl, h1, _, _, rfl, h2, _, _, rfl, h3, _, _, rfl, h4, _, _, rfl, h5, rfl⟩ := h
  obtain ⟨regs, rfl, k1, l1⟩ := ypy h1
  obtain ⟨params, rfl, k2, l2⟩ := ypy h2
  obtain ⟨ret, rfl, k3⟩ := yh3 h3
  obtain ⟨code, rfl, _, k4, l4⟩ := y1sh (α := Ins) (T := y2is) (fun _ h => y2f8 h) h4
  obtain ⟨rows, rfl, _, k5, l5⟩ := y1sh (α := Row) (T := y2ho) (fun _ h => y2g3 h) h5
  exact ⟨⟨regs, params, ret, code, rows⟩, rfl, ⟨k1, l1, k2, l2, k3, k4, l4, k5, l5⟩⟩
end Go.Vm
namespace Go.Vm
def calls (o : Int) : Bool := decide (23 ≤ o) && decide (o ≤ 26)
def ends (o : Int) : Bool := decide (o = 27) || decide (o = 30) || decide (o = 31)
def leads (o : Int) : Bool := decide (o = 27) || decide (o = 28) || decide (o = 29)
def throws (o : Int) : Bool := (decide (7 ≤ o) && decide (o ≤ 12)) || decide (o = 20) || decide (o = 21) || decide (o = 31) || calls o
def writes (o : Int) : Bool := decide (o ∈ [1, 2, 3, 4, 5, 6, 13, 15, 16, 18, 20, 21, 22, 32]) || calls o
def defr (x : Ins) : Int := if writes x.op then x.d else -1
def reads (o : Int) : Nat :=
  if o ∈ [4, 6, 7, 8, 10, 12, 15, 16, 19, 21, 22, 31] then 1 else if o ∈ [5, 9, 11, 13, 17, 28] then 2 else if o = 14 then 3 else 0
def uses (x : Ins) : Option (List Int) :=
  if calls x.op then x.args
  else if x.op = 29 then (if x.b < 0 then some [x.a] else some [x.a, x.b])
  else if x.op = 30 then (if 0 ≤ x.a then some [x.a] else none)
  else if reads x.op = 1 then some [x.a] else if reads x.op = 2 then some [x.a, x.b] else if reads x.op = 3 then some [x.a, x.b, x.c] else none
theorem ybp (o : Int) : o = 1 ∨ o = 2 ∨ o = 3 ∨ o = 4 ∨ o = 5 ∨ o = 6 ∨ o = 7 ∨ o = 8 ∨ o = 9 ∨ o = 10 ∨ o = 11 ∨ o = 12 ∨ o = 13 ∨ o = 14 ∨ o = 15 ∨ o = 16 ∨ o = 17 ∨ o = 18 ∨ o = 19 ∨ o = 20 ∨ o = 21 ∨ o = 22 ∨ o = 23 ∨ o = 24 ∨ o = 25 ∨ o = 26 ∨ o = 27 ∨ o = 28 ∨ o = 29 ∨ o = 30 ∨ o = 31 ∨ o = 32 ∨ o = 33 ∨ o < 1 ∨ 33 < o := by omega
theorem lo_f {o : Int} (h : o < 1) : (¬ o = 1 ∧ ¬ o = 2 ∧ ¬ o = 3 ∧ ¬ o = 4 ∧ ¬ o = 5 ∧ ¬ o = 6 ∧ ¬ o = 7 ∧ ¬ o = 8 ∧ ¬ o = 9 ∧ ¬ o = 10 ∧ ¬ o = 11 ∧ ¬ o = 12 ∧ ¬ o = 13 ∧ ¬ o = 14 ∧ ¬ o = 15 ∧ ¬ o = 16 ∧ ¬ o = 17 ∧ ¬ o = 18 ∧ ¬ o = 19 ∧ ¬ o = 20 ∧ ¬ o = 21 ∧ ¬ o = 22 ∧ ¬ o = 23 ∧ ¬ o = 24 ∧ ¬ o = 25 ∧ ¬ o = 26 ∧ ¬ o = 27 ∧ ¬ o = 28 ∧ ¬ o = 29 ∧ ¬ o = 30 ∧ ¬ o = 31 ∧ ¬ o = 32 ∧ ¬ o = 33) ∧ ¬ 7 ≤ o ∧ ¬ 23 ≤ o ∧ ¬ 1 ≤ o := by omega
theorem hi_f {o : Int} (h : 33 < o) : (¬ o = 1 ∧ ¬ o = 2 ∧ ¬ o = 3 ∧ ¬ o = 4 ∧ ¬ o = 5 ∧ ¬ o = 6 ∧ ¬ o = 7 ∧ ¬ o = 8 ∧ ¬ o = 9 ∧ ¬ o = 10 ∧ ¬ o = 11 ∧ ¬ o = 12 ∧ ¬ o = 13 ∧ ¬ o = 14 ∧ ¬ o = 15 ∧ ¬ o = 16 ∧ ¬ o = 17 ∧ ¬ o = 18 ∧ ¬ o = 19 ∧ ¬ o = 20 ∧ ¬ o = 21 ∧ ¬ o = 22 ∧ ¬ o = 23 ∧ ¬ o = 24 ∧ ¬ o = 25 ∧ ¬ o = 26 ∧ ¬ o = 27 ∧ ¬ o = 28 ∧ ¬ o = 29 ∧ ¬ o = 30 ∧ ¬ o = 31 ∧ ¬ o = 32 ∧ ¬ o = 33) ∧ 7 ≤ o ∧ 23 ≤ o ∧ ¬ o ≤ 12 ∧ ¬ o ≤ 26 ∧ 1 ≤ o := by omega
end Go.Vm
namespace Go.Vm
abbrev Fx := List Int
def unq (r : Int) (s : Fx) : Fx := s.map fun q => if q = r then -1 else q
def wrtL (s : Fx) (r : Int) : Fx := unq r (s.set r.toNat (-1))
def behM (s : Fx) (x : Ins) : Fx :=
  if defr x < 0 ∨ (x.op = 4 ∧ x.a = defr x) then s
  else if x.op = 4 then
    (if 0 ≤ s.getD x.a.toNat (-1) ∧ s.getD x.a.toNat (-1) ≠ defr x then (wrtL s (defr x)).set (defr x).toNat (s.getD x.a.toNat (-1))
     else if s.getD x.a.toNat (-1) = defr x then s else (wrtL s (defr x)).set (defr x).toNat x.a)
  else (wrtL s (defr x)).set (defr x).toNat (-1)
end Go.Vm
namespace Go.Vm
end Go.Vm
namespace Go.Vm
open Cel
attribute [local simp] y7 y25 ym
def okB (b : UInt8) : Bool := (decide (97 ≤ b.toNat) && decide (b.toNat ≤ 122)) || (decide (65 ≤ b.toNat) && decide (b.toNat ≤ 90)) || (decide (48 ≤ b.toNat) && decide (b.toNat ≤ 57)) || decide (b.toNat = 95) || decide (b.toNat = 36) || decide (b.toNat = 47)
def y7u (s : List UInt8) : Bool := decide (1 ≤ s.length) && decide (s.length ≤ 60) && s.all okB
theorem y1qn (s : List UInt8) (i : Nat) (hi : i < s.length) (v18 : AV) :
    q7_4 (.bool false) (.ls 0 1 1 0 s.length) v18 (.int .i64 i) [⟨1, .arr false false 1 (s.map fun b => [.int .u8 b.toNat])⟩] =
      if okB s[i] then q7_3 (.bool false) (.ls 0 1 1 0 s.length) v18 (.int .i64 i) [⟨1, .arr false false 1 (s.map fun b => [.int .u8 b.toNat])⟩] else some ⟨.bool false, [], true, [], []⟩ := by
  have hc : ((i : Int) < (s.length : Int)) := by omega
  generalize hb : s[i].toNat = n
  have e : (s.map fun b => ([.int .u8 b.toNat] : List AV))[i]? = some [.int .u8 (n : Int)] := by
    rw [List.getElem?_map, List.getElem?_eq_getElem hi, ← hb]; rfl
  have ho : okB s[i] = ((decide (97 ≤ n) && decide (n ≤ 122)) || (decide (65 ≤ n) && decide (n ≤ 90)) || (decide (48 ≤ n) && decide (n ≤ 57)) || decide (n = 95) || decide (n = 36) || decide (n = 47)) := by
    rw [okB, hb]
  rw [ho]
  have c1 : ∀ k : Nat, ((k : Int) ≤ (n : Int)) = (k ≤ n) := fun k => by simp
  have f1 : ((97 : Int) ≤ (n : Int)) = (97 ≤ n) := c1 97
  have f2 : ((65 : Int) ≤ (n : Int)) = (65 ≤ n) := c1 65
  have f3 : ((48 : Int) ≤ (n : Int)) = (48 ≤ n) := c1 48
  have g1 : ((n : Int) ≤ (122 : Int)) = (n ≤ 122) := by simp; omega
  have g2 : ((n : Int) ≤ (90 : Int)) = (n ≤ 90) := by simp; omega
  have g3 : ((n : Int) ≤ (57 : Int)) = (n ≤ 57) := by simp; omega
  have d1 : ((n : Int) = (95 : Int)) = (n = 95) := by simp; omega
  have d2 : ((n : Int) = (36 : Int)) = (n = 36) := by simp; omega
  have d3 : ((n : Int) = (47 : Int)) = (n = 47) := by simp; omega
  have step : ∀ (b1 b2 b3 b4 b5 b6 b7 b8 b9 : Bool), decide (97 ≤ n) = b1 → decide (n ≤ 122) = b2 → decide (65 ≤ n) = b3 → decide (n ≤ 90) = b4 → decide (48 ≤ n) = b5 → decide (n ≤ 57) = b6 → decide (n = 95) = b7 → decide (n = 36) = b8 → decide (n = 47) = b9 →
      q7_4 (.bool false) (.ls 0 1 1 0 s.length) v18 (.int .i64 i) [⟨1, .arr false false 1 (s.map fun b => [.int .u8 b.toNat])⟩] =
      if (b1 && b2) || (b3 && b4) || (b5 && b6) || b7 || b8 || b9 then q7_3 (.bool false) (.ls 0 1 1 0 s.length) v18 (.int .i64 i) [⟨1, .arr false false 1 (s.map fun b => [.int .u8 b.toNat])⟩] else some ⟨.bool false, [], true, [], []⟩ := by
    intro b1 b2 b3 b4 b5 b6 b7 b8 b9 h1 h2 h3 h4 h5 h6 h7 h8 h9
    rw [q7_4]
    have e0 : yn 1 (.ls 0 1 1 0 s.length) (.int .i64 i) = some (.lp 0 1 i 0) := by simp [yn, hc, hi]
    have tri : ∀ a b : Bool, (a = false) ∨ (a = true ∧ b = false) ∨ (a = true ∧ b = true) := by intro a b; cases a <;> cases b <;> simp
    have l1 : y6 .geq (.int .u8 (n : Int)) (.int .u8 97) = some (.bool b1) := by rw [yej]; simp only [f1, h1]
    have l2 : y6 .leq (.int .u8 (n : Int)) (.int .u8 122) = some (.bool b2) := by rw [y7k]; simp only [g1, h2]
    have l3 : y6 .geq (.int .u8 (n : Int)) (.int .u8 65) = some (.bool b3) := by rw [yej]; simp only [f2, h3]
    have l4 : y6 .leq (.int .u8 (n : Int)) (.int .u8 90) = some (.bool b4) := by rw [y7k]; simp only [g2, h4]
    have l5 : y6 .geq (.int .u8 (n : Int)) (.int .u8 48) = some (.bool b5) := by rw [yej]; simp only [f3, h5]
    have l6 : y6 .leq (.int .u8 (n : Int)) (.int .u8 57) = some (.bool b6) := by rw [y7k]; simp only [g3, h6]
    have l7 : y6 .eql (.int .u8 (n : Int)) (.int .u8 95) = some (.bool b7) := by rw [yu]; simp only [d1, h7]
    have l8 : y6 .eql (.int .u8 (n : Int)) (.int .u8 36) = some (.bool b8) := by rw [yu]; simp only [d2, h8]
    have l9 : y6 .eql (.int .u8 (n : Int)) (.int .u8 47) = some (.bool b9) := by rw [yu]; simp only [d3, h9]
    clear h1 h2 h3 h4 h5 h6 h7 h8 h9
    simp only [e0, y5, y3y, ye9, e, List.drop_zero, y79, List.head?_cons, l1]
    generalize q7_3 (.bool false) (.ls 0 1 1 0 s.length) v18 (.int .i64 i) [⟨1, .arr false false 1 (s.map fun b => [.int .u8 b.toNat])⟩] = Z
    rcases tri b1 b2 with rfl | ⟨rfl, rfl⟩ | ⟨rfl, rfl⟩ <;> simp only [l2, y5o, yff, yr4, y82, y4i, y5, y1c, y1i, y47, y22, y28, l3, y6a] <;> try (simp; done)
    all_goals rcases tri b3 b4 with rfl | ⟨rfl, rfl⟩ | ⟨rfl, rfl⟩ <;> simp only [l4, y5o, yff, yr4, y82, y4i, y5, y1c, y1i, y47, y22, y28, l5, y6a] <;> try (simp; done)
    all_goals rcases tri b5 b6 with rfl | ⟨rfl, rfl⟩ | ⟨rfl, rfl⟩ <;> simp only [l6, y5o, yff, yr4, y82, y4i, y5, y1c, y1i, y47, y22, y28, l7, y6a] <;> try (simp; done)
    all_goals cases b7 <;> simp only [y5o, yff, yr4, y82, y4i, y5, y1c, y1i, y47, y22, y28, l8, y6a] <;> try (simp; done)
    all_goals cases b8 <;> simp only [y5o, yff, yr4, y82, y4i, y5, y1c, y1i, y47, y22, y28, l9, y6a] <;> try (simp; done)
    all_goals cases b9 <;> simp
  exact step _ _ _ _ _ _ _ _ _ rfl rfl rfl rfl rfl rfl rfl rfl rfl
end Go.Vm
namespace Go.Vm
open Cel
attribute [local simp] y7 y25 ym
theorem y1v4 (s : List UInt8) (hl : s.length ≤ 60) : ∀ (d i : Nat), i + d = s.length →
    y1ti (.bool false) (.ls 0 1 1 0 s.length) (.int .i64 s.length) (.int .i64 i) [⟨1, .arr false false 1 (s.map fun b => [.int .u8 b.toNat])⟩] = some ⟨.bool ((s.drop i).all okB), [], true, [], []⟩ := by
  intro d
  induction d with
  | zero =>
    intro i hi
    have e1 : s.drop i = [] := List.drop_eq_nil_of_le (by omega)
    have hc : ¬ ((i : Int) < (s.length : Int)) := by omega
    rw [y1b2, e1]
    simp [q7_6, q7_5, q7_1, hc]
  | succ d ih =>
    intro i hi
    have hlt : i < s.length := by omega
    have hc : ((i : Int) < (s.length : Int)) := by omega
    have := ih (i + 1) (by omega)
    push_cast at this
    have e1 : (s.drop i).all okB = (okB s[i] && (s.drop (i + 1)).all okB) := by rw [List.drop_eq_getElem_cons hlt, List.all_cons]
    have hw : IntKind.wrap .i64 ((i : Int) + 1) = (i : Int) + 1 := y2r (by omega) (by omega)
    rw [y1b2, e1]
    simp only [q7_6, q7_5, y12, y5, hc, decide_true, y22, y1qn s i hlt]
    cases okB s[i]
    · simp
    · simp [q7_3, hw, this]
@[simp] theorem y2vp (s : List UInt8) : (y8 E).p 60 [.str s, .bool false] = some ⟨.bool (y7u s), [], true, [], []⟩ := by
  rw [x_q7]
  by_cases h1 : ((s.length : Int) < 1)
  · have : ¬ 1 ≤ s.length := by omega
    simp [q7_1, q7_3, q7_4, q7_5, q7_6, q7_8, y1kk, y1lz, h1, y7u, this]
  by_cases h2 : ((60 : Int) < (s.length : Int))
  · have : ¬ s.length ≤ 60 := by omega
    simp [q7_1, q7_3, q7_4, q7_5, q7_6, q7_8, y1kk, y1lz, h1, h2, y7u, this]
  · have a1 : 1 ≤ s.length := by omega
    have a2 : s.length ≤ 60 := by omega
    have := y1v4 s a2 s.length 0 (by omega)
    simp only [List.drop_zero] at this
    simp only [y7u, a1, a2, decide_true, Bool.true_and, ← this]
    simp [y1lz, y1kk, q7_8, h1, h2, s2bC]
def lead : List UInt8 → Nat
  | [] => 0
  | c :: r => if c = 91 then lead r + 1 else 0
theorem ybb : ∀ s : List UInt8, lead s ≤ s.length
  | [] => Nat.le_refl _
  | c :: r => by
    have := ybb r
    simp only [lead, List.length_cons]
    split <;> omega
theorem y05 : ∀ {s : List UInt8} {i : Nat}, i < lead s → s[i]? = some 91
  | [], i, h => by simp [lead] at h
  | c :: r, i, h => by
    simp only [lead] at h
    split at h
    · rename_i e
      cases i with
      | zero => simp [e]
      | succ i => simpa using y05 (s := r) (by omega)
    · omega
theorem y0c : ∀ {s : List UInt8} {c : UInt8}, s[lead s]? = some c → c ≠ 91
  | [], c, h => by simp at h
  | d :: r, c, h => by
    simp only [lead] at h
    split at h
    · exact y0c (s := r) (by simpa using h)
    · rename_i e; simp at h; rw [← h]; exact e
def yto (s : List UInt8) : Nat :=
  if 8 < lead s ∨ lead s = s.length then 0
  else if s[lead s]? = some 73 ∨ s[lead s]? = some 74 then lead s + 1
  else if s[lead s]? = some 76 then
    (if (s.drop (lead s + 1)).findIdx (· == 59) < (s.drop (lead s + 1)).length ∧ y7u ((s.take (lead s + 1 + (s.drop (lead s + 1)).findIdx (· == 59))).drop (lead s + 1)) = true then lead s + 1 + (s.drop (lead s + 1)).findIdx (· == 59) + 1 else 0)
  else 0
theorem ixstr {s : List UInt8} {i : Nat} {c : UInt8} (h : s[i]? = some c) : y43 (.str s) (.int .i64 i) = some (.int .u8 c.toNat) := by
  simp [y43, h]
theorem y5s (c : UInt8) (k : UInt8) : ((c.toNat : Int) = (k.toNat : Int)) ↔ c = k := by
  rw [Int.ofNat_inj]; exact ⟨fun h => UInt8.toNat_inj.1 h, fun h => by rw [h]⟩
theorem y1ua (s : List UInt8) (hs : s.length ≤ 9223372036854775807) (h : Heap) : ∀ (d i : Nat), i + d = lead s → yrl (.str s) (.int .i64 i) h = ym1 (.str s) (.int .i64 (lead s)) h := by
  intro d
  induction d with
  | zero =>
    intro i hi
    obtain rfl : i = lead s := by omega
    rw [ys0]
    have := ybb s
    by_cases hc : lead s < s.length
    · have e := List.getElem?_eq_getElem hc
      have hne := y0c e
      have hc' : ((lead s : Int) < (s.length : Int)) := by omega
      have hb : ¬ ((s[lead s].toNat : Int) = 91) := fun hh => hne ((y5s _ 91).1 hh)
      simp [y1t0, hc', ixstr e, hb]
    · have hc' : ¬ ((lead s : Int) < (s.length : Int)) := by omega
      simp [y1t0, hc']
  | succ d ih =>
    intro i hi
    have e := y05 (s := s) (i := i) (by omega)
    have := ybb s
    have hc' : ((i : Int) < (s.length : Int)) := by omega
    have ih := ih (i + 1) (by omega)
    push_cast at ih
    rw [ys0]
    simp [y1t0, hc', ixstr e, y2gf, y1j (show i < s.length by omega) hs, ih]
theorem y1i0 (s : List UInt8) (hs : s.length ≤ 9223372036854775807) (n : Nat) (h : Heap) : ∀ (d i : Nat), n + 1 ≤ i → i + d = s.length →
    y1jm (.str s) (.int .i64 n) (.int .i64 i) h =
      some ⟨.int .i64 (if (s.drop i).findIdx (· == 59) < (s.drop i).length ∧ y7u ((s.take (i + (s.drop i).findIdx (· == 59))).drop (n + 1)) = true then (i + (s.drop i).findIdx (· == 59) + 1 : Nat) else (0 : Nat)), [], true, [], []⟩ := by
  intro d
  induction d with
  | zero =>
    intro i h1 hi
    rw [y1bb]
    have e1 : s.drop i = [] := List.drop_eq_nil_of_le (by omega)
    have hc : ¬ ((i : Int) < (s.length : Int)) := by omega
    simp [y1ei, q9_1, hc, e1]
  | succ d ih =>
    intro i h1 hi
    rw [y1bb]
    have hlt : i < s.length := by omega
    have e := List.getElem?_eq_getElem hlt
    have hc : ((i : Int) < (s.length : Int)) := by omega
    have hd : s.drop i = s[i] :: s.drop (i + 1) := List.drop_eq_getElem_cons hlt
    by_cases hb : s[i] = 59
    · have hb' : ((s[i].toNat : Int) = 59) := (y5s _ 59).2 hb
      have hf : (s.drop i).findIdx (· == 59) = 0 := by rw [hd, List.findIdx_cons]; simp [hb]
      have hw1 : IntKind.wrap .i64 ((n : Int) + 1) = (n : Int) + 1 := y1j (show n < s.length by omega) hs
      have hsl : ydo (.str s) (some (.int .i64 ((n : Int) + 1))) (some (.int .i64 (i : Int))) = some (.str ((s.take i).drop (n + 1))) := by
        have a1 : ((0 : Int) ≤ (i : Int) ∧ (i : Int) ≤ (s.length : Int)) := by omega
        have a2 : ((0 : Int) ≤ (n : Int) + 1 ∧ (n : Int) + 1 ≤ (i : Int)) := by omega
        simp only [ydo, ya5, yhy, if_pos a1, Int.toNat_natCast, if_pos a2]
        rfl
      rw [hf]
      have hlen : 0 < (s.drop i).length := by rw [List.length_drop]; omega
      cases hn : y7u ((s.take i).drop (n + 1)) with
      | true =>
        simp only [y1ei, q9_7, q9_6, q9_5, ye4, y5, y12, hc, decide_true, y22, ixstr e, yu, hb', y46, hw1, hsl]
        simp [hn, hlt, y1j hlt hs]
        omega
      | false =>
        simp only [y1ei, q9_7, q9_6, q9_5, ye4, y5, y12, hc, decide_true, y22, ixstr e, yu, hb', y46, hw1, hsl]
        simp [hn, q9_4]
    · have hb' : ¬ ((s[i].toNat : Int) = 59) := fun hh => hb ((y5s _ 59).1 hh)
      have hf : (s.drop i).findIdx (· == 59) = (s.drop (i + 1)).findIdx (· == 59) + 1 := by
        rw [hd, List.findIdx_cons]
        have : (s[i] == 59) = false := by simpa using hb
        rw [this]; rfl
      have hl : (s.drop i).length = (s.drop (i + 1)).length + 1 := by rw [hd]; rfl
      have ih := ih (i + 1) (by omega) (by omega)
      push_cast at ih
      rw [hf, hl]
      have e2 : i + ((s.drop (i + 1)).findIdx (· == 59) + 1) = i + 1 + (s.drop (i + 1)).findIdx (· == 59) := by omega
      rw [e2]
      simp only [y1ei, q9_7, q9_6, q9_3, ye4, y5, y12, hc, decide_true, y22, y28, ixstr e, yu, hb', decide_false, y46, y1j hlt hs, ih]
      simp only [Nat.add_lt_add_iff_right]
      push_cast
      rfl
@[simp] theorem y2q0 (s : List UInt8) (hs : s.length ≤ 9223372036854775807) : (y8 E).p 44 [.str s] = some ⟨.int .i64 (yto s), [], true, [], []⟩ := by
  rw [x_q9]
  have h0 := y1ua s hs [] (lead s) 0 (by omega)
  simp only [Int.ofNat_zero] at h0
  have hle := ybb s
  have key : ym1 (.str s) (.int .i64 (lead s)) [] = some ⟨.int .i64 (yto s), [], true, [], []⟩ := by
    unfold yto
    by_cases h8 : 8 < lead s
    · have h8' : ((8 : Int) < (lead s : Int)) := by omega
      simp [ym1, h8', h8]
    by_cases hl : lead s = s.length
    · have h8' : ¬ ((8 : Int) < (lead s : Int)) := by omega
      have hl' : ((lead s : Int) = (s.length : Int)) := by omega
      have h9' : ¬ ((8 : Int) < (s.length : Int)) := by omega
      simp [ym1, h8', h9', hl', hl]
    · have h8' : ¬ ((8 : Int) < (lead s : Int)) := by omega
      have hl' : ¬ ((lead s : Int) = (s.length : Int)) := by omega
      have hlt : lead s < s.length := by omega
      have e := List.getElem?_eq_getElem hlt
      rw [if_neg (by simp [h8, hl]), e]
      have hw := y1j hlt hs
      by_cases c1 : s[lead s] = 73
      · have c1' : ((s[lead s].toNat : Int) = 73) := (y5s _ 73).2 c1
        simp [ym1, y1ci, y1eu, yyq, h8', hl', ixstr e, c1', c1, hw]
      by_cases c2 : s[lead s] = 74
      · have c2' : ((s[lead s].toNat : Int) = 74) := (y5s _ 74).2 c2
        simp [ym1, y1ci, y1eu, yyq, h8', hl', ixstr e, c2', c2, hw]
      have c1' : ¬ ((s[lead s].toNat : Int) = 73) := fun hh => c1 ((y5s _ 73).1 hh)
      have c2' : ¬ ((s[lead s].toNat : Int) = 74) := fun hh => c2 ((y5s _ 74).1 hh)
      by_cases c3 : s[lead s] = 76
      · have c3' : ((s[lead s].toNat : Int) = 76) := (y5s _ 76).2 c3
        have := y1i0 s hs (lead s) [] _ (lead s + 1) (Nat.le_refl _) (show lead s + 1 + (s.length - (lead s + 1)) = s.length by omega)
        push_cast at this
        simp [ym1, y1ci, y1eu, yyq, y246, y24j, y2cu, h8', hl', ixstr e, c1', c2', c3', c1, c2, c3, hw, this]
        split <;> simp
      · have c3' : ¬ ((s[lead s].toNat : Int) = 76) := fun hh => c3 ((y5s _ 76).1 hh)
        simp [ym1, y1ci, y1eu, yyq, y246, y24j, q9_1, h8', hl', ixstr e, c1', c2', c3', c1, c2, c3]
  rw [← key, ← h0]
  simp [y2d1, y2fr]
def y7z (s : List UInt8) : Bool := decide (s ≠ []) && decide (yto s = s.length)
@[simp] theorem y2ls (s : List UInt8) (hs : s.length ≤ 9223372036854775807) : (y8 E).p 37 [.str s] = some ⟨.bool (y7z s), [], true, [], []⟩ := by
  rw [x_q8]
  have h := y2q0 s hs
  by_cases h1 : s = []
  · simp [q8_1, h1, y7z]
  · have e : ((yto s : Int) = (s.length : Int)) ↔ yto s = s.length := by omega
    simp [q8_1, h1, y7z, h, e]
end Go.Vm
namespace Go.Vm
open Cel
attribute [local simp] y7 y25 ym
def numK (c : Int) : Int × Int × Int :=
  if c ∈ [96, 100, 104, 108, 112, 120, 122, 124, 126, 128, 130] then (1, 1, 1)
  else if c ∈ [97, 101, 105, 109, 113, 127, 129, 131] then (2, 2, 2)
  else if c ∈ [121, 123, 125] then (2, 1, 2)
  else if c = 148 then (2, 2, 1)
  else if c ∈ [116, 145, 146, 147] then (1, 0, 1)
  else if c = 117 then (2, 0, 2)
  else if c = 133 then (1, 0, 2)
  else if c = 136 then (2, 0, 1)
  else (0, 0, 0)
def y17w (r : Option (Ex AV)) (k : Int × Int × Int) : Bool :=
  match r with
  | some ⟨.tup [.int .i64 a, .int .i64 b, .int .i64 c], [], true, [], []⟩ => a == k.1 && b == k.2.1 && c == k.2.2
  | _ => false
theorem ytw {r : Option (Ex AV)} {k : Int × Int × Int} (h : y17w r k = true) : r = some ⟨.tup [.int .i64 k.1, .int .i64 k.2.1, .int .i64 k.2.2], [], true, [], []⟩ := by
  unfold y17w at h
  split at h
  · simp only [Bool.and_eq_true, beq_iff_eq] at h
    obtain ⟨⟨h1, h2⟩, h3⟩ := h
    rw [h1, h2, h3]
  · cases h
theorem yak {n : Nat} {f : Nat → Bool} (h : ((List.range n).all f) = true) (i : Nat) (hi : i < n) : f i = true := by
  rw [List.all_eq_true] at h
  exact h i (List.mem_range.2 hi)
theorem y2p1 : ((List.range 60).all fun i => y17w ((both E 30).1.p 50 [.int .i64 (95 + i)]) (numK (95 + i))) = true := by kernel_rfl
theorem yhe {c : Int} (h : c < 96 ∨ 148 < c) : numK c = (0, 0, 0) := by
  simp only [numK, List.mem_cons, List.not_mem_nil, or_false]
  repeat' split
  all_goals first | rfl | omega
theorem y2bk (c : Int) : (y8 E).p 50 [.int .i64 c] = some ⟨.tup [.int .i64 (numK c).1, .int .i64 (numK c).2.1, .int .i64 (numK c).2.2], [], true, [], []⟩ := by
  by_cases h : c < 96 ∨ 148 < c
  · rw [yhe h, y2ti]
    have h2 : ∀ k : Int, 96 ≤ k → k ≤ 148 → ¬ c = k := by omega
    simp [y2fb, y1cf, y2hb, y2jo, y2f1, y1s5, y2f7, ym2, y2cr, y7r, y1hw, y1is, y1ky, h2]
    rfl
  · have := yak y2p1 (c - 95).toNat (by omega)
    have e : (95 + ((c - 95).toNat : Int)) = c := by omega
    simp only [e] at this
    exact y1wf 30 (ytw this)
end Go.Vm
namespace Go.Vm
def yo (x : Ins) : Int × Int × Int × Int × Bool :=
  match x.op with
  | 1 => (0, -1, -1, -1, true)
  | 2 => (3, -1, -1, -1, true)
  | 3 => (3, -1, -1, -1, true)
  | 4 => (0, 0, -1, -1, true)
  | 5 => ((numK x.n).2.2, (numK x.n).1, (numK x.n).2.1, -1, decide (¬ (numK x.n).2.1 = 0))
  | 6 => ((numK x.n).2.2, (numK x.n).1, -1, -1, decide (¬ (numK x.n).1 = 0) && decide ((numK x.n).2.1 = 0))
  | 7 => (-1, 0, -1, -1, true)
  | 8 => (-1, 3, -1, -1, true)
  | 9 => (-1, 3, 1, -1, true)
  | 10 => (-1, 1, -1, -1, true)
  | 11 => (-1, 3, 3, -1, true)
  | 12 => (-1, 3, -1, -1, y7z x.s)
  | 13 => (0, 3, 1, -1, true)
  | 14 => (-1, 3, 1, 0, true)
  | 15 => (1, 3, -1, -1, true)
  | 16 => (0, 3, -1, -1, decide (0 ≤ x.n))
  | 17 => (-1, 3, 0, -1, decide (0 ≤ x.n))
  | 18 => (0, -1, -1, -1, true)
  | 19 => (-1, 0, -1, -1, true)
  | 20 => (3, -1, -1, -1, true)
  | 21 => (3, 1, -1, -1, y7z x.s)
  | 22 => (1, 3, -1, -1, y7z x.s)
  | 23 => (if x.d = -1 then -1 else 0, -1, -1, -1, decide (0 ≤ x.n) && decide ((lst x.args).length ≤ 21))
  | 24 => (if x.d = -1 then -1 else 0, -1, -1, -1, decide (0 < (lst x.args).length) && decide (0 ≤ x.n) && decide ((lst x.args).length ≤ 21))
  | 25 => (if x.d = -1 then -1 else 0, -1, -1, -1, decide (0 < (lst x.args).length) && decide ((lst x.args).length ≤ 21))
  | 26 => (if x.d = -1 then -1 else 0, -1, -1, -1, decide (0 ≤ x.n) && decide ((lst x.args).length ≤ 21))
  | 27 => (-1, -1, -1, -1, true)
  | 28 => (-1, 1, 1, -1, decide (0 ≤ x.n) && decide (x.n ≤ 5))
  | 29 => (-1, 3, if x.b = -1 then -1 else 3, -1, decide (x.n = 0) || decide (x.n = 1))
  | 30 => (-1, if x.a = -1 then -1 else 0, -1, -1, true)
  | 31 => (-1, 3, -1, -1, true)
  | 32 => (3, -1, -1, -1, true)
  | 33 => (-1, -1, -1, -1, true)
  | _ => (0, 0, 0, 0, false)
def exK (k : Int × Int × Int × Int × Bool) : Ex AV := ⟨.tup [.agg [.int .i64 k.1, .int .i64 k.2.1, .int .i64 k.2.2.1, .int .i64 k.2.2.2.1], .bool k.2.2.2.2], [], true, [], []⟩
theorem yna {x : Ins} (h : x.op < 1 ∨ 33 < x.op) : yo x = (0, 0, 0, 0, false) := by
  unfold yo
  split <;> first | rfl | omega
end Go.Vm
namespace Go.Vm
def regK (R : List Int) (r : Int) : Int := if r < 0 then 0 else R.getD r.toNat 0
def inR (R : List Int) (r : Int) : Bool := decide (0 ≤ r) && decide (r < R.length)
def y24 (R : List Int) (w r : Int) : Bool := decide (w < 0) || (inR R r && (decide (w ≤ 0) || decide (regK R r = w)))
def ylg (R : List Int) (x : Ins) : Bool :=
  match lst x.args with
  | [] => true
  | r :: _ => !(decide (x.op = 24) || decide (x.op = 25)) || decide (regK R r = 3)
def y8g (R : List Int) (x : Ins) : Bool := !calls x.op || (ylg R x && (lst x.args).all (inR R))
def y3k (R : List Int) (ret : Int) (n : Nat) (x : Ins) : Bool :=
  if x.op = 1 then decide (¬ regK R x.d = 3) && (decide (regK R x.d = 2) || decide (x.n = IntKind.wrap .i64 (IntKind.wrap .i32 x.n)))
  else if x.op = 4 then decide (regK R x.d = regK R x.a)
  else if x.op = 7 then decide (¬ regK R x.a = 3)
  else if x.op = 30 then (decide (x.a = -1) == decide (ret = 0)) && (decide (x.a = -1) || decide (regK R x.a = ret))
  else !leads x.op || (decide (0 ≤ x.t) && decide (x.t < n))
def y2a (f : Fn) (x : Ins) : Bool :=
  (yo x).2.2.2.2 && y24 (lst f.regs) (yo x).1 x.d && y24 (lst f.regs) (yo x).2.1 x.a && y24 (lst f.regs) (yo x).2.2.1 x.b && y24 (lst f.regs) (yo x).2.2.2.1 x.c &&
    y8g (lst f.regs) x && y3k (lst f.regs) f.ret (lst f.code).length x
theorem yzl {R : List Int} {r : Int} (h : inR R r = true) : 0 ≤ r ∧ r.toNat < R.length ∧ R[r.toNat]? = some (regK R r) := by
  simp only [inR, Bool.and_eq_true, decide_eq_true_eq] at h
  have h1 : r.toNat < R.length := by omega
  refine ⟨h.1, h1, ?_⟩
  rw [regK, if_neg (by omega), List.getD_eq_getElem?_getD, List.getElem?_eq_getElem h1]; rfl
def y4z (n : Nat) (t : Int) : Bool := decide (0 ≤ t) && decide (t < n)
def y44 (C : List Ins) (i : Nat) (x : Ins) : Bool :=
  !((decide (x.op = 32) && (decide (i = 0) || !ends ((C.getD (i - 1) default).op))) || (leads x.op && decide ((C.getD x.t.toNat default).op = 32)))
def y4w (f : Fn) (C : List Ins) : Nat → List Ins → Bool
  | _, [] => true
  | i, x :: r => y2a f x && y44 C i x && y4w f C (i + 1) r
def y4j (C : List Ins) (r : Row) : Bool :=
  !(decide (r.f < 0) || decide (r.t ≤ r.f) || decide ((C.length : Int) < r.t) || decide (r.at_ < 0) || decide ((C.length : Int) ≤ r.at_) || decide (¬ (C.getD r.at_.toNat default).op = 32))
def ydd (R : List Int) : Nat → List Int → List Int → Bool
  | _, _, [] => true
  | i, seen, p :: r => (inR R p && !seen.contains p && decide (i ≤ 20)) && ydd R (i + 1) (seen ++ [p]) r
def wf (f : Fn) : Bool :=
  decide (1 ≤ (lst f.code).length) && decide ((lst f.code).length ≤ 20000) && decide ((lst f.regs).length ≤ 20000) && decide (0 ≤ f.ret) && decide (f.ret ≤ 3) && ends ((lst f.code).getD ((lst f.code).length - 1) default).op &&
    (lst f.regs).all (fun k => decide (1 ≤ k) && decide (k ≤ 3)) && ydd (lst f.regs) 0 [] (lst f.params) && y4w f (lst f.code) 0 (lst f.code) && (lst f.rows).all (y4j (lst f.code))
end Go.Vm
namespace Go.Vm
open Cel
def nz {α : Type} : List α → Option (List α)
  | [] => none
  | x :: L => some (x :: L)
@[simp] theorem y9j {α : Type} (L : List α) : lst (nz L) = L := by cases L <;> rfl
section
variable {α : Type} [Cel α]
def y2g (α : Type) [Cel α] (j g : Nat) : List α → AV
  | [] => .nils
  | _ :: L => .ls j g (es α) 0 (L.length + 1)
def y2d (g : Nat) (o : AO) : List α → AO
  | [] => o
  | x :: L => ⟨g, .arr false false (es α) ((x :: L).map enc)⟩
@[simp] theorem ydm (j g : Nat) : y2g α j g [] = .nils := rfl
@[simp] theorem ydv (g : Nat) (o : AO) : y2d g o ([] : List α) = o := rfl
@[simp] theorem y2k8 (j g : Nat) (L : List α) (H : Heap) : yv 1 (y2g α j g L) H = some (.int .i64 L.length) := by
  cases L <;> simp [y2g, yv]
@[simp] theorem y2af (j g : Nat) (L : List α) : cellsOf (y2g α j g L) = [y2g α j g L] := by cases L <;> rfl
@[simp] theorem y2kf (j g : Nat) (L : List α) : y16 (y2g α j g L) = true := by cases L <;> rfl
theorem yx4 {H : Heap} {j g : Nat} {o : AO} {x : α} {L : List α} (h : H[j]? = some (y2d g o (x :: L))) : yt H j g = some (false, es α, (x :: L).map enc) := by
  simp [yt, y3w, h, y2d]
theorem y2dc {H : Heap} {j g : Nat} {o : AO} {L : List α} (h : H[j]? = some (y2d g o L)) : fz H y18 (y2g α j g L) = some ⟨slA (nz L), L.all scal, ids1 (y2g α j g L)⟩ := by
  cases L with
  | nil => rfl
  | cons x L =>
    rw [y2g, y1z9, yx4 h]
    simp only [List.drop_zero, Nat.zero_add, List.length_map, List.length_cons, Nat.le_refl, and_self, if_true]
    rw [show ((x :: L).map (enc (α := α))).take (L.length + 1) = (x :: L).map enc from y8a (x :: L), y1l2]
    simp [slA, nz, ids1]
theorem y1hk {H : Heap} {j g : Nat} {o : AO} {L : List α} (h : H[j]? = some (y2d g o L)) : yd H (y2g α j g L) = some ⟨match L with | [] => .nils | _ :: _ => .ls 0 0 (es α) 0 L.length, match L with | [] => [] | _ :: _ => [.arr false false (es α) (L.map enc)], L.all scal, [], []⟩ := by
  cases L with
  | nil => rfl
  | cons x L =>
    rw [y2g, yil, yx4 h]
    simp only [List.drop_zero, Nat.zero_add, List.length_map, List.length_cons, Nat.le_refl, and_self, if_true]
    rw [show ((x :: L).map (enc (α := α))).take (L.length + 1) = (x :: L).map enc from y8a (x :: L), y1lf]
    simp
theorem y50 {H : Heap} {j g : Nat} {o : AO} {L : List α} (h : H[j]? = some (y2d g o L)) : yd H (y2g α j g L) = some (exO (nz L)) := by
  rw [y1hk h]
  cases L <;> rfl
theorem y1bj {H : Heap} {fb j g b : Nat} {o : AO} {y : AV} {L M : List α} (hy : y3s H (es α) y = some (M.map enc)) (h : H[fb + j]? = some (y2d g o L)) (hs : (2 * (L.length + M.length) + 512) * b ≤ 2 ^ 48) :
    ∃ g', y3c fb (some j) (es α) b (y2g α (fb + j) g L) y H = some (y2g α (fb + j) g' (L ++ M), H.set (fb + j) (y2d g' o (L ++ M))) := by
  unfold y3c
  rw [hy]
  have hlt : fb + j < H.length := (List.getElem?_eq_some_iff.1 h).1
  cases L with
  | nil =>
    cases M with
    | nil =>
      refine ⟨g, ?_⟩
      simp only [y2g, List.map_nil, List.isEmpty_nil, if_true, List.append_nil, y2d]
      rw [y2d] at h
      rw [show H.set (fb + j) o = H from by
        refine List.ext_getElem? fun i => ?_
        rw [List.getElem?_set]
        split
        · rename_i e; subst e; simp [h]
        · rfl]
    | cons y M =>
      refine ⟨o.gen + 1, ?_⟩
      rw [y2d] at h
      have hm : (M.length + 1) * b ≤ 281474976710656 := Nat.le_trans (Nat.mul_le_mul_right b (by simp only [List.length_nil, List.length_cons]; omega)) hs
      simp [y2g, hm, y4d, place, h, y2d]
  | cons x L =>
    refine ⟨g + 1, ?_⟩
    have h' : H[fb + j]? = some ⟨g, .arr false false (es α) ((x :: L).map enc)⟩ := h
    simp only [y2g, h']
    rw [if_pos (by simp; first | simpa using hs | exact .inl (by simpa using hs))]
    simp only [List.drop_zero]
    rw [show ((x :: L).map (enc (α := α))).take (L.length + 1) = (x :: L).map enc from y8a (x :: L)]
    simp [y2g, y2d, Nat.add_right_comm]
end
@[simp] theorem y2kz (h : Heap) (es id g es1 off len : Nat) : y3s h es (.ls id g es1 off len) = match yt h id g with
    | some (_, es', rows) => if es1 = es ∧ es' = es ∧ off + len ≤ rows.length then some ((rows.drop off).take len) else none
    | none => none := rfl
theorem y13k {H : Heap} {j g : Nat} {o : AO} {L : List Int} (h : H[j]? = some (y2d g o L)) : fz H y18 (y2g Int j g L) = some ⟨slA (nz L), true, ids1 (y2g Int j g L)⟩ := by
  rw [y2dc h]
  simp
theorem yyi {H : Heap} {fb j g : Nat} {o : AO} {y : AV} {L : List Int} {n : Int} (hy : y3s H 1 y = some [[.int .i64 n]]) (h : H[fb + j]? = some (y2d g o L)) (hs : L.length ≤ 17000000000000) :
    ∃ g', y3c fb (some j) 1 8 (y2g Int (fb + j) g L) y H = some (y2g Int (fb + j) g' (L ++ [n]), H.set (fb + j) (y2d g' o (L ++ [n]))) := by
  refine y1bj (α := Int) (M := [n]) hy h ?_
  have : (2 * (L.length + [n].length) + 512) * 8 ≤ (2 * (17000000000000 + 1) + 512) * 8 := Nat.mul_le_mul_right 8 (by simp only [List.length_singleton]; omega)
  exact Nat.le_trans this (by decide)
theorem ywe {i : Int} {n : Nat} (h0 : 0 ≤ i) (h : i < n) (hn : n ≤ 9223372036854775807) : IntKind.wrap .i64 (i + 1) = i + 1 := by
  rw [y2r] <;> omega
@[simp] theorem y2vc {α : Type} [Cel α] (x : α) (L : List α) : exO (nz (x :: L)) = ⟨.ls 0 0 (es α) 0 (L.length + 1), [.arr false false (es α) ((x :: L).map enc)], (x :: L).all scal, [], []⟩ := rfl
theorem y61 {H : Heap} {id g : Nat} {a : Int} (h : yt H id g = some (false, 1, [[.int .i64 a]])) : yd H (.ls id g 1 0 1) = some (exO (nz [a])) := y66 (α := Int) (L := [a]) h
theorem yo4 {H : Heap} {id g : Nat} {a b : Int} (h : yt H id g = some (false, 1, [[.int .i64 a], [.int .i64 b]])) : yd H (.ls id g 1 0 2) = some (exO (nz [a, b])) := y66 (α := Int) (L := [a, b]) h
abbrev D0 : AO := ⟨0, .dead⟩
section
variable {α : Type} [Cel α]
theorem y1rl {H : Heap} {fb id g b : Nat} {sl : Option Nat} {y : AV} {L M T : List α} (hy : y3s H (es α) y = some (M.map enc)) (h : H[id]? = some ⟨g, .arr false false (es α) ((L ++ T).map enc)⟩) (hs : (2 * (L.length + M.length) + 512) * b ≤ 2 ^ 48) :
    y3c fb sl (es α) b (.ls id g (es α) 0 L.length) y H = some (.ls id (g + 1) (es α) 0 (L ++ M).length, H.set id ⟨g + 1, .arr false false (es α) ((L ++ M).map enc)⟩) := by
  unfold y3c
  rw [hy]
  simp only [h]
  rw [if_pos (by simp; first | simpa using hs | exact .inl (by simpa using hs))]
  simp only [List.drop_zero, List.map_append, List.length_append]
  rw [List.take_append_of_le_length (by simp), y8a, List.length_map]
theorem y1j5 {E : Env} {C : Calls2} {fb j f : Nat} {args : List AV} {H : Heap} {fa : Fz (List AV)} {N : List α} {o : AO} (hE : E.pure f = true) (ha : yl (fz H y18) args = some fa) (hc : C.p f fa.v = some (exO (nz N)))
    (hf : N.all scal = true ∨ fa.ids = []) (ho : H[fb + j]? = some o) :
    y7 E C fb (some j) false f args H = some (y2g α (fb + j) (o.gen + 1) N, H.set (fb + j) (y2d (o.gen + 1) o N)) := by
  have hlt : fb + j < H.length := (List.getElem?_eq_some_iff.1 ho).1
  simp only [y7, hE, Bool.false_and, Bool.not_false, Bool.and_self, if_true, y25, ha, hc]
  have hfr : ((exO (nz N)).fresh || fa.ids.isEmpty) = true := by
    rw [yuy, y9j]
    rcases hf with hf | hf
    · rw [hf]; rfl
    · rw [hf]; simp
  rw [if_pos hfr]
  cases N with
  | nil =>
    simp only [nz, exO, y2n, Bool.false_eq_true, if_false, y2g, y2d]
    rw [show H.set (fb + j) o = H from by
        refine List.ext_getElem? fun i => ?_
        rw [List.getElem?_set]
        split
        · rename_i e; subst e; simp [ho]
        · rfl]
    rfl
  | cons x N =>
    simp only [nz, Bool.false_eq_true, if_false, y13y, ho, y12o, y2g, y2d, List.length_cons]
end
theorem y2l1 (id g : Nat) (L : Nat) : yn 1 (.ls id g 1 0 (L + 1)) (.int .i64 (L : Int)) = some (.lp id g L 0) := by
  have : (L : Int) < (L : Int) + 1 := by omega
  simp [yn, this]
theorem y2e3 (id g : Nat) (L : Nat) : ycp 1 (.ls id g 1 0 (L + 1)) none (some (.int .i64 (L : Int))) = some (.ls id g 1 0 L) := by
  have : (L : Int) ≤ (L : Int) + 1 := by omega
  simp [ycp, yyx, ya5, yhy, this]
@[simp] theorem y2s1 {α : Type} [Cel α] : exO (nz ([] : List α)) = ⟨.nils, [], true, [], []⟩ := rfl
theorem yqk {α : Type} [Cel α] {H : Heap} {id g i : Nat} {L : List α} {v : AV} {y : α} (h : H[id]? = some ⟨g, .arr false false (es α) (L.map enc)⟩) (hi : i < L.length) (hv : cellsOf v = enc y) :
    evSt (es α) (.lp id g i 0) v H = some (.tup [], H.set id ⟨g, .arr false false (es α) ((L.set i y).map enc)⟩) := by
  have hr : yt H id g = some (false, es α, L.map enc) := by simp [yt, y3w, h]
  have hg : (L.map (enc (α := α)))[i]? = some (enc L[i]) := by simp [hi]
  rw [y76, hr]
  simp only [hg, hv]
  rw [if_pos ⟨len y, by rw [len]; omega, leaf y⟩]
  rw [yg6 (by rw [len, len]), y23, h]
  simp only
  rw [List.map_set]
theorem ywm {a b : Nat} (h : a + b ≤ 137438953472) : (2 * (a + b) + 512) * 8 ≤ 2 ^ 48 := by
  have : (2 * (a + b) + 512) * 8 ≤ (2 * 137438953472 + 512) * 8 := Nat.mul_le_mul_right 8 (by omega)
  exact Nat.le_trans this (by decide)
theorem y2sh {α : Type} [Cel α] {H : Heap} {id g i : Nat} {L : List α} {x : α} {v : AV} (h : H[id]? = some ⟨g, .arr false false (es α) (L.map enc)⟩) (hx : L[i]? = some x) (hv : (enc x).head? = some v) : evLd false 1 (.lp id g i 0) H = some v := by
  have hr : yt H id g = some (false, es α, L.map enc) := by simp [yt, y3w, h]
  have hg : (L.map (enc (α := α)))[i]? = some (enc x) := by simp [hx]
  rw [y3y, hr]
  simp only [hg, y79, List.drop_zero, hv]
abbrev AB (f : Fn) : AO := ⟨1, .arr true false 5 [enc f]⟩
abbrev AI (g : Nat) (L : List Int) : AO := ⟨g, .arr false false 1 (L.map enc)⟩
abbrev AX (g : Nat) (x : Ins) : AO := ⟨g, .arr true false 9 [enc x]⟩
theorem y1sy {n : Nat} {p : Int} (h0 : 0 ≤ p) (h1 : p < (n : Int)) (id g : Nat) (k : IntKind) : yn 1 (.ls id g 1 0 n) (.int k p) = some (.lp id g p.toNat 0) := by simp [yn, h0, h1]
end Go.Vm
namespace Go.Vm
section
variable (n : Nat) (S : Nat → List Int) (A : List Int)
inductive Rch : Nat → Prop
  | base {j : Int} : j ∈ A → 0 ≤ j → j < n → Rch j.toNat
  | step {i : Nat} {j : Int} : Rch i → j ∈ S i → 0 ≤ j → j < n → Rch j.toNat
def unseen (seen : List Bool) : Nat := seen.countP (! ·)
end
section
variable {n : Nat} {S : Nat → List Int} {A : List Int}
theorem Rch.lt {i : Nat} (h : Rch n S A i) : i < n := by cases h <;> omega
theorem y1hd {seen : List Bool} {i : Nat} (h : i < seen.length) (hs : seen[i] = false) : unseen (seen.set i true) + 1 = unseen seen := by
  unfold unseen
  induction seen generalizing i with
  | nil => simp at h
  | cons b l ih =>
    cases i with
    | zero => simp at hs; simp [hs]
    | succ i =>
      simp only [List.set_cons_succ, List.countP_cons]
      have := ih (i := i) (by simpa using h) (by simpa using hs)
      omega
theorem yeo {op : List Int} {i : Int} (h : op.getLast? = some i) : op = op.dropLast ++ [i] := by
  have hne : op ≠ [] := by intro e; rw [e] at h; cases h
  have := List.dropLast_concat_getLast hne
  rw [List.getLast?_eq_some_getLast hne] at h
  injection h with h
  rw [h] at this
  exact this.symm
theorem ygs {op : List Int} {j : Int} (h : j ∈ op.dropLast) : j ∈ op := (List.dropLast_sublist op).mem h
structure DfsI (n : Nat) (S : Nat → List Int) (A : List Int) (seen : List Bool) (op : List Int) : Prop where
  len : seen.length = n
  ok : ∀ i : Nat, seen[i]? = some true → Rch n S A i
  opn : ∀ j : Int, j ∈ op → 0 ≤ j → j < n → Rch n S A j.toNat
  cl : ∀ (i : Nat) (j : Int), seen[i]? = some true → j ∈ S i → 0 ≤ j → j < n → seen[j.toNat]? = some true ∨ j ∈ op
  st : ∀ j : Int, j ∈ A → 0 ≤ j → j < n → seen[j.toNat]? = some true ∨ j ∈ op
theorem DfsI.start : DfsI n S A (List.replicate n false) A where
  len := by simp
  ok i h := by rw [List.getElem?_replicate] at h; split at h <;> cases h
  opn j h h0 h1 := .base h h0 h1
  cl i j h := by rw [List.getElem?_replicate] at h; split at h <;> cases h
  st j h _ _ := .inr h
theorem DfsI.skip {seen : List Bool} {op : List Int} (I : DfsI n S A seen op) {i : Int} (hop : op.getLast? = some i) (hc : i < 0 ∨ (n : Int) ≤ i ∨ seen.getD i.toNat true = true) : DfsI n S A seen op.dropLast := by
  have e := yeo hop
  have key : ∀ j : Int, 0 ≤ j → j < n → (seen[j.toNat]? = some true ∨ j ∈ op) → seen[j.toNat]? = some true ∨ j ∈ op.dropLast := by
    intro j h0 h1 h
    rcases h with h | h
    · exact .inl h
    · rw [e, List.mem_append, List.mem_singleton] at h
      rcases h with h | rfl
      · exact .inr h
      · rcases hc with hc | hc | hc
        · omega
        · omega
        · left
          have : j.toNat < seen.length := by rw [I.len]; omega
          rw [List.getD_eq_getElem?_getD, List.getElem?_eq_getElem this] at hc
          rw [List.getElem?_eq_getElem this]
          simpa using hc
  exact ⟨I.len, I.ok, fun j hj => I.opn j (ygs hj), fun i j h1 h2 h3 h4 => key j h3 h4 (I.cl i j h1 h2 h3 h4), fun j h1 h3 h4 => key j h3 h4 (I.st j h1 h3 h4)⟩
theorem DfsI.take {seen : List Bool} {op : List Int} (I : DfsI n S A seen op) {i : Int} (hop : op.getLast? = some i) (h0 : 0 ≤ i) (h1 : i < n) : DfsI n S A (seen.set i.toNat true) (op.dropLast ++ S i.toNat) := by
  have e := yeo hop
  have hi : Rch n S A i.toNat := I.opn i (by rw [e]; simp) h0 h1
  have hlt : i.toNat < seen.length := by rw [I.len]; omega
  have hset : ∀ j : Nat, (seen.set i.toNat true)[j]? = some true ↔ seen[j]? = some true ∨ j = i.toNat := by
    intro j
    rw [List.getElem?_set]
    by_cases hj : i.toNat = j
    · subst hj; simp [hlt]
    · rw [if_neg hj]
      exact ⟨.inl, fun h => h.resolve_right (fun e => hj e.symm)⟩
  have key : ∀ j : Int, 0 ≤ j → j < n → (seen[j.toNat]? = some true ∨ j ∈ op) → (seen.set i.toNat true)[j.toNat]? = some true ∨ j ∈ op.dropLast ++ S i.toNat := by
    intro j h2 h3 h
    rw [hset]
    rcases h with h | h
    · exact .inl (.inl h)
    · rw [e, List.mem_append, List.mem_singleton] at h
      rcases h with h | rfl
      · exact .inr (List.mem_append_left _ h)
      · exact .inl (.inr rfl)
  refine ⟨by simpa using I.len, fun j hj => ?_, fun j hj h2 h3 => ?_, fun k j hk hj h2 h3 => ?_, fun j hj h2 h3 => key j h2 h3 (I.st j hj h2 h3)⟩
  · rcases (hset j).1 hj with h | rfl
    · exact I.ok j h
    · exact hi
  · rcases List.mem_append.1 hj with h | h
    · exact I.opn j (ygs h) h2 h3
    · exact .step hi h h2 h3
  · rcases (hset k).1 hk with h | rfl
    · exact key j h2 h3 (I.cl k j h hj h2 h3)
    · exact .inr (List.mem_append_right _ hj)
theorem DfsI.done {seen : List Bool} (I : DfsI n S A seen []) (i : Nat) : seen[i]? = some true ↔ Rch n S A i := by
  refine ⟨I.ok i, fun h => ?_⟩
  induction h with
  | base h h0 h1 => exact (I.st _ h h0 h1).resolve_right (by simp)
  | step _ hj h0 h1 ih => exact (I.cl _ _ ih hj h0 h1).resolve_right (by simp)
def rIn : List Int → List Bool × Bool → List Bool × Bool
  | [], s => s
  | j :: l, s => rIn l (if 0 ≤ j ∧ j < s.1.length ∧ s.1.getD j.toNat true = false then (s.1.set j.toNat true, true) else s)
def y62 (S : Nat → List Int) : Nat → Nat → List Bool × Bool → List Bool × Bool
  | 0, _, s => s
  | d + 1, i, s => y62 S d (i + 1) (if s.1.getD i false = true then rIn (S i) s else s)
def rAll (n : Nat) (S : Nat → List Int) : Nat → List Bool → Option (List Bool)
  | 0, _ => none
  | k + 1, seen => match y62 S n 0 (seen, false) with
    | (s, more) => if more then rAll n S k s else some s
structure RI (n : Nat) (S : Nat → List Int) (A : List Int) (seen : List Bool) (s : List Bool × Bool) : Prop where
  len : s.1.length = n
  ok : ∀ i : Nat, s.1[i]? = some true → Rch n S A i
  up : ∀ i : Nat, seen[i]? = some true → s.1[i]? = some true
  un : unseen s.1 ≤ unseen seen
  lt : s.2 = true → unseen s.1 < unseen seen
  eq : s.2 = false → s.1 = seen
theorem ypv {seen : List Bool} : ∀ (l : List Int) (s : List Bool × Bool), RI n S A seen s → (∀ j, j ∈ l → 0 ≤ j → j < n → Rch n S A j.toNat) →
    RI n S A seen (rIn l s) ∧ (s.2 = true → (rIn l s).2 = true) ∧ ((rIn l s).2 = false → ∀ j, j ∈ l → 0 ≤ j → j < n → seen[j.toNat]? = some true)
  | [], s, I, _ => ⟨I, id, fun _ j h => by cases h⟩
  | j :: l, s, I, hR => by
    rw [rIn]
    split
    · rename_i hc
      obtain ⟨h0, h1, h2⟩ := hc
      have hlt : j.toNat < s.1.length := by omega
      have hs : s.1[j.toNat] = false := by
        rw [List.getD_eq_getElem?_getD, List.getElem?_eq_getElem hlt] at h2
        simpa using h2
      have hu := y1hd hlt hs
      have I2 : RI n S A seen (s.1.set j.toNat true, true) := by
        refine ⟨by simpa using I.len, fun i hi => ?_, fun i hi => ?_, ?_, fun _ => ?_, fun h => by cases h⟩
        · simp only at hi
          rw [List.getElem?_set] at hi
          split at hi
          · rename_i e; subst e; exact hR j (by simp) h0 (by have := I.len; omega)
          · exact I.ok i hi
        · simp only
          rw [List.getElem?_set]
          split
          · rename_i e; subst e; simp [hlt]
          · exact I.up i hi
        · simp only; have := I.un; omega
        · simp only; have := I.un; omega
      obtain ⟨a1, a2, a3⟩ := ypv l _ I2 (fun k hk => hR k (by simp [hk]))
      have a2 := a2 rfl
      exact ⟨a1, fun _ => a2, fun h => by rw [a2] at h; cases h⟩
    · rename_i hc
      obtain ⟨a1, a2, a3⟩ := ypv l s I (fun k hk => hR k (by simp [hk]))
      refine ⟨a1, a2, fun h k hk h0 h1 => ?_⟩
      rcases List.mem_cons.1 hk with rfl | hk
      · have hf : s.2 = false := by
          cases hs : s.2 with
          | false => rfl
          | true => rw [a2 hs] at h; cases h
        have e := I.eq hf
        have hlt : k.toNat < s.1.length := by rw [I.len]; omega
        have hx : ¬ s.1.getD k.toNat true = false := fun hx => hc ⟨h0, by rw [I.len]; exact h1, hx⟩
        rw [List.getD_eq_getElem?_getD, List.getElem?_eq_getElem hlt] at hx
        rw [← e, List.getElem?_eq_getElem hlt]
        simpa using hx
      · exact a3 h k hk h0 h1
theorem ydg {seen : List Bool} : ∀ (d i : Nat) (s : List Bool × Bool), RI n S A seen s →
    RI n S A seen (y62 S d i s) ∧ (s.2 = true → (y62 S d i s).2 = true) ∧ ((y62 S d i s).2 = false → ∀ k, i ≤ k → k < i + d → seen[k]? = some true → ∀ j, j ∈ S k → 0 ≤ j → j < n → seen[j.toNat]? = some true)
  | 0, i, s, I => ⟨I, id, fun _ k h1 h2 => by omega⟩
  | d + 1, i, s, I => by
    rw [y62]
    split
    · rename_i hc
      have hi : s.1[i]? = some true := by
        rw [List.getD_eq_getElem?_getD] at hc
        cases h : s.1[i]? with
        | none => rw [h] at hc; cases hc
        | some b => rw [h] at hc; simpa using hc
      obtain ⟨b1, b2, b3⟩ := ypv (S i) s I (fun j hj h0 h1 => .step (I.ok i hi) hj h0 h1)
      obtain ⟨a1, a2, a3⟩ := ydg d (i + 1) _ b1
      refine ⟨a1, fun h => a2 (b2 h), fun h k h1 h2 hk j hj h3 h4 => ?_⟩
      by_cases e : k = i
      · subst e
        refine b3 ?_ j hj h3 h4
        cases hb : (rIn (S k) s).2 with
        | false => rfl
        | true => rw [a2 hb] at h; cases h
      · exact a3 h k (by omega) (by omega) hk j hj h3 h4
    · rename_i hc
      obtain ⟨a1, a2, a3⟩ := ydg d (i + 1) _ I
      refine ⟨a1, a2, fun h k h1 h2 hk j hj h3 h4 => ?_⟩
      by_cases e : k = i
      · subst e
        have hf : s.2 = false := by
          cases hs : s.2 with
          | false => rfl
          | true => rw [a2 hs] at h; cases h
        rw [← I.eq hf, ] at hk
        exact (hc (by rw [List.getD_eq_getElem?_getD, hk]; rfl)).elim
      · exact a3 h k (by omega) (by omega) hk j hj h3 h4
theorem yj6 : ∀ (k : Nat) (seen : List Bool), seen.length = n → (∀ i : Nat, seen[i]? = some true → Rch n S A i) → unseen seen < k → (∀ j : Int, j ∈ A → 0 ≤ j → j < n → seen[j.toNat]? = some true) →
    ∃ r, rAll n S k seen = some r ∧ r.length = n ∧ ∀ i : Nat, r[i]? = some true ↔ Rch n S A i
  | 0, _, _, _, h, _ => by omega
  | k + 1, seen, hl, hok, h, hA => by
    obtain ⟨I, _, h3⟩ := ydg (n := n) (S := S) (A := A) (seen := seen) n 0 (seen, false) ⟨hl, hok, fun _ h => h, Nat.le_refl _, fun h => (by cases h), fun _ => rfl⟩
    rw [rAll]
    generalize y62 S n 0 (seen, false) = p at I h3
    obtain ⟨s, more⟩ := p
    simp only at I h3 ⊢
    cases more with
    | true =>
      have := I.lt rfl
      simp only at this
      exact yj6 k s I.len I.ok (by omega) (fun j h1 h2 h4 => I.up _ (hA j h1 h2 h4))
    | false =>
      have e : s = seen := I.eq rfl
      subst e
      refine ⟨s, rfl, hl, fun i => ⟨hok i, fun hr => ?_⟩⟩
      induction hr with
      | base h h0 h1 => exact hA _ h h0 h1
      | step hr hj h0 h1 ih => exact h3 rfl _ (Nat.zero_le _) (by have := hr.lt; omega) ih _ hj h0 h1
theorem y1kp {a b : List Bool} (hl : a.length = b.length) (h : ∀ i : Nat, a[i]? = some true ↔ b[i]? = some true) : a = b := by
  refine List.ext_getElem hl fun i h1 h2 => ?_
  have := h i
  rw [List.getElem?_eq_getElem h1, List.getElem?_eq_getElem h2] at this
  simp only [Option.some.injEq] at this
  cases ha : a[i] <;> cases hb : b[i] <;> simp_all
end
end Go.Vm
namespace Go.Vm
def addN (l : List Int) (j : Int) : List Int := if l.contains j then l else l ++ [j]
def yk (f : Fn) (i : Nat) : Ins := (lst f.code).getD i default
def yr1 (x : Ins) (i : Int) : List Int := if leads x.op then addN (if ends x.op then [] else [i + 1]) x.t else if ends x.op then [] else [i + 1]
def y3d (f : Fn) (i : Int) : List Int := if i < 0 ∨ ((lst f.code).length : Int) ≤ i then [] else yr1 (yk f i.toNat) i
def y2o (i : Int) : List Row → List Int → List Int
  | [], l => l
  | r :: rs, l => if r.f ≤ i ∧ i < r.t then (if r.c = [] then addN l r.at_ else y2o i rs (addN l r.at_)) else y2o i rs l
def y11 (f : Fn) (i : Int) : List Int := if i < 0 ∨ ((lst f.code).length : Int) ≤ i then [] else if throws (yk f i.toNat).op then y2o i (lst f.rows) [] else []
def y6l (f : Fn) (i : Nat) : List Int := y3d f i ++ y11 f i
theorem y1bd (l : List Int) (j : Int) : (addN l j).length ≤ l.length + 1 := by
  unfold addN
  split <;> simp
theorem y1na (x : Ins) (i : Int) : (yr1 x i).length ≤ 2 := by
  unfold yr1
  split
  · have := y1bd (if ends x.op then [] else [i + 1]) x.t
    split at this <;> simp_all <;> omega
  · split <;> simp
theorem yhs (f : Fn) (i : Int) : (y3d f i).length ≤ 2 := by
  unfold y3d
  split
  · simp
  · exact y1na _ _
theorem ydc (i : Int) : ∀ (rs : List Row) (l : List Int), (y2o i rs l).length ≤ l.length + rs.length
  | [], l => by simp [y2o]
  | r :: rs, l => by
    have h1 := y1bd l r.at_
    have h2 := ydc i rs (addN l r.at_)
    have h3 := ydc i rs l
    unfold y2o
    simp only [List.length_cons]
    split
    · split <;> omega
    · omega
theorem yd4 (f : Fn) (i : Int) : (y11 f i).length ≤ (lst f.rows).length := by
  unfold y11
  split
  · simp
  · split
    · have := ydc i (lst f.rows) []
      simpa using this
    · simp
theorem y1io (f : Fn) (i : Nat) : (y6l f i).length ≤ (lst f.rows).length + 2 := by
  have h1 := yhs f i
  have h2 := yd4 f i
  unfold y6l
  rw [List.length_append]
  omega
theorem y3p {f : Fn} {i : Nat} (h : i < (lst f.code).length) : (lst f.code)[i]? = some (yk f i) := by
  rw [yk, List.getD_eq_getElem?_getD, List.getElem?_eq_getElem h]; rfl
open Classical in
noncomputable def y3e (f : Fn) : List Bool := (List.range (lst f.code).length).map fun i => decide (Rch (lst f.code).length (y6l f) [0] i)
theorem ybg (f : Fn) : (y3e f).length = (lst f.code).length := by simp [y3e]
theorem yo7 (f : Fn) (i : Nat) : (y3e f)[i]? = some true ↔ Rch (lst f.code).length (y6l f) [0] i := by
  unfold y3e
  by_cases h : i < (lst f.code).length
  · simp [h]
  · have : ¬ Rch (lst f.code).length (y6l f) [0] i := fun hr => h hr.lt
    simp [h, this]
theorem yrz {f : Fn} {r : List Bool} (hl : r.length = (lst f.code).length) (h : ∀ i : Nat, r[i]? = some true ↔ Rch (lst f.code).length (y6l f) [0] i) : r = y3e f :=
  y1kp (by rw [hl, ybg]) fun i => (h i).trans (yo7 f i).symm
def y5v (f : Fn) (i : Nat) : Bool :=
  decide (i = 0) || (leads (yk f (i - 1)).op || ends (yk f (i - 1)).op) || (lst f.code).any (fun x => leads x.op && decide (x.t = i)) || (lst f.rows).any (fun r => decide (r.f = i) || decide (r.t = i) || decide (r.at_ = i))
theorem y22b {f : Fn} {i : Nat} (h : i = 0) : y5v f i = true := by subst h; simp [y5v]
def y2p (f : Fn) : Nat → List Int
  | 0 => []
  | k + 1 => y2p f k ++ (if y5v f k then [(k : Int)] else [])
def y21 (f : Fn) : List Int := y2p f (lst f.code).length
theorem yfh (f : Fn) : ∀ k, (y2p f k).length ≤ k
  | 0 => Nat.le_refl _
  | k + 1 => by
    have := yfh f k
    rw [y2p, List.length_append]
    split <;> simp <;> omega
end Go.Vm
