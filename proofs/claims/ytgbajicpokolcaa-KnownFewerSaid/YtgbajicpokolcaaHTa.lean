/- Facts for reading the machine's functions: combinators at known values; lists of things of one kind as slices. The things that the layers speak of: instructions, rows, functions. What is handed in, as things. What is told of instructions, in plain words. The pass 'carry', in plain words: which register is a copy of which. What the facts of the pass 'carry' say behind an instruction, where ways meet. What is told of types' descriptors. Names, the type at a text's beginning, types. What the stack's instructions over numbers take and give. What an instruction wants of its registers, in plain words. When an instruction, a function is well formed, in plain words. Lists that a function builds by appending, at a place of its own. Places that can be reached: a search with a stack, a search in rounds, a search that stops where something is found. Plain Lean; nothing here speaks of a program. Which places follow a place, in plain words. -/
import Derived.Test.YtgbajicpokolcaaVc
import Derived.Test.YtgbajicpokolcaaHX
set_option linter.unusedSimpArgs false
set_option linter.unusedVariables false
set_option linter.unusedSectionVars false
namespace Go.Vm
section comb
variable {α : Type}
@[simp] theorem y5 (v : AV) (K : AV → Option α) : ob (some v) K = K v := rfl
@[simp] theorem yc (v : AV) (h : Heap) (K : AV → Heap → Option α) : oh (some (v, h)) K = K v h := rfl
@[simp] theorem y6s {β : Type} (v : β) (K : β → Option α) : ofp (some v) K = K v := rfl
@[simp] theorem y5q (x : Option AV) (K : AV → Option α) : gb (.bool true) true x K = ob x K := rfl
@[simp] theorem yf2 (x : Option AV) (K : AV → Option α) : gb (.bool false) false x K = ob x K := rfl
@[simp] theorem yr5 (x : Option AV) (K : AV → Option α) : gb (.bool true) false x K = K (.tup []) := rfl
@[simp] theorem y8c (x : Option AV) (K : AV → Option α) : gb (.bool false) true x K = K (.tup []) := rfl
@[simp] theorem y4h (w : Bool) (x : Option AV) (K : AV → Option α) : gb (.tup []) w x K = K (.tup []) := rfl
@[simp] theorem y246 (x : Option (AV × Heap)) (h : Heap) (K : AV → Heap → Option α) : gh (.bool true) true x h K = oh x K := rfl
@[simp] theorem y2tw (x : Option (AV × Heap)) (h : Heap) (K : AV → Heap → Option α) : gh (.bool false) false x h K = oh x K := rfl
@[simp] theorem y2uw (x : Option (AV × Heap)) (h : Heap) (K : AV → Heap → Option α) : gh (.bool true) false x h K = K (.tup []) h := rfl
@[simp] theorem y1y8 (x : Option (AV × Heap)) (h : Heap) (K : AV → Heap → Option α) : gh (.bool false) true x h K = K (.tup []) h := rfl
@[simp] theorem yvt (w : Bool) (x : Option (AV × Heap)) (h : Heap) (K : AV → Heap → Option α) : gh (.tup []) w x h K = K (.tup []) h := rfl
@[simp] theorem y2vr (x : Option (List Nat × List Nat)) : fgd (.bool true) true x = x := rfl
@[simp] theorem y2o8 (x : Option (List Nat × List Nat)) : fgd (.bool false) false x = x := rfl
@[simp] theorem y2mr (x : Option (List Nat × List Nat)) : fgd (.bool true) false x = some ([], []) := rfl
@[simp] theorem y2ve (x : Option (List Nat × List Nat)) : fgd (.bool false) true x = some ([], []) := rfl
@[simp] theorem y2sn (w : Bool) (x : Option (List Nat × List Nat)) : fgd (.tup []) w x = some ([], []) := rfl
@[simp] theorem y22 (a b : Option α) : cnd (.bool true) a b = a := rfl
@[simp] theorem y26 (a b : Option α) : cnd (.bool false) a b = b := rfl
@[simp] theorem y218 (x : Option α) : okK true x = x := rfl
theorem y1t3 {α : Type} {b : Bool} (h : b = true) (x : Option α) : okK b x = x := by rw [h]; rfl
@[simp] theorem y1c (a b : AV) : yb (.bool true) a b = some a := rfl
@[simp] theorem y1i (a b : AV) : yb (.bool false) a b = some b := rfl
@[simp] theorem y47 (b : Bool) : evUn .not (.bool b) = some (.bool (!b)) := rfl
@[simp] theorem y2s0 (neq a b : Bool) : y28o neq (.bool a) (.bool b) = some (.bool (if neq then !(a == b) else a == b)) := rfl
@[simp] theorem y2np (i : Nat) (vs : List AV) : y3x i (.tup vs) = vs[i]? := rfl
@[simp] theorem y2q3 (k k' : IntKind) (n : Int) : y1dr k (.int k' n) = some (.int k (k.wrap n)) := rfl
@[simp] theorem y2gz (cs : List AV) : yhk (.rp cs) = some (.rp cs) := rfl
@[simp] theorem y2il (id g i off : Nat) : yhk (.lp id g i off) = some (.lp id g i off) := rfl
@[congr] theorem y2vt {x x' : Option AV} (h : x = x') (K : AV → Option α) : ob x K = ob x' K := by rw [h]
@[congr] theorem y2vy {x x' : Option (AV × Heap)} (h : x = x') (K : AV → Heap → Option α) : oh x K = oh x' K := by rw [h]
@[congr] theorem y2vl {β : Type} {x x' : Option β} (h : x = x') (K : β → Option α) : ofp x K = ofp x' K := by rw [h]
@[congr] theorem y2w9 {g g' : AV} (h : g = g') (w : Bool) (x : Option AV) (K : AV → Option α) : gb g w x K = gb g' w x K := by rw [h]
@[congr] theorem y2wa {g g' : AV} (h : g = g') (w : Bool) (x : Option (AV × Heap)) (hp : Heap) (K : AV → Heap → Option α) : gh g w x hp K = gh g' w x hp K := by rw [h]
@[congr] theorem y2vk {g g' : AV} (h : g = g') (w : Bool) (x : Option (List Nat × List Nat)) : fgd g w x = fgd g' w x := by rw [h]
@[congr] theorem y2vh {c c' : AV} (h : c = c') (a b : Option α) : cnd c a b = cnd c' a b := by rw [h]
@[congr] theorem y2vb {c c' : Bool} (h : c = c') (a : Option α) : okK c a = okK c' a := by rw [h]
end comb
section ints
variable (k : IntKind) (a b : Int)
@[simp] theorem y44 : y6 .add (.int k a) (.int k b) = some (.int k (k.wrap (a + b))) := by simp [y6, y6i, ya9]
@[simp] theorem yy1 : y6 .sub (.int k a) (.int k b) = some (.int k (k.wrap (a - b))) := by simp [y6, y6i, ya9]
@[simp] theorem y2kw : y6 .mul (.int k a) (.int k b) = some (.int k (k.wrap (a * b))) := by simp [y6, y6i, ya9]
@[simp] theorem yu : y6 .eql (.int k a) (.int k b) = some (.bool (decide (a = b))) := by simp [y6, y6i, ya9, Bool.beq_eq_decide_eq]
@[simp] theorem ykk : y6 .neq (.int k a) (.int k b) = some (.bool (decide (a ≠ b))) := by simp [y6, y6i, ya9, bne, Bool.beq_eq_decide_eq]
@[simp] theorem y12 : y6 .lss (.int k a) (.int k b) = some (.bool (decide (a < b))) := by simp [y6, y6i, ya9]
@[simp] theorem y7s : y6 .leq (.int k a) (.int k b) = some (.bool (decide (a ≤ b))) := by simp [y6, y6i, ya9]
@[simp] theorem y85 : y6 .gtr (.int k a) (.int k b) = some (.bool (decide (b < a))) := by simp [y6, y6i, ya9]
@[simp] theorem ye6 : y6 .geq (.int k a) (.int k b) = some (.bool (decide (b ≤ a))) := by simp [y6, y6i, ya9]
end ints
@[simp] theorem y2kg (a b : List UInt8) : y6 .eql (.str a) (.str b) = some (.bool (decide (a = b))) := by simp [y6, y1ac, Bool.beq_eq_decide_eq]
@[simp] theorem y2k9 (a b : List UInt8) : y6 .neq (.str a) (.str b) = some (.bool (decide (a ≠ b))) := by simp [y6, y1ac, Bool.beq_eq_decide_eq]
theorem y2r {n : Int} (h0 : -9223372036854775808 ≤ n) (h1 : n < 9223372036854775808) : IntKind.wrap .i64 n = n := by
  simp [IntKind.wrap, IntKind.bits, IntKind.signed]; omega
theorem y202 {i n : Nat} (h : i < n) (hn : n ≤ 9223372036854775807) : IntKind.wrap .i64 ((i : Int) + 1) = ((i + 1 : Nat) : Int) := by
  rw [y2r] <;> omega
theorem y1k {i n : Nat} (h : i < n) (hn : n ≤ 9223372036854775807) : IntKind.wrap .i64 ((i : Int) + 1) = (i : Int) + 1 := by rw [y202 h hn]; rfl
theorem y13i {α : Type} [DecidableEq α] {a b : List α} {i : Nat} (h1 : i < a.length) (h2 : i < b.length) : decide (a.drop i = b.drop i) = (decide (a[i] = b[i]) && decide (a.drop (i + 1) = b.drop (i + 1))) := by
  rw [← Bool.decide_and]
  congr 1
  rw [List.drop_eq_getElem_cons h1, List.drop_eq_getElem_cons h2, List.cons_eq_cons]
@[simp] theorem y2tq (k : Nat) (cs : List AV) : evFa k (.rp cs) = some (.rp (cs.drop k)) := rfl
@[simp] theorem yq8 (k id g i o : Nat) : evFa k (.lp id g i o) = some (.lp id g i (o + k)) := rfl
@[simp] theorem yzk (agg : Bool) (n : Nat) (cs : List AV) (h : Heap) : evLd agg n (.rp cs) h = y6o agg n cs := rfl
@[simp] theorem y75 (n : Nat) (cs : List AV) : y6o false n cs = cs.head? := rfl
@[simp] theorem yjj (cs : List AV) : cellsOf (.agg cs) = cs := rfl
@[simp] theorem y2j7 (k : IntKind) (n : Int) : cellsOf (.int k n) = [.int k n] := rfl
@[simp] theorem y29j (b : Bool) : cellsOf (.bool b) = [.bool b] := rfl
@[simp] theorem y2c0 (s : List UInt8) : cellsOf (.str s) = [.str s] := rfl
@[simp] theorem y2a0 : cellsOf .nils = [.nils] := rfl
@[simp] theorem y2kk (es : Nat) (rows : List (List AV)) : cellsOf (.rs es rows) = [.rs es rows] := rfl
@[simp] theorem y2k7 (id g es off len : Nat) : cellsOf (.ls id g es off len) = [.ls id g es off len] := rfl
class Cel (α : Type) where
  es : Nat
  enc : α → List AV
  len : ∀ x, (enc x).length = es
  pur : ∀ x, (enc x).all pure1 = true
  leaf : ∀ x, (enc x).all y16 = true
open Cel
instance : Cel Int := ⟨1, fun n => [.int .i64 n], fun _ => rfl, fun _ => rfl, fun _ => rfl⟩
instance : Cel Bool := ⟨1, fun b => [.bool b], fun _ => rfl, fun _ => rfl, fun _ => rfl⟩
structure Tx where
  s : List UInt8
  deriving DecidableEq, Inhabited
instance : Cel Tx := ⟨1, fun b => [.str b.s], fun _ => rfl, fun _ => rfl, fun _ => rfl⟩
@[simp] theorem y2u5 (n : Int) : enc n = [.int .i64 n] := rfl
@[simp] theorem y2ql (b : Bool) : enc b = [.bool b] := rfl
@[simp] theorem y2vc (b : Tx) : enc b = [.str b.s] := rfl
@[simp] theorem yrs : es Int = 1 := rfl
@[simp] theorem y2si : es Bool = 1 := rfl
@[simp] theorem y2w2 : es Tx = 1 := rfl
variable {α : Type} [Cel α]
def scal (x : α) : Bool := (enc x).all y27
@[simp] theorem y2qj (n : Int) : scal n = true := rfl
@[simp] theorem y2pu (b : Bool) : scal b = true := rfl
@[simp] theorem y2uk (b : Tx) : scal b = true := rfl
def lst (o : Option (List α)) : List α := o.getD []
omit [Cel α] in
@[simp] theorem y2qx : lst (none : Option (List α)) = [] := rfl
omit [Cel α] in
@[simp] theorem yc1 (L : List α) : lst (some L) = L := rfl
def slA : Option (List α) → AV
  | none => .nils
  | some L => .rs (es α) (L.map enc)
instance : Cel (Option (List α)) := ⟨1, fun o => [slA o], fun _ => rfl, fun o => by cases o <;> rfl, fun o => by cases o <;> rfl⟩
@[simp] theorem y2vf (o : Option (List α)) : enc o = [slA o] := rfl
@[simp] theorem y2w1 : es (Option (List α)) = 1 := rfl
@[simp] theorem y2ku (k : IntKind) (n : Int) : pure1 (.int k n) = true := rfl
@[simp] theorem y2ke (b : Bool) : pure1 (.bool b) = true := rfl
@[simp] theorem y2qd (b : List UInt8) : pure1 (.str b) = true := rfl
@[simp] theorem y2ki : pure1 .nils = true := rfl
@[simp] theorem y2n5 (k : IntKind) (n : Int) : y16 (.int k n) = true := rfl
@[simp] theorem y2k8 (b : Bool) : y16 (.bool b) = true := rfl
@[simp] theorem y2mx (b : List UInt8) : y16 (.str b) = true := rfl
@[simp] theorem y2kb : y16 .nils = true := rfl
@[simp] theorem y2qs (es : Nat) (r : List (List AV)) : y16 (.rs es r) = true := rfl
@[simp] theorem y2qo (id g es off len : Nat) : y16 (.ls id g es off len) = true := rfl
@[simp] theorem y2qz (id g i o : Nat) : y16 (.lp id g i o) = true := rfl
@[simp] theorem y2c1 (k : IntKind) (n : Int) : y27 (.int k n) = true := rfl
@[simp] theorem y2a5 (b : Bool) : y27 (.bool b) = true := rfl
@[simp] theorem y2gx (b : List UInt8) : y27 (.str b) = true := rfl
@[simp] theorem y2bf : y27 .nils = true := rfl
@[simp] theorem y1ey (o : Option (List α)) : cellsOf (slA o) = [slA o] := by cases o <;> rfl
@[simp] theorem y2r7 (o : Option (List α)) : y16 (slA o) = true := by cases o <;> rfl
@[simp] theorem y1bj (o : Option (List α)) : pure1 (slA o) = true := by cases o <;> rfl
@[simp] theorem yn2 (o : Option (List α)) : y27 (slA o) = (lst o).isEmpty := by
  cases o with
  | none => rfl
  | some L => cases L <;> rfl
@[simp] theorem y8w (o : Option (List α)) (h : Heap) : yv 1 (slA o) h = some (.int .i64 (lst o).length) := by cases o <;> simp [slA, yv]
@[simp] theorem yeo (s : List UInt8) (h : Heap) : yv 0 (.str s) h = some (.int .i64 s.length) := rfl
@[simp] theorem y6r (id g es off len : Nat) (h : Heap) : yv 1 (.ls id g es off len) h = some (.int .i64 len) := rfl
@[simp] theorem y2kc (h : Heap) : yv 1 .nils h = some (.int .i64 0) := rfl
@[simp] theorem y2tg (id g i o : Nat) : ids1 (.lp id g i o) = [id] := rfl
@[simp] theorem y2tr (id g es o l : Nat) : ids1 (.ls id g es o l) = [id] := rfl
@[simp] theorem y2rt (cs : List AV) : ids1 (.rp cs) = [] := rfl
@[simp] theorem y2qw (k : IntKind) (n : Int) : ids1 (.int k n) = [] := rfl
@[simp] theorem y2qp (s : List UInt8) : ids1 (.str s) = [] := rfl
@[simp] theorem y2sw (o : Option (List α)) : ids1 (slA o) = [] := by cases o <;> rfl
@[simp] theorem y251 (neq : Bool) (o : Option (List α)) : y9g 1 neq (slA o) .nils = some (.bool (if neq then o.isSome else o.isNone)) := by
  cases o <;> cases neq <;> rfl
theorem ye0 {o : Option (List α)} {x : α} {i : Nat} (hx : (lst o)[i]? = some x) (k : IntKind) : yn (es α) (slA o) (.int k i) = some (.rp (enc x)) := by
  cases o with
  | none => simp at hx
  | some L =>
    simp only [yc1] at hx
    simp [slA, yn, hx]
theorem yvh {o : Option (List α)} {x : α} {n : Int} (h0 : 0 ≤ n) (hx : (lst o)[n.toNat]? = some x) (k : IntKind) : yn (es α) (slA o) (.int k n) = some (.rp (enc x)) := by
  obtain ⟨i, rfl⟩ := Int.eq_ofNat_of_zero_le h0
  exact ye0 (by simpa using hx) k
@[simp] theorem ykr (o : Option (List α)) (h : Heap) : y3r h (es α) (slA o) = some ((lst o).map enc) := by
  cases o <;> simp [slA, y3r]
@[simp] theorem y1sk (o : Option (List α)) (h : Heap) : fz h y18 (slA o) = some ⟨slA o, (lst o).isEmpty, []⟩ := by
  rw [y2s6 (y1bj o), yn2]
theorem y2hr (o : Option (List α)) (h : Heap) (k : Nat) : fz h (k + 1) (slA o) = some ⟨slA o, (lst o).isEmpty, []⟩ := by
  rw [fz_p (y1bj o), yn2]
@[simp] theorem y8b (x : α) (h : Heap) : fz h y18 (.agg (enc x)) = some ⟨.agg (enc x), scal x, []⟩ := y2ok h (pur x)
theorem yki (L : List α) : (L.map enc).all (·.all pure1) = true := by simp only [List.all_map, List.all_eq_true]; exact fun x _ => pur x
theorem yjv (L : List α) : (L.map enc).all (·.all y27) = L.all scal := by simp only [List.all_map]; rfl
@[simp] theorem y1xa (L : List α) (h : Heap) : ym (ym (fz h y18)) (L.map enc) = some ⟨L.map enc, L.all scal, []⟩ := by rw [y1tn h (yki L), yjv]
@[simp] theorem y1k0 (L : List α) (h : Heap) : ym (ym (fz h 11)) (L.map enc) = some ⟨L.map enc, L.all scal, []⟩ := by rw [y1xy h (yki L), yjv]
@[simp] theorem y2u8 (o : Option (List α)) : scal o = (lst o).isEmpty := by simp [scal]
@[simp] theorem y7k (L : List α) : (L.map (enc (α := α))).take L.length = L.map enc := by
  rw [List.take_of_length_le (by simp)]
@[simp] theorem yhz (x : α) : y6o true (es α) (enc x) = some (.agg (enc x)) := by
  simp only [y6o, if_true, len x, Nat.le_refl, if_pos]
  rw [List.take_of_length_le (by rw [len x]; exact Nat.le_refl _)]
@[simp] theorem y2r6 (x : α) : (∀ v, v ∈ enc x → y16 v = true) ↔ True := by
  have := leaf x
  rw [List.all_eq_true] at this
  exact ⟨fun _ => trivial, fun _ => this⟩
theorem yqt (x : α) : (enc x).all y16 = true := leaf x
@[simp] theorem y1lq (h : Heap) (k : IntKind) (n : Int) : fz h y18 (.int k n) = some ⟨.int k n, true, []⟩ := rfl
@[simp] theorem yqi (h : Heap) (b : Bool) : fz h y18 (.bool b) = some ⟨.bool b, true, []⟩ := rfl
@[simp] theorem y2tu (h : Heap) (b : List UInt8) : fz h y18 (.str b) = some ⟨.str b, true, []⟩ := rfl
@[simp] theorem y2r8 (h : Heap) : fz h y18 .nils = some ⟨.nils, true, []⟩ := rfl
@[simp] theorem y2kl (h : Heap) (k : IntKind) (n : Int) : yd h (.int k n) = some ⟨.int k n, [], true, [], []⟩ := rfl
@[simp] theorem y64 (h : Heap) (b : Bool) : yd h (.bool b) = some ⟨.bool b, [], true, [], []⟩ := rfl
@[simp] theorem y2kd (h : Heap) (s : List UInt8) : yd h (.str s) = some ⟨.str s, [], true, [], []⟩ := rfl
@[simp] theorem y2hf (h : Heap) : yd h .nils = some ⟨.nils, [], true, [], []⟩ := rfl
@[simp] theorem y2re (h : Heap) (o : Option (List α)) : yd h (slA o) = some ⟨slA o, [], (lst o).isEmpty, [], []⟩ := by
  cases o with
  | none => rfl
  | some L => simp [slA, y28b]
theorem y1mk {v : AV} (hp : pure1 v = true) (h : Heap) (k : Nat) (os : List OC) : expo h (k + 1) v os = some ⟨v, os, y27 v, [], []⟩ := by
  cases v <;> simp_all [expo, pure1]
theorem y230 {cs : List AV} (h : Heap) (k : Nat) (os : List OC) (hp : cs.all pure1 = true) : y5h (expo h (k + 1)) cs os = some ⟨cs, os, cs.all y27, [], []⟩ := by
  induction cs with
  | nil => rfl
  | cons c cs ih =>
    simp only [List.all_cons, Bool.and_eq_true] at hp
    rw [y5h, y1mk hp.1]
    simp only [ih hp.2]
    rfl
theorem yig (h : Heap) (cs : List AV) : yd h (.agg cs) = match y5h (expo h 11) cs [] with
    | some r => if y4v r.xs r.fs then some ⟨.agg r.v, r.objs, r.fresh, [], []⟩ else none
    | none => none := by
  show (match (match y5h (expo h 11) cs [] with
    | some r => some (⟨.agg r.v, r.objs, r.fresh, r.xs, r.fs⟩ : Ex AV)
    | none => none) with
    | some r => if y4v r.xs r.fs then some (⟨r.v, r.objs, r.fresh, [], []⟩ : Ex AV) else none
    | none => none) = _
  cases y5h (expo h 11) cs [] <;> rfl
@[simp] theorem y2mq (h : Heap) (x : α) : yd h (.agg (enc x)) = some ⟨.agg (enc x), [], scal x, [], []⟩ := by
  rw [yig, y230 h 10 [] (pur x)]
  rfl
theorem y2ea (h : Heap) (k id g es1 off len : Nat) (os : List OC) : expo h (k + 1) (.ls id g es1 off len) os = match yt h id g with
    | some (true, _, _) => exFz h (.ls id g es1 off len) os
    | some (false, es, rows) => if es1 = es ∧ off + len ≤ rows.length then
        match ym (ym (fz h y18)) ((rows.drop off).take len) with
        | some r => some ⟨.ls os.length 0 es 0 len, os ++ [.arr false false es r.v], r.fresh, [id], r.ids⟩
        | none => none
      else none
    | none => none := by
  rw [expo]
  rfl
theorem y2kp (h : Heap) (k id g es1 off len : Nat) : fz h (k + 1) (.ls id g es1 off len) = match yt h id g with
    | some (_, es, rows) => if es1 = es ∧ off + len ≤ rows.length then (match ym (ym (fz h k)) ((rows.drop off).take len) with
      | some r => some ⟨.rs es r.v, r.fresh, id :: r.ids⟩
      | none => none) else none
    | none => none := by
  rw [fz]
  rfl
theorem y28h (L : List α) (h : Heap) (k : Nat) : ym (ym (fz h (k + 1))) (L.map enc) = some ⟨L.map enc, L.all scal, []⟩ := by rw [y8x h k (yki L), yjv]
@[simp] theorem y15 {β γ : Type} (f : β → Option (Fz γ)) : ym f [] = some ⟨[], true, []⟩ := rfl
@[simp] theorem yk {β γ : Type} (f : β → Option (Fz γ)) (x : β) (xs : List β) : ym f (x :: xs) = match f x, ym f xs with
    | some a, some b => some ⟨a.v :: b.v, a.fresh && b.fresh, a.ids ++ b.ids⟩
    | _, _ => none := rfl
end Go.Vm
namespace Go.Vm
open Cel
structure Ins where
  op : Int
  d : Int
  a : Int
  b : Int
  c : Int
  n : Int
  t : Int
  s : List UInt8
  args : Option (List Int)
  deriving DecidableEq, Inhabited
structure Row where
  f : Int
  t : Int
  at_ : Int
  c : List UInt8
  deriving DecidableEq, Inhabited
structure Fn where
  regs : Option (List Int)
  params : Option (List Int)
  ret : Int
  code : Option (List Ins)
  rows : Option (List Row)
  deriving DecidableEq, Inhabited
instance : Cel Ins := ⟨9, fun x => [.int .i64 x.op, .int .i64 x.d, .int .i64 x.a, .int .i64 x.b, .int .i64 x.c, .int .i64 x.n, .int .i64 x.t, .str x.s, slA x.args], fun _ => rfl,
  fun x => by simp, fun x => by simp⟩
instance : Cel Row := ⟨4, fun x => [.int .i64 x.f, .int .i64 x.t, .int .i64 x.at_, .str x.c], fun _ => rfl, fun x => rfl, fun x => rfl⟩
instance : Cel Fn := ⟨5, fun x => [slA x.regs, slA x.params, .int .i64 x.ret, slA x.code, slA x.rows], fun _ => rfl, fun x => by simp, fun x => by simp⟩
@[simp] theorem y2vp : es Ins = 9 := rfl
@[simp] theorem y2vm : es Row = 4 := rfl
@[simp] theorem y2vx : es Fn = 5 := rfl
theorem y2im (x : Row) : enc x = [.int .i64 x.f, .int .i64 x.t, .int .i64 x.at_, .str x.c] := rfl
section
variable (x : Ins) (r : Row) (f : Fn)
@[simp high] theorem ins0 : (enc x).head? = some (.int .i64 x.op) := rfl
@[simp high] theorem y2vv : (enc x)[0]? = some (.int .i64 x.op) := rfl
@[simp high] theorem ins1 : ((enc x).drop 1).head? = some (.int .i64 x.d) := rfl
@[simp high] theorem y2w4 : (enc x)[1]? = some (.int .i64 x.d) := rfl
@[simp high] theorem ins2 : ((enc x).drop 2).head? = some (.int .i64 x.a) := rfl
@[simp high] theorem y2w7 : (enc x)[2]? = some (.int .i64 x.a) := rfl
@[simp high] theorem ins3 : ((enc x).drop 3).head? = some (.int .i64 x.b) := rfl
@[simp high] theorem y2w5 : (enc x)[3]? = some (.int .i64 x.b) := rfl
@[simp high] theorem ins4 : ((enc x).drop 4).head? = some (.int .i64 x.c) := rfl
@[simp high] theorem y2wc : (enc x)[4]? = some (.int .i64 x.c) := rfl
@[simp high] theorem ins5 : ((enc x).drop 5).head? = some (.int .i64 x.n) := rfl
@[simp high] theorem y2w6 : (enc x)[5]? = some (.int .i64 x.n) := rfl
@[simp high] theorem ins6 : ((enc x).drop 6).head? = some (.int .i64 x.t) := rfl
@[simp high] theorem y2w8 : (enc x)[6]? = some (.int .i64 x.t) := rfl
@[simp high] theorem ins7 : ((enc x).drop 7).head? = some (.str x.s) := rfl
@[simp high] theorem y2wb : (enc x)[7]? = some (.str x.s) := rfl
@[simp high] theorem ins8 : ((enc x).drop 8).head? = some (slA x.args) := rfl
@[simp high] theorem y2vw : (enc x)[8]? = some (slA x.args) := rfl
@[simp high] theorem row0 : (enc r).head? = some (.int .i64 r.f) := rfl
@[simp high] theorem y2vz : (enc r)[0]? = some (.int .i64 r.f) := rfl
@[simp high] theorem row1 : ((enc r).drop 1).head? = some (.int .i64 r.t) := rfl
@[simp high] theorem y2w0 : (enc r)[1]? = some (.int .i64 r.t) := rfl
@[simp high] theorem row2 : ((enc r).drop 2).head? = some (.int .i64 r.at_) := rfl
@[simp high] theorem y2vu : (enc r)[2]? = some (.int .i64 r.at_) := rfl
@[simp high] theorem row3 : ((enc r).drop 3).head? = some (.str r.c) := rfl
@[simp high] theorem y2w3 : (enc r)[3]? = some (.str r.c) := rfl
@[simp high] theorem fn0 : (enc f).head? = some (slA f.regs) := rfl
@[simp high] theorem fn0q : (enc f)[0]? = some (slA f.regs) := rfl
@[simp high] theorem fn1 : ((enc f).drop 1).head? = some (slA f.params) := rfl
@[simp high] theorem fn1q : (enc f)[1]? = some (slA f.params) := rfl
@[simp high] theorem fn2 : ((enc f).drop 2).head? = some (.int .i64 f.ret) := rfl
@[simp high] theorem fn2q : (enc f)[2]? = some (.int .i64 f.ret) := rfl
@[simp high] theorem fn3 : ((enc f).drop 3).head? = some (slA f.code) := rfl
@[simp high] theorem fn3q : (enc f)[3]? = some (slA f.code) := rfl
@[simp high] theorem fn4 : ((enc f).drop 4).head? = some (slA f.rows) := rfl
@[simp high] theorem fn4q : (enc f)[4]? = some (slA f.rows) := rfl
@[simp] theorem yrc : y6o true 9 (enc x) = some (.agg (enc x)) := yhz x
@[simp] theorem y2v2 : y6o true 4 (enc r) = some (.agg (enc r)) := yhz r
@[simp] theorem y2vn : y6o true 5 (enc f) = some (.agg (enc f)) := yhz f
@[simp] theorem yy3 : (enc x).length = 9 := rfl
@[simp] theorem y2tz : (enc r).length = 4 := rfl
@[simp] theorem y2be : (enc f).length = 5 := rfl
@[simp] theorem y25v : (enc x).all y16 = true := yqt x
@[simp] theorem y2qv : (enc r).all y16 = true := yqt r
@[simp] theorem yz0 : (enc f).all y16 = true := yqt f
end
theorem y4t {o : Option (List Ins)} {x : Ins} {i : Nat} (hx : (lst o)[i]? = some x) (k : IntKind) : yn 9 (slA o) (.int k i) = some (.rp (enc x)) := ye0 hx k
theorem yd2 {o : Option (List Row)} {x : Row} {i : Nat} (hx : (lst o)[i]? = some x) (k : IntKind) : yn 4 (slA o) (.int k i) = some (.rp (enc x)) := ye0 hx k
theorem y3l {o : Option (List Int)} {x : Int} {i : Nat} (hx : (lst o)[i]? = some x) (k : IntKind) : yn 1 (slA o) (.int k i) = some (.rp [.int .i64 x]) := ye0 hx k
theorem y6w {o : Option (List Ins)} {x : Ins} {n : Int} (h0 : 0 ≤ n) (hx : (lst o)[n.toNat]? = some x) (k : IntKind) : yn 9 (slA o) (.int k n) = some (.rp (enc x)) := yvh h0 hx k
theorem y13z {o : Option (List Int)} {x : Int} {n : Int} (h0 : 0 ≤ n) (hx : (lst o)[n.toNat]? = some x) (k : IntKind) : yn 1 (slA o) (.int k n) = some (.rp [.int .i64 x]) := yvh h0 hx k
@[simp] theorem y2kn (o : Option (List Int)) (h : Heap) : y3r h 1 (slA o) = some ((lst o).map enc) := ykr o h
@[simp] theorem y1ht (o : Option (List Ins)) (h : Heap) : y3r h 9 (slA o) = some ((lst o).map enc) := ykr o h
@[simp] theorem y2kf (o : Option (List Row)) (h : Heap) : y3r h 4 (slA o) = some ((lst o).map enc) := ykr o h
def exO {α : Type} [Cel α] : Option (List α) → Ex AV
  | none => ⟨.nils, [], true, [], []⟩
  | some L => ⟨.ls 0 0 (es α) 0 L.length, [.arr false false (es α) (L.map enc)], L.all scal, [], []⟩
@[simp] theorem yw7 {α : Type} [Cel α] (o : Option (List α)) : fz (y2k (exO o).objs) y18 (exO o).v = some ⟨slA o, (lst o).all scal, match o with | none => [] | some _ => [0]⟩ := by
  cases o with
  | none => rfl
  | some L =>
    show fz [⟨0, .arr false false (es α) (L.map enc)⟩] y18 (.ls 0 0 (es α) 0 L.length) = _
    rw [y1xw]
    simp [yt, y43, slA]
@[simp] theorem y16q {α : Type} [Cel α] (fb j : Nat) (L : List α) (h : Heap) : y2n fb (some j) (exO (some L)).objs [] h = match h[fb + j]? with
    | some o => some ([(fb + j, o.gen + 1)], h.set (fb + j) ⟨o.gen + 1, .arr false false (es α) (L.map enc)⟩)
    | none => none := by
  simp only [exO, y2n, y59, okOC, if_true, place, List.nil_append]
  cases h[fb + j]? <;> rfl
@[simp] theorem y2l9 {α : Type} [Cel α] (fb : Nat) (j : Option Nat) (h : Heap) : y2n fb j (exO (none : Option (List α))).objs [] h = some ([], h) := rfl
@[simp] theorem y169 {α : Type} [Cel α] (id g : Nat) (L : List α) : reloc [(id, g)] (exO (some L)).v = .ls id g (es α) 0 L.length := rfl
@[simp] theorem y2lk {α : Type} [Cel α] (tab : List (Nat × Nat)) : reloc tab (exO (none : Option (List α))).v = .nils := rfl
theorem ywu {α : Type} [Cel α] (o : Option (List α)) : (exO o).fresh = (lst o).all scal := by cases o <;> rfl
theorem y66 {α : Type} [Cel α] {h : Heap} {id g : Nat} {L : List α} (hr : yt h id g = some (false, es α, L.map enc)) : yd h (.ls id g (es α) 0 L.length) = some (exO (some L)) := by
  rw [yjr, hr]
  simp [exO]
attribute [simp] newC y7x y4f place
@[simp] theorem yec (g : Nat) (b f : Bool) (e : Nat) (r : List (List AV)) (t : Heap) : yt (⟨g, .arr b f e r⟩ :: t) 0 g = some (f, e, r) := by simp [yt, y43]
@[simp] theorem ypy (o : AO) (t : Heap) (i g : Nat) : yt (o :: t) (i + 1) g = yt t i g := rfl
@[simp] theorem y2nk (g : Nat) (b f : Bool) (e : Nat) (r r' : List (List AV)) (t : Heap) : y24 (⟨g, .arr b f e r⟩ :: t) 0 r' = ⟨g, .arr b f e r'⟩ :: t := rfl
@[simp] theorem y2l3 (o : AO) (t : Heap) (i : Nat) (r : List (List AV)) : y24 (o :: t) (i + 1) r = o :: y24 t i r := by
  simp only [y24, List.getElem?_cons_succ]
  split <;> simp_all
@[simp] theorem y7j (n id g i off : Nat) (v : AV) (h : Heap) : evSt n (.lp id g i off) v h = match yt h id g with
    | some (false, _, rows) => match rows[i]? with
      | some row => if (cellsOf v).length = n ∧ off + n ≤ row.length ∧ (cellsOf v).all y16 = true then some (.tup [], y24 h id (rows.set i (y13 off (cellsOf v) row))) else none
      | none => none
    | _ => none := rfl
@[simp] theorem yg8 {vs row : List AV} (h : row.length = vs.length) : y13 0 vs row = vs := by
  simp [y13, ← h]
section
variable (x : Ins) (n : Int) (s : List UInt8) (o : Option (List Int))
@[simp] theorem y2ur : y13 0 [.int .i64 n] (enc x) = enc { x with op := n } := rfl
@[simp] theorem y2rl : y13 1 [.int .i64 n] (enc x) = enc { x with d := n } := rfl
@[simp] theorem y2rs : y13 2 [.int .i64 n] (enc x) = enc { x with a := n } := rfl
@[simp] theorem y2sy : y13 3 [.int .i64 n] (enc x) = enc { x with b := n } := rfl
@[simp] theorem y2tl : y13 4 [.int .i64 n] (enc x) = enc { x with c := n } := rfl
@[simp] theorem y2ry : y13 5 [.int .i64 n] (enc x) = enc { x with n := n } := rfl
@[simp] theorem y2uv : y13 6 [.int .i64 n] (enc x) = enc { x with t := n } := rfl
@[simp] theorem y2v3 : y13 7 [.str s] (enc x) = enc { x with s := s } := rfl
@[simp] theorem y2su : y13 8 [slA o] (enc x) = enc { x with args := o } := rfl
end
def ynk (x : Ins) (v : AV) : List AV := [.int .i64 x.op, .int .i64 x.d, .int .i64 x.a, .int .i64 x.b, .int .i64 x.c, .int .i64 x.n, .int .i64 x.t, .str x.s, v]
@[simp] theorem y2rf (x : Ins) (id g es off len : Nat) : y13 8 [.ls id g es off len] (enc x) = ynk x (.ls id g es off len) := rfl
@[simp] theorem y2r0 (x : Ins) : y13 8 [.nils] (enc x) = enc { x with args := none } := rfl
@[simp] theorem y2ko (x : Ins) (v : AV) : (ynk x v).length = 9 := rfl
@[simp] theorem y2kj (x : Ins) (v : AV) : y6o true 9 (ynk x v) = some (.agg (ynk x v)) := rfl
@[simp] theorem y2ka (x : Ins) (w : AV) : (∀ v, v ∈ ynk x w → y16 v = true) ↔ y16 w = true := by simp [ynk]
def y1rf (r : Ex AV) (v : AV) : Prop := ∃ q, fz (y2k r.objs) y18 r.v = some q ∧ q.v = v
@[simp] theorem y40 (agg : Bool) (n id g i off : Nat) (h : Heap) : evLd agg n (.lp id g i off) h = match yt h id g with
    | some (_, _, rows) => match rows[i]? with
      | some row => y6o agg n (row.drop off)
      | none => none
    | none => none := rfl
end Go.Vm
namespace Go.Vm
open Cel
def inI (n : Int) : Prop := -9223372036854775808 ≤ n ∧ n ≤ 9223372036854775807
abbrev tyI : Ty := .int .i64
theorem yh7 {cs : List AV} (h : tyI.has cs) : ∃ n : Int, cs = [.int .i64 n] ∧ inI n := by
  obtain ⟨n, rfl, h1, h2⟩ := h
  exact ⟨n, rfl, by simpa [IntKind.min, IntKind.max, IntKind.signed, IntKind.bits] using h1, by simpa [IntKind.min, IntKind.max, IntKind.signed, IntKind.bits] using h2⟩
theorem y2n7 {cs : List AV} (h : Ty.str.has cs) : ∃ s : List UInt8, cs = [.str s] ∧ s.length ≤ reachBytes := h
theorem y12u {α : Type} [Cel α] {T : Ty} {Q : α → Prop} (hT : ∀ row, T.has row → ∃ x : α, row = enc x ∧ Q x) : ∀ (rows : List (List AV)), (∀ row, row ∈ rows → T.has row) → ∃ L : List α, rows = L.map enc ∧ ∀ x ∈ L, Q x
  | [], _ => ⟨[], rfl, fun x h => by cases h⟩
  | r :: rows, h => by
    obtain ⟨L, rfl, hL⟩ := y12u hT rows (fun row hr => h row (by simp [hr]))
    obtain ⟨x, rfl, hx⟩ := hT r (h r (by simp))
    refine ⟨x :: L, rfl, fun y hy => ?_⟩
    rcases List.mem_cons.1 hy with rfl | hy
    · exact hx
    · exact hL y hy
theorem y1xm {α : Type} [Cel α] {T : Ty} {Q : α → Prop} (hT : ∀ row, T.has row → ∃ x : α, row = enc x ∧ Q x) {cs : List AV} (h : (Ty.slice (es α) T).has cs) : ∃ o : Option (List α), cs = [slA o] ∧ (lst o).length ≤ maxLen ∧ (lst o).length * T.bytes ≤ reachBytes ∧ ∀ x ∈ lst o, Q x := by
  rcases h with rfl | ⟨rows, rfl, hl, hz, hr⟩
  · exact ⟨none, rfl, Nat.zero_le _, by simp, fun x h => by cases h⟩
  · obtain ⟨L, rfl, hL⟩ := y12u hT rows hr
    exact ⟨some L, rfl, by simpa using hl, by simpa using hz, hL⟩
abbrev y172 : Ty := .slice 1 tyI
theorem yqx {cs : List AV} (h : y172.has cs) : ∃ o : Option (List Int), cs = [slA o] ∧ (lst o).length * 8 ≤ reachBytes ∧ ∀ x ∈ lst o, inI x := by
  obtain ⟨o, h1, _, h2, h3⟩ := y1xm (α := Int) (T := tyI) (fun _ h => yh7 h) h
  exact ⟨o, h1, h2, h3⟩
abbrev y2fq : Ty := .struct (.sCons tyI (.sCons tyI (.sCons tyI (.sCons tyI (.sCons tyI (.sCons tyI (.sCons tyI (.sCons .str (.sCons y172 .sNil)))))))))
abbrev y2ez : Ty := .struct (.sCons tyI (.sCons tyI (.sCons tyI (.sCons .str .sNil))))
structure InsOk (x : Ins) : Prop where
  op : inI x.op
  d : inI x.d
  a : inI x.a
  b : inI x.b
  c : inI x.c
  n : inI x.n
  t : inI x.t
  s : x.s.length ≤ reachBytes
  len : (lst x.args).length * 8 ≤ reachBytes
  args : ∀ r ∈ lst x.args, inI r
structure RowOk (r : Row) : Prop where
  f : inI r.f
  t : inI r.t
  a : inI r.at_
  c : r.c.length ≤ reachBytes
structure FnIn (f : Fn) : Prop where
  regs : (lst f.regs).length * 8 ≤ reachBytes
  regI : ∀ x ∈ lst f.regs, inI x
  params : (lst f.params).length * 8 ≤ reachBytes
  parI : ∀ x ∈ lst f.params, inI x
  ret : inI f.ret
  code : (lst f.code).length * 96 ≤ reachBytes
  insI : ∀ x ∈ lst f.code, InsOk x
  rows : (lst f.rows).length * 40 ≤ reachBytes
  rowI : ∀ x ∈ lst f.rows, RowOk x
theorem y2jm {cs : List AV} (h : y2fq.has cs) : ∃ x : Ins, cs = enc x ∧ InsOk x := by
  obtain ⟨_, _, rfl, h1, _, _, rfl, h2, _, _, rfl, h3, _, _, rfl, h4, _, _, rfl, h5, _, _, rfl, h6, _, _, rfl, h7, _, _, rfl, h8, _, _, rfl, h9, rfl⟩ := h
  obtain ⟨op, rfl, k1⟩ := yh7 h1
  obtain ⟨d, rfl, k2⟩ := yh7 h2
  obtain ⟨a, rfl, k3⟩ := yh7 h3
  obtain ⟨b, rfl, k4⟩ := yh7 h4
  obtain ⟨c, rfl, k5⟩ := yh7 h5
  obtain ⟨n, rfl, k6⟩ := yh7 h6
  obtain ⟨t, rfl, k7⟩ := yh7 h7
  obtain ⟨s, rfl, k8⟩ := y2n7 h8
  obtain ⟨l, rfl, k9, k10⟩ := yqx h9
  exact ⟨⟨op, d, a, b, c, n, t, s, l⟩, rfl, ⟨k1, k2, k3, k4, k5, k6, k7, k8, k9, k10⟩⟩
theorem y2c3 {cs : List AV} (h : y2ez.has cs) : ∃ x : Row, cs = enc x ∧ RowOk x := by
  obtain ⟨_, _, rfl, h1, _, _, rfl, h2, _, _, rfl, h3, _, _, rfl, h8, rfl⟩ := h
  obtain ⟨f, rfl, k1⟩ := yh7 h1
  obtain ⟨t, rfl, k2⟩ := yh7 h2
  obtain ⟨a, rfl, k3⟩ := yh7 h3
  obtain ⟨s, rfl, k8⟩ := y2n7 h8
  exact ⟨⟨f, t, a, s⟩, rfl, ⟨k1, k2, k3, k8⟩⟩
abbrev tyFn : Ty := .struct (.sCons y172 (.sCons y172 (.sCons tyI (.sCons (.slice 9 y2fq) (.sCons (.slice 4 y2ez) .sNil)))))
theorem y2oc {cs : List AV} (h : tyFn.has cs) : ∃ x : Fn, cs = enc x ∧ FnIn x := by
  obtain ⟨_, _, rfl, h1, _, _, rfl, h2, _, _, rfl, h3, _, _, rfl, h4, _, _, rfl, h5, rfl⟩ := h
  obtain ⟨regs, rfl, k1, l1⟩ := yqx h1
  obtain ⟨params, rfl, k2, l2⟩ := yqx h2
  obtain ⟨ret, rfl, k3⟩ := yh7 h3
  obtain ⟨code, rfl, _, k4, l4⟩ := y1xm (α := Ins) (T := y2fq) (fun _ h => y2jm h) h4
  obtain ⟨rows, rfl, _, k5, l5⟩ := y1xm (α := Row) (T := y2ez) (fun _ h => y2c3 h) h5
  exact ⟨⟨regs, params, ret, code, rows⟩, rfl, ⟨k1, l1, k2, l2, k3, k4, l4, k5, l5⟩⟩
end Go.Vm
namespace Go.Vm
def calls (o : Int) : Bool := decide (23 ≤ o) && decide (o ≤ 26)
def ends (o : Int) : Bool := decide (o = 27) || decide (o = 30) || decide (o = 31)
def leads (o : Int) : Bool := decide (o = 27) || decide (o = 28) || decide (o = 29)
def throws (o : Int) : Bool := (decide (7 ≤ o) && decide (o ≤ 12)) || decide (o = 20) || decide (o = 21) || decide (o = 31) || calls o
def writes (o : Int) : Bool := decide (o ∈ [1, 2, 3, 4, 5, 6, 13, 15, 16, 18, 20, 21, 22, 32]) || calls o
def defr (x : Ins) : Int := if writes x.op then x.d else -1
def reads (o : Int) : Nat :=
  if o ∈ [4, 6, 7, 8, 10, 12, 15, 16, 19, 21, 22, 31] then 1 else if o ∈ [5, 9, 11, 13, 17, 28] then 2 else if o = 14 then 3 else 0
def uses (x : Ins) : Option (List Int) :=
  if calls x.op then x.args
  else if x.op = 29 then (if x.b < 0 then some [x.a] else some [x.a, x.b])
  else if x.op = 30 then (if 0 ≤ x.a then some [x.a] else none)
  else if reads x.op = 1 then some [x.a] else if reads x.op = 2 then some [x.a, x.b] else if reads x.op = 3 then some [x.a, x.b, x.c] else none
theorem ybe (o : Int) : o = 1 ∨ o = 2 ∨ o = 3 ∨ o = 4 ∨ o = 5 ∨ o = 6 ∨ o = 7 ∨ o = 8 ∨ o = 9 ∨ o = 10 ∨ o = 11 ∨ o = 12 ∨ o = 13 ∨ o = 14 ∨ o = 15 ∨ o = 16 ∨ o = 17 ∨ o = 18 ∨ o = 19 ∨ o = 20 ∨ o = 21 ∨ o = 22 ∨ o = 23 ∨ o = 24 ∨ o = 25 ∨ o = 26 ∨ o = 27 ∨ o = 28 ∨ o = 29 ∨ o = 30 ∨ o = 31 ∨ o = 32 ∨ o = 33 ∨ o < 1 ∨ 33 < o := by omega
theorem lo_f {o : Int} (h : o < 1) : (¬ o = 1 ∧ ¬ o = 2 ∧ ¬ o = 3 ∧ ¬ o = 4 ∧ ¬ o = 5 ∧ ¬ o = 6 ∧ ¬ o = 7 ∧ ¬ o = 8 ∧ ¬ o = 9 ∧ ¬ o = 10 ∧ ¬ o = 11 ∧ ¬ o = 12 ∧ ¬ o = 13 ∧ ¬ o = 14 ∧ ¬ o = 15 ∧ ¬ o = 16 ∧ ¬ o = 17 ∧ ¬ o = 18 ∧ ¬ o = 19 ∧ ¬ o = 20 ∧ ¬ o = 21 ∧ ¬ o = 22 ∧ ¬ o = 23 ∧ ¬ o = 24 ∧ ¬ o = 25 ∧ ¬ o = 26 ∧ ¬ o = 27 ∧ ¬ o = 28 ∧ ¬ o = 29 ∧ ¬ o = 30 ∧ ¬ o = 31 ∧ ¬ o = 32 ∧ ¬ o = 33) ∧ ¬ 7 ≤ o ∧ ¬ 23 ≤ o ∧ ¬ 1 ≤ o := by omega
theorem hi_f {o : Int} (h : 33 < o) : (¬ o = 1 ∧ ¬ o = 2 ∧ ¬ o = 3 ∧ ¬ o = 4 ∧ ¬ o = 5 ∧ ¬ o = 6 ∧ ¬ o = 7 ∧ ¬ o = 8 ∧ ¬ o = 9 ∧ ¬ o = 10 ∧ ¬ o = 11 ∧ ¬ o = 12 ∧ ¬ o = 13 ∧ ¬ o = 14 ∧ ¬ o = 15 ∧ ¬ o = 16 ∧ ¬ o = 17 ∧ ¬ o = 18 ∧ ¬ o = 19 ∧ ¬ o = 20 ∧ ¬ o = 21 ∧ ¬ o = 22 ∧ ¬ o = 23 ∧ ¬ o = 24 ∧ ¬ o = 25 ∧ ¬ o = 26 ∧ ¬ o = 27 ∧ ¬ o = 28 ∧ ¬ o = 29 ∧ ¬ o = 30 ∧ ¬ o = 31 ∧ ¬ o = 32 ∧ ¬ o = 33) ∧ 7 ≤ o ∧ 23 ≤ o ∧ ¬ o ≤ 12 ∧ ¬ o ≤ 26 ∧ 1 ≤ o := by omega
end Go.Vm
namespace Go.Vm
abbrev Fx := List Int
def unq (r : Int) (s : Fx) : Fx := s.map fun q => if q = r then -1 else q
def wrtL (s : Fx) (r : Int) : Fx := unq r (s.set r.toNat (-1))
def behM (s : Fx) (x : Ins) : Fx :=
  if defr x < 0 ∨ (x.op = 4 ∧ x.a = defr x) then s
  else if x.op = 4 then
    (if 0 ≤ s.getD x.a.toNat (-1) ∧ s.getD x.a.toNat (-1) ≠ defr x then (wrtL s (defr x)).set (defr x).toNat (s.getD x.a.toNat (-1))
     else if s.getD x.a.toNat (-1) = defr x then s else (wrtL s (defr x)).set (defr x).toNat x.a)
  else (wrtL s (defr x)).set (defr x).toNat (-1)
end Go.Vm
namespace Go.Vm
end Go.Vm
namespace Go.Vm
open Cel
attribute [local simp] y7 y25 yl
def okB (b : UInt8) : Bool := (decide (97 ≤ b.toNat) && decide (b.toNat ≤ 122)) || (decide (65 ≤ b.toNat) && decide (b.toNat ≤ 90)) || (decide (48 ≤ b.toNat) && decide (b.toNat ≤ 57)) || decide (b.toNat = 95) || decide (b.toNat = 36) || decide (b.toNat = 47)
def y83 (s : List UInt8) : Bool := decide (1 ≤ s.length) && decide (s.length ≤ 60) && s.all okB
theorem y1zf (s : List UInt8) (i : Nat) (hi : i < s.length) (v18 : AV) :
    q7_4 (.bool false) (.ls 0 1 1 0 s.length) v18 (.int .i64 i) [⟨1, .arr false false 1 (s.map fun b => [.int .u8 b.toNat])⟩] =
      if okB s[i] then q7_3 (.bool false) (.ls 0 1 1 0 s.length) v18 (.int .i64 i) [⟨1, .arr false false 1 (s.map fun b => [.int .u8 b.toNat])⟩] else some ⟨.bool false, [], true, [], []⟩ := by
  have hc : ((i : Int) < (s.length : Int)) := by omega
  generalize hb : s[i].toNat = n
  have e : (s.map fun b => ([.int .u8 b.toNat] : List AV))[i]? = some [.int .u8 (n : Int)] := by
    rw [List.getElem?_map, List.getElem?_eq_getElem hi, ← hb]; rfl
  have ho : okB s[i] = ((decide (97 ≤ n) && decide (n ≤ 122)) || (decide (65 ≤ n) && decide (n ≤ 90)) || (decide (48 ≤ n) && decide (n ≤ 57)) || decide (n = 95) || decide (n = 36) || decide (n = 47)) := by
    rw [okB, hb]
  rw [ho]
  have c1 : ∀ k : Nat, ((k : Int) ≤ (n : Int)) = (k ≤ n) := fun k => by simp
  have f1 : ((97 : Int) ≤ (n : Int)) = (97 ≤ n) := c1 97
  have f2 : ((65 : Int) ≤ (n : Int)) = (65 ≤ n) := c1 65
  have f3 : ((48 : Int) ≤ (n : Int)) = (48 ≤ n) := c1 48
  have g1 : ((n : Int) ≤ (122 : Int)) = (n ≤ 122) := by simp; omega
  have g2 : ((n : Int) ≤ (90 : Int)) = (n ≤ 90) := by simp; omega
  have g3 : ((n : Int) ≤ (57 : Int)) = (n ≤ 57) := by simp; omega
  have d1 : ((n : Int) = (95 : Int)) = (n = 95) := by simp; omega
  have d2 : ((n : Int) = (36 : Int)) = (n = 36) := by simp; omega
  have d3 : ((n : Int) = (47 : Int)) = (n = 47) := by simp; omega
  have step : ∀ (b1 b2 b3 b4 b5 b6 b7 b8 b9 : Bool), decide (97 ≤ n) = b1 → decide (n ≤ 122) = b2 → decide (65 ≤ n) = b3 → decide (n ≤ 90) = b4 → decide (48 ≤ n) = b5 → decide (n ≤ 57) = b6 → decide (n = 95) = b7 → decide (n = 36) = b8 → decide (n = 47) = b9 →
      q7_4 (.bool false) (.ls 0 1 1 0 s.length) v18 (.int .i64 i) [⟨1, .arr false false 1 (s.map fun b => [.int .u8 b.toNat])⟩] =
      if (b1 && b2) || (b3 && b4) || (b5 && b6) || b7 || b8 || b9 then q7_3 (.bool false) (.ls 0 1 1 0 s.length) v18 (.int .i64 i) [⟨1, .arr false false 1 (s.map fun b => [.int .u8 b.toNat])⟩] else some ⟨.bool false, [], true, [], []⟩ := by
    intro b1 b2 b3 b4 b5 b6 b7 b8 b9 h1 h2 h3 h4 h5 h6 h7 h8 h9
    rw [q7_4]
    have e0 : yn 1 (.ls 0 1 1 0 s.length) (.int .i64 i) = some (.lp 0 1 i 0) := by simp [yn, hc, hi]
    have tri : ∀ a b : Bool, (a = false) ∨ (a = true ∧ b = false) ∨ (a = true ∧ b = true) := by intro a b; cases a <;> cases b <;> simp
    have l1 : y6 .geq (.int .u8 (n : Int)) (.int .u8 97) = some (.bool b1) := by rw [ye6]; simp only [f1, h1]
    have l2 : y6 .leq (.int .u8 (n : Int)) (.int .u8 122) = some (.bool b2) := by rw [y7s]; simp only [g1, h2]
    have l3 : y6 .geq (.int .u8 (n : Int)) (.int .u8 65) = some (.bool b3) := by rw [ye6]; simp only [f2, h3]
    have l4 : y6 .leq (.int .u8 (n : Int)) (.int .u8 90) = some (.bool b4) := by rw [y7s]; simp only [g2, h4]
    have l5 : y6 .geq (.int .u8 (n : Int)) (.int .u8 48) = some (.bool b5) := by rw [ye6]; simp only [f3, h5]
    have l6 : y6 .leq (.int .u8 (n : Int)) (.int .u8 57) = some (.bool b6) := by rw [y7s]; simp only [g3, h6]
    have l7 : y6 .eql (.int .u8 (n : Int)) (.int .u8 95) = some (.bool b7) := by rw [yu]; simp only [d1, h7]
    have l8 : y6 .eql (.int .u8 (n : Int)) (.int .u8 36) = some (.bool b8) := by rw [yu]; simp only [d2, h8]
    have l9 : y6 .eql (.int .u8 (n : Int)) (.int .u8 47) = some (.bool b9) := by rw [yu]; simp only [d3, h9]
    clear h1 h2 h3 h4 h5 h6 h7 h8 h9
    simp only [e0, y5, y40, yec, e, List.drop_zero, y75, List.head?_cons, l1]
    generalize q7_3 (.bool false) (.ls 0 1 1 0 s.length) v18 (.int .i64 i) [⟨1, .arr false false 1 (s.map fun b => [.int .u8 b.toNat])⟩] = Z
    rcases tri b1 b2 with rfl | ⟨rfl, rfl⟩ | ⟨rfl, rfl⟩ <;> simp only [l2, y5q, yf2, yr5, y8c, y4h, y5, y1c, y1i, y47, y22, y26, l3, y64] <;> try (simp; done)
    all_goals rcases tri b3 b4 with rfl | ⟨rfl, rfl⟩ | ⟨rfl, rfl⟩ <;> simp only [l4, y5q, yf2, yr5, y8c, y4h, y5, y1c, y1i, y47, y22, y26, l5, y64] <;> try (simp; done)
    all_goals rcases tri b5 b6 with rfl | ⟨rfl, rfl⟩ | ⟨rfl, rfl⟩ <;> simp only [l6, y5q, yf2, yr5, y8c, y4h, y5, y1c, y1i, y47, y22, y26, l7, y64] <;> try (simp; done)
    all_goals cases b7 <;> simp only [y5q, yf2, yr5, y8c, y4h, y5, y1c, y1i, y47, y22, y26, l8, y64] <;> try (simp; done)
    all_goals cases b8 <;> simp only [y5q, yf2, yr5, y8c, y4h, y5, y1c, y1i, y47, y22, y26, l9, y64] <;> try (simp; done)
    all_goals cases b9 <;> simp
  exact step _ _ _ _ _ _ _ _ _ rfl rfl rfl rfl rfl rfl rfl rfl rfl
end Go.Vm
namespace Go.Vm
open Cel
attribute [local simp] y7 y25 yl
theorem y1ws (s : List UInt8) (hl : s.length ≤ 60) : ∀ (d i : Nat), i + d = s.length →
    y1mj (.bool false) (.ls 0 1 1 0 s.length) (.int .i64 s.length) (.int .i64 i) [⟨1, .arr false false 1 (s.map fun b => [.int .u8 b.toNat])⟩] = some ⟨.bool ((s.drop i).all okB), [], true, [], []⟩ := by
  intro d
  induction d with
  | zero =>
    intro i hi
    have e1 : s.drop i = [] := List.drop_eq_nil_of_le (by omega)
    have hc : ¬ ((i : Int) < (s.length : Int)) := by omega
    rw [y1ax, e1]
    simp [q7_6, q7_5, q7_1, hc]
  | succ d ih =>
    intro i hi
    have hlt : i < s.length := by omega
    have hc : ((i : Int) < (s.length : Int)) := by omega
    have := ih (i + 1) (by omega)
    push_cast at this
    have e1 : (s.drop i).all okB = (okB s[i] && (s.drop (i + 1)).all okB) := by rw [List.drop_eq_getElem_cons hlt, List.all_cons]
    have hw : IntKind.wrap .i64 ((i : Int) + 1) = (i : Int) + 1 := y2r (by omega) (by omega)
    rw [y1ax, e1]
    simp only [q7_6, q7_5, y12, y5, hc, decide_true, y22, y1zf s i hlt]
    cases okB s[i]
    · simp
    · simp [q7_3, hw, this]
@[simp] theorem y2vg (s : List UInt8) : (y8 E).p 60 [.str s, .bool false] = some ⟨.bool (y83 s), [], true, [], []⟩ := by
  rw [x_q7]
  by_cases h1 : ((s.length : Int) < 1)
  · have : ¬ 1 ≤ s.length := by omega
    simp [q7_1, q7_3, q7_4, q7_5, q7_6, q7_8, y1zu, y1v1, h1, y83, this]
  by_cases h2 : ((60 : Int) < (s.length : Int))
  · have : ¬ s.length ≤ 60 := by omega
    simp [q7_1, q7_3, q7_4, q7_5, q7_6, q7_8, y1zu, y1v1, h1, h2, y83, this]
  · have a1 : 1 ≤ s.length := by omega
    have a2 : s.length ≤ 60 := by omega
    have := y1ws s a2 s.length 0 (by omega)
    simp only [List.drop_zero] at this
    simp only [y83, a1, a2, decide_true, Bool.true_and, ← this]
    simp [y1v1, y1zu, q7_8, h1, h2, s2bC]
def lead : List UInt8 → Nat
  | [] => 0
  | c :: r => if c = 91 then lead r + 1 else 0
theorem yaf : ∀ s : List UInt8, lead s ≤ s.length
  | [] => Nat.le_refl _
  | c :: r => by
    have := yaf r
    simp only [lead, List.length_cons]
    split <;> omega
theorem yzf : ∀ {s : List UInt8} {i : Nat}, i < lead s → s[i]? = some 91
  | [], i, h => by simp [lead] at h
  | c :: r, i, h => by
    simp only [lead] at h
    split at h
    · rename_i e
      cases i with
      | zero => simp [e]
      | succ i => simpa using yzf (s := r) (by omega)
    · omega
theorem yzr : ∀ {s : List UInt8} {c : UInt8}, s[lead s]? = some c → c ≠ 91
  | [], c, h => by simp at h
  | d :: r, c, h => by
    simp only [lead] at h
    split at h
    · exact yzr (s := r) (by simpa using h)
    · rename_i e; simp at h; rw [← h]; exact e
def ywp (s : List UInt8) : Nat :=
  if 8 < lead s ∨ lead s = s.length then 0
  else if s[lead s]? = some 73 ∨ s[lead s]? = some 74 then lead s + 1
  else if s[lead s]? = some 76 then
    (if (s.drop (lead s + 1)).findIdx (· == 59) < (s.drop (lead s + 1)).length ∧ y83 ((s.take (lead s + 1 + (s.drop (lead s + 1)).findIdx (· == 59))).drop (lead s + 1)) = true then lead s + 1 + (s.drop (lead s + 1)).findIdx (· == 59) + 1 else 0)
  else 0
theorem ixstr {s : List UInt8} {i : Nat} {c : UInt8} (h : s[i]? = some c) : y41 (.str s) (.int .i64 i) = some (.int .u8 c.toNat) := by
  simp [y41, h]
theorem y5s (c : UInt8) (k : UInt8) : ((c.toNat : Int) = (k.toNat : Int)) ↔ c = k := by
  rw [Int.ofNat_inj]; exact ⟨fun h => UInt8.toNat_inj.1 h, fun h => by rw [h]⟩
theorem y1ur (s : List UInt8) (hs : s.length ≤ 9223372036854775807) (h : Heap) : ∀ (d i : Nat), i + d = lead s → yvn (.str s) (.int .i64 i) h = ylt (.str s) (.int .i64 (lead s)) h := by
  intro d
  induction d with
  | zero =>
    intro i hi
    obtain rfl : i = lead s := by omega
    rw [ysi]
    have := yaf s
    by_cases hc : lead s < s.length
    · have e := List.getElem?_eq_getElem hc
      have hne := yzr e
      have hc' : ((lead s : Int) < (s.length : Int)) := by omega
      have hb : ¬ ((s[lead s].toNat : Int) = 91) := fun hh => hne ((y5s _ 91).1 hh)
      simp [y1rx, hc', ixstr e, hb]
    · have hc' : ¬ ((lead s : Int) < (s.length : Int)) := by omega
      simp [y1rx, hc']
  | succ d ih =>
    intro i hi
    have e := yzf (s := s) (i := i) (by omega)
    have := yaf s
    have hc' : ((i : Int) < (s.length : Int)) := by omega
    have ih := ih (i + 1) (by omega)
    push_cast at ih
    rw [ysi]
    simp [y1rx, hc', ixstr e, y2e0, y1k (show i < s.length by omega) hs, ih]
theorem y1lj (s : List UInt8) (hs : s.length ≤ 9223372036854775807) (n : Nat) (h : Heap) : ∀ (d i : Nat), n + 1 ≤ i → i + d = s.length →
    y1md (.str s) (.int .i64 n) (.int .i64 i) h =
      some ⟨.int .i64 (if (s.drop i).findIdx (· == 59) < (s.drop i).length ∧ y83 ((s.take (i + (s.drop i).findIdx (· == 59))).drop (n + 1)) = true then (i + (s.drop i).findIdx (· == 59) + 1 : Nat) else (0 : Nat)), [], true, [], []⟩ := by
  intro d
  induction d with
  | zero =>
    intro i h1 hi
    rw [y16n]
    have e1 : s.drop i = [] := List.drop_eq_nil_of_le (by omega)
    have hc : ¬ ((i : Int) < (s.length : Int)) := by omega
    simp [y1fx, q9_1, hc, e1]
  | succ d ih =>
    intro i h1 hi
    rw [y16n]
    have hlt : i < s.length := by omega
    have e := List.getElem?_eq_getElem hlt
    have hc : ((i : Int) < (s.length : Int)) := by omega
    have hd : s.drop i = s[i] :: s.drop (i + 1) := List.drop_eq_getElem_cons hlt
    by_cases hb : s[i] = 59
    · have hb' : ((s[i].toNat : Int) = 59) := (y5s _ 59).2 hb
      have hf : (s.drop i).findIdx (· == 59) = 0 := by rw [hd, List.findIdx_cons]; simp [hb]
      have hw1 : IntKind.wrap .i64 ((n : Int) + 1) = (n : Int) + 1 := y1k (show n < s.length by omega) hs
      have hsl : yes (.str s) (some (.int .i64 ((n : Int) + 1))) (some (.int .i64 (i : Int))) = some (.str ((s.take i).drop (n + 1))) := by
        have a1 : ((0 : Int) ≤ (i : Int) ∧ (i : Int) ≤ (s.length : Int)) := by omega
        have a2 : ((0 : Int) ≤ (n : Int) + 1 ∧ (n : Int) + 1 ≤ (i : Int)) := by omega
        simp only [yes, y9q, yit, if_pos a1, Int.toNat_natCast, if_pos a2]
        rfl
      rw [hf]
      have hlen : 0 < (s.drop i).length := by rw [List.length_drop]; omega
      cases hn : y83 ((s.take i).drop (n + 1)) with
      | true =>
        simp only [y1fx, q9_7, q9_6, q9_5, yeo, y5, y12, hc, decide_true, y22, ixstr e, yu, hb', y44, hw1, hsl]
        simp [hn, hlt, y1k hlt hs]
        omega
      | false =>
        simp only [y1fx, q9_7, q9_6, q9_5, yeo, y5, y12, hc, decide_true, y22, ixstr e, yu, hb', y44, hw1, hsl]
        simp [hn, q9_4]
    · have hb' : ¬ ((s[i].toNat : Int) = 59) := fun hh => hb ((y5s _ 59).1 hh)
      have hf : (s.drop i).findIdx (· == 59) = (s.drop (i + 1)).findIdx (· == 59) + 1 := by
        rw [hd, List.findIdx_cons]
        have : (s[i] == 59) = false := by simpa using hb
        rw [this]; rfl
      have hl : (s.drop i).length = (s.drop (i + 1)).length + 1 := by rw [hd]; rfl
      have ih := ih (i + 1) (by omega) (by omega)
      push_cast at ih
      rw [hf, hl]
      have e2 : i + ((s.drop (i + 1)).findIdx (· == 59) + 1) = i + 1 + (s.drop (i + 1)).findIdx (· == 59) := by omega
      rw [e2]
      simp only [y1fx, q9_7, q9_6, q9_3, yeo, y5, y12, hc, decide_true, y22, y26, ixstr e, yu, hb', decide_false, y44, y1k hlt hs, ih]
      simp only [Nat.add_lt_add_iff_right]
      push_cast
      rfl
@[simp] theorem y2n9 (s : List UInt8) (hs : s.length ≤ 9223372036854775807) : (y8 E).p 44 [.str s] = some ⟨.int .i64 (ywp s), [], true, [], []⟩ := by
  rw [x_q9]
  have h0 := y1ur s hs [] (lead s) 0 (by omega)
  simp only [Int.ofNat_zero] at h0
  have hle := yaf s
  have key : ylt (.str s) (.int .i64 (lead s)) [] = some ⟨.int .i64 (ywp s), [], true, [], []⟩ := by
    unfold ywp
    by_cases h8 : 8 < lead s
    · have h8' : ((8 : Int) < (lead s : Int)) := by omega
      simp [ylt, h8', h8]
    by_cases hl : lead s = s.length
    · have h8' : ¬ ((8 : Int) < (lead s : Int)) := by omega
      have hl' : ((lead s : Int) = (s.length : Int)) := by omega
      have h9' : ¬ ((8 : Int) < (s.length : Int)) := by omega
      simp [ylt, h8', h9', hl', hl]
    · have h8' : ¬ ((8 : Int) < (lead s : Int)) := by omega
      have hl' : ¬ ((lead s : Int) = (s.length : Int)) := by omega
      have hlt : lead s < s.length := by omega
      have e := List.getElem?_eq_getElem hlt
      rw [if_neg (by simp [h8, hl]), e]
      have hw := y1k hlt hs
      by_cases c1 : s[lead s] = 73
      · have c1' : ((s[lead s].toNat : Int) = 73) := (y5s _ 73).2 c1
        simp [ylt, y1fi, y1gp, y09, h8', hl', ixstr e, c1', c1, hw]
      by_cases c2 : s[lead s] = 74
      · have c2' : ((s[lead s].toNat : Int) = 74) := (y5s _ 74).2 c2
        simp [ylt, y1fi, y1gp, y09, h8', hl', ixstr e, c2', c2, hw]
      have c1' : ¬ ((s[lead s].toNat : Int) = 73) := fun hh => c1 ((y5s _ 73).1 hh)
      have c2' : ¬ ((s[lead s].toNat : Int) = 74) := fun hh => c2 ((y5s _ 74).1 hh)
      by_cases c3 : s[lead s] = 76
      · have c3' : ((s[lead s].toNat : Int) = 76) := (y5s _ 76).2 c3
        have := y1lj s hs (lead s) [] _ (lead s + 1) (Nat.le_refl _) (show lead s + 1 + (s.length - (lead s + 1)) = s.length by omega)
        push_cast at this
        simp [ylt, y1fi, y1gp, y09, y28l, y28p, y2fv, h8', hl', ixstr e, c1', c2', c3', c1, c2, c3, hw, this]
        split <;> simp
      · have c3' : ¬ ((s[lead s].toNat : Int) = 76) := fun hh => c3 ((y5s _ 76).1 hh)
        simp [ylt, y1fi, y1gp, y09, y28l, y28p, q9_1, h8', hl', ixstr e, c1', c2', c3', c1, c2, c3]
  rw [← key, ← h0]
  simp [y2g1, y2gm]
def y7l (s : List UInt8) : Bool := decide (s ≠ []) && decide (ywp s = s.length)
@[simp] theorem y2p5 (s : List UInt8) (hs : s.length ≤ 9223372036854775807) : (y8 E).p 37 [.str s] = some ⟨.bool (y7l s), [], true, [], []⟩ := by
  rw [x_q8]
  have h := y2n9 s hs
  by_cases h1 : s = []
  · simp [q8_1, h1, y7l]
  · have e : ((ywp s : Int) = (s.length : Int)) ↔ ywp s = s.length := by omega
    simp [q8_1, h1, y7l, h, e]
end Go.Vm
namespace Go.Vm
open Cel
attribute [local simp] y7 y25 yl
def numK (c : Int) : Int × Int × Int :=
  if c ∈ [96, 100, 104, 108, 112, 120, 122, 124, 126, 128, 130] then (1, 1, 1)
  else if c ∈ [97, 101, 105, 109, 113, 127, 129, 131] then (2, 2, 2)
  else if c ∈ [121, 123, 125] then (2, 1, 2)
  else if c = 148 then (2, 2, 1)
  else if c ∈ [116, 145, 146, 147] then (1, 0, 1)
  else if c = 117 then (2, 0, 2)
  else if c = 133 then (1, 0, 2)
  else if c = 136 then (2, 0, 1)
  else (0, 0, 0)
def y14y (r : Option (Ex AV)) (k : Int × Int × Int) : Bool :=
  match r with
  | some ⟨.tup [.int .i64 a, .int .i64 b, .int .i64 c], [], true, [], []⟩ => a == k.1 && b == k.2.1 && c == k.2.2
  | _ => false
theorem ysu {r : Option (Ex AV)} {k : Int × Int × Int} (h : y14y r k = true) : r = some ⟨.tup [.int .i64 k.1, .int .i64 k.2.1, .int .i64 k.2.2], [], true, [], []⟩ := by
  unfold y14y at h
  split at h
  · simp only [Bool.and_eq_true, beq_iff_eq] at h
    obtain ⟨⟨h1, h2⟩, h3⟩ := h
    rw [h1, h2, h3]
  · cases h
theorem yb4 {n : Nat} {f : Nat → Bool} (h : ((List.range n).all f) = true) (i : Nat) (hi : i < n) : f i = true := by
  rw [List.all_eq_true] at h
  exact h i (List.mem_range.2 hi)
theorem y2pd : ((List.range 60).all fun i => y14y ((both E 30).1.p 50 [.int .i64 (95 + i)]) (numK (95 + i))) = true := by kernel_rfl
theorem yhf {c : Int} (h : c < 96 ∨ 148 < c) : numK c = (0, 0, 0) := by
  simp only [numK, List.mem_cons, List.not_mem_nil, or_false]
  repeat' split
  all_goals first | rfl | omega
theorem y2cy (c : Int) : (y8 E).p 50 [.int .i64 c] = some ⟨.tup [.int .i64 (numK c).1, .int .i64 (numK c).2.1, .int .i64 (numK c).2.2], [], true, [], []⟩ := by
  by_cases h : c < 96 ∨ 148 < c
  · rw [yhf h, y2sj]
    have h2 : ∀ k : Int, 96 ≤ k → k ≤ 148 → ¬ c = k := by omega
    simp [y2f4, y1em, y2d3, y2gi, y2di, y1yk, y2iw, ylv, y2bh, y7v, y1w9, y1q2, y1zv, h2]
    rfl
  · have := yb4 y2pd (c - 95).toNat (by omega)
    have e : (95 + ((c - 95).toNat : Int)) = c := by omega
    simp only [e] at this
    exact y1jg 30 (ysu this)
end Go.Vm
namespace Go.Vm
def yo (x : Ins) : Int × Int × Int × Int × Bool :=
  match x.op with
  | 1 => (0, -1, -1, -1, true)
  | 2 => (3, -1, -1, -1, true)
  | 3 => (3, -1, -1, -1, true)
  | 4 => (0, 0, -1, -1, true)
  | 5 => ((numK x.n).2.2, (numK x.n).1, (numK x.n).2.1, -1, decide (¬ (numK x.n).2.1 = 0))
  | 6 => ((numK x.n).2.2, (numK x.n).1, -1, -1, decide (¬ (numK x.n).1 = 0) && decide ((numK x.n).2.1 = 0))
  | 7 => (-1, 0, -1, -1, true)
  | 8 => (-1, 3, -1, -1, true)
  | 9 => (-1, 3, 1, -1, true)
  | 10 => (-1, 1, -1, -1, true)
  | 11 => (-1, 3, 3, -1, true)
  | 12 => (-1, 3, -1, -1, y7l x.s)
  | 13 => (0, 3, 1, -1, true)
  | 14 => (-1, 3, 1, 0, true)
  | 15 => (1, 3, -1, -1, true)
  | 16 => (0, 3, -1, -1, decide (0 ≤ x.n))
  | 17 => (-1, 3, 0, -1, decide (0 ≤ x.n))
  | 18 => (0, -1, -1, -1, true)
  | 19 => (-1, 0, -1, -1, true)
  | 20 => (3, -1, -1, -1, true)
  | 21 => (3, 1, -1, -1, y7l x.s)
  | 22 => (1, 3, -1, -1, y7l x.s)
  | 23 => (if x.d = -1 then -1 else 0, -1, -1, -1, decide (0 ≤ x.n) && decide ((lst x.args).length ≤ 21))
  | 24 => (if x.d = -1 then -1 else 0, -1, -1, -1, decide (0 < (lst x.args).length) && decide (0 ≤ x.n) && decide ((lst x.args).length ≤ 21))
  | 25 => (if x.d = -1 then -1 else 0, -1, -1, -1, decide (0 < (lst x.args).length) && decide ((lst x.args).length ≤ 21))
  | 26 => (if x.d = -1 then -1 else 0, -1, -1, -1, decide (0 ≤ x.n) && decide ((lst x.args).length ≤ 21))
  | 27 => (-1, -1, -1, -1, true)
  | 28 => (-1, 1, 1, -1, decide (0 ≤ x.n) && decide (x.n ≤ 5))
  | 29 => (-1, 3, if x.b = -1 then -1 else 3, -1, decide (x.n = 0) || decide (x.n = 1))
  | 30 => (-1, if x.a = -1 then -1 else 0, -1, -1, true)
  | 31 => (-1, 3, -1, -1, true)
  | 32 => (3, -1, -1, -1, true)
  | 33 => (-1, -1, -1, -1, true)
  | _ => (0, 0, 0, 0, false)
def exK (k : Int × Int × Int × Int × Bool) : Ex AV := ⟨.tup [.agg [.int .i64 k.1, .int .i64 k.2.1, .int .i64 k.2.2.1, .int .i64 k.2.2.2.1], .bool k.2.2.2.2], [], true, [], []⟩
theorem yno {x : Ins} (h : x.op < 1 ∨ 33 < x.op) : yo x = (0, 0, 0, 0, false) := by
  unfold yo
  split <;> first | rfl | omega
end Go.Vm
namespace Go.Vm
def regK (R : List Int) (r : Int) : Int := if r < 0 then 0 else R.getD r.toNat 0
def inR (R : List Int) (r : Int) : Bool := decide (0 ≤ r) && decide (r < R.length)
def y23 (R : List Int) (w r : Int) : Bool := decide (w < 0) || (inR R r && (decide (w ≤ 0) || decide (regK R r = w)))
def yiq (R : List Int) (x : Ins) : Bool :=
  match lst x.args with
  | [] => true
  | r :: _ => !(decide (x.op = 24) || decide (x.op = 25)) || decide (regK R r = 3)
def y7y (R : List Int) (x : Ins) : Bool := !calls x.op || (yiq R x && (lst x.args).all (inR R))
def y3i (R : List Int) (ret : Int) (n : Nat) (x : Ins) : Bool :=
  if x.op = 1 then decide (¬ regK R x.d = 3) && (decide (regK R x.d = 2) || decide (x.n = IntKind.wrap .i64 (IntKind.wrap .i32 x.n)))
  else if x.op = 4 then decide (regK R x.d = regK R x.a)
  else if x.op = 7 then decide (¬ regK R x.a = 3)
  else if x.op = 30 then (decide (x.a = -1) == decide (ret = 0)) && (decide (x.a = -1) || decide (regK R x.a = ret))
  else !leads x.op || (decide (0 ≤ x.t) && decide (x.t < n))
def y2b (f : Fn) (x : Ins) : Bool :=
  (yo x).2.2.2.2 && y23 (lst f.regs) (yo x).1 x.d && y23 (lst f.regs) (yo x).2.1 x.a && y23 (lst f.regs) (yo x).2.2.1 x.b && y23 (lst f.regs) (yo x).2.2.2.1 x.c &&
    y7y (lst f.regs) x && y3i (lst f.regs) f.ret (lst f.code).length x
theorem yzt {R : List Int} {r : Int} (h : inR R r = true) : 0 ≤ r ∧ r.toNat < R.length ∧ R[r.toNat]? = some (regK R r) := by
  simp only [inR, Bool.and_eq_true, decide_eq_true_eq] at h
  have h1 : r.toNat < R.length := by omega
  refine ⟨h.1, h1, ?_⟩
  rw [regK, if_neg (by omega), List.getD_eq_getElem?_getD, List.getElem?_eq_getElem h1]; rfl
def y58 (n : Nat) (t : Int) : Bool := decide (0 ≤ t) && decide (t < n)
def y45 (C : List Ins) (i : Nat) (x : Ins) : Bool :=
  !((decide (x.op = 32) && (decide (i = 0) || !ends ((C.getD (i - 1) default).op))) || (leads x.op && decide ((C.getD x.t.toNat default).op = 32)))
def y4q (f : Fn) (C : List Ins) : Nat → List Ins → Bool
  | _, [] => true
  | i, x :: r => y2b f x && y45 C i x && y4q f C (i + 1) r
def y4k (C : List Ins) (r : Row) : Bool :=
  !(decide (r.f < 0) || decide (r.t ≤ r.f) || decide ((C.length : Int) < r.t) || decide (r.at_ < 0) || decide ((C.length : Int) ≤ r.at_) || decide (¬ (C.getD r.at_.toNat default).op = 32))
def ydb (R : List Int) : Nat → List Int → List Int → Bool
  | _, _, [] => true
  | i, seen, p :: r => (inR R p && !seen.contains p && decide (i ≤ 20)) && ydb R (i + 1) (seen ++ [p]) r
def wf (f : Fn) : Bool :=
  decide (1 ≤ (lst f.code).length) && decide ((lst f.code).length ≤ 20000) && decide ((lst f.regs).length ≤ 20000) && decide (0 ≤ f.ret) && decide (f.ret ≤ 3) && ends ((lst f.code).getD ((lst f.code).length - 1) default).op &&
    (lst f.regs).all (fun k => decide (1 ≤ k) && decide (k ≤ 3)) && ydb (lst f.regs) 0 [] (lst f.params) && y4q f (lst f.code) 0 (lst f.code) && (lst f.rows).all (y4k (lst f.code))
end Go.Vm
namespace Go.Vm
open Cel
def nz {α : Type} : List α → Option (List α)
  | [] => none
  | x :: L => some (x :: L)
@[simp] theorem y9b {α : Type} (L : List α) : lst (nz L) = L := by cases L <;> rfl
section
variable {α : Type} [Cel α]
def y2h (α : Type) [Cel α] (j g : Nat) : List α → AV
  | [] => .nils
  | _ :: L => .ls j g (es α) 0 (L.length + 1)
def y2d (g : Nat) (o : AO) : List α → AO
  | [] => o
  | x :: L => ⟨g, .arr false false (es α) ((x :: L).map enc)⟩
@[simp] theorem ye1 (j g : Nat) : y2h α j g [] = .nils := rfl
@[simp] theorem ye4 (g : Nat) (o : AO) : y2d g o ([] : List α) = o := rfl
@[simp] theorem y2km (j g : Nat) (L : List α) (H : Heap) : yv 1 (y2h α j g L) H = some (.int .i64 L.length) := by
  cases L <;> simp [y2h, yv]
@[simp] theorem y2a8 (j g : Nat) (L : List α) : cellsOf (y2h α j g L) = [y2h α j g L] := by cases L <;> rfl
@[simp] theorem y2kh (j g : Nat) (L : List α) : y16 (y2h α j g L) = true := by cases L <;> rfl
theorem ysq {H : Heap} {j g : Nat} {o : AO} {x : α} {L : List α} (h : H[j]? = some (y2d g o (x :: L))) : yt H j g = some (false, es α, (x :: L).map enc) := by
  simp [yt, y43, h, y2d]
theorem y2fa {H : Heap} {j g : Nat} {o : AO} {L : List α} (h : H[j]? = some (y2d g o L)) : fz H y18 (y2h α j g L) = some ⟨slA (nz L), L.all scal, ids1 (y2h α j g L)⟩ := by
  cases L with
  | nil => rfl
  | cons x L =>
    rw [y2h, y1xw, ysq h]
    simp only [List.drop_zero, Nat.zero_add, List.length_map, List.length_cons, Nat.le_refl, and_self, if_true]
    rw [show ((x :: L).map (enc (α := α))).take (L.length + 1) = (x :: L).map enc from y7k (x :: L), y1k0]
    simp [slA, nz, ids1]
theorem y1fy {H : Heap} {j g : Nat} {o : AO} {L : List α} (h : H[j]? = some (y2d g o L)) : yd H (y2h α j g L) = some ⟨match L with | [] => .nils | _ :: _ => .ls 0 0 (es α) 0 L.length, match L with | [] => [] | _ :: _ => [.arr false false (es α) (L.map enc)], L.all scal, [], []⟩ := by
  cases L with
  | nil => rfl
  | cons x L =>
    rw [y2h, yjr, ysq h]
    simp only [List.drop_zero, Nat.zero_add, List.length_map, List.length_cons, Nat.le_refl, and_self, if_true]
    rw [show ((x :: L).map (enc (α := α))).take (L.length + 1) = (x :: L).map enc from y7k (x :: L), y1xa]
    simp
theorem y51 {H : Heap} {j g : Nat} {o : AO} {L : List α} (h : H[j]? = some (y2d g o L)) : yd H (y2h α j g L) = some (exO (nz L)) := by
  rw [y1fy h]
  cases L <;> rfl
theorem y16a {H : Heap} {fb j g b : Nat} {o : AO} {y : AV} {L M : List α} (hy : y3r H (es α) y = some (M.map enc)) (h : H[fb + j]? = some (y2d g o L)) (hs : (2 * (L.length + M.length) + 512) * b ≤ 2 ^ 48) :
    ∃ g', y3a fb (some j) (es α) b (y2h α (fb + j) g L) y H = some (y2h α (fb + j) g' (L ++ M), H.set (fb + j) (y2d g' o (L ++ M))) := by
  unfold y3a
  rw [hy]
  have hlt : fb + j < H.length := (List.getElem?_eq_some_iff.1 h).1
  cases L with
  | nil =>
    cases M with
    | nil =>
      refine ⟨g, ?_⟩
      simp only [y2h, List.map_nil, List.isEmpty_nil, if_true, List.append_nil, y2d]
      rw [y2d] at h
      rw [show H.set (fb + j) o = H from by
        refine List.ext_getElem? fun i => ?_
        rw [List.getElem?_set]
        split
        · rename_i e; subst e; simp [h]
        · rfl]
    | cons y M =>
      refine ⟨o.gen + 1, ?_⟩
      rw [y2d] at h
      have hm : (M.length + 1) * b ≤ 281474976710656 := Nat.le_trans (Nat.mul_le_mul_right b (by simp only [List.length_nil, List.length_cons]; omega)) hs
      simp [y2h, hm, y4f, place, h, y2d]
  | cons x L =>
    refine ⟨g + 1, ?_⟩
    have h' : H[fb + j]? = some ⟨g, .arr false false (es α) ((x :: L).map enc)⟩ := h
    simp only [y2h, h']
    rw [if_pos (by simp; simpa using hs)]
    simp only [List.drop_zero]
    rw [show ((x :: L).map (enc (α := α))).take (L.length + 1) = (x :: L).map enc from y7k (x :: L)]
    simp [y2h, y2d, Nat.add_right_comm]
end
@[simp] theorem y2os (h : Heap) (es id g es1 off len : Nat) : y3r h es (.ls id g es1 off len) = match yt h id g with
    | some (_, es', rows) => if es1 = es ∧ es' = es ∧ off + len ≤ rows.length then some ((rows.drop off).take len) else none
    | none => none := rfl
theorem y16w {H : Heap} {j g : Nat} {o : AO} {L : List Int} (h : H[j]? = some (y2d g o L)) : fz H y18 (y2h Int j g L) = some ⟨slA (nz L), true, ids1 (y2h Int j g L)⟩ := by
  rw [y2fa h]
  simp
theorem yz8 {H : Heap} {fb j g : Nat} {o : AO} {y : AV} {L : List Int} {n : Int} (hy : y3r H 1 y = some [[.int .i64 n]]) (h : H[fb + j]? = some (y2d g o L)) (hs : L.length ≤ 17000000000000) :
    ∃ g', y3a fb (some j) 1 8 (y2h Int (fb + j) g L) y H = some (y2h Int (fb + j) g' (L ++ [n]), H.set (fb + j) (y2d g' o (L ++ [n]))) := by
  refine y16a (α := Int) (M := [n]) hy h ?_
  have : (2 * (L.length + [n].length) + 512) * 8 ≤ (2 * (17000000000000 + 1) + 512) * 8 := Nat.mul_le_mul_right 8 (by simp only [List.length_singleton]; omega)
  exact Nat.le_trans this (by decide)
theorem yuc {i : Int} {n : Nat} (h0 : 0 ≤ i) (h : i < n) (hn : n ≤ 9223372036854775807) : IntKind.wrap .i64 (i + 1) = i + 1 := by
  rw [y2r] <;> omega
@[simp] theorem y2vq {α : Type} [Cel α] (x : α) (L : List α) : exO (nz (x :: L)) = ⟨.ls 0 0 (es α) 0 (L.length + 1), [.arr false false (es α) ((x :: L).map enc)], (x :: L).all scal, [], []⟩ := rfl
theorem y5z {H : Heap} {id g : Nat} {a : Int} (h : yt H id g = some (false, 1, [[.int .i64 a]])) : yd H (.ls id g 1 0 1) = some (exO (nz [a])) := y66 (α := Int) (L := [a]) h
theorem yo6 {H : Heap} {id g : Nat} {a b : Int} (h : yt H id g = some (false, 1, [[.int .i64 a], [.int .i64 b]])) : yd H (.ls id g 1 0 2) = some (exO (nz [a, b])) := y66 (α := Int) (L := [a, b]) h
abbrev D0 : AO := ⟨0, .dead⟩
section
variable {α : Type} [Cel α]
theorem y1ow {H : Heap} {fb id g b : Nat} {sl : Option Nat} {y : AV} {L M T : List α} (hy : y3r H (es α) y = some (M.map enc)) (h : H[id]? = some ⟨g, .arr false false (es α) ((L ++ T).map enc)⟩) (hs : (2 * (L.length + M.length) + 512) * b ≤ 2 ^ 48) :
    y3a fb sl (es α) b (.ls id g (es α) 0 L.length) y H = some (.ls id (g + 1) (es α) 0 (L ++ M).length, H.set id ⟨g + 1, .arr false false (es α) ((L ++ M).map enc)⟩) := by
  unfold y3a
  rw [hy]
  simp only [h]
  rw [if_pos (by simp; simpa using hs)]
  simp only [List.drop_zero, List.map_append, List.length_append]
  rw [List.take_append_of_le_length (by simp), y7k, List.length_map]
theorem y1kg {E : Env} {C : Calls2} {fb j f : Nat} {args : List AV} {H : Heap} {fa : Fz (List AV)} {N : List α} {o : AO} (hE : E.pure f = true) (ha : ym (fz H y18) args = some fa) (hc : C.p f fa.v = some (exO (nz N)))
    (hf : N.all scal = true ∨ fa.ids = []) (ho : H[fb + j]? = some o) :
    y7 E C fb (some j) false f args H = some (y2h α (fb + j) (o.gen + 1) N, H.set (fb + j) (y2d (o.gen + 1) o N)) := by
  have hlt : fb + j < H.length := (List.getElem?_eq_some_iff.1 ho).1
  simp only [y7, hE, Bool.false_and, Bool.not_false, Bool.and_self, if_true, y25, ha, hc]
  have hfr : ((exO (nz N)).fresh || fa.ids.isEmpty) = true := by
    rw [ywu, y9b]
    rcases hf with hf | hf
    · rw [hf]; rfl
    · rw [hf]; simp
  rw [if_pos hfr]
  cases N with
  | nil =>
    simp only [nz, exO, y2n, Bool.false_eq_true, if_false, y2h, y2d]
    rw [show H.set (fb + j) o = H from by
        refine List.ext_getElem? fun i => ?_
        rw [List.getElem?_set]
        split
        · rename_i e; subst e; simp [ho]
        · rfl]
    rfl
  | cons x N =>
    simp only [nz, Bool.false_eq_true, if_false, y16q, ho, y169, y2h, y2d, List.length_cons]
end
theorem y2mp (id g : Nat) (L : Nat) : yn 1 (.ls id g 1 0 (L + 1)) (.int .i64 (L : Int)) = some (.lp id g L 0) := by
  have : (L : Int) < (L : Int) + 1 := by omega
  simp [yn, this]
theorem y2fs (id g : Nat) (L : Nat) : yc8 1 (.ls id g 1 0 (L + 1)) none (some (.int .i64 (L : Int))) = some (.ls id g 1 0 L) := by
  have : (L : Int) ≤ (L : Int) + 1 := by omega
  simp [yc8, yyq, y9q, yit, this]
@[simp] theorem y2un {α : Type} [Cel α] : exO (nz ([] : List α)) = ⟨.nils, [], true, [], []⟩ := rfl
theorem yqp {α : Type} [Cel α] {H : Heap} {id g i : Nat} {L : List α} {v : AV} {y : α} (h : H[id]? = some ⟨g, .arr false false (es α) (L.map enc)⟩) (hi : i < L.length) (hv : cellsOf v = enc y) :
    evSt (es α) (.lp id g i 0) v H = some (.tup [], H.set id ⟨g, .arr false false (es α) ((L.set i y).map enc)⟩) := by
  have hr : yt H id g = some (false, es α, L.map enc) := by simp [yt, y43, h]
  have hg : (L.map (enc (α := α)))[i]? = some (enc L[i]) := by simp [hi]
  rw [y7j, hr]
  simp only [hg, hv]
  rw [if_pos ⟨len y, by rw [len]; omega, leaf y⟩]
  rw [yg8 (by rw [len, len]), y24, h]
  simp only
  rw [List.map_set]
theorem yta {a b : Nat} (h : a + b ≤ 137438953472) : (2 * (a + b) + 512) * 8 ≤ 2 ^ 48 := by
  have : (2 * (a + b) + 512) * 8 ≤ (2 * 137438953472 + 512) * 8 := Nat.mul_le_mul_right 8 (by omega)
  exact Nat.le_trans this (by decide)
theorem y2sk {α : Type} [Cel α] {H : Heap} {id g i : Nat} {L : List α} {x : α} {v : AV} (h : H[id]? = some ⟨g, .arr false false (es α) (L.map enc)⟩) (hx : L[i]? = some x) (hv : (enc x).head? = some v) : evLd false 1 (.lp id g i 0) H = some v := by
  have hr : yt H id g = some (false, es α, L.map enc) := by simp [yt, y43, h]
  have hg : (L.map (enc (α := α)))[i]? = some (enc x) := by simp [hx]
  rw [y40, hr]
  simp only [hg, y75, List.drop_zero, hv]
abbrev AB (f : Fn) : AO := ⟨1, .arr true false 5 [enc f]⟩
abbrev AI (g : Nat) (L : List Int) : AO := ⟨g, .arr false false 1 (L.map enc)⟩
abbrev AX (g : Nat) (x : Ins) : AO := ⟨g, .arr true false 9 [enc x]⟩
theorem y1np {n : Nat} {p : Int} (h0 : 0 ≤ p) (h1 : p < (n : Int)) (id g : Nat) (k : IntKind) : yn 1 (.ls id g 1 0 n) (.int k p) = some (.lp id g p.toNat 0) := by simp [yn, h0, h1]
end Go.Vm
namespace Go.Vm
section
variable (n : Nat) (S : Nat → List Int) (A : List Int)
inductive Rch : Nat → Prop
  | base {j : Int} : j ∈ A → 0 ≤ j → j < n → Rch j.toNat
  | step {i : Nat} {j : Int} : Rch i → j ∈ S i → 0 ≤ j → j < n → Rch j.toNat
def unseen (seen : List Bool) : Nat := seen.countP (! ·)
end
section
variable {n : Nat} {S : Nat → List Int} {A : List Int}
theorem Rch.lt {i : Nat} (h : Rch n S A i) : i < n := by cases h <;> omega
theorem y1f8 {seen : List Bool} {i : Nat} (h : i < seen.length) (hs : seen[i] = false) : unseen (seen.set i true) + 1 = unseen seen := by
  unfold unseen
  induction seen generalizing i with
  | nil => simp at h
  | cons b l ih =>
    cases i with
    | zero => simp at hs; simp [hs]
    | succ i =>
      simp only [List.set_cons_succ, List.countP_cons]
      have := ih (i := i) (by simpa using h) (by simpa using hs)
      omega
theorem yen {op : List Int} {i : Int} (h : op.getLast? = some i) : op = op.dropLast ++ [i] := by
  have hne : op ≠ [] := by intro e; rw [e] at h; cases h
  have := List.dropLast_concat_getLast hne
  rw [List.getLast?_eq_some_getLast hne] at h
  injection h with h
  rw [h] at this
  exact this.symm
theorem ygx {op : List Int} {j : Int} (h : j ∈ op.dropLast) : j ∈ op := (List.dropLast_sublist op).mem h
structure DfsI (n : Nat) (S : Nat → List Int) (A : List Int) (seen : List Bool) (op : List Int) : Prop where
  len : seen.length = n
  ok : ∀ i : Nat, seen[i]? = some true → Rch n S A i
  opn : ∀ j : Int, j ∈ op → 0 ≤ j → j < n → Rch n S A j.toNat
  cl : ∀ (i : Nat) (j : Int), seen[i]? = some true → j ∈ S i → 0 ≤ j → j < n → seen[j.toNat]? = some true ∨ j ∈ op
  st : ∀ j : Int, j ∈ A → 0 ≤ j → j < n → seen[j.toNat]? = some true ∨ j ∈ op
theorem DfsI.start : DfsI n S A (List.replicate n false) A where
  len := by simp
  ok i h := by rw [List.getElem?_replicate] at h; split at h <;> cases h
  opn j h h0 h1 := .base h h0 h1
  cl i j h := by rw [List.getElem?_replicate] at h; split at h <;> cases h
  st j h _ _ := .inr h
theorem DfsI.skip {seen : List Bool} {op : List Int} (I : DfsI n S A seen op) {i : Int} (hop : op.getLast? = some i) (hc : i < 0 ∨ (n : Int) ≤ i ∨ seen.getD i.toNat true = true) : DfsI n S A seen op.dropLast := by
  have e := yen hop
  have key : ∀ j : Int, 0 ≤ j → j < n → (seen[j.toNat]? = some true ∨ j ∈ op) → seen[j.toNat]? = some true ∨ j ∈ op.dropLast := by
    intro j h0 h1 h
    rcases h with h | h
    · exact .inl h
    · rw [e, List.mem_append, List.mem_singleton] at h
      rcases h with h | rfl
      · exact .inr h
      · rcases hc with hc | hc | hc
        · omega
        · omega
        · left
          have : j.toNat < seen.length := by rw [I.len]; omega
          rw [List.getD_eq_getElem?_getD, List.getElem?_eq_getElem this] at hc
          rw [List.getElem?_eq_getElem this]
          simpa using hc
  exact ⟨I.len, I.ok, fun j hj => I.opn j (ygx hj), fun i j h1 h2 h3 h4 => key j h3 h4 (I.cl i j h1 h2 h3 h4), fun j h1 h3 h4 => key j h3 h4 (I.st j h1 h3 h4)⟩
theorem DfsI.take {seen : List Bool} {op : List Int} (I : DfsI n S A seen op) {i : Int} (hop : op.getLast? = some i) (h0 : 0 ≤ i) (h1 : i < n) : DfsI n S A (seen.set i.toNat true) (op.dropLast ++ S i.toNat) := by
  have e := yen hop
  have hi : Rch n S A i.toNat := I.opn i (by rw [e]; simp) h0 h1
  have hlt : i.toNat < seen.length := by rw [I.len]; omega
  have hset : ∀ j : Nat, (seen.set i.toNat true)[j]? = some true ↔ seen[j]? = some true ∨ j = i.toNat := by
    intro j
    rw [List.getElem?_set]
    by_cases hj : i.toNat = j
    · subst hj; simp [hlt]
    · rw [if_neg hj]
      exact ⟨.inl, fun h => h.resolve_right (fun e => hj e.symm)⟩
  have key : ∀ j : Int, 0 ≤ j → j < n → (seen[j.toNat]? = some true ∨ j ∈ op) → (seen.set i.toNat true)[j.toNat]? = some true ∨ j ∈ op.dropLast ++ S i.toNat := by
    intro j h2 h3 h
    rw [hset]
    rcases h with h | h
    · exact .inl (.inl h)
    · rw [e, List.mem_append, List.mem_singleton] at h
      rcases h with h | rfl
      · exact .inr (List.mem_append_left _ h)
      · exact .inl (.inr rfl)
  refine ⟨by simpa using I.len, fun j hj => ?_, fun j hj h2 h3 => ?_, fun k j hk hj h2 h3 => ?_, fun j hj h2 h3 => key j h2 h3 (I.st j hj h2 h3)⟩
  · rcases (hset j).1 hj with h | rfl
    · exact I.ok j h
    · exact hi
  · rcases List.mem_append.1 hj with h | h
    · exact I.opn j (ygx h) h2 h3
    · exact .step hi h h2 h3
  · rcases (hset k).1 hk with h | rfl
    · exact key j h2 h3 (I.cl k j h hj h2 h3)
    · exact .inr (List.mem_append_right _ hj)
theorem DfsI.done {seen : List Bool} (I : DfsI n S A seen []) (i : Nat) : seen[i]? = some true ↔ Rch n S A i := by
  refine ⟨I.ok i, fun h => ?_⟩
  induction h with
  | base h h0 h1 => exact (I.st _ h h0 h1).resolve_right (by simp)
  | step _ hj h0 h1 ih => exact (I.cl _ _ ih hj h0 h1).resolve_right (by simp)
def rIn : List Int → List Bool × Bool → List Bool × Bool
  | [], s => s
  | j :: l, s => rIn l (if 0 ≤ j ∧ j < s.1.length ∧ s.1.getD j.toNat true = false then (s.1.set j.toNat true, true) else s)
def y67 (S : Nat → List Int) : Nat → Nat → List Bool × Bool → List Bool × Bool
  | 0, _, s => s
  | d + 1, i, s => y67 S d (i + 1) (if s.1.getD i false = true then rIn (S i) s else s)
def rAll (n : Nat) (S : Nat → List Int) : Nat → List Bool → Option (List Bool)
  | 0, _ => none
  | k + 1, seen => match y67 S n 0 (seen, false) with
    | (s, more) => if more then rAll n S k s else some s
structure RI (n : Nat) (S : Nat → List Int) (A : List Int) (seen : List Bool) (s : List Bool × Bool) : Prop where
  len : s.1.length = n
  ok : ∀ i : Nat, s.1[i]? = some true → Rch n S A i
  up : ∀ i : Nat, seen[i]? = some true → s.1[i]? = some true
  un : unseen s.1 ≤ unseen seen
  lt : s.2 = true → unseen s.1 < unseen seen
  eq : s.2 = false → s.1 = seen
theorem yq4 {seen : List Bool} : ∀ (l : List Int) (s : List Bool × Bool), RI n S A seen s → (∀ j, j ∈ l → 0 ≤ j → j < n → Rch n S A j.toNat) →
    RI n S A seen (rIn l s) ∧ (s.2 = true → (rIn l s).2 = true) ∧ ((rIn l s).2 = false → ∀ j, j ∈ l → 0 ≤ j → j < n → seen[j.toNat]? = some true)
  | [], s, I, _ => ⟨I, id, fun _ j h => by cases h⟩
  | j :: l, s, I, hR => by
    rw [rIn]
    split
    · rename_i hc
      obtain ⟨h0, h1, h2⟩ := hc
      have hlt : j.toNat < s.1.length := by omega
      have hs : s.1[j.toNat] = false := by
        rw [List.getD_eq_getElem?_getD, List.getElem?_eq_getElem hlt] at h2
        simpa using h2
      have hu := y1f8 hlt hs
      have I2 : RI n S A seen (s.1.set j.toNat true, true) := by
        refine ⟨by simpa using I.len, fun i hi => ?_, fun i hi => ?_, ?_, fun _ => ?_, fun h => by cases h⟩
        · simp only at hi
          rw [List.getElem?_set] at hi
          split at hi
          · rename_i e; subst e; exact hR j (by simp) h0 (by have := I.len; omega)
          · exact I.ok i hi
        · simp only
          rw [List.getElem?_set]
          split
          · rename_i e; subst e; simp [hlt]
          · exact I.up i hi
        · simp only; have := I.un; omega
        · simp only; have := I.un; omega
      obtain ⟨a1, a2, a3⟩ := yq4 l _ I2 (fun k hk => hR k (by simp [hk]))
      have a2 := a2 rfl
      exact ⟨a1, fun _ => a2, fun h => by rw [a2] at h; cases h⟩
    · rename_i hc
      obtain ⟨a1, a2, a3⟩ := yq4 l s I (fun k hk => hR k (by simp [hk]))
      refine ⟨a1, a2, fun h k hk h0 h1 => ?_⟩
      rcases List.mem_cons.1 hk with rfl | hk
      · have hf : s.2 = false := by
          cases hs : s.2 with
          | false => rfl
          | true => rw [a2 hs] at h; cases h
        have e := I.eq hf
        have hlt : k.toNat < s.1.length := by rw [I.len]; omega
        have hx : ¬ s.1.getD k.toNat true = false := fun hx => hc ⟨h0, by rw [I.len]; exact h1, hx⟩
        rw [List.getD_eq_getElem?_getD, List.getElem?_eq_getElem hlt] at hx
        rw [← e, List.getElem?_eq_getElem hlt]
        simpa using hx
      · exact a3 h k hk h0 h1
theorem yd3 {seen : List Bool} : ∀ (d i : Nat) (s : List Bool × Bool), RI n S A seen s →
    RI n S A seen (y67 S d i s) ∧ (s.2 = true → (y67 S d i s).2 = true) ∧ ((y67 S d i s).2 = false → ∀ k, i ≤ k → k < i + d → seen[k]? = some true → ∀ j, j ∈ S k → 0 ≤ j → j < n → seen[j.toNat]? = some true)
  | 0, i, s, I => ⟨I, id, fun _ k h1 h2 => by omega⟩
  | d + 1, i, s, I => by
    rw [y67]
    split
    · rename_i hc
      have hi : s.1[i]? = some true := by
        rw [List.getD_eq_getElem?_getD] at hc
        cases h : s.1[i]? with
        | none => rw [h] at hc; cases hc
        | some b => rw [h] at hc; simpa using hc
      obtain ⟨b1, b2, b3⟩ := yq4 (S i) s I (fun j hj h0 h1 => .step (I.ok i hi) hj h0 h1)
      obtain ⟨a1, a2, a3⟩ := yd3 d (i + 1) _ b1
      refine ⟨a1, fun h => a2 (b2 h), fun h k h1 h2 hk j hj h3 h4 => ?_⟩
      by_cases e : k = i
      · subst e
        refine b3 ?_ j hj h3 h4
        cases hb : (rIn (S k) s).2 with
        | false => rfl
        | true => rw [a2 hb] at h; cases h
      · exact a3 h k (by omega) (by omega) hk j hj h3 h4
    · rename_i hc
      obtain ⟨a1, a2, a3⟩ := yd3 d (i + 1) _ I
      refine ⟨a1, a2, fun h k h1 h2 hk j hj h3 h4 => ?_⟩
      by_cases e : k = i
      · subst e
        have hf : s.2 = false := by
          cases hs : s.2 with
          | false => rfl
          | true => rw [a2 hs] at h; cases h
        rw [← I.eq hf, ] at hk
        exact (hc (by rw [List.getD_eq_getElem?_getD, hk]; rfl)).elim
      · exact a3 h k (by omega) (by omega) hk j hj h3 h4
theorem yla : ∀ (k : Nat) (seen : List Bool), seen.length = n → (∀ i : Nat, seen[i]? = some true → Rch n S A i) → unseen seen < k → (∀ j : Int, j ∈ A → 0 ≤ j → j < n → seen[j.toNat]? = some true) →
    ∃ r, rAll n S k seen = some r ∧ r.length = n ∧ ∀ i : Nat, r[i]? = some true ↔ Rch n S A i
  | 0, _, _, _, h, _ => by omega
  | k + 1, seen, hl, hok, h, hA => by
    obtain ⟨I, _, h3⟩ := yd3 (n := n) (S := S) (A := A) (seen := seen) n 0 (seen, false) ⟨hl, hok, fun _ h => h, Nat.le_refl _, fun h => (by cases h), fun _ => rfl⟩
    rw [rAll]
    generalize y67 S n 0 (seen, false) = p at I h3
    obtain ⟨s, more⟩ := p
    simp only at I h3 ⊢
    cases more with
    | true =>
      have := I.lt rfl
      simp only at this
      exact yla k s I.len I.ok (by omega) (fun j h1 h2 h4 => I.up _ (hA j h1 h2 h4))
    | false =>
      have e : s = seen := I.eq rfl
      subst e
      refine ⟨s, rfl, hl, fun i => ⟨hok i, fun hr => ?_⟩⟩
      induction hr with
      | base h h0 h1 => exact hA _ h h0 h1
      | step hr hj h0 h1 ih => exact h3 rfl _ (Nat.zero_le _) (by have := hr.lt; omega) ih _ hj h0 h1
theorem y1k8 {a b : List Bool} (hl : a.length = b.length) (h : ∀ i : Nat, a[i]? = some true ↔ b[i]? = some true) : a = b := by
  refine List.ext_getElem hl fun i h1 h2 => ?_
  have := h i
  rw [List.getElem?_eq_getElem h1, List.getElem?_eq_getElem h2] at this
  simp only [Option.some.injEq] at this
  cases ha : a[i] <;> cases hb : b[i] <;> simp_all
end
end Go.Vm
namespace Go.Vm
def addN (l : List Int) (j : Int) : List Int := if l.contains j then l else l ++ [j]
def yj (f : Fn) (i : Nat) : Ins := (lst f.code).getD i default
def yq9 (x : Ins) (i : Int) : List Int := if leads x.op then addN (if ends x.op then [] else [i + 1]) x.t else if ends x.op then [] else [i + 1]
def y3d (f : Fn) (i : Int) : List Int := if i < 0 ∨ ((lst f.code).length : Int) ≤ i then [] else yq9 (yj f i.toNat) i
def y2p (i : Int) : List Row → List Int → List Int
  | [], l => l
  | r :: rs, l => if r.f ≤ i ∧ i < r.t then (if r.c = [] then addN l r.at_ else y2p i rs (addN l r.at_)) else y2p i rs l
def y11 (f : Fn) (i : Int) : List Int := if i < 0 ∨ ((lst f.code).length : Int) ≤ i then [] else if throws (yj f i.toNat).op then y2p i (lst f.rows) [] else []
def y69 (f : Fn) (i : Nat) : List Int := y3d f i ++ y11 f i
theorem y189 (l : List Int) (j : Int) : (addN l j).length ≤ l.length + 1 := by
  unfold addN
  split <;> simp
theorem y1nx (x : Ins) (i : Int) : (yq9 x i).length ≤ 2 := by
  unfold yq9
  split
  · have := y189 (if ends x.op then [] else [i + 1]) x.t
    split at this <;> simp_all <;> omega
  · split <;> simp
theorem yjx (f : Fn) (i : Int) : (y3d f i).length ≤ 2 := by
  unfold y3d
  split
  · simp
  · exact y1nx _ _
theorem ycz (i : Int) : ∀ (rs : List Row) (l : List Int), (y2p i rs l).length ≤ l.length + rs.length
  | [], l => by simp [y2p]
  | r :: rs, l => by
    have h1 := y189 l r.at_
    have h2 := ycz i rs (addN l r.at_)
    have h3 := ycz i rs l
    unfold y2p
    simp only [List.length_cons]
    split
    · split <;> omega
    · omega
theorem ydd (f : Fn) (i : Int) : (y11 f i).length ≤ (lst f.rows).length := by
  unfold y11
  split
  · simp
  · split
    · have := ycz i (lst f.rows) []
      simpa using this
    · simp
theorem y1kj (f : Fn) (i : Nat) : (y69 f i).length ≤ (lst f.rows).length + 2 := by
  have h1 := yjx f i
  have h2 := ydd f i
  unfold y69
  rw [List.length_append]
  omega
theorem y3o {f : Fn} {i : Nat} (h : i < (lst f.code).length) : (lst f.code)[i]? = some (yj f i) := by
  rw [yj, List.getD_eq_getElem?_getD, List.getElem?_eq_getElem h]; rfl
open Classical in
noncomputable def y3f (f : Fn) : List Bool := (List.range (lst f.code).length).map fun i => decide (Rch (lst f.code).length (y69 f) [0] i)
theorem yc0 (f : Fn) : (y3f f).length = (lst f.code).length := by simp [y3f]
theorem yp7 (f : Fn) (i : Nat) : (y3f f)[i]? = some true ↔ Rch (lst f.code).length (y69 f) [0] i := by
  unfold y3f
  by_cases h : i < (lst f.code).length
  · simp [h]
  · have : ¬ Rch (lst f.code).length (y69 f) [0] i := fun hr => h hr.lt
    simp [h, this]
theorem ysa {f : Fn} {r : List Bool} (hl : r.length = (lst f.code).length) (h : ∀ i : Nat, r[i]? = some true ↔ Rch (lst f.code).length (y69 f) [0] i) : r = y3f f :=
  y1k8 (by rw [hl, yc0]) fun i => (h i).trans (yp7 f i).symm
def y5u (f : Fn) (i : Nat) : Bool :=
  decide (i = 0) || (leads (yj f (i - 1)).op || ends (yj f (i - 1)).op) || (lst f.code).any (fun x => leads x.op && decide (x.t = i)) || (lst f.rows).any (fun r => decide (r.f = i) || decide (r.t = i) || decide (r.at_ = i))
theorem y212 {f : Fn} {i : Nat} (h : i = 0) : y5u f i = true := by subst h; simp [y5u]
def y2o (f : Fn) : Nat → List Int
  | 0 => []
  | k + 1 => y2o f k ++ (if y5u f k then [(k : Int)] else [])
def y21 (f : Fn) : List Int := y2o f (lst f.code).length
theorem yfo (f : Fn) : ∀ k, (y2o f k).length ≤ k
  | 0 => Nat.le_refl _
  | k + 1 => by
    have := yfo f k
    rw [y2o, List.length_append]
    split <;> simp <;> omega
end Go.Vm
