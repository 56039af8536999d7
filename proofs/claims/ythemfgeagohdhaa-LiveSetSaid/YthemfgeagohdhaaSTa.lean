/- Facts for reading the machine's functions: combinators at known values; lists of things of one kind as slices. The things that the layers speak of: instructions, rows, functions. What is handed in, as things. Sets of registers, 64 a word. What is told of instructions, in plain words. What is told of types' descriptors. Names, the type at a text's beginning, types. What the stack's instructions over numbers take and give. What an instruction wants of its registers, in plain words. When an instruction, a function is well formed, in plain words. Lists that a function builds by appending, at a place of its own. Places that can be reached: a search with a stack, a search in rounds, a search that stops where something is found. Plain Lean; nothing here speaks of a program. Which places follow a place, in plain words. What a well formed function is like. -/
import Derived.Test.YthemfgeagohdhaaVc
import Derived.Test.YthemfgeagohdhaaSX
set_option linter.unusedSimpArgs false
set_option linter.unusedVariables false
set_option linter.unusedSectionVars false
namespace Go.Vm
section comb
variable {α : Type}
@[simp] theorem ob_some (v : AV) (K : AV → Option α) : ob (some v) K = K v := rfl
@[simp] theorem oh_some (v : AV) (h : Heap) (K : AV → Heap → Option α) : oh (some (v, h)) K = K v h := rfl
@[simp] theorem ofp_some {β : Type} (v : β) (K : β → Option α) : ofp (some v) K = K v := rfl
@[simp] theorem gb_tt (x : Option AV) (K : AV → Option α) : gb (.bool true) true x K = ob x K := rfl
@[simp] theorem gb_ff (x : Option AV) (K : AV → Option α) : gb (.bool false) false x K = ob x K := rfl
@[simp] theorem gb_tf (x : Option AV) (K : AV → Option α) : gb (.bool true) false x K = K (.tup []) := rfl
@[simp] theorem gb_ft (x : Option AV) (K : AV → Option α) : gb (.bool false) true x K = K (.tup []) := rfl
@[simp] theorem gb_tup (w : Bool) (x : Option AV) (K : AV → Option α) : gb (.tup []) w x K = K (.tup []) := rfl
@[simp] theorem gh_tt (x : Option (AV × Heap)) (h : Heap) (K : AV → Heap → Option α) : gh (.bool true) true x h K = oh x K := rfl
@[simp] theorem gh_ff (x : Option (AV × Heap)) (h : Heap) (K : AV → Heap → Option α) : gh (.bool false) false x h K = oh x K := rfl
@[simp] theorem gh_tf (x : Option (AV × Heap)) (h : Heap) (K : AV → Heap → Option α) : gh (.bool true) false x h K = K (.tup []) h := rfl
@[simp] theorem gh_ft (x : Option (AV × Heap)) (h : Heap) (K : AV → Heap → Option α) : gh (.bool false) true x h K = K (.tup []) h := rfl
@[simp] theorem gh_tup (w : Bool) (x : Option (AV × Heap)) (h : Heap) (K : AV → Heap → Option α) : gh (.tup []) w x h K = K (.tup []) h := rfl
@[simp] theorem fgd_tt (x : Option (List Nat × List Nat)) : fgd (.bool true) true x = x := rfl
@[simp] theorem fgd_ff (x : Option (List Nat × List Nat)) : fgd (.bool false) false x = x := rfl
@[simp] theorem fgd_tf (x : Option (List Nat × List Nat)) : fgd (.bool true) false x = some ([], []) := rfl
@[simp] theorem fgd_ft (x : Option (List Nat × List Nat)) : fgd (.bool false) true x = some ([], []) := rfl
@[simp] theorem fgd_tup (w : Bool) (x : Option (List Nat × List Nat)) : fgd (.tup []) w x = some ([], []) := rfl
@[simp] theorem cnd_t (a b : Option α) : cnd (.bool true) a b = a := rfl
@[simp] theorem cnd_f (a b : Option α) : cnd (.bool false) a b = b := rfl
@[simp] theorem okK_t (x : Option α) : okK true x = x := rfl
@[simp] theorem evPick_t (a b : AV) : evPick (.bool true) a b = some a := rfl
@[simp] theorem evPick_f (a b : AV) : evPick (.bool false) a b = some b := rfl
@[simp] theorem evUn_not (b : Bool) : evUn .not (.bool b) = some (.bool (!b)) := rfl
@[simp] theorem evEqb_b (neq a b : Bool) : evEqb neq (.bool a) (.bool b) = some (.bool (if neq then !(a == b) else a == b)) := rfl
@[simp] theorem evExt_tup (i : Nat) (vs : List AV) : evExt i (.tup vs) = vs[i]? := rfl
@[simp] theorem evCvi_int (k k' : IntKind) (n : Int) : evCvi k (.int k' n) = some (.int k (k.wrap n)) := rfl
@[simp] theorem evNilchk_rp (cs : List AV) : evNilchk (.rp cs) = some (.rp cs) := rfl
@[simp] theorem evNilchk_lp (id g i off : Nat) : evNilchk (.lp id g i off) = some (.lp id g i off) := rfl
@[congr] theorem ob_cg {x x' : Option AV} (h : x = x') (K : AV → Option α) : ob x K = ob x' K := by rw [h]
@[congr] theorem oh_cg {x x' : Option (AV × Heap)} (h : x = x') (K : AV → Heap → Option α) : oh x K = oh x' K := by rw [h]
@[congr] theorem ofp_cg {β : Type} {x x' : Option β} (h : x = x') (K : β → Option α) : ofp x K = ofp x' K := by rw [h]
@[congr] theorem gb_cg {g g' : AV} (h : g = g') (w : Bool) (x : Option AV) (K : AV → Option α) : gb g w x K = gb g' w x K := by rw [h]
@[congr] theorem gh_cg {g g' : AV} (h : g = g') (w : Bool) (x : Option (AV × Heap)) (hp : Heap) (K : AV → Heap → Option α) : gh g w x hp K = gh g' w x hp K := by rw [h]
@[congr] theorem fgd_cg {g g' : AV} (h : g = g') (w : Bool) (x : Option (List Nat × List Nat)) : fgd g w x = fgd g' w x := by rw [h]
@[congr] theorem cnd_cg {c c' : AV} (h : c = c') (a b : Option α) : cnd c a b = cnd c' a b := by rw [h]
@[congr] theorem okK_cg {c c' : Bool} (h : c = c') (a : Option α) : okK c a = okK c' a := by rw [h]
end comb
section ints
variable (k : IntKind) (a b : Int)
@[simp] theorem evBin_add : evBin .add (.int k a) (.int k b) = some (.int k (k.wrap (a + b))) := by simp [evBin, isShift, binInt]
@[simp] theorem evBin_sub : evBin .sub (.int k a) (.int k b) = some (.int k (k.wrap (a - b))) := by simp [evBin, isShift, binInt]
@[simp] theorem evBin_mul : evBin .mul (.int k a) (.int k b) = some (.int k (k.wrap (a * b))) := by simp [evBin, isShift, binInt]
@[simp] theorem evBin_eql : evBin .eql (.int k a) (.int k b) = some (.bool (decide (a = b))) := by simp [evBin, isShift, binInt, Bool.beq_eq_decide_eq]
@[simp] theorem evBin_neq : evBin .neq (.int k a) (.int k b) = some (.bool (decide (a ≠ b))) := by simp [evBin, isShift, binInt, bne, Bool.beq_eq_decide_eq]
@[simp] theorem evBin_lss : evBin .lss (.int k a) (.int k b) = some (.bool (decide (a < b))) := by simp [evBin, isShift, binInt]
@[simp] theorem evBin_leq : evBin .leq (.int k a) (.int k b) = some (.bool (decide (a ≤ b))) := by simp [evBin, isShift, binInt]
@[simp] theorem evBin_gtr : evBin .gtr (.int k a) (.int k b) = some (.bool (decide (b < a))) := by simp [evBin, isShift, binInt]
@[simp] theorem evBin_geq : evBin .geq (.int k a) (.int k b) = some (.bool (decide (b ≤ a))) := by simp [evBin, isShift, binInt]
end ints
@[simp] theorem evBin_seql (a b : List UInt8) : evBin .eql (.str a) (.str b) = some (.bool (decide (a = b))) := by simp [evBin, binStr, Bool.beq_eq_decide_eq]
@[simp] theorem evBin_sneq (a b : List UInt8) : evBin .neq (.str a) (.str b) = some (.bool (decide (a ≠ b))) := by simp [evBin, binStr, Bool.beq_eq_decide_eq]
theorem wrap_i64 {n : Int} (h0 : -9223372036854775808 ≤ n) (h1 : n < 9223372036854775808) : IntKind.wrap .i64 n = n := by
  simp [IntKind.wrap, IntKind.bits, IntKind.signed]; omega
theorem wrap_succ {i n : Nat} (h : i < n) (hn : n ≤ 9223372036854775807) : IntKind.wrap .i64 ((i : Int) + 1) = ((i + 1 : Nat) : Int) := by
  rw [wrap_i64] <;> omega
theorem wrap_up {i n : Nat} (h : i < n) (hn : n ≤ 9223372036854775807) : IntKind.wrap .i64 ((i : Int) + 1) = (i : Int) + 1 := by rw [wrap_succ h hn]; rfl
@[simp] theorem evFa_rp (k : Nat) (cs : List AV) : evFa k (.rp cs) = some (.rp (cs.drop k)) := rfl
@[simp] theorem evFa_lp (k id g i o : Nat) : evFa k (.lp id g i o) = some (.lp id g i (o + k)) := rfl
@[simp] theorem evLd_rp (agg : Bool) (n : Nat) (cs : List AV) (h : Heap) : evLd agg n (.rp cs) h = aggOr agg n cs := rfl
@[simp] theorem aggOr_f (n : Nat) (cs : List AV) : aggOr false n cs = cs.head? := rfl
@[simp] theorem cellsOf_agg (cs : List AV) : cellsOf (.agg cs) = cs := rfl
@[simp] theorem cellsOf_int (k : IntKind) (n : Int) : cellsOf (.int k n) = [.int k n] := rfl
@[simp] theorem cellsOf_bool (b : Bool) : cellsOf (.bool b) = [.bool b] := rfl
@[simp] theorem cellsOf_str (s : List UInt8) : cellsOf (.str s) = [.str s] := rfl
@[simp] theorem cellsOf_nils : cellsOf .nils = [.nils] := rfl
@[simp] theorem cellsOf_rs (es : Nat) (rows : List (List AV)) : cellsOf (.rs es rows) = [.rs es rows] := rfl
@[simp] theorem cellsOf_ls (id g es off len : Nat) : cellsOf (.ls id g es off len) = [.ls id g es off len] := rfl
class Cel (α : Type) where
  es : Nat
  enc : α → List AV
  len : ∀ x, (enc x).length = es
  pur : ∀ x, (enc x).all pure1 = true
  leaf : ∀ x, (enc x).all leaf1 = true
open Cel
instance : Cel Int := ⟨1, fun n => [.int .i64 n], fun _ => rfl, fun _ => rfl, fun _ => rfl⟩
instance : Cel Bool := ⟨1, fun b => [.bool b], fun _ => rfl, fun _ => rfl, fun _ => rfl⟩
structure Tx where
  s : List UInt8
  deriving DecidableEq, Inhabited
instance : Cel Tx := ⟨1, fun b => [.str b.s], fun _ => rfl, fun _ => rfl, fun _ => rfl⟩
@[simp] theorem enc_int (n : Int) : enc n = [.int .i64 n] := rfl
@[simp] theorem enc_bool (b : Bool) : enc b = [.bool b] := rfl
@[simp] theorem enc_tx (b : Tx) : enc b = [.str b.s] := rfl
@[simp] theorem es_int : es Int = 1 := rfl
@[simp] theorem es_bool : es Bool = 1 := rfl
@[simp] theorem es_tx : es Tx = 1 := rfl
variable {α : Type} [Cel α]
def scal (x : α) : Bool := (enc x).all scalar1
@[simp] theorem scal_int (n : Int) : scal n = true := rfl
@[simp] theorem scal_bool (b : Bool) : scal b = true := rfl
@[simp] theorem scal_tx (b : Tx) : scal b = true := rfl
def lst (o : Option (List α)) : List α := o.getD []
omit [Cel α] in
@[simp] theorem lst_none : lst (none : Option (List α)) = [] := rfl
omit [Cel α] in
@[simp] theorem lst_some (L : List α) : lst (some L) = L := rfl
def slA : Option (List α) → AV
  | none => .nils
  | some L => .rs (es α) (L.map enc)
instance : Cel (Option (List α)) := ⟨1, fun o => [slA o], fun _ => rfl, fun o => by cases o <;> rfl, fun o => by cases o <;> rfl⟩
@[simp] theorem enc_sl (o : Option (List α)) : enc o = [slA o] := rfl
@[simp] theorem es_sl : es (Option (List α)) = 1 := rfl
@[simp] theorem pure1_int (k : IntKind) (n : Int) : pure1 (.int k n) = true := rfl
@[simp] theorem pure1_bool (b : Bool) : pure1 (.bool b) = true := rfl
@[simp] theorem pure1_str (b : List UInt8) : pure1 (.str b) = true := rfl
@[simp] theorem pure1_nils : pure1 .nils = true := rfl
@[simp] theorem leaf1_int (k : IntKind) (n : Int) : leaf1 (.int k n) = true := rfl
@[simp] theorem leaf1_bool (b : Bool) : leaf1 (.bool b) = true := rfl
@[simp] theorem leaf1_str (b : List UInt8) : leaf1 (.str b) = true := rfl
@[simp] theorem leaf1_nils : leaf1 .nils = true := rfl
@[simp] theorem leaf1_rs (es : Nat) (r : List (List AV)) : leaf1 (.rs es r) = true := rfl
@[simp] theorem leaf1_ls (id g es off len : Nat) : leaf1 (.ls id g es off len) = true := rfl
@[simp] theorem leaf1_lp (id g i o : Nat) : leaf1 (.lp id g i o) = true := rfl
@[simp] theorem scalar1_int (k : IntKind) (n : Int) : scalar1 (.int k n) = true := rfl
@[simp] theorem scalar1_bool (b : Bool) : scalar1 (.bool b) = true := rfl
@[simp] theorem scalar1_str (b : List UInt8) : scalar1 (.str b) = true := rfl
@[simp] theorem scalar1_nils : scalar1 .nils = true := rfl
@[simp] theorem cellsOf_sl (o : Option (List α)) : cellsOf (slA o) = [slA o] := by cases o <;> rfl
@[simp] theorem leaf1_sl (o : Option (List α)) : leaf1 (slA o) = true := by cases o <;> rfl
@[simp] theorem pure1_sl (o : Option (List α)) : pure1 (slA o) = true := by cases o <;> rfl
@[simp] theorem scalar1_sl (o : Option (List α)) : scalar1 (slA o) = (lst o).isEmpty := by
  cases o with
  | none => rfl
  | some L => cases L <;> rfl
@[simp] theorem evLen_sl (o : Option (List α)) (h : Heap) : evLen 1 (slA o) h = some (.int .i64 (lst o).length) := by cases o <;> simp [slA, evLen]
@[simp] theorem evLen_str (s : List UInt8) (h : Heap) : evLen 0 (.str s) h = some (.int .i64 s.length) := rfl
@[simp] theorem evLen_ls (id g es off len : Nat) (h : Heap) : evLen 1 (.ls id g es off len) h = some (.int .i64 len) := rfl
@[simp] theorem evLen_nils (h : Heap) : evLen 1 .nils h = some (.int .i64 0) := rfl
@[simp] theorem ids1_lp (id g i o : Nat) : ids1 (.lp id g i o) = [id] := rfl
@[simp] theorem ids1_ls (id g es o l : Nat) : ids1 (.ls id g es o l) = [id] := rfl
@[simp] theorem ids1_rp (cs : List AV) : ids1 (.rp cs) = [] := rfl
@[simp] theorem ids1_int (k : IntKind) (n : Int) : ids1 (.int k n) = [] := rfl
@[simp] theorem ids1_str (s : List UInt8) : ids1 (.str s) = [] := rfl
@[simp] theorem ids1_sl (o : Option (List α)) : ids1 (slA o) = [] := by cases o <;> rfl
@[simp] theorem evEqnB_sl_nil (neq : Bool) (o : Option (List α)) : evEqnB 1 neq (slA o) .nils = some (.bool (if neq then o.isSome else o.isNone)) := by
  cases o <;> cases neq <;> rfl
theorem evIxs_sl {o : Option (List α)} {x : α} {i : Nat} (hx : (lst o)[i]? = some x) (k : IntKind) : evIxs (es α) (slA o) (.int k i) = some (.rp (enc x)) := by
  cases o with
  | none => simp at hx
  | some L =>
    simp only [lst_some] at hx
    simp [slA, evIxs, hx]
theorem evIxs_slI {o : Option (List α)} {x : α} {n : Int} (h0 : 0 ≤ n) (hx : (lst o)[n.toNat]? = some x) (k : IntKind) : evIxs (es α) (slA o) (.int k n) = some (.rp (enc x)) := by
  obtain ⟨i, rfl⟩ := Int.eq_ofNat_of_zero_le h0
  exact evIxs_sl (by simpa using hx) k
@[simp] theorem rowsOf_sl (o : Option (List α)) (h : Heap) : rowsOf h (es α) (slA o) = some ((lst o).map enc) := by
  cases o <;> simp [slA, rowsOf]
@[simp] theorem fz_sl (o : Option (List α)) (h : Heap) : fz h fuelF (slA o) = some ⟨slA o, (lst o).isEmpty, []⟩ := by
  rw [fz_pv (pure1_sl o), scalar1_sl]
@[simp] theorem fz_enc (x : α) (h : Heap) : fz h fuelF (.agg (enc x)) = some ⟨.agg (enc x), scal x, []⟩ := fz_agg h (pur x)
theorem rows_pure (L : List α) : (L.map enc).all (·.all pure1) = true := by simp only [List.all_map, List.all_eq_true]; exact fun x _ => pur x
theorem rows_scal (L : List α) : (L.map enc).all (·.all scalar1) = L.all scal := by simp only [List.all_map]; rfl
@[simp] theorem fz_rows (L : List α) (h : Heap) : fzList (fzList (fz h fuelF)) (L.map enc) = some ⟨L.map enc, L.all scal, []⟩ := by rw [fz12_rows h (rows_pure L), rows_scal]
@[simp] theorem fz_rows11 (L : List α) (h : Heap) : fzList (fzList (fz h 11)) (L.map enc) = some ⟨L.map enc, L.all scal, []⟩ := by rw [fz11_rows h (rows_pure L), rows_scal]
@[simp] theorem scal_sl (o : Option (List α)) : scal o = (lst o).isEmpty := by simp [scal]
@[simp] theorem take_rows (L : List α) : (L.map (enc (α := α))).take L.length = L.map enc := by
  rw [List.take_of_length_le (by simp)]
@[simp] theorem aggOr_enc (x : α) : aggOr true (es α) (enc x) = some (.agg (enc x)) := by
  simp only [aggOr, if_true, len x, Nat.le_refl, if_pos]
  rw [List.take_of_length_le (by rw [len x]; exact Nat.le_refl _)]
@[simp] theorem leaf_mem (x : α) : (∀ v, v ∈ enc x → leaf1 v = true) ↔ True := by
  have := leaf x
  rw [List.all_eq_true] at this
  exact ⟨fun _ => trivial, fun _ => this⟩
theorem all_leaf (x : α) : (enc x).all leaf1 = true := leaf x
@[simp] theorem fz_int' (h : Heap) (k : IntKind) (n : Int) : fz h fuelF (.int k n) = some ⟨.int k n, true, []⟩ := rfl
@[simp] theorem fz_bool' (h : Heap) (b : Bool) : fz h fuelF (.bool b) = some ⟨.bool b, true, []⟩ := rfl
@[simp] theorem fz_str' (h : Heap) (b : List UInt8) : fz h fuelF (.str b) = some ⟨.str b, true, []⟩ := rfl
@[simp] theorem fz_nils' (h : Heap) : fz h fuelF .nils = some ⟨.nils, true, []⟩ := rfl
@[simp] theorem expo1_int' (h : Heap) (k : IntKind) (n : Int) : expo1 h (.int k n) = some ⟨.int k n, [], true, [], []⟩ := rfl
@[simp] theorem expo1_bool' (h : Heap) (b : Bool) : expo1 h (.bool b) = some ⟨.bool b, [], true, [], []⟩ := rfl
@[simp] theorem expo1_str' (h : Heap) (s : List UInt8) : expo1 h (.str s) = some ⟨.str s, [], true, [], []⟩ := rfl
@[simp] theorem expo1_nils' (h : Heap) : expo1 h .nils = some ⟨.nils, [], true, [], []⟩ := rfl
@[simp] theorem expo1_sl (h : Heap) (o : Option (List α)) : expo1 h (slA o) = some ⟨slA o, [], (lst o).isEmpty, [], []⟩ := by
  cases o with
  | none => rfl
  | some L => simp [slA, expo1_rs]
theorem expo_p {v : AV} (hp : pure1 v = true) (h : Heap) (k : Nat) (os : List OC) : expo h (k + 1) v os = some ⟨v, os, scalar1 v, [], []⟩ := by
  cases v <;> simp_all [expo, pure1]
theorem exList_p {cs : List AV} (h : Heap) (k : Nat) (os : List OC) (hp : cs.all pure1 = true) : exList (expo h (k + 1)) cs os = some ⟨cs, os, cs.all scalar1, [], []⟩ := by
  induction cs with
  | nil => rfl
  | cons c cs ih =>
    simp only [List.all_cons, Bool.and_eq_true] at hp
    rw [exList, expo_p hp.1]
    simp only [ih hp.2]
    rfl
theorem expo1_agg (h : Heap) (cs : List AV) : expo1 h (.agg cs) = match exList (expo h 11) cs [] with
    | some r => if apartIds r.xs r.fs then some ⟨.agg r.v, r.objs, r.fresh, [], []⟩ else none
    | none => none := by
  show (match (match exList (expo h 11) cs [] with
    | some r => some (⟨.agg r.v, r.objs, r.fresh, r.xs, r.fs⟩ : Ex AV)
    | none => none) with
    | some r => if apartIds r.xs r.fs then some (⟨r.v, r.objs, r.fresh, [], []⟩ : Ex AV) else none
    | none => none) = _
  cases exList (expo h 11) cs [] <;> rfl
@[simp] theorem expo1_enc (h : Heap) (x : α) : expo1 h (.agg (enc x)) = some ⟨.agg (enc x), [], scal x, [], []⟩ := by
  rw [expo1_agg, exList_p h 10 [] (pur x)]
  rfl
theorem expo_ls (h : Heap) (k id g es1 off len : Nat) (os : List OC) : expo h (k + 1) (.ls id g es1 off len) os = match rowsAt h id g with
    | some (true, _, _) => exFz h (.ls id g es1 off len) os
    | some (false, es, rows) => if es1 = es ∧ off + len ≤ rows.length then
        match fzList (fzList (fz h fuelF)) ((rows.drop off).take len) with
        | some r => some ⟨.ls os.length 0 es 0 len, os ++ [.arr false false es r.v], r.fresh, [id], r.ids⟩
        | none => none
      else none
    | none => none := by
  rw [expo]
  rfl
theorem fz_lsk (h : Heap) (k id g es1 off len : Nat) : fz h (k + 1) (.ls id g es1 off len) = match rowsAt h id g with
    | some (_, es, rows) => if es1 = es ∧ off + len ≤ rows.length then (match fzList (fzList (fz h k)) ((rows.drop off).take len) with
      | some r => some ⟨.rs es r.v, r.fresh, id :: r.ids⟩
      | none => none) else none
    | none => none := by
  rw [fz]
  rfl
theorem fz_rowsk (L : List α) (h : Heap) (k : Nat) : fzList (fzList (fz h (k + 1))) (L.map enc) = some ⟨L.map enc, L.all scal, []⟩ := by rw [fzList_rows h k (rows_pure L), rows_scal]
@[simp] theorem fzList_nil {β γ : Type} (f : β → Option (Fz γ)) : fzList f [] = some ⟨[], true, []⟩ := rfl
@[simp] theorem fzList_cons {β γ : Type} (f : β → Option (Fz γ)) (x : β) (xs : List β) : fzList f (x :: xs) = match f x, fzList f xs with
    | some a, some b => some ⟨a.v :: b.v, a.fresh && b.fresh, a.ids ++ b.ids⟩
    | _, _ => none := rfl
end Go.Vm
namespace Go.Vm
open Cel
structure Ins where
  op : Int
  d : Int
  a : Int
  b : Int
  c : Int
  n : Int
  t : Int
  s : List UInt8
  args : Option (List Int)
  deriving DecidableEq, Inhabited
structure Row where
  f : Int
  t : Int
  at_ : Int
  c : List UInt8
  deriving DecidableEq, Inhabited
structure Fn where
  regs : Option (List Int)
  params : Option (List Int)
  ret : Int
  code : Option (List Ins)
  rows : Option (List Row)
  deriving DecidableEq, Inhabited
instance : Cel Ins := ⟨9, fun x => [.int .i64 x.op, .int .i64 x.d, .int .i64 x.a, .int .i64 x.b, .int .i64 x.c, .int .i64 x.n, .int .i64 x.t, .str x.s, slA x.args], fun _ => rfl,
  fun x => by simp, fun x => by simp⟩
instance : Cel Row := ⟨4, fun x => [.int .i64 x.f, .int .i64 x.t, .int .i64 x.at_, .str x.c], fun _ => rfl, fun x => rfl, fun x => rfl⟩
instance : Cel Fn := ⟨5, fun x => [slA x.regs, slA x.params, .int .i64 x.ret, slA x.code, slA x.rows], fun _ => rfl, fun x => by simp, fun x => by simp⟩
@[simp] theorem es_ins : es Ins = 9 := rfl
@[simp] theorem es_row : es Row = 4 := rfl
@[simp] theorem es_fn : es Fn = 5 := rfl
section
variable (x : Ins) (r : Row) (f : Fn)
@[simp high] theorem ins0 : (enc x).head? = some (.int .i64 x.op) := rfl
@[simp high] theorem ins0q : (enc x)[0]? = some (.int .i64 x.op) := rfl
@[simp high] theorem ins1 : ((enc x).drop 1).head? = some (.int .i64 x.d) := rfl
@[simp high] theorem ins1q : (enc x)[1]? = some (.int .i64 x.d) := rfl
@[simp high] theorem ins2 : ((enc x).drop 2).head? = some (.int .i64 x.a) := rfl
@[simp high] theorem ins2q : (enc x)[2]? = some (.int .i64 x.a) := rfl
@[simp high] theorem ins3 : ((enc x).drop 3).head? = some (.int .i64 x.b) := rfl
@[simp high] theorem ins3q : (enc x)[3]? = some (.int .i64 x.b) := rfl
@[simp high] theorem ins4 : ((enc x).drop 4).head? = some (.int .i64 x.c) := rfl
@[simp high] theorem ins4q : (enc x)[4]? = some (.int .i64 x.c) := rfl
@[simp high] theorem ins5 : ((enc x).drop 5).head? = some (.int .i64 x.n) := rfl
@[simp high] theorem ins5q : (enc x)[5]? = some (.int .i64 x.n) := rfl
@[simp high] theorem ins6 : ((enc x).drop 6).head? = some (.int .i64 x.t) := rfl
@[simp high] theorem ins6q : (enc x)[6]? = some (.int .i64 x.t) := rfl
@[simp high] theorem ins7 : ((enc x).drop 7).head? = some (.str x.s) := rfl
@[simp high] theorem ins7q : (enc x)[7]? = some (.str x.s) := rfl
@[simp high] theorem ins8 : ((enc x).drop 8).head? = some (slA x.args) := rfl
@[simp high] theorem ins8q : (enc x)[8]? = some (slA x.args) := rfl
@[simp high] theorem row0 : (enc r).head? = some (.int .i64 r.f) := rfl
@[simp high] theorem row0q : (enc r)[0]? = some (.int .i64 r.f) := rfl
@[simp high] theorem row1 : ((enc r).drop 1).head? = some (.int .i64 r.t) := rfl
@[simp high] theorem row1q : (enc r)[1]? = some (.int .i64 r.t) := rfl
@[simp high] theorem row2 : ((enc r).drop 2).head? = some (.int .i64 r.at_) := rfl
@[simp high] theorem row2q : (enc r)[2]? = some (.int .i64 r.at_) := rfl
@[simp high] theorem row3 : ((enc r).drop 3).head? = some (.str r.c) := rfl
@[simp high] theorem row3q : (enc r)[3]? = some (.str r.c) := rfl
@[simp high] theorem fn0 : (enc f).head? = some (slA f.regs) := rfl
@[simp high] theorem fn0q : (enc f)[0]? = some (slA f.regs) := rfl
@[simp high] theorem fn1 : ((enc f).drop 1).head? = some (slA f.params) := rfl
@[simp high] theorem fn1q : (enc f)[1]? = some (slA f.params) := rfl
@[simp high] theorem fn2 : ((enc f).drop 2).head? = some (.int .i64 f.ret) := rfl
@[simp high] theorem fn2q : (enc f)[2]? = some (.int .i64 f.ret) := rfl
@[simp high] theorem fn3 : ((enc f).drop 3).head? = some (slA f.code) := rfl
@[simp high] theorem fn3q : (enc f)[3]? = some (slA f.code) := rfl
@[simp high] theorem fn4 : ((enc f).drop 4).head? = some (slA f.rows) := rfl
@[simp high] theorem fn4q : (enc f)[4]? = some (slA f.rows) := rfl
@[simp] theorem agg_ins : aggOr true 9 (enc x) = some (.agg (enc x)) := aggOr_enc x
@[simp] theorem agg_row : aggOr true 4 (enc r) = some (.agg (enc r)) := aggOr_enc r
@[simp] theorem agg_fn : aggOr true 5 (enc f) = some (.agg (enc f)) := aggOr_enc f
@[simp] theorem len_ins : (enc x).length = 9 := rfl
@[simp] theorem len_row : (enc r).length = 4 := rfl
@[simp] theorem len_fn : (enc f).length = 5 := rfl
@[simp] theorem leaf_ins : (enc x).all leaf1 = true := all_leaf x
@[simp] theorem leaf_row : (enc r).all leaf1 = true := all_leaf r
@[simp] theorem leaf_fn : (enc f).all leaf1 = true := all_leaf f
end
theorem ixs_ins {o : Option (List Ins)} {x : Ins} {i : Nat} (hx : (lst o)[i]? = some x) (k : IntKind) : evIxs 9 (slA o) (.int k i) = some (.rp (enc x)) := evIxs_sl hx k
theorem ixs_row {o : Option (List Row)} {x : Row} {i : Nat} (hx : (lst o)[i]? = some x) (k : IntKind) : evIxs 4 (slA o) (.int k i) = some (.rp (enc x)) := evIxs_sl hx k
theorem ixs_int {o : Option (List Int)} {x : Int} {i : Nat} (hx : (lst o)[i]? = some x) (k : IntKind) : evIxs 1 (slA o) (.int k i) = some (.rp [.int .i64 x]) := evIxs_sl hx k
theorem ixs_insI {o : Option (List Ins)} {x : Ins} {n : Int} (h0 : 0 ≤ n) (hx : (lst o)[n.toNat]? = some x) (k : IntKind) : evIxs 9 (slA o) (.int k n) = some (.rp (enc x)) := evIxs_slI h0 hx k
theorem ixs_intI {o : Option (List Int)} {x : Int} {n : Int} (h0 : 0 ≤ n) (hx : (lst o)[n.toNat]? = some x) (k : IntKind) : evIxs 1 (slA o) (.int k n) = some (.rp [.int .i64 x]) := evIxs_slI h0 hx k
@[simp] theorem rowsOf_sl1 (o : Option (List Int)) (h : Heap) : rowsOf h 1 (slA o) = some ((lst o).map enc) := rowsOf_sl o h
@[simp] theorem rowsOf_sl9 (o : Option (List Ins)) (h : Heap) : rowsOf h 9 (slA o) = some ((lst o).map enc) := rowsOf_sl o h
@[simp] theorem rowsOf_sl4 (o : Option (List Row)) (h : Heap) : rowsOf h 4 (slA o) = some ((lst o).map enc) := rowsOf_sl o h
def exO {α : Type} [Cel α] : Option (List α) → Ex AV
  | none => ⟨.nils, [], true, [], []⟩
  | some L => ⟨.ls 0 0 (es α) 0 L.length, [.arr false false (es α) (L.map enc)], L.all scal, [], []⟩
@[simp] theorem exO_fz {α : Type} [Cel α] (o : Option (List α)) : fz (heapOf (exO o).objs) fuelF (exO o).v = some ⟨slA o, (lst o).all scal, match o with | none => [] | some _ => [0]⟩ := by
  cases o with
  | none => rfl
  | some L =>
    show fz [⟨0, .arr false false (es α) (L.map enc)⟩] fuelF (.ls 0 0 (es α) 0 L.length) = _
    rw [fz_ls]
    simp [rowsAt, objAt, slA]
@[simp] theorem place_ex {α : Type} [Cel α] (fb j : Nat) (L : List α) (h : Heap) : placeAll fb (some j) (exO (some L)).objs [] h = match h[fb + j]? with
    | some o => some ([(fb + j, o.gen + 1)], h.set (fb + j) ⟨o.gen + 1, .arr false false (es α) (L.map enc)⟩)
    | none => none := by
  simp only [exO, placeAll, relocOC, okOC, if_true, place, List.nil_append]
  cases h[fb + j]? <;> rfl
@[simp] theorem place_ex0 {α : Type} [Cel α] (fb : Nat) (j : Option Nat) (h : Heap) : placeAll fb j (exO (none : Option (List α))).objs [] h = some ([], h) := rfl
@[simp] theorem reloc_ex {α : Type} [Cel α] (id g : Nat) (L : List α) : reloc [(id, g)] (exO (some L)).v = .ls id g (es α) 0 L.length := rfl
@[simp] theorem reloc_ex0 {α : Type} [Cel α] (tab : List (Nat × Nat)) : reloc tab (exO (none : Option (List α))).v = .nils := rfl
theorem exO_fresh {α : Type} [Cel α] (o : Option (List α)) : (exO o).fresh = (lst o).all scal := by cases o <;> rfl
theorem expo1_own {α : Type} [Cel α] {h : Heap} {id g : Nat} {L : List α} (hr : rowsAt h id g = some (false, es α, L.map enc)) : expo1 h (.ls id g (es α) 0 L.length) = some (exO (some L)) := by
  rw [expo1_ls_eq, hr]
  simp [exO]
attribute [simp] newC newBox newArr place
@[simp] theorem rowsAt_0 (g : Nat) (b f : Bool) (e : Nat) (r : List (List AV)) (t : Heap) : rowsAt (⟨g, .arr b f e r⟩ :: t) 0 g = some (f, e, r) := by simp [rowsAt, objAt]
@[simp] theorem rowsAt_s (o : AO) (t : Heap) (i g : Nat) : rowsAt (o :: t) (i + 1) g = rowsAt t i g := rfl
@[simp] theorem setRows_0 (g : Nat) (b f : Bool) (e : Nat) (r r' : List (List AV)) (t : Heap) : setRows (⟨g, .arr b f e r⟩ :: t) 0 r' = ⟨g, .arr b f e r'⟩ :: t := rfl
@[simp] theorem setRows_s (o : AO) (t : Heap) (i : Nat) (r : List (List AV)) : setRows (o :: t) (i + 1) r = o :: setRows t i r := by
  simp only [setRows, List.getElem?_cons_succ]
  split <;> simp_all
@[simp] theorem evSt_lp (n id g i off : Nat) (v : AV) (h : Heap) : evSt n (.lp id g i off) v h = match rowsAt h id g with
    | some (false, _, rows) => match rows[i]? with
      | some row => if (cellsOf v).length = n ∧ off + n ≤ row.length ∧ (cellsOf v).all leaf1 = true then some (.tup [], setRows h id (rows.set i (spliceAt off (cellsOf v) row))) else none
      | none => none
    | _ => none := rfl
@[simp] theorem splice_all {vs row : List AV} (h : row.length = vs.length) : spliceAt 0 vs row = vs := by
  simp [spliceAt, ← h]
section
variable (x : Ins) (n : Int) (s : List UInt8) (o : Option (List Int))
@[simp] theorem sp_ins0 : spliceAt 0 [.int .i64 n] (enc x) = enc { x with op := n } := rfl
@[simp] theorem sp_ins1 : spliceAt 1 [.int .i64 n] (enc x) = enc { x with d := n } := rfl
@[simp] theorem sp_ins2 : spliceAt 2 [.int .i64 n] (enc x) = enc { x with a := n } := rfl
@[simp] theorem sp_ins3 : spliceAt 3 [.int .i64 n] (enc x) = enc { x with b := n } := rfl
@[simp] theorem sp_ins4 : spliceAt 4 [.int .i64 n] (enc x) = enc { x with c := n } := rfl
@[simp] theorem sp_ins5 : spliceAt 5 [.int .i64 n] (enc x) = enc { x with n := n } := rfl
@[simp] theorem sp_ins6 : spliceAt 6 [.int .i64 n] (enc x) = enc { x with t := n } := rfl
@[simp] theorem sp_ins7 : spliceAt 7 [.str s] (enc x) = enc { x with s := s } := rfl
@[simp] theorem sp_ins8 : spliceAt 8 [slA o] (enc x) = enc { x with args := o } := rfl
end
def insRow (x : Ins) (v : AV) : List AV := [.int .i64 x.op, .int .i64 x.d, .int .i64 x.a, .int .i64 x.b, .int .i64 x.c, .int .i64 x.n, .int .i64 x.t, .str x.s, v]
@[simp] theorem sp_ins8L (x : Ins) (id g es off len : Nat) : spliceAt 8 [.ls id g es off len] (enc x) = insRow x (.ls id g es off len) := rfl
@[simp] theorem sp_ins8n (x : Ins) : spliceAt 8 [.nils] (enc x) = enc { x with args := none } := rfl
@[simp] theorem insRow_len (x : Ins) (v : AV) : (insRow x v).length = 9 := rfl
@[simp] theorem insRow_agg (x : Ins) (v : AV) : aggOr true 9 (insRow x v) = some (.agg (insRow x v)) := rfl
@[simp] theorem insRow_mem (x : Ins) (w : AV) : (∀ v, v ∈ insRow x w → leaf1 v = true) ↔ leaf1 w = true := by simp [insRow]
def Reads (r : Ex AV) (v : AV) : Prop := ∃ q, fz (heapOf r.objs) fuelF r.v = some q ∧ q.v = v
@[simp] theorem evLd_lp (agg : Bool) (n id g i off : Nat) (h : Heap) : evLd agg n (.lp id g i off) h = match rowsAt h id g with
    | some (_, _, rows) => match rows[i]? with
      | some row => aggOr agg n (row.drop off)
      | none => none
    | none => none := rfl
end Go.Vm
namespace Go.Vm
open Cel
def inI (n : Int) : Prop := -9223372036854775808 ≤ n ∧ n ≤ 9223372036854775807
abbrev tyI : Ty := .int .i64
theorem has_i {cs : List AV} (h : tyI.has cs) : ∃ n : Int, cs = [.int .i64 n] ∧ inI n := by
  obtain ⟨n, rfl, h1, h2⟩ := h
  exact ⟨n, rfl, by simpa [IntKind.min, IntKind.max, IntKind.signed, IntKind.bits] using h1, by simpa [IntKind.min, IntKind.max, IntKind.signed, IntKind.bits] using h2⟩
theorem has_s {cs : List AV} (h : Ty.str.has cs) : ∃ s : List UInt8, cs = [.str s] ∧ s.length ≤ reachBytes := h
theorem has_rows {α : Type} [Cel α] {T : Ty} {Q : α → Prop} (hT : ∀ row, T.has row → ∃ x : α, row = enc x ∧ Q x) : ∀ (rows : List (List AV)), (∀ row, row ∈ rows → T.has row) → ∃ L : List α, rows = L.map enc ∧ ∀ x ∈ L, Q x
  | [], _ => ⟨[], rfl, fun x h => by cases h⟩
  | r :: rows, h => by
    obtain ⟨L, rfl, hL⟩ := has_rows hT rows (fun row hr => h row (by simp [hr]))
    obtain ⟨x, rfl, hx⟩ := hT r (h r (by simp))
    refine ⟨x :: L, rfl, fun y hy => ?_⟩
    rcases List.mem_cons.1 hy with rfl | hy
    · exact hx
    · exact hL y hy
theorem has_sl {α : Type} [Cel α] {T : Ty} {Q : α → Prop} (hT : ∀ row, T.has row → ∃ x : α, row = enc x ∧ Q x) {cs : List AV} (h : (Ty.slice (es α) T).has cs) : ∃ o : Option (List α), cs = [slA o] ∧ (lst o).length ≤ maxLen ∧ (lst o).length * T.bytes ≤ reachBytes ∧ ∀ x ∈ lst o, Q x := by
  rcases h with rfl | ⟨rows, rfl, hl, hz, hr⟩
  · exact ⟨none, rfl, Nat.zero_le _, by simp, fun x h => by cases h⟩
  · obtain ⟨L, rfl, hL⟩ := has_rows hT rows hr
    exact ⟨some L, rfl, by simpa using hl, by simpa using hz, hL⟩
abbrev tyInts : Ty := .slice 1 tyI
theorem has_ints {cs : List AV} (h : tyInts.has cs) : ∃ o : Option (List Int), cs = [slA o] ∧ (lst o).length * 8 ≤ reachBytes ∧ ∀ x ∈ lst o, inI x := by
  obtain ⟨o, h1, _, h2, h3⟩ := has_sl (α := Int) (T := tyI) (fun _ h => has_i h) h
  exact ⟨o, h1, h2, h3⟩
abbrev tyIns : Ty := .struct (.sCons tyI (.sCons tyI (.sCons tyI (.sCons tyI (.sCons tyI (.sCons tyI (.sCons tyI (.sCons .str (.sCons tyInts .sNil)))))))))
abbrev tyRow : Ty := .struct (.sCons tyI (.sCons tyI (.sCons tyI (.sCons .str .sNil))))
structure InsOk (x : Ins) : Prop where
  op : inI x.op
  d : inI x.d
  a : inI x.a
  b : inI x.b
  c : inI x.c
  n : inI x.n
  t : inI x.t
  s : x.s.length ≤ reachBytes
  len : (lst x.args).length * 8 ≤ reachBytes
  args : ∀ r ∈ lst x.args, inI r
structure RowOk (r : Row) : Prop where
  f : inI r.f
  t : inI r.t
  a : inI r.at_
  c : r.c.length ≤ reachBytes
structure FnIn (f : Fn) : Prop where
  regs : (lst f.regs).length * 8 ≤ reachBytes
  regI : ∀ x ∈ lst f.regs, inI x
  params : (lst f.params).length * 8 ≤ reachBytes
  parI : ∀ x ∈ lst f.params, inI x
  ret : inI f.ret
  code : (lst f.code).length * 96 ≤ reachBytes
  insI : ∀ x ∈ lst f.code, InsOk x
  rows : (lst f.rows).length * 40 ≤ reachBytes
  rowI : ∀ x ∈ lst f.rows, RowOk x
theorem has_ins {cs : List AV} (h : tyIns.has cs) : ∃ x : Ins, cs = enc x ∧ InsOk x := by
  obtain ⟨_, _, rfl, h1, _, _, rfl, h2, _, _, rfl, h3, _, _, rfl, h4, _, _, rfl, h5, _, _, rfl, h6, _, _, rfl, h7, _, _, rfl, h8, _, _, rfl, h9, rfl⟩ := h
  obtain ⟨op, rfl, k1⟩ := has_i h1
  obtain ⟨d, rfl, k2⟩ := has_i h2
  obtain ⟨a, rfl, k3⟩ := has_i h3
  obtain ⟨b, rfl, k4⟩ := has_i h4
  obtain ⟨c, rfl, k5⟩ := has_i h5
  obtain ⟨n, rfl, k6⟩ := has_i h6
  obtain ⟨t, rfl, k7⟩ := has_i h7
  obtain ⟨s, rfl, k8⟩ := has_s h8
  obtain ⟨l, rfl, k9, k10⟩ := has_ints h9
  exact ⟨⟨op, d, a, b, c, n, t, s, l⟩, rfl, ⟨k1, k2, k3, k4, k5, k6, k7, k8, k9, k10⟩⟩
theorem has_row {cs : List AV} (h : tyRow.has cs) : ∃ x : Row, cs = enc x ∧ RowOk x := by
  obtain ⟨_, _, rfl, h1, _, _, rfl, h2, _, _, rfl, h3, _, _, rfl, h8, rfl⟩ := h
  obtain ⟨f, rfl, k1⟩ := has_i h1
  obtain ⟨t, rfl, k2⟩ := has_i h2
  obtain ⟨a, rfl, k3⟩ := has_i h3
  obtain ⟨s, rfl, k8⟩ := has_s h8
  exact ⟨⟨f, t, a, s⟩, rfl, ⟨k1, k2, k3, k8⟩⟩
abbrev tyFn : Ty := .struct (.sCons tyInts (.sCons tyInts (.sCons tyI (.sCons (.slice 9 tyIns) (.sCons (.slice 4 tyRow) .sNil)))))
theorem has_fn {cs : List AV} (h : tyFn.has cs) : ∃ x : Fn, cs = enc x ∧ FnIn x := by
  obtain ⟨_, _, rfl, h1, _, _, rfl, h2, _, _, rfl, h3, _, _, rfl, h4, _, _, rfl, h5, rfl⟩ := h
  obtain ⟨regs, rfl, k1, l1⟩ := has_ints h1
  obtain ⟨params, rfl, k2, l2⟩ := has_ints h2
  obtain ⟨ret, rfl, k3⟩ := has_i h3
  obtain ⟨code, rfl, _, k4, l4⟩ := has_sl (α := Ins) (T := tyIns) (fun _ h => has_ins h) h4
  obtain ⟨rows, rfl, _, k5, l5⟩ := has_sl (α := Row) (T := tyRow) (fun _ h => has_row h) h5
  exact ⟨⟨regs, params, ret, code, rows⟩, rfl, ⟨k1, l1, k2, l2, k3, k4, l4, k5, l5⟩⟩
end Go.Vm
namespace Go.Vm
abbrev Ws := List (BitVec 64)
def bit (s : Ws) (r : Nat) : Bool := (s.getD (r / 64) 0).getLsbD (r % 64)
def addW (s : Ws) (r : Nat) : Ws := s.set (r / 64) (s.getD (r / 64) 0 ||| BitVec.twoPow 64 (r % 64))
def dropW (s : Ws) (r : Nat) : Ws := s.set (r / 64) (s.getD (r / 64) 0 &&& ~~~ BitVec.twoPow 64 (r % 64))
def joinW (s t : Ws) : Ws := List.zipWith (· ||| ·) s t
def moreW (s t : Ws) : Bool := (List.zipWith (fun a b => decide (b &&& ~~~ a ≠ 0)) s t).any id
def noneW (n : Nat) : Ws := List.replicate n 0
theorem addW_len (s : Ws) (r : Nat) : (addW s r).length = s.length := by simp [addW]
theorem dropW_len (s : Ws) (r : Nat) : (dropW s r).length = s.length := by simp [dropW]
theorem joinW_len {s t : Ws} (h : s.length = t.length) : (joinW s t).length = s.length := by simp [joinW, h]
theorem bit_none (n r : Nat) : bit (noneW n) r = false := by
  simp only [bit, noneW, List.getD_eq_getElem?_getD, List.getElem?_replicate]
  split <;> simp
theorem bit_out {s : Ws} {r : Nat} (h : s.length ≤ r / 64) : bit s r = false := by
  simp [bit, List.getD_eq_getElem?_getD, List.getElem?_eq_none h]
theorem same_reg {r q : Nat} (h1 : r / 64 = q / 64) (h2 : r % 64 = q % 64) : r = q := by omega
theorem bit_add {s : Ws} {r : Nat} (h : r / 64 < s.length) (q : Nat) : bit (addW s r) q = (bit s q || decide (q = r)) := by
  have hq : q % 64 < 64 := Nat.mod_lt _ (by omega)
  unfold bit addW
  rw [List.getD_eq_getElem?_getD, List.getElem?_set]
  by_cases e : r / 64 = q / 64
  · rw [if_pos e, if_pos h, ← e]
    simp only [Option.getD_some, BitVec.getLsbD_or, BitVec.getLsbD_twoPow]
    by_cases e2 : q = r
    · subst e2; simp [hq]
    · have : ¬ r % 64 = q % 64 := fun h' => e2 (same_reg e h').symm
      simp [e2, this]
  · rw [if_neg e]
    have : ¬ q = r := fun h' => e (by rw [h'])
    simp [this, List.getD_eq_getElem?_getD]
theorem bit_drop {s : Ws} {r : Nat} (h : r / 64 < s.length) (q : Nat) : bit (dropW s r) q = (bit s q && decide (q ≠ r)) := by
  have hq : q % 64 < 64 := Nat.mod_lt _ (by omega)
  unfold bit dropW
  rw [List.getD_eq_getElem?_getD, List.getElem?_set]
  by_cases e : r / 64 = q / 64
  · rw [if_pos e, if_pos h, ← e]
    simp only [Option.getD_some, BitVec.getLsbD_and, BitVec.getLsbD_not, BitVec.getLsbD_twoPow]
    by_cases e2 : q = r
    · subst e2; simp [hq]
    · have : ¬ r % 64 = q % 64 := fun h' => e2 (same_reg e h').symm
      simp [e2, this, hq]
  · rw [if_neg e]
    have : ¬ q = r := fun h' => e (by rw [h'])
    simp [this, List.getD_eq_getElem?_getD]
theorem bit_join {s t : Ws} (h : s.length = t.length) (q : Nat) : bit (joinW s t) q = (bit s q || bit t q) := by
  unfold bit joinW
  simp only [List.getD_eq_getElem?_getD, List.getElem?_zipWith]
  by_cases hq : q / 64 < s.length
  · rw [List.getElem?_eq_getElem hq, List.getElem?_eq_getElem (by omega)]
    simp
  · rw [List.getElem?_eq_none (by omega), List.getElem?_eq_none (by omega)]
    simp
theorem moreW_iff {s t : Ws} (h : s.length = t.length) : moreW s t = true ↔ ∃ q, bit t q = true ∧ bit s q = false := by
  unfold moreW
  rw [List.any_eq_true]
  constructor
  · rintro ⟨b, hb, h1⟩
    obtain ⟨k, hk⟩ := List.getElem?_of_mem hb
    rw [List.getElem?_zipWith] at hk
    cases hs : s[k]? with
    | none => rw [hs] at hk; simp at hk
    | some a =>
      cases ht : t[k]? with
      | none => rw [hs, ht] at hk; simp at hk
      | some c =>
        rw [hs, ht] at hk
        simp only [Option.some.injEq] at hk
        rw [← hk] at h1
        simp only [id, decide_eq_true_eq] at h1
        have : ∃ j, j < 64 ∧ (c &&& ~~~ a).getLsbD j = true := by
          refine Classical.byContradiction fun hn => h1 ?_
          refine BitVec.eq_of_getLsbD_eq fun j hj => ?_
          rw [show (0 : BitVec 64).getLsbD j = false by simp]
          rw [← Bool.not_eq_true]
          exact fun hb => hn ⟨j, hj, hb⟩
        obtain ⟨j, hj, hb⟩ := this
        rw [BitVec.getLsbD_and, BitVec.getLsbD_not, Bool.and_eq_true] at hb
        have e1 : (64 * k + j) / 64 = k := by omega
        have e2 : (64 * k + j) % 64 = j := by omega
        refine ⟨64 * k + j, ?_, ?_⟩
        · simp only [bit, e1, e2, List.getD_eq_getElem?_getD, ht, Option.getD_some]; exact hb.1
        · simp only [bit, e1, e2, List.getD_eq_getElem?_getD, hs, Option.getD_some]
          have := hb.2
          simpa [hj] using this
  · rintro ⟨q, h1, h2⟩
    have hq : q / 64 < t.length := by
      refine Classical.byContradiction fun hn => ?_
      rw [bit_out (by omega)] at h1; cases h1
    have hqs : q / 64 < s.length := by omega
    refine ⟨true, List.mem_of_getElem? (i := q / 64) ?_, rfl⟩
    rw [List.getElem?_zipWith, List.getElem?_eq_getElem hq, List.getElem?_eq_getElem hqs]
    simp only [bit, List.getD_eq_getElem?_getD, List.getElem?_eq_getElem hq, List.getElem?_eq_getElem hqs, Option.getD_some] at h1 h2
    have : t[q / 64] &&& ~~~ s[q / 64] ≠ 0 := by
      intro e
      have := congrArg (fun w : BitVec 64 => w.getLsbD (q % 64)) e
      simp only [BitVec.getLsbD_and, BitVec.getLsbD_not, h1, h2] at this
      have hm : q % 64 < 64 := Nat.mod_lt _ (by omega)
      simp [hm] at this
    simp only [decide_eq_true this]
theorem join_same {s t : Ws} (h : s.length = t.length) (hm : moreW s t = false) : joinW s t = s := by
  refine List.ext_getElem (joinW_len h) fun k h1 h2 => ?_
  have hk : k < t.length := by omega
  simp only [joinW, List.getElem_zipWith]
  have hz : t[k] &&& ~~~ s[k] = 0 := by
    refine Classical.byContradiction fun hn => ?_
    have : moreW s t = true := by
      unfold moreW
      rw [List.any_eq_true]
      refine ⟨true, List.mem_of_getElem? (i := k) ?_, rfl⟩
      rw [List.getElem?_zipWith, List.getElem?_eq_getElem hk, List.getElem?_eq_getElem h2]
      simp only [decide_eq_true (show t[k] &&& ~~~ s[k] ≠ 0 from hn)]
    rw [hm] at this; cases this
  refine BitVec.eq_of_getLsbD_eq fun j hj => ?_
  have := congrArg (fun w : BitVec 64 => w.getLsbD j) hz
  simp only [BitVec.getLsbD_and, BitVec.getLsbD_not, BitVec.getLsbD_or] at this ⊢
  cases ha : s[k].getLsbD j <;> cases hb : t[k].getLsbD j <;> simp_all
end Go.Vm
namespace Go.Vm
def calls (o : Int) : Bool := decide (23 ≤ o) && decide (o ≤ 26)
def ends (o : Int) : Bool := decide (o = 27) || decide (o = 30) || decide (o = 31)
def leads (o : Int) : Bool := decide (o = 27) || decide (o = 28) || decide (o = 29)
def throws (o : Int) : Bool := (decide (7 ≤ o) && decide (o ≤ 12)) || decide (o = 20) || decide (o = 21) || decide (o = 31) || calls o
def writes (o : Int) : Bool := decide (o ∈ [1, 2, 3, 4, 5, 6, 13, 15, 16, 18, 20, 21, 22, 32]) || calls o
def defr (x : Ins) : Int := if writes x.op then x.d else -1
def reads (o : Int) : Nat :=
  if o ∈ [4, 6, 7, 8, 10, 12, 15, 16, 19, 21, 22, 31] then 1 else if o ∈ [5, 9, 11, 13, 17, 28] then 2 else if o = 14 then 3 else 0
def uses (x : Ins) : Option (List Int) :=
  if calls x.op then x.args
  else if x.op = 29 then (if x.b < 0 then some [x.a] else some [x.a, x.b])
  else if x.op = 30 then (if 0 ≤ x.a then some [x.a] else none)
  else if reads x.op = 1 then some [x.a] else if reads x.op = 2 then some [x.a, x.b] else if reads x.op = 3 then some [x.a, x.b, x.c] else none
theorem uses_le3 {x : Ins} (h : calls x.op = false) : (lst (uses x)).length ≤ 3 := by
  unfold uses
  rw [h]
  simp only [Bool.false_eq_true, if_false]
  repeat' split
  all_goals simp
theorem op_cases (o : Int) : o = 1 ∨ o = 2 ∨ o = 3 ∨ o = 4 ∨ o = 5 ∨ o = 6 ∨ o = 7 ∨ o = 8 ∨ o = 9 ∨ o = 10 ∨ o = 11 ∨ o = 12 ∨ o = 13 ∨ o = 14 ∨ o = 15 ∨ o = 16 ∨ o = 17 ∨ o = 18 ∨ o = 19 ∨ o = 20 ∨ o = 21 ∨ o = 22 ∨ o = 23 ∨ o = 24 ∨ o = 25 ∨ o = 26 ∨ o = 27 ∨ o = 28 ∨ o = 29 ∨ o = 30 ∨ o = 31 ∨ o = 32 ∨ o = 33 ∨ o < 1 ∨ 33 < o := by omega
theorem lo_f {o : Int} (h : o < 1) : (¬ o = 1 ∧ ¬ o = 2 ∧ ¬ o = 3 ∧ ¬ o = 4 ∧ ¬ o = 5 ∧ ¬ o = 6 ∧ ¬ o = 7 ∧ ¬ o = 8 ∧ ¬ o = 9 ∧ ¬ o = 10 ∧ ¬ o = 11 ∧ ¬ o = 12 ∧ ¬ o = 13 ∧ ¬ o = 14 ∧ ¬ o = 15 ∧ ¬ o = 16 ∧ ¬ o = 17 ∧ ¬ o = 18 ∧ ¬ o = 19 ∧ ¬ o = 20 ∧ ¬ o = 21 ∧ ¬ o = 22 ∧ ¬ o = 23 ∧ ¬ o = 24 ∧ ¬ o = 25 ∧ ¬ o = 26 ∧ ¬ o = 27 ∧ ¬ o = 28 ∧ ¬ o = 29 ∧ ¬ o = 30 ∧ ¬ o = 31 ∧ ¬ o = 32 ∧ ¬ o = 33) ∧ ¬ 7 ≤ o ∧ ¬ 23 ≤ o ∧ ¬ 1 ≤ o := by omega
theorem hi_f {o : Int} (h : 33 < o) : (¬ o = 1 ∧ ¬ o = 2 ∧ ¬ o = 3 ∧ ¬ o = 4 ∧ ¬ o = 5 ∧ ¬ o = 6 ∧ ¬ o = 7 ∧ ¬ o = 8 ∧ ¬ o = 9 ∧ ¬ o = 10 ∧ ¬ o = 11 ∧ ¬ o = 12 ∧ ¬ o = 13 ∧ ¬ o = 14 ∧ ¬ o = 15 ∧ ¬ o = 16 ∧ ¬ o = 17 ∧ ¬ o = 18 ∧ ¬ o = 19 ∧ ¬ o = 20 ∧ ¬ o = 21 ∧ ¬ o = 22 ∧ ¬ o = 23 ∧ ¬ o = 24 ∧ ¬ o = 25 ∧ ¬ o = 26 ∧ ¬ o = 27 ∧ ¬ o = 28 ∧ ¬ o = 29 ∧ ¬ o = 30 ∧ ¬ o = 31 ∧ ¬ o = 32 ∧ ¬ o = 33) ∧ 7 ≤ o ∧ 23 ≤ o ∧ ¬ o ≤ 12 ∧ ¬ o ≤ 26 ∧ 1 ≤ o := by omega
end Go.Vm
namespace Go.Vm
open Cel
attribute [local simp] callAny callP heapOf_nil
def okB (b : UInt8) : Bool := (decide (97 ≤ b.toNat) && decide (b.toNat ≤ 122)) || (decide (65 ≤ b.toNat) && decide (b.toNat ≤ 90)) || (decide (48 ≤ b.toNat) && decide (b.toNat ≤ 57)) || decide (b.toNat = 95) || decide (b.toNat = 36) || decide (b.toNat = 47)
def nameOk (s : List UInt8) : Bool := decide (1 ≤ s.length) && decide (s.length ≤ 60) && s.all okB
theorem Name_step (s : List UInt8) (i : Nat) (hi : i < s.length) (v18 : AV) :
    q1_4 (.bool false) (.ls 0 1 1 0 s.length) v18 (.int .i64 i) [⟨1, .arr false false 1 (s.map fun b => [.int .u8 b.toNat])⟩] =
      if okB s[i] then q1_3 (.bool false) (.ls 0 1 1 0 s.length) v18 (.int .i64 i) [⟨1, .arr false false 1 (s.map fun b => [.int .u8 b.toNat])⟩] else some ⟨.bool false, [], true, [], []⟩ := by
  have hc : ((i : Int) < (s.length : Int)) := by omega
  generalize hb : s[i].toNat = n
  have e : (s.map fun b => ([.int .u8 b.toNat] : List AV))[i]? = some [.int .u8 (n : Int)] := by
    rw [List.getElem?_map, List.getElem?_eq_getElem hi, ← hb]; rfl
  have ho : okB s[i] = ((decide (97 ≤ n) && decide (n ≤ 122)) || (decide (65 ≤ n) && decide (n ≤ 90)) || (decide (48 ≤ n) && decide (n ≤ 57)) || decide (n = 95) || decide (n = 36) || decide (n = 47)) := by
    rw [okB, hb]
  rw [ho]
  have c1 : ∀ k : Nat, ((k : Int) ≤ (n : Int)) = (k ≤ n) := fun k => by simp
  have f1 : ((97 : Int) ≤ (n : Int)) = (97 ≤ n) := c1 97
  have f2 : ((65 : Int) ≤ (n : Int)) = (65 ≤ n) := c1 65
  have f3 : ((48 : Int) ≤ (n : Int)) = (48 ≤ n) := c1 48
  have g1 : ((n : Int) ≤ (122 : Int)) = (n ≤ 122) := by simp; omega
  have g2 : ((n : Int) ≤ (90 : Int)) = (n ≤ 90) := by simp; omega
  have g3 : ((n : Int) ≤ (57 : Int)) = (n ≤ 57) := by simp; omega
  have d1 : ((n : Int) = (95 : Int)) = (n = 95) := by simp; omega
  have d2 : ((n : Int) = (36 : Int)) = (n = 36) := by simp; omega
  have d3 : ((n : Int) = (47 : Int)) = (n = 47) := by simp; omega
  have step : ∀ (b1 b2 b3 b4 b5 b6 b7 b8 b9 : Bool), decide (97 ≤ n) = b1 → decide (n ≤ 122) = b2 → decide (65 ≤ n) = b3 → decide (n ≤ 90) = b4 → decide (48 ≤ n) = b5 → decide (n ≤ 57) = b6 → decide (n = 95) = b7 → decide (n = 36) = b8 → decide (n = 47) = b9 →
      q1_4 (.bool false) (.ls 0 1 1 0 s.length) v18 (.int .i64 i) [⟨1, .arr false false 1 (s.map fun b => [.int .u8 b.toNat])⟩] =
      if (b1 && b2) || (b3 && b4) || (b5 && b6) || b7 || b8 || b9 then q1_3 (.bool false) (.ls 0 1 1 0 s.length) v18 (.int .i64 i) [⟨1, .arr false false 1 (s.map fun b => [.int .u8 b.toNat])⟩] else some ⟨.bool false, [], true, [], []⟩ := by
    intro b1 b2 b3 b4 b5 b6 b7 b8 b9 h1 h2 h3 h4 h5 h6 h7 h8 h9
    rw [q1_4]
    have e0 : evIxs 1 (.ls 0 1 1 0 s.length) (.int .i64 i) = some (.lp 0 1 i 0) := by simp [evIxs, hc, hi]
    have tri : ∀ a b : Bool, (a = false) ∨ (a = true ∧ b = false) ∨ (a = true ∧ b = true) := by intro a b; cases a <;> cases b <;> simp
    have l1 : evBin .geq (.int .u8 (n : Int)) (.int .u8 97) = some (.bool b1) := by rw [evBin_geq]; simp only [f1, h1]
    have l2 : evBin .leq (.int .u8 (n : Int)) (.int .u8 122) = some (.bool b2) := by rw [evBin_leq]; simp only [g1, h2]
    have l3 : evBin .geq (.int .u8 (n : Int)) (.int .u8 65) = some (.bool b3) := by rw [evBin_geq]; simp only [f2, h3]
    have l4 : evBin .leq (.int .u8 (n : Int)) (.int .u8 90) = some (.bool b4) := by rw [evBin_leq]; simp only [g2, h4]
    have l5 : evBin .geq (.int .u8 (n : Int)) (.int .u8 48) = some (.bool b5) := by rw [evBin_geq]; simp only [f3, h5]
    have l6 : evBin .leq (.int .u8 (n : Int)) (.int .u8 57) = some (.bool b6) := by rw [evBin_leq]; simp only [g3, h6]
    have l7 : evBin .eql (.int .u8 (n : Int)) (.int .u8 95) = some (.bool b7) := by rw [evBin_eql]; simp only [d1, h7]
    have l8 : evBin .eql (.int .u8 (n : Int)) (.int .u8 36) = some (.bool b8) := by rw [evBin_eql]; simp only [d2, h8]
    have l9 : evBin .eql (.int .u8 (n : Int)) (.int .u8 47) = some (.bool b9) := by rw [evBin_eql]; simp only [d3, h9]
    clear h1 h2 h3 h4 h5 h6 h7 h8 h9
    simp only [e0, ob_some, evLd_lp, rowsAt_0, e, List.drop_zero, aggOr_f, List.head?_cons, l1]
    generalize q1_3 (.bool false) (.ls 0 1 1 0 s.length) v18 (.int .i64 i) [⟨1, .arr false false 1 (s.map fun b => [.int .u8 b.toNat])⟩] = Z
    rcases tri b1 b2 with rfl | ⟨rfl, rfl⟩ | ⟨rfl, rfl⟩ <;> simp only [l2, gb_tt, gb_ff, gb_tf, gb_ft, gb_tup, ob_some, evPick_t, evPick_f, evUn_not, cnd_t, cnd_f, l3, expo1_bool'] <;> try (simp; done)
    all_goals rcases tri b3 b4 with rfl | ⟨rfl, rfl⟩ | ⟨rfl, rfl⟩ <;> simp only [l4, gb_tt, gb_ff, gb_tf, gb_ft, gb_tup, ob_some, evPick_t, evPick_f, evUn_not, cnd_t, cnd_f, l5, expo1_bool'] <;> try (simp; done)
    all_goals rcases tri b5 b6 with rfl | ⟨rfl, rfl⟩ | ⟨rfl, rfl⟩ <;> simp only [l6, gb_tt, gb_ff, gb_tf, gb_ft, gb_tup, ob_some, evPick_t, evPick_f, evUn_not, cnd_t, cnd_f, l7, expo1_bool'] <;> try (simp; done)
    all_goals cases b7 <;> simp only [gb_tt, gb_ff, gb_tf, gb_ft, gb_tup, ob_some, evPick_t, evPick_f, evUn_not, cnd_t, cnd_f, l8, expo1_bool'] <;> try (simp; done)
    all_goals cases b8 <;> simp only [gb_tt, gb_ff, gb_tf, gb_ft, gb_tup, ob_some, evPick_t, evPick_f, evUn_not, cnd_t, cnd_f, l9, expo1_bool'] <;> try (simp; done)
    all_goals cases b9 <;> simp
  exact step _ _ _ _ _ _ _ _ _ rfl rfl rfl rfl rfl rfl rfl rfl rfl
end Go.Vm
namespace Go.Vm
open Cel
attribute [local simp] callAny callP heapOf_nil
theorem Name_loop (s : List UInt8) (hl : s.length ≤ 60) : ∀ (d i : Nat), i + d = s.length →
    q1_L2 (.bool false) (.ls 0 1 1 0 s.length) (.int .i64 s.length) (.int .i64 i) [⟨1, .arr false false 1 (s.map fun b => [.int .u8 b.toNat])⟩] = some ⟨.bool ((s.drop i).all okB), [], true, [], []⟩ := by
  intro d
  induction d with
  | zero =>
    intro i hi
    have e1 : s.drop i = [] := List.drop_eq_nil_of_le (by omega)
    have hc : ¬ ((i : Int) < (s.length : Int)) := by omega
    rw [q1_L2_go, e1]
    simp [q1_6, q1_5, q1_1, hc]
  | succ d ih =>
    intro i hi
    have hlt : i < s.length := by omega
    have hc : ((i : Int) < (s.length : Int)) := by omega
    have := ih (i + 1) (by omega)
    push_cast at this
    have e1 : (s.drop i).all okB = (okB s[i] && (s.drop (i + 1)).all okB) := by rw [List.drop_eq_getElem_cons hlt, List.all_cons]
    have hw : IntKind.wrap .i64 ((i : Int) + 1) = (i : Int) + 1 := wrap_i64 (by omega) (by omega)
    rw [q1_L2_go, e1]
    simp only [q1_6, q1_5, evBin_lss, ob_some, hc, decide_true, cnd_t, Name_step s i hlt]
    cases okB s[i]
    · simp
    · simp [q1_3, hw, this]
@[simp] theorem s_Name (s : List UInt8) : (callW E).p 60 [.str s, .bool false] = some ⟨.bool (nameOk s), [], true, [], []⟩ := by
  rw [x_q1]
  by_cases h1 : ((s.length : Int) < 1)
  · have : ¬ 1 ≤ s.length := by omega
    simp [q1_1, q1_3, q1_4, q1_5, q1_6, q1_8, q1_10, q1_11, h1, nameOk, this]
  by_cases h2 : ((60 : Int) < (s.length : Int))
  · have : ¬ s.length ≤ 60 := by omega
    simp [q1_1, q1_3, q1_4, q1_5, q1_6, q1_8, q1_10, q1_11, h1, h2, nameOk, this]
  · have a1 : 1 ≤ s.length := by omega
    have a2 : s.length ≤ 60 := by omega
    have := Name_loop s a2 s.length 0 (by omega)
    simp only [List.drop_zero] at this
    simp only [nameOk, a1, a2, decide_true, Bool.true_and, ← this]
    simp [q1_11, q1_10, q1_8, h1, h2, s2bC]
def lead : List UInt8 → Nat
  | [] => 0
  | c :: r => if c = 91 then lead r + 1 else 0
theorem lead_le : ∀ s : List UInt8, lead s ≤ s.length
  | [] => Nat.le_refl _
  | c :: r => by
    have := lead_le r
    simp only [lead, List.length_cons]
    split <;> omega
theorem lead_lt : ∀ {s : List UInt8} {i : Nat}, i < lead s → s[i]? = some 91
  | [], i, h => by simp [lead] at h
  | c :: r, i, h => by
    simp only [lead] at h
    split at h
    · rename_i e
      cases i with
      | zero => simp [e]
      | succ i => simpa using lead_lt (s := r) (by omega)
    · omega
theorem lead_at : ∀ {s : List UInt8} {c : UInt8}, s[lead s]? = some c → c ≠ 91
  | [], c, h => by simp at h
  | d :: r, c, h => by
    simp only [lead] at h
    split at h
    · exact lead_at (s := r) (by simpa using h)
    · rename_i e; simp at h; rw [← h]; exact e
def takeM (s : List UInt8) : Nat :=
  if 8 < lead s ∨ lead s = s.length then 0
  else if s[lead s]? = some 73 ∨ s[lead s]? = some 74 then lead s + 1
  else if s[lead s]? = some 76 then
    (if (s.drop (lead s + 1)).findIdx (· == 59) < (s.drop (lead s + 1)).length ∧ nameOk ((s.take (lead s + 1 + (s.drop (lead s + 1)).findIdx (· == 59))).drop (lead s + 1)) = true then lead s + 1 + (s.drop (lead s + 1)).findIdx (· == 59) + 1 else 0)
  else 0
theorem ixstr {s : List UInt8} {i : Nat} {c : UInt8} (h : s[i]? = some c) : evIxstr (.str s) (.int .i64 i) = some (.int .u8 c.toNat) := by
  simp [evIxstr, h]
theorem byte_eq (c : UInt8) (k : UInt8) : ((c.toNat : Int) = (k.toNat : Int)) ↔ c = k := by
  rw [Int.ofNat_inj]; exact ⟨fun h => UInt8.toNat_inj.1 h, fun h => by rw [h]⟩
theorem take_lead (s : List UInt8) (hs : s.length ≤ 9223372036854775807) (h : Heap) : ∀ (d i : Nat), i + d = lead s → q3_L21 (.str s) (.int .i64 i) h = q3_20 (.str s) (.int .i64 (lead s)) h := by
  intro d
  induction d with
  | zero =>
    intro i hi
    obtain rfl : i = lead s := by omega
    rw [q3_L21_go]
    have := lead_le s
    by_cases hc : lead s < s.length
    · have e := List.getElem?_eq_getElem hc
      have hne := lead_at e
      have hc' : ((lead s : Int) < (s.length : Int)) := by omega
      have hb : ¬ ((s[lead s].toNat : Int) = 91) := fun hh => hne ((byte_eq _ 91).1 hh)
      simp [q3_23, hc', ixstr e, hb]
    · have hc' : ¬ ((lead s : Int) < (s.length : Int)) := by omega
      simp [q3_23, hc']
  | succ d ih =>
    intro i hi
    have e := lead_lt (s := s) (i := i) (by omega)
    have := lead_le s
    have hc' : ((i : Int) < (s.length : Int)) := by omega
    have ih := ih (i + 1) (by omega)
    push_cast at ih
    rw [q3_L21_go]
    simp [q3_23, hc', ixstr e, q3_22, wrap_up (show i < s.length by omega) hs, ih]
theorem take_loop (s : List UInt8) (hs : s.length ≤ 9223372036854775807) (n : Nat) (h : Heap) : ∀ (d i : Nat), n + 1 ≤ i → i + d = s.length →
    q3_L2 (.str s) (.int .i64 n) (.int .i64 i) h =
      some ⟨.int .i64 (if (s.drop i).findIdx (· == 59) < (s.drop i).length ∧ nameOk ((s.take (i + (s.drop i).findIdx (· == 59))).drop (n + 1)) = true then (i + (s.drop i).findIdx (· == 59) + 1 : Nat) else (0 : Nat)), [], true, [], []⟩ := by
  intro d
  induction d with
  | zero =>
    intro i h1 hi
    rw [q3_L2_go]
    have e1 : s.drop i = [] := List.drop_eq_nil_of_le (by omega)
    have hc : ¬ ((i : Int) < (s.length : Int)) := by omega
    simp [q3_10, q3_1, hc, e1]
  | succ d ih =>
    intro i h1 hi
    rw [q3_L2_go]
    have hlt : i < s.length := by omega
    have e := List.getElem?_eq_getElem hlt
    have hc : ((i : Int) < (s.length : Int)) := by omega
    have hd : s.drop i = s[i] :: s.drop (i + 1) := List.drop_eq_getElem_cons hlt
    by_cases hb : s[i] = 59
    · have hb' : ((s[i].toNat : Int) = 59) := (byte_eq _ 59).2 hb
      have hf : (s.drop i).findIdx (· == 59) = 0 := by rw [hd, List.findIdx_cons]; simp [hb]
      have hw1 : IntKind.wrap .i64 ((n : Int) + 1) = (n : Int) + 1 := wrap_up (show n < s.length by omega) hs
      have hsl : evSls (.str s) (some (.int .i64 ((n : Int) + 1))) (some (.int .i64 (i : Int))) = some (.str ((s.take i).drop (n + 1))) := by
        have a1 : ((0 : Int) ≤ (i : Int) ∧ (i : Int) ≤ (s.length : Int)) := by omega
        have a2 : ((0 : Int) ≤ (n : Int) + 1 ∧ (n : Int) + 1 ≤ (i : Int)) := by omega
        simp only [evSls, optIxv, asNat, if_pos a1, Int.toNat_natCast, if_pos a2]
        rfl
      rw [hf]
      have hlen : 0 < (s.drop i).length := by rw [List.length_drop]; omega
      cases hn : nameOk ((s.take i).drop (n + 1)) with
      | true =>
        simp only [q3_10, q3_7, q3_6, q3_5, evLen_str, ob_some, evBin_lss, hc, decide_true, cnd_t, ixstr e, evBin_eql, hb', evBin_add, hw1, hsl]
        simp [hn, hlt, wrap_up hlt hs]
        omega
      | false =>
        simp only [q3_10, q3_7, q3_6, q3_5, evLen_str, ob_some, evBin_lss, hc, decide_true, cnd_t, ixstr e, evBin_eql, hb', evBin_add, hw1, hsl]
        simp [hn, q3_4]
    · have hb' : ¬ ((s[i].toNat : Int) = 59) := fun hh => hb ((byte_eq _ 59).1 hh)
      have hf : (s.drop i).findIdx (· == 59) = (s.drop (i + 1)).findIdx (· == 59) + 1 := by
        rw [hd, List.findIdx_cons]
        have : (s[i] == 59) = false := by simpa using hb
        rw [this]; rfl
      have hl : (s.drop i).length = (s.drop (i + 1)).length + 1 := by rw [hd]; rfl
      have ih := ih (i + 1) (by omega) (by omega)
      push_cast at ih
      rw [hf, hl]
      have e2 : i + ((s.drop (i + 1)).findIdx (· == 59) + 1) = i + 1 + (s.drop (i + 1)).findIdx (· == 59) := by omega
      rw [e2]
      simp only [q3_10, q3_7, q3_6, q3_3, evLen_str, ob_some, evBin_lss, hc, decide_true, cnd_t, cnd_f, ixstr e, evBin_eql, hb', decide_false, evBin_add, wrap_up hlt hs, ih]
      simp only [Nat.add_lt_add_iff_right]
      push_cast
      rfl
@[simp] theorem s_take (s : List UInt8) (hs : s.length ≤ 9223372036854775807) : (callW E).p 44 [.str s] = some ⟨.int .i64 (takeM s), [], true, [], []⟩ := by
  rw [x_q3]
  have h0 := take_lead s hs [] (lead s) 0 (by omega)
  simp only [Int.ofNat_zero] at h0
  have hle := lead_le s
  have key : q3_20 (.str s) (.int .i64 (lead s)) [] = some ⟨.int .i64 (takeM s), [], true, [], []⟩ := by
    unfold takeM
    by_cases h8 : 8 < lead s
    · have h8' : ((8 : Int) < (lead s : Int)) := by omega
      simp [q3_20, h8', h8]
    by_cases hl : lead s = s.length
    · have h8' : ¬ ((8 : Int) < (lead s : Int)) := by omega
      have hl' : ((lead s : Int) = (s.length : Int)) := by omega
      have h9' : ¬ ((8 : Int) < (s.length : Int)) := by omega
      simp [q3_20, h8', h9', hl', hl]
    · have h8' : ¬ ((8 : Int) < (lead s : Int)) := by omega
      have hl' : ¬ ((lead s : Int) = (s.length : Int)) := by omega
      have hlt : lead s < s.length := by omega
      have e := List.getElem?_eq_getElem hlt
      rw [if_neg (by simp [h8, hl]), e]
      have hw := wrap_up hlt hs
      by_cases c1 : s[lead s] = 73
      · have c1' : ((s[lead s].toNat : Int) = 73) := (byte_eq _ 73).2 c1
        simp [q3_20, q3_18, q3_16, q3_15, h8', hl', ixstr e, c1', c1, hw]
      by_cases c2 : s[lead s] = 74
      · have c2' : ((s[lead s].toNat : Int) = 74) := (byte_eq _ 74).2 c2
        simp [q3_20, q3_18, q3_16, q3_15, h8', hl', ixstr e, c2', c2, hw]
      have c1' : ¬ ((s[lead s].toNat : Int) = 73) := fun hh => c1 ((byte_eq _ 73).1 hh)
      have c2' : ¬ ((s[lead s].toNat : Int) = 74) := fun hh => c2 ((byte_eq _ 74).1 hh)
      by_cases c3 : s[lead s] = 76
      · have c3' : ((s[lead s].toNat : Int) = 76) := (byte_eq _ 76).2 c3
        have := take_loop s hs (lead s) [] _ (lead s + 1) (Nat.le_refl _) (show lead s + 1 + (s.length - (lead s + 1)) = s.length by omega)
        push_cast at this
        simp [q3_20, q3_18, q3_16, q3_15, q3_14, q3_13, q3_12, h8', hl', ixstr e, c1', c2', c3', c1, c2, c3, hw, this]
        split <;> simp
      · have c3' : ¬ ((s[lead s].toNat : Int) = 76) := fun hh => c3 ((byte_eq _ 76).1 hh)
        simp [q3_20, q3_18, q3_16, q3_15, q3_14, q3_13, q3_1, h8', hl', ixstr e, c1', c2', c3', c1, c2, c3]
  rw [← key, ← h0]
  simp [q3_27, q3_26]
def typeOk (s : List UInt8) : Bool := decide (s ≠ []) && decide (takeM s = s.length)
@[simp] theorem s_Type (s : List UInt8) (hs : s.length ≤ 9223372036854775807) : (callW E).p 37 [.str s] = some ⟨.bool (typeOk s), [], true, [], []⟩ := by
  rw [x_q2]
  have h := s_take s hs
  by_cases h1 : s = []
  · simp [q2_1, h1, typeOk]
  · have e : ((takeM s : Int) = (s.length : Int)) ↔ takeM s = s.length := by omega
    simp [q2_1, h1, typeOk, h, e]
end Go.Vm
namespace Go.Vm
open Cel
attribute [local simp] callAny callP heapOf_nil
def numK (c : Int) : Int × Int × Int :=
  if c ∈ [96, 100, 104, 108, 112, 120, 122, 124, 126, 128, 130] then (1, 1, 1)
  else if c ∈ [97, 101, 105, 109, 113, 127, 129, 131] then (2, 2, 2)
  else if c ∈ [121, 123, 125] then (2, 1, 2)
  else if c = 148 then (2, 2, 1)
  else if c ∈ [116, 145, 146, 147] then (1, 0, 1)
  else if c = 117 then (2, 0, 2)
  else if c = 133 then (1, 0, 2)
  else if c = 136 then (2, 0, 1)
  else (0, 0, 0)
def isTup3 (r : Option (Ex AV)) (k : Int × Int × Int) : Bool :=
  match r with
  | some ⟨.tup [.int .i64 a, .int .i64 b, .int .i64 c], [], true, [], []⟩ => a == k.1 && b == k.2.1 && c == k.2.2
  | _ => false
theorem isTup3_eq {r : Option (Ex AV)} {k : Int × Int × Int} (h : isTup3 r k = true) : r = some ⟨.tup [.int .i64 k.1, .int .i64 k.2.1, .int .i64 k.2.2], [], true, [], []⟩ := by
  unfold isTup3 at h
  split at h
  · simp only [Bool.and_eq_true, beq_iff_eq] at h
    obtain ⟨⟨h1, h2⟩, h3⟩ := h
    rw [h1, h2, h3]
  · cases h
theorem range_all {n : Nat} {f : Nat → Bool} (h : ((List.range n).all f) = true) (i : Nat) (hi : i < n) : f i = true := by
  rw [List.all_eq_true] at h
  exact h i (List.mem_range.2 hi)
theorem num_in : ((List.range 60).all fun i => isTup3 ((both E 30).1.p 50 [.int .i64 (95 + i)]) (numK (95 + i))) = true := by kernel_rfl
theorem numK_out {c : Int} (h : c < 96 ∨ 148 < c) : numK c = (0, 0, 0) := by
  simp only [numK, List.mem_cons, List.not_mem_nil, or_false]
  repeat' split
  all_goals first | rfl | omega
theorem s_Kinds (c : Int) : (callW E).p 50 [.int .i64 c] = some ⟨.tup [.int .i64 (numK c).1, .int .i64 (numK c).2.1, .int .i64 (numK c).2.2], [], true, [], []⟩ := by
  by_cases h : c < 96 ∨ 148 < c
  · rw [numK_out h, x_q45]
    have h2 : ∀ k : Int, 96 ≤ k → k ≤ 148 → ¬ c = k := by omega
    simp [q45_1, q45_2, q45_3, q45_4, q45_5, q45_6, q45_7, q45_8, q45_9, q45_10, q45_11, q45_13, q45_15, h2]
    rfl
  · have := range_all num_in (c - 95).toNat (by omega)
    have e : (95 + ((c - 95).toNat : Int)) = c := by omega
    simp only [e] at this
    exact lift_p 30 (isTup3_eq this)
end Go.Vm
namespace Go.Vm
def kindsM (x : Ins) : Int × Int × Int × Int × Bool :=
  match x.op with
  | 1 => (0, -1, -1, -1, true)
  | 2 => (3, -1, -1, -1, true)
  | 3 => (3, -1, -1, -1, true)
  | 4 => (0, 0, -1, -1, true)
  | 5 => ((numK x.n).2.2, (numK x.n).1, (numK x.n).2.1, -1, decide (¬ (numK x.n).2.1 = 0))
  | 6 => ((numK x.n).2.2, (numK x.n).1, -1, -1, decide (¬ (numK x.n).1 = 0) && decide ((numK x.n).2.1 = 0))
  | 7 => (-1, 0, -1, -1, true)
  | 8 => (-1, 3, -1, -1, true)
  | 9 => (-1, 3, 1, -1, true)
  | 10 => (-1, 1, -1, -1, true)
  | 11 => (-1, 3, 3, -1, true)
  | 12 => (-1, 3, -1, -1, typeOk x.s)
  | 13 => (0, 3, 1, -1, true)
  | 14 => (-1, 3, 1, 0, true)
  | 15 => (1, 3, -1, -1, true)
  | 16 => (0, 3, -1, -1, decide (0 ≤ x.n))
  | 17 => (-1, 3, 0, -1, decide (0 ≤ x.n))
  | 18 => (0, -1, -1, -1, true)
  | 19 => (-1, 0, -1, -1, true)
  | 20 => (3, -1, -1, -1, true)
  | 21 => (3, 1, -1, -1, typeOk x.s)
  | 22 => (1, 3, -1, -1, typeOk x.s)
  | 23 => (if x.d = -1 then -1 else 0, -1, -1, -1, decide (0 ≤ x.n) && decide ((lst x.args).length ≤ 21))
  | 24 => (if x.d = -1 then -1 else 0, -1, -1, -1, decide (0 < (lst x.args).length) && decide (0 ≤ x.n) && decide ((lst x.args).length ≤ 21))
  | 25 => (if x.d = -1 then -1 else 0, -1, -1, -1, decide (0 < (lst x.args).length) && decide ((lst x.args).length ≤ 21))
  | 26 => (if x.d = -1 then -1 else 0, -1, -1, -1, decide (0 ≤ x.n) && decide ((lst x.args).length ≤ 21))
  | 27 => (-1, -1, -1, -1, true)
  | 28 => (-1, 1, 1, -1, decide (0 ≤ x.n) && decide (x.n ≤ 5))
  | 29 => (-1, 3, if x.b = -1 then -1 else 3, -1, decide (x.n = 0) || decide (x.n = 1))
  | 30 => (-1, if x.a = -1 then -1 else 0, -1, -1, true)
  | 31 => (-1, 3, -1, -1, true)
  | 32 => (3, -1, -1, -1, true)
  | 33 => (-1, -1, -1, -1, true)
  | _ => (0, 0, 0, 0, false)
def exK (k : Int × Int × Int × Int × Bool) : Ex AV := ⟨.tup [.agg [.int .i64 k.1, .int .i64 k.2.1, .int .i64 k.2.2.1, .int .i64 k.2.2.2.1], .bool k.2.2.2.2], [], true, [], []⟩
theorem kindsM_out {x : Ins} (h : x.op < 1 ∨ 33 < x.op) : kindsM x = (0, 0, 0, 0, false) := by
  unfold kindsM
  split <;> first | rfl | omega
end Go.Vm
namespace Go.Vm
def regK (R : List Int) (r : Int) : Int := if r < 0 then 0 else R.getD r.toNat 0
def inR (R : List Int) (r : Int) : Bool := decide (0 ≤ r) && decide (r < R.length)
def fieldOk (R : List Int) (w r : Int) : Bool := decide (w < 0) || (inR R r && (decide (w ≤ 0) || decide (regK R r = w)))
def firstOk (R : List Int) (x : Ins) : Bool :=
  match lst x.args with
  | [] => true
  | r :: _ => !(decide (x.op = 24) || decide (x.op = 25)) || decide (regK R r = 3)
def argsOk (R : List Int) (x : Ins) : Bool := !calls x.op || (firstOk R x && (lst x.args).all (inR R))
def tailOk (R : List Int) (ret : Int) (n : Nat) (x : Ins) : Bool :=
  if x.op = 1 then decide (¬ regK R x.d = 3) && (decide (regK R x.d = 2) || decide (x.n = IntKind.wrap .i64 (IntKind.wrap .i32 x.n)))
  else if x.op = 4 then decide (regK R x.d = regK R x.a)
  else if x.op = 7 then decide (¬ regK R x.a = 3)
  else if x.op = 30 then (decide (x.a = -1) == decide (ret = 0)) && (decide (x.a = -1) || decide (regK R x.a = ret))
  else !leads x.op || (decide (0 ≤ x.t) && decide (x.t < n))
def rightM (f : Fn) (x : Ins) : Bool :=
  (kindsM x).2.2.2.2 && fieldOk (lst f.regs) (kindsM x).1 x.d && fieldOk (lst f.regs) (kindsM x).2.1 x.a && fieldOk (lst f.regs) (kindsM x).2.2.1 x.b && fieldOk (lst f.regs) (kindsM x).2.2.2.1 x.c &&
    argsOk (lst f.regs) x && tailOk (lst f.regs) f.ret (lst f.code).length x
theorem inR_get {R : List Int} {r : Int} (h : inR R r = true) : 0 ≤ r ∧ r.toNat < R.length ∧ R[r.toNat]? = some (regK R r) := by
  simp only [inR, Bool.and_eq_true, decide_eq_true_eq] at h
  have h1 : r.toNat < R.length := by omega
  refine ⟨h.1, h1, ?_⟩
  rw [regK, if_neg (by omega), List.getD_eq_getElem?_getD, List.getElem?_eq_getElem h1]; rfl
def placeOk (n : Nat) (t : Int) : Bool := decide (0 ≤ t) && decide (t < n)
def spotOk (C : List Ins) (i : Nat) (x : Ins) : Bool :=
  !((decide (x.op = 32) && (decide (i = 0) || !ends ((C.getD (i - 1) default).op))) || (leads x.op && decide ((C.getD x.t.toNat default).op = 32)))
def codeOk (f : Fn) (C : List Ins) : Nat → List Ins → Bool
  | _, [] => true
  | i, x :: r => rightM f x && spotOk C i x && codeOk f C (i + 1) r
def rowOk (C : List Ins) (r : Row) : Bool :=
  !(decide (r.f < 0) || decide (r.t ≤ r.f) || decide ((C.length : Int) < r.t) || decide (r.at_ < 0) || decide ((C.length : Int) ≤ r.at_) || decide (¬ (C.getD r.at_.toNat default).op = 32))
def parOk (R : List Int) : Nat → List Int → List Int → Bool
  | _, _, [] => true
  | i, seen, p :: r => (inR R p && !seen.contains p && decide (i ≤ 20)) && parOk R (i + 1) (seen ++ [p]) r
def wf (f : Fn) : Bool :=
  decide (1 ≤ (lst f.code).length) && decide ((lst f.code).length ≤ 20000) && decide ((lst f.regs).length ≤ 20000) && decide (0 ≤ f.ret) && decide (f.ret ≤ 3) && ends ((lst f.code).getD ((lst f.code).length - 1) default).op &&
    (lst f.regs).all (fun k => decide (1 ≤ k) && decide (k ≤ 3)) && parOk (lst f.regs) 0 [] (lst f.params) && codeOk f (lst f.code) 0 (lst f.code) && (lst f.rows).all (rowOk (lst f.code))
end Go.Vm
namespace Go.Vm
open Cel
def nz {α : Type} : List α → Option (List α)
  | [] => none
  | x :: L => some (x :: L)
@[simp] theorem lst_nz {α : Type} (L : List α) : lst (nz L) = L := by cases L <;> rfl
section
variable {α : Type} [Cel α]
def slotV (α : Type) [Cel α] (j g : Nat) : List α → AV
  | [] => .nils
  | _ :: L => .ls j g (es α) 0 (L.length + 1)
def slotO (g : Nat) (o : AO) : List α → AO
  | [] => o
  | x :: L => ⟨g, .arr false false (es α) ((x :: L).map enc)⟩
@[simp] theorem slotV_nil (j g : Nat) : slotV α j g [] = .nils := rfl
@[simp] theorem slotO_nil (g : Nat) (o : AO) : slotO g o ([] : List α) = o := rfl
@[simp] theorem evLen_slot (j g : Nat) (L : List α) (H : Heap) : evLen 1 (slotV α j g L) H = some (.int .i64 L.length) := by
  cases L <;> simp [slotV, evLen]
@[simp] theorem cellsOf_slot (j g : Nat) (L : List α) : cellsOf (slotV α j g L) = [slotV α j g L] := by cases L <;> rfl
@[simp] theorem leaf1_slot (j g : Nat) (L : List α) : leaf1 (slotV α j g L) = true := by cases L <;> rfl
theorem slot_rows {H : Heap} {j g : Nat} {o : AO} {x : α} {L : List α} (h : H[j]? = some (slotO g o (x :: L))) : rowsAt H j g = some (false, es α, (x :: L).map enc) := by
  simp [rowsAt, objAt, h, slotO]
theorem fz_slot {H : Heap} {j g : Nat} {o : AO} {L : List α} (h : H[j]? = some (slotO g o L)) : fz H fuelF (slotV α j g L) = some ⟨slA (nz L), L.all scal, ids1 (slotV α j g L)⟩ := by
  cases L with
  | nil => rfl
  | cons x L =>
    rw [slotV, fz_ls, slot_rows h]
    simp only [List.drop_zero, Nat.zero_add, List.length_map, List.length_cons, Nat.le_refl, and_self, if_true]
    rw [show ((x :: L).map (enc (α := α))).take (L.length + 1) = (x :: L).map enc from take_rows (x :: L), fz_rows11]
    simp [slA, nz, ids1]
theorem expo1_slot {H : Heap} {j g : Nat} {o : AO} {L : List α} (h : H[j]? = some (slotO g o L)) : expo1 H (slotV α j g L) = some ⟨match L with | [] => .nils | _ :: _ => .ls 0 0 (es α) 0 L.length, match L with | [] => [] | _ :: _ => [.arr false false (es α) (L.map enc)], L.all scal, [], []⟩ := by
  cases L with
  | nil => rfl
  | cons x L =>
    rw [slotV, expo1_ls_eq, slot_rows h]
    simp only [List.drop_zero, Nat.zero_add, List.length_map, List.length_cons, Nat.le_refl, and_self, if_true]
    rw [show ((x :: L).map (enc (α := α))).take (L.length + 1) = (x :: L).map enc from take_rows (x :: L), fz_rows]
    simp
theorem expo1_slotX {H : Heap} {j g : Nat} {o : AO} {L : List α} (h : H[j]? = some (slotO g o L)) : expo1 H (slotV α j g L) = some (exO (nz L)) := by
  rw [expo1_slot h]
  cases L <;> rfl
theorem app_slot {H : Heap} {fb j g b : Nat} {o : AO} {y : AV} {L M : List α} (hy : rowsOf H (es α) y = some (M.map enc)) (h : H[fb + j]? = some (slotO g o L)) (hs : (2 * (L.length + M.length) + 512) * b ≤ 2 ^ 48) :
    ∃ g', evApp fb (some j) (es α) b (slotV α (fb + j) g L) y H = some (slotV α (fb + j) g' (L ++ M), H.set (fb + j) (slotO g' o (L ++ M))) := by
  unfold evApp
  rw [hy]
  have hlt : fb + j < H.length := (List.getElem?_eq_some_iff.1 h).1
  cases L with
  | nil =>
    cases M with
    | nil =>
      refine ⟨g, ?_⟩
      simp only [slotV, List.map_nil, List.isEmpty_nil, if_true, List.append_nil, slotO]
      rw [slotO] at h
      rw [show H.set (fb + j) o = H from by
        refine List.ext_getElem? fun i => ?_
        rw [List.getElem?_set]
        split
        · rename_i e; subst e; simp [h]
        · rfl]
    | cons y M =>
      refine ⟨o.gen + 1, ?_⟩
      rw [slotO] at h
      have hm : (M.length + 1) * b ≤ 281474976710656 := Nat.le_trans (Nat.mul_le_mul_right b (by simp only [List.length_nil, List.length_cons]; omega)) hs
      simp [slotV, hm, newArr, place, h, slotO]
  | cons x L =>
    refine ⟨g + 1, ?_⟩
    have h' : H[fb + j]? = some ⟨g, .arr false false (es α) ((x :: L).map enc)⟩ := h
    simp only [slotV, h']
    rw [if_pos (by simp; simpa using hs)]
    simp only [List.drop_zero]
    rw [show ((x :: L).map (enc (α := α))).take (L.length + 1) = (x :: L).map enc from take_rows (x :: L)]
    simp [slotV, slotO, Nat.add_right_comm]
end
@[simp] theorem rowsOf_ls (h : Heap) (es id g es1 off len : Nat) : rowsOf h es (.ls id g es1 off len) = match rowsAt h id g with
    | some (_, es', rows) => if es1 = es ∧ es' = es ∧ off + len ≤ rows.length then some ((rows.drop off).take len) else none
    | none => none := rfl
theorem fz_slotI {H : Heap} {j g : Nat} {o : AO} {L : List Int} (h : H[j]? = some (slotO g o L)) : fz H fuelF (slotV Int j g L) = some ⟨slA (nz L), true, ids1 (slotV Int j g L)⟩ := by
  rw [fz_slot h]
  simp
theorem app_int {H : Heap} {fb j g : Nat} {o : AO} {y : AV} {L : List Int} {n : Int} (hy : rowsOf H 1 y = some [[.int .i64 n]]) (h : H[fb + j]? = some (slotO g o L)) (hs : L.length ≤ 17000000000000) :
    ∃ g', evApp fb (some j) 1 8 (slotV Int (fb + j) g L) y H = some (slotV Int (fb + j) g' (L ++ [n]), H.set (fb + j) (slotO g' o (L ++ [n]))) := by
  refine app_slot (α := Int) (M := [n]) hy h ?_
  have : (2 * (L.length + [n].length) + 512) * 8 ≤ (2 * (17000000000000 + 1) + 512) * 8 := Nat.mul_le_mul_right 8 (by simp only [List.length_singleton]; omega)
  exact Nat.le_trans this (by decide)
theorem wrap_next {i : Int} {n : Nat} (h0 : 0 ≤ i) (h : i < n) (hn : n ≤ 9223372036854775807) : IntKind.wrap .i64 (i + 1) = i + 1 := by
  rw [wrap_i64] <;> omega
@[simp] theorem exO_nz {α : Type} [Cel α] (x : α) (L : List α) : exO (nz (x :: L)) = ⟨.ls 0 0 (es α) 0 (L.length + 1), [.arr false false (es α) ((x :: L).map enc)], (x :: L).all scal, [], []⟩ := rfl
theorem expo1_int1 {H : Heap} {id g : Nat} {a : Int} (h : rowsAt H id g = some (false, 1, [[.int .i64 a]])) : expo1 H (.ls id g 1 0 1) = some (exO (nz [a])) := expo1_own (α := Int) (L := [a]) h
theorem expo1_int2 {H : Heap} {id g : Nat} {a b : Int} (h : rowsAt H id g = some (false, 1, [[.int .i64 a], [.int .i64 b]])) : expo1 H (.ls id g 1 0 2) = some (exO (nz [a, b])) := expo1_own (α := Int) (L := [a, b]) h
abbrev D0 : AO := ⟨0, .dead⟩
section
variable {α : Type} [Cel α]
theorem app_stk {H : Heap} {fb id g b : Nat} {sl : Option Nat} {y : AV} {L M T : List α} (hy : rowsOf H (es α) y = some (M.map enc)) (h : H[id]? = some ⟨g, .arr false false (es α) ((L ++ T).map enc)⟩) (hs : (2 * (L.length + M.length) + 512) * b ≤ 2 ^ 48) :
    evApp fb sl (es α) b (.ls id g (es α) 0 L.length) y H = some (.ls id (g + 1) (es α) 0 (L ++ M).length, H.set id ⟨g + 1, .arr false false (es α) ((L ++ M).map enc)⟩) := by
  unfold evApp
  rw [hy]
  simp only [h]
  rw [if_pos (by simp; simpa using hs)]
  simp only [List.drop_zero, List.map_append, List.length_append]
  rw [List.take_append_of_le_length (by simp), take_rows, List.length_map]
end
theorem stk_ld {H : Heap} {id g : Nat} {L T : List Int} {i : Int} (h : rowsAt H id g = some (false, 1, (L ++ i :: T).map enc)) : evLd false 1 (.lp id g L.length 0) H = some (.int .i64 i) := by
  simp [evLd, h]
theorem stk_ix (id g : Nat) (L : Nat) : evIxs 1 (.ls id g 1 0 (L + 1)) (.int .i64 (L : Int)) = some (.lp id g L 0) := by
  have : (L : Int) < (L : Int) + 1 := by omega
  simp [evIxs, this]
theorem stk_slc (id g : Nat) (L : Nat) : evSlcO 1 (.ls id g 1 0 (L + 1)) none (some (.int .i64 (L : Int))) = some (.ls id g 1 0 L) := by
  have : (L : Int) ≤ (L : Int) + 1 := by omega
  simp [evSlcO, evSlc, optIxv, asNat, this]
@[simp] theorem exO_nz0 {α : Type} [Cel α] : exO (nz ([] : List α)) = ⟨.nils, [], true, [], []⟩ := rfl
theorem evSt_at {α : Type} [Cel α] {H : Heap} {id g i : Nat} {L : List α} {v : AV} {y : α} (h : H[id]? = some ⟨g, .arr false false (es α) (L.map enc)⟩) (hi : i < L.length) (hv : cellsOf v = enc y) :
    evSt (es α) (.lp id g i 0) v H = some (.tup [], H.set id ⟨g, .arr false false (es α) ((L.set i y).map enc)⟩) := by
  have hr : rowsAt H id g = some (false, es α, L.map enc) := by simp [rowsAt, objAt, h]
  have hg : (L.map (enc (α := α)))[i]? = some (enc L[i]) := by simp [hi]
  rw [evSt_lp, hr]
  simp only [hg, hv]
  rw [if_pos ⟨len y, by rw [len]; omega, leaf y⟩]
  rw [splice_all (by rw [len, len]), setRows, h]
  simp only
  rw [List.map_set]
theorem app_bound {a b : Nat} (h : a + b ≤ 137438953472) : (2 * (a + b) + 512) * 8 ≤ 2 ^ 48 := by
  have : (2 * (a + b) + 512) * 8 ≤ (2 * 137438953472 + 512) * 8 := Nat.mul_le_mul_right 8 (by omega)
  exact Nat.le_trans this (by decide)
theorem ld_at {α : Type} [Cel α] {H : Heap} {id g i : Nat} {L : List α} {x : α} {v : AV} (h : H[id]? = some ⟨g, .arr false false (es α) (L.map enc)⟩) (hx : L[i]? = some x) (hv : (enc x).head? = some v) : evLd false 1 (.lp id g i 0) H = some v := by
  have hr : rowsAt H id g = some (false, es α, L.map enc) := by simp [rowsAt, objAt, h]
  have hg : (L.map (enc (α := α)))[i]? = some (enc x) := by simp [hx]
  rw [evLd_lp, hr]
  simp only [hg, aggOr_f, List.drop_zero, hv]
abbrev AB (f : Fn) : AO := ⟨1, .arr true false 5 [enc f]⟩
abbrev AL (g : Nat) (L : List Bool) : AO := ⟨g, .arr false false 1 (L.map enc)⟩
abbrev AI (g : Nat) (L : List Int) : AO := ⟨g, .arr false false 1 (L.map enc)⟩
theorem ixAt' {n : Nat} {p : Int} (h0 : 0 ≤ p) (h1 : p < (n : Int)) (id g : Nat) (k : IntKind) : evIxs 1 (.ls id g 1 0 n) (.int k p) = some (.lp id g p.toNat 0) := by simp [evIxs, h0, h1]
end Go.Vm
namespace Go.Vm
section
variable (n : Nat) (S : Nat → List Int) (A : List Int)
inductive Rch : Nat → Prop
  | base {j : Int} : j ∈ A → 0 ≤ j → j < n → Rch j.toNat
  | step {i : Nat} {j : Int} : Rch i → j ∈ S i → 0 ≤ j → j < n → Rch j.toNat
def unseen (seen : List Bool) : Nat := seen.countP (! ·)
end
section
variable {n : Nat} {S : Nat → List Int} {A : List Int}
theorem Rch.lt {i : Nat} (h : Rch n S A i) : i < n := by cases h <;> omega
theorem getLast_split {op : List Int} {i : Int} (h : op.getLast? = some i) : op = op.dropLast ++ [i] := by
  have hne : op ≠ [] := by intro e; rw [e] at h; cases h
  have := List.dropLast_concat_getLast hne
  rw [List.getLast?_eq_some_getLast hne] at h
  injection h with h
  rw [h] at this
  exact this.symm
theorem mem_dropLast {op : List Int} {j : Int} (h : j ∈ op.dropLast) : j ∈ op := (List.dropLast_sublist op).mem h
structure DfsI (n : Nat) (S : Nat → List Int) (A : List Int) (seen : List Bool) (op : List Int) : Prop where
  len : seen.length = n
  ok : ∀ i : Nat, seen[i]? = some true → Rch n S A i
  opn : ∀ j : Int, j ∈ op → 0 ≤ j → j < n → Rch n S A j.toNat
  cl : ∀ (i : Nat) (j : Int), seen[i]? = some true → j ∈ S i → 0 ≤ j → j < n → seen[j.toNat]? = some true ∨ j ∈ op
  st : ∀ j : Int, j ∈ A → 0 ≤ j → j < n → seen[j.toNat]? = some true ∨ j ∈ op
theorem DfsI.start : DfsI n S A (List.replicate n false) A where
  len := by simp
  ok i h := by rw [List.getElem?_replicate] at h; split at h <;> cases h
  opn j h h0 h1 := .base h h0 h1
  cl i j h := by rw [List.getElem?_replicate] at h; split at h <;> cases h
  st j h _ _ := .inr h
theorem DfsI.skip {seen : List Bool} {op : List Int} (I : DfsI n S A seen op) {i : Int} (hop : op.getLast? = some i) (hc : i < 0 ∨ (n : Int) ≤ i ∨ seen.getD i.toNat true = true) : DfsI n S A seen op.dropLast := by
  have e := getLast_split hop
  have key : ∀ j : Int, 0 ≤ j → j < n → (seen[j.toNat]? = some true ∨ j ∈ op) → seen[j.toNat]? = some true ∨ j ∈ op.dropLast := by
    intro j h0 h1 h
    rcases h with h | h
    · exact .inl h
    · rw [e, List.mem_append, List.mem_singleton] at h
      rcases h with h | rfl
      · exact .inr h
      · rcases hc with hc | hc | hc
        · omega
        · omega
        · left
          have : j.toNat < seen.length := by rw [I.len]; omega
          rw [List.getD_eq_getElem?_getD, List.getElem?_eq_getElem this] at hc
          rw [List.getElem?_eq_getElem this]
          simpa using hc
  exact ⟨I.len, I.ok, fun j hj => I.opn j (mem_dropLast hj), fun i j h1 h2 h3 h4 => key j h3 h4 (I.cl i j h1 h2 h3 h4), fun j h1 h3 h4 => key j h3 h4 (I.st j h1 h3 h4)⟩
theorem DfsI.take {seen : List Bool} {op : List Int} (I : DfsI n S A seen op) {i : Int} (hop : op.getLast? = some i) (h0 : 0 ≤ i) (h1 : i < n) : DfsI n S A (seen.set i.toNat true) (op.dropLast ++ S i.toNat) := by
  have e := getLast_split hop
  have hi : Rch n S A i.toNat := I.opn i (by rw [e]; simp) h0 h1
  have hlt : i.toNat < seen.length := by rw [I.len]; omega
  have hset : ∀ j : Nat, (seen.set i.toNat true)[j]? = some true ↔ seen[j]? = some true ∨ j = i.toNat := by
    intro j
    rw [List.getElem?_set]
    by_cases hj : i.toNat = j
    · subst hj; simp [hlt]
    · rw [if_neg hj]
      exact ⟨.inl, fun h => h.resolve_right (fun e => hj e.symm)⟩
  have key : ∀ j : Int, 0 ≤ j → j < n → (seen[j.toNat]? = some true ∨ j ∈ op) → (seen.set i.toNat true)[j.toNat]? = some true ∨ j ∈ op.dropLast ++ S i.toNat := by
    intro j h2 h3 h
    rw [hset]
    rcases h with h | h
    · exact .inl (.inl h)
    · rw [e, List.mem_append, List.mem_singleton] at h
      rcases h with h | rfl
      · exact .inr (List.mem_append_left _ h)
      · exact .inl (.inr rfl)
  refine ⟨by simpa using I.len, fun j hj => ?_, fun j hj h2 h3 => ?_, fun k j hk hj h2 h3 => ?_, fun j hj h2 h3 => key j h2 h3 (I.st j hj h2 h3)⟩
  · rcases (hset j).1 hj with h | rfl
    · exact I.ok j h
    · exact hi
  · rcases List.mem_append.1 hj with h | h
    · exact I.opn j (mem_dropLast h) h2 h3
    · exact .step hi h h2 h3
  · rcases (hset k).1 hk with h | rfl
    · exact key j h2 h3 (I.cl k j h hj h2 h3)
    · exact .inr (List.mem_append_right _ hj)
theorem DfsI.done {seen : List Bool} (I : DfsI n S A seen []) (i : Nat) : seen[i]? = some true ↔ Rch n S A i := by
  refine ⟨I.ok i, fun h => ?_⟩
  induction h with
  | base h h0 h1 => exact (I.st _ h h0 h1).resolve_right (by simp)
  | step _ hj h0 h1 ih => exact (I.cl _ _ ih hj h0 h1).resolve_right (by simp)
structure RI (n : Nat) (S : Nat → List Int) (A : List Int) (seen : List Bool) (s : List Bool × Bool) : Prop where
  len : s.1.length = n
  ok : ∀ i : Nat, s.1[i]? = some true → Rch n S A i
  up : ∀ i : Nat, seen[i]? = some true → s.1[i]? = some true
  un : unseen s.1 ≤ unseen seen
  lt : s.2 = true → unseen s.1 < unseen seen
  eq : s.2 = false → s.1 = seen
end
theorem range_set' {α : Type} {n k : Nat} {p q : Nat → α} {v : α} (hq : q k = v) (he : ∀ j, j ≠ k → q j = p j) : ((List.range n).map p).set k v = (List.range n).map q := by
  refine List.ext_getElem (by simp) fun i h1 h2 => ?_
  rw [List.getElem_set]
  simp only [List.getElem_map, List.getElem_range]
  by_cases e : k = i
  · rw [if_pos e, ← e, hq]
  · rw [if_neg e, he i (fun h => e h.symm)]
end Go.Vm
namespace Go.Vm
def addN (l : List Int) (j : Int) : List Int := if l.contains j then l else l ++ [j]
def insAt (f : Fn) (i : Nat) : Ins := (lst f.code).getD i default
def nextI (x : Ins) (i : Int) : List Int := if leads x.op then addN (if ends x.op then [] else [i + 1]) x.t else if ends x.op then [] else [i + 1]
def nextL (f : Fn) (i : Int) : List Int := if i < 0 ∨ ((lst f.code).length : Int) ≤ i then [] else nextI (insAt f i.toNat) i
def caughtG (i : Int) : List Row → List Int → List Int
  | [], l => l
  | r :: rs, l => if r.f ≤ i ∧ i < r.t then (if r.c = [] then addN l r.at_ else caughtG i rs (addN l r.at_)) else caughtG i rs l
def caughtL (f : Fn) (i : Int) : List Int := if i < 0 ∨ ((lst f.code).length : Int) ≤ i then [] else if throws (insAt f i.toNat).op then caughtG i (lst f.rows) [] else []
theorem addN_len (l : List Int) (j : Int) : (addN l j).length ≤ l.length + 1 := by
  unfold addN
  split <;> simp
theorem nextI_len (x : Ins) (i : Int) : (nextI x i).length ≤ 2 := by
  unfold nextI
  split
  · have := addN_len (if ends x.op then [] else [i + 1]) x.t
    split at this <;> simp_all <;> omega
  · split <;> simp
theorem nextL_len (f : Fn) (i : Int) : (nextL f i).length ≤ 2 := by
  unfold nextL
  split
  · simp
  · exact nextI_len _ _
theorem insAt_lt {f : Fn} {i : Nat} (h : i < (lst f.code).length) : (lst f.code)[i]? = some (insAt f i) := by
  rw [insAt, List.getD_eq_getElem?_getD, List.getElem?_eq_getElem h]; rfl
end Go.Vm
namespace Go.Vm
theorem codeOk_at {f : Fn} {C : List Ins} : ∀ {l : List Ins} {i k : Nat} {x : Ins}, codeOk f C i l = true → l[k]? = some x → rightM f x = true ∧ spotOk C (i + k) x = true
  | [], _, _, _, _, h => by simp at h
  | y :: l, i, k, x, hk, h => by
    simp only [codeOk, Bool.and_eq_true] at hk
    cases k with
    | zero => simp at h; subst h; exact hk.1
    | succ k =>
      have := codeOk_at hk.2 (by simpa using h)
      rwa [show i + 1 + k = i + (k + 1) by omega] at this
structure Wf (f : Fn) : Prop where
  n1 : 1 ≤ (lst f.code).length
  n2 : (lst f.code).length ≤ 20000
  regs : (lst f.regs).length ≤ 20000
  ret0 : 0 ≤ f.ret
  ret3 : f.ret ≤ 3
  last : ends (insAt f ((lst f.code).length - 1)).op = true
  kinds : ∀ k ∈ lst f.regs, 1 ≤ k ∧ k ≤ 3
  pars : parOk (lst f.regs) 0 [] (lst f.params) = true
  ins : ∀ i, i < (lst f.code).length → rightM f (insAt f i) = true
  spot : ∀ i, i < (lst f.code).length → spotOk (lst f.code) i (insAt f i) = true
  rows : ∀ r ∈ lst f.rows, rowOk (lst f.code) r = true
theorem wf_of {f : Fn} (h : wf f = true) : Wf f := by
  simp only [wf, Bool.and_eq_true, decide_eq_true_eq, List.all_eq_true] at h
  obtain ⟨⟨⟨⟨⟨⟨⟨⟨⟨h1, h2⟩, h3⟩, h4⟩, h5⟩, h6⟩, h7⟩, h8⟩, h9⟩, h10⟩ := h
  refine ⟨h1, h2, h3, h4, h5, h6, h7, h8, fun i hi => ?_, fun i hi => ?_, h10⟩
  · exact (codeOk_at h9 (insAt_lt hi)).1
  · have := (codeOk_at h9 (insAt_lt hi)).2
    rwa [Nat.zero_add] at this
theorem tail_leads' {R : List Int} {ret : Int} {n : Nat} {x : Ins} (h : tailOk R ret n x = true) (hl : leads x.op = true) : 0 ≤ x.t ∧ x.t < n := by
  have hne : ¬ x.op = 1 ∧ ¬ x.op = 4 ∧ ¬ x.op = 7 ∧ ¬ x.op = 30 := by
    simp only [leads, Bool.or_eq_true, decide_eq_true_eq] at hl
    omega
  simp only [tailOk, hne, if_false, hl, Bool.not_true, Bool.false_or, Bool.and_eq_true, decide_eq_true_eq] at h
  exact h
theorem Wf.leads {f : Fn} (w : Wf f) {i : Nat} (hi : i < (lst f.code).length) (hl : Go.Vm.leads (insAt f i).op = true) : 0 ≤ (insAt f i).t ∧ (insAt f i).t < (lst f.code).length := by
  have h := w.ins i hi
  simp only [rightM, Bool.and_eq_true] at h
  exact tail_leads' h.2 hl
structure RowIn (f : Fn) (r : Row) : Prop where
  f0 : 0 ≤ r.f
  ft : r.f < r.t
  tn : r.t ≤ (lst f.code).length
  a0 : 0 ≤ r.at_
  an : r.at_ < (lst f.code).length
  op : (insAt f r.at_.toNat).op = 32
theorem Wf.row {f : Fn} (w : Wf f) {r : Row} (hr : r ∈ lst f.rows) : RowIn f r := by
  have h := w.rows r hr
  simp only [rowOk, Bool.not_eq_true', Bool.or_eq_false_iff, decide_eq_false_iff_not, Classical.not_not] at h
  exact ⟨by omega, by omega, by omega, by omega, by omega, h.2⟩
end Go.Vm
