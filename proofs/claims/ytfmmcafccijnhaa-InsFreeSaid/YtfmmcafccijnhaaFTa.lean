/- Facts for reading the machine's functions: combinators at known values; lists of things of one kind as slices. The things that the layers speak of: instructions, rows, functions. What is handed in, as things. What is told of instructions, in plain words. What is told of types' descriptors. Names, the type at a text's beginning, types. What the stack's instructions over numbers take and give. What an instruction wants of its registers, in plain words. When an instruction, a function is well formed, in plain words. What an instruction doesn't need makes no difference, in plain words. The document's table of operations. The document's answer whether an operation is a call. The document's Needs, Writes. Whether two lists of numbers are the same. What the functions of 'ins' answer of single instructions. Clones of lists of numbers. What 'Uses' answers. The register that an instruction writes. Lists that a function builds by appending, at a place of its own. What a callee made, as the caller's own: a list, or nothing. -/
import Derived.Test.YtfmmcafccijnhaaVc
import Derived.Test.YtfmmcafccijnhaaFX
set_option linter.unusedSimpArgs false
set_option linter.unusedVariables false
set_option linter.unusedSectionVars false
namespace Go.Vm
section comb
variable {α : Type}
@[simp] theorem ob_some (v : AV) (K : AV → Option α) : ob (some v) K = K v := rfl
@[simp] theorem oh_some (v : AV) (h : Heap) (K : AV → Heap → Option α) : oh (some (v, h)) K = K v h := rfl
@[simp] theorem ofp_some {β : Type} (v : β) (K : β → Option α) : ofp (some v) K = K v := rfl
@[simp] theorem gb_tt (x : Option AV) (K : AV → Option α) : gb (.bool true) true x K = ob x K := rfl
@[simp] theorem gb_ff (x : Option AV) (K : AV → Option α) : gb (.bool false) false x K = ob x K := rfl
@[simp] theorem gb_tf (x : Option AV) (K : AV → Option α) : gb (.bool true) false x K = K (.tup []) := rfl
@[simp] theorem gb_ft (x : Option AV) (K : AV → Option α) : gb (.bool false) true x K = K (.tup []) := rfl
@[simp] theorem gb_tup (w : Bool) (x : Option AV) (K : AV → Option α) : gb (.tup []) w x K = K (.tup []) := rfl
@[simp] theorem gh_tt (x : Option (AV × Heap)) (h : Heap) (K : AV → Heap → Option α) : gh (.bool true) true x h K = oh x K := rfl
@[simp] theorem gh_ff (x : Option (AV × Heap)) (h : Heap) (K : AV → Heap → Option α) : gh (.bool false) false x h K = oh x K := rfl
@[simp] theorem gh_tf (x : Option (AV × Heap)) (h : Heap) (K : AV → Heap → Option α) : gh (.bool true) false x h K = K (.tup []) h := rfl
@[simp] theorem gh_ft (x : Option (AV × Heap)) (h : Heap) (K : AV → Heap → Option α) : gh (.bool false) true x h K = K (.tup []) h := rfl
@[simp] theorem gh_tup (w : Bool) (x : Option (AV × Heap)) (h : Heap) (K : AV → Heap → Option α) : gh (.tup []) w x h K = K (.tup []) h := rfl
@[simp] theorem fgd_tt (x : Option (List Nat × List Nat)) : fgd (.bool true) true x = x := rfl
@[simp] theorem fgd_ff (x : Option (List Nat × List Nat)) : fgd (.bool false) false x = x := rfl
@[simp] theorem fgd_tf (x : Option (List Nat × List Nat)) : fgd (.bool true) false x = some ([], []) := rfl
@[simp] theorem fgd_ft (x : Option (List Nat × List Nat)) : fgd (.bool false) true x = some ([], []) := rfl
@[simp] theorem fgd_tup (w : Bool) (x : Option (List Nat × List Nat)) : fgd (.tup []) w x = some ([], []) := rfl
@[simp] theorem cnd_t (a b : Option α) : cnd (.bool true) a b = a := rfl
@[simp] theorem cnd_f (a b : Option α) : cnd (.bool false) a b = b := rfl
@[simp] theorem okK_t (x : Option α) : okK true x = x := rfl
theorem cnd_if (c : Bool) (a b : Option α) : cnd (.bool c) a b = if c = true then a else b := by cases c <;> rfl
@[simp] theorem evPick_t (a b : AV) : evPick (.bool true) a b = some a := rfl
@[simp] theorem evPick_f (a b : AV) : evPick (.bool false) a b = some b := rfl
@[simp] theorem evUn_not (b : Bool) : evUn .not (.bool b) = some (.bool (!b)) := rfl
@[simp] theorem evEqb_b (neq a b : Bool) : evEqb neq (.bool a) (.bool b) = some (.bool (if neq then !(a == b) else a == b)) := rfl
@[simp] theorem evExt_tup (i : Nat) (vs : List AV) : evExt i (.tup vs) = vs[i]? := rfl
@[simp] theorem evCvi_int (k k' : IntKind) (n : Int) : evCvi k (.int k' n) = some (.int k (k.wrap n)) := rfl
@[simp] theorem evNilchk_rp (cs : List AV) : evNilchk (.rp cs) = some (.rp cs) := rfl
@[simp] theorem evNilchk_lp (id g i off : Nat) : evNilchk (.lp id g i off) = some (.lp id g i off) := rfl
@[congr] theorem ob_cg {x x' : Option AV} (h : x = x') (K : AV → Option α) : ob x K = ob x' K := by rw [h]
@[congr] theorem oh_cg {x x' : Option (AV × Heap)} (h : x = x') (K : AV → Heap → Option α) : oh x K = oh x' K := by rw [h]
@[congr] theorem ofp_cg {β : Type} {x x' : Option β} (h : x = x') (K : β → Option α) : ofp x K = ofp x' K := by rw [h]
@[congr] theorem gb_cg {g g' : AV} (h : g = g') (w : Bool) (x : Option AV) (K : AV → Option α) : gb g w x K = gb g' w x K := by rw [h]
@[congr] theorem gh_cg {g g' : AV} (h : g = g') (w : Bool) (x : Option (AV × Heap)) (hp : Heap) (K : AV → Heap → Option α) : gh g w x hp K = gh g' w x hp K := by rw [h]
@[congr] theorem fgd_cg {g g' : AV} (h : g = g') (w : Bool) (x : Option (List Nat × List Nat)) : fgd g w x = fgd g' w x := by rw [h]
@[congr] theorem cnd_cg {c c' : AV} (h : c = c') (a b : Option α) : cnd c a b = cnd c' a b := by rw [h]
@[congr] theorem okK_cg {c c' : Bool} (h : c = c') (a : Option α) : okK c a = okK c' a := by rw [h]
end comb
section ints
variable (k : IntKind) (a b : Int)
@[simp] theorem evBin_add : evBin .add (.int k a) (.int k b) = some (.int k (k.wrap (a + b))) := by simp [evBin, isShift, binInt]
@[simp] theorem evBin_sub : evBin .sub (.int k a) (.int k b) = some (.int k (k.wrap (a - b))) := by simp [evBin, isShift, binInt]
@[simp] theorem evBin_mul : evBin .mul (.int k a) (.int k b) = some (.int k (k.wrap (a * b))) := by simp [evBin, isShift, binInt]
@[simp] theorem evBin_eql : evBin .eql (.int k a) (.int k b) = some (.bool (decide (a = b))) := by simp [evBin, isShift, binInt, Bool.beq_eq_decide_eq]
@[simp] theorem evBin_neq : evBin .neq (.int k a) (.int k b) = some (.bool (decide (a ≠ b))) := by simp [evBin, isShift, binInt, bne, Bool.beq_eq_decide_eq]
@[simp] theorem evBin_lss : evBin .lss (.int k a) (.int k b) = some (.bool (decide (a < b))) := by simp [evBin, isShift, binInt]
@[simp] theorem evBin_leq : evBin .leq (.int k a) (.int k b) = some (.bool (decide (a ≤ b))) := by simp [evBin, isShift, binInt]
@[simp] theorem evBin_gtr : evBin .gtr (.int k a) (.int k b) = some (.bool (decide (b < a))) := by simp [evBin, isShift, binInt]
@[simp] theorem evBin_geq : evBin .geq (.int k a) (.int k b) = some (.bool (decide (b ≤ a))) := by simp [evBin, isShift, binInt]
end ints
@[simp] theorem evBin_seql (a b : List UInt8) : evBin .eql (.str a) (.str b) = some (.bool (decide (a = b))) := by simp [evBin, binStr, Bool.beq_eq_decide_eq]
@[simp] theorem evBin_sneq (a b : List UInt8) : evBin .neq (.str a) (.str b) = some (.bool (decide (a ≠ b))) := by simp [evBin, binStr, Bool.beq_eq_decide_eq]
theorem wrap_i64 {n : Int} (h0 : -9223372036854775808 ≤ n) (h1 : n < 9223372036854775808) : IntKind.wrap .i64 n = n := by
  simp [IntKind.wrap, IntKind.bits, IntKind.signed]; omega
theorem wrap_succ {i n : Nat} (h : i < n) (hn : n ≤ 9223372036854775807) : IntKind.wrap .i64 ((i : Int) + 1) = ((i + 1 : Nat) : Int) := by
  rw [wrap_i64] <;> omega
theorem wrap_up {i n : Nat} (h : i < n) (hn : n ≤ 9223372036854775807) : IntKind.wrap .i64 ((i : Int) + 1) = (i : Int) + 1 := by rw [wrap_succ h hn]; rfl
theorem drop_dec {α : Type} [DecidableEq α] {a b : List α} {i : Nat} (h1 : i < a.length) (h2 : i < b.length) : decide (a.drop i = b.drop i) = (decide (a[i] = b[i]) && decide (a.drop (i + 1) = b.drop (i + 1))) := by
  rw [← Bool.decide_and]
  congr 1
  rw [List.drop_eq_getElem_cons h1, List.drop_eq_getElem_cons h2, List.cons_eq_cons]
theorem wrap_pred {n : Nat} (h : 0 < n) (hn : n ≤ 9223372036854775807) : IntKind.wrap .i64 ((n : Int) - 1) = ((n - 1 : Nat) : Int) := by
  rw [wrap_i64] <;> omega
@[simp] theorem evFa_rp (k : Nat) (cs : List AV) : evFa k (.rp cs) = some (.rp (cs.drop k)) := rfl
@[simp] theorem evFa_lp (k id g i o : Nat) : evFa k (.lp id g i o) = some (.lp id g i (o + k)) := rfl
@[simp] theorem evLd_rp (agg : Bool) (n : Nat) (cs : List AV) (h : Heap) : evLd agg n (.rp cs) h = aggOr agg n cs := rfl
@[simp] theorem aggOr_f (n : Nat) (cs : List AV) : aggOr false n cs = cs.head? := rfl
@[simp] theorem cellsOf_agg (cs : List AV) : cellsOf (.agg cs) = cs := rfl
@[simp] theorem cellsOf_int (k : IntKind) (n : Int) : cellsOf (.int k n) = [.int k n] := rfl
@[simp] theorem cellsOf_bool (b : Bool) : cellsOf (.bool b) = [.bool b] := rfl
@[simp] theorem cellsOf_str (s : List UInt8) : cellsOf (.str s) = [.str s] := rfl
@[simp] theorem cellsOf_nils : cellsOf .nils = [.nils] := rfl
@[simp] theorem cellsOf_rs (es : Nat) (rows : List (List AV)) : cellsOf (.rs es rows) = [.rs es rows] := rfl
@[simp] theorem cellsOf_ls (id g es off len : Nat) : cellsOf (.ls id g es off len) = [.ls id g es off len] := rfl
class Cel (α : Type) where
  es : Nat
  enc : α → List AV
  len : ∀ x, (enc x).length = es
  pur : ∀ x, (enc x).all pure1 = true
  leaf : ∀ x, (enc x).all leaf1 = true
open Cel
instance : Cel Int := ⟨1, fun n => [.int .i64 n], fun _ => rfl, fun _ => rfl, fun _ => rfl⟩
instance : Cel Bool := ⟨1, fun b => [.bool b], fun _ => rfl, fun _ => rfl, fun _ => rfl⟩
abbrev Str := List UInt8
structure Tx where
  s : List UInt8
  deriving DecidableEq, Inhabited
instance : Cel Tx := ⟨1, fun b => [.str b.s], fun _ => rfl, fun _ => rfl, fun _ => rfl⟩
@[simp] theorem enc_int (n : Int) : enc n = [.int .i64 n] := rfl
@[simp] theorem enc_bool (b : Bool) : enc b = [.bool b] := rfl
@[simp] theorem enc_tx (b : Tx) : enc b = [.str b.s] := rfl
@[simp] theorem es_int : es Int = 1 := rfl
@[simp] theorem es_bool : es Bool = 1 := rfl
@[simp] theorem es_tx : es Tx = 1 := rfl
variable {α : Type} [Cel α]
def scal (x : α) : Bool := (enc x).all scalar1
@[simp] theorem scal_int (n : Int) : scal n = true := rfl
@[simp] theorem scal_bool (b : Bool) : scal b = true := rfl
@[simp] theorem scal_tx (b : Tx) : scal b = true := rfl
abbrev Sl (α : Type) := Option (List α)
def lst (o : Option (List α)) : List α := o.getD []
omit [Cel α] in
@[simp] theorem lst_none : lst (none : Option (List α)) = [] := rfl
omit [Cel α] in
@[simp] theorem lst_some (L : List α) : lst (some L) = L := rfl
def slA : Option (List α) → AV
  | none => .nils
  | some L => .rs (es α) (L.map enc)
instance : Cel (Option (List α)) := ⟨1, fun o => [slA o], fun _ => rfl, fun o => by cases o <;> rfl, fun o => by cases o <;> rfl⟩
@[simp] theorem enc_sl (o : Option (List α)) : enc o = [slA o] := rfl
@[simp] theorem es_sl : es (Option (List α)) = 1 := rfl
@[simp] theorem pure1_int (k : IntKind) (n : Int) : pure1 (.int k n) = true := rfl
@[simp] theorem pure1_bool (b : Bool) : pure1 (.bool b) = true := rfl
@[simp] theorem pure1_str (b : List UInt8) : pure1 (.str b) = true := rfl
@[simp] theorem pure1_nils : pure1 .nils = true := rfl
@[simp] theorem leaf1_int (k : IntKind) (n : Int) : leaf1 (.int k n) = true := rfl
@[simp] theorem leaf1_bool (b : Bool) : leaf1 (.bool b) = true := rfl
@[simp] theorem leaf1_str (b : List UInt8) : leaf1 (.str b) = true := rfl
@[simp] theorem leaf1_nils : leaf1 .nils = true := rfl
@[simp] theorem leaf1_rs (es : Nat) (r : List (List AV)) : leaf1 (.rs es r) = true := rfl
@[simp] theorem leaf1_ls (id g es off len : Nat) : leaf1 (.ls id g es off len) = true := rfl
@[simp] theorem leaf1_lp (id g i o : Nat) : leaf1 (.lp id g i o) = true := rfl
@[simp] theorem scalar1_int (k : IntKind) (n : Int) : scalar1 (.int k n) = true := rfl
@[simp] theorem scalar1_bool (b : Bool) : scalar1 (.bool b) = true := rfl
@[simp] theorem scalar1_str (b : List UInt8) : scalar1 (.str b) = true := rfl
@[simp] theorem scalar1_nils : scalar1 .nils = true := rfl
@[simp] theorem cellsOf_sl (o : Option (List α)) : cellsOf (slA o) = [slA o] := by cases o <;> rfl
@[simp] theorem leaf1_sl (o : Option (List α)) : leaf1 (slA o) = true := by cases o <;> rfl
@[simp] theorem pure1_sl (o : Option (List α)) : pure1 (slA o) = true := by cases o <;> rfl
@[simp] theorem scalar1_sl (o : Option (List α)) : scalar1 (slA o) = (lst o).isEmpty := by
  cases o with
  | none => rfl
  | some L => cases L <;> rfl
@[simp] theorem evLen_sl (o : Option (List α)) (h : Heap) : evLen 1 (slA o) h = some (.int .i64 (lst o).length) := by cases o <;> simp [slA, evLen]
@[simp] theorem evLen_str (s : List UInt8) (h : Heap) : evLen 0 (.str s) h = some (.int .i64 s.length) := rfl
@[simp] theorem evLen_ls (id g es off len : Nat) (h : Heap) : evLen 1 (.ls id g es off len) h = some (.int .i64 len) := rfl
@[simp] theorem evLen_nils (h : Heap) : evLen 1 .nils h = some (.int .i64 0) := rfl
@[simp] theorem ids1_lp (id g i o : Nat) : ids1 (.lp id g i o) = [id] := rfl
@[simp] theorem ids1_ls (id g es o l : Nat) : ids1 (.ls id g es o l) = [id] := rfl
@[simp] theorem ids1_rp (cs : List AV) : ids1 (.rp cs) = [] := rfl
@[simp] theorem ids1_int (k : IntKind) (n : Int) : ids1 (.int k n) = [] := rfl
@[simp] theorem ids1_str (s : List UInt8) : ids1 (.str s) = [] := rfl
@[simp] theorem ids1_sl (o : Option (List α)) : ids1 (slA o) = [] := by cases o <;> rfl
@[simp] theorem evEqnB_sl_nil (neq : Bool) (o : Option (List α)) : evEqnB 1 neq (slA o) .nils = some (.bool (if neq then o.isSome else o.isNone)) := by
  cases o <;> cases neq <;> rfl
theorem evIxs_sl {o : Option (List α)} {x : α} {i : Nat} (hx : (lst o)[i]? = some x) (k : IntKind) : evIxs (es α) (slA o) (.int k i) = some (.rp (enc x)) := by
  cases o with
  | none => simp at hx
  | some L =>
    simp only [lst_some] at hx
    simp [slA, evIxs, hx]
theorem evIxs_slI {o : Option (List α)} {x : α} {n : Int} (h0 : 0 ≤ n) (hx : (lst o)[n.toNat]? = some x) (k : IntKind) : evIxs (es α) (slA o) (.int k n) = some (.rp (enc x)) := by
  obtain ⟨i, rfl⟩ := Int.eq_ofNat_of_zero_le h0
  exact evIxs_sl (by simpa using hx) k
@[simp] theorem rowsOf_sl (o : Option (List α)) (h : Heap) : rowsOf h (es α) (slA o) = some ((lst o).map enc) := by
  cases o <;> simp [slA, rowsOf]
@[simp] theorem fz_sl (o : Option (List α)) (h : Heap) : fz h fuelF (slA o) = some ⟨slA o, (lst o).isEmpty, []⟩ := by
  rw [fz_pv (pure1_sl o), scalar1_sl]
theorem fz11_sl (o : Option (List α)) (h : Heap) (k : Nat) : fz h (k + 1) (slA o) = some ⟨slA o, (lst o).isEmpty, []⟩ := by
  rw [fz_p (pure1_sl o), scalar1_sl]
@[simp] theorem fz_enc (x : α) (h : Heap) : fz h fuelF (.agg (enc x)) = some ⟨.agg (enc x), scal x, []⟩ := fz_agg h (pur x)
theorem rows_pure (L : List α) : (L.map enc).all (·.all pure1) = true := by simp only [List.all_map, List.all_eq_true]; exact fun x _ => pur x
theorem rows_scal (L : List α) : (L.map enc).all (·.all scalar1) = L.all scal := by simp only [List.all_map]; rfl
@[simp] theorem fz_rows (L : List α) (h : Heap) : fzList (fzList (fz h fuelF)) (L.map enc) = some ⟨L.map enc, L.all scal, []⟩ := by rw [fz12_rows h (rows_pure L), rows_scal]
@[simp] theorem fz_rows11 (L : List α) (h : Heap) : fzList (fzList (fz h 11)) (L.map enc) = some ⟨L.map enc, L.all scal, []⟩ := by rw [fz11_rows h (rows_pure L), rows_scal]
@[simp] theorem scal_sl (o : Option (List α)) : scal o = (lst o).isEmpty := by simp [scal]
@[simp] theorem take_rows (L : List α) : (L.map (enc (α := α))).take L.length = L.map enc := by
  rw [List.take_of_length_le (by simp)]
@[simp] theorem aggOr_enc (x : α) : aggOr true (es α) (enc x) = some (.agg (enc x)) := by
  simp only [aggOr, if_true, len x, Nat.le_refl, if_pos]
  rw [List.take_of_length_le (by rw [len x]; exact Nat.le_refl _)]
@[simp] theorem leaf_mem (x : α) : (∀ v, v ∈ enc x → leaf1 v = true) ↔ True := by
  have := leaf x
  rw [List.all_eq_true] at this
  exact ⟨fun _ => trivial, fun _ => this⟩
theorem all_leaf (x : α) : (enc x).all leaf1 = true := leaf x
@[simp] theorem fz_int' (h : Heap) (k : IntKind) (n : Int) : fz h fuelF (.int k n) = some ⟨.int k n, true, []⟩ := rfl
@[simp] theorem fz_bool' (h : Heap) (b : Bool) : fz h fuelF (.bool b) = some ⟨.bool b, true, []⟩ := rfl
@[simp] theorem fz_str' (h : Heap) (b : List UInt8) : fz h fuelF (.str b) = some ⟨.str b, true, []⟩ := rfl
@[simp] theorem fz_nils' (h : Heap) : fz h fuelF .nils = some ⟨.nils, true, []⟩ := rfl
@[simp] theorem expo1_int' (h : Heap) (k : IntKind) (n : Int) : expo1 h (.int k n) = some ⟨.int k n, [], true, [], []⟩ := rfl
@[simp] theorem expo1_bool' (h : Heap) (b : Bool) : expo1 h (.bool b) = some ⟨.bool b, [], true, [], []⟩ := rfl
@[simp] theorem expo1_str' (h : Heap) (s : List UInt8) : expo1 h (.str s) = some ⟨.str s, [], true, [], []⟩ := rfl
@[simp] theorem expo1_nils' (h : Heap) : expo1 h .nils = some ⟨.nils, [], true, [], []⟩ := rfl
@[simp] theorem expo1_sl (h : Heap) (o : Option (List α)) : expo1 h (slA o) = some ⟨slA o, [], (lst o).isEmpty, [], []⟩ := by
  cases o with
  | none => rfl
  | some L => simp [slA, expo1_rs]
theorem expo_p {v : AV} (hp : pure1 v = true) (h : Heap) (k : Nat) (os : List OC) : expo h (k + 1) v os = some ⟨v, os, scalar1 v, [], []⟩ := by
  cases v <;> simp_all [expo, pure1]
theorem exList_p {cs : List AV} (h : Heap) (k : Nat) (os : List OC) (hp : cs.all pure1 = true) : exList (expo h (k + 1)) cs os = some ⟨cs, os, cs.all scalar1, [], []⟩ := by
  induction cs with
  | nil => rfl
  | cons c cs ih =>
    simp only [List.all_cons, Bool.and_eq_true] at hp
    rw [exList, expo_p hp.1]
    simp only [ih hp.2]
    rfl
theorem expo1_agg (h : Heap) (cs : List AV) : expo1 h (.agg cs) = match exList (expo h 11) cs [] with
    | some r => if apartIds r.xs r.fs then some ⟨.agg r.v, r.objs, r.fresh, [], []⟩ else none
    | none => none := by
  show (match (match exList (expo h 11) cs [] with
    | some r => some (⟨.agg r.v, r.objs, r.fresh, r.xs, r.fs⟩ : Ex AV)
    | none => none) with
    | some r => if apartIds r.xs r.fs then some (⟨r.v, r.objs, r.fresh, [], []⟩ : Ex AV) else none
    | none => none) = _
  cases exList (expo h 11) cs [] <;> rfl
theorem expo1_tup (h : Heap) (cs : List AV) : expo1 h (.tup cs) = match exList (expo h 11) cs [] with
    | some r => if apartIds r.xs r.fs then some ⟨.tup r.v, r.objs, r.fresh, [], []⟩ else none
    | none => none := by
  show (match (match exList (expo h 11) cs [] with
    | some r => some (⟨.tup r.v, r.objs, r.fresh, r.xs, r.fs⟩ : Ex AV)
    | none => none) with
    | some r => if apartIds r.xs r.fs then some (⟨r.v, r.objs, r.fresh, [], []⟩ : Ex AV) else none
    | none => none) = _
  cases exList (expo h 11) cs [] <;> rfl
@[simp] theorem expo1_enc (h : Heap) (x : α) : expo1 h (.agg (enc x)) = some ⟨.agg (enc x), [], scal x, [], []⟩ := by
  rw [expo1_agg, exList_p h 10 [] (pur x)]
  rfl
theorem expo_ls (h : Heap) (k id g es1 off len : Nat) (os : List OC) : expo h (k + 1) (.ls id g es1 off len) os = match rowsAt h id g with
    | some (true, _, _) => exFz h (.ls id g es1 off len) os
    | some (false, es, rows) => if es1 = es ∧ off + len ≤ rows.length then
        match fzList (fzList (fz h fuelF)) ((rows.drop off).take len) with
        | some r => some ⟨.ls os.length 0 es 0 len, os ++ [.arr false false es r.v], r.fresh, [id], r.ids⟩
        | none => none
      else none
    | none => none := by
  rw [expo]
  rfl
theorem expo_enc (h : Heap) (k : Nat) (x : α) (os : List OC) : expo h (k + 2) (.agg (enc x)) os = some ⟨.agg (enc x), os, scal x, [], []⟩ := by
  rw [expo, exList_p h k os (pur x)]
  rfl
theorem fz_enc' (h : Heap) (k : Nat) (x : α) : fz h (k + 2) (.agg (enc x)) = some ⟨.agg (enc x), scal x, []⟩ := by
  rw [fz_agg_eq, fzList_p h k (pur x)]
  rfl
theorem fz_lsk (h : Heap) (k id g es1 off len : Nat) : fz h (k + 1) (.ls id g es1 off len) = match rowsAt h id g with
    | some (_, es, rows) => if es1 = es ∧ off + len ≤ rows.length then (match fzList (fzList (fz h k)) ((rows.drop off).take len) with
      | some r => some ⟨.rs es r.v, r.fresh, id :: r.ids⟩
      | none => none) else none
    | none => none := by
  rw [fz]
  rfl
theorem fz_rowsk (L : List α) (h : Heap) (k : Nat) : fzList (fzList (fz h (k + 1))) (L.map enc) = some ⟨L.map enc, L.all scal, []⟩ := by rw [fzList_rows h k (rows_pure L), rows_scal]
@[simp] theorem fzList_nil {β γ : Type} (f : β → Option (Fz γ)) : fzList f [] = some ⟨[], true, []⟩ := rfl
@[simp] theorem fzList_cons {β γ : Type} (f : β → Option (Fz γ)) (x : β) (xs : List β) : fzList f (x :: xs) = match f x, fzList f xs with
    | some a, some b => some ⟨a.v :: b.v, a.fresh && b.fresh, a.ids ++ b.ids⟩
    | _, _ => none := rfl
theorem call_ro {E : Env} {C : Calls2} {fb : Nat} {sl : Option Nat} {f : Nat} {args : List AV} {h : Heap} {fa : Fz (List AV)} {r : Ex AV} {q : Fz AV} (hE : E.pure f = true) (ha : fzList (fz h fuelF) args = some fa)
    (hf : fa.ids = []) (hc : C.p f fa.v = some r) (hq : fz (heapOf r.objs) fuelF r.v = some q) : callAny E C fb sl true f args h = some (q.v, h) := by
  simp [callAny, hE, callP, ha, hc, hf, hq]
end Go.Vm
namespace Go.Vm
open Cel
structure Ins where
  op : Int
  d : Int
  a : Int
  b : Int
  c : Int
  n : Int
  t : Int
  s : List UInt8
  args : Option (List Int)
  deriving DecidableEq, Inhabited
structure Row where
  f : Int
  t : Int
  at_ : Int
  c : List UInt8
  deriving DecidableEq, Inhabited
structure Fn where
  regs : Option (List Int)
  params : Option (List Int)
  ret : Int
  code : Option (List Ins)
  rows : Option (List Row)
  deriving DecidableEq, Inhabited
instance : Cel Ins := ⟨9, fun x => [.int .i64 x.op, .int .i64 x.d, .int .i64 x.a, .int .i64 x.b, .int .i64 x.c, .int .i64 x.n, .int .i64 x.t, .str x.s, slA x.args], fun _ => rfl,
  fun x => by simp, fun x => by simp⟩
instance : Cel Row := ⟨4, fun x => [.int .i64 x.f, .int .i64 x.t, .int .i64 x.at_, .str x.c], fun _ => rfl, fun x => rfl, fun x => rfl⟩
instance : Cel Fn := ⟨5, fun x => [slA x.regs, slA x.params, .int .i64 x.ret, slA x.code, slA x.rows], fun _ => rfl, fun x => by simp, fun x => by simp⟩
@[simp] theorem es_ins : es Ins = 9 := rfl
@[simp] theorem es_row : es Row = 4 := rfl
@[simp] theorem es_fn : es Fn = 5 := rfl
theorem enc_ins (x : Ins) : enc x = [.int .i64 x.op, .int .i64 x.d, .int .i64 x.a, .int .i64 x.b, .int .i64 x.c, .int .i64 x.n, .int .i64 x.t, .str x.s, slA x.args] := rfl
theorem enc_row (x : Row) : enc x = [.int .i64 x.f, .int .i64 x.t, .int .i64 x.at_, .str x.c] := rfl
theorem enc_fn (x : Fn) : enc x = [slA x.regs, slA x.params, .int .i64 x.ret, slA x.code, slA x.rows] := rfl
section
variable (x : Ins) (r : Row) (f : Fn)
@[simp high] theorem ins0 : (enc x).head? = some (.int .i64 x.op) := rfl
@[simp high] theorem ins0q : (enc x)[0]? = some (.int .i64 x.op) := rfl
@[simp high] theorem ins1 : ((enc x).drop 1).head? = some (.int .i64 x.d) := rfl
@[simp high] theorem ins1q : (enc x)[1]? = some (.int .i64 x.d) := rfl
@[simp high] theorem ins2 : ((enc x).drop 2).head? = some (.int .i64 x.a) := rfl
@[simp high] theorem ins2q : (enc x)[2]? = some (.int .i64 x.a) := rfl
@[simp high] theorem ins3 : ((enc x).drop 3).head? = some (.int .i64 x.b) := rfl
@[simp high] theorem ins3q : (enc x)[3]? = some (.int .i64 x.b) := rfl
@[simp high] theorem ins4 : ((enc x).drop 4).head? = some (.int .i64 x.c) := rfl
@[simp high] theorem ins4q : (enc x)[4]? = some (.int .i64 x.c) := rfl
@[simp high] theorem ins5 : ((enc x).drop 5).head? = some (.int .i64 x.n) := rfl
@[simp high] theorem ins5q : (enc x)[5]? = some (.int .i64 x.n) := rfl
@[simp high] theorem ins6 : ((enc x).drop 6).head? = some (.int .i64 x.t) := rfl
@[simp high] theorem ins6q : (enc x)[6]? = some (.int .i64 x.t) := rfl
@[simp high] theorem ins7 : ((enc x).drop 7).head? = some (.str x.s) := rfl
@[simp high] theorem ins7q : (enc x)[7]? = some (.str x.s) := rfl
@[simp high] theorem ins8 : ((enc x).drop 8).head? = some (slA x.args) := rfl
@[simp high] theorem ins8q : (enc x)[8]? = some (slA x.args) := rfl
@[simp high] theorem row0 : (enc r).head? = some (.int .i64 r.f) := rfl
@[simp high] theorem row0q : (enc r)[0]? = some (.int .i64 r.f) := rfl
@[simp high] theorem row1 : ((enc r).drop 1).head? = some (.int .i64 r.t) := rfl
@[simp high] theorem row1q : (enc r)[1]? = some (.int .i64 r.t) := rfl
@[simp high] theorem row2 : ((enc r).drop 2).head? = some (.int .i64 r.at_) := rfl
@[simp high] theorem row2q : (enc r)[2]? = some (.int .i64 r.at_) := rfl
@[simp high] theorem row3 : ((enc r).drop 3).head? = some (.str r.c) := rfl
@[simp high] theorem row3q : (enc r)[3]? = some (.str r.c) := rfl
@[simp high] theorem fn0 : (enc f).head? = some (slA f.regs) := rfl
@[simp high] theorem fn0q : (enc f)[0]? = some (slA f.regs) := rfl
@[simp high] theorem fn1 : ((enc f).drop 1).head? = some (slA f.params) := rfl
@[simp high] theorem fn1q : (enc f)[1]? = some (slA f.params) := rfl
@[simp high] theorem fn2 : ((enc f).drop 2).head? = some (.int .i64 f.ret) := rfl
@[simp high] theorem fn2q : (enc f)[2]? = some (.int .i64 f.ret) := rfl
@[simp high] theorem fn3 : ((enc f).drop 3).head? = some (slA f.code) := rfl
@[simp high] theorem fn3q : (enc f)[3]? = some (slA f.code) := rfl
@[simp high] theorem fn4 : ((enc f).drop 4).head? = some (slA f.rows) := rfl
@[simp high] theorem fn4q : (enc f)[4]? = some (slA f.rows) := rfl
@[simp] theorem agg_ins : aggOr true 9 (enc x) = some (.agg (enc x)) := aggOr_enc x
@[simp] theorem agg_row : aggOr true 4 (enc r) = some (.agg (enc r)) := aggOr_enc r
@[simp] theorem agg_fn : aggOr true 5 (enc f) = some (.agg (enc f)) := aggOr_enc f
@[simp] theorem len_ins : (enc x).length = 9 := rfl
@[simp] theorem len_row : (enc r).length = 4 := rfl
@[simp] theorem len_fn : (enc f).length = 5 := rfl
@[simp] theorem leaf_ins : (enc x).all leaf1 = true := all_leaf x
@[simp] theorem leaf_row : (enc r).all leaf1 = true := all_leaf r
@[simp] theorem leaf_fn : (enc f).all leaf1 = true := all_leaf f
end
theorem ixs_ins {o : Option (List Ins)} {x : Ins} {i : Nat} (hx : (lst o)[i]? = some x) (k : IntKind) : evIxs 9 (slA o) (.int k i) = some (.rp (enc x)) := evIxs_sl hx k
theorem ixs_row {o : Option (List Row)} {x : Row} {i : Nat} (hx : (lst o)[i]? = some x) (k : IntKind) : evIxs 4 (slA o) (.int k i) = some (.rp (enc x)) := evIxs_sl hx k
theorem ixs_int {o : Option (List Int)} {x : Int} {i : Nat} (hx : (lst o)[i]? = some x) (k : IntKind) : evIxs 1 (slA o) (.int k i) = some (.rp [.int .i64 x]) := evIxs_sl hx k
theorem ixs_insI {o : Option (List Ins)} {x : Ins} {n : Int} (h0 : 0 ≤ n) (hx : (lst o)[n.toNat]? = some x) (k : IntKind) : evIxs 9 (slA o) (.int k n) = some (.rp (enc x)) := evIxs_slI h0 hx k
theorem ixs_intI {o : Option (List Int)} {x : Int} {n : Int} (h0 : 0 ≤ n) (hx : (lst o)[n.toNat]? = some x) (k : IntKind) : evIxs 1 (slA o) (.int k n) = some (.rp [.int .i64 x]) := evIxs_slI h0 hx k
@[simp] theorem rowsOf_sl1 (o : Option (List Int)) (h : Heap) : rowsOf h 1 (slA o) = some ((lst o).map enc) := rowsOf_sl o h
@[simp] theorem rowsOf_sl9 (o : Option (List Ins)) (h : Heap) : rowsOf h 9 (slA o) = some ((lst o).map enc) := rowsOf_sl o h
@[simp] theorem rowsOf_sl4 (o : Option (List Row)) (h : Heap) : rowsOf h 4 (slA o) = some ((lst o).map enc) := rowsOf_sl o h
def exO {α : Type} [Cel α] : Option (List α) → Ex AV
  | none => ⟨.nils, [], true, [], []⟩
  | some L => ⟨.ls 0 0 (es α) 0 L.length, [.arr false false (es α) (L.map enc)], L.all scal, [], []⟩
@[simp] theorem exO_fz {α : Type} [Cel α] (o : Option (List α)) : fz (heapOf (exO o).objs) fuelF (exO o).v = some ⟨slA o, (lst o).all scal, match o with | none => [] | some _ => [0]⟩ := by
  cases o with
  | none => rfl
  | some L =>
    show fz [⟨0, .arr false false (es α) (L.map enc)⟩] fuelF (.ls 0 0 (es α) 0 L.length) = _
    rw [fz_ls]
    simp [rowsAt, objAt, slA]
@[simp] theorem place_ex {α : Type} [Cel α] (fb j : Nat) (L : List α) (h : Heap) : placeAll fb (some j) (exO (some L)).objs [] h = match h[fb + j]? with
    | some o => some ([(fb + j, o.gen + 1)], h.set (fb + j) ⟨o.gen + 1, .arr false false (es α) (L.map enc)⟩)
    | none => none := by
  simp only [exO, placeAll, relocOC, okOC, if_true, place, List.nil_append]
  cases h[fb + j]? <;> rfl
@[simp] theorem place_ex0 {α : Type} [Cel α] (fb : Nat) (j : Option Nat) (h : Heap) : placeAll fb j (exO (none : Option (List α))).objs [] h = some ([], h) := rfl
@[simp] theorem reloc_ex {α : Type} [Cel α] (id g : Nat) (L : List α) : reloc [(id, g)] (exO (some L)).v = .ls id g (es α) 0 L.length := rfl
@[simp] theorem reloc_ex0 {α : Type} [Cel α] (tab : List (Nat × Nat)) : reloc tab (exO (none : Option (List α))).v = .nils := rfl
theorem exO_fresh {α : Type} [Cel α] (o : Option (List α)) : (exO o).fresh = (lst o).all scal := by cases o <;> rfl
theorem expo1_own {α : Type} [Cel α] {h : Heap} {id g : Nat} {L : List α} (hr : rowsAt h id g = some (false, es α, L.map enc)) : expo1 h (.ls id g (es α) 0 L.length) = some (exO (some L)) := by
  rw [expo1_ls_eq, hr]
  simp [exO]
theorem expo1_own' {α : Type} [Cel α] {h : Heap} {id g off : Nat} {rows : List (List AV)} {L : List α} (hr : rowsAt h id g = some (false, es α, rows)) (hl : off + L.length ≤ rows.length) (he : (rows.drop off).take L.length = L.map enc) :
    expo1 h (.ls id g (es α) off L.length) = some (exO (some L)) := by
  rw [expo1_ls_eq, hr]
  simp only [hl, true_and, if_true, he, fz_rows]
  simp [exO]
attribute [simp] newC newBox newArr place
@[simp] theorem rowsAt_0 (g : Nat) (b f : Bool) (e : Nat) (r : List (List AV)) (t : Heap) : rowsAt (⟨g, .arr b f e r⟩ :: t) 0 g = some (f, e, r) := by simp [rowsAt, objAt]
@[simp] theorem rowsAt_s (o : AO) (t : Heap) (i g : Nat) : rowsAt (o :: t) (i + 1) g = rowsAt t i g := rfl
@[simp] theorem setRows_0 (g : Nat) (b f : Bool) (e : Nat) (r r' : List (List AV)) (t : Heap) : setRows (⟨g, .arr b f e r⟩ :: t) 0 r' = ⟨g, .arr b f e r'⟩ :: t := rfl
@[simp] theorem setRows_s (o : AO) (t : Heap) (i : Nat) (r : List (List AV)) : setRows (o :: t) (i + 1) r = o :: setRows t i r := by
  simp only [setRows, List.getElem?_cons_succ]
  split <;> simp_all
@[simp] theorem evSt_lp (n id g i off : Nat) (v : AV) (h : Heap) : evSt n (.lp id g i off) v h = match rowsAt h id g with
    | some (false, _, rows) => match rows[i]? with
      | some row => if (cellsOf v).length = n ∧ off + n ≤ row.length ∧ (cellsOf v).all leaf1 = true then some (.tup [], setRows h id (rows.set i (spliceAt off (cellsOf v) row))) else none
      | none => none
    | _ => none := rfl
@[simp] theorem splice_all {vs row : List AV} (h : row.length = vs.length) : spliceAt 0 vs row = vs := by
  simp [spliceAt, ← h]
section
variable (x : Ins) (n : Int) (s : List UInt8) (o : Option (List Int))
@[simp] theorem sp_ins0 : spliceAt 0 [.int .i64 n] (enc x) = enc { x with op := n } := rfl
@[simp] theorem sp_ins1 : spliceAt 1 [.int .i64 n] (enc x) = enc { x with d := n } := rfl
@[simp] theorem sp_ins2 : spliceAt 2 [.int .i64 n] (enc x) = enc { x with a := n } := rfl
@[simp] theorem sp_ins3 : spliceAt 3 [.int .i64 n] (enc x) = enc { x with b := n } := rfl
@[simp] theorem sp_ins4 : spliceAt 4 [.int .i64 n] (enc x) = enc { x with c := n } := rfl
@[simp] theorem sp_ins5 : spliceAt 5 [.int .i64 n] (enc x) = enc { x with n := n } := rfl
@[simp] theorem sp_ins6 : spliceAt 6 [.int .i64 n] (enc x) = enc { x with t := n } := rfl
@[simp] theorem sp_ins7 : spliceAt 7 [.str s] (enc x) = enc { x with s := s } := rfl
@[simp] theorem sp_ins8 : spliceAt 8 [slA o] (enc x) = enc { x with args := o } := rfl
end
def insRow (x : Ins) (v : AV) : List AV := [.int .i64 x.op, .int .i64 x.d, .int .i64 x.a, .int .i64 x.b, .int .i64 x.c, .int .i64 x.n, .int .i64 x.t, .str x.s, v]
theorem sp_insL (x : Ins) (v : AV) : spliceAt 8 [v] (enc x) = insRow x v := rfl
@[simp] theorem sp_ins8L (x : Ins) (id g es off len : Nat) : spliceAt 8 [.ls id g es off len] (enc x) = insRow x (.ls id g es off len) := rfl
@[simp] theorem sp_ins8n (x : Ins) : spliceAt 8 [.nils] (enc x) = enc { x with args := none } := rfl
@[simp] theorem insRow_len (x : Ins) (v : AV) : (insRow x v).length = 9 := rfl
@[simp] theorem insRow_agg (x : Ins) (v : AV) : aggOr true 9 (insRow x v) = some (.agg (insRow x v)) := rfl
@[simp] theorem insRow_mem (x : Ins) (w : AV) : (∀ v, v ∈ insRow x w → leaf1 v = true) ↔ leaf1 w = true := by simp [insRow]
theorem insRow_all (x : Ins) (v : AV) (h : leaf1 v = true) : (insRow x v).all leaf1 = true := by simp [insRow, h]
theorem insRow_fz (x : Ins) {L : List Int} (os : List OC) {i : Nat} (h : os[i]? = some (.arr false false 1 (L.map enc))) :
    ∃ q, fz (heapOf os) fuelF (.agg (insRow x (.ls i 0 1 0 L.length))) = some q ∧ q.v = .agg (enc { x with args := some L }) := by
  have hr : rowsAt (heapOf os) i 0 = some (false, 1, L.map enc) := by simp [rowsAt, objAt, heapOf, h]
  have e : fz (heapOf os) 11 (.ls i 0 1 0 L.length) = some ⟨.rs 1 (L.map enc), L.all scal, [i]⟩ := by
    rw [fz_lsk _ 10, hr]
    simp only [List.drop_zero, Nat.zero_add, List.length_map, Nat.le_refl, and_self, if_true, take_rows, fz_rowsk L (heapOf os) 9, List.append_nil]
  refine ⟨_, (fz_agg_eq _ 11 _).trans (by rw [insRow]; simp only [fzList_cons, fz_p (show pure1 (AV.int .i64 _) = true from rfl) _ 10, fz_p (show pure1 (AV.str x.s) = true from rfl) _ 10, e, fzList_nil]; rfl), rfl⟩
theorem scal_ints (L : List Int) : L.all scal = true := by simp
theorem expo1_insRow (x : Ins) {L : List Int} {h : Heap} {id g : Nat} (hr : rowsAt h id g = some (false, 1, L.map enc)) :
    expo1 h (.agg (insRow x (.ls id g 1 0 L.length))) = some ⟨.agg (insRow x (.ls 0 0 1 0 L.length)), [.arr false false 1 (L.map enc)], true, [], []⟩ := by
  have e : expo h 11 (.ls id g 1 0 L.length) [] = some ⟨.ls 0 0 1 0 L.length, [.arr false false 1 (L.map enc)], true, [id], []⟩ := by
    rw [expo_ls _ 10, hr]
    simp
  rw [expo1_agg, insRow]
  simp only [exList, expo_p (show pure1 (AV.int .i64 _) = true from rfl) _ 10, expo_p (show pure1 (AV.str x.s) = true from rfl) _ 10, e]
  simp [apartIds, insRow]
def Reads (r : Ex AV) (v : AV) : Prop := ∃ q, fz (heapOf r.objs) fuelF r.v = some q ∧ q.v = v
@[simp] theorem evLd_lp (agg : Bool) (n id g i off : Nat) (h : Heap) : evLd agg n (.lp id g i off) h = match rowsAt h id g with
    | some (_, _, rows) => match rows[i]? with
      | some row => aggOr agg n (row.drop off)
      | none => none
    | none => none := rfl
end Go.Vm
namespace Go.Vm
open Cel
def inI (n : Int) : Prop := -9223372036854775808 ≤ n ∧ n ≤ 9223372036854775807
abbrev tyI : Ty := .int .i64
theorem has_i {cs : List AV} (h : tyI.has cs) : ∃ n : Int, cs = [.int .i64 n] ∧ inI n := by
  obtain ⟨n, rfl, h1, h2⟩ := h
  exact ⟨n, rfl, by simpa [IntKind.min, IntKind.max, IntKind.signed, IntKind.bits] using h1, by simpa [IntKind.min, IntKind.max, IntKind.signed, IntKind.bits] using h2⟩
theorem has_b {cs : List AV} (h : Ty.bool.has cs) : ∃ b : Bool, cs = [.bool b] := h
theorem has_s {cs : List AV} (h : Ty.str.has cs) : ∃ s : List UInt8, cs = [.str s] ∧ s.length ≤ reachBytes := h
theorem has_rows {α : Type} [Cel α] {T : Ty} {Q : α → Prop} (hT : ∀ row, T.has row → ∃ x : α, row = enc x ∧ Q x) : ∀ (rows : List (List AV)), (∀ row, row ∈ rows → T.has row) → ∃ L : List α, rows = L.map enc ∧ ∀ x ∈ L, Q x
  | [], _ => ⟨[], rfl, fun x h => by cases h⟩
  | r :: rows, h => by
    obtain ⟨L, rfl, hL⟩ := has_rows hT rows (fun row hr => h row (by simp [hr]))
    obtain ⟨x, rfl, hx⟩ := hT r (h r (by simp))
    refine ⟨x :: L, rfl, fun y hy => ?_⟩
    rcases List.mem_cons.1 hy with rfl | hy
    · exact hx
    · exact hL y hy
theorem has_sl {α : Type} [Cel α] {T : Ty} {Q : α → Prop} (hT : ∀ row, T.has row → ∃ x : α, row = enc x ∧ Q x) {cs : List AV} (h : (Ty.slice (es α) T).has cs) : ∃ o : Option (List α), cs = [slA o] ∧ (lst o).length ≤ maxLen ∧ (lst o).length * T.bytes ≤ reachBytes ∧ ∀ x ∈ lst o, Q x := by
  rcases h with rfl | ⟨rows, rfl, hl, hz, hr⟩
  · exact ⟨none, rfl, Nat.zero_le _, by simp, fun x h => by cases h⟩
  · obtain ⟨L, rfl, hL⟩ := has_rows hT rows hr
    exact ⟨some L, rfl, by simpa using hl, by simpa using hz, hL⟩
abbrev tyInts : Ty := .slice 1 tyI
theorem has_ints {cs : List AV} (h : tyInts.has cs) : ∃ o : Option (List Int), cs = [slA o] ∧ (lst o).length * 8 ≤ reachBytes ∧ ∀ x ∈ lst o, inI x := by
  obtain ⟨o, h1, _, h2, h3⟩ := has_sl (α := Int) (T := tyI) (fun _ h => has_i h) h
  exact ⟨o, h1, h2, h3⟩
abbrev tyBools : Ty := .slice 1 .bool
theorem has_bools {cs : List AV} (h : tyBools.has cs) : ∃ o : Option (List Bool), cs = [slA o] ∧ (lst o).length ≤ reachBytes ∧ ∀ x ∈ lst o, True := by
  obtain ⟨o, h1, _, h2, h3⟩ := has_sl (α := Bool) (T := .bool) (Q := fun _ => True) (fun _ h => by obtain ⟨b, rfl⟩ := has_b h; exact ⟨b, rfl, trivial⟩) h
  exact ⟨o, h1, by simpa [Ty.bytes] using h2, h3⟩
abbrev tyIns : Ty := .struct (.sCons tyI (.sCons tyI (.sCons tyI (.sCons tyI (.sCons tyI (.sCons tyI (.sCons tyI (.sCons .str (.sCons tyInts .sNil)))))))))
abbrev tyRow : Ty := .struct (.sCons tyI (.sCons tyI (.sCons tyI (.sCons .str .sNil))))
structure InsOk (x : Ins) : Prop where
  op : inI x.op
  d : inI x.d
  a : inI x.a
  b : inI x.b
  c : inI x.c
  n : inI x.n
  t : inI x.t
  s : x.s.length ≤ reachBytes
  len : (lst x.args).length * 8 ≤ reachBytes
  args : ∀ r ∈ lst x.args, inI r
structure RowOk (r : Row) : Prop where
  f : inI r.f
  t : inI r.t
  a : inI r.at_
  c : r.c.length ≤ reachBytes
structure FnIn (f : Fn) : Prop where
  regs : (lst f.regs).length * 8 ≤ reachBytes
  regI : ∀ x ∈ lst f.regs, inI x
  params : (lst f.params).length * 8 ≤ reachBytes
  parI : ∀ x ∈ lst f.params, inI x
  ret : inI f.ret
  code : (lst f.code).length * 96 ≤ reachBytes
  insI : ∀ x ∈ lst f.code, InsOk x
  rows : (lst f.rows).length * 40 ≤ reachBytes
  rowI : ∀ x ∈ lst f.rows, RowOk x
theorem has_ins {cs : List AV} (h : tyIns.has cs) : ∃ x : Ins, cs = enc x ∧ InsOk x := by
  obtain ⟨_, _, rfl, h1, _, _, rfl, h2, _, _, rfl, h3, _, _, rfl, h4, _, _, rfl, h5, _, _, rfl, h6, _, _, rfl, h7, _, _, rfl, h8, _, _, rfl, h9, rfl⟩ := h
  obtain ⟨op, rfl, k1⟩ := has_i h1
  obtain ⟨d, rfl, k2⟩ := has_i h2
  obtain ⟨a, rfl, k3⟩ := has_i h3
  obtain ⟨b, rfl, k4⟩ := has_i h4
  obtain ⟨c, rfl, k5⟩ := has_i h5
  obtain ⟨n, rfl, k6⟩ := has_i h6
  obtain ⟨t, rfl, k7⟩ := has_i h7
  obtain ⟨s, rfl, k8⟩ := has_s h8
  obtain ⟨l, rfl, k9, k10⟩ := has_ints h9
  exact ⟨⟨op, d, a, b, c, n, t, s, l⟩, rfl, ⟨k1, k2, k3, k4, k5, k6, k7, k8, k9, k10⟩⟩
theorem has_row {cs : List AV} (h : tyRow.has cs) : ∃ x : Row, cs = enc x ∧ RowOk x := by
  obtain ⟨_, _, rfl, h1, _, _, rfl, h2, _, _, rfl, h3, _, _, rfl, h8, rfl⟩ := h
  obtain ⟨f, rfl, k1⟩ := has_i h1
  obtain ⟨t, rfl, k2⟩ := has_i h2
  obtain ⟨a, rfl, k3⟩ := has_i h3
  obtain ⟨s, rfl, k8⟩ := has_s h8
  exact ⟨⟨f, t, a, s⟩, rfl, ⟨k1, k2, k3, k8⟩⟩
abbrev tyFn : Ty := .struct (.sCons tyInts (.sCons tyInts (.sCons tyI (.sCons (.slice 9 tyIns) (.sCons (.slice 4 tyRow) .sNil)))))
theorem has_fn {cs : List AV} (h : tyFn.has cs) : ∃ x : Fn, cs = enc x ∧ FnIn x := by
  obtain ⟨_, _, rfl, h1, _, _, rfl, h2, _, _, rfl, h3, _, _, rfl, h4, _, _, rfl, h5, rfl⟩ := h
  obtain ⟨regs, rfl, k1, l1⟩ := has_ints h1
  obtain ⟨params, rfl, k2, l2⟩ := has_ints h2
  obtain ⟨ret, rfl, k3⟩ := has_i h3
  obtain ⟨code, rfl, _, k4, l4⟩ := has_sl (α := Ins) (T := tyIns) (fun _ h => has_ins h) h4
  obtain ⟨rows, rfl, _, k5, l5⟩ := has_sl (α := Row) (T := tyRow) (fun _ h => has_row h) h5
  exact ⟨⟨regs, params, ret, code, rows⟩, rfl, ⟨k1, l1, k2, l2, k3, k4, l4, k5, l5⟩⟩
end Go.Vm
namespace Go.Vm
def calls (o : Int) : Bool := decide (23 ≤ o) && decide (o ≤ 26)
def ends (o : Int) : Bool := decide (o = 27) || decide (o = 30) || decide (o = 31)
def leads (o : Int) : Bool := decide (o = 27) || decide (o = 28) || decide (o = 29)
def throws (o : Int) : Bool := (decide (7 ≤ o) && decide (o ≤ 12)) || decide (o = 20) || decide (o = 21) || decide (o = 31) || calls o
def purel (o : Int) : Bool := decide (o ∈ [1, 2, 3, 4, 5, 6, 13, 15, 16, 18, 22])
def writes (o : Int) : Bool := decide (o ∈ [1, 2, 3, 4, 5, 6, 13, 15, 16, 18, 20, 21, 22, 32]) || calls o
def defr (x : Ins) : Int := if writes x.op then x.d else -1
def reads (o : Int) : Nat :=
  if o ∈ [4, 6, 7, 8, 10, 12, 15, 16, 19, 21, 22, 31] then 1 else if o ∈ [5, 9, 11, 13, 17, 28] then 2 else if o = 14 then 3 else 0
def uses (x : Ins) : Option (List Int) :=
  if calls x.op then x.args
  else if x.op = 29 then (if x.b < 0 then some [x.a] else some [x.a, x.b])
  else if x.op = 30 then (if 0 ≤ x.a then some [x.a] else none)
  else if reads x.op = 1 then some [x.a] else if reads x.op = 2 then some [x.a, x.b] else if reads x.op = 3 then some [x.a, x.b, x.c] else none
def putABC (x : Ins) : List Int → Ins
  | [] => x
  | [a] => { x with a := a }
  | [a, b] => { x with a := a, b := b }
  | a :: b :: c :: _ => { x with a := a, b := b, c := c }
def repl (x : Ins) (l : Option (List Int)) : Ins :=
  if (lst (uses x)).length ≠ (lst l).length then x
  else if calls x.op then { x with args := l }
  else putABC x (lst l)
theorem uses_le3 {x : Ins} (h : calls x.op = false) : (lst (uses x)).length ≤ 3 := by
  unfold uses
  rw [h]
  simp only [Bool.false_eq_true, if_false]
  repeat' split
  all_goals simp
theorem op_cases (o : Int) : o = 1 ∨ o = 2 ∨ o = 3 ∨ o = 4 ∨ o = 5 ∨ o = 6 ∨ o = 7 ∨ o = 8 ∨ o = 9 ∨ o = 10 ∨ o = 11 ∨ o = 12 ∨ o = 13 ∨ o = 14 ∨ o = 15 ∨ o = 16 ∨ o = 17 ∨ o = 18 ∨ o = 19 ∨ o = 20 ∨ o = 21 ∨ o = 22 ∨ o = 23 ∨ o = 24 ∨ o = 25 ∨ o = 26 ∨ o = 27 ∨ o = 28 ∨ o = 29 ∨ o = 30 ∨ o = 31 ∨ o = 32 ∨ o = 33 ∨ o < 1 ∨ 33 < o := by omega
def NoOp (o : Int) : Prop := ¬ o = 1 ∧ ¬ o = 2 ∧ ¬ o = 3 ∧ ¬ o = 4 ∧ ¬ o = 5 ∧ ¬ o = 6 ∧ ¬ o = 7 ∧ ¬ o = 8 ∧ ¬ o = 9 ∧ ¬ o = 10 ∧ ¬ o = 11 ∧ ¬ o = 12 ∧ ¬ o = 13 ∧ ¬ o = 14 ∧ ¬ o = 15 ∧ ¬ o = 16 ∧ ¬ o = 17 ∧ ¬ o = 18 ∧ ¬ o = 19 ∧ ¬ o = 20 ∧ ¬ o = 21 ∧ ¬ o = 22 ∧ ¬ o = 23 ∧ ¬ o = 24 ∧ ¬ o = 25 ∧ ¬ o = 26 ∧ ¬ o = 27 ∧ ¬ o = 28 ∧ ¬ o = 29 ∧ ¬ o = 30 ∧ ¬ o = 31 ∧ ¬ o = 32 ∧ ¬ o = 33
theorem lo_f {o : Int} (h : o < 1) : (¬ o = 1 ∧ ¬ o = 2 ∧ ¬ o = 3 ∧ ¬ o = 4 ∧ ¬ o = 5 ∧ ¬ o = 6 ∧ ¬ o = 7 ∧ ¬ o = 8 ∧ ¬ o = 9 ∧ ¬ o = 10 ∧ ¬ o = 11 ∧ ¬ o = 12 ∧ ¬ o = 13 ∧ ¬ o = 14 ∧ ¬ o = 15 ∧ ¬ o = 16 ∧ ¬ o = 17 ∧ ¬ o = 18 ∧ ¬ o = 19 ∧ ¬ o = 20 ∧ ¬ o = 21 ∧ ¬ o = 22 ∧ ¬ o = 23 ∧ ¬ o = 24 ∧ ¬ o = 25 ∧ ¬ o = 26 ∧ ¬ o = 27 ∧ ¬ o = 28 ∧ ¬ o = 29 ∧ ¬ o = 30 ∧ ¬ o = 31 ∧ ¬ o = 32 ∧ ¬ o = 33) ∧ ¬ 7 ≤ o ∧ ¬ 23 ≤ o ∧ ¬ 1 ≤ o := by omega
theorem hi_f {o : Int} (h : 33 < o) : (¬ o = 1 ∧ ¬ o = 2 ∧ ¬ o = 3 ∧ ¬ o = 4 ∧ ¬ o = 5 ∧ ¬ o = 6 ∧ ¬ o = 7 ∧ ¬ o = 8 ∧ ¬ o = 9 ∧ ¬ o = 10 ∧ ¬ o = 11 ∧ ¬ o = 12 ∧ ¬ o = 13 ∧ ¬ o = 14 ∧ ¬ o = 15 ∧ ¬ o = 16 ∧ ¬ o = 17 ∧ ¬ o = 18 ∧ ¬ o = 19 ∧ ¬ o = 20 ∧ ¬ o = 21 ∧ ¬ o = 22 ∧ ¬ o = 23 ∧ ¬ o = 24 ∧ ¬ o = 25 ∧ ¬ o = 26 ∧ ¬ o = 27 ∧ ¬ o = 28 ∧ ¬ o = 29 ∧ ¬ o = 30 ∧ ¬ o = 31 ∧ ¬ o = 32 ∧ ¬ o = 33) ∧ 7 ≤ o ∧ 23 ≤ o ∧ ¬ o ≤ 12 ∧ ¬ o ≤ 26 ∧ 1 ≤ o := by omega
end Go.Vm
namespace Go.Vm
open Cel
attribute [local simp] callAny callP heapOf_nil
def okB (b : UInt8) : Bool := (decide (97 ≤ b.toNat) && decide (b.toNat ≤ 122)) || (decide (65 ≤ b.toNat) && decide (b.toNat ≤ 90)) || (decide (48 ≤ b.toNat) && decide (b.toNat ≤ 57)) || decide (b.toNat = 95) || decide (b.toNat = 36) || decide (b.toNat = 47)
def nameOk (s : List UInt8) : Bool := decide (1 ≤ s.length) && decide (s.length ≤ 60) && s.all okB
theorem Name_step (s : List UInt8) (i : Nat) (hi : i < s.length) (v18 : AV) :
    q6_4 (.bool false) (.ls 0 1 1 0 s.length) v18 (.int .i64 i) [⟨1, .arr false false 1 (s.map fun b => [.int .u8 b.toNat])⟩] =
      if okB s[i] then q6_3 (.bool false) (.ls 0 1 1 0 s.length) v18 (.int .i64 i) [⟨1, .arr false false 1 (s.map fun b => [.int .u8 b.toNat])⟩] else some ⟨.bool false, [], true, [], []⟩ := by
  have hc : ((i : Int) < (s.length : Int)) := by omega
  generalize hb : s[i].toNat = n
  have e : (s.map fun b => ([.int .u8 b.toNat] : List AV))[i]? = some [.int .u8 (n : Int)] := by
    rw [List.getElem?_map, List.getElem?_eq_getElem hi, ← hb]; rfl
  have ho : okB s[i] = ((decide (97 ≤ n) && decide (n ≤ 122)) || (decide (65 ≤ n) && decide (n ≤ 90)) || (decide (48 ≤ n) && decide (n ≤ 57)) || decide (n = 95) || decide (n = 36) || decide (n = 47)) := by
    rw [okB, hb]
  rw [ho]
  have c1 : ∀ k : Nat, ((k : Int) ≤ (n : Int)) = (k ≤ n) := fun k => by simp
  have f1 : ((97 : Int) ≤ (n : Int)) = (97 ≤ n) := c1 97
  have f2 : ((65 : Int) ≤ (n : Int)) = (65 ≤ n) := c1 65
  have f3 : ((48 : Int) ≤ (n : Int)) = (48 ≤ n) := c1 48
  have g1 : ((n : Int) ≤ (122 : Int)) = (n ≤ 122) := by simp; omega
  have g2 : ((n : Int) ≤ (90 : Int)) = (n ≤ 90) := by simp; omega
  have g3 : ((n : Int) ≤ (57 : Int)) = (n ≤ 57) := by simp; omega
  have d1 : ((n : Int) = (95 : Int)) = (n = 95) := by simp; omega
  have d2 : ((n : Int) = (36 : Int)) = (n = 36) := by simp; omega
  have d3 : ((n : Int) = (47 : Int)) = (n = 47) := by simp; omega
  have step : ∀ (b1 b2 b3 b4 b5 b6 b7 b8 b9 : Bool), decide (97 ≤ n) = b1 → decide (n ≤ 122) = b2 → decide (65 ≤ n) = b3 → decide (n ≤ 90) = b4 → decide (48 ≤ n) = b5 → decide (n ≤ 57) = b6 → decide (n = 95) = b7 → decide (n = 36) = b8 → decide (n = 47) = b9 →
      q6_4 (.bool false) (.ls 0 1 1 0 s.length) v18 (.int .i64 i) [⟨1, .arr false false 1 (s.map fun b => [.int .u8 b.toNat])⟩] =
      if (b1 && b2) || (b3 && b4) || (b5 && b6) || b7 || b8 || b9 then q6_3 (.bool false) (.ls 0 1 1 0 s.length) v18 (.int .i64 i) [⟨1, .arr false false 1 (s.map fun b => [.int .u8 b.toNat])⟩] else some ⟨.bool false, [], true, [], []⟩ := by
    intro b1 b2 b3 b4 b5 b6 b7 b8 b9 h1 h2 h3 h4 h5 h6 h7 h8 h9
    rw [q6_4]
    have e0 : evIxs 1 (.ls 0 1 1 0 s.length) (.int .i64 i) = some (.lp 0 1 i 0) := by simp [evIxs, hc, hi]
    have tri : ∀ a b : Bool, (a = false) ∨ (a = true ∧ b = false) ∨ (a = true ∧ b = true) := by intro a b; cases a <;> cases b <;> simp
    have l1 : evBin .geq (.int .u8 (n : Int)) (.int .u8 97) = some (.bool b1) := by rw [evBin_geq]; simp only [f1, h1]
    have l2 : evBin .leq (.int .u8 (n : Int)) (.int .u8 122) = some (.bool b2) := by rw [evBin_leq]; simp only [g1, h2]
    have l3 : evBin .geq (.int .u8 (n : Int)) (.int .u8 65) = some (.bool b3) := by rw [evBin_geq]; simp only [f2, h3]
    have l4 : evBin .leq (.int .u8 (n : Int)) (.int .u8 90) = some (.bool b4) := by rw [evBin_leq]; simp only [g2, h4]
    have l5 : evBin .geq (.int .u8 (n : Int)) (.int .u8 48) = some (.bool b5) := by rw [evBin_geq]; simp only [f3, h5]
    have l6 : evBin .leq (.int .u8 (n : Int)) (.int .u8 57) = some (.bool b6) := by rw [evBin_leq]; simp only [g3, h6]
    have l7 : evBin .eql (.int .u8 (n : Int)) (.int .u8 95) = some (.bool b7) := by rw [evBin_eql]; simp only [d1, h7]
    have l8 : evBin .eql (.int .u8 (n : Int)) (.int .u8 36) = some (.bool b8) := by rw [evBin_eql]; simp only [d2, h8]
    have l9 : evBin .eql (.int .u8 (n : Int)) (.int .u8 47) = some (.bool b9) := by rw [evBin_eql]; simp only [d3, h9]
    clear h1 h2 h3 h4 h5 h6 h7 h8 h9
    simp only [e0, ob_some, evLd_lp, rowsAt_0, e, List.drop_zero, aggOr_f, List.head?_cons, l1]
    generalize q6_3 (.bool false) (.ls 0 1 1 0 s.length) v18 (.int .i64 i) [⟨1, .arr false false 1 (s.map fun b => [.int .u8 b.toNat])⟩] = Z
    rcases tri b1 b2 with rfl | ⟨rfl, rfl⟩ | ⟨rfl, rfl⟩ <;> simp only [l2, gb_tt, gb_ff, gb_tf, gb_ft, gb_tup, ob_some, evPick_t, evPick_f, evUn_not, cnd_t, cnd_f, l3, expo1_bool'] <;> try (simp; done)
    all_goals rcases tri b3 b4 with rfl | ⟨rfl, rfl⟩ | ⟨rfl, rfl⟩ <;> simp only [l4, gb_tt, gb_ff, gb_tf, gb_ft, gb_tup, ob_some, evPick_t, evPick_f, evUn_not, cnd_t, cnd_f, l5, expo1_bool'] <;> try (simp; done)
    all_goals rcases tri b5 b6 with rfl | ⟨rfl, rfl⟩ | ⟨rfl, rfl⟩ <;> simp only [l6, gb_tt, gb_ff, gb_tf, gb_ft, gb_tup, ob_some, evPick_t, evPick_f, evUn_not, cnd_t, cnd_f, l7, expo1_bool'] <;> try (simp; done)
    all_goals cases b7 <;> simp only [gb_tt, gb_ff, gb_tf, gb_ft, gb_tup, ob_some, evPick_t, evPick_f, evUn_not, cnd_t, cnd_f, l8, expo1_bool'] <;> try (simp; done)
    all_goals cases b8 <;> simp only [gb_tt, gb_ff, gb_tf, gb_ft, gb_tup, ob_some, evPick_t, evPick_f, evUn_not, cnd_t, cnd_f, l9, expo1_bool'] <;> try (simp; done)
    all_goals cases b9 <;> simp
  exact step _ _ _ _ _ _ _ _ _ rfl rfl rfl rfl rfl rfl rfl rfl rfl
end Go.Vm
namespace Go.Vm
open Cel
attribute [local simp] callAny callP heapOf_nil
theorem Name_loop (s : List UInt8) (hl : s.length ≤ 60) : ∀ (d i : Nat), i + d = s.length →
    q6_L2 (.bool false) (.ls 0 1 1 0 s.length) (.int .i64 s.length) (.int .i64 i) [⟨1, .arr false false 1 (s.map fun b => [.int .u8 b.toNat])⟩] = some ⟨.bool ((s.drop i).all okB), [], true, [], []⟩ := by
  intro d
  induction d with
  | zero =>
    intro i hi
    have e1 : s.drop i = [] := List.drop_eq_nil_of_le (by omega)
    have hc : ¬ ((i : Int) < (s.length : Int)) := by omega
    rw [q6_L2_go, e1]
    simp [q6_6, q6_5, q6_1, hc]
  | succ d ih =>
    intro i hi
    have hlt : i < s.length := by omega
    have hc : ((i : Int) < (s.length : Int)) := by omega
    have := ih (i + 1) (by omega)
    push_cast at this
    have e1 : (s.drop i).all okB = (okB s[i] && (s.drop (i + 1)).all okB) := by rw [List.drop_eq_getElem_cons hlt, List.all_cons]
    have hw : IntKind.wrap .i64 ((i : Int) + 1) = (i : Int) + 1 := wrap_i64 (by omega) (by omega)
    rw [q6_L2_go, e1]
    simp only [q6_6, q6_5, evBin_lss, ob_some, hc, decide_true, cnd_t, Name_step s i hlt]
    cases okB s[i]
    · simp
    · simp [q6_3, hw, this]
@[simp] theorem s_Name (s : List UInt8) : (callW E).p 60 [.str s, .bool false] = some ⟨.bool (nameOk s), [], true, [], []⟩ := by
  rw [x_q6]
  by_cases h1 : ((s.length : Int) < 1)
  · have : ¬ 1 ≤ s.length := by omega
    simp [q6_1, q6_3, q6_4, q6_5, q6_6, q6_8, q6_10, q6_11, h1, nameOk, this]
  by_cases h2 : ((60 : Int) < (s.length : Int))
  · have : ¬ s.length ≤ 60 := by omega
    simp [q6_1, q6_3, q6_4, q6_5, q6_6, q6_8, q6_10, q6_11, h1, h2, nameOk, this]
  · have a1 : 1 ≤ s.length := by omega
    have a2 : s.length ≤ 60 := by omega
    have := Name_loop s a2 s.length 0 (by omega)
    simp only [List.drop_zero] at this
    simp only [nameOk, a1, a2, decide_true, Bool.true_and, ← this]
    simp [q6_11, q6_10, q6_8, h1, h2, s2bC]
def lead : List UInt8 → Nat
  | [] => 0
  | c :: r => if c = 91 then lead r + 1 else 0
theorem lead_le : ∀ s : List UInt8, lead s ≤ s.length
  | [] => Nat.le_refl _
  | c :: r => by
    have := lead_le r
    simp only [lead, List.length_cons]
    split <;> omega
theorem lead_lt : ∀ {s : List UInt8} {i : Nat}, i < lead s → s[i]? = some 91
  | [], i, h => by simp [lead] at h
  | c :: r, i, h => by
    simp only [lead] at h
    split at h
    · rename_i e
      cases i with
      | zero => simp [e]
      | succ i => simpa using lead_lt (s := r) (by omega)
    · omega
theorem lead_at : ∀ {s : List UInt8} {c : UInt8}, s[lead s]? = some c → c ≠ 91
  | [], c, h => by simp at h
  | d :: r, c, h => by
    simp only [lead] at h
    split at h
    · exact lead_at (s := r) (by simpa using h)
    · rename_i e; simp at h; rw [← h]; exact e
def takeM (s : List UInt8) : Nat :=
  if 8 < lead s ∨ lead s = s.length then 0
  else if s[lead s]? = some 73 ∨ s[lead s]? = some 74 then lead s + 1
  else if s[lead s]? = some 76 then
    (if (s.drop (lead s + 1)).findIdx (· == 59) < (s.drop (lead s + 1)).length ∧ nameOk ((s.take (lead s + 1 + (s.drop (lead s + 1)).findIdx (· == 59))).drop (lead s + 1)) = true then lead s + 1 + (s.drop (lead s + 1)).findIdx (· == 59) + 1 else 0)
  else 0
theorem ixstr {s : List UInt8} {i : Nat} {c : UInt8} (h : s[i]? = some c) : evIxstr (.str s) (.int .i64 i) = some (.int .u8 c.toNat) := by
  simp [evIxstr, h]
theorem byte_eq (c : UInt8) (k : UInt8) : ((c.toNat : Int) = (k.toNat : Int)) ↔ c = k := by
  rw [Int.ofNat_inj]; exact ⟨fun h => UInt8.toNat_inj.1 h, fun h => by rw [h]⟩
theorem take_lead (s : List UInt8) (hs : s.length ≤ 9223372036854775807) (h : Heap) : ∀ (d i : Nat), i + d = lead s → q8_L21 (.str s) (.int .i64 i) h = q8_20 (.str s) (.int .i64 (lead s)) h := by
  intro d
  induction d with
  | zero =>
    intro i hi
    obtain rfl : i = lead s := by omega
    rw [q8_L21_go]
    have := lead_le s
    by_cases hc : lead s < s.length
    · have e := List.getElem?_eq_getElem hc
      have hne := lead_at e
      have hc' : ((lead s : Int) < (s.length : Int)) := by omega
      have hb : ¬ ((s[lead s].toNat : Int) = 91) := fun hh => hne ((byte_eq _ 91).1 hh)
      simp [q8_23, hc', ixstr e, hb]
    · have hc' : ¬ ((lead s : Int) < (s.length : Int)) := by omega
      simp [q8_23, hc']
  | succ d ih =>
    intro i hi
    have e := lead_lt (s := s) (i := i) (by omega)
    have := lead_le s
    have hc' : ((i : Int) < (s.length : Int)) := by omega
    have ih := ih (i + 1) (by omega)
    push_cast at ih
    rw [q8_L21_go]
    simp [q8_23, hc', ixstr e, q8_22, wrap_up (show i < s.length by omega) hs, ih]
theorem take_loop (s : List UInt8) (hs : s.length ≤ 9223372036854775807) (n : Nat) (h : Heap) : ∀ (d i : Nat), n + 1 ≤ i → i + d = s.length →
    q8_L2 (.str s) (.int .i64 n) (.int .i64 i) h =
      some ⟨.int .i64 (if (s.drop i).findIdx (· == 59) < (s.drop i).length ∧ nameOk ((s.take (i + (s.drop i).findIdx (· == 59))).drop (n + 1)) = true then (i + (s.drop i).findIdx (· == 59) + 1 : Nat) else (0 : Nat)), [], true, [], []⟩ := by
  intro d
  induction d with
  | zero =>
    intro i h1 hi
    rw [q8_L2_go]
    have e1 : s.drop i = [] := List.drop_eq_nil_of_le (by omega)
    have hc : ¬ ((i : Int) < (s.length : Int)) := by omega
    simp [q8_10, q8_1, hc, e1]
  | succ d ih =>
    intro i h1 hi
    rw [q8_L2_go]
    have hlt : i < s.length := by omega
    have e := List.getElem?_eq_getElem hlt
    have hc : ((i : Int) < (s.length : Int)) := by omega
    have hd : s.drop i = s[i] :: s.drop (i + 1) := List.drop_eq_getElem_cons hlt
    by_cases hb : s[i] = 59
    · have hb' : ((s[i].toNat : Int) = 59) := (byte_eq _ 59).2 hb
      have hf : (s.drop i).findIdx (· == 59) = 0 := by rw [hd, List.findIdx_cons]; simp [hb]
      have hw1 : IntKind.wrap .i64 ((n : Int) + 1) = (n : Int) + 1 := wrap_up (show n < s.length by omega) hs
      have hsl : evSls (.str s) (some (.int .i64 ((n : Int) + 1))) (some (.int .i64 (i : Int))) = some (.str ((s.take i).drop (n + 1))) := by
        have a1 : ((0 : Int) ≤ (i : Int) ∧ (i : Int) ≤ (s.length : Int)) := by omega
        have a2 : ((0 : Int) ≤ (n : Int) + 1 ∧ (n : Int) + 1 ≤ (i : Int)) := by omega
        simp only [evSls, optIxv, asNat, if_pos a1, Int.toNat_natCast, if_pos a2]
        rfl
      rw [hf]
      have hlen : 0 < (s.drop i).length := by rw [List.length_drop]; omega
      cases hn : nameOk ((s.take i).drop (n + 1)) with
      | true =>
        simp only [q8_10, q8_7, q8_6, q8_5, evLen_str, ob_some, evBin_lss, hc, decide_true, cnd_t, ixstr e, evBin_eql, hb', evBin_add, hw1, hsl]
        simp [hn, hlt, wrap_up hlt hs]
        omega
      | false =>
        simp only [q8_10, q8_7, q8_6, q8_5, evLen_str, ob_some, evBin_lss, hc, decide_true, cnd_t, ixstr e, evBin_eql, hb', evBin_add, hw1, hsl]
        simp [hn, q8_4]
    · have hb' : ¬ ((s[i].toNat : Int) = 59) := fun hh => hb ((byte_eq _ 59).1 hh)
      have hf : (s.drop i).findIdx (· == 59) = (s.drop (i + 1)).findIdx (· == 59) + 1 := by
        rw [hd, List.findIdx_cons]
        have : (s[i] == 59) = false := by simpa using hb
        rw [this]; rfl
      have hl : (s.drop i).length = (s.drop (i + 1)).length + 1 := by rw [hd]; rfl
      have ih := ih (i + 1) (by omega) (by omega)
      push_cast at ih
      rw [hf, hl]
      have e2 : i + ((s.drop (i + 1)).findIdx (· == 59) + 1) = i + 1 + (s.drop (i + 1)).findIdx (· == 59) := by omega
      rw [e2]
      simp only [q8_10, q8_7, q8_6, q8_3, evLen_str, ob_some, evBin_lss, hc, decide_true, cnd_t, cnd_f, ixstr e, evBin_eql, hb', decide_false, evBin_add, wrap_up hlt hs, ih]
      simp only [Nat.add_lt_add_iff_right]
      push_cast
      rfl
@[simp] theorem s_take (s : List UInt8) (hs : s.length ≤ 9223372036854775807) : (callW E).p 44 [.str s] = some ⟨.int .i64 (takeM s), [], true, [], []⟩ := by
  rw [x_q8]
  have h0 := take_lead s hs [] (lead s) 0 (by omega)
  simp only [Int.ofNat_zero] at h0
  have hle := lead_le s
  have key : q8_20 (.str s) (.int .i64 (lead s)) [] = some ⟨.int .i64 (takeM s), [], true, [], []⟩ := by
    unfold takeM
    by_cases h8 : 8 < lead s
    · have h8' : ((8 : Int) < (lead s : Int)) := by omega
      simp [q8_20, h8', h8]
    by_cases hl : lead s = s.length
    · have h8' : ¬ ((8 : Int) < (lead s : Int)) := by omega
      have hl' : ((lead s : Int) = (s.length : Int)) := by omega
      have h9' : ¬ ((8 : Int) < (s.length : Int)) := by omega
      simp [q8_20, h8', h9', hl', hl]
    · have h8' : ¬ ((8 : Int) < (lead s : Int)) := by omega
      have hl' : ¬ ((lead s : Int) = (s.length : Int)) := by omega
      have hlt : lead s < s.length := by omega
      have e := List.getElem?_eq_getElem hlt
      rw [if_neg (by simp [h8, hl]), e]
      have hw := wrap_up hlt hs
      by_cases c1 : s[lead s] = 73
      · have c1' : ((s[lead s].toNat : Int) = 73) := (byte_eq _ 73).2 c1
        simp [q8_20, q8_18, q8_16, q8_15, h8', hl', ixstr e, c1', c1, hw]
      by_cases c2 : s[lead s] = 74
      · have c2' : ((s[lead s].toNat : Int) = 74) := (byte_eq _ 74).2 c2
        simp [q8_20, q8_18, q8_16, q8_15, h8', hl', ixstr e, c2', c2, hw]
      have c1' : ¬ ((s[lead s].toNat : Int) = 73) := fun hh => c1 ((byte_eq _ 73).1 hh)
      have c2' : ¬ ((s[lead s].toNat : Int) = 74) := fun hh => c2 ((byte_eq _ 74).1 hh)
      by_cases c3 : s[lead s] = 76
      · have c3' : ((s[lead s].toNat : Int) = 76) := (byte_eq _ 76).2 c3
        have := take_loop s hs (lead s) [] _ (lead s + 1) (Nat.le_refl _) (show lead s + 1 + (s.length - (lead s + 1)) = s.length by omega)
        push_cast at this
        simp [q8_20, q8_18, q8_16, q8_15, q8_14, q8_13, q8_12, h8', hl', ixstr e, c1', c2', c3', c1, c2, c3, hw, this]
        split <;> simp
      · have c3' : ¬ ((s[lead s].toNat : Int) = 76) := fun hh => c3 ((byte_eq _ 76).1 hh)
        simp [q8_20, q8_18, q8_16, q8_15, q8_14, q8_13, q8_1, h8', hl', ixstr e, c1', c2', c3', c1, c2, c3]
  rw [← key, ← h0]
  simp [q8_27, q8_26]
def typeOk (s : List UInt8) : Bool := decide (s ≠ []) && decide (takeM s = s.length)
@[simp] theorem s_Type (s : List UInt8) (hs : s.length ≤ 9223372036854775807) : (callW E).p 37 [.str s] = some ⟨.bool (typeOk s), [], true, [], []⟩ := by
  rw [x_q7]
  have h := s_take s hs
  by_cases h1 : s = []
  · simp [q7_1, h1, typeOk]
  · have e : ((takeM s : Int) = (s.length : Int)) ↔ takeM s = s.length := by omega
    simp [q7_1, h1, typeOk, h, e]
end Go.Vm
namespace Go.Vm
open Cel
attribute [local simp] callAny callP heapOf_nil
def numK (c : Int) : Int × Int × Int :=
  if c ∈ [96, 100, 104, 108, 112, 120, 122, 124, 126, 128, 130] then (1, 1, 1)
  else if c ∈ [97, 101, 105, 109, 113, 127, 129, 131] then (2, 2, 2)
  else if c ∈ [121, 123, 125] then (2, 1, 2)
  else if c = 148 then (2, 2, 1)
  else if c ∈ [116, 145, 146, 147] then (1, 0, 1)
  else if c = 117 then (2, 0, 2)
  else if c = 133 then (1, 0, 2)
  else if c = 136 then (2, 0, 1)
  else (0, 0, 0)
def isTup3 (r : Option (Ex AV)) (k : Int × Int × Int) : Bool :=
  match r with
  | some ⟨.tup [.int .i64 a, .int .i64 b, .int .i64 c], [], true, [], []⟩ => a == k.1 && b == k.2.1 && c == k.2.2
  | _ => false
theorem isTup3_eq {r : Option (Ex AV)} {k : Int × Int × Int} (h : isTup3 r k = true) : r = some ⟨.tup [.int .i64 k.1, .int .i64 k.2.1, .int .i64 k.2.2], [], true, [], []⟩ := by
  unfold isTup3 at h
  split at h
  · simp only [Bool.and_eq_true, beq_iff_eq] at h
    obtain ⟨⟨h1, h2⟩, h3⟩ := h
    rw [h1, h2, h3]
  · cases h
theorem range_all {n : Nat} {f : Nat → Bool} (h : ((List.range n).all f) = true) (i : Nat) (hi : i < n) : f i = true := by
  rw [List.all_eq_true] at h
  exact h i (List.mem_range.2 hi)
theorem num_in : ((List.range 60).all fun i => isTup3 ((both E 30).1.p 50 [.int .i64 (95 + i)]) (numK (95 + i))) = true := by kernel_rfl
theorem numK_out {c : Int} (h : c < 96 ∨ 148 < c) : numK c = (0, 0, 0) := by
  simp only [numK, List.mem_cons, List.not_mem_nil, or_false]
  repeat' split
  all_goals first | rfl | omega
theorem s_Kinds (c : Int) : (callW E).p 50 [.int .i64 c] = some ⟨.tup [.int .i64 (numK c).1, .int .i64 (numK c).2.1, .int .i64 (numK c).2.2], [], true, [], []⟩ := by
  by_cases h : c < 96 ∨ 148 < c
  · rw [numK_out h, x_q53]
    have h2 : ∀ k : Int, 96 ≤ k → k ≤ 148 → ¬ c = k := by omega
    simp [q53_1, q53_2, q53_3, q53_4, q53_5, q53_6, q53_7, q53_8, q53_9, q53_10, q53_11, q53_13, q53_15, h2]
    rfl
  · have := range_all num_in (c - 95).toNat (by omega)
    have e : (95 + ((c - 95).toNat : Int)) = c := by omega
    simp only [e] at this
    exact lift_p 30 (isTup3_eq this)
end Go.Vm
namespace Go.Vm
def kindsM (x : Ins) : Int × Int × Int × Int × Bool :=
  match x.op with
  | 1 => (0, -1, -1, -1, true)
  | 2 => (3, -1, -1, -1, true)
  | 3 => (3, -1, -1, -1, true)
  | 4 => (0, 0, -1, -1, true)
  | 5 => ((numK x.n).2.2, (numK x.n).1, (numK x.n).2.1, -1, decide (¬ (numK x.n).2.1 = 0))
  | 6 => ((numK x.n).2.2, (numK x.n).1, -1, -1, decide (¬ (numK x.n).1 = 0) && decide ((numK x.n).2.1 = 0))
  | 7 => (-1, 0, -1, -1, true)
  | 8 => (-1, 3, -1, -1, true)
  | 9 => (-1, 3, 1, -1, true)
  | 10 => (-1, 1, -1, -1, true)
  | 11 => (-1, 3, 3, -1, true)
  | 12 => (-1, 3, -1, -1, typeOk x.s)
  | 13 => (0, 3, 1, -1, true)
  | 14 => (-1, 3, 1, 0, true)
  | 15 => (1, 3, -1, -1, true)
  | 16 => (0, 3, -1, -1, decide (0 ≤ x.n))
  | 17 => (-1, 3, 0, -1, decide (0 ≤ x.n))
  | 18 => (0, -1, -1, -1, true)
  | 19 => (-1, 0, -1, -1, true)
  | 20 => (3, -1, -1, -1, true)
  | 21 => (3, 1, -1, -1, typeOk x.s)
  | 22 => (1, 3, -1, -1, typeOk x.s)
  | 23 => (if x.d = -1 then -1 else 0, -1, -1, -1, decide (0 ≤ x.n) && decide ((lst x.args).length ≤ 21))
  | 24 => (if x.d = -1 then -1 else 0, -1, -1, -1, decide (0 < (lst x.args).length) && decide (0 ≤ x.n) && decide ((lst x.args).length ≤ 21))
  | 25 => (if x.d = -1 then -1 else 0, -1, -1, -1, decide (0 < (lst x.args).length) && decide ((lst x.args).length ≤ 21))
  | 26 => (if x.d = -1 then -1 else 0, -1, -1, -1, decide (0 ≤ x.n) && decide ((lst x.args).length ≤ 21))
  | 27 => (-1, -1, -1, -1, true)
  | 28 => (-1, 1, 1, -1, decide (0 ≤ x.n) && decide (x.n ≤ 5))
  | 29 => (-1, 3, if x.b = -1 then -1 else 3, -1, decide (x.n = 0) || decide (x.n = 1))
  | 30 => (-1, if x.a = -1 then -1 else 0, -1, -1, true)
  | 31 => (-1, 3, -1, -1, true)
  | 32 => (3, -1, -1, -1, true)
  | 33 => (-1, -1, -1, -1, true)
  | _ => (0, 0, 0, 0, false)
def exK (k : Int × Int × Int × Int × Bool) : Ex AV := ⟨.tup [.agg [.int .i64 k.1, .int .i64 k.2.1, .int .i64 k.2.2.1, .int .i64 k.2.2.2.1], .bool k.2.2.2.2], [], true, [], []⟩
theorem kindsM_out {x : Ins} (h : x.op < 1 ∨ 33 < x.op) : kindsM x = (0, 0, 0, 0, false) := by
  unfold kindsM
  split <;> first | rfl | omega
end Go.Vm
namespace Go.Vm
def regK (R : List Int) (r : Int) : Int := if r < 0 then 0 else R.getD r.toNat 0
def inR (R : List Int) (r : Int) : Bool := decide (0 ≤ r) && decide (r < R.length)
def fieldOk (R : List Int) (w r : Int) : Bool := decide (w < 0) || (inR R r && (decide (w ≤ 0) || decide (regK R r = w)))
def firstOk (R : List Int) (x : Ins) : Bool :=
  match lst x.args with
  | [] => true
  | r :: _ => !(decide (x.op = 24) || decide (x.op = 25)) || decide (regK R r = 3)
def argsOk (R : List Int) (x : Ins) : Bool := !calls x.op || (firstOk R x && (lst x.args).all (inR R))
def tailOk (R : List Int) (ret : Int) (n : Nat) (x : Ins) : Bool :=
  if x.op = 1 then decide (¬ regK R x.d = 3) && (decide (regK R x.d = 2) || decide (x.n = IntKind.wrap .i64 (IntKind.wrap .i32 x.n)))
  else if x.op = 4 then decide (regK R x.d = regK R x.a)
  else if x.op = 7 then decide (¬ regK R x.a = 3)
  else if x.op = 30 then (decide (x.a = -1) == decide (ret = 0)) && (decide (x.a = -1) || decide (regK R x.a = ret))
  else !leads x.op || (decide (0 ≤ x.t) && decide (x.t < n))
def rightM (f : Fn) (x : Ins) : Bool :=
  (kindsM x).2.2.2.2 && fieldOk (lst f.regs) (kindsM x).1 x.d && fieldOk (lst f.regs) (kindsM x).2.1 x.a && fieldOk (lst f.regs) (kindsM x).2.2.1 x.b && fieldOk (lst f.regs) (kindsM x).2.2.2.1 x.c &&
    argsOk (lst f.regs) x && tailOk (lst f.regs) f.ret (lst f.code).length x
theorem inR_get {R : List Int} {r : Int} (h : inR R r = true) : 0 ≤ r ∧ r.toNat < R.length ∧ R[r.toNat]? = some (regK R r) := by
  simp only [inR, Bool.and_eq_true, decide_eq_true_eq] at h
  have h1 : r.toNat < R.length := by omega
  refine ⟨h.1, h1, ?_⟩
  rw [regK, if_neg (by omega), List.getD_eq_getElem?_getD, List.getElem?_eq_getElem h1]; rfl
def placeOk (n : Nat) (t : Int) : Bool := decide (0 ≤ t) && decide (t < n)
def distinct : List Int → Bool
  | [] => true
  | p :: r => !r.contains p && distinct r
def spotOk (C : List Ins) (i : Nat) (x : Ins) : Bool :=
  !((decide (x.op = 32) && (decide (i = 0) || !ends ((C.getD (i - 1) default).op))) || (leads x.op && decide ((C.getD x.t.toNat default).op = 32)))
def codeOk (f : Fn) (C : List Ins) : Nat → List Ins → Bool
  | _, [] => true
  | i, x :: r => rightM f x && spotOk C i x && codeOk f C (i + 1) r
def rowOk (C : List Ins) (r : Row) : Bool :=
  !(decide (r.f < 0) || decide (r.t ≤ r.f) || decide ((C.length : Int) < r.t) || decide (r.at_ < 0) || decide ((C.length : Int) ≤ r.at_) || decide (¬ (C.getD r.at_.toNat default).op = 32))
def parOk (R : List Int) : Nat → List Int → List Int → Bool
  | _, _, [] => true
  | i, seen, p :: r => (inR R p && !seen.contains p && decide (i ≤ 20)) && parOk R (i + 1) (seen ++ [p]) r
def wf (f : Fn) : Bool :=
  decide (1 ≤ (lst f.code).length) && decide ((lst f.code).length ≤ 20000) && decide ((lst f.regs).length ≤ 20000) && decide (0 ≤ f.ret) && decide (f.ret ≤ 3) && ends ((lst f.code).getD ((lst f.code).length - 1) default).op &&
    (lst f.regs).all (fun k => decide (1 ≤ k) && decide (k ≤ 3)) && parOk (lst f.regs) 0 [] (lst f.params) && codeOk f (lst f.code) 0 (lst f.code) && (lst f.rows).all (rowOk (lst f.code))
end Go.Vm
namespace Go.Vm
def needsM (o : Int) : Nat := if o = 29 then 2 else if o = 30 then 1 else reads o
def freeM (x y : Ins) : Ins :=
  { op := y.op, d := if writes y.op then y.d else x.d, a := if 1 ≤ needsM y.op then y.a else x.a, b := if 2 ≤ needsM y.op then y.b else x.b, c := if 3 ≤ needsM y.op then y.c else x.c,
    n := y.n, t := y.t, s := y.s, args := if calls y.op then y.args else x.args }
theorem fieldOk_m {R : List Int} {r : Int} : fieldOk R (-1) r = true := by simp [fieldOk]
set_option maxHeartbeats 4000000 in
theorem free_right (f : Fn) (x y : Ins) : rightM f (freeM x y) = rightM f y := by
  rcases op_cases y.op with h|h|h|h|h|h|h|h|h|h|h|h|h|h|h|h|h|h|h|h|h|h|h|h|h|h|h|h|h|h|h|h|h|h|h
  all_goals first
    | (simp [rightM, freeM, kindsM, h, needsM, reads, writes, calls, argsOk, firstOk, tailOk, leads, fieldOk_m]; done)
    | (have h1 : (freeM x y).op < 1 ∨ 33 < (freeM x y).op := by simp only [freeM]; omega
       have h2 : y.op < 1 ∨ 33 < y.op := by omega
       rw [rightM, rightM, kindsM_out h1, kindsM_out h2]; rfl)
theorem free_op (x y : Ins) : (freeM x y).op = y.op ∧ (freeM x y).t = y.t := ⟨rfl, rfl⟩
theorem free_def (x y : Ins) : defr (freeM x y) = defr y := by
  simp only [defr, freeM]
  split <;> rfl
theorem codeOk_congr (f g : Fn) (C D : List Ins) (hop : ∀ i, (C.getD i default).op = (D.getD i default).op) : ∀ (l m : List Ins) (i : Nat), l.length = m.length →
    (∀ k (h1 : k < l.length) (h2 : k < m.length), l[k].op = m[k].op ∧ l[k].t = m[k].t ∧ rightM f l[k] = rightM g m[k]) → codeOk f C i l = codeOk g D i m
  | [], [], _, _, _ => rfl
  | x :: l, y :: m, i, hl, h => by
    have h0 := h 0 (by simp) (by simp)
    simp only [List.getElem_cons_zero] at h0
    have hs : spotOk C i x = spotOk D i y := by simp only [spotOk, h0.1, h0.2.1, hop]
    rw [codeOk, codeOk, h0.2.2, hs, codeOk_congr f g C D hop l m (i + 1) (by simpa using hl) (fun k h1 h2 => by
      have := h (k + 1) (by simp; omega) (by simp; omega)
      simpa using this)]
  | [], _ :: _, _, hl, _ => by simp at hl
  | _ :: _, [], _, hl, _ => by simp at hl
theorem rightM_congr {f g : Fn} (hr : lst g.regs = lst f.regs) (ht : g.ret = f.ret) (hc : (lst g.code).length = (lst f.code).length) (x : Ins) : rightM g x = rightM f x := by
  simp only [rightM, hr, ht, hc]
theorem wf_congr {f g : Fn} (hr : lst g.regs = lst f.regs) (hp : lst g.params = lst f.params) (ht : g.ret = f.ret) (hw : lst g.rows = lst f.rows) (hc : (lst g.code).length = (lst f.code).length)
    (h : ∀ k (h1 : k < (lst g.code).length) (h2 : k < (lst f.code).length), (lst g.code)[k].op = (lst f.code)[k].op ∧ (lst g.code)[k].t = (lst f.code)[k].t ∧ rightM g (lst g.code)[k] = rightM f (lst f.code)[k]) : wf g = wf f := by
  have hop : ∀ i, ((lst g.code).getD i default).op = ((lst f.code).getD i default).op := by
    intro i
    by_cases hi : i < (lst f.code).length
    · have hi2 : i < (lst g.code).length := by omega
      have := (h i hi2 hi).1
      rw [List.getD_eq_getElem?_getD, List.getD_eq_getElem?_getD, List.getElem?_eq_getElem hi, List.getElem?_eq_getElem hi2]
      exact this
    · rw [List.getD_eq_getElem?_getD, List.getD_eq_getElem?_getD, List.getElem?_eq_none (by omega), List.getElem?_eq_none (by omega)]
  have hcode := codeOk_congr g f (lst g.code) (lst f.code) hop (lst g.code) (lst f.code) 0 hc h
  have hrow : (lst g.rows).all (rowOk (lst g.code)) = (lst f.rows).all (rowOk (lst f.code)) := by
    rw [hw]
    congr 1
    funext r
    simp only [rowOk, hc, hop]
  simp only [wf, hr, hp, ht, hc, hop, hcode, hrow]
end Go.Vm
namespace Go.Vm
open Cel
attribute [local simp] callAny callP heapOf_nil
def rowT : List (List UInt8) := [[], [110, 45, 45, 45], [51, 45, 45, 45], [51, 45, 45, 45], [42, 61, 45, 45], [63, 63, 63, 63], [63, 63, 63, 63], [45, 110, 45, 45], [45, 51, 45, 45], [45, 51, 49, 45], [45, 49, 45, 45], [45, 51, 51, 45], [45, 51, 45, 45], [42, 51, 49, 45], [45, 51, 49, 42], [49, 51, 45, 45], [42, 51, 45, 45], [45, 51, 42, 45], [42, 45, 45, 45], [45, 42, 45, 45], [51, 45, 45, 45], [51, 49, 45, 45], [49, 51, 45, 45], [63, 63, 63, 63], [63, 63, 63, 63], [63, 63, 63, 63], [63, 63, 63, 63], [45, 45, 45, 45], [45, 49, 49, 45], [45, 51, 63, 45], [45, 63, 45, 45], [45, 51, 45, 45], [51, 45, 45, 45], [45, 45, 45, 45]]
def rowM (op : Int) : List UInt8 := if op < 1 ∨ 33 < op then [] else rowT.getD op.toNat []
def isStrR (r : Option (Ex AV)) (s : List UInt8) : Bool :=
  match r with
  | some ⟨.str a, [], true, [], []⟩ => a == s
  | _ => false
theorem isStrR_eq {r : Option (Ex AV)} {s : List UInt8} (h : isStrR r s = true) : r = some ⟨.str s, [], true, [], []⟩ := by
  unfold isStrR at h
  split at h
  · rw [eq_of_beq h]
  · cases h
theorem row_in : ((List.range 33).all fun i => isStrR ((both E 30).1.p 38 [.int .i64 (1 + i)]) (rowM (1 + i))) = true := by kernel_rfl
set_option maxHeartbeats 2000000 in
theorem s_row (op : Int) : (callW E).p 38 [.int .i64 op] = some ⟨.str (rowM op), [], true, [], []⟩ := by
  by_cases h : op < 1 ∨ 33 < op
  · rw [rowM, if_pos h, x_q110]
    simp only [q110_1, q110_2, q110_3, q110_4]
    generalize hb : buildSC 0 (some 0) 1 34 _ _ _ = B
    have hB : ∃ v t, B = some (.ls 0 1 1 0 34, ⟨1, .arr false false 1 v⟩ :: t) := by
      rw [← hb]; exact ⟨_, _, rfl⟩
    obtain ⟨v, t, rfl⟩ := hB
    rcases h with h | h
    · simp [h]
    · have h1 : ¬ op < 1 := by omega
      have h2 : 34 ≤ op := by omega
      simp [h1, h2]
  · have := range_all row_in (op - 1).toNat (by omega)
    have e : (1 + ((op - 1).toNat : Int)) = op := by omega
    simp only [e] at this
    exact lift_p 30 (isStrR_eq this)
end Go.Vm
namespace Go.Vm
@[simp] theorem s_RCalls (op : Int) : (callW E).p 7 [.int .i64 op] = some ⟨.bool (calls op), [], true, [], []⟩ := by
  rw [x_q92, q92_1]
  by_cases h1 : 23 ≤ op
  · by_cases h2 : op ≤ 26 <;> simp [h1, h2, calls]
  · simp [h1, calls]
end Go.Vm
namespace Go.Vm
open Cel
attribute [local simp] callAny callP heapOf_nil
def isIntR (r : Option (Ex AV)) (n : Int) : Bool :=
  match r with
  | some ⟨.int .i64 a, [], true, [], []⟩ => a == n
  | _ => false
theorem isIntR_eq {r : Option (Ex AV)} {n : Int} (h : isIntR r n = true) : r = some ⟨.int .i64 n, [], true, [], []⟩ := by
  unfold isIntR at h
  split at h
  · rw [eq_of_beq h]
  · cases h
def isBoolR (r : Option (Ex AV)) (n : Bool) : Bool :=
  match r with
  | some ⟨.bool a, [], true, [], []⟩ => a == n
  | _ => false
theorem isBoolR_eq {r : Option (Ex AV)} {n : Bool} (h : isBoolR r n = true) : r = some ⟨.bool n, [], true, [], []⟩ := by
  unfold isBoolR at h
  split at h
  · rw [eq_of_beq h]
  · cases h
theorem needs_in : ((List.range 33).all fun i => isIntR ((both E 30).1.p 6 [.int .i64 (1 + i)]) (needsM (1 + i)) && isBoolR ((both E 30).1.p 5 [.int .i64 (1 + i)]) (writes (1 + i))) = true := by kernel_rfl
theorem s_Needs (op : Int) : (callW E).p 6 [.int .i64 op] = some ⟨.int .i64 (needsM op), [], true, [], []⟩ := by
  by_cases h : op < 1 ∨ 33 < op
  · have hr := s_row op
    rw [rowM, if_pos h] at hr
    have h5 : ¬ op = 5 := by omega
    have h6 : ¬ op = 6 := by omega
    have hn : needsM op = 0 := by
      have h29 : ¬ op = 29 := by omega
      have h30 : ¬ op = 30 := by omega
      simp only [needsM, reads, h29, h30, if_false, List.mem_cons, List.not_mem_nil, or_false]
      rw [if_neg (by omega), if_neg (by omega), if_neg (by omega)]
    rw [hn, x_q98]
    simp [q98_7, q98_9, q98_10, q98_11, q98_12, q98_13, hr, h5, h6]
    rw [q98_L2_go]
    simp [q98_5, q98_1]
  · have := range_all needs_in (op - 1).toNat (by omega)
    have e : (1 + ((op - 1).toNat : Int)) = op := by omega
    rw [Bool.and_eq_true] at this
    simp only [e] at this
    exact lift_p 30 (isIntR_eq this.1)
theorem s_Writes (op : Int) : (callW E).p 5 [.int .i64 op] = some ⟨.bool (writes op), [], true, [], []⟩ := by
  by_cases h : op < 1 ∨ 33 < op
  · have hr := s_row op
    rw [rowM, if_pos h] at hr
    have hn : writes op = false := by
      have : ¬ op ∈ [1, 2, 3, 4, 5, 6, 13, 15, 16, 18, 20, 21, 22, 32] := by
        simp only [List.mem_cons, List.not_mem_nil, or_false]; omega
      have hc : calls op = false := by
        simp only [calls]
        simp; omega
      rw [writes, hc, decide_eq_false this]; rfl
    rw [hn, x_q104]
    simp [q104_1, hr]
  · have := range_all needs_in (op - 1).toNat (by omega)
    have e : (1 + ((op - 1).toNat : Int)) = op := by omega
    rw [Bool.and_eq_true] at this
    simp only [e] at this
    exact lift_p 30 (isBoolR_eq this.2)
end Go.Vm
namespace Go.Vm
open Cel
attribute [local simp] callAny callP heapOf_nil
theorem Ints_loop (a b : Option (List Int)) (hn : (lst a).length = (lst b).length) (hl : (lst a).length ≤ 9223372036854775807) (h : Heap) : ∀ (d i : Nat), i + d = (lst a).length →
    q96_L2 (slA a) (slA b) (.int .i64 i) h = some ⟨.bool (decide ((lst a).drop i = (lst b).drop i)), [], true, [], []⟩ := by
  intro d
  induction d with
  | zero =>
    intro i hi
    have e1 : (lst a).drop i = [] := List.drop_eq_nil_of_le (by omega)
    have e2 : (lst b).drop i = [] := List.drop_eq_nil_of_le (by omega)
    rw [q96_L2_go, e1, e2]
    have : ¬ ((i : Int) < ((lst a).length : Int)) := by omega
    simp [q96_1, q96_3, q96_4, q96_5, q96_7, q96_9, q96_10, this]
  | succ d ih =>
    intro i hi
    have h1 : i < (lst a).length := by omega
    have h2 : i < (lst b).length := by omega
    have hc : ((i : Int) < ((lst a).length : Int)) := by omega
    have k1 := ixs_int (o := a) (i := i) (List.getElem?_eq_getElem h1) .i64
    have k2 := ixs_int (o := b) (i := i) (List.getElem?_eq_getElem h2) .i64
    rw [q96_L2_go, drop_dec h1 h2]
    by_cases he : (lst a)[i] = (lst b)[i]
    · have := ih (i + 1) (by omega)
      push_cast at this
      simp [q96_1, q96_3, q96_4, q96_5, q96_7, q96_9, q96_10, hc, k1, k2, he, wrap_up h1 hl, this]
    · simp [q96_1, q96_3, q96_4, q96_5, q96_7, q96_9, q96_10, hc, k1, k2, he]
@[simp] theorem s_Ints (a b : Option (List Int)) (hl : (lst a).length ≤ 9223372036854775807) : (callW E).p 11 [slA a, slA b] = some ⟨.bool (decide (lst a = lst b)), [], true, [], []⟩ := by
  rw [x_q96]
  by_cases hn : (lst a).length = (lst b).length
  · have := Ints_loop a b hn hl [] (lst a).length 0 (by omega)
    simp only [Int.ofNat_zero, List.drop_zero] at this
    have hn' : ((lst a).length : Int) = ((lst b).length : Int) := by omega
    simp [q96_1, q96_3, q96_4, q96_5, q96_7, q96_9, q96_10, hn', show q96_L2 (slA a) (slA b) (.int .i64 0) [] = _ from this]
  · have hn' : ¬ ((lst a).length : Int) = ((lst b).length : Int) := by omega
    have : ¬ lst a = lst b := fun h => hn (by rw [h])
    simp [q96_1, q96_3, q96_4, q96_5, q96_7, q96_9, q96_10, hn', this]
end Go.Vm
namespace Go.Vm
open Cel
attribute [local simp] callAny callP heapOf_nil
@[simp] theorem s_Ends (x : Ins) : (callW E).p 24 [.agg (enc x)] = some ⟨.bool (ends x.op), [], true, [], []⟩ := by
  rw [x_q15, q15_1]
  by_cases h1 : x.op = 27
  · simp [h1, ends]
  by_cases h2 : x.op = 30
  · simp [h2, ends]
  by_cases h3 : x.op = 31 <;> simp [h1, h2, h3, ends]
@[simp] theorem s_Leads (x : Ins) : (callW E).p 22 [.agg (enc x)] = some ⟨.bool (leads x.op), [], true, [], []⟩ := by
  rw [x_q16, q16_1]
  by_cases h1 : x.op = 27
  · simp [h1, leads]
  by_cases h2 : x.op = 28
  · simp [h2, leads]
  by_cases h3 : x.op = 29 <;> simp [h1, h2, h3, leads]
@[simp] theorem s_Calls (x : Ins) : (callW E).p 17 [.agg (enc x)] = some ⟨.bool (calls x.op), [], true, [], []⟩ := by
  rw [x_q11, q11_1]
  by_cases h1 : 23 ≤ x.op
  · by_cases h2 : x.op ≤ 26 <;> simp [h1, h2, calls]
  · simp [h1, calls]
end Go.Vm
namespace Go.Vm
open Cel
attribute [local simp] callAny callP heapOf_nil
theorem app_fits {n b : Nat} (hb : b ≤ 200) (h : n ≤ 2 ^ 38) : (2 * n + 512) * b ≤ 281474976710656 := by
  have e : (2:Nat)^38 = 274877906944 := by decide
  have h1 : (2 * n + 512) ≤ 549755814400 := by omega
  have : (2 * n + 512) * b ≤ 549755814400 * 200 := Nat.mul_le_mul h1 hb
  omega
@[simp] theorem s_Clone_int (o : Option (List Int)) (h : (lst o).length ≤ 17592186043904) : (callW E).p 39 [slA o] = some (exO o) := by
  rw [x_q126]
  cases o with
  | none => simp [q126_1, q126_2, q126_3]; rfl
  | some L =>
    simp only [lst_some] at h
    have h1 : (2 * L.length + 512) * 8 ≤ 281474976710656 := by omega
    simp [q126_1, q126_2, q126_3, buildSC, fillRows, evApp, h1]
    exact expo1_own (α := Int) (by simp)
end Go.Vm
namespace Go.Vm
open Cel
attribute [local simp] callAny callP heapOf_nil
theorem place_own {α : Type} [Cel α] (fb j : Nat) (L : List α) (h : Heap) {o : AO} (ho : h[fb + j]? = some o) : placeAll fb (some j) [.arr false false (es α) (L.map enc)] [] h =
    some ([(fb + j, o.gen + 1)], h.set (fb + j) ⟨o.gen + 1, .arr false false (es α) (L.map enc)⟩) := by
  simp [placeAll, relocOC, okOC, ho]
theorem uses_1 (x : Ins) (h : x.op = 4 ∨ x.op = 6 ∨ x.op = 7 ∨ x.op = 8 ∨ x.op = 10 ∨ x.op = 12 ∨ x.op = 15 ∨ x.op = 16 ∨ x.op = 19 ∨ x.op = 21 ∨ x.op = 22 ∨ x.op = 31) : (callW E).p 10 [.agg (enc x)] = some (exO (uses x)) := by
  rw [x_q20]
  rcases h with h|h|h|h|h|h|h|h|h|h|h|h <;> (simp [h, uses, calls, reads, q20_1, q20_2, q20_3, q20_4, q20_5, q20_6, q20_7, q20_8, q20_9, q20_10, q20_11, q20_12, q20_13, q20_15, q20_17, buildSC, fillRows]; exact expo1_own (α := Int) (L := [x.a]) (by simp))
theorem uses_2 (x : Ins) (h : x.op = 5 ∨ x.op = 9 ∨ x.op = 11 ∨ x.op = 13 ∨ x.op = 17 ∨ x.op = 28) : (callW E).p 10 [.agg (enc x)] = some (exO (uses x)) := by
  rw [x_q20]
  rcases h with h|h|h|h|h|h <;> (simp [h, uses, calls, reads, q20_1, q20_2, q20_3, q20_4, q20_5, q20_6, q20_7, q20_8, q20_9, q20_10, q20_11, q20_12, q20_13, q20_15, q20_17, buildSC, fillRows]; exact expo1_own (α := Int) (L := [x.a, x.b]) (by simp))
theorem uses_3 (x : Ins) (h : x.op = 14) : (callW E).p 10 [.agg (enc x)] = some (exO (uses x)) := by
  rw [x_q20]
  simp [h, uses, calls, reads, q20_1, q20_2, q20_3, q20_4, q20_5, q20_6, q20_7, q20_8, q20_9, q20_10, q20_11, q20_12, q20_13, q20_15, q20_17, buildSC, fillRows]
  exact expo1_own (α := Int) (L := [x.a, x.b, x.c]) (by simp)
theorem uses_4 (x : Ins) (h : x.op = 23 ∨ x.op = 24 ∨ x.op = 25 ∨ x.op = 26) (hl : (lst x.args).length ≤ 17592186043904) : (callW E).p 10 [.agg (enc x)] = some (exO (uses x)) := by
  rw [x_q20]
  have e : uses x = x.args := by rcases h with h|h|h|h <;> simp [h, uses, calls]
  rw [e]
  have hc := s_Clone_int x.args hl
  cases ha : x.args with
  | none =>
    rw [ha] at hc
    rcases h with h|h|h|h <;> (simp [h, q20_1, q20_2, q20_3, q20_4, q20_5, q20_6, q20_7, q20_8, q20_9, q20_10, q20_11, q20_12, q20_13, q20_15, q20_17, ha, hc, exO, placeAll, reloc, relocAgg, relocLeaf]; done)
  | some L =>
    rw [ha] at hc
    rcases h with h|h|h|h <;> (simp [h, q20_1, q20_2, q20_3, q20_4, q20_5, q20_6, q20_7, q20_8, q20_9, q20_10, q20_11, q20_12, q20_13, q20_15, q20_17, ha, hc, placeAll, relocOC, okOC, reloc, relocAgg, relocLeaf, exO]; exact expo1_own (α := Int) (L := L) (by simp))
theorem uses_5 (x : Ins) (h : x.op = 29) : (callW E).p 10 [.agg (enc x)] = some (exO (uses x)) := by
  rw [x_q20]
  by_cases hb : x.b < 0
  · simp [hb, h, uses, calls, reads, q20_1, q20_2, q20_3, q20_4, q20_5, q20_6, q20_7, q20_8, q20_9, q20_10, q20_11, q20_12, q20_13, q20_15, q20_17, buildSC, fillRows]
    exact expo1_own (α := Int) (L := [x.a]) (by simp)
  · simp [hb, h, uses, calls, reads, q20_1, q20_2, q20_3, q20_4, q20_5, q20_6, q20_7, q20_8, q20_9, q20_10, q20_11, q20_12, q20_13, q20_15, q20_17, buildSC, fillRows]
    exact expo1_own (α := Int) (L := [x.a, x.b]) (by simp)
theorem uses_6 (x : Ins) (h : x.op = 30) : (callW E).p 10 [.agg (enc x)] = some (exO (uses x)) := by
  rw [x_q20]
  by_cases hb : 0 ≤ x.a
  · simp [hb, h, uses, calls, reads, q20_1, q20_2, q20_3, q20_4, q20_5, q20_6, q20_7, q20_8, q20_9, q20_10, q20_11, q20_12, q20_13, q20_15, q20_17, buildSC, fillRows]
    exact expo1_own (α := Int) (L := [x.a]) (by simp)
  · simp [hb, h, uses, calls, reads, q20_1, q20_2, q20_3, q20_4, q20_5, q20_6, q20_7, q20_8, q20_9, q20_10, q20_11, q20_12, q20_13, q20_15, q20_17, buildSC, fillRows, exO]
theorem uses_7 (x : Ins) (h : x.op = 1 ∨ x.op = 2 ∨ x.op = 3 ∨ x.op = 18 ∨ x.op = 20 ∨ x.op = 27 ∨ x.op = 32 ∨ x.op = 33 ∨ x.op < 1 ∨ 33 < x.op) : (callW E).p 10 [.agg (enc x)] = some (exO (uses x)) := by
  rw [x_q20]
  rcases h with h|h|h|h|h|h|h|h|h|h
  all_goals first | (simp [h, uses, calls, reads, q20_1, q20_2, q20_3, q20_4, q20_5, q20_6, q20_7, q20_8, q20_9, q20_10, q20_11, q20_12, q20_13, q20_15, q20_17, exO]; done) | (simp [lo_f h, uses, calls, reads, q20_1, q20_2, q20_3, q20_4, q20_5, q20_6, q20_7, q20_8, q20_9, q20_10, q20_11, q20_12, q20_13, q20_15, q20_17, exO]; done) | simp [hi_f h, uses, calls, reads, q20_1, q20_2, q20_3, q20_4, q20_5, q20_6, q20_7, q20_8, q20_9, q20_10, q20_11, q20_12, q20_13, q20_15, q20_17, exO]
theorem s_Uses (x : Ins) (hl : (lst x.args).length ≤ 17592186043904) : (callW E).p 10 [.agg (enc x)] = some (exO (uses x)) := by
  by_cases h1 : x.op = 4 ∨ x.op = 6 ∨ x.op = 7 ∨ x.op = 8 ∨ x.op = 10 ∨ x.op = 12 ∨ x.op = 15 ∨ x.op = 16 ∨ x.op = 19 ∨ x.op = 21 ∨ x.op = 22 ∨ x.op = 31
  · exact uses_1 x h1
  by_cases h2 : x.op = 5 ∨ x.op = 9 ∨ x.op = 11 ∨ x.op = 13 ∨ x.op = 17 ∨ x.op = 28
  · exact uses_2 x h2
  by_cases h4 : x.op = 23 ∨ x.op = 24 ∨ x.op = 25 ∨ x.op = 26
  · exact uses_4 x h4 hl
  by_cases h5 : x.op = 29
  · exact uses_5 x h5
  by_cases h6 : x.op = 30
  · exact uses_6 x h6
  by_cases h3 : x.op = 14
  · exact uses_3 x h3
  exact uses_7 x (by omega)
end Go.Vm
namespace Go.Vm
open Cel
attribute [local simp] callAny callP heapOf_nil
@[simp] theorem s_Def (x : Ins) : (callW E).p 9 [.agg (enc x)] = some ⟨.int .i64 (defr x), [], true, [], []⟩ := by
  rw [x_q14]
  rcases op_cases x.op with h|h|h|h|h|h|h|h|h|h|h|h|h|h|h|h|h|h|h|h|h|h|h|h|h|h|h|h|h|h|h|h|h|h|h <;> first | (simp [h, defr, writes, calls, q14_1, q14_2, q14_3, q14_4, q14_6, q14_8]; done) | (simp [lo_f h, defr, writes, calls, q14_1, q14_2, q14_3, q14_4, q14_6, q14_8]; done) | simp [hi_f h, defr, writes, calls, q14_1, q14_2, q14_3, q14_4, q14_6, q14_8]
end Go.Vm
namespace Go.Vm
open Cel
def nz {α : Type} : List α → Option (List α)
  | [] => none
  | x :: L => some (x :: L)
@[simp] theorem lst_nz {α : Type} (L : List α) : lst (nz L) = L := by cases L <;> rfl
section
variable {α : Type} [Cel α]
def slotV (α : Type) [Cel α] (j g : Nat) : List α → AV
  | [] => .nils
  | _ :: L => .ls j g (es α) 0 (L.length + 1)
def slotO (g : Nat) (o : AO) : List α → AO
  | [] => o
  | x :: L => ⟨g, .arr false false (es α) ((x :: L).map enc)⟩
@[simp] theorem slotV_nil (j g : Nat) : slotV α j g [] = .nils := rfl
@[simp] theorem slotO_nil (g : Nat) (o : AO) : slotO g o ([] : List α) = o := rfl
@[simp] theorem evLen_slot (j g : Nat) (L : List α) (H : Heap) : evLen 1 (slotV α j g L) H = some (.int .i64 L.length) := by
  cases L <;> simp [slotV, evLen]
@[simp] theorem cellsOf_slot (j g : Nat) (L : List α) : cellsOf (slotV α j g L) = [slotV α j g L] := by cases L <;> rfl
@[simp] theorem leaf1_slot (j g : Nat) (L : List α) : leaf1 (slotV α j g L) = true := by cases L <;> rfl
theorem ids_slot (j g : Nat) (L : List α) : ids1 (slotV α j g L) = [] ∨ ids1 (slotV α j g L) = [j] := by
  cases L
  · exact .inl rfl
  · exact .inr rfl
theorem slot_rows {H : Heap} {j g : Nat} {o : AO} {x : α} {L : List α} (h : H[j]? = some (slotO g o (x :: L))) : rowsAt H j g = some (false, es α, (x :: L).map enc) := by
  simp [rowsAt, objAt, h, slotO]
theorem fz_slot {H : Heap} {j g : Nat} {o : AO} {L : List α} (h : H[j]? = some (slotO g o L)) : fz H fuelF (slotV α j g L) = some ⟨slA (nz L), L.all scal, ids1 (slotV α j g L)⟩ := by
  cases L with
  | nil => rfl
  | cons x L =>
    rw [slotV, fz_ls, slot_rows h]
    simp only [List.drop_zero, Nat.zero_add, List.length_map, List.length_cons, Nat.le_refl, and_self, if_true]
    rw [show ((x :: L).map (enc (α := α))).take (L.length + 1) = (x :: L).map enc from take_rows (x :: L), fz_rows11]
    simp [slA, nz, ids1]
theorem expo1_slot {H : Heap} {j g : Nat} {o : AO} {L : List α} (h : H[j]? = some (slotO g o L)) : expo1 H (slotV α j g L) = some ⟨match L with | [] => .nils | _ :: _ => .ls 0 0 (es α) 0 L.length, match L with | [] => [] | _ :: _ => [.arr false false (es α) (L.map enc)], L.all scal, [], []⟩ := by
  cases L with
  | nil => rfl
  | cons x L =>
    rw [slotV, expo1_ls_eq, slot_rows h]
    simp only [List.drop_zero, Nat.zero_add, List.length_map, List.length_cons, Nat.le_refl, and_self, if_true]
    rw [show ((x :: L).map (enc (α := α))).take (L.length + 1) = (x :: L).map enc from take_rows (x :: L), fz_rows]
    simp
theorem expo1_slotX {H : Heap} {j g : Nat} {o : AO} {L : List α} (h : H[j]? = some (slotO g o L)) : expo1 H (slotV α j g L) = some (exO (nz L)) := by
  rw [expo1_slot h]
  cases L <;> rfl
theorem rowsOf_slot {H : Heap} {j g : Nat} {o : AO} {L : List α} (h : H[j]? = some (slotO g o L)) : rowsOf H (es α) (slotV α j g L) = some (L.map enc) := by
  cases L with
  | nil => rfl
  | cons x L =>
    have := slot_rows h
    simp only [slotV, rowsOf, this]
    simp
theorem app_slot {H : Heap} {fb j g b : Nat} {o : AO} {y : AV} {L M : List α} (hy : rowsOf H (es α) y = some (M.map enc)) (h : H[fb + j]? = some (slotO g o L)) (hs : (2 * (L.length + M.length) + 512) * b ≤ 2 ^ 48) :
    ∃ g', evApp fb (some j) (es α) b (slotV α (fb + j) g L) y H = some (slotV α (fb + j) g' (L ++ M), H.set (fb + j) (slotO g' o (L ++ M))) := by
  unfold evApp
  rw [hy]
  have hlt : fb + j < H.length := (List.getElem?_eq_some_iff.1 h).1
  cases L with
  | nil =>
    cases M with
    | nil =>
      refine ⟨g, ?_⟩
      simp only [slotV, List.map_nil, List.isEmpty_nil, if_true, List.append_nil, slotO]
      rw [slotO] at h
      rw [show H.set (fb + j) o = H from by
        refine List.ext_getElem? fun i => ?_
        rw [List.getElem?_set]
        split
        · rename_i e; subst e; simp [h]
        · rfl]
    | cons y M =>
      refine ⟨o.gen + 1, ?_⟩
      rw [slotO] at h
      have hm : (M.length + 1) * b ≤ 281474976710656 := Nat.le_trans (Nat.mul_le_mul_right b (by simp only [List.length_nil, List.length_cons]; omega)) hs
      simp [slotV, hm, newArr, place, h, slotO]
  | cons x L =>
    refine ⟨g + 1, ?_⟩
    have h' : H[fb + j]? = some ⟨g, .arr false false (es α) ((x :: L).map enc)⟩ := h
    simp only [slotV, h']
    rw [if_pos (by simp; simpa using hs)]
    simp only [List.drop_zero]
    rw [show ((x :: L).map (enc (α := α))).take (L.length + 1) = (x :: L).map enc from take_rows (x :: L)]
    simp [slotV, slotO, Nat.add_right_comm]
end
@[simp] theorem rowsOf_ls (h : Heap) (es id g es1 off len : Nat) : rowsOf h es (.ls id g es1 off len) = match rowsAt h id g with
    | some (_, es', rows) => if es1 = es ∧ es' = es ∧ off + len ≤ rows.length then some ((rows.drop off).take len) else none
    | none => none := rfl
theorem fz_slotI {H : Heap} {j g : Nat} {o : AO} {L : List Int} (h : H[j]? = some (slotO g o L)) : fz H fuelF (slotV Int j g L) = some ⟨slA (nz L), true, ids1 (slotV Int j g L)⟩ := by
  rw [fz_slot h]
  simp
theorem app_int {H : Heap} {fb j g : Nat} {o : AO} {y : AV} {L : List Int} {n : Int} (hy : rowsOf H 1 y = some [[.int .i64 n]]) (h : H[fb + j]? = some (slotO g o L)) (hs : L.length ≤ 2 ^ 38) :
    ∃ g', evApp fb (some j) 1 8 (slotV Int (fb + j) g L) y H = some (slotV Int (fb + j) g' (L ++ [n]), H.set (fb + j) (slotO g' o (L ++ [n]))) := by
  have e : (2:Nat)^38 = 274877906944 := by decide
  refine app_slot (α := Int) (M := [n]) hy h ?_
  have : (2 * (L.length + [n].length) + 512) * 8 ≤ (2 * (274877906944 + 1) + 512) * 8 := Nat.mul_le_mul_right 8 (by simp only [List.length_singleton]; omega)
  exact Nat.le_trans this (by decide)
theorem wrap_next {i : Int} {n : Nat} (h0 : 0 ≤ i) (h : i < n) (hn : n ≤ 9223372036854775807) : IntKind.wrap .i64 (i + 1) = i + 1 := by
  rw [wrap_i64] <;> omega
@[simp] theorem exO_nz {α : Type} [Cel α] (x : α) (L : List α) : exO (nz (x :: L)) = ⟨.ls 0 0 (es α) 0 (L.length + 1), [.arr false false (es α) ((x :: L).map enc)], (x :: L).all scal, [], []⟩ := rfl
theorem expo1_int1 {H : Heap} {id g : Nat} {a : Int} (h : rowsAt H id g = some (false, 1, [[.int .i64 a]])) : expo1 H (.ls id g 1 0 1) = some (exO (nz [a])) := expo1_own (α := Int) (L := [a]) h
theorem expo1_int2 {H : Heap} {id g : Nat} {a b : Int} (h : rowsAt H id g = some (false, 1, [[.int .i64 a], [.int .i64 b]])) : expo1 H (.ls id g 1 0 2) = some (exO (nz [a, b])) := expo1_own (α := Int) (L := [a, b]) h
abbrev D0 : AO := ⟨0, .dead⟩
section
variable {α : Type} [Cel α]
theorem app_stk {H : Heap} {fb id g b : Nat} {sl : Option Nat} {y : AV} {L M T : List α} (hy : rowsOf H (es α) y = some (M.map enc)) (h : H[id]? = some ⟨g, .arr false false (es α) ((L ++ T).map enc)⟩) (hs : (2 * (L.length + M.length) + 512) * b ≤ 2 ^ 48) :
    evApp fb sl (es α) b (.ls id g (es α) 0 L.length) y H = some (.ls id (g + 1) (es α) 0 (L ++ M).length, H.set id ⟨g + 1, .arr false false (es α) ((L ++ M).map enc)⟩) := by
  unfold evApp
  rw [hy]
  simp only [h]
  rw [if_pos (by simp; simpa using hs)]
  simp only [List.drop_zero, List.map_append, List.length_append]
  rw [List.take_append_of_le_length (by simp), take_rows, List.length_map]
theorem call_slot {E : Env} {C : Calls2} {fb j f : Nat} {args : List AV} {H : Heap} {fa : Fz (List AV)} {N : List α} {o : AO} (hE : E.pure f = true) (ha : fzList (fz H fuelF) args = some fa) (hc : C.p f fa.v = some (exO (nz N)))
    (hf : N.all scal = true ∨ fa.ids = []) (ho : H[fb + j]? = some o) :
    callAny E C fb (some j) false f args H = some (slotV α (fb + j) (o.gen + 1) N, H.set (fb + j) (slotO (o.gen + 1) o N)) := by
  have hlt : fb + j < H.length := (List.getElem?_eq_some_iff.1 ho).1
  simp only [callAny, hE, if_true, callP, ha, hc]
  have hfr : ((exO (nz N)).fresh || fa.ids.isEmpty) = true := by
    rw [exO_fresh, lst_nz]
    rcases hf with hf | hf
    · rw [hf]; rfl
    · rw [hf]; simp
  rw [if_pos hfr]
  cases N with
  | nil =>
    simp only [nz, exO, placeAll, Bool.false_eq_true, if_false, slotV, slotO]
    rw [show H.set (fb + j) o = H from by
        refine List.ext_getElem? fun i => ?_
        rw [List.getElem?_set]
        split
        · rename_i e; subst e; simp [ho]
        · rfl]
    rfl
  | cons x N =>
    simp only [nz, Bool.false_eq_true, if_false, place_ex, ho, reloc_ex, slotV, slotO, List.length_cons]
end
theorem stk_ld {H : Heap} {id g : Nat} {L T : List Int} {i : Int} (h : rowsAt H id g = some (false, 1, (L ++ i :: T).map enc)) : evLd false 1 (.lp id g L.length 0) H = some (.int .i64 i) := by
  simp [evLd, h]
theorem stk_ix (id g : Nat) (L : Nat) : evIxs 1 (.ls id g 1 0 (L + 1)) (.int .i64 (L : Int)) = some (.lp id g L 0) := by
  have : (L : Int) < (L : Int) + 1 := by omega
  simp [evIxs, this]
theorem stk_slc (id g : Nat) (L : Nat) : evSlcO 1 (.ls id g 1 0 (L + 1)) none (some (.int .i64 (L : Int))) = some (.ls id g 1 0 L) := by
  have : (L : Int) ≤ (L : Int) + 1 := by omega
  simp [evSlcO, evSlc, optIxv, asNat, this]
@[simp] theorem exO_nz0 {α : Type} [Cel α] : exO (nz ([] : List α)) = ⟨.nils, [], true, [], []⟩ := rfl
theorem evSt_at {α : Type} [Cel α] {H : Heap} {id g i : Nat} {L : List α} {v : AV} {y : α} (h : H[id]? = some ⟨g, .arr false false (es α) (L.map enc)⟩) (hi : i < L.length) (hv : cellsOf v = enc y) :
    evSt (es α) (.lp id g i 0) v H = some (.tup [], H.set id ⟨g, .arr false false (es α) ((L.set i y).map enc)⟩) := by
  have hr : rowsAt H id g = some (false, es α, L.map enc) := by simp [rowsAt, objAt, h]
  have hg : (L.map (enc (α := α)))[i]? = some (enc L[i]) := by simp [hi]
  rw [evSt_lp, hr]
  simp only [hg, hv]
  rw [if_pos ⟨len y, by rw [len]; omega, leaf y⟩]
  rw [splice_all (by rw [len, len]), setRows, h]
  simp only
  rw [List.map_set]
theorem app_bound {a b : Nat} (h : a + b ≤ 137438953472) : (2 * (a + b) + 512) * 8 ≤ 2 ^ 48 := by
  have : (2 * (a + b) + 512) * 8 ≤ (2 * 137438953472 + 512) * 8 := Nat.mul_le_mul_right 8 (by omega)
  exact Nat.le_trans this (by decide)
theorem ld_at {α : Type} [Cel α] {H : Heap} {id g i : Nat} {L : List α} {x : α} {v : AV} (h : H[id]? = some ⟨g, .arr false false (es α) (L.map enc)⟩) (hx : L[i]? = some x) (hv : (enc x).head? = some v) : evLd false 1 (.lp id g i 0) H = some v := by
  have hr : rowsAt H id g = some (false, es α, L.map enc) := by simp [rowsAt, objAt, h]
  have hg : (L.map (enc (α := α)))[i]? = some (enc x) := by simp [hx]
  rw [evLd_lp, hr]
  simp only [hg, aggOr_f, List.drop_zero, hv]
abbrev AB (f : Fn) : AO := ⟨1, .arr true false 5 [enc f]⟩
abbrev AL (g : Nat) (L : List Bool) : AO := ⟨g, .arr false false 1 (L.map enc)⟩
abbrev AI (g : Nat) (L : List Int) : AO := ⟨g, .arr false false 1 (L.map enc)⟩
abbrev AX (g : Nat) (x : Ins) : AO := ⟨g, .arr true false 9 [enc x]⟩
theorem slotV_nn {α : Type} [Cel α] {j g : Nat} {L : List α} (h : L ≠ []) : slotV α j g L = .ls j g (es α) 0 L.length := by
  cases L with
  | nil => exact (h rfl).elim
  | cons x L => rfl
theorem slotO_nn {α : Type} [Cel α] {g : Nat} {o : AO} {L : List α} (h : L ≠ []) : slotO g o L = ⟨g, .arr false false (es α) (L.map enc)⟩ := by
  cases L with
  | nil => exact (h rfl).elim
  | cons x L => rfl
theorem ld_at' {α : Type} [Cel α] {H : Heap} {id g i : Nat} {L : List α} {x : α} {v : AV} (h : H[id]? = some ⟨g, .arr false false (es α) (L.map enc)⟩) (hx : L[i]? = some x) (hv : (enc x).head? = some v) : evLd false 1 (.lp id g i 0) H = some v := ld_at h hx hv
theorem ixAt' {n : Nat} {p : Int} (h0 : 0 ≤ p) (h1 : p < (n : Int)) (id g : Nat) (k : IntKind) : evIxs 1 (.ls id g 1 0 n) (.int k p) = some (.lp id g p.toNat 0) := by simp [evIxs, h0, h1]
end Go.Vm
namespace Go.Vm
open Cel
section
variable {α : Type} [Cel α]
def ownV (j g : Nat) : Option (List α) → AV
  | none => .nils
  | some L => .ls j g (es α) 0 L.length
def ownO (g : Nat) (d : AO) : Option (List α) → AO
  | none => d
  | some L => ⟨g, .arr false false (es α) (L.map enc)⟩
def exV (k : Nat) : Option (List α) → AV
  | none => .nils
  | some L => .ls k 0 (es α) 0 L.length
def exOs : Option (List α) → List OC
  | none => []
  | some L => [.arr false false (es α) (L.map enc)]
def ownI (j : Nat) : Option (List α) → List Nat
  | none => []
  | some _ => [j]
@[simp] theorem cellsOf_own (j g : Nat) (o : Option (List α)) : cellsOf (ownV j g o) = [ownV j g o] := by cases o <;> rfl
@[simp] theorem leaf1_own (j g : Nat) (o : Option (List α)) : leaf1 (ownV j g o) = true := by cases o <;> rfl
@[simp] theorem known_own (j g : Nat) (o : Option (List α)) : known (ownV j g o) = true := by cases o <;> rfl
@[simp] theorem evLen_own (j g : Nat) (o : Option (List α)) (H : Heap) : evLen 1 (ownV j g o) H = some (.int .i64 (lst o).length) := by cases o <;> rfl
theorem set_same {H : Heap} {i : Nat} {o : AO} (h : H[i]? = some o) : H.set i o = H := by
  refine List.ext_getElem? fun k => ?_
  rw [List.getElem?_set]
  split
  · rename_i e; subst e
    rw [if_pos (List.getElem?_eq_some_iff.1 h).1, h]
  · rfl
theorem call_own {E : Env} {C : Calls2} {fb j f : Nat} {args : List AV} {H : Heap} {fa : Fz (List AV)} {N : Option (List α)} {o : AO} (hE : E.pure f = true) (ha : fzList (fz H fuelF) args = some fa) (hc : C.p f fa.v = some (exO N))
    (hf : fa.ids = []) (ho : H[fb + j]? = some o) : callAny E C fb (some j) false f args H = some (ownV (fb + j) (o.gen + 1) N, H.set (fb + j) (ownO (o.gen + 1) o N)) := by
  simp only [callAny, hE, if_true, callP, ha, hc]
  have hfr : ((exO N).fresh || fa.ids.isEmpty) = true := by rw [hf]; simp
  simp only [hfr, if_true]
  cases N with
  | none =>
    simp only [exO, placeAll, Bool.false_eq_true, if_false, ownV, ownO, set_same ho]
    rfl
  | some L => simp only [Bool.false_eq_true, if_false, place_ex, ho, reloc_ex, ownV, ownO]
theorem fp_own {E : Env} {C : Calls2} {fb j f : Nat} {args : List AV} {H : Heap} {fa : Fz (List AV)} {N : Option (List α)} (hE : E.pure f = true) (ha : fzList (fz H fuelF) args = some fa) (hc : C.p f fa.v = some (exO N))
    (hf : fa.ids = []) : fpCall E C fb (some j) false f args H = some ([], ownI (fb + j) N) := by
  cases N with
  | none => simp [fpCall, hE, ha, hc, hf, exO, ownI]
  | some L => simp [fpCall, hE, ha, hc, hf, exO, ownI]
theorem own_rows {H : Heap} {j g : Nat} {d : AO} {L : List α} (h : H[j]? = some (ownO g d (some L))) : rowsAt H j g = some (false, es α, L.map enc) := by
  simp [rowsAt, objAt, h, ownO]
theorem fz_own {H : Heap} {j g k : Nat} {d : AO} {o : Option (List α)} (h : H[j]? = some (ownO g d o)) : fz H (k + 2) (ownV j g o) = some ⟨slA o, (lst o).all scal, ownI j o⟩ := by
  cases o with
  | none => rfl
  | some L =>
    rw [ownV, fz_lsk, own_rows h]
    simp only [List.drop_zero, Nat.zero_add, List.length_map, Nat.le_refl, and_self, if_true, take_rows, fz_rowsk]
    simp [slA, ownI]
theorem expo_own {H : Heap} {j g k : Nat} {d : AO} {o : Option (List α)} (h : H[j]? = some (ownO g d o)) (os : List OC) :
    expo H (k + 1) (ownV j g o) os = some ⟨exV os.length o, os ++ exOs o, (lst o).all scal, ownI j o, []⟩ := by
  cases o with
  | none => simp [ownV, expo, pure1, exV, exOs, ownI]
  | some L =>
    rw [ownV, expo_ls, own_rows h]
    simp only [List.drop_zero, Nat.zero_add, List.length_map, Nat.le_refl, and_self, if_true, take_rows, fz_rows]
    rfl
end
theorem set_rows {rows : List (List AV)} {i : Nat} {r : List AV} (h : rows[i]? = some r) : rows.set i r = rows := by
  refine List.ext_getElem? fun k => ?_
  rw [List.getElem?_set]
  split
  · rename_i e; subst e
    rw [if_pos (List.getElem?_eq_some_iff.1 h).1, h]
  · rfl
theorem setRows_same {H : Heap} {id g es : Nat} {fz : Bool} {rows : List (List AV)} (h : rowsAt H id g = some (fz, es, rows)) : setRows H id rows = H := by
  unfold rowsAt objAt at h
  cases ho : H[id]? with
  | none => rw [ho] at h; simp at h
  | some o =>
    obtain ⟨g', c⟩ := o
    rw [ho] at h
    by_cases hg : g' = g
    · cases c with
      | arr bx fz' es' rows' =>
        simp only [hg, if_true, Option.some.injEq, Prod.mk.injEq] at h
        obtain ⟨rfl, rfl, rfl⟩ := h
        simp only [setRows, ho]
        exact set_same ho
      | dead => simp [hg] at h
      | map _ _ => simp [hg] at h
    · simp [hg] at h
def copyEx (f : Fn) : Ex AV :=
  ⟨.agg [exV 0 f.regs, exV (exOs f.regs).length f.params, .int .i64 f.ret, exV (exOs f.regs ++ exOs f.params).length f.code, exV (exOs f.regs ++ exOs f.params ++ exOs f.code).length f.rows],
    exOs f.regs ++ exOs f.params ++ exOs f.code ++ exOs f.rows, (lst f.code).all scal && (lst f.rows).all scal, [], []⟩
theorem ownO_ex {α : Type} [Cel α] (o : Option (List α)) (A B : List OC) (L : List α) (h : o = some L) : (heapOf (A ++ exOs o ++ B))[A.length]? = some (ownO 0 ⟨0, .dead⟩ o) := by
  subst h
  simp [heapOf, exOs, ownO]
theorem fz_exV {α : Type} [Cel α] (o : Option (List α)) (A B : List OC) (k : Nat) : fz (heapOf (A ++ exOs o ++ B)) (k + 2) (exV A.length o) = some ⟨slA o, (lst o).all scal, ownI A.length o⟩ := by
  cases ho : o with
  | none => rfl
  | some L => exact fz_own (g := 0) (o := some L) (by have := ownO_ex o A B L ho; rwa [ho] at this)
theorem copy_reads (f : Fn) : Reads (copyEx f) (.agg (enc f)) := by
  have h1 := fz_exV f.regs [] (exOs f.params ++ exOs f.code ++ exOs f.rows) 9
  have h2 := fz_exV f.params (exOs f.regs) (exOs f.code ++ exOs f.rows) 9
  have h3 := fz_exV f.code (exOs f.regs ++ exOs f.params) (exOs f.rows) 9
  have h4 := fz_exV f.rows (exOs f.regs ++ exOs f.params ++ exOs f.code) [] 9
  simp only [List.nil_append, List.append_nil, List.append_assoc, List.length_nil, List.length_append] at h1 h2 h3 h4
  have hi : fz (heapOf (copyEx f).objs) 11 (.int .i64 f.ret) = some ⟨.int .i64 f.ret, true, []⟩ := rfl
  refine ⟨_, (fz_agg_eq _ 11 _).trans (by
    simp only [copyEx, fzList_cons, List.append_assoc, List.length_append] at hi ⊢
    simp only [h1, h2, h3, h4, hi, fzList_nil]
    rfl), rfl⟩
theorem call_reads {E : Env} {C : Calls2} {fb f : Nat} {sl : Option Nat} {args : List AV} {h : Heap} {fa : Fz (List AV)} {r : Ex AV} {v : AV} (hE : E.pure f = true) (ha : fzList (fz h fuelF) args = some fa) (hf : fa.ids = [])
    (hc : C.p f fa.v = some r) (hr : Reads r v) : callAny E C fb sl true f args h = some (v, h) := by
  obtain ⟨q, h1, h2⟩ := hr
  simp [callAny, hE, callP, ha, hc, hf, h1, h2]
theorem fp_reads {E : Env} {C : Calls2} {fb f : Nat} {sl : Option Nat} {args : List AV} {h : Heap} {fa : Fz (List AV)} {r : Ex AV} (hE : E.pure f = true) (ha : fzList (fz h fuelF) args = some fa) (hf : fa.ids = [])
    (hc : C.p f fa.v = some r) : fpCall E C fb sl true f args h = some ([], []) := by
  simp [fpCall, hE, ha, hc, hf]
end Go.Vm
