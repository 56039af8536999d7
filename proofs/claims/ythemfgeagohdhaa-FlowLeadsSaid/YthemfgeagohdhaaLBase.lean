/- Facts for reading the machine's functions: combinators at known values; lists of things of one kind as slices. -/
import Derived.Test.YthemfgeagohdhaaVc
namespace Go.Vm

section comb
variable {α : Type}
@[simp] theorem ob_some (v : AV) (K : AV → Option α) : ob (some v) K = K v := rfl
@[simp] theorem oh_some (v : AV) (h : Heap) (K : AV → Heap → Option α) : oh (some (v, h)) K = K v h := rfl
@[simp] theorem ofp_some {β : Type} (v : β) (K : β → Option α) : ofp (some v) K = K v := rfl
@[simp] theorem gb_tt (x : Option AV) (K : AV → Option α) : gb (.bool true) true x K = ob x K := rfl
@[simp] theorem gb_ff (x : Option AV) (K : AV → Option α) : gb (.bool false) false x K = ob x K := rfl
@[simp] theorem gb_tf (x : Option AV) (K : AV → Option α) : gb (.bool true) false x K = K (.tup []) := rfl
@[simp] theorem gb_ft (x : Option AV) (K : AV → Option α) : gb (.bool false) true x K = K (.tup []) := rfl
@[simp] theorem gb_tup (w : Bool) (x : Option AV) (K : AV → Option α) : gb (.tup []) w x K = K (.tup []) := rfl
@[simp] theorem gh_tt (x : Option (AV × Heap)) (h : Heap) (K : AV → Heap → Option α) : gh (.bool true) true x h K = oh x K := rfl
@[simp] theorem gh_ff (x : Option (AV × Heap)) (h : Heap) (K : AV → Heap → Option α) : gh (.bool false) false x h K = oh x K := rfl
@[simp] theorem gh_tf (x : Option (AV × Heap)) (h : Heap) (K : AV → Heap → Option α) : gh (.bool true) false x h K = K (.tup []) h := rfl
@[simp] theorem gh_ft (x : Option (AV × Heap)) (h : Heap) (K : AV → Heap → Option α) : gh (.bool false) true x h K = K (.tup []) h := rfl
@[simp] theorem gh_tup (w : Bool) (x : Option (AV × Heap)) (h : Heap) (K : AV → Heap → Option α) : gh (.tup []) w x h K = K (.tup []) h := rfl
@[simp] theorem fgd_tt (x : Option (List Nat × List Nat)) : fgd (.bool true) true x = x := rfl
@[simp] theorem fgd_ff (x : Option (List Nat × List Nat)) : fgd (.bool false) false x = x := rfl
@[simp] theorem fgd_tf (x : Option (List Nat × List Nat)) : fgd (.bool true) false x = some ([], []) := rfl
@[simp] theorem fgd_ft (x : Option (List Nat × List Nat)) : fgd (.bool false) true x = some ([], []) := rfl
@[simp] theorem fgd_tup (w : Bool) (x : Option (List Nat × List Nat)) : fgd (.tup []) w x = some ([], []) := rfl
@[simp] theorem cnd_t (a b : Option α) : cnd (.bool true) a b = a := rfl
@[simp] theorem cnd_f (a b : Option α) : cnd (.bool false) a b = b := rfl
@[simp] theorem okK_t (x : Option α) : okK true x = x := rfl
theorem cnd_if (c : Bool) (a b : Option α) : cnd (.bool c) a b = if c = true then a else b := by cases c <;> rfl
@[simp] theorem evPick_t (a b : AV) : evPick (.bool true) a b = some a := rfl
@[simp] theorem evPick_f (a b : AV) : evPick (.bool false) a b = some b := rfl
@[simp] theorem evUn_not (b : Bool) : evUn .not (.bool b) = some (.bool (!b)) := rfl
@[simp] theorem evEqb_b (neq a b : Bool) : evEqb neq (.bool a) (.bool b) = some (.bool (if neq then !(a == b) else a == b)) := rfl
@[simp] theorem evExt_tup (i : Nat) (vs : List AV) : evExt i (.tup vs) = vs[i]? := rfl
@[simp] theorem evCvi_int (k k' : IntKind) (n : Int) : evCvi k (.int k' n) = some (.int k (k.wrap n)) := rfl
@[simp] theorem evNilchk_rp (cs : List AV) : evNilchk (.rp cs) = some (.rp cs) := rfl
@[simp] theorem evNilchk_lp (id g i off : Nat) : evNilchk (.lp id g i off) = some (.lp id g i off) := rfl
/-! What follows is looked at only when it is its turn. -/
@[congr] theorem ob_cg {x x' : Option AV} (h : x = x') (K : AV → Option α) : ob x K = ob x' K := by rw [h]
@[congr] theorem oh_cg {x x' : Option (AV × Heap)} (h : x = x') (K : AV → Heap → Option α) : oh x K = oh x' K := by rw [h]
@[congr] theorem ofp_cg {β : Type} {x x' : Option β} (h : x = x') (K : β → Option α) : ofp x K = ofp x' K := by rw [h]
@[congr] theorem gb_cg {g g' : AV} (h : g = g') (w : Bool) (x : Option AV) (K : AV → Option α) : gb g w x K = gb g' w x K := by rw [h]
@[congr] theorem gh_cg {g g' : AV} (h : g = g') (w : Bool) (x : Option (AV × Heap)) (hp : Heap) (K : AV → Heap → Option α) : gh g w x hp K = gh g' w x hp K := by rw [h]
@[congr] theorem fgd_cg {g g' : AV} (h : g = g') (w : Bool) (x : Option (List Nat × List Nat)) : fgd g w x = fgd g' w x := by rw [h]
@[congr] theorem cnd_cg {c c' : AV} (h : c = c') (a b : Option α) : cnd c a b = cnd c' a b := by rw [h]
@[congr] theorem okK_cg {c c' : Bool} (h : c = c') (a : Option α) : okK c a = okK c' a := by rw [h]
end comb

/-! Whole numbers. -/
section ints
variable (k : IntKind) (a b : Int)
@[simp] theorem evBin_add : evBin .add (.int k a) (.int k b) = some (.int k (k.wrap (a + b))) := by simp [evBin, isShift, binInt]
@[simp] theorem evBin_sub : evBin .sub (.int k a) (.int k b) = some (.int k (k.wrap (a - b))) := by simp [evBin, isShift, binInt]
@[simp] theorem evBin_mul : evBin .mul (.int k a) (.int k b) = some (.int k (k.wrap (a * b))) := by simp [evBin, isShift, binInt]
@[simp] theorem evBin_eql : evBin .eql (.int k a) (.int k b) = some (.bool (decide (a = b))) := by simp [evBin, isShift, binInt, Bool.beq_eq_decide_eq]
@[simp] theorem evBin_neq : evBin .neq (.int k a) (.int k b) = some (.bool (decide (a ≠ b))) := by simp [evBin, isShift, binInt, bne, Bool.beq_eq_decide_eq]
@[simp] theorem evBin_lss : evBin .lss (.int k a) (.int k b) = some (.bool (decide (a < b))) := by simp [evBin, isShift, binInt]
@[simp] theorem evBin_leq : evBin .leq (.int k a) (.int k b) = some (.bool (decide (a ≤ b))) := by simp [evBin, isShift, binInt]
@[simp] theorem evBin_gtr : evBin .gtr (.int k a) (.int k b) = some (.bool (decide (b < a))) := by simp [evBin, isShift, binInt]
@[simp] theorem evBin_geq : evBin .geq (.int k a) (.int k b) = some (.bool (decide (b ≤ a))) := by simp [evBin, isShift, binInt]
end ints
@[simp] theorem evBin_seql (a b : List UInt8) : evBin .eql (.str a) (.str b) = some (.bool (decide (a = b))) := by simp [evBin, binStr, Bool.beq_eq_decide_eq]
@[simp] theorem evBin_sneq (a b : List UInt8) : evBin .neq (.str a) (.str b) = some (.bool (decide (a ≠ b))) := by simp [evBin, binStr, Bool.beq_eq_decide_eq]

theorem wrap_i64 {n : Int} (h0 : -9223372036854775808 ≤ n) (h1 : n < 9223372036854775808) : IntKind.wrap .i64 n = n := by
  simp [IntKind.wrap, IntKind.bits, IntKind.signed]; omega
theorem wrap_succ {i n : Nat} (h : i < n) (hn : n ≤ 9223372036854775807) : IntKind.wrap .i64 ((i : Int) + 1) = ((i + 1 : Nat) : Int) := by
  rw [wrap_i64] <;> omega
theorem wrap_up {i n : Nat} (h : i < n) (hn : n ≤ 9223372036854775807) : IntKind.wrap .i64 ((i : Int) + 1) = (i : Int) + 1 := by rw [wrap_succ h hn]; rfl
theorem drop_dec {α : Type} [DecidableEq α] {a b : List α} {i : Nat} (h1 : i < a.length) (h2 : i < b.length) : decide (a.drop i = b.drop i) = (decide (a[i] = b[i]) && decide (a.drop (i + 1) = b.drop (i + 1))) := by
  rw [← Bool.decide_and]
  congr 1
  rw [List.drop_eq_getElem_cons h1, List.drop_eq_getElem_cons h2, List.cons_eq_cons]
theorem wrap_pred {n : Nat} (h : 0 < n) (hn : n ≤ 9223372036854775807) : IntKind.wrap .i64 ((n : Int) - 1) = ((n - 1 : Nat) : Int) := by
  rw [wrap_i64] <;> omega

/-! Pointers. -/
@[simp] theorem evFa_rp (k : Nat) (cs : List AV) : evFa k (.rp cs) = some (.rp (cs.drop k)) := rfl
@[simp] theorem evFa_lp (k id g i o : Nat) : evFa k (.lp id g i o) = some (.lp id g i (o + k)) := rfl
@[simp] theorem evLd_rp (agg : Bool) (n : Nat) (cs : List AV) (h : Heap) : evLd agg n (.rp cs) h = aggOr agg n cs := rfl
@[simp] theorem aggOr_f (n : Nat) (cs : List AV) : aggOr false n cs = cs.head? := rfl
@[simp] theorem cellsOf_agg (cs : List AV) : cellsOf (.agg cs) = cs := rfl
@[simp] theorem cellsOf_int (k : IntKind) (n : Int) : cellsOf (.int k n) = [.int k n] := rfl
@[simp] theorem cellsOf_bool (b : Bool) : cellsOf (.bool b) = [.bool b] := rfl
@[simp] theorem cellsOf_str (s : List UInt8) : cellsOf (.str s) = [.str s] := rfl
@[simp] theorem cellsOf_nils : cellsOf .nils = [.nils] := rfl
@[simp] theorem cellsOf_rs (es : Nat) (rows : List (List AV)) : cellsOf (.rs es rows) = [.rs es rows] := rfl
@[simp] theorem cellsOf_ls (id g es off len : Nat) : cellsOf (.ls id g es off len) = [.ls id g es off len] := rfl

/-! Things of one kind. -/

/-- A kind of things, as rows of so many cells. -/
class Cel (α : Type) where
  es : Nat
  enc : α → List AV
  len : ∀ x, (enc x).length = es
  pur : ∀ x, (enc x).all pure1 = true
  leaf : ∀ x, (enc x).all leaf1 = true
open Cel

instance : Cel Int := ⟨1, fun n => [.int .i64 n], fun _ => rfl, fun _ => rfl, fun _ => rfl⟩
instance : Cel Bool := ⟨1, fun b => [.bool b], fun _ => rfl, fun _ => rfl, fun _ => rfl⟩
abbrev Str := List UInt8
/-- A text, as a thing in a list. -/
structure Tx where
  s : List UInt8
  deriving DecidableEq, Inhabited
instance : Cel Tx := ⟨1, fun b => [.str b.s], fun _ => rfl, fun _ => rfl, fun _ => rfl⟩
@[simp] theorem enc_int (n : Int) : enc n = [.int .i64 n] := rfl
@[simp] theorem enc_bool (b : Bool) : enc b = [.bool b] := rfl
@[simp] theorem enc_tx (b : Tx) : enc b = [.str b.s] := rfl
@[simp] theorem es_int : es Int = 1 := rfl
@[simp] theorem es_bool : es Bool = 1 := rfl
@[simp] theorem es_tx : es Tx = 1 := rfl

variable {α : Type} [Cel α]

def scal (x : α) : Bool := (enc x).all scalar1
@[simp] theorem scal_int (n : Int) : scal n = true := rfl
@[simp] theorem scal_bool (b : Bool) : scal b = true := rfl
@[simp] theorem scal_tx (b : Tx) : scal b = true := rfl

/-- A slice that may be nil. -/
abbrev Sl (α : Type) := Option (List α)
def lst (o : Option (List α)) : List α := o.getD []
omit [Cel α] in
@[simp] theorem lst_none : lst (none : Option (List α)) = [] := rfl
omit [Cel α] in
@[simp] theorem lst_some (L : List α) : lst (some L) = L := rfl

def slA : Option (List α) → AV
  | none => .nils
  | some L => .rs (es α) (L.map enc)

instance : Cel (Option (List α)) := ⟨1, fun o => [slA o], fun _ => rfl, fun o => by cases o <;> rfl, fun o => by cases o <;> rfl⟩
@[simp] theorem enc_sl (o : Option (List α)) : enc o = [slA o] := rfl
@[simp] theorem es_sl : es (Option (List α)) = 1 := rfl

@[simp] theorem pure1_int (k : IntKind) (n : Int) : pure1 (.int k n) = true := rfl
@[simp] theorem pure1_bool (b : Bool) : pure1 (.bool b) = true := rfl
@[simp] theorem pure1_str (b : List UInt8) : pure1 (.str b) = true := rfl
@[simp] theorem pure1_nils : pure1 .nils = true := rfl
@[simp] theorem leaf1_int (k : IntKind) (n : Int) : leaf1 (.int k n) = true := rfl
@[simp] theorem leaf1_bool (b : Bool) : leaf1 (.bool b) = true := rfl
@[simp] theorem leaf1_str (b : List UInt8) : leaf1 (.str b) = true := rfl
@[simp] theorem leaf1_nils : leaf1 .nils = true := rfl
@[simp] theorem leaf1_rs (es : Nat) (r : List (List AV)) : leaf1 (.rs es r) = true := rfl
@[simp] theorem leaf1_ls (id g es off len : Nat) : leaf1 (.ls id g es off len) = true := rfl
@[simp] theorem leaf1_lp (id g i o : Nat) : leaf1 (.lp id g i o) = true := rfl
@[simp] theorem scalar1_int (k : IntKind) (n : Int) : scalar1 (.int k n) = true := rfl
@[simp] theorem scalar1_bool (b : Bool) : scalar1 (.bool b) = true := rfl
@[simp] theorem scalar1_str (b : List UInt8) : scalar1 (.str b) = true := rfl
@[simp] theorem scalar1_nils : scalar1 .nils = true := rfl
@[simp] theorem cellsOf_sl (o : Option (List α)) : cellsOf (slA o) = [slA o] := by cases o <;> rfl
@[simp] theorem leaf1_sl (o : Option (List α)) : leaf1 (slA o) = true := by cases o <;> rfl
@[simp] theorem pure1_sl (o : Option (List α)) : pure1 (slA o) = true := by cases o <;> rfl
@[simp] theorem scalar1_sl (o : Option (List α)) : scalar1 (slA o) = (lst o).isEmpty := by
  cases o with
  | none => rfl
  | some L => cases L <;> rfl
@[simp] theorem evLen_sl (o : Option (List α)) (h : Heap) : evLen 1 (slA o) h = some (.int .i64 (lst o).length) := by cases o <;> simp [slA, evLen]
@[simp] theorem evLen_str (s : List UInt8) (h : Heap) : evLen 0 (.str s) h = some (.int .i64 s.length) := rfl
@[simp] theorem evLen_ls (id g es off len : Nat) (h : Heap) : evLen 1 (.ls id g es off len) h = some (.int .i64 len) := rfl
@[simp] theorem evLen_nils (h : Heap) : evLen 1 .nils h = some (.int .i64 0) := rfl
@[simp] theorem ids1_lp (id g i o : Nat) : ids1 (.lp id g i o) = [id] := rfl
@[simp] theorem ids1_ls (id g es o l : Nat) : ids1 (.ls id g es o l) = [id] := rfl
@[simp] theorem ids1_rp (cs : List AV) : ids1 (.rp cs) = [] := rfl
@[simp] theorem ids1_int (k : IntKind) (n : Int) : ids1 (.int k n) = [] := rfl
@[simp] theorem ids1_str (s : List UInt8) : ids1 (.str s) = [] := rfl
@[simp] theorem ids1_sl (o : Option (List α)) : ids1 (slA o) = [] := by cases o <;> rfl
@[simp] theorem evEqnB_sl_nil (neq : Bool) (o : Option (List α)) : evEqnB 1 neq (slA o) .nils = some (.bool (if neq then o.isSome else o.isNone)) := by
  cases o <;> cases neq <;> rfl

theorem evIxs_sl {o : Option (List α)} {x : α} {i : Nat} (hx : (lst o)[i]? = some x) (k : IntKind) : evIxs (es α) (slA o) (.int k i) = some (.rp (enc x)) := by
  cases o with
  | none => simp at hx
  | some L =>
    simp only [lst_some] at hx
    simp [slA, evIxs, hx]
theorem evIxs_slI {o : Option (List α)} {x : α} {n : Int} (h0 : 0 ≤ n) (hx : (lst o)[n.toNat]? = some x) (k : IntKind) : evIxs (es α) (slA o) (.int k n) = some (.rp (enc x)) := by
  obtain ⟨i, rfl⟩ := Int.eq_ofNat_of_zero_le h0
  exact evIxs_sl (by simpa using hx) k

@[simp] theorem rowsOf_sl (o : Option (List α)) (h : Heap) : rowsOf h (es α) (slA o) = some ((lst o).map enc) := by
  cases o <;> simp [slA, rowsOf]

@[simp] theorem fz_sl (o : Option (List α)) (h : Heap) : fz h fuelF (slA o) = some ⟨slA o, (lst o).isEmpty, []⟩ := by
  rw [fz_pv (pure1_sl o), scalar1_sl]
theorem fz11_sl (o : Option (List α)) (h : Heap) (k : Nat) : fz h (k + 1) (slA o) = some ⟨slA o, (lst o).isEmpty, []⟩ := by
  rw [fz_p (pure1_sl o), scalar1_sl]
@[simp] theorem fz_enc (x : α) (h : Heap) : fz h fuelF (.agg (enc x)) = some ⟨.agg (enc x), scal x, []⟩ := fz_agg h (pur x)
theorem rows_pure (L : List α) : (L.map enc).all (·.all pure1) = true := by simp only [List.all_map, List.all_eq_true]; exact fun x _ => pur x
theorem rows_scal (L : List α) : (L.map enc).all (·.all scalar1) = L.all scal := by simp only [List.all_map]; rfl
@[simp] theorem fz_rows (L : List α) (h : Heap) : fzList (fzList (fz h fuelF)) (L.map enc) = some ⟨L.map enc, L.all scal, []⟩ := by rw [fz12_rows h (rows_pure L), rows_scal]
@[simp] theorem fz_rows11 (L : List α) (h : Heap) : fzList (fzList (fz h 11)) (L.map enc) = some ⟨L.map enc, L.all scal, []⟩ := by rw [fz11_rows h (rows_pure L), rows_scal]
@[simp] theorem scal_sl (o : Option (List α)) : scal o = (lst o).isEmpty := by simp [scal]

@[simp] theorem take_rows (L : List α) : (L.map (enc (α := α))).take L.length = L.map enc := by
  rw [List.take_of_length_le (by simp)]
@[simp] theorem aggOr_enc (x : α) : aggOr true (es α) (enc x) = some (.agg (enc x)) := by
  simp only [aggOr, if_true, len x, Nat.le_refl, if_pos]
  rw [List.take_of_length_le (by rw [len x]; exact Nat.le_refl _)]
@[simp] theorem leaf_mem (x : α) : (∀ v, v ∈ enc x → leaf1 v = true) ↔ True := by
  have := leaf x
  rw [List.all_eq_true] at this
  exact ⟨fun _ => trivial, fun _ => this⟩
theorem all_leaf (x : α) : (enc x).all leaf1 = true := leaf x

@[simp] theorem fz_int' (h : Heap) (k : IntKind) (n : Int) : fz h fuelF (.int k n) = some ⟨.int k n, true, []⟩ := rfl
@[simp] theorem fz_bool' (h : Heap) (b : Bool) : fz h fuelF (.bool b) = some ⟨.bool b, true, []⟩ := rfl
@[simp] theorem fz_str' (h : Heap) (b : List UInt8) : fz h fuelF (.str b) = some ⟨.str b, true, []⟩ := rfl
@[simp] theorem fz_nils' (h : Heap) : fz h fuelF .nils = some ⟨.nils, true, []⟩ := rfl
@[simp] theorem expo1_int' (h : Heap) (k : IntKind) (n : Int) : expo1 h (.int k n) = some ⟨.int k n, [], true, [], []⟩ := rfl
@[simp] theorem expo1_bool' (h : Heap) (b : Bool) : expo1 h (.bool b) = some ⟨.bool b, [], true, [], []⟩ := rfl
@[simp] theorem expo1_str' (h : Heap) (s : List UInt8) : expo1 h (.str s) = some ⟨.str s, [], true, [], []⟩ := rfl
@[simp] theorem expo1_nils' (h : Heap) : expo1 h .nils = some ⟨.nils, [], true, [], []⟩ := rfl
@[simp] theorem expo1_sl (h : Heap) (o : Option (List α)) : expo1 h (slA o) = some ⟨slA o, [], (lst o).isEmpty, [], []⟩ := by
  cases o with
  | none => rfl
  | some L => simp [slA, expo1_rs]

theorem expo_p {v : AV} (hp : pure1 v = true) (h : Heap) (k : Nat) (os : List OC) : expo h (k + 1) v os = some ⟨v, os, scalar1 v, [], []⟩ := by
  cases v <;> simp_all [expo, pure1]
theorem exList_p {cs : List AV} (h : Heap) (k : Nat) (os : List OC) (hp : cs.all pure1 = true) : exList (expo h (k + 1)) cs os = some ⟨cs, os, cs.all scalar1, [], []⟩ := by
  induction cs with
  | nil => rfl
  | cons c cs ih =>
    simp only [List.all_cons, Bool.and_eq_true] at hp
    rw [exList, expo_p hp.1]
    simp only [ih hp.2]
    rfl
theorem expo1_agg (h : Heap) (cs : List AV) : expo1 h (.agg cs) = match exList (expo h 11) cs [] with
    | some r => if apartIds r.xs r.fs then some ⟨.agg r.v, r.objs, r.fresh, [], []⟩ else none
    | none => none := by
  show (match (match exList (expo h 11) cs [] with
    | some r => some (⟨.agg r.v, r.objs, r.fresh, r.xs, r.fs⟩ : Ex AV)
    | none => none) with
    | some r => if apartIds r.xs r.fs then some (⟨r.v, r.objs, r.fresh, [], []⟩ : Ex AV) else none
    | none => none) = _
  cases exList (expo h 11) cs [] <;> rfl
theorem expo1_tup (h : Heap) (cs : List AV) : expo1 h (.tup cs) = match exList (expo h 11) cs [] with
    | some r => if apartIds r.xs r.fs then some ⟨.tup r.v, r.objs, r.fresh, [], []⟩ else none
    | none => none := by
  show (match (match exList (expo h 11) cs [] with
    | some r => some (⟨.tup r.v, r.objs, r.fresh, r.xs, r.fs⟩ : Ex AV)
    | none => none) with
    | some r => if apartIds r.xs r.fs then some (⟨r.v, r.objs, r.fresh, [], []⟩ : Ex AV) else none
    | none => none) = _
  cases exList (expo h 11) cs [] <;> rfl
@[simp] theorem expo1_enc (h : Heap) (x : α) : expo1 h (.agg (enc x)) = some ⟨.agg (enc x), [], scal x, [], []⟩ := by
  rw [expo1_agg, exList_p h 10 [] (pur x)]
  rfl
theorem expo_ls (h : Heap) (k id g es1 off len : Nat) (os : List OC) : expo h (k + 1) (.ls id g es1 off len) os = match rowsAt h id g with
    | some (true, _, _) => exFz h (.ls id g es1 off len) os
    | some (false, es, rows) => if es1 = es ∧ off + len ≤ rows.length then
        match fzList (fzList (fz h fuelF)) ((rows.drop off).take len) with
        | some r => some ⟨.ls os.length 0 es 0 len, os ++ [.arr false false es r.v], r.fresh, [id], r.ids⟩
        | none => none
      else none
    | none => none := by
  rw [expo]
  rfl
theorem expo_enc (h : Heap) (k : Nat) (x : α) (os : List OC) : expo h (k + 2) (.agg (enc x)) os = some ⟨.agg (enc x), os, scal x, [], []⟩ := by
  rw [expo, exList_p h k os (pur x)]
  rfl
theorem fz_enc' (h : Heap) (k : Nat) (x : α) : fz h (k + 2) (.agg (enc x)) = some ⟨.agg (enc x), scal x, []⟩ := by
  rw [fz_agg_eq, fzList_p h k (pur x)]
  rfl
theorem fz_lsk (h : Heap) (k id g es1 off len : Nat) : fz h (k + 1) (.ls id g es1 off len) = match rowsAt h id g with
    | some (_, es, rows) => if es1 = es ∧ off + len ≤ rows.length then (match fzList (fzList (fz h k)) ((rows.drop off).take len) with
      | some r => some ⟨.rs es r.v, r.fresh, id :: r.ids⟩
      | none => none) else none
    | none => none := by
  rw [fz]
  rfl
theorem fz_rowsk (L : List α) (h : Heap) (k : Nat) : fzList (fzList (fz h (k + 1))) (L.map enc) = some ⟨L.map enc, L.all scal, []⟩ := by rw [fzList_rows h k (rows_pure L), rows_scal]

/-! Calls. -/
@[simp] theorem fzList_nil {β γ : Type} (f : β → Option (Fz γ)) : fzList f [] = some ⟨[], true, []⟩ := rfl
@[simp] theorem fzList_cons {β γ : Type} (f : β → Option (Fz γ)) (x : β) (xs : List β) : fzList f (x :: xs) = match f x, fzList f xs with
    | some a, some b => some ⟨a.v :: b.v, a.fresh && b.fresh, a.ids ++ b.ids⟩
    | _, _ => none := rfl

/-- A call with what is only read, whose answer is only read. -/
theorem call_ro {E : Env} {C : Calls2} {fb : Nat} {sl : Option Nat} {f : Nat} {args : List AV} {h : Heap} {fa : Fz (List AV)} {r : Ex AV} {q : Fz AV} (hE : E.pure f = true) (ha : fzList (fz h fuelF) args = some fa)
    (hf : fa.ids = []) (hc : C.p f fa.v = some r) (hq : fz (heapOf r.objs) fuelF r.v = some q) : callAny E C fb sl true f args h = some (q.v, h) := by
  simp [callAny, hE, callP, ha, hc, hf, hq]

end Go.Vm
