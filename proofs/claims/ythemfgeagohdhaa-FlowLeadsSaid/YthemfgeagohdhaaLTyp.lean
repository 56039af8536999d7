/- The things that the layers speak of: instructions, rows, functions. -/
import Derived.Test.YthemfgeagohdhaaLBase
namespace Go.Vm
open Cel

structure Ins where
  op : Int
  d : Int
  a : Int
  b : Int
  c : Int
  n : Int
  t : Int
  s : List UInt8
  args : Option (List Int)
  deriving DecidableEq, Inhabited
structure Row where
  f : Int
  t : Int
  at_ : Int
  c : List UInt8
  deriving DecidableEq, Inhabited
structure Fn where
  regs : Option (List Int)
  params : Option (List Int)
  ret : Int
  code : Option (List Ins)
  rows : Option (List Row)
  deriving DecidableEq, Inhabited

instance : Cel Ins := ⟨9, fun x => [.int .i64 x.op, .int .i64 x.d, .int .i64 x.a, .int .i64 x.b, .int .i64 x.c, .int .i64 x.n, .int .i64 x.t, .str x.s, slA x.args], fun _ => rfl,
  fun x => by simp, fun x => by simp⟩
instance : Cel Row := ⟨4, fun x => [.int .i64 x.f, .int .i64 x.t, .int .i64 x.at_, .str x.c], fun _ => rfl, fun x => rfl, fun x => rfl⟩
instance : Cel Fn := ⟨5, fun x => [slA x.regs, slA x.params, .int .i64 x.ret, slA x.code, slA x.rows], fun _ => rfl, fun x => by simp, fun x => by simp⟩

@[simp] theorem es_ins : es Ins = 9 := rfl
@[simp] theorem es_row : es Row = 4 := rfl
@[simp] theorem es_fn : es Fn = 5 := rfl
theorem enc_ins (x : Ins) : enc x = [.int .i64 x.op, .int .i64 x.d, .int .i64 x.a, .int .i64 x.b, .int .i64 x.c, .int .i64 x.n, .int .i64 x.t, .str x.s, slA x.args] := rfl
theorem enc_row (x : Row) : enc x = [.int .i64 x.f, .int .i64 x.t, .int .i64 x.at_, .str x.c] := rfl
theorem enc_fn (x : Fn) : enc x = [slA x.regs, slA x.params, .int .i64 x.ret, slA x.code, slA x.rows] := rfl

section
variable (x : Ins) (r : Row) (f : Fn)
@[simp high] theorem ins0 : (enc x).head? = some (.int .i64 x.op) := rfl
@[simp high] theorem ins0q : (enc x)[0]? = some (.int .i64 x.op) := rfl
@[simp high] theorem ins1 : ((enc x).drop 1).head? = some (.int .i64 x.d) := rfl
@[simp high] theorem ins1q : (enc x)[1]? = some (.int .i64 x.d) := rfl
@[simp high] theorem ins2 : ((enc x).drop 2).head? = some (.int .i64 x.a) := rfl
@[simp high] theorem ins2q : (enc x)[2]? = some (.int .i64 x.a) := rfl
@[simp high] theorem ins3 : ((enc x).drop 3).head? = some (.int .i64 x.b) := rfl
@[simp high] theorem ins3q : (enc x)[3]? = some (.int .i64 x.b) := rfl
@[simp high] theorem ins4 : ((enc x).drop 4).head? = some (.int .i64 x.c) := rfl
@[simp high] theorem ins4q : (enc x)[4]? = some (.int .i64 x.c) := rfl
@[simp high] theorem ins5 : ((enc x).drop 5).head? = some (.int .i64 x.n) := rfl
@[simp high] theorem ins5q : (enc x)[5]? = some (.int .i64 x.n) := rfl
@[simp high] theorem ins6 : ((enc x).drop 6).head? = some (.int .i64 x.t) := rfl
@[simp high] theorem ins6q : (enc x)[6]? = some (.int .i64 x.t) := rfl
@[simp high] theorem ins7 : ((enc x).drop 7).head? = some (.str x.s) := rfl
@[simp high] theorem ins7q : (enc x)[7]? = some (.str x.s) := rfl
@[simp high] theorem ins8 : ((enc x).drop 8).head? = some (slA x.args) := rfl
@[simp high] theorem ins8q : (enc x)[8]? = some (slA x.args) := rfl
@[simp high] theorem row0 : (enc r).head? = some (.int .i64 r.f) := rfl
@[simp high] theorem row0q : (enc r)[0]? = some (.int .i64 r.f) := rfl
@[simp high] theorem row1 : ((enc r).drop 1).head? = some (.int .i64 r.t) := rfl
@[simp high] theorem row1q : (enc r)[1]? = some (.int .i64 r.t) := rfl
@[simp high] theorem row2 : ((enc r).drop 2).head? = some (.int .i64 r.at_) := rfl
@[simp high] theorem row2q : (enc r)[2]? = some (.int .i64 r.at_) := rfl
@[simp high] theorem row3 : ((enc r).drop 3).head? = some (.str r.c) := rfl
@[simp high] theorem row3q : (enc r)[3]? = some (.str r.c) := rfl
@[simp high] theorem fn0 : (enc f).head? = some (slA f.regs) := rfl
@[simp high] theorem fn0q : (enc f)[0]? = some (slA f.regs) := rfl
@[simp high] theorem fn1 : ((enc f).drop 1).head? = some (slA f.params) := rfl
@[simp high] theorem fn1q : (enc f)[1]? = some (slA f.params) := rfl
@[simp high] theorem fn2 : ((enc f).drop 2).head? = some (.int .i64 f.ret) := rfl
@[simp high] theorem fn2q : (enc f)[2]? = some (.int .i64 f.ret) := rfl
@[simp high] theorem fn3 : ((enc f).drop 3).head? = some (slA f.code) := rfl
@[simp high] theorem fn3q : (enc f)[3]? = some (slA f.code) := rfl
@[simp high] theorem fn4 : ((enc f).drop 4).head? = some (slA f.rows) := rfl
@[simp high] theorem fn4q : (enc f)[4]? = some (slA f.rows) := rfl
@[simp] theorem agg_ins : aggOr true 9 (enc x) = some (.agg (enc x)) := aggOr_enc x
@[simp] theorem agg_row : aggOr true 4 (enc r) = some (.agg (enc r)) := aggOr_enc r
@[simp] theorem agg_fn : aggOr true 5 (enc f) = some (.agg (enc f)) := aggOr_enc f
@[simp] theorem len_ins : (enc x).length = 9 := rfl
@[simp] theorem len_row : (enc r).length = 4 := rfl
@[simp] theorem len_fn : (enc f).length = 5 := rfl
@[simp] theorem leaf_ins : (enc x).all leaf1 = true := all_leaf x
@[simp] theorem leaf_row : (enc r).all leaf1 = true := all_leaf r
@[simp] theorem leaf_fn : (enc f).all leaf1 = true := all_leaf f
end
theorem ixs_ins {o : Option (List Ins)} {x : Ins} {i : Nat} (hx : (lst o)[i]? = some x) (k : IntKind) : evIxs 9 (slA o) (.int k i) = some (.rp (enc x)) := evIxs_sl hx k
theorem ixs_row {o : Option (List Row)} {x : Row} {i : Nat} (hx : (lst o)[i]? = some x) (k : IntKind) : evIxs 4 (slA o) (.int k i) = some (.rp (enc x)) := evIxs_sl hx k
theorem ixs_int {o : Option (List Int)} {x : Int} {i : Nat} (hx : (lst o)[i]? = some x) (k : IntKind) : evIxs 1 (slA o) (.int k i) = some (.rp [.int .i64 x]) := evIxs_sl hx k
theorem ixs_insI {o : Option (List Ins)} {x : Ins} {n : Int} (h0 : 0 ≤ n) (hx : (lst o)[n.toNat]? = some x) (k : IntKind) : evIxs 9 (slA o) (.int k n) = some (.rp (enc x)) := evIxs_slI h0 hx k
theorem ixs_intI {o : Option (List Int)} {x : Int} {n : Int} (h0 : 0 ≤ n) (hx : (lst o)[n.toNat]? = some x) (k : IntKind) : evIxs 1 (slA o) (.int k n) = some (.rp [.int .i64 x]) := evIxs_slI h0 hx k
@[simp] theorem rowsOf_sl1 (o : Option (List Int)) (h : Heap) : rowsOf h 1 (slA o) = some ((lst o).map enc) := rowsOf_sl o h
@[simp] theorem rowsOf_sl9 (o : Option (List Ins)) (h : Heap) : rowsOf h 9 (slA o) = some ((lst o).map enc) := rowsOf_sl o h
@[simp] theorem rowsOf_sl4 (o : Option (List Row)) (h : Heap) : rowsOf h 4 (slA o) = some ((lst o).map enc) := rowsOf_sl o h

/-- A list of things that a function answers as the caller's own, or nothing. -/
def exO {α : Type} [Cel α] : Option (List α) → Ex AV
  | none => ⟨.nils, [], true, [], []⟩
  | some L => ⟨.ls 0 0 (es α) 0 L.length, [.arr false false (es α) (L.map enc)], L.all scal, [], []⟩
/-- What is read of it. -/
@[simp] theorem exO_fz {α : Type} [Cel α] (o : Option (List α)) : fz (heapOf (exO o).objs) fuelF (exO o).v = some ⟨slA o, (lst o).all scal, match o with | none => [] | some _ => [0]⟩ := by
  cases o with
  | none => rfl
  | some L =>
    show fz [⟨0, .arr false false (es α) (L.map enc)⟩] fuelF (.ls 0 0 (es α) 0 L.length) = _
    rw [fz_ls]
    simp [rowsAt, objAt, slA]
@[simp] theorem place_ex {α : Type} [Cel α] (fb j : Nat) (L : List α) (h : Heap) : placeAll fb (some j) (exO (some L)).objs [] h = match h[fb + j]? with
    | some o => some ([(fb + j, o.gen + 1)], h.set (fb + j) ⟨o.gen + 1, .arr false false (es α) (L.map enc)⟩)
    | none => none := by
  simp only [exO, placeAll, relocOC, okOC, if_true, place, List.nil_append]
  cases h[fb + j]? <;> rfl
@[simp] theorem place_ex0 {α : Type} [Cel α] (fb : Nat) (j : Option Nat) (h : Heap) : placeAll fb j (exO (none : Option (List α))).objs [] h = some ([], h) := rfl
@[simp] theorem reloc_ex {α : Type} [Cel α] (id g : Nat) (L : List α) : reloc [(id, g)] (exO (some L)).v = .ls id g (es α) 0 L.length := rfl
@[simp] theorem reloc_ex0 {α : Type} [Cel α] (tab : List (Nat × Nat)) : reloc tab (exO (none : Option (List α))).v = .nils := rfl
theorem exO_fresh {α : Type} [Cel α] (o : Option (List α)) : (exO o).fresh = (lst o).all scal := by cases o <;> rfl
theorem expo1_own {α : Type} [Cel α] {h : Heap} {id g : Nat} {L : List α} (hr : rowsAt h id g = some (false, es α, L.map enc)) : expo1 h (.ls id g (es α) 0 L.length) = some (exO (some L)) := by
  rw [expo1_ls_eq, hr]
  simp [exO]
theorem expo1_own' {α : Type} [Cel α] {h : Heap} {id g off : Nat} {rows : List (List AV)} {L : List α} (hr : rowsAt h id g = some (false, es α, rows)) (hl : off + L.length ≤ rows.length) (he : (rows.drop off).take L.length = L.map enc) :
    expo1 h (.ls id g (es α) off L.length) = some (exO (some L)) := by
  rw [expo1_ls_eq, hr]
  simp only [hl, true_and, if_true, he, fz_rows]
  simp [exO]

/-! What is made in the frame. -/
attribute [simp] newC newBox newArr place
@[simp] theorem rowsAt_0 (g : Nat) (b f : Bool) (e : Nat) (r : List (List AV)) (t : Heap) : rowsAt (⟨g, .arr b f e r⟩ :: t) 0 g = some (f, e, r) := by simp [rowsAt, objAt]
@[simp] theorem rowsAt_s (o : AO) (t : Heap) (i g : Nat) : rowsAt (o :: t) (i + 1) g = rowsAt t i g := rfl
@[simp] theorem setRows_0 (g : Nat) (b f : Bool) (e : Nat) (r r' : List (List AV)) (t : Heap) : setRows (⟨g, .arr b f e r⟩ :: t) 0 r' = ⟨g, .arr b f e r'⟩ :: t := rfl
@[simp] theorem setRows_s (o : AO) (t : Heap) (i : Nat) (r : List (List AV)) : setRows (o :: t) (i + 1) r = o :: setRows t i r := by
  simp only [setRows, List.getElem?_cons_succ]
  split <;> simp_all
@[simp] theorem evSt_lp (n id g i off : Nat) (v : AV) (h : Heap) : evSt n (.lp id g i off) v h = match rowsAt h id g with
    | some (false, _, rows) => match rows[i]? with
      | some row => if (cellsOf v).length = n ∧ off + n ≤ row.length ∧ (cellsOf v).all leaf1 = true then some (.tup [], setRows h id (rows.set i (spliceAt off (cellsOf v) row))) else none
      | none => none
    | _ => none := rfl
@[simp] theorem splice_all {vs row : List AV} (h : row.length = vs.length) : spliceAt 0 vs row = vs := by
  simp [spliceAt, ← h]
section
variable (x : Ins) (n : Int) (s : List UInt8) (o : Option (List Int))
@[simp] theorem sp_ins0 : spliceAt 0 [.int .i64 n] (enc x) = enc { x with op := n } := rfl
@[simp] theorem sp_ins1 : spliceAt 1 [.int .i64 n] (enc x) = enc { x with d := n } := rfl
@[simp] theorem sp_ins2 : spliceAt 2 [.int .i64 n] (enc x) = enc { x with a := n } := rfl
@[simp] theorem sp_ins3 : spliceAt 3 [.int .i64 n] (enc x) = enc { x with b := n } := rfl
@[simp] theorem sp_ins4 : spliceAt 4 [.int .i64 n] (enc x) = enc { x with c := n } := rfl
@[simp] theorem sp_ins5 : spliceAt 5 [.int .i64 n] (enc x) = enc { x with n := n } := rfl
@[simp] theorem sp_ins6 : spliceAt 6 [.int .i64 n] (enc x) = enc { x with t := n } := rfl
@[simp] theorem sp_ins7 : spliceAt 7 [.str s] (enc x) = enc { x with s := s } := rfl
@[simp] theorem sp_ins8 : spliceAt 8 [slA o] (enc x) = enc { x with args := o } := rfl
end
/-- An instruction, with its arguments wherever they lie. -/
def insRow (x : Ins) (v : AV) : List AV := [.int .i64 x.op, .int .i64 x.d, .int .i64 x.a, .int .i64 x.b, .int .i64 x.c, .int .i64 x.n, .int .i64 x.t, .str x.s, v]
theorem sp_insL (x : Ins) (v : AV) : spliceAt 8 [v] (enc x) = insRow x v := rfl
@[simp] theorem sp_ins8L (x : Ins) (id g es off len : Nat) : spliceAt 8 [.ls id g es off len] (enc x) = insRow x (.ls id g es off len) := rfl
@[simp] theorem sp_ins8n (x : Ins) : spliceAt 8 [.nils] (enc x) = enc { x with args := none } := rfl
@[simp] theorem insRow_len (x : Ins) (v : AV) : (insRow x v).length = 9 := rfl
@[simp] theorem insRow_agg (x : Ins) (v : AV) : aggOr true 9 (insRow x v) = some (.agg (insRow x v)) := rfl
@[simp] theorem insRow_mem (x : Ins) (w : AV) : (∀ v, v ∈ insRow x w → leaf1 v = true) ↔ leaf1 w = true := by simp [insRow]
theorem insRow_all (x : Ins) (v : AV) (h : leaf1 v = true) : (insRow x v).all leaf1 = true := by simp [insRow, h]
theorem insRow_fz (x : Ins) {L : List Int} (os : List OC) {i : Nat} (h : os[i]? = some (.arr false false 1 (L.map enc))) :
    ∃ q, fz (heapOf os) fuelF (.agg (insRow x (.ls i 0 1 0 L.length))) = some q ∧ q.v = .agg (enc { x with args := some L }) := by
  have hr : rowsAt (heapOf os) i 0 = some (false, 1, L.map enc) := by simp [rowsAt, objAt, heapOf, h]
  have e : fz (heapOf os) 11 (.ls i 0 1 0 L.length) = some ⟨.rs 1 (L.map enc), L.all scal, [i]⟩ := by
    rw [fz_lsk _ 10, hr]
    simp only [List.drop_zero, Nat.zero_add, List.length_map, Nat.le_refl, and_self, if_true, take_rows, fz_rowsk L (heapOf os) 9, List.append_nil]
  refine ⟨_, (fz_agg_eq _ 11 _).trans (by rw [insRow]; simp only [fzList_cons, fz_p (show pure1 (AV.int .i64 _) = true from rfl) _ 10, fz_p (show pure1 (AV.str x.s) = true from rfl) _ 10, e, fzList_nil]; rfl), rfl⟩
theorem scal_ints (L : List Int) : L.all scal = true := by simp
theorem expo1_insRow (x : Ins) {L : List Int} {h : Heap} {id g : Nat} (hr : rowsAt h id g = some (false, 1, L.map enc)) :
    expo1 h (.agg (insRow x (.ls id g 1 0 L.length))) = some ⟨.agg (insRow x (.ls 0 0 1 0 L.length)), [.arr false false 1 (L.map enc)], true, [], []⟩ := by
  have e : expo h 11 (.ls id g 1 0 L.length) [] = some ⟨.ls 0 0 1 0 L.length, [.arr false false 1 (L.map enc)], true, [id], []⟩ := by
    rw [expo_ls _ 10, hr]
    simp
  rw [expo1_agg, insRow]
  simp only [exList, expo_p (show pure1 (AV.int .i64 _) = true from rfl) _ 10, expo_p (show pure1 (AV.str x.s) = true from rfl) _ 10, e]
  simp [apartIds, insRow]
/-- How an answer reads. -/
def Reads (r : Ex AV) (v : AV) : Prop := ∃ q, fz (heapOf r.objs) fuelF r.v = some q ∧ q.v = v
@[simp] theorem evLd_lp (agg : Bool) (n id g i off : Nat) (h : Heap) : evLd agg n (.lp id g i off) h = match rowsAt h id g with
    | some (_, _, rows) => match rows[i]? with
      | some row => aggOr agg n (row.drop off)
      | none => none
    | none => none := rfl
end Go.Vm
