/- The value machine (Va). -/
import Derived.Orders
import Derived.Below
import Derived.Laws.Cells
set_option linter.unusedSimpArgs false
set_option linter.unusedVariables false
set_option linter.unusedSectionVars false
/- The value machine: values, heap, operations, code, and how they are evaluated. Nothing here speaks of the translated program. -/
namespace Go.Vm
abbrev z9 := @List.getElem?_eq_getElem
abbrev zb := @List.getElem?_eq_some_iff
abbrev zc := @Bool.and_eq_true
abbrev zd := @Nat.zero_add
abbrev ze := @List.getD_eq_getElem?_getD
abbrev zf := @List.getElem?_cons_zero
abbrev zg := @List.length_append
abbrev zh := @List.length_set
abbrev zi := @Nat.le_refl
abbrev zj := @List.length_singleton
abbrev zk := @List.drop_eq_getElem_cons
abbrev zl := @List.length_cons
abbrev zm := @List.getElem?_cons_succ
abbrev zn := @List.mem_singleton
abbrev zo := @Array.getElem?_eq_some_iff
abbrev zp := @Bool.false_eq_true
abbrev zq := @List.mem_cons
abbrev zr := @List.drop_zero
abbrev zs := @List.mem_of_getElem?
abbrev zt := @List.mem_append
abbrev zu := @List.getElem?_set
abbrev zv := @Bool.false_ne_true
abbrev zw := @Option.map_some
abbrev zx := @List.getElem?_append_left
abbrev zy := @List.length_map
abbrev zz := @List.getElem?_of_mem
abbrev z10 := @List.map_cons
abbrev z11 := @Array.getElem?_setIfInBounds
abbrev z12 := @List.getElem?_eq_none
abbrev z13 := @List.length_nil
abbrev z14 := @List.drop_of_length_le
abbrev z15 := @List.append_nil
abbrev z16 := @List.nil_append
abbrev z17 := @List.getElem?_set_ne
abbrev z18 := @List.mem_cons_of_mem
abbrev z19 := @List.all_eq_true
abbrev z1a := @List.getElem?_map
abbrev z1b := @List.drop_eq_nil_of_le
abbrev z1c := @Array.getElem?_eq_getElem
abbrev z1d := @Array.getD_eq_getD_getElem?
abbrev z1e := @Array.length_toList
abbrev z1f := @Array.getElem?_toList
abbrev z1g := @Option.map_eq_some_iff
abbrev z1h := @List.mem_cons_self
abbrev z1i := @List.head?_cons
abbrev z1j := @List.getElem?_append
abbrev z1k := @Bool.or_eq_true
abbrev z1l := @List.getElem?_drop
abbrev z1m := @List.append_assoc
abbrev z1n := @List.getElem_mem
abbrev z1o := @Nat.le_trans
abbrev z1p := @Nat.add_zero
abbrev z1q := @Nat.mul_le_mul_right
abbrev z1r := @List.ext_getElem?
abbrev z1s := @Nat.le_max_right
abbrev z1t := @Nat.le_max_left
abbrev z1u := @Bool.not_eq_true'
abbrev z1v := @List.getElem?_take
abbrev z1w := @Bool.not_true
abbrev z1x := @Bool.false_or
abbrev z1y := @List.mem_map
abbrev z1z := @List.mem_append_left
abbrev z20 := @List.cons_append
abbrev z21 := @List.nodup_cons
abbrev z22 := @List.mem_append_right
abbrev z23 := @Bool.true_and
abbrev z24 := @Option.mem_toList
abbrev z25 := @Nat.add_mul
abbrev z26 := @List.eraseIdx_sublist
abbrev z27 := @List.mem_range
abbrev z28 := @Bool.not_false
abbrev z29 := @List.getElem?_replicate
abbrev z2a := @List.getElem?_append_right
abbrev z2b := @List.set_cons_zero
abbrev z2c := @List.take_of_length_le
abbrev z2d := @Option.isSome_iff_exists
abbrev z2e := @List.nodup_append
abbrev z2f := @Int.toNat_natCast
abbrev z2g := @Option.mem_def
abbrev z2h := @Int.ofNat_zero
abbrev z2i := @Option.bind_eq_some_iff
abbrev z2j := @Nat.lt_of_lt_of_le
abbrev z2k := @Option.getD_some
abbrev z2l := @Array.getElem?_append
abbrev z2m := @List.map_append
abbrev z2n := @List.getElem?_zipWith
abbrev z2o := @List.set_cons_succ
abbrev z2p := @List.not_mem_nil
abbrev z2q := @Bool.or_eq_false_iff
abbrev z2r := @List.set_set
abbrev z2s := @Nat.zero_le
abbrev z2t := @Int.fdiv_eq_ediv_of_nonneg
abbrev z2u := @Array.getElem?_modify
abbrev z2v := @List.map_nil
abbrev z2w := @List.all_cons
abbrev z2x := @Bool.true_or
abbrev z2y := @Option.isSome_none
abbrev z2z := @Bool.false_and
abbrev z30 := @Bool.and_false
abbrev z31 := @List.contains_eq_mem
abbrev z32 := @Array.eq_empty_of_size_eq_zero
abbrev z33 := @Nat.add_assoc
abbrev z34 := @List.map_congr_left
abbrev z35 := @Array.toList_map
abbrev z36 := @List.ext_getElem
abbrev z37 := @Array.ext_getElem?
abbrev z38 := @List.foldl_cons
abbrev z39 := @List.contains_iff_mem
abbrev z3a := @Bool.beq_eq_decide_eq
abbrev z3b := @List.pairwise_map
abbrev z3c := @List.mem_or_eq_of_mem_set
abbrev z3d := @Option.map_map
abbrev z3e := @List.length_take
abbrev z3f := @List.isEmpty_iff
abbrev z3g := @Bool.not_eq_true
abbrev z3h := @List.any_eq_true
abbrev z3i := @Array.getElem?_push
abbrev z3j := @List.map_eq_nil_iff
abbrev z3k := @Array.size_setIfInBounds
abbrev z3l := @Nat.mul_comm
abbrev z3m := @Nat.zero_mul
abbrev z3n := @Nat.mod_lt
abbrev z3o := @BitVec.getLsbD_and
abbrev z3p := @BitVec.getLsbD_not
abbrev z3q := @Option.isSome_some
abbrev z3r := @Bool.and_self
inductive AV where
 | undef
 | int (k : IntKind) (n : Int)
 | bool (b : Bool)
 | str (s : List UInt8)
 | nilp
 | nils
 | nilm
 | rp (cells : List AV)
 | rs (es : Nat) (elems : List (List AV))
 | rm (entries : List (AV × AV))
 | lp (id g i off : Nat)
 | ls (id g es off len : Nat)
 | lm (id g : Nat)
 | agg (cells : List AV)
 | tup (vs : List AV)
 | fn (f : Nat) (caps : List AV)
 deriving Inhabited
inductive OC where
 | dead
 | arr (bx fz : Bool) (es : Nat) (elems : List (List AV))
 | map (fz : Bool) (entries : List (AV × AV))
 | kmap (entries : List (AV × AV))
 deriving Inhabited
structure AO where
 gen : Nat
 c : OC
 deriving Inhabited
abbrev Heap := List AO
inductive Opd where
 | t (n : Nat)
 | c (v : AV)
 deriving Inhabited
inductive COp where
 | mv (x : Opd)
 | pick (c a b : Opd)
 | new (sl : Option Nat) (cells : List AV)
 | box (sl : Option Nat) (x : Opd)
 | build (zero : List AV) (parts : List (Nat × Nat × Opd))
 | buildS (sl : Option Nat) (es len : Nat) (zero : List AV) (parts : List (Nat × Opd))
 | ld (agg : Bool) (n : Nat) (a : Opd)
 | st (n : Nat) (a v : Opd)
 | nilchk (x : Opd)
 | bin (op : BinOp) (x y : Opd)
 | eqn (k : Nat) (neq : Bool) (x y : Opd)
 | eqa (neq : Bool) (ks : List Nat) (x y : Opd)
 | eqb (neq : Bool) (x y : Opd)
 | un (op : UnOp) (x : Opd)
 | cvi (k : IntKind) (x : Opd)
 | s2b (sl : Option Nat) (x : Opd)
 | b2s (x : Opd)
 | mkS (sl : Option Nat) (es bytes : Nat) (zero : List AV) (len cap : Opd)
 | slc (es : Nat) (x : Opd) (lo hi : Option Opd)
 | sls (x : Opd) (lo hi : Option Opd)
 | fa (off : Nat) (x : Opd)
 | fld (agg : Bool) (off n : Nat) (x : Opd)
 | ixs (es : Nat) (x i : Opd)
 | ixa (len es : Nat) (x i : Opd)
 | ixv (agg : Bool) (len es : Nat) (x i : Opd)
 | ixstr (x i : Opd)
 | ext (i : Nat) (x : Opd)
 | len (k : Nat) (x : Opd)
 | app (sl : Option Nat) (es bytes : Nat) (x y : Opd)
 | cpy (es : Nat) (x y : Opd)
 | minmax (isMax : Bool) (x y : Opd)
 | call (sl : Option Nat) (ro : Bool) (f : Nat) (args : List Opd)
 | callv (sl : Option Nat) (ro : Bool) (f : Opd) (args : List Opd)
 | mkf (f : Nat) (caps : List Opd)
 | mkm (sl : Option Nat)
 | mget (agg : Bool) (ks : List Nat) (zero : AV) (commaOk : Bool) (x k : Opd)
 | mput (agg : Bool) (ks : List Nat) (m k v : Opd)
 | mdel (agg : Bool) (ks : List Nat) (m k : Opd)
 | mclr (m : Opd)
 deriving Inhabited
structure CI where
 dst : Option Nat
 op : COp
 g : Option (Nat × Bool)
 deriving Inhabited
inductive CCode where
 | skip
 | region (ops : List CI)
 | draw (ops : List CI) (pairs : List (Nat × Nat))
 | drawN (k : Nat) (ops : List CI) (pairs : List (Nat × Nat))
 | seq (a b : CCode)
 | cond (c : Opd) (a b : CCode)
 | block (id : Nat) (a : CCode)
 | loop (live : List Nat) (a : CCode)
 | mrange (pre : List CI) (x : Opd) (live car : List Nat) (e : Nat) (cs : List CI) (a : CCode) (ts : List CI) (z : CCode)
 | kill (ks : List Nat) (a : CCode)
 | exit (id : Nat)
 | ret
 | bad
 deriving Inhabited
inductive CRes where
 | t (n : Nat)
 | cell (n : Nat) (agg : Bool) (size : Nat)
 deriving Inhabited
structure CFunc where
 params : Nat
 pure : Bool
 slots : Nat
 body : CCode
 results : List CRes
 deriving Inhabited
abbrev Tmps := List (Nat × AV)
structure St where
 t : Tmps
 h : Heap
inductive Res where
 | norm
 | exit (id : Nat)
 | ret
def tget : Tmps → Nat → AV
 | [], _ => .undef
 | (j, v) :: r, i => if j = i then v else tget r i
def tput (d : Option Nat) (v : AV) (t : Tmps) : Tmps :=
 match d with
 | some d => (d, v) :: t
 | none => t
def restrict (live : List Nat) (t : Tmps) : Tmps := live.map fun i => (i, tget t i)
def Opd.ev (t : Tmps) : Opd → AV
 | .t n => tget t n
 | .c v => v
def cellsOf : AV → List AV
 | .agg cs => cs
 | v => [v]
def y19 : AV → Bool
 | .undef | .agg _ | .tup _ => false
 | _ => true
def pure1 : AV → Bool
 | .int .. | .bool _ | .str _ | .nilp | .nils | .nilm | .rp _ | .rs .. | .rm _ => true
 | .fn _ caps => caps.isEmpty
 | _ => false
def y1u : AV → Bool
 | .int .. | .bool _ | .str _ | .nilp | .nils | .nilm => true
 | .rp cs => cs.isEmpty
 | .rs _ rows => rows.isEmpty
 | .fn _ caps => caps.isEmpty
 | _ => false
def y23 (h : Heap) (id g : Nat) : Option OC :=
 match h[id]? with
 | some o => if o.gen = g then some o.c else none
 | none => none
def yr (h : Heap) (id g : Nat) : Option (Bool × Nat × List (List AV)) :=
 match y23 h id g with
 | some (.arr _ fz es rows) => some (fz, es, rows)
 | _ => none
def y2j (h : Heap) (id : Nat) (rows : List (List AV)) : Heap :=
 match h[id]? with
 | some ⟨g, .arr bx fz es _⟩ => h.set id ⟨g, .arr bx fz es rows⟩
 | _ => h
def place (fb : Nat) (sl : Option Nat) (c : OC) (h : Heap) : Option (Nat × Nat × Heap) :=
 match sl with
 | none => some (h.length, 0, h ++ [⟨0, c⟩])
 | some j =>
  match h[fb + j]? with
  | some o => some (fb + j, o.gen + 1, h.set (fb + j) ⟨o.gen + 1, c⟩)
  | none => none
def yoo (v : AV) (hi : Nat) : Option Nat :=
 match v with
 | .int _ n => if 0 ≤ n ∧ n ≤ hi then some n.toNat else none
 | _ => none
def y1f (off : Nat) (vs row : List AV) : List AV := row.take off ++ vs ++ row.drop (off + vs.length)
def known : AV → Bool
 | .undef => false
 | _ => true
def y63 : List (Nat × Nat × AV) → List AV → Option (List AV)
 | [], cs => some cs
 | (off, n, v) :: r, cs =>
  if known v = true ∧ (cellsOf v).length = n ∧ off + n ≤ cs.length then y63 r (y1f off (cellsOf v) cs) else none
def y1i (es : Nat) : List (Nat × AV) → List (List AV) → Option (List (List AV))
 | [], rows => some rows
 | (i, v) :: r, rows =>
  if (cellsOf v).length = es ∧ i < rows.length ∧ (cellsOf v).all y19 = true then y1i es r (rows.set i (cellsOf v)) else none
def y4w (agg : Bool) (n : Nat) (cs : List AV) : Option AV :=
 if agg then (if n ≤ cs.length then some (.agg (cs.take n)) else none) else cs.head?
def y28 (h : Heap) (es : Nat) : AV → Option (List (List AV))
 | .nils => some []
 | .rs es' rows => if es' = es then some rows else none
 | .ls id g es1 off len =>
  match yr h id g with
  | some (_, es', rows) => if es1 = es ∧ es' = es ∧ off + len ≤ rows.length then some ((rows.drop off).take len) else none
  | none => none
 | .str s => if es = 1 then some (s.map fun b => [.int .u8 b.toNat]) else none
 | _ => none
def yc8 : List UInt8 → List UInt8 → Bool
 | _, [] => false
 | [], _ :: _ => true
 | a :: x, b :: y => a < b || (a == b && yc8 x y)
def yb0 (op : BinOp) (k : IntKind) (a b : Int) : Option AV :=
 match op with
 | .add => some (.int k (k.wrap (a + b)))
 | .sub => some (.int k (k.wrap (a - b)))
 | .mul => some (.int k (k.wrap (a * b)))
 | .quo => if b = 0 then none else some (.int k (k.wrap (a.tdiv b)))
 | .rem => if b = 0 then none else some (.int k (a.tmod b))
 | .and => some (.int k (k.wrap (BitVec.ofInt k.bits a &&& BitVec.ofInt k.bits b).toNat))
 | .or => some (.int k (k.wrap (BitVec.ofInt k.bits a ||| BitVec.ofInt k.bits b).toNat))
 | .xor => some (.int k (k.wrap (BitVec.ofInt k.bits a ^^^ BitVec.ofInt k.bits b).toNat))
 | .andNot => some (.int k (k.wrap (BitVec.ofInt k.bits a &&& ~~~(BitVec.ofInt k.bits b)).toNat))
 | .eql => some (.bool (a == b))
 | .neq => some (.bool (a != b))
 | .lss => some (.bool (a < b))
 | .leq => some (.bool (a ≤ b))
 | .gtr => some (.bool (a > b))
 | .geq => some (.bool (a ≥ b))
 | .shl => none
 | .shr => none
def ygv (op : BinOp) (k : IntKind) (a b : Int) : Option AV :=
 if b < 0 then none else
 match op with
 | .shl => some (.int k (k.wrap (a * 2 ^ (min b.toNat k.bits))))
 | .shr => some (.int k (a.fdiv (2 ^ (min b.toNat k.bits))))
 | _ => none
def y11l (op : BinOp) (a b : List UInt8) : Option AV :=
 match op with
 | .add => if a.length + b.length ≤ 2 ^ 62 then some (.str (a ++ b)) else none
 | .eql => some (.bool (a == b))
 | .neq => some (.bool (!(a == b)))
 | .lss => some (.bool (yc8 a b))
 | .leq => some (.bool (yc8 a b || a == b))
 | .gtr => some (.bool (!(yc8 a b || a == b)))
 | .geq => some (.bool (!(yc8 a b)))
 | _ => none
def y4v : BinOp → Bool
 | .shl | .shr => true
 | _ => false
def yb (op : BinOp) (x y : AV) : Option AV :=
 match x, y with
 | .int k a, .int k' b => if y4v op then ygv op k a b else if k = k' then yb0 op k a b else none
 | .str a, .str b => y11l op a b
 | _, _ => none
def yp8 : Nat → AV → Option Bool
 | 0, .nilp => some true
 | 0, .rp _ => some false
 | 0, .lp .. => some false
 | 1, .nils => some true
 | 1, .rs .. => some false
 | 1, .ls .. => some false
 | 2, .nilm => some true
 | 2, .rm _ => some false
 | 2, .lm .. => some false
 | _, _ => none
def y168 (k : Nat) (x y : AV) : Option Bool :=
 match yp8 k x, yp8 k y with
 | some true, some b => some b
 | some b, some true => some b
 | _, _ => none
def y21 : Nat → AV → AV → Option Bool
 | 0, .int k a, .int k' b => if k = k' then some (a == b) else none
 | 1, .bool a, .bool b => some (a == b)
 | 2, .str a, .str b => some (a == b)
 | _, _, _ => none
def yx : List Nat → List AV → List AV → Option Bool
 | [], [], [] => some true
 | k :: ks, x :: xs, y :: ys =>
  match y21 k x y, yx ks xs ys with
  | some a, some b => some (a && b)
  | _, _ => none
 | _, _, _ => none
def y2f (agg : Bool) (ks : List Nat) (x y : AV) : Option Bool :=
 if agg then match x, y with
  | .agg a, .agg b => yx ks a b
  | _, _ => none
 else match ks with
  | [k] => y21 k x y
  | _ => none
def y58 (agg : Bool) (ks : List Nat) (k : AV) : Bool := !agg || match k with
 | .agg cs => cs.length == ks.length
 | _ => false
def mfind (agg : Bool) (ks : List Nat) (k : AV) : List (AV × AV) → Option (Option AV)
 | [] => if y58 agg ks k then some none else none
 | (k', v) :: r =>
  match y2f agg ks k k' with
  | some true => some (some v)
  | some false => mfind agg ks k r
  | none => none
def mset (agg : Bool) (ks : List Nat) (k v : AV) : List (AV × AV) → Option (List (AV × AV))
 | [] => if y58 agg ks k then some [(k, v)] else none
 | (k', v') :: r =>
  match y2f agg ks k k' with
  | some true => some ((k, v) :: r)
  | some false => (mset agg ks k v r).map ((k', v') :: ·)
  | none => none
def mdrop (agg : Bool) (ks : List Nat) (k : AV) : List (AV × AV) → Option (List (AV × AV))
 | [] => if y58 agg ks k then some [] else none
 | (k', v') :: r =>
  match y2f agg ks k k' with
  | some true => some r
  | some false => (mdrop agg ks k r).map ((k', v') :: ·)
  | none => none
def y6l (h : Heap) (id g : Nat) : Option (Bool × List (AV × AV)) :=
 match y23 h id g with
 | some (.map fz es) => some (fz, es)
 | _ => none
def y3t (h : Heap) (id g : Nat) : Option (List (AV × AV)) :=
 match y23 h id g with
 | some (.kmap es) => some es
 | _ => none
def y3p (h : Heap) (id : Nat) (es : List (AV × AV)) : Heap :=
 match h[id]? with
 | some ⟨g, .map fz _⟩ => h.set id ⟨g, .map fz es⟩
 | some ⟨g, .kmap _⟩ => h.set id ⟨g, .kmap es⟩
 | _ => h
structure Fz (α : Type) where
 v : α
 fresh : Bool
 ids : List Nat
def yv {α β : Type} (f : α → Option (Fz β)) : List α → Option (Fz (List β))
 | [] => some ⟨[], true, []⟩
 | x :: xs =>
  match f x, yv f xs with
  | some a, some b => some ⟨a.v :: b.v, a.fresh && b.fresh, a.ids ++ b.ids⟩
  | _, _ => none
def fz (h : Heap) : Nat → AV → Option (Fz AV)
 | 0, _ => none
 | k + 1, v =>
  match v with
  | .undef => none
  | .ls id g es1 off len =>
   match yr h id g with
   | some (_, es, rows) =>
    if es1 = es ∧ off + len ≤ rows.length then
     match yv (yv (fz h k)) ((rows.drop off).take len) with
     | some r => some ⟨.rs es r.v, r.fresh, id :: r.ids⟩
     | none => none
    else none
   | none => none
  | .lp id g i off =>
   match yr h id g with
   | some (_, _, rows) =>
    match rows[i]? with
    | some row =>
     match yv (fz h k) (row.drop off) with
     | some r => some ⟨.rp r.v, r.fresh, id :: r.ids⟩
     | none => none
    | none => none
   | none => none
  | .lm id g =>
   match y6l h id g with
   | some (_, es) =>
    match yv (fun e : AV × AV => match fz h k e.1, fz h k e.2 with
      | some a, some b => some (⟨(a.v, b.v), a.fresh && b.fresh, a.ids ++ b.ids⟩ : Fz (AV × AV))
      | _, _ => none) es with
    | some r => some ⟨.rm r.v, r.fresh, id :: r.ids⟩
    | none => none
   | none => none
  | .agg cs =>
   match yv (fz h k) cs with
   | some r => some ⟨.agg r.v, r.fresh, r.ids⟩
   | none => none
  | .tup cs =>
   match yv (fz h k) cs with
   | some r => some ⟨.tup r.v, r.fresh, r.ids⟩
   | none => none
  | v => if pure1 v then some ⟨v, y1u v, []⟩ else none
structure Ex (α : Type) where
 v : α
 objs : List OC
 fresh : Bool
 xs : List Nat
 fs : List Nat
def y30 {α β : Type} (f : α → List OC → Option (Ex β)) : List α → List OC → Option (Ex (List β))
 | [], os => some ⟨[], os, true, [], []⟩
 | x :: xs, os =>
  match f x os with
  | some a =>
   match y30 f xs a.objs with
   | some b => some ⟨a.v :: b.v, b.objs, a.fresh && b.fresh, a.xs ++ b.xs, a.fs ++ b.fs⟩
   | none => none
  | none => none
def y1m : Nat := 12
def y2e7 (h : Heap) (k : Nat) (e : AV × AV) : Option (Fz (AV × AV)) :=
 match fz h k e.1, fz h k e.2 with
 | some a, some b => some ⟨(a.v, b.v), a.fresh && b.fresh, a.ids ++ b.ids⟩
 | _, _ => none
def exFz (h : Heap) (v : AV) (os : List OC) : Option (Ex AV) :=
 match fz h y1m v with
 | some q => some ⟨q.v, os, q.fresh, [], q.ids⟩
 | none => none
def expo (h : Heap) : Nat → AV → List OC → Option (Ex AV)
 | 0, _, _ => none
 | k + 1, v, os =>
  match v with
  | .undef => none
  | .ls id g es1 off len =>
   match yr h id g with
   | some (true, _, _) => exFz h (.ls id g es1 off len) os
   | some (false, es, rows) =>
    if es1 = es ∧ off + len ≤ rows.length then
     match yv (yv (fz h y1m)) ((rows.drop off).take len) with
     | some r => some ⟨.ls os.length 0 es 0 len, os ++ [.arr false false es r.v], r.fresh, [id], r.ids⟩
     | none => none
    else none
   | none => none
  | .lp id g i off =>
   match yr h id g with
   | some (true, _, _) => exFz h (.lp id g i off) os
   | some (false, es, [row]) =>
    if i = 0 ∧ off = 0 then
     match y30 (expo h k) row os with
     | some r => some ⟨.lp r.objs.length 0 0 0, r.objs ++ [.arr true false es [r.v]], r.fresh, id :: r.xs, r.fs⟩
     | none => none
    else none
   | _ => none
  | .lm id g =>
   match y6l h id g with
   | some (true, _) => exFz h (.lm id g) os
   | some (false, es) =>
    match yv (y2e7 h y1m) es with
    | some r => some ⟨.lm os.length 0, os ++ [.map false r.v], r.fresh, [id], r.ids⟩
    | none => none
   | none => none
  | .agg cs =>
   match y30 (expo h k) cs os with
   | some r => some ⟨.agg r.v, r.objs, r.fresh, r.xs, r.fs⟩
   | none => none
  | .tup cs =>
   match y30 (expo h k) cs os with
   | some r => some ⟨.tup r.v, r.objs, r.fresh, r.xs, r.fs⟩
   | none => none
  | v => if pure1 v then some ⟨v, os, y1u v, [], []⟩ else none
def y3l : List Nat → List Nat → Bool
 | [], _ => true
 | x :: xs, fs => !xs.contains x && !fs.contains x && y3l xs fs
def yo (h : Heap) (v : AV) : Option (Ex AV) :=
 match expo h y1m v [] with
 | some r => if y3l r.xs r.fs then some ⟨r.v, r.objs, r.fresh, [], []⟩ else none
 | none => none
end Go.Vm
/- The value machine: how operations, regions, code and calls are evaluated; the answers that any fuel gives. -/
namespace Go.Vm
structure Calls2 where
 p : Nat → List AV → Option (Ex AV)
 i : Nat → List AV → Nat → Heap → Option (AV × Heap)
structure Env where
 fn : Nat → Option CFunc
 pure : Nat → Bool
 xp : Nat → List AV → Option (Ex AV)
 xi : Nat → List AV → Nat → Heap → Option (AV × Heap)
abbrev y9q := List Nat → CCode → Nat → St → Option (Res × St)
def y1e : List Nat → Heap → Heap
 | [], h => h
 | id :: r, h =>
  match h[id]? with
  | some ⟨g, .arr bx _ es rows⟩ => y1e r (h.set id ⟨g, .arr bx true es rows⟩)
  | some ⟨g, .map _ es⟩ => y1e r (h.set id ⟨g, .map true es⟩)
  | some ⟨g, .kmap es⟩ => y1e r (h.set id ⟨g, .map true es⟩)
  | _ => y1e r h
def y3d (tab : List (Nat × Nat)) : AV → AV
 | .ls j 0 es off len => match tab[j]? with
  | some (id, g) => .ls id g es off len
  | none => .undef
 | .lp j 0 i off => match tab[j]? with
  | some (id, g) => .lp id g i off
  | none => .undef
 | .lm j 0 => match tab[j]? with
  | some (id, g) => .lm id g
  | none => .undef
 | v => if pure1 v then v else .undef
def ybb (tab : List (Nat × Nat)) : AV → AV
 | .agg cs => .agg (cs.map (y3d tab))
 | v => y3d tab v
def reloc (tab : List (Nat × Nat)) : AV → AV
 | .tup vs => .tup (vs.map (ybb tab))
 | v => ybb tab v
def y53 (tab : List (Nat × Nat)) : OC → OC
 | .arr true fz es rows => .arr true fz es (rows.map (·.map (y3d tab)))
 | o => o
def yrp : AV → Bool
 | .agg cs => cs.all y1u
 | v => y1u v
def okOC : OC → Bool
 | .arr true false _ rows => rows.all (·.all y19)
 | .arr false false _ _ => true
 | .map false es => es.all fun p => yrp p.1 && yrp p.2
 | _ => false
def y39 (fb : Nat) : Option Nat → List OC → List (Nat × Nat) → Heap → Option (List (Nat × Nat) × Heap)
 | _, [], tab, h => some (tab, h)
 | sl, o :: os, tab, h =>
  match (if okOC (y53 tab o) then place fb sl (y53 tab o) h else none) with
  | some (id, g, h') => y39 fb (sl.map (· + 1)) os (tab ++ [(id, g)]) h'
  | none => none
def y2n (os : List OC) : Heap := os.map (⟨0, ·⟩)
def y38 (E : Env) (C : Calls2) (fb : Nat) (sl : Option Nat) (ro : Bool) (f : Nat) (args : List AV) (h : Heap) : Option (AV × Heap) :=
 match yv (fz h y1m) args with
 | none => none
 | some fa =>
  match C.p f fa.v with
  | none => none
  | some r =>
   match (if r.fresh || fa.ids.isEmpty then h else y1e fa.ids h) with
   | h1 =>
    if ro then
     match fz (y2n r.objs) y1m r.v with
     | some q => some (q.v, h1)
     | none => none
    else
     match y39 fb sl r.objs [] h1 with
     | some (tab, h2) => some (reloc tab r.v, h2)
     | none => none
def yc (E : Env) (C : Calls2) (fb : Nat) (sl : Option Nat) (ro : Bool) (f : Nat) (args : List AV) (h : Heap) : Option (AV × Heap) :=
 if E.pure f && !(ro && sl.isSome) then y38 E C fb sl ro f args h
 else C.i f args (match sl with | some j => fb + j | none => h.length) h
def y5p (t : Tmps) (hi : Nat) (dflt : Nat) : Option Opd → Option Nat
 | none => some dflt
 | some x => yoo (x.ev t) hi
def y2k (fb : Nat) (sl : Option Nat) (es : Nat) (rows : List (List AV)) (h : Heap) : Option (AV × Heap) :=
 match place fb sl (.arr false false es rows) h with
 | some (id, g, h') => some (.ls id g es 0 rows.length, h')
 | none => none
def y8l (fb : Nat) (sl : Option Nat) (cs : List AV) (h : Heap) : Option (AV × Heap) :=
 match place fb sl (.arr true false cs.length [cs]) h with
 | some (id, g, h') => some (.lp id g 0 0, h')
 | none => none
def y1v (fb : Nat) (sl : Option Nat) (es bytes : Nat) (x y : AV) (h : Heap) : Option (AV × Heap) :=
 match y28 h es y with
 | none => none
 | some ys =>
  match x with
  | .nils =>
   if ys.isEmpty then some (.nils, h)
   else if ys.length * bytes ≤ 2 ^ 48 then y2k fb sl es ys h else none
  | .ls id g es1 off len =>
   match h[id]? with
   | some ⟨g', .arr false false es' rows⟩ =>
    if g' = g ∧ es1 = es ∧ es' = es ∧ off + len ≤ rows.length ∧ ((2 * (len + ys.length) + 512) * bytes ≤ 2 ^ 48 ∨ (len + ys.length + (len + ys.length) / 4 + 512) * bytes ≤ 2 ^ 48) then
     some (.ls id (g + 1) es 0 (len + ys.length), h.set id ⟨g + 1, .arr false false es ((rows.drop off).take len ++ ys)⟩)
    else none
   | _ => none
  | _ => none
def y1f1 (es : Nat) (x y : AV) (h : Heap) : Option (AV × Heap) :=
 match y28 h es y with
 | none => none
 | some ys =>
  match x with
  | .nils => some (.int .i64 0, h)
  | .ls id g es1 off len =>
   match yr h id g with
   | some (fz, es', rows) =>
    if fz = false ∧ es1 = es ∧ es' = es ∧ off + len ≤ rows.length then
     some (.int .i64 (min ys.length len : Nat), y2j h id (rows.take off ++ ys.take (min ys.length len) ++ rows.drop (off + min ys.length len)))
    else none
   | none => none
  | _ => none
def yqq (es : Nat) (x : AV) (lo : Nat → Option Nat) (hi : Nat → Option Nat) : Option AV :=
 match x with
 | .nils => match hi 0 with
  | some b => match lo b with
   | some _ => some .nils
   | none => none
  | none => none
 | .rs es' rows =>
  if es' = es then match hi rows.length with
   | some b => match lo b with
    | some a => some (.rs es ((rows.take b).drop a))
    | none => none
   | none => none
  else none
 | .ls id g es' off len =>
  if es' = es then match hi len with
   | some b => match lo b with
    | some a => some (.ls id g es (off + a) (b - a))
    | none => none
   | none => none
  else none
 | _ => none
def evLd (agg : Bool) (n : Nat) (a : AV) (h : Heap) : Option AV :=
 match a with
 | .rp cs => y4w agg n cs
 | .lp id g i off =>
  match yr h id g with
  | some (_, _, rows) => match rows[i]? with
   | some row => y4w agg n (row.drop off)
   | none => none
  | none => none
 | _ => none
def evSt (n : Nat) (a v : AV) (h : Heap) : Option (AV × Heap) :=
 match a with
 | .lp id g i off =>
  match yr h id g with
  | some (false, _, rows) => match rows[i]? with
   | some row =>
    if (cellsOf v).length = n ∧ off + n ≤ row.length ∧ (cellsOf v).all y19 = true then
     some (.tup [], y2j h id (rows.set i (y1f off (cellsOf v) row)))
    else none
   | none => none
  | _ => none
 | _ => none
def y10 (es : Nat) (x i : AV) : Option AV :=
 match x, i with
 | .rs es' rows, .int _ n => if es' = es ∧ 0 ≤ n then (rows[n.toNat]?).map .rp else none
 | .ls id g es' off len, .int _ n => if es' = es ∧ 0 ≤ n ∧ n < len then some (.lp id g (off + n.toNat) 0) else none
 | _, _ => none
def yn8 (len es : Nat) (x i : AV) : Option AV :=
 match x, i with
 | .rp cs, .int _ n => if 0 ≤ n ∧ n < len then some (.rp (cs.drop (n.toNat * es))) else none
 | .lp id g r off, .int _ n => if 0 ≤ n ∧ n < len then some (.lp id g r (off + n.toNat * es)) else none
 | _, _ => none
def y2k0 : AV → Bool
 | .str _ => true
 | _ => false
def bytesOf : List (List AV) → Option (List UInt8)
 | [] => some []
 | [.int .u8 n] :: r => (bytesOf r).map (UInt8.ofNat n.toNat :: ·)
 | _ :: _ => none
def evFa (off : Nat) (x : AV) : Option AV :=
 match x with
 | .rp cs => some (.rp (cs.drop off))
 | .lp id g i o => some (.lp id g i (o + off))
 | _ => none
def y17 (k : Nat) (x : AV) (h : Heap) : Option AV :=
 match k, x with
 | 0, .str s => some (.int .i64 s.length)
 | 1, .nils => some (.int .i64 0)
 | 1, .rs _ rows => some (.int .i64 rows.length)
 | 1, .ls _ _ _ _ len => some (.int .i64 len)
 | 2, .nilm => some (.int .i64 0)
 | 2, .rm es => some (.int .i64 es.length)
 | 2, .lm id g => match y6l h id g with
  | some (_, es) => some (.int .i64 es.length)
  | none => none
 | _, _ => none
def y2z (agg : Bool) (ks : List Nat) (zero : AV) (commaOk : Bool) (x k : AV) (h : Heap) : Option AV :=
 match (match x with
  | .nilm => some []
  | .rm es => some es
  | .lm id g => match y3t h id g with
   | some es => some es
   | none => (y6l h id g).map (·.2)
  | _ => none) with
 | none => none
 | some es => match mfind agg ks k es with
  | none => none
  | some (some v) => some (if commaOk then .tup [v, .bool true] else v)
  | some none => some (if commaOk then .tup [zero, .bool false] else zero)
def y3x (agg : Bool) (ks : List Nat) (m k v : AV) (h : Heap) : Option (AV × Heap) :=
 match m with
 | .lm id g => match y6l h id g with
  | some (false, es) => match mset agg ks k v es with
   | some es' => some (.tup [], y3p h id es')
   | none => none
  | some (true, _) => none
  | none => match y3t h id g with
   | some es => match mset agg ks k v es with
    | some es' => if es'.length = es.length then some (.tup [], y3p h id es') else none
    | none => none
   | none => none
 | _ => none
def y7c (agg : Bool) (ks : List Nat) (m k : AV) (h : Heap) : Option (AV × Heap) :=
 match m with
 | .nilm => if y58 agg ks k then some (.tup [], h) else none
 | .lm id g => match y6l h id g with
  | some (false, es) => match mdrop agg ks k es with
   | some es' => some (.tup [], y3p h id es')
   | none => none
  | some (true, _) => none
  | none => match y3t h id g with
   | some es => match mdrop agg ks k es with
    | some es' => some (.tup [], y3p h id es')
    | none => none
   | none => none
 | _ => none
def yr8 (m : AV) (h : Heap) : Option (AV × Heap) :=
 match m with
 | .nilm => some (.tup [], h)
 | .lm id g => match y6l h id g with
  | some (false, _) => some (.tup [], y3p h id [])
  | _ => none
 | _ => none
def evOp (E : Env) (C : Calls2) (fb : Nat) (t : Tmps) (h : Heap) : COp → Option (AV × Heap)
 | .mv x => some (x.ev t, h)
 | .pick c a b => match c.ev t with
  | .bool true => some (a.ev t, h)
  | .bool false => some (b.ev t, h)
  | _ => none
 | .new sl cs => if cs.all y19 then y8l fb sl cs h else none
 | .box sl x => if (cellsOf (x.ev t)).all y19 then y8l fb sl (cellsOf (x.ev t)) h else none
 | .build zero parts => (y63 (parts.map fun p => (p.1, p.2.1, p.2.2.ev t)) zero).map (.agg ·, h)
 | .buildS sl es len zero parts =>
  if zero.length = es ∧ zero.all y19 = true then
   match y1i es (parts.map fun p => (p.1, p.2.ev t)) (List.replicate len zero) with
   | some rows => y2k fb sl es rows h
   | none => none
  else none
 | .ld agg n a => (evLd agg n (a.ev t) h).map (·, h)
 | .st n a v => evSt n (a.ev t) (v.ev t) h
 | .nilchk x => match x.ev t with
  | .rp cs => some (.rp cs, h)
  | .lp id g i off => some (.lp id g i off, h)
  | _ => none
 | .bin op x y => (yb op (x.ev t) (y.ev t)).map (·, h)
 | .eqn k neq x y => (y168 k (x.ev t) (y.ev t)).map fun b => (.bool (if neq then !b else b), h)
 | .eqa neq ks x y => match x.ev t, y.ev t with
  | .agg a, .agg b => (yx ks a b).map fun b => (.bool (if neq then !b else b), h)
  | _, _ => none
 | .eqb neq x y => match x.ev t, y.ev t with
  | .bool a, .bool b => some (.bool (if neq then !(a == b) else a == b), h)
  | _, _ => none
 | .un op x => match op, x.ev t with
  | .not, .bool b => some (.bool (!b), h)
  | .neg, .int k n => some (.int k (k.wrap (0 - n)), h)
  | .xor, .int k n => some (.int k (k.wrap (BitVec.ofInt k.bits (if k.signed then -1 else k.max) ^^^ BitVec.ofInt k.bits n).toNat), h)
  | _, _ => none
 | .cvi k x => match x.ev t with
  | .int _ n => some (.int k (k.wrap n), h)
  | _ => none
 | .s2b sl x => match x.ev t with
  | .str s => y2k fb sl 1 (s.map fun b => [.int .u8 b.toNat]) h
  | _ => none
 | .b2s x => if y2k0 (x.ev t) then none else match y28 h 1 (x.ev t) with
  | some rows => (bytesOf rows).map fun s => (.str s, h)
  | none => none
 | .mkS sl es bytes zero len cap => match len.ev t, cap.ev t with
  | .int .i64 l, .int .i64 c =>
   if zero.length = es ∧ zero.all y19 = true ∧ 0 ≤ l ∧ l ≤ c ∧ c * bytes ≤ 2 ^ 47 ∧ c ≤ 2 ^ 62 then y2k fb sl es (List.replicate l.toNat zero) h else none
  | _, _ => none
 | .slc es x lo hi => (yqq es (x.ev t) (fun b => y5p t b 0 lo) (fun n => y5p t n n hi)).map (·, h)
 | .sls x lo hi => match x.ev t with
  | .str s => match y5p t s.length s.length hi with
   | some b => match y5p t b 0 lo with
    | some a => some (.str ((s.take b).drop a), h)
    | none => none
   | none => none
  | _ => none
 | .fa off x => (evFa off (x.ev t)).map (·, h)
 | .fld agg off n x => match x.ev t with
  | .agg cs => (y4w agg n (cs.drop off)).map (·, h)
  | _ => none
 | .ixs es x i => (y10 es (x.ev t) (i.ev t)).map (·, h)
 | .ixa len es x i => (yn8 len es (x.ev t) (i.ev t)).map (·, h)
 | .ixv agg len es x i => match x.ev t, i.ev t with
  | .agg cs, .int _ n => if 0 ≤ n ∧ n < len then (y4w agg es (cs.drop (n.toNat * es))).map (·, h) else none
  | _, _ => none
 | .ixstr x i => match x.ev t, i.ev t with
  | .str s, .int _ n => if 0 ≤ n then (s[n.toNat]?).map fun b => (.int .u8 b.toNat, h) else none
  | _, _ => none
 | .ext i x => match x.ev t with
  | .tup vs => (vs[i]?).map (·, h)
  | _ => none
 | .len k x => (y17 k (x.ev t) h).map (·, h)
 | .app sl es bytes x y => y1v fb sl es bytes (x.ev t) (y.ev t) h
 | .cpy es x y => y1f1 es (x.ev t) (y.ev t) h
 | .minmax isMax x y => match x.ev t, y.ev t with
  | .int k a, .int k' b => if k = k' then some (.int k (if isMax then max a b else min a b), h) else none
  | _, _ => none
 | .call sl ro f args => yc E C fb sl ro f (args.map (·.ev t)) h
 | .callv sl ro f args => match f.ev t with
  | .fn f caps => yc E C fb sl ro f (args.map (·.ev t) ++ caps) h
  | _ => none
 | .mkf f caps => some (.fn f (caps.map (·.ev t)), h)
 | .mkm sl => match place fb sl (.map false []) h with
  | some (id, g, h') => some (.lm id g, h')
  | none => none
 | .mget agg ks zero ok x k => (y2z agg ks zero ok (x.ev t) (k.ev t) h).map (·, h)
 | .mput agg ks m k v => y3x agg ks (m.ev t) (k.ev t) (v.ev t) h
 | .mdel agg ks m k => y7c agg ks (m.ev t) (k.ev t) h
 | .mclr m => yr8 (m.ev t) h
def wants (t : Tmps) : Option (Nat × Bool) → Option Bool
 | none => some true
 | some (d, want) => match tget t d with
  | .bool b => some (b == want)
  | .tup [] => some false
  | _ => none
def y2b (E : Env) (C : Calls2) (fb : Nat) (o : CI) (s : St) : Option St :=
 match wants s.t o.g with
 | some true => match evOp E C fb s.t s.h o.op with
  | some (v, h) => some ⟨tput o.dst v s.t, h⟩
  | none => none
 | some false => some ⟨tput o.dst (.tup []) s.t, s.h⟩
 | none => none
def y36 (E : Env) (C : Calls2) (fb : Nat) : List CI → St → Option St
 | [], s => some s
 | o :: r, s => match y2b E C fb o s with
  | some s' => y36 E C fb r s'
  | none => none
def ids1 : AV → List Nat
 | .lp id .. | .ls id .. | .lm id _ => [id]
 | _ => []
def fpOf (E : Env) (C : Calls2) (fb : Nat) (t : Tmps) (h : Heap) : COp → Option (List Nat × List Nat)
 | .new (some j) _ => some ([], [fb + j])
 | .box (some j) _ => some ([], [fb + j])
 | .buildS (some j) .. => some ([], [fb + j])
 | .mkS (some j) .. => some ([], [fb + j])
 | .s2b (some j) _ => some ([], [fb + j])
 | .mkm (some j) => some ([], [fb + j])
 | .new none _ | .box none _ | .buildS none .. | .mkS none .. | .s2b none _ | .mkm none => none
 | .ld _ _ a => some (ids1 (a.ev t), [])
 | .st _ a _ => some ([], ids1 (a.ev t))
 | .b2s x => some (ids1 (x.ev t), [])
 | .len _ x => some (ids1 (x.ev t), [])
 | .mget _ _ _ _ x _ => some (ids1 (x.ev t), [])
 | .call sl ro f args =>
  if E.pure f && !(ro && sl.isSome) then
   match yv (fz h y1m) (args.map (·.ev t)) with
   | none => none
   | some fa =>
    match C.p f fa.v with
    | none => none
    | some r =>
     if r.fresh || fa.ids.isEmpty then
      if ro || r.objs.isEmpty then some (fa.ids, []) else
      match sl with
      | some j => some (fa.ids, (List.range r.objs.length).map (fb + j + ·))
      | none => none
     else if ro then some (fa.ids, fa.ids) else none
  else none
 | .mv _ | .pick .. | .build .. | .nilchk _ | .bin .. | .eqn .. | .eqa .. | .eqb .. | .un .. | .cvi .. | .slc .. | .ixs .. | .sls .. | .fa .. | .fld .. | .ixa .. | .ixv .. | .ixstr ..
 | .ext .. | .minmax .. | .mkf .. => some ([], [])
 | .app (some j) _ _ x y => some (ids1 (y.ev t), ids1 (x.ev t) ++ [fb + j])
 | .cpy _ x y => some (ids1 (y.ev t), ids1 (x.ev t))
 | .mput _ _ m _ _ => some ([], ids1 (m.ev t))
 | .mdel _ _ m _ => some ([], ids1 (m.ev t))
 | .mclr m => some ([], ids1 (m.ev t))
 | .app none .. | .callv .. => none
def fpCI (E : Env) (C : Calls2) (fb : Nat) (o : CI) (s : St) : Option (List Nat × List Nat) :=
 match wants s.t o.g with
 | some true => fpOf E C fb s.t s.h o.op
 | some false => some ([], [])
 | none => none
def meets (a b : List Nat) : Bool := a.any b.contains
def y3a (a b : List Nat × List Nat) : Bool := !meets a.2 b.1 && !meets a.2 b.2 && !meets a.1 b.2
def COp.isB : COp → Bool
 | .call none false _ _ => true
 | _ => false
def fpB (E : Env) (C : Calls2) (fb : Nat) (o : CI) (s : St) : Option (List Nat × List Nat) :=
 match o.op.isB with
 | true => some ([], [])
 | false => fpCI E C fb o s
def y7o (E : Env) (C : Calls2) (fb : Nat) : List CI → St → Option (St × List (List Nat × List Nat))
 | [], s => some (s, [])
 | o :: r, s => match fpB E C fb o s, y2b E C fb o s with
  | some f, some s' => match y7o E C fb r s' with
   | some (s'', fs) => some (s'', f :: fs)
   | none => none
  | _, _ => none
def y1o (fs : List (List Nat × List Nat)) (pairs : List (Nat × Nat)) : Bool :=
 pairs.all fun p => match fs[p.1]?, fs[p.2]? with
  | some a, some b => y3a a b
  | _, _ => false
def y5n (E : Env) (C : Calls2) (fb : Nat) (ops : List CI) (pairs : List (Nat × Nat)) (s : St) : Option St :=
 match y7o E C fb ops s with
 | some (s', fs) => if y1o fs pairs then some s' else none
 | none => none
def yj (n : Nat) : Heap := List.replicate n ⟨0, .dead⟩
def yof : Option AO → Option AO → Prop
 | none, none => True
 | some a, some b => a.gen = b.gen ∧ (a.c = b.c ∨ ∃ fz es es', a.c = .map fz es ∧ b.c = .map fz es' ∧ es.Perm es')
 | _, _ => False
def yg4 (h h' : Heap) : Prop := ∀ i : Nat, yof h[i]? h'[i]?
def mfold {σ : Type} (step : σ → AV × AV → Option σ) : List (AV × AV) → σ → Option σ
 | [], h => some h
 | p :: r, h => match step h p with
  | some h' => mfold step r h'
  | none => none
open Classical in
noncomputable def mall {σ : Type} (same : σ → σ → Prop) (step : σ → AV × AV → Option σ) (fin : σ → Option σ) (es : List (AV × AV)) (h : σ) : Option σ :=
 if ∃ hf, (mfold step es h).bind fin = some hf ∧ ∀ π : List (AV × AV), π.Perm es → ∃ h', (mfold step π h).bind fin = some h' ∧ same h' hf then (mfold step es h).bind fin else none
def ynl : Option (Res × St) → Option St
 | some (.norm, s) => some s
 | _ => none
def killAt (h : Heap) (id : Nat) : Heap :=
 match h[id]? with
 | some o => h.set id ⟨o.gen + 1, .dead⟩
 | none => h
def killAll (fb : Nat) : List Nat → Heap → Heap
 | [], h => h
 | k :: ks, h => killAll fb ks (killAt h (fb + k))
def yd5 : AV → Bool
 | .int _ _ => true
 | .bool _ => true
 | .str _ => true
 | _ => false
def ylq (h : Heap) : AV → Option (Nat × Nat × List (AV × AV))
 | .lm id g => match y6l h id g with
  | some (false, es) => if es.all (fun p => yd5 p.1) then some (id, g, es) else none
  | _ => none
 | _ => none
def ydu (h : Heap) (id : Nat) : Heap := match h[id]? with
 | some ⟨g, .map false es⟩ => h.set id ⟨g, .kmap es⟩
 | _ => h
def y6q (id g : Nat) (h : Heap) : Option Heap := match y3t h id g with
 | some es => some (h.set id ⟨g, .map false es⟩)
 | none => none
open Classical in
noncomputable def ustep (id g : Nat) (step : Heap → AV × AV → Option Heap) (h : Heap) (p : AV × AV) : Option Heap := match y3t h id g with
 | some es => match es.find? fun q => decide (q.1 = p.1) with
  | none => some h
  | some q => match step h q with
   | some h' => match y3t h' id g with
    | some es' => if es'.all (fun p => yd5 p.1) then some h' else none
    | none => none
   | none => none
 | none => none
def hstep (E : Env) (C : Calls2) (fb : Nat) (t0 : Tmps) (e : Nat) (cs : List CI) (run : St → Option (Res × St)) (h : Heap) (q : AV × AV) : Option Heap :=
 match y36 E C fb cs ⟨(e, .tup [q.1, q.2]) :: t0, h⟩ with
 | some s2 => (ynl (run s2)).map (·.h)
 | none => none
noncomputable def exec (E : Env) (C : Calls2) (L : y9q) (fb : Nat) : CCode → St → Option (Res × St)
 | .skip, s => some (.norm, s)
 | .region ops, s => match y36 E C fb ops s with
  | some s' => some (.norm, s')
  | none => none
 | .draw ops pairs, s => match (if pairs.isEmpty then y36 E C fb ops s else y5n E C fb ops pairs s) with
  | some s' => some (.norm, s')
  | none => none
 | .drawN k ops pairs, s => match y5n E C s.h.length ops pairs ⟨s.t, s.h ++ yj k⟩ with
  | some s' => some (.norm, s')
  | none => none
 | .seq a b, s => match exec E C L fb a s with
  | some (.norm, s') => exec E C L fb b s'
  | r => r
 | .cond c a b, s => match c.ev s.t with
  | .bool b' => if b' then exec E C L fb a s else exec E C L fb b s
  | _ => none
 | .block id a, s => match exec E C L fb a s with
  | some (.exit id', s') => if id' = id then some (.norm, s') else some (.exit id', s')
  | r => r
 | .loop live a, s => L live a fb s
 | .mrange pre x live car e cs a ts z, s => match y36 E C fb pre s with
  | some s1 => match (if car.isEmpty && ts.isEmpty then ylq s1.h (x.ev s1.t) else none) with
   | some (id, g, es) => match mall yg4 (ustep id g (hstep E C fb (restrict live s1.t) e cs fun s2 => exec E C L fb a s2)) (y6q id g) es (ydu s1.h id) with
    | some hf => exec E C L fb z ⟨restrict live s1.t, hf⟩
    | none => none
   | none => none
  | none => none
 | .kill ks a, s => match exec E C L fb a s with
  | some (r, s1) => some (r, ⟨s1.t, killAll fb ks s1.h⟩)
  | none => none
 | .exit id, s => some (.exit id, s)
 | .ret, s => some (.ret, s)
 | .bad, _ => none
def y1ag (h : Heap) (t : Tmps) : CRes → Option AV
 | .t n => some (tget t n)
 | .cell n agg size => evLd agg size (tget t n) h
def y3y (h : Heap) (t : Tmps) : List CRes → Option (List AV)
 | [] => some []
 | r :: rs => match y1ag h t r, y3y h t rs with
  | some a, some b => some (a :: b)
  | _, _ => none
def ysn : List AV → AV
 | [v] => v
 | vs => .tup vs
def y4a : Nat → List AV → Tmps
 | _, [] => []
 | n, v :: vs => (n, v) :: y4a (n + 1) vs
noncomputable def y4c (E : Env) (C : Calls2) (L : y9q) (cf : CFunc) (args : List AV) (fb : Nat) (h : Heap) : Option (AV × Heap) :=
 if args.length = cf.params then
  match exec E C L fb cf.body ⟨y4a 0 args, h⟩ with
  | some (.norm, s) | some (.ret, s) => match y3y s.h s.t cf.results with
   | some vs => some (ysn vs, s.h)
   | none => none
  | _ => none
 else none
noncomputable def y70 (E : Env) (C : Calls2) (L : y9q) (f : Nat) (args : List AV) : Option (Ex AV) :=
 match E.fn f with
 | none => E.xp f args
 | some cf =>
  match y4c E C L cf args 0 (yj cf.slots) with
  | some (v, h) => yo h v
  | none => none
noncomputable def yk4 (E : Env) (C : Calls2) (L : y9q) (f : Nat) (args : List AV) (fb : Nat) (h : Heap) : Option (AV × Heap) :=
 match E.fn f with
 | none => E.xi f args fb h
 | some cf => if fb = h.length then y4c E C L cf args fb (h ++ yj cf.slots) else y4c E C L cf args fb h
noncomputable def y5k (E : Env) (C : Calls2) (L : y9q) : y9q := fun live a fb s =>
 match exec E C L fb a ⟨restrict live s.t, s.h⟩ with
 | some (.norm, s') => L live a fb s'
 | r => r
noncomputable def both (E : Env) : Nat → Calls2 × y9q
 | 0 => (⟨fun _ _ => none, fun _ _ _ _ => none⟩, fun _ _ _ _ => none)
 | k + 1 => (⟨y70 E (both E k).1 (both E k).2, yk4 E (both E k).1 (both E k).2⟩, y5k E (both E k).1 (both E k).2)
open Classical in
noncomputable def lim {α : Type} (f : Nat → Option α) : Option α :=
 if h : ∃ k r, f k = some r then some (Classical.choose (Classical.choose_spec h)) else none
noncomputable def yd (E : Env) : Calls2 :=
 ⟨fun f args => lim fun k => (both E k).1.p f args, fun f args fb h => lim fun k => (both E k).1.i f args fb h⟩
noncomputable def y7b (E : Env) : y9q := fun live a fb s => lim fun k => (both E k).2 live a fb s
end Go.Vm
/- The value machine: more fuel gives the same answers, and the answers that any fuel gives satisfy the machine's own equations. -/
namespace Go.Vm
def Le {α : Type} (a b : Option α) : Prop := ∀ r, a = some r → b = some r
theorem Le.refl {α : Type} (a : Option α) : Le a a := fun _ h => h
theorem Le.trans {α : Type} {a b c : Option α} (h : Le a b) (h' : Le b c) : Le a c := fun r hr => h' r (h r hr)
structure CLe (C C' : Calls2) : Prop where
 p : ∀ f a, Le (C.p f a) (C'.p f a)
 i : ∀ f a fb h, Le (C.i f a fb h) (C'.i f a fb h)
def LLe (L L' : y9q) : Prop := ∀ live a fb s, Le (L live a fb s) (L' live a fb s)
variable {E : Env} {C C' : Calls2} {L L' : y9q}
theorem y17a (hC : CLe C C') (fb : Nat) (sl : Option Nat) (ro : Bool) (f : Nat) (args : List AV) (h : Heap) :
  Le (y38 E C fb sl ro f args h) (y38 E C' fb sl ro f args h) := by
 intro r hr
 unfold y38 at hr ⊢
 split at hr
 ·cases hr
 ·rename_i fa hfa
  split at hr
  ·cases hr
  ·rename_i q hq
   rw [hC.p _ _ _ hq]
   exact hr
theorem yfh (hC : CLe C C') (fb : Nat) (sl : Option Nat) (ro : Bool) (f : Nat) (args : List AV) (h : Heap) :
  Le (yc E C fb sl ro f args h) (yc E C' fb sl ro f args h) := by
 intro r hr
 unfold yc at hr ⊢
 split
 ·rename_i hp; rw [if_pos hp] at hr; exact y17a hC _ _ _ _ _ _ _ hr
 ·rename_i hp; rw [if_neg hp] at hr; exact hC.i _ _ _ _ _ hr
theorem y1j0 (hC : CLe C C') (fb : Nat) (t : Tmps) (h : Heap) (op : COp) : Le (evOp E C fb t h op) (evOp E C' fb t h op) := by
 intro r hr
 cases op with
 | call sl ro f args => exact yfh hC _ _ _ _ _ _ _ hr
 | callv sl ro f args =>
  simp only [evOp] at hr ⊢
  split at hr
  ·exact yfh hC _ _ _ _ _ _ _ hr
  ·cases hr
 | _ => exact hr
theorem y7k (hC : CLe C C') (fb : Nat) (o : CI) (s : St) : Le (y2b E C fb o s) (y2b E C' fb o s) := by
 intro r hr
 unfold y2b at hr ⊢
 split at hr
 ·split at hr
  ·rename_i hv; rw [y1j0 hC _ _ _ _ _ hv]; exact hr
  ·cases hr
 ·exact hr
 ·cases hr
theorem y3r (hC : CLe C C') (fb : Nat) : ∀ (l : List CI) (s : St), Le (y36 E C fb l s) (y36 E C' fb l s)
 | [], _ => Le.refl _
 | o :: r, s => by
  intro x hx
  simp only [y36] at hx ⊢
  split at hx
  ·rename_i hs; rw [y7k hC _ _ _ _ hs]; exact y3r hC fb r _ _ hx
  ·cases hx
theorem y1nv (hC : CLe C C') (fb : Nat) (t : Tmps) (h : Heap) (op : COp) : Le (fpOf E C fb t h op) (fpOf E C' fb t h op) := by
 intro r hr
 cases op with
 | call sl ro f args =>
  simp only [fpOf] at hr ⊢
  split
  ·rename_i hp
   rw [if_pos hp] at hr
   split at hr
   ·cases hr
   ·split at hr
    ·cases hr
    ·rename_i q hq; rw [hC.p _ _ _ hq]; exact hr
  ·rename_i hp; rw [if_neg hp] at hr; cases hr
 | new sl _ => cases sl <;> exact hr
 | box sl _ => cases sl <;> exact hr
 | buildS sl _ _ _ _ => cases sl <;> exact hr
 | mkS sl _ _ _ _ _ => cases sl <;> exact hr
 | s2b sl _ => cases sl <;> exact hr
 | mkm sl => cases sl <;> exact hr
 | app sl _ _ _ _ => cases sl <;> exact hr
 | _ => exact hr
theorem y1mq (hC : CLe C C') (fb : Nat) (o : CI) (s : St) : Le (fpCI E C fb o s) (fpCI E C' fb o s) := by
 intro r hr
 unfold fpCI at hr ⊢
 split at hr
 ·exact y1nv hC _ _ _ _ _ hr
 ·exact hr
 ·cases hr
theorem y14b (hC : CLe C C') (fb : Nat) (o : CI) (s : St) : Le (fpB E C fb o s) (fpB E C' fb o s) := by
 intro r hr
 unfold fpB at hr ⊢
 split at hr
 ·exact hr
 ·exact y1mq hC _ _ _ _ hr
theorem yen (hC : CLe C C') (fb : Nat) : ∀ (l : List CI) (s : St), Le (y7o E C fb l s) (y7o E C' fb l s)
 | [], _ => Le.refl _
 | o :: r, s => by
  intro x hx
  simp only [y7o] at hx ⊢
  split at hx
  ·rename_i hf hs
   rw [y14b hC _ _ _ _ hf, y7k hC _ _ _ _ hs]
   split at hx
   ·rename_i hr; simp only [yen hC fb r _ _ hr]; exact hx
   ·cases hx
  ·cases hx
theorem yfo (hC : CLe C C') (fb : Nat) (ops : List CI) (pairs : List (Nat × Nat)) (s : St) : Le (y5n E C fb ops pairs s) (y5n E C' fb ops pairs s) := by
 intro x hx
 simp only [y5n] at hx ⊢
 split at hx
 ·rename_i hf; simp only [yen hC _ _ _ _ hf]; exact hx
 ·cases hx
section
variable {σ : Type} {same : σ → σ → Prop}
theorem yb2 {st st' : σ → AV × AV → Option σ} (hs : ∀ h p, Le (st h p) (st' h p)) : ∀ (es : List (AV × AV)) (h : σ), Le (mfold st es h) (mfold st' es h)
 | [], _ => fun _ hx => hx
 | p :: r, h => by
  intro x hx
  simp only [mfold] at hx ⊢
  split at hx
  ·rename_i h' hh
   rw [hs h p _ hh]
   exact yb2 hs r h' x hx
  ·cases hx
theorem yag {st : σ → AV × AV → Option σ} {fn : σ → Option σ} {es : List (AV × AV)} {h hf : σ} :
  mall same st fn es h = some hf ↔ (mfold st es h).bind fn = some hf ∧ ∀ π : List (AV × AV), π.Perm es → ∃ h', (mfold st π h).bind fn = some h' ∧ same h' hf := by
 unfold mall
 constructor
 ·intro hx
  split at hx
  ·rename_i hc
   obtain ⟨h1, e1, e2⟩ := hc
   rw [e1] at hx
   injection hx with hx
   subst hx
   exact ⟨e1, e2⟩
  ·cases hx
 ·rintro ⟨e1, e2⟩
  rw [if_pos ⟨hf, e1, e2⟩, e1]
theorem yan {st st' : σ → AV × AV → Option σ} {fn fn' : σ → Option σ} (hs : ∀ h p, Le (st h p) (st' h p)) (hf : ∀ h, Le (fn h) (fn' h)) (es : List (AV × AV)) (h : σ) : Le ((mfold st es h).bind fn) ((mfold st' es h).bind fn') := by
 intro x hx
 obtain ⟨h1, e1, e2⟩ := z2i.1 hx
 exact z2i.2 ⟨h1, yb2 hs es h _ e1, hf _ _ e2⟩
theorem yp7 {st st' : σ → AV × AV → Option σ} {fn fn' : σ → Option σ} (hs : ∀ h p, Le (st h p) (st' h p)) (hn : ∀ h, Le (fn h) (fn' h)) (es : List (AV × AV)) (h : σ) : Le (mall same st fn es h) (mall same st' fn' es h) := by
 intro hf hx
 rw [yag] at hx ⊢
 obtain ⟨e1, e2⟩ := hx
 refine ⟨yan hs hn es h _ e1, fun π hp => ?_⟩
 obtain ⟨h', f1, f2⟩ := e2 π hp
 exact ⟨h', yan hs hn π h _ f1, f2⟩
end
theorem yci {α : Type} : ∀ {l : List α} {i : Nat} {e : α}, l[i]? = some e → (e :: l.eraseIdx i).Perm l
 | [], _, _, h => by simp at h
 | a :: l, 0, e, h => by simp at h; subst h; exact .refl _
 | a :: l, i + 1, e, h => by
  have := yci (l := l) (i := i) (by simpa using h)
  exact (List.Perm.swap a e _).trans (this.cons a)
theorem y2ip {n : Nat} {Q : Nat → Nat → Prop} (hm : ∀ i k k', k ≤ k' → Q i k → Q i k') (h : ∀ i, i < n → ∃ k, Q i k) : ∃ K, ∀ i, i < n → Q i K := by
 induction n with
 | zero => exact ⟨0, fun i hi => by omega⟩
 | succ n ih =>
  obtain ⟨K, hK⟩ := ih fun i hi => h i (by omega)
  obtain ⟨k, hk⟩ := h n (by omega)
  refine ⟨max K k, fun i hi => ?_⟩
  by_cases e : i = n
  ·subst e; exact hm _ _ _ (z1s K k) hk
  ·exact hm _ _ _ (z1t K k) (hK i (by omega))
theorem ylo {α : Type} : ∀ (n : Nat) (es : List α), es.length = n → ∀ (Q : Nat → List α → Prop), (∀ k k' π, k ≤ k' → Q k π → Q k' π) → (∀ π : List α, π.Perm es → ∃ k, Q k π) → ∃ K, ∀ π : List α, π.Perm es → Q K π
 | 0, es, hn, Q, hm, h => by
  have : es = [] := List.eq_nil_of_length_eq_zero hn
  subst this
  obtain ⟨k, hk⟩ := h [] (.refl _)
  exact ⟨k, fun π hp => by rw [List.Perm.eq_nil hp]; exact hk⟩
 | n + 1, es, hn, Q, hm, h => by
  have step : ∀ i, i < n + 1 → ∃ K, ∀ e, es[i]? = some e → ∀ π : List α, π.Perm (es.eraseIdx i) → Q K (e :: π) := by
   intro i hi
   have hi' : i < es.length := by omega
   have he : es[i]? = some es[i] := z9 hi'
   have hl : (es.eraseIdx i).length = n := by rw [List.length_eraseIdx_of_lt hi']; omega
   obtain ⟨K, hK⟩ := ylo n (es.eraseIdx i) hl (fun k π => Q k (es[i] :: π)) (fun k k' π hle hq => hm _ _ _ hle hq) (fun π hp => h _ ((hp.cons _).trans (yci he)))
   refine ⟨K, fun e he2 π hp => ?_⟩
   rw [he] at he2
   injection he2 with he2
   subst he2
   exact hK π hp
  obtain ⟨K, hK⟩ := y2ip (Q := fun i K => ∀ e, es[i]? = some e → ∀ π : List α, π.Perm (es.eraseIdx i) → Q K (e :: π)) (fun i k k' hle hq e he π hp => hm _ _ _ hle (hq e he π hp)) step
  refine ⟨K, fun π hp => ?_⟩
  cases π with
  | nil => have := hp.length_eq; simp at this; omega
  | cons p π =>
   obtain ⟨i, hi⟩ := zz (hp.mem_iff.1 (z1h))
   have hil := (zb.1 hi).1
   exact hK i (by omega) p hi π ((hp.trans (yci hi).symm).cons_inv)
theorem y1jh {σ : Type} {same : σ → σ → Prop} {st : σ → AV × AV → Option σ} {sk : Nat → σ → AV × AV → Option σ} {fn : σ → Option σ} {fk : Nat → σ → Option σ} (hm : ∀ k k' h p, k ≤ k' → Le (sk k h p) (sk k' h p)) (hb : ∀ h p x, st h p = some x → ∃ k, sk k h p = some x)
  (hfm : ∀ k k' h, k ≤ k' → Le (fk k h) (fk k' h)) (hfb : ∀ h x, fn h = some x → ∃ k, fk k h = some x) {es : List (AV × AV)} {h hf : σ}
  (hx : mall same st fn es h = some hf) : ∃ k, mall same (sk k) (fk k) es h = some hf := by
 have one : ∀ (l : List (AV × AV)) (h h' : σ), mfold st l h = some h' → ∃ k, mfold (sk k) l h = some h' := by
  intro l
  induction l with
  | nil => exact fun h h' hh => ⟨0, hh⟩
  | cons p l ih =>
   intro h h' hh
   simp only [mfold] at hh
   split at hh
   ·rename_i h1 e1
    obtain ⟨k1, f1⟩ := hb _ _ _ e1
    obtain ⟨k2, f2⟩ := ih _ _ hh
    refine ⟨max k1 k2, ?_⟩
    simp only [mfold, hm _ _ _ _ (z1t k1 k2) _ f1]
    exact yb2 (fun h p => hm _ _ h p (z1s k1 k2)) l h1 _ f2
   ·cases hh
 have both : ∀ (l : List (AV × AV)) (h h' : σ), (mfold st l h).bind fn = some h' → ∃ k, (mfold (sk k) l h).bind (fk k) = some h' := by
  intro l h h' hh
  obtain ⟨h1, e1, e2⟩ := z2i.1 hh
  obtain ⟨k1, f1⟩ := one _ _ _ e1
  obtain ⟨k2, f2⟩ := hfb _ _ e2
  refine ⟨max k1 k2, z2i.2 ⟨h1, yb2 (fun h p => hm _ _ h p (z1t k1 k2)) l h _ f1, hfm _ _ _ (z1s k1 k2) _ f2⟩⟩
 rw [yag] at hx
 obtain ⟨e1, e2⟩ := hx
 obtain ⟨k0, f0⟩ := both _ _ _ e1
 obtain ⟨K, hK⟩ := ylo es.length es rfl (fun k π => ∃ h', (mfold (sk k) π h).bind (fk k) = some h' ∧ same h' hf) (fun k k' π hle hq => by
  obtain ⟨h', q1, q2⟩ := hq
  exact ⟨h', yan (fun h p => hm _ _ h p hle) (fun h => hfm _ _ h hle) π h _ q1, q2⟩) (fun π hp => by
  obtain ⟨h', q1, q2⟩ := e2 π hp
  obtain ⟨k, q3⟩ := both _ _ _ q1
  exact ⟨k, h', q3, q2⟩)
 refine ⟨max k0 K, ?_⟩
 rw [yag]
 refine ⟨yan (fun h p => hm _ _ h p (z1t k0 K)) (fun h => hfm _ _ h (z1t k0 K)) es h _ f0, fun π hp => ?_⟩
 obtain ⟨h', q1, q2⟩ := hK π hp
 exact ⟨h', yan (fun h p => hm _ _ h p (z1s k0 K)) (fun h => hfm _ _ h (z1s k0 K)) π h _ q1, q2⟩
theorem yf5 {x : Option (Res × St)} {s : St} (e : ynl x = some s) : x = some (.norm, s) := by
 unfold ynl at e
 split at e
 ·injection e with e
  rw [e]
 ·cases e
theorem y1yf {x y : Option (Res × St)} (h : Le x y) : Le (ynl x) (ynl y) := by
 intro q hq
 rw [h _ (yf5 hq), ynl]
theorem ymt (hC : CLe C C') {fb : Nat} {t0 : Tmps} {e : Nat} {cs : List CI} {run run' : St → Option (Res × St)} (hr : ∀ s, Le (run s) (run' s)) (h : Heap) (p : AV × AV) : Le (hstep E C fb t0 e cs run h p) (hstep E C' fb t0 e cs run' h p) := by
 intro q hq
 unfold hstep at hq ⊢
 split at hq
 ·rename_i s2 hs2
  rw [y3r hC _ _ _ _ hs2]
  simp only
  obtain ⟨s3, e1, e2⟩ := z1g.1 hq
  exact z1g.2 ⟨s3, y1yf (hr s2) _ e1, e2⟩
 ·cases hq
theorem yod {id g : Nat} {st st' : Heap → AV × AV → Option Heap} (hs : ∀ h p, Le (st h p) (st' h p)) (h : Heap) (p : AV × AV) : Le (ustep id g st h p) (ustep id g st' h p) := by
 intro q hq
 unfold ustep at hq ⊢
 split at hq
 ·split at hq
  ·exact hq
  ·split at hq
   ·rename_i h' hh
    rw [hs _ _ _ hh]
    exact hq
   ·cases hq
 ·cases hq
theorem y3o (hC : CLe C C') (hL : LLe L L') (fb : Nat) : ∀ (c : CCode) (s : St), Le (exec E C L fb c s) (exec E C' L' fb c s) := by
 intro c
 induction c with
 | skip => exact fun _ => Le.refl _
 | bad => exact fun _ => Le.refl _
 | region ops =>
  intro s x hx
  simp only [exec] at hx ⊢
  split at hx
  ·rename_i hr; rw [y3r hC _ _ _ _ hr]; exact hx
  ·cases hx
 | draw ops pairs =>
  intro s x hx
  simp only [exec] at hx ⊢
  by_cases hp : pairs.isEmpty = true
  ·simp only [hp, if_true] at hx ⊢
   split at hx
   ·rename_i hr; rw [y3r hC _ _ _ _ hr]; exact hx
   ·cases hx
  ·simp only [if_neg hp] at hx ⊢
   split at hx
   ·rename_i hr; rw [yfo hC _ _ _ _ _ hr]; exact hx
   ·cases hx
 | drawN k ops pairs =>
  intro s x hx
  simp only [exec] at hx ⊢
  split at hx
  ·rename_i hr; rw [yfo hC _ _ _ _ _ hr]; exact hx
  ·cases hx
 | seq a b iha ihb =>
  intro s x hx
  simp only [exec] at hx ⊢
  split at hx
  ·rename_i hr; rw [iha _ _ hr]; exact ihb _ _ hx
  ·rename_i r hne
   rw [iha _ _ hx]
   split
   ·rename_i s' he; exact (hne s' (hx.trans he)).elim
   ·rfl
 | cond c a b iha ihb =>
  intro s x hx
  simp only [exec] at hx ⊢
  split at hx
  ·split
   ·rename_i hb; rw [if_pos hb] at hx; exact iha _ _ hx
   ·rename_i hb; rw [if_neg hb] at hx; exact ihb _ _ hx
  ·cases hx
 | block id a iha =>
  intro s x hx
  simp only [exec] at hx ⊢
  split at hx
  ·rename_i hr; rw [iha _ _ hr]; exact hx
  ·rename_i r hne
   rw [iha _ _ hx]
   split
   ·rename_i id' s' he; exact (hne id' s' (hx.trans he)).elim
   ·rfl
 | loop live a _ => exact fun s => hL _ _ _ _
 | mrange pre x live car e cs a ts z iha ihz =>
  intro s y hx
  simp only [exec] at hx ⊢
  split at hx
  ·rename_i s1 hs1
   rw [y3r hC _ _ _ _ hs1]
   simp only
   split at hx
   ·rename_i id g es hv
    split at hx
    ·rename_i h' hh
     rw [yp7 (yod (ymt hC iha)) (fun _ => Le.refl _) _ _ _ hh]
     exact ihz _ _ hx
    ·cases hx
   ·cases hx
  ·cases hx
 | kill ks a iha =>
  intro s y hx
  simp only [exec] at hx ⊢
  split at hx
  ·rename_i r s1 hs1
   rw [iha s _ hs1]
   exact hx
  ·cases hx
 | exit id => exact fun _ => Le.refl _
 | ret => exact fun _ => Le.refl _
theorem ya4 (hC : CLe C C') (hL : LLe L L') (cf : CFunc) (args : List AV) (fb : Nat) (h : Heap) :
  Le (y4c E C L cf args fb h) (y4c E C' L' cf args fb h) := by
 intro x hx
 unfold y4c at hx ⊢
 split
 ·rename_i hp
  rw [if_pos hp] at hx
  split at hx
  ·rename_i hr; rw [y3o hC hL _ _ _ _ hr]; exact hx
  ·rename_i hr; rw [y3o hC hL _ _ _ _ hr]; exact hx
  ·cases hx
 ·rename_i hp; rw [if_neg hp] at hx; cases hx
theorem yfu (hC : CLe C C') (hL : LLe L L') (f : Nat) (args : List AV) : Le (y70 E C L f args) (y70 E C' L' f args) := by
 intro x hx
 unfold y70 at hx ⊢
 split
 ·rename_i hf; rw [hf] at hx; exact hx
 ·rename_i cf hf
  rw [hf] at hx
  simp only at hx
  split at hx
  ·rename_i hr; rw [ya4 hC hL _ _ _ _ _ hr]; exact hx
  ·cases hx
theorem ymj (hC : CLe C C') (hL : LLe L L') (f : Nat) (args : List AV) (fb : Nat) (h : Heap) : Le (yk4 E C L f args fb h) (yk4 E C' L' f args fb h) := by
 intro x hx
 unfold yk4 at hx ⊢
 split
 ·rename_i hf; rw [hf] at hx; exact hx
 ·rename_i cf hf
  rw [hf] at hx
  simp only at hx
  split
  ·rename_i hb; rw [if_pos hb] at hx; exact ya4 hC hL _ _ _ _ _ hx
  ·rename_i hb; rw [if_neg hb] at hx; exact ya4 hC hL _ _ _ _ _ hx
theorem yf9 (hC : CLe C C') (hL : LLe L L') : LLe (y5k E C L) (y5k E C' L') := by
 intro live a fb s x hx
 unfold y5k at hx ⊢
 split at hx
 ·rename_i hr; rw [y3o hC hL _ _ _ _ hr]; exact hL _ _ _ _ _ hx
 ·rename_i r hne
  rw [y3o hC hL _ _ _ _ hx]
  split
  ·rename_i s' he; exact (hne s' (hx.trans he)).elim
  ·rfl
theorem yq1 (E : Env) : ∀ k, CLe (both E k).1 (both E (k + 1)).1 ∧ LLe (both E k).2 (both E (k + 1)).2
 | 0 => ⟨⟨fun _ _ _ h => by simp [both] at h, fun _ _ _ _ _ h => by simp [both] at h⟩, fun _ _ _ _ _ h => by simp [both] at h⟩
 | k + 1 => by
  obtain ⟨hc, hl⟩ := yq1 E k
  exact ⟨⟨yfu hc hl, ymj hc hl⟩, yf9 hc hl⟩
theorem y2o (E : Env) {k k' : Nat} (h : k ≤ k') : CLe (both E k).1 (both E k').1 ∧ LLe (both E k).2 (both E k').2 := by
 induction h with
 | refl => exact ⟨⟨fun _ _ => Le.refl _, fun _ _ _ _ => Le.refl _⟩, fun _ _ _ _ => Le.refl _⟩
 | step _ ih =>
  obtain ⟨hc, hl⟩ := yq1 E _
  exact ⟨⟨fun f a => (ih.1.p f a).trans (hc.p f a), fun f a fb h => (ih.1.i f a fb h).trans (hc.i f a fb h)⟩,
   fun l a fb s => (ih.2 l a fb s).trans (hl l a fb s)⟩
theorem y1qx {α : Type} {f : Nat → Option α} (hm : ∀ k k', k ≤ k' → Le (f k) (f k')) (r : α) : lim f = some r ↔ ∃ k, f k = some r := by
 unfold lim
 constructor
 ·intro h
  split at h
  ·rename_i hex
   injection h with h
   subst h
   exact ⟨_, Classical.choose_spec (Classical.choose_spec hex)⟩
  ·cases h
 ·rintro ⟨k, hk⟩
  have hex : ∃ k r, f k = some r := ⟨k, r, hk⟩
  rw [dif_pos hex]
  have h2 := Classical.choose_spec (Classical.choose_spec hex)
  have a := hm k (max k (Classical.choose hex)) (z1t _ _) _ hk
  have b := hm (Classical.choose hex) (max k (Classical.choose hex)) (z1s _ _) _ h2
  rw [a] at b
  exact b.symm
theorem yek (f : Nat) (args : List AV) (r : Ex AV) : (yd E).p f args = some r ↔ ∃ k, (both E k).1.p f args = some r :=
 y1qx (fun _ _ h => (y2o E h).1.p f args) r
theorem yss (f : Nat) (args : List AV) (fb : Nat) (h : Heap) (r : AV × Heap) : (yd E).i f args fb h = some r ↔ ∃ k, (both E k).1.i f args fb h = some r :=
 y1qx (fun _ _ hk => (y2o E hk).1.i f args fb h) r
theorem ynm (live : List Nat) (a : CCode) (fb : Nat) (s : St) (r : Res × St) : y7b E live a fb s = some r ↔ ∃ k, (both E k).2 live a fb s = some r :=
 y1qx (fun _ _ hk => (y2o E hk).2 live a fb s) r
theorem yog (k : Nat) : CLe (both E k).1 (yd E) := ⟨fun _ _ _ h => (yek _ _ _).2 ⟨k, h⟩, fun _ _ _ _ _ h => (yss _ _ _ _ _).2 ⟨k, h⟩⟩
theorem yoq (k : Nat) : LLe (both E k).2 (y7b E) := fun _ _ _ _ _ h => (ynm _ _ _ _ _).2 ⟨k, h⟩
theorem y169 {fb : Nat} {sl : Option Nat} {ro : Bool} {f : Nat} {args : List AV} {h : Heap} {r : AV × Heap}
  (hr : y38 E (yd E) fb sl ro f args h = some r) : ∃ k, y38 E (both E k).1 fb sl ro f args h = some r := by
 unfold y38 at hr
 split at hr
 ·cases hr
 ·rename_i fa hfa
  split at hr
  ·cases hr
  ·rename_i q hq
   obtain ⟨k, hk⟩ := (yek _ _ _).1 hq
   refine ⟨k, ?_⟩
   unfold y38
   rw [hfa]
   simp only [hk]
   exact hr
theorem yfy {fb : Nat} {sl : Option Nat} {ro : Bool} {f : Nat} {args : List AV} {h : Heap} {r : AV × Heap}
  (hr : yc E (yd E) fb sl ro f args h = some r) : ∃ k, yc E (both E k).1 fb sl ro f args h = some r := by
 unfold yc at hr ⊢
 split at hr
 ·rename_i hp; simp only [if_pos hp]; exact y169 hr
 ·rename_i hp; simp only [if_neg hp]; exact (yss _ _ _ _ _).1 hr
theorem y1on {fb : Nat} {t : Tmps} {h : Heap} {op : COp} {r : AV × Heap} (hr : evOp E (yd E) fb t h op = some r) : ∃ k, evOp E (both E k).1 fb t h op = some r := by
 cases op with
 | call sl ro f args => exact yfy hr
 | callv sl ro f args =>
  simp only [evOp] at hr ⊢
  split at hr
  ·exact yfy hr
  ·cases hr
 | _ => exact ⟨0, hr⟩
theorem yj5 {fb : Nat} {o : CI} {s s' : St} (hr : y2b E (yd E) fb o s = some s') : ∃ k, y2b E (both E k).1 fb o s = some s' := by
 unfold y2b at hr ⊢
 split at hr
 ·split at hr
  ·rename_i hv
   obtain ⟨k, hk⟩ := y1on hv
   exact ⟨k, by rw [hk]; exact hr⟩
  ·cases hr
 ·exact ⟨0, hr⟩
 ·cases hr
theorem y65 {fb : Nat} : ∀ {l : List CI} {s s' : St}, y36 E (yd E) fb l s = some s' → ∃ k, y36 E (both E k).1 fb l s = some s'
 | [], _, _, h => ⟨0, h⟩
 | o :: r, s, s', h => by
  simp only [y36] at h
  split at h
  ·rename_i hs
   obtain ⟨k, hk⟩ := yj5 hs
   obtain ⟨k2, hk2⟩ := y65 h
   refine ⟨max k k2, ?_⟩
   simp only [y36]
   rw [y7k (y2o E (z1t k k2)).1 _ _ _ _ hk]
   exact y3r (y2o E (z1s k k2)).1 _ _ _ _ hk2
  ·cases h
theorem y1rc {fb : Nat} {t : Tmps} {h : Heap} {op : COp} {r : List Nat × List Nat} (hr : fpOf E (yd E) fb t h op = some r) : ∃ k, fpOf E (both E k).1 fb t h op = some r := by
 cases op with
 | call sl ro f args =>
  simp only [fpOf] at hr ⊢
  split at hr
  ·rename_i hp
   simp only [if_pos hp]
   split at hr
   ·cases hr
   ·split at hr
    ·cases hr
    ·rename_i q hq
     obtain ⟨k, hk⟩ := (yek _ _ _).1 hq
     exact ⟨k, by rw [hk]; exact hr⟩
  ·cases hr
 | new sl _ => cases sl <;> exact ⟨0, hr⟩
 | box sl _ => cases sl <;> exact ⟨0, hr⟩
 | buildS sl _ _ _ _ => cases sl <;> exact ⟨0, hr⟩
 | mkS sl _ _ _ _ _ => cases sl <;> exact ⟨0, hr⟩
 | s2b sl _ => cases sl <;> exact ⟨0, hr⟩
 | mkm sl => cases sl <;> exact ⟨0, hr⟩
 | app sl _ _ _ _ => cases sl <;> exact ⟨0, hr⟩
 | _ => exact ⟨0, hr⟩
theorem yks {fb : Nat} : ∀ {l : List CI} {s : St} {x : St × List (List Nat × List Nat)}, y7o E (yd E) fb l s = some x → ∃ k, y7o E (both E k).1 fb l s = some x
 | [], _, _, h => ⟨0, h⟩
 | o :: r, s, x, h => by
  simp only [y7o] at h
  split at h
  ·rename_i hf hs
   split at h
   ·rename_i hr
    obtain ⟨k1, hk1⟩ : ∃ k, fpB E (both E k).1 fb o s = some _ := by
     unfold fpB fpCI at hf ⊢
     split at hf
     ·exact ⟨0, hf⟩
     split at hf
     ·exact y1rc hf
     ·exact ⟨0, hf⟩
     ·cases hf
    obtain ⟨k2, hk2⟩ := yj5 hs
    obtain ⟨k3, hk3⟩ := yks hr
    refine ⟨max k1 (max k2 k3), ?_⟩
    simp only [y7o]
    rw [y14b (y2o E (z1t k1 (max k2 k3))).1 _ _ _ _ hk1,
     y7k (y2o E (z1o (z1t k2 k3) (z1s k1 _))).1 _ _ _ _ hk2]
    simp only [yen (y2o E (z1o (z1s k2 k3) (z1s k1 _))).1 _ _ _ _ hk3]
    exact h
   ·cases h
  ·cases h
theorem yfz {fb : Nat} {ops : List CI} {pairs : List (Nat × Nat)} {s s' : St} (h : y5n E (yd E) fb ops pairs s = some s') : ∃ k, y5n E (both E k).1 fb ops pairs s = some s' := by
 simp only [y5n] at h ⊢
 split at h
 ·rename_i hf
  obtain ⟨k, hk⟩ := yks hf
  exact ⟨k, by simp only [hk]; exact h⟩
 ·cases h
theorem yco {fb : Nat} : ∀ (c : CCode) {s : St} {x : Res × St}, exec E (yd E) (y7b E) fb c s = some x → ∃ k, exec E (both E k).1 (both E k).2 fb c s = some x := by
 intro c
 induction c with
 | skip => exact fun h => ⟨0, h⟩
 | bad => exact fun h => ⟨0, h⟩
 | region ops =>
  intro s x hx
  simp only [exec] at hx ⊢
  split at hx
  ·rename_i hr
   obtain ⟨k, hk⟩ := y65 hr
   exact ⟨k, by rw [hk]; exact hx⟩
  ·cases hx
 | draw ops pairs =>
  intro s x hx
  simp only [exec] at hx ⊢
  by_cases hp : pairs.isEmpty = true
  ·simp only [hp, if_true] at hx ⊢
   split at hx
   ·rename_i hr
    obtain ⟨k, hk⟩ := y65 hr
    exact ⟨k, by rw [hk]; exact hx⟩
   ·cases hx
  ·simp only [if_neg hp] at hx ⊢
   split at hx
   ·rename_i hr
    obtain ⟨k, hk⟩ := yfz hr
    exact ⟨k, by rw [hk]; exact hx⟩
   ·cases hx
 | drawN k ops pairs =>
  intro s x hx
  simp only [exec] at hx ⊢
  split at hx
  ·rename_i hr
   obtain ⟨k, hk⟩ := yfz hr
   exact ⟨k, by rw [hk]; exact hx⟩
  ·cases hx
 | seq a b iha ihb =>
  intro s x hx
  simp only [exec] at hx
  split at hx
  ·rename_i s' hr
   obtain ⟨k, hk⟩ := iha hr
   obtain ⟨k2, hk2⟩ := ihb hx
   refine ⟨max k k2, ?_⟩
   simp only [exec]
   rw [y3o (y2o E (z1t k k2)).1 (y2o E (z1t k k2)).2 _ _ _ _ hk]
   exact y3o (y2o E (z1s k k2)).1 (y2o E (z1s k k2)).2 _ _ _ _ hk2
  ·rename_i r hne
   obtain ⟨k, hk⟩ := iha hx
   refine ⟨k, ?_⟩
   simp only [exec]
   rw [hk]
   split
   ·rename_i s' he; exact (hne s' (hx.trans he)).elim
   ·rfl
 | cond c a b iha ihb =>
  intro s x hx
  simp only [exec] at hx ⊢
  split at hx
  ·rename_i bb hc
   cases bb with
   | true => obtain ⟨k, hk⟩ := iha hx; exact ⟨k, hk⟩
   | false => obtain ⟨k, hk⟩ := ihb hx; exact ⟨k, hk⟩
  ·cases hx
 | block id a iha =>
  intro s x hx
  simp only [exec] at hx
  split at hx
  ·rename_i hr
   obtain ⟨k, hk⟩ := iha hr
   exact ⟨k, by simp only [exec]; rw [hk]; exact hx⟩
  ·rename_i r hne
   obtain ⟨k, hk⟩ := iha hx
   refine ⟨k, ?_⟩
   simp only [exec]
   rw [hk]
   split
   ·rename_i id' s' he; exact (hne id' s' (hx.trans he)).elim
   ·rfl
 | loop live a _ => exact fun h => (ynm _ _ _ _ _).1 h
 | kill ks a iha =>
  intro s y hx
  simp only [exec] at hx
  split at hx
  ·rename_i r s1 hs1
   obtain ⟨k, hk⟩ := iha hs1
   refine ⟨k, ?_⟩
   simp only [exec]
   rw [hk]
   exact hx
  ·cases hx
 | mrange pre x live car e cs a ts z iha ihz =>
  intro s y hx
  simp only [exec] at hx
  split at hx
  ·rename_i s1 hs1
   obtain ⟨k0, h0⟩ := y65 hs1
   split at hx
   ·rename_i id g es hv
    split at hx
    ·rename_i h' hh
     obtain ⟨k1, h1⟩ := y1jh (sk := fun k => ustep id g (hstep E (both E k).1 fb (restrict live s1.t) e cs fun s2 => exec E (both E k).1 (both E k).2 fb a s2)) (fk := fun _ => y6q id g)
      (fun k k' h p hle => yod (ymt (y2o E hle).1 (fun _ => y3o (y2o E hle).1 (y2o E hle).2 _ _ _)) h p) (fun h p q hq => by
       unfold ustep at hq
       split at hq
       ·rename_i es1 hes1
        split at hq
        ·rename_i hf1
         exact ⟨0, by unfold ustep; rw [hes1]; simp only; rw [hf1]; exact hq⟩
        ·rename_i q1 hf1
         split at hq
         ·rename_i h2 hst
          unfold hstep at hst
          split at hst
          ·rename_i s2 hs2
           obtain ⟨k2, f2⟩ := y65 hs2
           obtain ⟨s3, e1, e2⟩ := z1g.1 hst
           obtain ⟨k3, f3⟩ := iha (yf5 e1)
           refine ⟨max k2 k3, ?_⟩
           unfold ustep
           rw [hes1]
           simp only
           rw [hf1]
           simp only
           unfold hstep
           rw [y3r (y2o E (z1t k2 k3)).1 _ _ _ _ f2]
           simp only
           rw [y3o (y2o E (z1s k2 k3)).1 (y2o E (z1s k2 k3)).2 _ _ _ _ f3, ynl, zw, e2]
           exact hq
          ·cases hst
         ·cases hq
       ·cases hq) (fun _ _ _ _ => Le.refl _) (fun _ x hq => ⟨0, hq⟩) hh
     obtain ⟨kz, hz⟩ := ihz hx
     have lm : ∀ {k}, k ≤ max kz (max k0 k1) → CLe (both E k).1 (both E (max kz (max k0 k1))).1 ∧ LLe (both E k).2 (both E (max kz (max k0 k1))).2 := fun hk => y2o E hk
     have l0 : k0 ≤ max kz (max k0 k1) := by omega
     have l1 : k1 ≤ max kz (max k0 k1) := by omega
     refine ⟨max kz (max k0 k1), ?_⟩
     simp only [exec]
     rw [y3r (lm l0).1 _ _ _ _ h0]
     simp only [hv]
     rw [yp7 (yod (ymt (lm l1).1 fun _ => y3o (lm l1).1 (lm l1).2 _ _ _)) (fun _ => Le.refl _) _ _ _ h1]
     exact y3o (lm (z1t _ _)).1 (lm (z1t _ _)).2 _ _ _ _ hz
    ·cases hx
   ·cases hx
  ·cases hx
 | exit id => exact fun h => ⟨0, h⟩
 | ret => exact fun h => ⟨0, h⟩
theorem yaw {cf : CFunc} {args : List AV} {fb : Nat} {h : Heap} {r : AV × Heap} (hx : y4c E (yd E) (y7b E) cf args fb h = some r) :
  ∃ k, y4c E (both E k).1 (both E k).2 cf args fb h = some r := by
 unfold y4c at hx ⊢
 split at hx
 ·rename_i hp
  simp only [if_pos hp]
  split at hx
  ·rename_i hr; obtain ⟨k, hk⟩ := yco _ hr; exact ⟨k, by rw [hk]; exact hx⟩
  ·rename_i hr; obtain ⟨k, hk⟩ := yco _ hr; exact ⟨k, by rw [hk]; exact hx⟩
  ·cases hx
 ·cases hx
theorem yu4 {α : Type} {a b : Option α} (h : ∀ r, a = some r ↔ b = some r) : a = b := by
 cases a with
 | none =>
  cases b with
  | none => rfl
  | some y => exact ((h y).2 rfl)
 | some x => exact ((h x).1 rfl).symm
theorem y16l (f : Nat) (args : List AV) : (yd E).p f args = y70 E (yd E) (y7b E) f args := by
 apply yu4
 intro r
 rw [yek]
 constructor
 ·rintro ⟨k, hk⟩
  cases k with
  | zero => simp [both] at hk
  | succ k => exact yfu (yog k) (yoq k) _ _ _ hk
 ·intro h
  suffices h2 : ∃ k, y70 E (both E k).1 (both E k).2 f args = some r by
   obtain ⟨k, hk⟩ := h2; exact ⟨k + 1, hk⟩
  unfold y70 at h ⊢
  split at h
  ·rename_i hf; exact ⟨0, by simpa [hf] using h⟩
  ·rename_i cf hf
   split at h
   ·rename_i hr; obtain ⟨k, hk⟩ := yaw hr; exact ⟨k, by simp only [hf, hk]; exact h⟩
   ·cases h
theorem y16o (f : Nat) (args : List AV) (fb : Nat) (h : Heap) : (yd E).i f args fb h = yk4 E (yd E) (y7b E) f args fb h := by
 apply yu4
 intro r
 rw [yss]
 constructor
 ·rintro ⟨k, hk⟩
  cases k with
  | zero => simp [both] at hk
  | succ k => exact ymj (yog k) (yoq k) _ _ _ _ _ hk
 ·intro hx
  suffices h2 : ∃ k, yk4 E (both E k).1 (both E k).2 f args fb h = some r by
   obtain ⟨k, hk⟩ := h2; exact ⟨k + 1, hk⟩
  unfold yk4 at hx ⊢
  split at hx
  ·rename_i hf; exact ⟨0, by simpa [hf] using hx⟩
  ·rename_i cf hf
   split at hx
   ·rename_i hb; obtain ⟨k, hk⟩ := yaw hx; exact ⟨k, by simp only [hf, if_pos hb]; exact hk⟩
   ·rename_i hb; obtain ⟨k, hk⟩ := yaw hx; exact ⟨k, by simp only [hf, if_neg hb]; exact hk⟩
theorem y1to (live : List Nat) (a : CCode) (fb : Nat) (s : St) : y7b E live a fb s = y5k E (yd E) (y7b E) live a fb s := by
 apply yu4
 intro r
 rw [ynm]
 constructor
 ·rintro ⟨k, hk⟩
  cases k with
  | zero => simp [both] at hk
  | succ k => exact yf9 (yog k) (yoq k) _ _ _ _ _ hk
 ·intro hx
  suffices h2 : ∃ k, y5k E (both E k).1 (both E k).2 live a fb s = some r by
   obtain ⟨k, hk⟩ := h2; exact ⟨k + 1, hk⟩
  unfold y5k at hx
  split at hx
  ·rename_i hr
   obtain ⟨k, hk⟩ := yco _ hr
   obtain ⟨k2, hk2⟩ := (ynm _ _ _ _ _).1 hx
   refine ⟨max k k2, ?_⟩
   unfold y5k
   rw [y3o (y2o E (z1t k k2)).1 (y2o E (z1t k k2)).2 _ _ _ _ hk]
   exact (y2o E (z1s k k2)).2 _ _ _ _ _ hk2
  ·rename_i x hne
   obtain ⟨k, hk⟩ := yco _ hx
   refine ⟨k, ?_⟩
   unfold y5k
   rw [hk]
   split
   ·rename_i s' he; exact (hne s' (hx.trans he)).elim
   ·rfl
end Go.Vm
/- The value machine: what its values and its heap say of the model's values and worlds. -/
namespace Go.Vm
open Go.RowKit
structure Loc where
 blk : Nat
 base : Nat
 es : Nat
 cap : Nat
 pin : Nat
abbrev MapT := Nat → Option (Nat × Loc)
def All2 {α β : Type} (R : α → β → Prop) : List α → List β → Prop
 | [], [] => True
 | a :: as, b :: bs => R a b ∧ All2 R as bs
 | _, _ => False
theorem All2.length {α β : Type} {R : α → β → Prop} : ∀ {as : List α} {bs : List β}, All2 R as bs → as.length = bs.length
 | [], [], _ => rfl
 | _ :: _, _ :: _, h => by rw [zl, zl, All2.length h.2]
 | [], _ :: _, h => h.elim
 | _ :: _, [], h => h.elim
theorem All2.get {α β : Type} {R : α → β → Prop} : ∀ {as : List α} {bs : List β}, All2 R as bs → ∀ {i : Nat} {a : α} {b : β}, as[i]? = some a → bs[i]? = some b → R a b
 | _ :: _, _ :: _, h, 0, _, _, h1, h2 => by simp at h1 h2; subst h1; subst h2; exact h.1
 | _ :: _, _ :: _, h, i + 1, _, _, h1, h2 => All2.get h.2 (i := i) (by simpa using h1) (by simpa using h2)
 | [], [], _, _, _, _, h1, _ => by simp at h1
 | [], _ :: _, h, _, _, _, _, _ => h.elim
 | _ :: _, [], h, _, _, _, _, _ => h.elim
theorem All2.of {α β : Type} {R : α → β → Prop} : ∀ {as : List α} {bs : List β}, as.length = bs.length → (∀ (i : Nat) (a : α) (b : β), as[i]? = some a → bs[i]? = some b → R a b) → All2 R as bs
 | [], [], _, _ => trivial
 | a :: as, b :: bs, hl, h => ⟨h 0 a b rfl rfl, All2.of (by simpa using hl) fun i x y h1 h2 => h (i + 1) x y (by simpa using h1) (by simpa using h2)⟩
 | [], _ :: _, h, _ => by cases h
 | _ :: _, [], h, _ => by cases h
theorem All2.mono {α β : Type} {R R' : α → β → Prop} {as : List α} {bs : List β} (h : All2 R as bs) (hr : ∀ a b, R a b → R' a b) : All2 R' as bs :=
 .of h.length fun _ _ _ h1 h2 => hr _ _ (h.get h1 h2)
def KR (p q : AV × AV) : Prop := p.1 ≠ q.1 ∧ ∃ agg ks r, y2f agg ks p.1 q.1 = some r
def y5i (R : Value → AV → Prop) (mes : Array MapEntry) (clock : Nat) (es : List (AV × AV)) : Prop :=
 ∃ ms : List MapEntry, ms.Perm mes.toList ∧ All2 (fun e p => R e.key p.1 ∧ R e.val p.2) ms es ∧ es.Pairwise KR ∧ (∀ e ∈ ms, e.born < clock) ∧ (ms.map (·.born)).Nodup
theorem y5i.mono {R R' : Value → AV → Prop} {mes : Array MapEntry} {clock : Nat} {es : List (AV × AV)} (h : y5i R mes clock es) (hr : ∀ v a, R v a → R' v a) : y5i R' mes clock es := by
 obtain ⟨ms, h1, h2, h3⟩ := h
 exact ⟨ms, h1, h2.mono fun e p h => ⟨hr _ _ h.1, hr _ _ h.2⟩, h3⟩
theorem y5i.size {R : Value → AV → Prop} {mes : Array MapEntry} {clock : Nat} {es : List (AV × AV)} (h : y5i R mes clock es) : mes.size = es.length := by
 obtain ⟨ms, h1, h2, _⟩ := h
 rw [← h2.length, h1.length_eq, z1e]
inductive PRep (nm : Nat → Option Nat) (w : World) (F : Nat → Prop) : Value → AV → Prop
 | int (k : IntKind) (n : Int) : PRep nm w F (.int k n) (.int k n)
 | bool (b : Bool) : PRep nm w F (.bool b) (.bool b)
 | str (s : ByteArray) : PRep nm w F (.string s) (.str s.data.toList)
 | nilp : PRep nm w F (.pointer none) .nilp
 | nils : PRep nm w F (.slice none 0 0) .nils
 | nilm : PRep nm w F (.map none) .nilm
 | rp (a : Addr) (cs : List AV) (f : Nat → Value) (hs : a.spot = none)
   (hc : ∀ j l, cs[j]? = some l → F a.block ∧ y19 l = true ∧ w.cell? ⟨a.block, a.off + j, none⟩ = some (f j))
   (hr : ∀ j l, cs[j]? = some l → PRep nm w F (f j) l) : PRep nm w F (.pointer (some a)) (.rp cs)
 | rs (a : Addr) (cap es : Nat) (rows : List (List AV)) (f : Nat → Nat → Value) (hs : rows ≠ [] → a.spot = none) (hcap : rows.length ≤ cap)
   (hes : ∀ (i : Nat) (row : List AV), rows[i]? = some row → row.length = es)
   (hc : ∀ (i : Nat) (row : List AV) (j : Nat) (l : AV), rows[i]? = some row → row[j]? = some l →
    F a.block ∧ y19 l = true ∧ w.cell? ⟨a.block, a.off + (i * es + j), none⟩ = some (f i j))
   (hr : ∀ (i : Nat) (row : List AV) (j : Nat) (l : AV), rows[i]? = some row → row[j]? = some l → PRep nm w F (f i j) l) :
   PRep nm w F (.slice (some a) rows.length cap) (.rs es rows)
 | rm (r : Nat) (mes : Array MapEntry) (clock : Nat) (ms : List MapEntry) (es : List (AV × AV)) (hF : F r) (hh : w.heap[r]? = some (.map mes clock)) (hp : ms.Perm mes.toList) (hn : ms.length = es.length)
   (hk : ∀ (i : Nat) (e : MapEntry) (p : AV × AV), ms[i]? = some e → es[i]? = some p → PRep nm w F e.key p.1)
   (hv : ∀ (i : Nat) (e : MapEntry) (p : AV × AV), ms[i]? = some e → es[i]? = some p → PRep nm w F e.val p.2)
   (hkr : es.Pairwise KR) (hb : ∀ e ∈ ms, e.born < clock) (hd : (ms.map (·.born)).Nodup) : PRep nm w F (.map (some r)) (.rm es)
 | agg (vs : Array Value) (cs : List AV) (hn : vs.size = cs.length)
   (hr : ∀ (j : Nat) (v : Value) (l : AV), vs[j]? = some v → cs[j]? = some l → PRep nm w F v l) : PRep nm w F (.agg vs) (.agg cs)
 | tup (vs : Array Value) (cs : List AV) (hn : vs.size = cs.length)
   (hr : ∀ (j : Nat) (v : Value) (l : AV), vs[j]? = some v → cs[j]? = some l → PRep nm w F v l) : PRep nm w F (.tuple vs) (.tup cs)
 | fn (f key : Nat) (h : nm f = some key) : PRep nm w F (.func (.func f) #[] #[]) (.fn key [])
inductive Rep (nm : Nat → Option Nat) (w : World) (F : Nat → Prop) (m : MapT) (G : List Nat) : Value → AV → Prop
 | pure {v : Value} {a : AV} (h : PRep nm w F v a) : Rep nm w F m G v a
 | undef (v : Value) : Rep nm w F m G v .undef
 | lp (id g i off : Nat) (loc : Loc) (hg : ∃ g0, G[id]? = some g0 ∧ g ≤ g0) (h : ∀ loc', m id = some (g, loc') → loc' = loc) :
   Rep nm w F m G (.pointer (some ⟨loc.blk, loc.base + i * loc.es + off, none⟩)) (.lp id g i off)
 | ls (id g es off len cap : Nat) (a : Addr) (loc : Loc) (hg : ∃ g0, G[id]? = some g0 ∧ g ≤ g0) (h : ∀ loc', m id = some (g, loc') → loc' = loc)
   (hb : a.block = loc.blk) (hs : a.spot = none) (he : loc.es = es) (ho : 0 < cap → a.off = loc.base + off * loc.es) (hc : off + cap ≤ loc.cap) (hl : len ≤ cap) :
   Rep nm w F m G (.slice (some a) len cap) (.ls id g es off len)
 | lm (id g : Nat) (loc : Loc) (hg : ∃ g0, G[id]? = some g0 ∧ g ≤ g0) (h : ∀ loc', m id = some (g, loc') → loc' = loc) :
   Rep nm w F m G (.map (some loc.blk)) (.lm id g)
 | agg (vs : Array Value) (cs : List AV) (hn : vs.size = cs.length)
   (hr : ∀ (j : Nat) (v : Value) (l : AV), vs[j]? = some v → cs[j]? = some l → Rep nm w F m G v l) : Rep nm w F m G (.agg vs) (.agg cs)
 | tup (vs : Array Value) (cs : List AV) (hn : vs.size = cs.length)
   (hr : ∀ (j : Nat) (v : Value) (l : AV), vs[j]? = some v → cs[j]? = some l → Rep nm w F m G v l) : Rep nm w F m G (.tuple vs) (.tup cs)
 | fn (f key : Nat) (caps : Array Value) (cs : List AV) (h : nm f = some key) (hn : caps.size = cs.length)
   (hr : ∀ (j : Nat) (v : Value) (l : AV), caps[j]? = some v → cs[j]? = some l → Rep nm w F m G v l) : Rep nm w F m G (.func (.func f) #[] caps) (.fn key cs)
def frOk (fr : Nat × Nat) (n : Nat) : Prop := ∀ x, x < n → ¬ (fr.1 ≤ x ∧ x < fr.2)
def gens (h : Heap) : List Nat := h.map (·.gen)
def ycf (nm : Nat → Option Nat) (w : World) (F : Nat → Prop) (m : MapT) (G : List Nat) (loc : Loc) : OC → Prop
 | .dead => False
 | .arr _ _ es rows => loc.es = es ∧ ∃ cs ty fr, w.heap[loc.blk]? = some (.cells cs ty fr) ∧ frOk fr cs.size ∧ loc.base + loc.cap * es ≤ cs.size ∧ rows.length ≤ loc.cap ∧
   ∀ (i : Nat) (row : List AV), rows[i]? = some row → row.length = es ∧ ∀ (j : Nat) (l : AV), row[j]? = some l →
    y19 l = true ∧ ∃ v, cs[loc.base + (i * es + j)]? = some v ∧ Rep nm w F m G v l
 | .map _ es => ∃ mes clock, w.heap[loc.blk]? = some (.map mes clock) ∧ y5i (Rep nm w F m G) mes clock es
 | .kmap es => ∃ mes, w.heap[loc.blk]? = some (.map mes loc.pin) ∧ y5i (Rep nm w F m G) mes loc.pin es
def OC.fz : OC → Bool
 | .arr _ fz _ _ => fz
 | .map fz _ => fz
 | .kmap _ => false
 | .dead => false
def OC.isDead : OC → Bool
 | .dead => true
 | _ => false
structure Inv (nm : Nat → Option Nat) (w : World) (F : Nat → Prop) (m : MapT) (h : Heap) : Prop where
 live : ∀ id g loc, m id = some (g, loc) → ∃ o, h[id]? = some ⟨g, o⟩ ∧ ycf nm w F m (gens h) loc o
 has : ∀ id g o, h[id]? = some ⟨g, o⟩ → o.isDead = false → ∃ loc, m id = some (g, loc)
 inj : ∀ id g loc id' g' loc', m id = some (g, loc) → m id' = some (g', loc') → loc.blk = loc'.blk → id = id'
 fz : ∀ id g loc o, m id = some (g, loc) → h[id]? = some ⟨g, o⟩ → (o.fz = true ↔ F loc.blk)
 bd : ∀ b, F b → b < w.heap.size
def owned (m : MapT) (b : Nat) : Prop := ∃ id g loc, m id = some (g, loc) ∧ loc.blk = b
def Kp (mes : Array MapEntry) (c : Nat) (o : Option Obj) : Prop := ∃ mes' c', o = some (.map mes' c') ∧ c ≤ c' ∧ ∀ x' ∈ mes'.toList, c ≤ x'.born ∨ ∃ x ∈ mes.toList, x.born = x'.born ∧ x.key = x'.key
theorem Kp.refl (mes : Array MapEntry) (c : Nat) : Kp mes c (some (.map mes c)) := ⟨mes, c, rfl, zi _, fun x hx => .inr ⟨x, hx, rfl, rfl⟩⟩
theorem Kp.of {mes : Array MapEntry} {c : Nat} {o : Option Obj} (h : o = some (.map mes c)) : Kp mes c o := h ▸ Kp.refl mes c
structure Tr (w : World) (F : Nat → Prop) (m : MapT) (G : List Nat) (w' : World) (F' : Nat → Prop) (m' : MapT) (G' : List Nat) : Prop where
 os : w'.os = w.os
 tape : w'.tape = w.tape
 output : w'.output = w.output
 size : w.heap.size ≤ w'.heap.size
 sub : ∀ b, F b → F' b
 same : ∀ b, b < w.heap.size → (¬ owned m b ∨ F b) → w'.heap[b]? = w.heap[b]?
 own : ∀ b, owned m' b → owned m b ∨ w.heap.size ≤ b
 new : ∀ b, F' b → F b ∨ owned m b ∨ w.heap.size ≤ b
 kp : ∀ (b : Nat) (mes : Array MapEntry) (c : Nat), w.heap[b]? = some (.map mes c) → Kp mes c w'.heap[b]?
 gl : ∀ (id g : Nat), G[id]? = some g → ∃ g' : Nat, G'[id]? = some g' ∧ g ≤ g'
 mp : ∀ (id g g0 : Nat) (loc : Loc), m' id = some (g, loc) → G[id]? = some g0 → g ≤ g0 → m id = some (g, loc)
theorem Tr.refl (w : World) (F : Nat → Prop) (m : MapT) (G : List Nat) : Tr w F m G w F m G :=
 ⟨rfl, rfl, rfl, zi _, fun _ h => h, fun _ _ _ => rfl, fun _ h => .inl h, fun _ h => .inl h, fun _ _ _ h => .of h, fun _ g h => ⟨g, h, zi _⟩, fun _ _ _ _ h _ _ => h⟩
theorem Tr.trans {w w1 w2 : World} {F F1 F2 : Nat → Prop} {m m1 m2 : MapT} {G G1 G2 : List Nat} (h : Tr w F m G w1 F1 m1 G1) (k : Tr w1 F1 m1 G1 w2 F2 m2 G2) : Tr w F m G w2 F2 m2 G2 where
 os := k.os.trans h.os
 tape := k.tape.trans h.tape
 output := k.output.trans h.output
 size := z1o h.size k.size
 kp b mes c hb := by
  obtain ⟨mes', c', h1, h2, h3⟩ := h.kp b mes c hb
  obtain ⟨mes2, c2, k1, k2, k3⟩ := k.kp b mes' c' h1
  refine ⟨mes2, c2, k1, z1o h2 k2, fun x hx => ?_⟩
  rcases k3 x hx with q | ⟨y, hy, q1, q2⟩
  ·exact .inl (z1o h2 q)
  ·rcases h3 y hy with q | ⟨z, hz, q3, q4⟩
   ·exact .inl (by omega)
   ·exact .inr ⟨z, hz, q3.trans q1, q4.trans q2⟩
 sub b hb := k.sub b (h.sub b hb)
 same b hb hc := by
  rw [k.same b (z2j hb h.size) ?_, h.same b hb hc]
  rcases hc with hc | hc
  ·refine .inl fun ho => ?_
   rcases h.own b ho with ho | ho
   ·exact hc ho
   ·omega
  ·exact .inr (h.sub b hc)
 own b hb := by
  rcases k.own b hb with hb | hb
  ·exact h.own b hb
  ·exact .inr (z1o h.size hb)
 new b hb := by
  rcases k.new b hb with hb | hb | hb
  ·exact h.new b hb
  ·rcases h.own b hb with hb | hb
   ·exact .inr (.inl hb)
   ·exact .inr (.inr hb)
  ·exact .inr (.inr (z1o h.size hb))
 gl id g hg := by
  obtain ⟨g1, h1, l1⟩ := h.gl id g hg
  obtain ⟨g2, h2, l2⟩ := k.gl id g1 h1
  exact ⟨g2, h2, z1o l1 l2⟩
 mp id g g0 loc hm hg hl := by
  obtain ⟨g1, h1, l1⟩ := h.gl id g0 hg
  exact h.mp id g g0 loc (k.mp id g g1 loc hm h1 (z1o hl l1)) hg hl
variable {nm : Nat → Option Nat}
theorem yds {w w' : World} {b : Nat} (h : w'.heap[b]? = w.heap[b]?) (o : Nat) : w'.cell? ⟨b, o, none⟩ = w.cell? ⟨b, o, none⟩ := by
 simp only [World.cell?, h]
theorem PRep.mono {w w' : World} {F F' : Nat → Prop} {v : Value} {a : AV} (h : PRep nm w F v a) (hw : ∀ b, F b → w'.heap[b]? = w.heap[b]?) (hF : ∀ b, F b → F' b) : PRep nm w' F' v a := by
 induction h with
 | int k n => exact .int k n
 | bool b => exact .bool b
 | str s => exact .str s
 | nilp => exact .nilp
 | nils => exact .nils
 | nilm => exact .nilm
 | rp a cs f hs hc hr ih =>
  refine .rp a cs f hs (fun j l hl => ?_) ih
  obtain ⟨h1, h2, h3⟩ := hc j l hl
  exact ⟨hF _ h1, h2, by rw [yds (hw _ h1)]; exact h3⟩
 | rs a cap es rows f hs hcap hes hc hr ih =>
  refine .rs a cap es rows f hs hcap hes (fun i row j l hi hl => ?_) ih
  obtain ⟨h1, h2, h3⟩ := hc i row j l hi hl
  exact ⟨hF _ h1, h2, by rw [yds (hw _ h1)]; exact h3⟩
 | rm r mes clock ms es hFr hh hp hn hk hv hkr hb hd ihk ihv => exact .rm r mes clock ms es (hF _ hFr) (by rw [hw _ hFr]; exact hh) hp hn ihk ihv hkr hb hd
 | agg vs cs hn hr ih => exact .agg vs cs hn ih
 | tup vs cs hn hr ih => exact .tup vs cs hn ih
 | fn f key h => exact .fn f key h
theorem Rep.mono {w w' : World} {F F' : Nat → Prop} {m m' : MapT} {G G' : List Nat} {v : Value} {a : AV} (h : Rep nm w F m G v a)
  (hw : ∀ b, F b → w'.heap[b]? = w.heap[b]?) (hF : ∀ b, F b → F' b) (hG : ∀ (id g : Nat), G[id]? = some g → ∃ g' : Nat, G'[id]? = some g' ∧ g ≤ g')
  (hm : ∀ (id g g0 : Nat) (loc : Loc), m' id = some (g, loc) → G[id]? = some g0 → g ≤ g0 → m id = some (g, loc)) : Rep nm w' F' m' G' v a := by
 have hg' : ∀ id g : Nat, (∃ g0 : Nat, G[id]? = some g0 ∧ g ≤ g0) → ∃ g0 : Nat, G'[id]? = some g0 ∧ g ≤ g0 := fun id g ⟨g0, h1, h2⟩ => by
  obtain ⟨g1, h3, h4⟩ := hG id g0 h1
  exact ⟨g1, h3, z1o h2 h4⟩
 induction h with
 | pure h => exact .pure (h.mono hw hF)
 | undef v => exact .undef v
 | lp id g i off loc hg h =>
  obtain ⟨g0, h1, h2⟩ := hg
  exact .lp id g i off loc (hg' _ _ ⟨g0, h1, h2⟩) fun loc' hl => h loc' (hm id g g0 loc' hl h1 h2)
 | ls id g es off len cap a loc hg h hb hs he ho hc hl =>
  obtain ⟨g0, h1, h2⟩ := hg
  exact .ls id g es off len cap a loc (hg' _ _ ⟨g0, h1, h2⟩) (fun loc' hl => h loc' (hm id g g0 loc' hl h1 h2)) hb hs he ho hc hl
 | lm id g loc hg h =>
  obtain ⟨g0, h1, h2⟩ := hg
  exact .lm id g loc (hg' _ _ ⟨g0, h1, h2⟩) fun loc' hl => h loc' (hm id g g0 loc' hl h1 h2)
 | agg vs cs hn hr ih => exact .agg vs cs hn ih
 | tup vs cs hn hr ih => exact .tup vs cs hn ih
 | fn f key caps cs h hn hr ih => exact .fn f key caps cs h hn ih
theorem Inv.blk_lt {w : World} {F : Nat → Prop} {m : MapT} {h : Heap} (I : Inv nm w F m h) {id g : Nat} {loc : Loc} (hm : m id = some (g, loc)) : loc.blk < w.heap.size := by
 obtain ⟨o, _, ho⟩ := I.live id g loc hm
 have key : ∀ x, w.heap[loc.blk]? = some x → loc.blk < w.heap.size := fun x hx => (zo.1 hx).1
 cases o with
 | dead => exact ho.elim
 | arr bx fz es rows => obtain ⟨_, cs, ty, fr, hb, _⟩ := ho; exact key _ hb
 | map fz es => obtain ⟨mes, clock, hb, _⟩ := ho; exact key _ hb
 | kmap es => obtain ⟨mes, hb, _⟩ := ho; exact key _ hb
theorem Rep.tr {w w' : World} {F F' : Nat → Prop} {m m' : MapT} {G G' : List Nat} {v : Value} {a : AV} (h : Rep nm w F m G v a) (hb : ∀ b, F b → b < w.heap.size)
  (T : Tr w F m G w' F' m' G') : Rep nm w' F' m' G' v a :=
 h.mono (fun b hF => T.same b (hb b hF) (.inr hF)) T.sub T.gl T.mp
theorem Inv.heap {w w' : World} {F : Nat → Prop} {m : MapT} {h : Heap} (I : Inv nm w F m h) (hw : w'.heap = w.heap) : Inv nm w' F m h where
 live id g loc hm := by
  obtain ⟨o, ho, hr⟩ := I.live id g loc hm
  refine ⟨o, ho, ?_⟩
  have hrep : ∀ v a, Rep nm w F m (gens h) v a → Rep nm w' F m (gens h) v a := fun v a hr =>
   hr.mono (fun b _ => by rw [hw]) (fun _ h => h) (fun _ g h => ⟨g, h, zi _⟩) (fun _ _ _ _ h _ _ => h)
  cases o with
  | dead => exact hr
  | arr bx fz es rows =>
   obtain ⟨h1, cs, ty, fr, h2, h3, h4, h5, h6⟩ := hr
   exact ⟨h1, cs, ty, fr, by rw [hw]; exact h2, h3, h4, h5, fun i row hi => ⟨(h6 i row hi).1, fun j l hl => by
    obtain ⟨a1, v, a2, a3⟩ := (h6 i row hi).2 j l hl
    exact ⟨a1, v, a2, hrep _ _ a3⟩⟩⟩
  | map fz es =>
   obtain ⟨mes, clock, h2, h3⟩ := hr
   exact ⟨mes, clock, by rw [hw]; exact h2, h3.mono hrep⟩
  | kmap es =>
   obtain ⟨mes, h2, h3⟩ := hr
   exact ⟨mes, by rw [hw]; exact h2, h3.mono hrep⟩
 has := I.has
 inj := I.inj
 fz := I.fz
 bd b hb := by rw [hw]; exact I.bd b hb
theorem Tr.heap {w w' : World} {F : Nat → Prop} {m : MapT} {G : List Nat} (hw : w'.heap = w.heap) (h1 : w'.os = w.os) (h2 : w'.tape = w.tape) (h3 : w'.output = w.output) : Tr w F m G w' F m G :=
 ⟨h1, h2, h3, by rw [hw]; exact zi _, fun _ h => h, fun _ _ _ => by rw [hw], fun _ h => .inl h, fun _ h => .inl h, fun _ _ _ h => .of (by rw [hw]; exact h), fun _ g h => ⟨g, h, zi _⟩, fun _ _ _ _ h _ _ => h⟩
theorem yvw {h : Heap} {id : Nat} {a : AO} : gens (h.set id a) = (gens h).set id a.gen := by
 simp [gens, List.map_set]
theorem y1n {h : Heap} {id : Nat} : (gens h)[id]? = (h[id]?).map (·.gen) := by simp [gens]
theorem ycf.of {w w' : World} {F F' : Nat → Prop} {m m' : MapT} {G G' : List Nat} {loc : Loc} {o : OC} (h : ycf nm w F m G loc o)
  (hb : w'.heap[loc.blk]? = w.heap[loc.blk]?) (hrep : ∀ v a, Rep nm w F m G v a → Rep nm w' F' m' G' v a) : ycf nm w' F' m' G' loc o := by
 cases o with
 | dead => exact h
 | arr bx fz es rows =>
  obtain ⟨h1, cs, ty, fr, h2, h3, h4, h5, h6⟩ := h
  exact ⟨h1, cs, ty, fr, hb.trans h2, h3, h4, h5, fun i row hi => ⟨(h6 i row hi).1, fun j l hl => by
   obtain ⟨a1, v, a2, a3⟩ := (h6 i row hi).2 j l hl
   exact ⟨a1, v, a2, hrep _ _ a3⟩⟩⟩
 | map fz es =>
  obtain ⟨mes, clock, h2, h3⟩ := h
  exact ⟨mes, clock, hb.trans h2, h3.mono hrep⟩
 | kmap es =>
  obtain ⟨mes, h2, h3⟩ := h
  exact ⟨mes, hb.trans h2, h3.mono hrep⟩
theorem ybc {w w' : World} {F : Nat → Prop} {m : MapT} {h h' : Heap} (I : Inv nm w F m h) {id g' : Nat} {o : OC} {loc : Loc}
  (hos : w'.os = w.os) (htape : w'.tape = w.tape) (hout : w'.output = w.output) (hsize : w.heap.size ≤ w'.heap.size)
  (hsame : ∀ b, b ≠ loc.blk → b < w.heap.size → w'.heap[b]? = w.heap[b]?)
  (hblk : w.heap.size ≤ loc.blk ∨ (∃ g0 loc0 o0, m id = some (g0, loc0) ∧ h[id]? = some ⟨g0, o0⟩ ∧ o0.fz = false ∧ loc0.blk = loc.blk))
  (hh : ∀ j, j ≠ id → h'[j]? = h[j]?) (hid : h'[id]? = some ⟨g', o⟩) (hfz : o.fz = false)
  (hgen : (∀ g0, (gens h)[id]? = some g0 → g0 < g') ∨ m id = some (g', loc)) (hkp : ∀ (mes : Array MapEntry) (c : Nat), w.heap[loc.blk]? = some (.map mes c) → Kp mes c w'.heap[loc.blk]?)
  (ho : ∀ m' : MapT, m' = (fun j => if j = id then some (g', loc) else m j) → (∀ v a, Rep nm w F m (gens h) v a → Rep nm w' F m' (gens h') v a) → ycf nm w' F m' (gens h') loc o) :
  ∃ m' : MapT, m' = (fun j => if j = id then some (g', loc) else m j) ∧ Inv nm w' F m' h' ∧ Tr w F m (gens h) w' F m' (gens h') := by
 have hFne : ∀ b, F b → b ≠ loc.blk := by
  intro b hb e
  subst e
  rcases hblk with hblk | ⟨g0, loc0, o0, h1, h2, h3, h4⟩
  ·have := I.bd _ hb; omega
  ·have := (I.fz id g0 loc0 o0 h1 h2).2 (by rw [h4]; exact hb); rw [h3] at this; cases this
 have hFsame : ∀ b, F b → w'.heap[b]? = w.heap[b]? := fun b hb => hsame b (hFne b hb) (I.bd b hb)
 have hgl : ∀ (j g : Nat), (gens h)[j]? = some g → ∃ g2 : Nat, (gens h')[j]? = some g2 ∧ g ≤ g2 := by
  intro j g hj
  by_cases e : j = id
  ·subst e
   refine ⟨g', by rw [y1n, hid]; rfl, ?_⟩
   rcases hgen with hgen | hgen
   ·exact Nat.le_of_lt (hgen _ hj)
   ·obtain ⟨o1, h1, _⟩ := I.live _ _ _ hgen
    rw [y1n, h1] at hj
    injection hj with hj
    exact Nat.le_of_eq hj.symm
  ·exact ⟨g, by rw [y1n, hh j e, ← y1n]; exact hj, zi _⟩
 have hmp : ∀ (j g g0 : Nat) (l : Loc), (fun j => if j = id then some (g', loc) else m j) j = some (g, l) → (gens h)[j]? = some g0 → g ≤ g0 → m j = some (g, l) := by
  intro j g g0 l hm hg hl
  simp only at hm
  by_cases e : j = id
  ·subst e
   rw [if_pos rfl] at hm
   injection hm with hm
   injection hm with h1 h2
   subst h1; subst h2
   rcases hgen with hgen | hgen
   ·have := hgen g0 hg; omega
   ·exact hgen
  ·rw [if_neg e] at hm; exact hm
 have hrep : ∀ v a, Rep nm w F m (gens h) v a → Rep nm w' F (fun j => if j = id then some (g', loc) else m j) (gens h') v a := fun v a hr =>
  hr.mono hFsame (fun _ h => h) hgl hmp
 have hown : ∀ j g l, j ≠ id → m j = some (g, l) → l.blk ≠ loc.blk := by
  intro j g l hj hm e
  rcases hblk with hblk | ⟨g0, loc0, o0, h1, h2, h3, h4⟩
  ·have := I.blk_lt hm; omega
  ·exact hj (I.inj j g l id g0 loc0 hm h1 (by rw [e, h4]))
 refine ⟨_, rfl, ⟨?_, ?_, ?_, ?_, ?_⟩, ⟨hos, htape, hout, hsize, fun _ h => h, ?_, ?_, fun _ h => .inl h, fun b mes c hb => ?_, hgl, hmp⟩⟩
 ·intro j g l hm
  by_cases e : j = id
  ·subst e
   rw [if_pos rfl] at hm
   injection hm with hm
   injection hm with h1 h2
   subst h1; subst h2
   exact ⟨o, hid, ho _ rfl hrep⟩
  ·rw [if_neg e] at hm
   obtain ⟨o1, h1, h2⟩ := I.live j g l hm
   exact ⟨o1, by rw [hh j e]; exact h1, h2.of (hsame _ (hown j g l e hm) (I.blk_lt hm)) hrep⟩
 ·intro j g o1 hj hd
  by_cases e : j = id
  ·subst e
   rw [hid] at hj
   injection hj with hj
   injection hj with h1 h2
   subst h1
   exact ⟨loc, by rw [if_pos rfl]⟩
  ·rw [if_neg e]
   rw [hh j e] at hj
   exact I.has j g o1 hj hd
 ·intro j g l j' g2 l2 hm hm2 hb
  by_cases e : j = id
  ·by_cases e2 : j' = id
   ·rw [e, e2]
   ·rw [if_pos e] at hm
    rw [if_neg e2] at hm2
    injection hm with hm
    injection hm with h1 h2
    subst h2
    exact (hown j' g2 l2 e2 hm2 hb.symm).elim
  ·by_cases e2 : j' = id
   ·rw [if_neg e] at hm
    rw [if_pos e2] at hm2
    injection hm2 with hm2
    injection hm2 with h1 h2
    subst h2
    exact (hown j g l e hm hb).elim
   ·rw [if_neg e] at hm
    rw [if_neg e2] at hm2
    exact I.inj j g l j' g2 l2 hm hm2 hb
 ·intro j g l o1 hm hj
  by_cases e : j = id
  ·subst e
   rw [if_pos rfl] at hm
   injection hm with hm
   injection hm with h1 h2
   subst h2
   rw [hid] at hj
   injection hj with hj
   injection hj with _ h3
   subst h3
   rw [hfz]
   exact ⟨fun hx => (zv hx).elim, fun hx => (hFne _ hx rfl).elim⟩
  ·rw [if_neg e] at hm
   rw [hh j e] at hj
   exact I.fz j g l o1 hm hj
 ·exact fun b hb => z2j (I.bd b hb) hsize
 ·intro b hb hc
  by_cases e : b = loc.blk
  ·subst e
   rcases hblk with hblk | ⟨g0, loc0, o0, h1, h2, h3, h4⟩
   ·omega
   ·rcases hc with hc | hc
    ·exact (hc ⟨id, g0, loc0, h1, h4⟩).elim
    ·exact (hFne _ hc rfl).elim
  ·exact hsame b e hb
 ·rintro b ⟨j, g, l, hm, hb⟩
  simp only at hm
  by_cases e : j = id
  ·rw [if_pos e] at hm
   injection hm with hm
   injection hm with h1 h2
   subst h2
   rcases hblk with hblk | ⟨g0, loc0, o0, h1, h2, h3, h4⟩
   ·exact .inr (by rw [← hb]; exact hblk)
   ·exact .inl ⟨id, g0, loc0, h1, h4.trans hb⟩
  ·rw [if_neg e] at hm
   exact .inl ⟨j, g, l, hm, hb⟩
 ·by_cases e : b = loc.blk
  ·subst e
   exact hkp mes c hb
  ·exact .of ((hsame b e (zo.1 hb).1).trans hb)
end Go.Vm
/- The value machine: when an operation of the translated program is one of the machine's. -/
namespace Go.Vm
def yd1 : Value → AV → Bool
 | .int k n, .int k' n' => k == k' && n == n'
 | .bool b, .bool b' => b == b'
 | .string s, .str l => s.data.toList == l
 | .pointer none, .nilp => true
 | .slice none 0 0, .nils => true
 | .map none, .nilm => true
 | _, _ => false
def yfi : List Value → List AV → Bool
 | [], [] => true
 | v :: vs, a :: as => yd1 v a && yfi vs as
 | _, _ => false
def yr0 : Value → AV → Bool
 | .agg vs, .agg cs => yfi vs.toList cs
 | .tuple vs, .tup cs => yfi vs.toList cs
 | v, a => yd1 v a
variable (P : Program) (nm : Nat → Option Nat)
def chkO : Operand → Opd → Bool
 | .tmp t, .t n => t == n
 | .const v, .c a => yr0 v a
 | .func f, .c (.fn key []) => nm f == some key
 | _, _ => false
def y93 : Option Operand → Option Opd → Bool
 | none, none => true
 | some x, some y => chkO nm x y
 | _, _ => false
def yo3 : List Operand → List Opd → Bool
 | [], [] => true
 | x :: xs, y :: ys => chkO nm x y && yo3 xs ys
 | _, _ => false
def y3w (t n : Nat) : Bool := match P.info? t with
 | some i => i.size == n
 | none => false
def yjz (t : Nat) (b : Bool) : Bool := match P.underlying t with
 | some (.struct _) => b
 | some (.array _ _) => b
 | some _ => !b
 | none => false
def ybn (t : Nat) (cs : List AV) : Bool := match P.info? t with
 | some i => match i.zero with
  | some z => yfi z.cells.toList cs
  | none => false
 | none => false
def ykl (t es : Nat) : Bool := match P.underlying t with
 | some (.slice e) => y3w P e es
 | _ => false
def y84 (place : Nat → Option (Nat × Nat)) : List (Nat × Operand) → List (Nat × Nat × Opd) → Bool
 | [], [] => true
 | (i, x) :: r, (off, n, y) :: r' => place i == some (off, n) && chkO nm x y && y84 place r r'
 | _, _ => false
def yh2 : List (Nat × Operand) → List (Nat × Opd) → Bool
 | [], [] => true
 | (i, x) :: r, (j, y) :: r' => i == j && chkO nm x y && yh2 r r'
 | _, _ => false
def yat (t : Nat) : Option Nat := match P.underlying t with
 | some (.int _) => some 0
 | some .bool => some 1
 | some .string => some 2
 | _ => none
def y5x : List Field → Nat → List Nat → Bool
 | [], _, [] => true
 | f :: fs, n, k :: ks => f.name != "_" && f.offset == n && yat P f.type == some k && y3w P f.type 1 && yjz P f.type false && y5x fs (n + 1) ks
 | _, _, _ => false
def y7g (t : Nat) (ks : List Nat) : Bool := match P.underlying t with
 | some (.struct fs) => y5x P fs.toList 0 ks && !(P.stoodInHeld t)
 | _ => false
def yj3 (t : Nat) (agg : Bool) (ks : List Nat) : Bool := if agg then y7g P t ks else match ks with
 | [k] => yat P t == some k
 | _ => false
def y177 (o : Oper) (c : COp) : Bool :=
 match o.op, c with
 | .move x, .mv y => chkO nm x y
 | .assign x, .mv y => chkO nm x y
 | .pick a b d, .pick a' b' d' => chkO nm a a' && chkO nm b b' && chkO nm d d'
 | .alloc t, .new _ cs => ybn P t cs
 | .box _ x, .box _ y => chkO nm x y
 | .build t ps, .build zero qs => ybn P t zero &&
  match P.underlying t with
  | some (.struct fs) => fs.toList.all (fun f => (P.info? f.type).isSome) &&
    y84 nm (fun i => (fs[i]?).map fun f => (f.offset, P.cellsOf f.type)) ps.toList qs
  | some (.array _ e) => (P.info? e).isSome && y84 nm (fun i => some (i * P.cellsOf e, P.cellsOf e)) ps.toList qs
  | _ => false
 | .buildSlice t len ps, .buildS _ es len' zero qs => len == len' && decide (len * es ≤ 2 ^ 24) && decide (0 < es) && yh2 nm ps.toList qs &&
  match P.underlying t with
  | some (.slice e) => y3w P e es && ybn P e zero
  | _ => false
 | .load t a, .ld agg n b => yjz P t agg && y3w P t n && (agg || n == 1) && chkO nm a b
 | .store t a v, .st n a' v' => y3w P t n && chkO nm a a' && chkO nm v v'
 | .nilCheck x, .nilchk y => chkO nm x y
 | .binOp op _ x y _, .bin op' x' y' => op == op' && chkO nm x x' && chkO nm y y'
 | .binOp op t x y _, .eqb neq x' y' => op == (if neq then .neq else .eql) && chkO nm x x' && chkO nm y y' &&
  (match P.underlying t with
   | some .bool => true
   | _ => false)
 | .binOp op t x y _, .eqn k neq x' y' => op == (if neq then .neq else .eql) && chkO nm x x' && chkO nm y y' &&
  (match P.underlying t with
   | some (.pointer _) => k == 0
   | some (.slice _) => k == 1
   | some (.map _ _) => k == 2
   | _ => false)
 | .unOp op _ x, .un op' y => op == op' && chkO nm x y
 | .convert s d x, .cvi k y => chkO nm x y && (P.underlying s).isSome && (match P.underlying d with
  | some (.int k') => k == k'
  | _ => false)
 | .convert s d x, .s2b _ y => chkO nm x y && (P.underlying s).isSome && (match P.underlying d with
  | some (.slice e) => (match P.underlying e with
   | some (.int .u8) => true
   | _ => false)
  | _ => false)
 | .makeSlice t l c, .mkS _ es bytes zero l' c' => chkO nm l l' && chkO nm c c' && decide (0 < es) &&
  (match P.underlying t with
   | some (.slice e) => y3w P e es && ybn P e zero && P.bytesOf e == bytes
   | _ => false)
 | .slice t x lo hi none, .slc es y lo' hi' => ykl P t es && chkO nm x y && y93 nm lo lo' && y93 nm hi hi'
 | .slice t x lo hi none, .sls y lo' hi' => (match P.underlying t with
  | some .string => true
  | _ => false) && chkO nm x y && y93 nm lo lo' && y93 nm hi hi'
 | .fieldAddr t x i, .fa off y => chkO nm x y && (match P.underlying t with
  | some (.struct fs) => (match fs[i]? with
   | some f => f.offset == off && (match P.info? f.type with
    | some ti => ti.size != 0
    | none => false)
   | none => false)
  | _ => false)
 | .indexAddr t x i, .ixs es y j => ykl P t es && chkO nm x y && chkO nm i j
 | .indexAddr t x i, .ixa len es y j => chkO nm x y && chkO nm i j && (match P.underlying t with
  | some (.array n e) => n == len && y3w P e es
  | _ => false)
 | .index t x i, .ixv agg len es y j => chkO nm x y && chkO nm i j && (match P.underlying t with
  | some (.array n e) => n == len && yjz P e agg && y3w P e es && (agg || es == 1)
  | _ => false)
 | .index t x i, .ixstr y j => chkO nm x y && chkO nm i j && (match P.underlying t with
  | some .string => true
  | _ => false)
 | .extract x i, .ext i' y => chkO nm x y && i == i'
 | .makeFunc (.func f) first caps, .mkf key caps' => nm f == some key && first.size == 0 && yo3 nm caps.toList caps'
 | .makeMap _ none, .mkm _ => true
 | .lookup t x k ok, .mget agg ks zero ok' y k' => ok == ok' && chkO nm x y && chkO nm k k' && (match P.underlying t with
  | some (.map kt e) => yj3 P kt agg ks && (match P.info? e with
   | some i => (match i.zero with
    | some z => yr0 z zero
    | none => false)
   | none => false)
  | _ => false)
 | .mapUpdate t m k v, .mput agg ks m' k' v' => chkO nm m m' && chkO nm k k' && chkO nm v v' && (match P.underlying t with
  | some (.map kt _) => yj3 P kt agg ks
  | _ => false)
 | .insert t m k v, .mput agg ks m' k' v' => chkO nm m m' && chkO nm k k' && chkO nm v v' && (match P.underlying t with
  | some (.map kt _) => yj3 P kt agg ks
  | _ => false)
 | .call { callee := .builtin .len, args, argTypes }, .len k y => (match args.toList, argTypes.toList with
  | [x], [t] => chkO nm x y && (match P.underlying t with
   | some .string => k == 0
   | some (.slice _) => k == 1
   | some (.map _ _) => k == 2
   | _ => false)
  | _, _ => false)
 | .call { callee := .builtin .append, args, argTypes }, .app _ es bytes x' y' => (match args.toList, argTypes.toList with
  | [x, y], [t, u] => chkO nm x x' && chkO nm y y' && decide (0 < es) && (match P.underlying u with
    | some (.int _) => false
    | some _ => true
    | none => false) && (match P.underlying t with
    | some (.slice e) => y3w P e es && P.bytesOf e == bytes && decide (0 < bytes) && (match P.info? e with
     | some i => i.zero.any fun z => z.cells.size == es
     | none => false)
    | _ => false)
  | _, _ => false)
 | .call { callee := .builtin .delete, args, argTypes }, .mdel agg ks x' y' => (match args.toList, argTypes.toList with
  | [x, y], t :: _ => chkO nm x x' && chkO nm y y' && (match P.underlying t with
   | some (.map kt _) => yj3 P kt agg ks
   | _ => false)
  | _, _ => false)
 | .call { callee := .builtin .max, args, .. }, .minmax isMax x' y' => isMax && (match args.toList with
  | [x, y] => chkO nm x x' && chkO nm y y'
  | _ => false)
 | .call { callee := .builtin .min, args, .. }, .minmax isMax x' y' => !isMax && (match args.toList with
  | [x, y] => chkO nm x x' && chkO nm y y'
  | _ => false)
 | .call { callee := .value (.func f), args, .. }, .call _ _ key args' => nm f == some key && yo3 nm args.toList args'
 | .call { callee := .value x, args, .. }, .callv _ _ y args' => chkO nm x y && yo3 nm args.toList args'
 | _, _ => false
variable {P nm} {w : World} {F : Nat → Prop} {m : MapT} {G : List Nat}
theorem ycw {v : Value} {a : AV} (h : yd1 v a = true) : PRep nm w F v a := by
 unfold yd1 at h
 split at h
 ·simp at h; obtain ⟨rfl, rfl⟩ := h; exact .int _ _
 ·simp at h; subst h; exact .bool _
 ·simp at h; subst h; exact .str _
 ·exact .nilp
 ·exact .nils
 ·exact .nilm
 ·cases h
theorem yb1 : ∀ {vs : List Value} {as : List AV}, yfi vs as = true → vs.length = as.length ∧ ∀ (j : Nat) (v : Value) (l : AV), vs[j]? = some v → as[j]? = some l → PRep nm w F v l
 | [], [], _ => ⟨rfl, fun j v l h => by simp at h⟩
 | v :: vs, a :: as, h => by
  simp only [yfi, zc] at h
  obtain ⟨h1, h2⟩ := yb1 h.2
  refine ⟨by simp [h1], fun j x l hx hl => ?_⟩
  cases j with
  | zero => simp at hx hl; subst hx; subst hl; exact ycw h.1
  | succ j => simp at hx hl; exact h2 j x l hx hl
 | [], _ :: _, h => by cases h
 | _ :: _, [], h => by cases h
theorem yme {v : Value} {a : AV} (h : yr0 v a = true) : PRep nm w F v a := by
 unfold yr0 at h
 split at h
 ·obtain ⟨h1, h2⟩ := yb1 (nm := nm) (w := w) (F := F) h
  exact .agg _ _ (by simpa using h1) (fun j v l hv hl => h2 j v l (by simpa using hv) hl)
 ·obtain ⟨h1, h2⟩ := yb1 (nm := nm) (w := w) (F := F) h
  exact .tup _ _ (by simpa using h1) (fun j v l hv hl => h2 j v l (by simpa using hv) hl)
 ·exact ycw h
def TRep (nm : Nat → Option Nat) (w : World) (F : Nat → Prop) (m : MapT) (G : List Nat) (a : Act) (t : Tmps) : Prop := ∀ i, Rep nm w F m G (a.tmps.getD i undef) (tget t i)
theorem yt {a : Act} {t : Tmps} (hT : TRep nm w F m G a t) {x : Operand} {y : Opd} (h : chkO nm x y = true) : Rep nm w F m G (a.eval x) (y.ev t) := by
 unfold chkO at h
 split at h
 ·simp at h; subst h; exact hT _
 ·exact .pure (yme h)
 ·simp at h; exact .pure (.fn _ _ h)
 ·cases h
theorem ydb {a : Act} {t : Tmps} (hT : TRep nm w F m G a t) : ∀ {xs : List Operand} {ys : List Opd}, yo3 nm xs ys = true →
  (xs.map a.eval).length = (ys.map (·.ev t)).length ∧ ∀ (j : Nat) (v : Value) (l : AV), (xs.map a.eval)[j]? = some v → (ys.map (·.ev t))[j]? = some l → Rep nm w F m G v l
 | [], [], _ => ⟨rfl, fun j v l h => by simp at h⟩
 | x :: xs, y :: ys, h => by
  simp only [yo3, zc] at h
  obtain ⟨h1, h2⟩ := ydb hT h.2
  refine ⟨by simpa using h1, fun j v l hv hl => ?_⟩
  cases j with
  | zero => simp at hv hl; subst hv; subst hl; exact yt hT h.1
  | succ j => simp at hv hl; exact h2 j v l (by simpa using hv) (by simpa using hl)
 | [], _ :: _, h => by cases h
 | _ :: _, [], h => by cases h
theorem Rep.int_inv {v : Value} {k : IntKind} {n : Int} (h : Rep nm w F m G v (.int k n)) : v = .int k n := by cases h with | pure h => cases h; rfl
theorem Rep.bool_inv {v : Value} {b : Bool} (h : Rep nm w F m G v (.bool b)) : v = .bool b := by cases h with | pure h => cases h; rfl
theorem Rep.str_inv {v : Value} {s : List UInt8} (h : Rep nm w F m G v (.str s)) : ∃ b : ByteArray, v = .string b ∧ b.data.toList = s := by
 cases h with | pure h => cases h; exact ⟨_, rfl, rfl⟩
theorem Rep.nilp_inv {v : Value} (h : Rep nm w F m G v .nilp) : v = .pointer none := by cases h with | pure h => cases h; rfl
theorem Rep.nils_inv {v : Value} (h : Rep nm w F m G v .nils) : v = .slice none 0 0 := by cases h with | pure h => cases h; rfl
theorem Rep.nilm_inv {v : Value} (h : Rep nm w F m G v .nilm) : v = .map none := by cases h with | pure h => cases h; rfl
theorem Rep.agg_inv {v : Value} {cs : List AV} (h : Rep nm w F m G v (.agg cs)) :
  ∃ vs : Array Value, v = .agg vs ∧ vs.size = cs.length ∧ ∀ (j : Nat) (v : Value) (l : AV), vs[j]? = some v → cs[j]? = some l → Rep nm w F m G v l := by
 cases h with
 | pure h => cases h with | agg vs cs hn hr => exact ⟨vs, rfl, hn, fun j v l h1 h2 => .pure (hr j v l h1 h2)⟩
 | agg vs cs hn hr => exact ⟨vs, rfl, hn, hr⟩
theorem Rep.tup_inv {v : Value} {cs : List AV} (h : Rep nm w F m G v (.tup cs)) :
  ∃ vs : Array Value, v = .tuple vs ∧ vs.size = cs.length ∧ ∀ (j : Nat) (v : Value) (l : AV), vs[j]? = some v → cs[j]? = some l → Rep nm w F m G v l := by
 cases h with
 | pure h => cases h with | tup vs cs hn hr => exact ⟨vs, rfl, hn, fun j v l h1 h2 => .pure (hr j v l h1 h2)⟩
 | tup vs cs hn hr => exact ⟨vs, rfl, hn, hr⟩
theorem Rep.leaf {v : Value} {a : AV} (h : Rep nm w F m G v a) (hl : y19 a = true) : v.oneCell' = true ∧ v.cells = #[v] ∧ cellsOf a = [a] := by
 cases h with
 | pure h => cases h <;> first | exact ⟨rfl, rfl, rfl⟩ | cases hl
 | undef => cases hl
 | lp => exact ⟨rfl, rfl, rfl⟩
 | ls => exact ⟨rfl, rfl, rfl⟩
 | lm => exact ⟨rfl, rfl, rfl⟩
 | agg => cases hl
 | tup => cases hl
 | fn => exact ⟨rfl, rfl, rfl⟩
theorem Rep.cells {v : Value} {a : AV} (h : Rep nm w F m G v a) (hl : (cellsOf a).all y19 = true) :
  v.cells.size = (cellsOf a).length ∧ (∀ (j : Nat) (x : Value) (l : AV), v.cells[j]? = some x → (cellsOf a)[j]? = some l → y19 l = true ∧ x.oneCell' = true ∧ Rep nm w F m G x l) := by
 by_cases ha : ∃ cs, a = .agg cs
 ·obtain ⟨cs, rfl⟩ := ha
  obtain ⟨vs, rfl, hn, hr⟩ := h.agg_inv
  refine ⟨hn, fun j x l hx hl2 => ?_⟩
  have h1 : y19 l = true := by
   rw [z19] at hl
   exact hl l (zs hl2)
  exact ⟨h1, ((hr j x l hx hl2).leaf h1).1, hr j x l hx hl2⟩
 ·have hc : cellsOf a = [a] := by
   cases a <;> first | rfl | exact (ha ⟨_, rfl⟩).elim
  rw [hc] at hl ⊢
  simp at hl
  obtain ⟨h1, h2, _⟩ := h.leaf hl
  rw [h2]
  refine ⟨rfl, fun j x l hx hl2 => ?_⟩
  cases j with
  | zero => simp at hx hl2; subst hx; subst hl2; exact ⟨hl, h1, h⟩
  | succ j => simp at hx
theorem yt4 {t n : Nat} (h : y3w P t n = true) : ∃ i, P.info? t = some i ∧ i.size = n := by
 unfold y3w at h
 split at h
 ·rename_i i hi; exact ⟨i, hi, by simpa using h⟩
 ·cases h
theorem y37 {t n : Nat} (h : y3w P t n = true) (w : World) : (sizeOf t).run P w = .ok n w := by
 obtain ⟨i, hi, hn⟩ := yt4 h
 simp [sizeOf, typeInfo, hi, hn]
theorem yaa {t : Nat} {i : TypeInfo} (h : P.info? t = some i) (w : World) : (typeInfo t).run P w = .ok i w := by simp [typeInfo, h]
theorem yf {t : Nat} {d : TypeDesc} (h : P.underlying t = some d) (w : World) : (underlying t).run P w = .ok d w := by simp [underlying, h]
theorem yh3 {t : Nat} {b : Bool} (h : yjz P t b = true) (w : World) : (isAgg t).run P w = .ok b w := by
 unfold yjz at h
 split at h
 ·rename_i fs hu; simp [isAgg, underlying, hu, h]
 ·rename_i n e hu; simp [isAgg, underlying, hu, h]
 ·rename_i d hne hne2 hu
  have : b = false := by simpa using h
  subst this
  simp only [isAgg, Sem.run_bind, yf hu, Result.andThen_ok]
  rfl
 ·cases h
theorem y8a {t : Nat} {cs : List AV} (h : ybn P t cs = true) : ∃ i z, P.info? t = some i ∧ i.zero = some z ∧ yfi z.cells.toList cs = true := by
 unfold ybn at h
 split at h
 ·rename_i i hi
  split at h
  ·rename_i z hz; exact ⟨i, z, hi, hz, h⟩
  ·cases h
 ·cases h
theorem y2u {t : Nat} {i : TypeInfo} {z : Value} (h : P.info? t = some i) (hz : i.zero = some z) (w : World) : (zeroValue t).run P w = .ok z w := by
 simp [zeroValue, typeInfo, h, hz]
theorem yjp {t es : Nat} (h : ykl P t es = true) : ∃ e, P.underlying t = some (.slice e) ∧ y3w P e es = true := by
 unfold ykl at h
 split at h
 ·rename_i e he; exact ⟨e, he, h⟩
 ·cases h
end Go.Vm
/- The value machine: new objects, loads and stores, against the model. -/
namespace Go.Vm
variable {P : Program} {nm : Nat → Option Nat} {w : World} {F : Nat → Prop} {m : MapT} {h : Heap}
def Does (nm : Nat → Option Nat) (w : World) (F : Nat → Prop) (m : MapT) (h : Heap) (r : Result Next) (x : AV × Heap) : Prop :=
 ∃ v w' F' m', (r = .ok (.value v) w' ∨ (v = undef ∧ r = .ok .skip w')) ∧ Inv nm w' F' m' x.2 ∧ Tr w F m (gens h) w' F' m' (gens x.2) ∧ Rep nm w' F' m' (gens x.2) v x.1
theorem Does.same (I : Inv nm w F m h) {r : Result Next} {v : Value} {a : AV} (hr : r = .ok (.value v) w) (hv : Rep nm w F m (gens h) v a) : Does nm w F m h r (a, h) :=
 ⟨v, w, F, m, .inl hr, I, Tr.refl _ _ _ _, hv⟩
theorem yhs {s : Sem Value} {w w' : World} {x : Value} (h : s.run P w = .ok x w') : (do pure (Next.value (← s)) : Sem Next).run P w = .ok (.value x) w' := by simp [h]
def LRep (nm : Nat → Option Nat) (w : World) (F : Nat → Prop) (m : MapT) (G : List Nat) (vs : List Value) (cs : List AV) : Prop :=
 vs.length = cs.length ∧ ∀ (j : Nat) (v : Value) (l : AV), vs[j]? = some v → cs[j]? = some l → Rep nm w F m G v l
theorem LRep.get {G : List Nat} {vs : List Value} {cs : List AV} (h : LRep nm w F m G vs cs) {j : Nat} {l : AV} (hl : cs[j]? = some l) : ∃ v, vs[j]? = some v ∧ Rep nm w F m G v l := by
 have hj : j < cs.length := (zb.1 hl).1
 have hv : vs[j]? = some (vs[j]'(by rw [h.1]; exact hj)) := z9 _
 exact ⟨_, hv, h.2 j _ l hv hl⟩
theorem y3u (b o n : Nat) : (⟨b, o, none⟩ : Addr).add n = ⟨b, o + n, none⟩ := by
 unfold Addr.add; split <;> simp_all
theorem y5v {a : Addr} (h : a.spot = none) : a = ⟨a.block, a.off, none⟩ := by cases a; simp at h; subst h; rfl
theorem yee {b o n : Nat} {cs : List AV} {G : List Nat} (hn : n ≤ cs.length)
  (hc : ∀ (j : Nat) (l : AV), j < n → cs[j]? = some l → ∃ v, w.cell? ⟨b, o + j, none⟩ = some v ∧ Rep nm w F m G v l) :
  ∃ vs : Array Value, (loadCells ⟨b, o, none⟩ n).run P w = .ok vs w ∧ LRep nm w F m G vs.toList (cs.take n) := by
 have hx : ∀ j, j < n → ∃ v, w.cell? ⟨b, o + j, none⟩ = some v := fun j hj => by
  obtain ⟨v, hv, _⟩ := hc j _ hj (z9 (by omega))
  exact ⟨v, hv⟩
 have h1 := run_loadCells (P := P) w ⟨b, o, none⟩ n (fun j => (w.cell? ⟨b, o + j, none⟩).getD undef) (fun j hj => by
  obtain ⟨v, hv⟩ := hx j hj
  rw [y3u, hv]; rfl)
 refine ⟨_, h1, by simp; omega, fun j v l hv hl => ?_⟩
 have hj : j < n := by
  have := (zb.1 hv).1
  simpa using this
 obtain ⟨v', hv', hr⟩ := hc j l hj (by rw [z1v] at hl; simpa [hj] using hl)
 have : v = v' := by
  simp [hj, hv'] at hv
  exact hv.symm
 rw [this]; exact hr
theorem yoy {b o : Nat} {v : Value} (hc : w.cell? ⟨b, o, none⟩ = some v) : (load ⟨b, o, none⟩).run P w = .ok v w := by
 rw [run_load, hc]
theorem yab {b o n t : Nat} {agg : Bool} {cs : List AV} {G : List Nat} {r : AV} (ha : yjz P t agg = true) (hs : y3w P t n = true) (h1 : (agg || n == 1) = true)
  (hr : y4w agg n cs = some r) (hc : ∀ (j : Nat) (l : AV), cs[j]? = some l → ∃ v, w.cell? ⟨b, o + j, none⟩ = some v ∧ Rep nm w F m G v l) :
  ∃ v, (loadVar t ⟨b, o, none⟩).run P w = .ok v w ∧ Rep nm w F m G v r := by
 simp only [loadVar, Sem.run_bind, yh3 ha, Result.andThen_ok]
 cases agg with
 | true =>
  simp only [y4w, if_true] at hr
  split at hr
  ·rename_i hn
   injection hr with hr
   subst hr
   obtain ⟨vs, hv, hl⟩ := yee (P := P) hn (fun j l _ hl => hc j l hl)
   refine ⟨.agg vs, ?_, .agg _ _ (by simpa using hl.1) (fun j v l a b => hl.2 j v l (by simpa using a) b)⟩
   simp only [if_true, Sem.run_bind, y37 hs, Result.andThen_ok, hv, Sem.run_pure]
  ·cases hr
 | false =>
  simp only [y4w, zp, if_false] at hr
  cases cs with
  | nil => cases hr
  | cons c cs =>
   simp at hr
   subst hr
   obtain ⟨v, hv, hrep⟩ := hc 0 c rfl
   refine ⟨v, ?_, hrep⟩
   simp only [zp, if_false]
   exact yoy hv
theorem y7s {id g : Nat} {fz : Bool} {es : Nat} {rows : List (List AV)} (hr : yr h id g = some (fz, es, rows)) : ∃ bx, h[id]? = some ⟨g, .arr bx fz es rows⟩ := by
 unfold yr y23 at hr
 cases ho : h[id]? with
 | none => rw [ho] at hr; cases hr
 | some o =>
  rw [ho] at hr
  obtain ⟨g0, c⟩ := o
  simp only at hr
  split at hr
  ·rename_i bx fz' es' rows' hg
   split at hg
   ·rename_i he
    injection hg with hg
    subst hg
    injection hr with hr
    injection hr with h1 h2
    injection h2 with h2 h3
    subst h1; subst h2; subst h3
    subst he
    exact ⟨bx, rfl⟩
   ·cases hg
  ·cases hr
theorem y7f {id g : Nat} {fz : Bool} {es : List (AV × AV)} (hr : y6l h id g = some (fz, es)) : h[id]? = some ⟨g, .map fz es⟩ := by
 unfold y6l y23 at hr
 cases ho : h[id]? with
 | none => rw [ho] at hr; cases hr
 | some o =>
  rw [ho] at hr
  obtain ⟨g0, c⟩ := o
  simp only at hr
  split at hr
  ·rename_i fz' es' hg
   split at hg
   ·rename_i he
    injection hg with hg
    subst hg
    injection hr with hr
    injection hr with h1 h2
    subst h1; subst h2; subst he
    rfl
   ·cases hg
  ·cases hr
theorem Inv.rows (I : Inv nm w F m h) {id g : Nat} {fz : Bool} {es : Nat} {rows : List (List AV)} (hr : yr h id g = some (fz, es, rows)) :
  ∃ loc, m id = some (g, loc) ∧ loc.es = es ∧ rows.length ≤ loc.cap ∧ ∃ cs ty fr, w.heap[loc.blk]? = some (.cells cs ty fr) ∧ frOk fr cs.size ∧ loc.base + loc.cap * es ≤ cs.size ∧
   ∀ (i : Nat) (row : List AV), rows[i]? = some row → row.length = es ∧ ∀ (j : Nat) (l : AV), row[j]? = some l →
    y19 l = true ∧ ∃ v, cs[loc.base + (i * es + j)]? = some v ∧ w.cell? ⟨loc.blk, loc.base + (i * es + j), none⟩ = some v ∧ Rep nm w F m (gens h) v l := by
 obtain ⟨bx, ho⟩ := y7s hr
 obtain ⟨loc, hm⟩ := I.has id g _ ho rfl
 obtain ⟨o, ho2, hrep⟩ := I.live id g loc hm
 rw [ho] at ho2
 injection ho2 with ho2
 injection ho2 with _ ho2
 subst ho2
 obtain ⟨h1, cs, ty, fr, h2, h3, h4, h5, h6⟩ := hrep
 refine ⟨loc, hm, h1, h5, cs, ty, fr, h2, h3, h4, fun i row hi => ⟨(h6 i row hi).1, fun j l hl => ?_⟩⟩
 obtain ⟨a1, v, a2, a3⟩ := (h6 i row hi).2 j l hl
 exact ⟨a1, v, a2, by simp [World.cell?, h2, a2], a3⟩
theorem Rep.lp_at {G : List Nat} {v : Value} {id g i off : Nat} {loc : Loc} (hr : Rep nm w F m G v (.lp id g i off)) (hm : m id = some (g, loc)) :
  v = .pointer (some ⟨loc.blk, loc.base + i * loc.es + off, none⟩) := by
 cases hr with
 | pure h => cases h
 | lp _ _ _ _ loc' hg hl => rw [hl loc hm]
theorem Rep.lp_inv {G : List Nat} {v : Value} {id g i off : Nat} (hr : Rep nm w F m G v (.lp id g i off)) :
  ∃ loc, v = .pointer (some ⟨loc.blk, loc.base + i * loc.es + off, none⟩) ∧ (∃ g0, G[id]? = some g0 ∧ g ≤ g0) ∧ (∀ loc', m id = some (g, loc') → loc' = loc) := by
 cases hr with
 | pure h => cases h
 | lp _ _ _ _ loc' hg hl => exact ⟨loc', rfl, hg, hl⟩
theorem Rep.rp_inv {G : List Nat} {v : Value} {cs : List AV} (hr : Rep nm w F m G v (.rp cs)) :
  ∃ b o, v = .pointer (some ⟨b, o, none⟩) ∧ ∀ (j : Nat) (l : AV), cs[j]? = some l → ∃ x, F b ∧ y19 l = true ∧ w.cell? ⟨b, o + j, none⟩ = some x ∧ PRep nm w F x l := by
 cases hr with
 | pure h => cases h with
  | rp a _ f hs hc hr => exact ⟨a.block, a.off, by rw [y5v hs], fun j l hl => ⟨f j, (hc j l hl).1, (hc j l hl).2.1, (hc j l hl).2.2, hr j l hl⟩⟩
theorem ymd (I : Inv nm w F m h) {t n : Nat} {agg : Bool} {av : AV} {v : Value} {r : AV} (ha : yjz P t agg = true) (hs : y3w P t n = true) (h1 : (agg || n == 1) = true)
  (hv : Rep nm w F m (gens h) v av) (hr : evLd agg n av h = some r) : ∃ x, (Instr.loadAt t v).run P w = .ok x w ∧ Rep nm w F m (gens h) x r := by
 unfold evLd at hr
 split at hr
 ·rename_i cs
  obtain ⟨b, o, rfl, hc⟩ := hv.rp_inv
  obtain ⟨x, hx, hrep⟩ := yab (P := P) ha hs h1 hr (fun j l hl => by
   obtain ⟨x, _, _, a2, a3⟩ := hc j l hl
   exact ⟨x, a2, Rep.pure (m := m) (G := gens h) a3⟩)
  exact ⟨x, by simpa [Instr.loadAt, Instr.sureAddr] using hx, hrep⟩
 ·rename_i id g i off
  split at hr
  ·rename_i fz es rows hrows
   split at hr
   ·rename_i row hrow
    obtain ⟨loc, hm, he, hcap, cs, ty, fr, hb, _, _, hcell⟩ := I.rows hrows
    have hp := hv.lp_at hm
    subst hp
    obtain ⟨x, hx, hrep⟩ := yab (P := P) (b := loc.blk) (o := loc.base + i * loc.es + off) ha hs h1 hr (fun j l hl => by
     rw [z1l] at hl
     obtain ⟨_, x, _, a2, a3⟩ := (hcell i row hrow).2 (off + j) l hl
     refine ⟨x, ?_, a3⟩
     rw [he, z33, z33]; exact a2)
    exact ⟨x, by simpa [Instr.loadAt, Instr.sureAddr] using hx, hrep⟩
   ·cases hr
  ·cases hr
 ·cases hr
def y2y (w : World) (b : Nat) (o : Obj) : World := { w with heap := w.heap.setIfInBounds b o }
theorem y35 (w : World) (b : Nat) (o : Obj) (k : Nat) : (y2y w b o).heap[k]? = if b = k ∧ k < w.heap.size then some o else w.heap[k]? := by
 simp only [y2y, z11]
 split
 ·rename_i h; subst h
  split
  ·simp [*]
  ·rename_i h; simp [h]
 ·rename_i h; simp [h]
def y43 (cs : Array Value) (o : Nat) (vs : List Value) : Array Value := (cs.toList.take o ++ vs ++ cs.toList.drop (o + vs.length)).toArray
theorem yas {cs : Array Value} {o : Nat} {vs : List Value} (hl : o + vs.length ≤ cs.size) : (y43 cs o vs).size = cs.size := by
 simp [y43]; omega
theorem y67 {cs : Array Value} {o : Nat} {vs : List Value} (hl : o + vs.length ≤ cs.size) (k : Nat) :
  (y43 cs o vs)[k]? = if k < o then cs[k]? else if k < o + vs.length then vs[k - o]? else cs[k]? := by
 simp only [y43, List.getElem?_toArray]
 rw [z1j]
 simp only [zg, z3e, z1e]
 have hm : min o cs.size = o := by omega
 rw [hm]
 by_cases h1 : k < o
 ·rw [if_pos (by omega), z1j, if_pos (by simp; omega), z1v, if_pos h1, if_pos h1]; simp
 ·rw [if_neg h1]
  by_cases h2 : k < o + vs.length
  ·rw [if_pos h2, if_pos h2, z1j, if_neg (by simp; omega)]; simp [hm]
  ·rw [if_neg h2, if_neg h2, z1l]
   rw [show o + vs.length + (k - (o + vs.length)) = k by omega]; simp
theorem y15p {w : World} {b o : Nat} {cs : Array Value} {ty : TypeId} {fr : Nat × Nat} (hb : w.heap[b]? = some (.cells cs ty fr)) (v : Value) :
  w.setCell ⟨b, o, none⟩ v = y2y w b (.cells (cs.setIfInBounds o v) ty fr) := by
 have hlt : b < w.heap.size := (zo.1 hb).1
 unfold World.setCell y2y
 congr 1
 apply z37
 intro k
 rw [z2u, z11]
 by_cases hk : b = k
 ·subst hk
  have hv : w.heap[b] = .cells cs ty fr := (zo.1 hb).2
  simp [hlt, hv]
 ·simp [hk]
theorem yn7 (w : World) (b : Nat) (o o' : Obj) : y2y (y2y w b o) b o' = y2y w b o' := by
 unfold y2y
 congr 1
 apply z37
 intro k
 simp only [z11, z3k]
 split <;> rfl
theorem y3s {b : Nat} {ty : TypeId} {fr : Nat × Nat} : ∀ (vs : List Value) (o i : Nat) (cs : Array Value) (w : World), w.heap[b]? = some (.cells cs ty fr) →
  frOk fr cs.size → o + i + vs.length ≤ cs.size → (∀ v ∈ vs, v.oneCell' = true) →
  (storeCells ⟨b, o, none⟩ vs i).run P w = .ok () (y2y w b (.cells (y43 cs (o + i) vs) ty fr))
 | [], o, i, cs, w, hb, _, _, _ => by
  have : y2y w b (.cells (y43 cs (o + i) []) ty fr) = w := by
   have : y43 cs (o + i) [] = cs := by simp [y43]
   rw [this]
   unfold y2y
   cases w with
   | mk heap tape drawn os output =>
    congr 1
    apply z37
    intro k
    rw [z11]
    split
    ·rename_i hk; subst hk; split
     ·exact hb.symm
     ·rename_i hk; simp [hk]
    ·rfl
  rw [this]
  rfl
 | v :: rest, o, i, cs, w, hb, hfr, hl, h1 => by
  have hi : o + i < cs.size := by simp at hl; omega
  have hcell : w.cell? ⟨b, o + i, none⟩ = some cs[o + i] := by simp [World.cell?, hb, hi]
  have hfro : w.frozen? ⟨b, o + i, none⟩ = false := by
   have := hfr (o + i) hi
   simp only [World.frozen?, hb]
   simpa using this
  have hst : (store ((⟨b, o, none⟩ : Addr).add i) v).run P w = .ok () (w.setCell ⟨b, o + i, none⟩ v) := by
   rw [y3u, run_store P w _ v _ (h1 v (by simp)), hcell]
   simp [hfro]
  have hlt : b < w.heap.size := (zo.1 hb).1
  have ih := y3s (b := b) (ty := ty) (fr := fr) rest o (i + 1) (cs.setIfInBounds (o + i) v) (y2y w b (.cells (cs.setIfInBounds (o + i) v) ty fr))
   (by rw [y35]; simp [hlt]) (by rw [z3k]; exact hfr) (by rw [z3k]; simp at hl; omega) (fun x hx => h1 x (by simp [hx]))
  simp only [storeCells, Sem.run_bind, hst, Result.andThen_ok]
  rw [y15p hb, ih, yn7]
  congr 3
  apply z37
  intro k
  rw [y67 (by simp at hl ⊢; omega), y67 (by simp at hl ⊢; omega)]
  simp only [z11, List.length_cons]
  by_cases hk : k < o + i
  ·rw [if_pos hk, if_pos (by omega), if_neg (by omega)]
  ·rw [if_neg hk]
   by_cases hk2 : k = o + i
   ·subst hk2; simp [hi]
   ·have : ¬ k < o + (i + 1) := by omega
    rw [if_neg this]
    by_cases hk3 : k < o + i + (rest.length + 1)
    ·rw [if_pos (by omega), if_pos hk3, show k - (o + i) = (k - (o + (i + 1))) + 1 by omega]; simp
    ·rw [if_neg (by omega), if_neg hk3, if_neg (by omega)]
theorem y16p (I : Inv nm w F m h) {id g : Nat} {bx : Bool} {es : Nat} {rows rows' : List (List AV)} {loc : Loc} {cs : Array Value} {ty : TypeId} {fr : Nat × Nat} {o : Nat} {vs : List Value}
  (ho : h[id]? = some ⟨g, .arr bx false es rows⟩) (hm : m id = some (g, loc)) (hb : w.heap[loc.blk]? = some (.cells cs ty fr)) (hl : o + vs.length ≤ cs.size)
  (hrows : rows'.length ≤ loc.cap)
  (hcell : ∀ (i : Nat) (row : List AV), rows'[i]? = some row → row.length = es ∧ ∀ (j : Nat) (l : AV), row[j]? = some l →
   y19 l = true ∧ ∃ v, (y43 cs o vs)[loc.base + (i * es + j)]? = some v ∧ Rep nm w F m (gens h) v l) :
  Inv nm (y2y w loc.blk (.cells (y43 cs o vs) ty fr)) F m (y2j h id rows') ∧
   Tr w F m (gens h) (y2y w loc.blk (.cells (y43 cs o vs) ty fr)) F m (gens (y2j h id rows')) := by
 have hlt : loc.blk < w.heap.size := (zo.1 hb).1
 obtain ⟨o1, ho1, hrep1⟩ := I.live id g loc hm
 rw [ho] at ho1
 injection ho1 with ho1
 injection ho1 with _ ho1
 subst ho1
 obtain ⟨h1, cs2, ty2, fr2, h2, h3, h4, h5, h6⟩ := hrep1
 rw [hb] at h2
 injection h2 with h2
 injection h2 with e1 e2 e3
 subst e1; subst e2; subst e3
 have hsr : y2j h id rows' = h.set id ⟨g, .arr bx false es rows'⟩ := by unfold y2j; rw [ho]
 have hidl : id < h.length := (zb.1 ho).1
 have hgens : gens (y2j h id rows') = gens h := by
  rw [hsr, yvw]
  apply z1r
  intro k
  rw [zu]
  split
  ·rename_i e; subst e; rw [y1n, ho]; simp [gens, hidl]
  ·rfl
 obtain ⟨m', hm', hI, hT⟩ := ybc (w' := y2y w loc.blk (.cells (y43 cs o vs) ty fr)) (h' := y2j h id rows') (g' := g) (o := .arr bx false es rows') (loc := loc) (id := id) I
  rfl rfl rfl (by simp [y2y]) (fun b hne _ => by rw [y35, if_neg (fun e => hne e.1.symm)]) (.inr ⟨g, loc, _, hm, ho, rfl, rfl⟩)
  (fun j hj => by rw [hsr, z17 (fun e => hj e.symm)]) (by rw [hsr]; simp [hidl]) rfl (.inr hm) (fun _ _ hq => by rw [hb] at hq; cases hq)
  (fun m' hm' hrep => ⟨h1, y43 cs o vs, ty, fr, by rw [y35]; simp [hlt], by rw [yas hl]; exact h3, by rw [yas hl]; exact h4, hrows, fun i row hi =>
   ⟨(hcell i row hi).1, fun j l hj => by
    obtain ⟨a1, v, a2, a3⟩ := (hcell i row hi).2 j l hj
    exact ⟨a1, v, a2, hrep _ _ a3⟩⟩⟩)
 have hmm : m' = m := by
  rw [hm']
  funext j
  split
  ·rename_i e; rw [e]; exact hm.symm
  ·rfl
 rw [hmm] at hI hT
 exact ⟨hI, hT⟩
theorem yfc {off : Nat} {vs row : List AV} (hl : off + vs.length ≤ row.length) (k : Nat) :
  (y1f off vs row)[k]? = if k < off then row[k]? else if k < off + vs.length then vs[k - off]? else row[k]? := by
 unfold y1f
 rw [z1j]
 simp only [zg, z3e]
 have hm : min off row.length = off := by omega
 rw [hm]
 by_cases h1 : k < off
 ·rw [if_pos (by omega), z1j, if_pos (by simp; omega), z1v, if_pos h1, if_pos h1]
 ·rw [if_neg h1]
  by_cases h2 : k < off + vs.length
  ·rw [if_pos h2, if_pos h2, z1j, if_neg (by simp; omega)]; simp [hm]
  ·rw [if_neg h2, if_neg h2, z1l]
   rw [show off + vs.length + (k - (off + vs.length)) = k by omega]
theorem y9t {off : Nat} {vs row : List AV} (hl : off + vs.length ≤ row.length) : (y1f off vs row).length = row.length := by
 simp [y1f]; omega
theorem ys5 {es i j i' j' : Nat} (hj : j < es) (hj' : j' < es) (he : i * es + j = i' * es + j') : i = i' ∧ j = j' := by
 have h1 : (i * es + j) / es = i := by rw [z3l, Nat.mul_add_div (by omega)]; rw [Nat.div_eq_of_lt hj]; omega
 have h2 : (i' * es + j') / es = i' := by rw [z3l, Nat.mul_add_div (by omega)]; rw [Nat.div_eq_of_lt hj']; omega
 have : i = i' := by rw [← h1, ← h2, he]
 subst this
 exact ⟨rfl, by omega⟩
theorem y16w (I : Inv nm w F m h) {t n : Nat} {av bv : AV} {v u : Value} {x : AV × Heap} (hs : y3w P t n = true)
  (hv : Rep nm w F m (gens h) v av) (hu : Rep nm w F m (gens h) u bv) (hr : evSt n av bv h = some x) :
  ∃ w', (Instr.storeAt t v u).run P w = .ok () w' ∧ Inv nm w' F m x.2 ∧ Tr w F m (gens h) w' F m (gens x.2) ∧ x.1 = .tup [] := by
 unfold evSt at hr
 split at hr
 ·rename_i id g i off
  split at hr
  ·rename_i es rows hrows
   split at hr
   ·rename_i row hrow
    split at hr
    ·rename_i hc
     obtain ⟨hc1, hc2, hc3⟩ := hc
     injection hr with hr
     subst hr
     obtain ⟨loc, hm, he, hcap, cs, ty, fr, hb, hfr, hsz, hcell⟩ := I.rows hrows
     obtain ⟨bx, ho⟩ := y7s hrows
     have hp := hv.lp_at hm
     subst hp
     obtain ⟨hcs, hcl⟩ := hu.cells hc3
     have hil : i < rows.length := (zb.1 hrow).1
     have hrl : row.length = es := (hcell i row hrow).1
     have hbound : loc.base + i * es + off + u.cells.toList.length ≤ cs.size := by
      have : (i + 1) * es ≤ loc.cap * es := z1q _ (by omega)
      rw [z25] at this
      simp only [z1e]
      omega
     have hone : ∀ z ∈ u.cells.toList, z.oneCell' = true := by
      intro z hz
      obtain ⟨j, hj⟩ := zz hz
      have hjl : j < (cellsOf bv).length := by rw [← hcs]; have := (zb.1 hj).1; simpa using this
      exact (hcl j z _ (by simpa using hj) (z9 hjl)).2.1
     have hrun := y3s (P := P) u.cells.toList (loc.base + i * es + off) 0 cs w hb hfr (by omega) hone
     have hcell2 : ∀ (k : Nat) (row' : List AV), (rows.set i (y1f off (cellsOf bv) row))[k]? = some row' → row'.length = es ∧ ∀ (j : Nat) (l : AV), row'[j]? = some l →
       y19 l = true ∧ ∃ v, (y43 cs (loc.base + i * es + off) u.cells.toList)[loc.base + (k * es + j)]? = some v ∧ Rep nm w F m (gens h) v l := by
      intro k row' hk
      rw [zu] at hk
      split at hk
      ·rename_i e; subst e
       injection hk with hk
       subst hk
       refine ⟨by rw [y9t (by omega)]; exact hrl, fun j l hj => ?_⟩
       rw [yfc (by omega)] at hj
       rw [y67 hbound]
       simp only [z1e, hcs]
       have hjl : j < es := by
        rw [← hrl]
        split at hj
        ·omega
        ·split at hj
         ·omega
         ·exact (zb.1 hj).1
       split at hj
       ·rw [if_pos (by omega)]
        obtain ⟨a1, z, a2, _, a3⟩ := (hcell i row hrow).2 j l hj
        exact ⟨a1, z, a2, a3⟩
       ·split at hj
        ·rw [if_neg (by omega), if_pos (by omega)]
         have hz : u.cells[j - off]? = some (u.cells[j - off]'(by rw [hcs]; omega)) := z1c _
         obtain ⟨b1, _, b2⟩ := hcl (j - off) _ l hz hj
         exact ⟨b1, _, by rw [show loc.base + (i * es + j) - (loc.base + i * es + off) = j - off by omega]; first | (simp; done) | (simp; exact hz) | exact hz, b2⟩
        ·rw [if_neg (by omega), if_neg (by omega)]
         obtain ⟨a1, z, a2, _, a3⟩ := (hcell i row hrow).2 j l hj
         exact ⟨a1, z, a2, a3⟩
      ·rename_i hne
       refine ⟨(hcell k row' hk).1, fun j l hj => ?_⟩
       have hjl : j < es := by rw [← (hcell k row' hk).1]; exact (zb.1 hj).1
       obtain ⟨a1, z, a2, _, a3⟩ := (hcell k row' hk).2 j l hj
       refine ⟨a1, z, ?_, a3⟩
       rw [y67 hbound]
       simp only [z1e, hcs]
       by_cases h1 : loc.base + (k * es + j) < loc.base + i * es + off
       ·rw [if_pos h1]; exact a2
       ·rw [if_neg h1]
        by_cases h2 : loc.base + (k * es + j) < loc.base + i * es + off + (cellsOf bv).length
        ·exfalso
         have : k * es + j = i * es + (k * es + j - i * es) := by omega
         exact hne (ys5 hjl (by omega) this).1.symm
        ·rw [if_neg h2]; exact a2
     have hst := y16p I ho hm hb hbound (rows' := rows.set i (y1f off (cellsOf bv) row)) (by simpa using hcap) hcell2
     refine ⟨_, ?_, hst.1, hst.2, rfl⟩
     simp only [Instr.storeAt, Instr.sureAddr, storeVar, Sem.run_bind, Sem.run_pure, Result.andThen_ok, y37 hs, he]
     rw [if_neg (by rw [hcs]; exact fun h => h hc1)]
     simpa using hrun
    ·cases hr
   ·cases hr
  ·cases hr
 ·cases hr
end Go.Vm
/- The value machine: new objects, appended and copied rows, against the model. -/
namespace Go.Vm
variable {P : Program} {nm : Nat → Option Nat} {w : World} {F : Nat → Prop} {m : MapT} {h : Heap}
theorem ykn {fb : Nat} {sl : Option Nat} {o : OC} {id g : Nat} {h' : Heap} (hp : place fb sl o h = some (id, g, h')) :
  (∀ j, j ≠ id → h'[j]? = h[j]?) ∧ h'[id]? = some ⟨g, o⟩ ∧ (∀ g0, (gens h)[id]? = some g0 → g0 < g) := by
 unfold place at hp
 split at hp
 ·injection hp with hp
  injection hp with h1 h2
  injection h2 with h2 h3
  subst h1; subst h2; subst h3
  refine ⟨fun j hj => ?_, by simp, fun g0 hg => by simp [gens] at hg⟩
  by_cases hlt : j < h.length
  ·rw [zx hlt]
  ·have e : h[j]? = none := z12 (by omega)
   rw [e]
   exact z12 (by simp; omega)
 ·rename_i j
  split at hp
  ·rename_i o0 ho
   injection hp with hp
   injection hp with h1 h2
   injection h2 with h2 h3
   subst h1; subst h2; subst h3
   have hl : fb + j < h.length := (zb.1 ho).1
   refine ⟨fun k hk => by rw [z17 (fun e => hk e.symm)], by simp [hl], fun g0 hg => ?_⟩
   rw [y1n, ho] at hg
   injection hg with hg
   simp only at hg
   omega
  ·cases hp
theorem yqp (I : Inv nm w F m h) {fb : Nat} {sl : Option Nat} {o : OC} {id g : Nat} {h' : Heap} (hp : place fb sl o h = some (id, g, h')) {w' : World} {ob : Obj} {loc : Loc}
  (hheap : w'.heap = w.heap.push ob) (hos : w'.os = w.os) (htape : w'.tape = w.tape) (hout : w'.output = w.output) (hloc : loc.blk = w.heap.size) (hfz : o.fz = false)
  (ho : ∀ m' : MapT, (∀ v a, Rep nm w F m (gens h) v a → Rep nm w' F m' (gens h') v a) → ycf nm w' F m' (gens h') loc o) :
  ∃ m' : MapT, Inv nm w' F m' h' ∧ Tr w F m (gens h) w' F m' (gens h') ∧ m' id = some (g, loc) ∧ (gens h')[id]? = some g := by
 obtain ⟨h1, h2, h3⟩ := ykn hp
 obtain ⟨m', hm', hI, hT⟩ := ybc (w' := w') (h' := h') (g' := g) (o := o) (loc := loc) (id := id) I hos htape hout (by rw [hheap]; simp)
  (fun b hb hlt => by rw [hheap, z3i, if_neg (by omega)]) (.inl (by omega)) h1 h2 hfz (.inl h3) (fun _ _ hq => by rw [hloc, Array.getElem?_eq_none (zi _)] at hq; cases hq) (fun m' _ hrep => ho m' hrep)
 exact ⟨m', hI, hT, by rw [hm']; simp, by rw [y1n, h2]; rfl⟩
theorem ydq (w' : World) {ob : Obj} (hheap : w'.heap = w.heap.push ob) : w'.heap[w.heap.size]? = some ob := by rw [hheap]; simp
theorem y1gg (I : Inv nm w F m h) {fb : Nat} {sl : Option Nat} {bx : Bool} {es cap : Nat} {rows : List (List AV)} {id g : Nat} {h' : Heap} (hp : place fb sl (.arr bx false es rows) h = some (id, g, h'))
  {w' : World} {cells : Array Value} {ty : TypeId} {fr : Nat × Nat} (hheap : w'.heap = w.heap.push (.cells cells ty fr)) (hos : w'.os = w.os) (htape : w'.tape = w.tape) (hout : w'.output = w.output)
  (hfr : frOk fr cells.size) (hcap : rows.length ≤ cap) (hsz : cap * es ≤ cells.size)
  (hcell : ∀ (i : Nat) (row : List AV), rows[i]? = some row → row.length = es ∧ ∀ (j : Nat) (l : AV), row[j]? = some l → y19 l = true ∧ ∃ v, cells[i * es + j]? = some v ∧ Rep nm w F m (gens h) v l) :
  ∃ m' : MapT, Inv nm w' F m' h' ∧ Tr w F m (gens h) w' F m' (gens h') ∧ m' id = some (g, ⟨w.heap.size, 0, es, cap, 0⟩) ∧ (gens h')[id]? = some g :=
 yqp I hp hheap hos htape hout (loc := ⟨w.heap.size, 0, es, cap, 0⟩) rfl rfl fun m' hrep => ⟨rfl, cells, ty, fr, ydq w' hheap, hfr, by simpa using hsz, hcap, fun i row hi =>
  ⟨(hcell i row hi).1, fun j l hl => by
   obtain ⟨a1, v, a2, a3⟩ := (hcell i row hi).2 j l hl
   exact ⟨a1, v, by simpa using a2, hrep _ _ a3⟩⟩⟩
theorem ya0 (n : Nat) : frOk (0, 0) n := fun x _ h => by simp at h
theorem ypa {w' : World} {F' : Nat → Prop} {m' : MapT} {G : List Nat} {id g es cap len : Nat} {loc : Loc} (hm : m' id = some (g, loc)) (hG : G[id]? = some g) (hb : loc.base = 0) (he : loc.es = es)
  (hc : cap = loc.cap) (hl : len ≤ cap) : Rep nm w' F' m' G (.slice (some ⟨loc.blk, 0, none⟩) len cap) (.ls id g es 0 len) :=
 .ls id g es 0 len cap ⟨loc.blk, 0, none⟩ loc ⟨g, hG, zi _⟩ (fun loc' h => by rw [hm] at h; injection h with h; injection h with _ h; exact h.symm) rfl rfl he (fun _ => by show 0 = loc.base + 0 * loc.es; omega) (by omega) hl
theorem y17n {w' : World} {F' : Nat → Prop} {m' : MapT} {G : List Nat} {id g : Nat} {loc : Loc} (hm : m' id = some (g, loc)) (hG : G[id]? = some g) (hb : loc.base = 0) :
  Rep nm w' F' m' G (.pointer (some ⟨loc.blk, 0, none⟩)) (.lp id g 0 0) := by
 have h := Rep.lp (nm := nm) (w := w') (F := F') (m := m') (G := G) id g 0 0 loc ⟨g, hG, zi _⟩ (fun loc' h => by rw [hm] at h; injection h with h; injection h with _ h; exact h.symm)
 simpa [hb] using h
theorem yfj (I : Inv nm w F m h) {fb : Nat} {sl : Option Nat} {cs : List AV} {x : AV × Heap} {cells : Array Value} {ty : TypeId} (hx : y8l fb sl cs h = some x) (hn : cells.size = cs.length)
  (hcell : ∀ (j : Nat) (v : Value) (l : AV), cells[j]? = some v → cs[j]? = some l → y19 l = true ∧ Rep nm w F m (gens h) v l) :
  Does nm w F m h (.ok (.value (.pointer (some ⟨w.heap.size, 0, none⟩))) { w with heap := w.heap.push (.cells cells ty) }) x := by
 unfold y8l at hx
 split at hx
 ·rename_i id g h' hp
  injection hx with hx
  subst hx
  obtain ⟨m', hI, hT, hm, hG⟩ := y1gg (w' := { w with heap := w.heap.push (.cells cells ty) }) (cap := 1) (cells := cells) (ty := ty) (fr := (0, 0)) I hp rfl rfl rfl rfl (ya0 _) (by simp) (by simp [hn])
   (fun i row hi => by
    cases i with
    | succ i => simp at hi
    | zero =>
     simp at hi
     subst hi
     refine ⟨rfl, fun j l hl => ?_⟩
     have hj : j < cells.size := by rw [hn]; exact (zb.1 hl).1
     have hv : cells[j]? = some cells[j] := z1c _
     exact ⟨(hcell j _ l hv hl).1, cells[j], by first | (simp; done) | (simp; exact hv) | exact hv, (hcell j _ l hv hl).2⟩)
  exact ⟨_, _, F, m', .inl rfl, hI, hT, y17n hm hG rfl⟩
 ·cases hx
theorem y6m (I : Inv nm w F m h) {fb : Nat} {sl : Option Nat} {es cap : Nat} {rows : List (List AV)} {x : AV × Heap} {w' : World} {cells : Array Value} {ty : TypeId} {fr : Nat × Nat}
  (hx : y2k fb sl es rows h = some x) (hheap : w'.heap = w.heap.push (.cells cells ty fr)) (hos : w'.os = w.os) (htape : w'.tape = w.tape) (hout : w'.output = w.output)
  (hfr : frOk fr cells.size) (hcap : rows.length ≤ cap) (hsz : cap * es ≤ cells.size)
  (hcell : ∀ (i : Nat) (row : List AV), rows[i]? = some row → row.length = es ∧ ∀ (j : Nat) (l : AV), row[j]? = some l → y19 l = true ∧ ∃ v, cells[i * es + j]? = some v ∧ Rep nm w F m (gens h) v l) :
  Does nm w F m h (.ok (.value (.slice (some ⟨w.heap.size, 0, none⟩) rows.length cap)) w') x := by
 unfold y2k at hx
 split at hx
 ·rename_i id g h' hp
  injection hx with hx
  subst hx
  obtain ⟨m', hI, hT, hm, hG⟩ := y1gg I hp hheap hos htape hout hfr hcap hsz hcell
  exact ⟨_, _, F, m', .inl rfl, hI, hT, ypa (loc := ⟨w.heap.size, 0, es, cap, 0⟩) hm hG rfl rfl rfl hcap⟩
 ·cases hx
theorem y81 {vs : List Value} {cs : List AV} {G : List Nat} (hm : yfi vs cs = true) : LRep nm w F m G vs cs := by
 obtain ⟨h1, h2⟩ := yb1 (nm := nm) (w := w) (F := F) hm
 exact ⟨h1, fun j v l hv hl => .pure (h2 j v l hv hl)⟩
theorem y1ss (I : Inv nm w F m h) {fb : Nat} {sl : Option Nat} {t : Nat} {cs : List AV} {x : AV × Heap} (hz : ybn P t cs = true) (hl : cs.all y19 = true) (hx : y8l fb sl cs h = some x) :
  Does nm w F m h ((do pure (Next.value (← Instr.alloc t true (.tuple #[]))) : Sem Next).run P w) x := by
 obtain ⟨i, z, hi, hz1, hz2⟩ := y8a hz
 have hrun : (Instr.alloc t true (.tuple #[])).run P w = .ok (.pointer (some ⟨w.heap.size, 0, none⟩)) { w with heap := w.heap.push (.cells z.cells t) } := by
  simp [Instr.alloc, y2u hi hz1, newVar, newRow]
 rw [yhs hrun]
 have hL := y81 (nm := nm) (w := w) (F := F) (m := m) (G := gens h) hz2
 refine yfj I hx (by simpa using hL.1) (fun j v l hv hl2 => ⟨?_, hL.2 j v l (by simpa using hv) hl2⟩)
 rw [z19] at hl
 exact hl l (zs hl2)
theorem y1hv (I : Inv nm w F m h) {fb : Nat} {sl : Option Nat} {t : Nat} {v : Value} {a : AV} {x : AV × Heap} (hv : Rep nm w F m (gens h) v a) (hl : (cellsOf a).all y19 = true)
  (hx : y8l fb sl (cellsOf a) h = some x) : Does nm w F m h ((do pure (Next.value (← Instr.box t v)) : Sem Next).run P w) x := by
 have hrun : (Instr.box t v).run P w = .ok (.pointer (some ⟨w.heap.size, 0, none⟩)) { w with heap := w.heap.push (.cells v.cells t) } := by
  simp [Instr.box, newVar, newRow]
 rw [yhs hrun]
 obtain ⟨h1, h2⟩ := hv.cells hl
 exact yfj I hx h1 (fun j x l hx hl2 => ⟨(h2 j x l hx hl2).1, (h2 j x l hx hl2).2.2⟩)
theorem y5s (off : Nat) : ∀ (vs : List Value) (n : Nat) (cs : Array Value), off + n + vs.length ≤ cs.size → ∀ k,
  ((vs.zipIdx n).foldl (fun cs (p : Value × Nat) => cs.setIfInBounds (off + p.2) p.1) cs)[k]? = if k < off + n then cs[k]? else if k < off + n + vs.length then vs[k - (off + n)]? else cs[k]?
 | [], n, cs, _, k => by
  simp only [List.zipIdx_nil, List.foldl_nil, List.length_nil, Nat.add_zero]
  by_cases hk : k < off + n <;> simp [hk]
 | v :: vs, n, cs, hl, k => by
  simp only [List.zipIdx_cons, List.foldl_cons]
  rw [y5s off vs (n + 1) _ (by simp at hl ⊢; omega) k]
  simp only [z11, List.length_cons]
  simp only [List.length_cons] at hl
  by_cases h1 : k < off + n
  ·rw [if_pos (by omega), if_neg (by omega), if_pos h1]
  ·by_cases h2 : k = off + n
   ·subst h2
    rw [if_pos (by omega), if_pos rfl, if_pos (by omega), if_neg (by omega), if_pos (by omega)]
    simp
   ·rw [if_neg (by omega), if_neg h1]
    by_cases h3 : k < off + n + (vs.length + 1)
    ·rw [if_pos (by omega), if_pos h3, show k - (off + n) = (k - (off + (n + 1))) + 1 by omega]; simp
    ·rw [if_neg (by omega), if_neg h3, if_neg (by omega)]
theorem y71 (off : Nat) : ∀ (vs : List (Value × Nat)) (cs : Array Value), (vs.foldl (fun cs (p : Value × Nat) => cs.setIfInBounds (off + p.2) p.1) cs).size = cs.size
 | [], _ => rfl
 | v :: vs, cs => by rw [z38, y71 off vs]; simp
theorem yep {G : List Nat} {place : Nat → Option (Nat × Nat)} {a : Act} {t : Tmps} (hT : TRep nm w F m G a t) :
  ∀ {ps : List (Nat × Operand)} {qs : List (Nat × Nat × Opd)} {vs : Array Value} {cs r : List AV}, y84 nm place ps qs = true → LRep nm w F m G vs.toList cs →
   y63 (qs.map fun p => (p.1, p.2.1, p.2.2.ev t)) cs = some r →
   ∃ vs' : Array Value, Instr.fill place vs (ps.map fun p => (p.1, a.eval p.2)) = some vs' ∧ LRep nm w F m G vs'.toList r
 | [], [], vs, cs, r, _, hl, hf => by
  simp only [List.map_nil, y63] at hf
  injection hf with hf
  subst hf
  exact ⟨vs, rfl, hl⟩
 | (i, x) :: ps, (off, n, y) :: qs, vs, cs, r, hc, hl, hf => by
  simp only [y84, zc, beq_iff_eq] at hc
  obtain ⟨⟨hc1, hc2⟩, hc3⟩ := hc
  simp only [List.map_cons, y63] at hf
  split at hf
  ·rename_i hb
   obtain ⟨hk, hb1, hb2⟩ := hb
   have hrep := yt hT hc2
   have hcells : (a.eval x).cells.size = n ∧ ∀ (j : Nat) (v : Value) (l : AV), (a.eval x).cells[j]? = some v → (cellsOf (y.ev t))[j]? = some l → Rep nm w F m G v l := by
    by_cases ha : ∃ cs, y.ev t = .agg cs
    ·obtain ⟨cs0, ha⟩ := ha
     rw [ha] at hrep hb1
     obtain ⟨vs0, hv, hn, hr⟩ := hrep.agg_inv
     rw [hv, ha]
     exact ⟨by rw [← hb1]; exact hn, hr⟩
    ·have hc : cellsOf (y.ev t) = [y.ev t] := by
      cases hy : y.ev t <;> first | rfl | exact (ha ⟨_, hy⟩).elim
     rw [hc] at hb1 ⊢
     have hv : (a.eval x).cells = #[a.eval x] := by
      cases hax : a.eval x with
      | agg vs0 =>
       rw [hax] at hrep
       generalize y.ev t = q at hrep ha hk
       cases hrep with
       | pure hp => cases hp; exact (ha ⟨_, rfl⟩).elim
       | undef => cases hk
       | agg => exact (ha ⟨_, rfl⟩).elim
      | _ => rfl
     rw [hv]
     refine ⟨by simpa using hb1, fun j v l h1 h2 => ?_⟩
     cases j with
     | zero => simp at h1 h2; subst h1; subst h2; exact hrep
     | succ j => simp at h1
   have hsz : (a.eval x).cells.toList.length = n := by simpa using hcells.1
   have hvl : vs.size = cs.length := by simpa using hl.1
   have hfill : off + 0 + (a.eval x).cells.toList.length ≤ vs.size := by omega
   have hsize : ((a.eval x).cells.toList.zipIdx.foldl (fun cs (p : Value × Nat) => cs.setIfInBounds (off + p.2) p.1) vs).size = vs.size := y71 _ _ _
   have hstep : LRep nm w F m G ((a.eval x).cells.toList.zipIdx.foldl (fun cs (p : Value × Nat) => cs.setIfInBounds (off + p.2) p.1) vs).toList (y1f off (cellsOf (y.ev t)) cs) := by
    refine ⟨by rw [z1e, hsize, y9t (by omega)]; exact hvl, fun j v l hv hl2 => ?_⟩
    rw [z1f, y5s off _ 0 _ hfill] at hv
    rw [yfc (by omega)] at hl2
    simp only [Nat.add_zero, hsz, hb1] at hv hl2
    split at hv
    ·rename_i h1; rw [if_pos h1] at hl2; exact hl.2 j v l (by simpa using hv) hl2
    ·rename_i h1
     rw [if_neg h1] at hl2
     split at hv
     ·rename_i h2; rw [if_pos h2] at hl2; exact hcells.2 _ v l (by simpa using hv) hl2
     ·rename_i h2; rw [if_neg h2] at hl2; exact hl.2 j v l (by simpa using hv) hl2
   obtain ⟨vs', h1, h2⟩ := yep hT hc3 hstep hf
   refine ⟨vs', ?_, h2⟩
   simp only [List.map_cons, Instr.fill, hc1]
   rw [if_neg (by simp [hcells.1]; omega)]
   rw [← h1]
   congr 1
   rw [← Array.foldl_toList]
   simp
  ·cases hf
 | [], _ :: _, _, _, _, h, _, _ => by cases h
 | _ :: _, [], _, _, _, h, _, _ => by cases h
theorem y17i {fs : Array Field} (hf : fs.toList.all (fun f => (P.info? f.type).isSome) = true) (w : World) :
  (fs.mapM fun f => (do pure (f.offset, ← sizeOf f.type) : Sem (Nat × Nat))).run P w = .ok (fs.map fun f => (f.offset, P.cellsOf f.type)) w := by
 rw [Array.mapM_eq_mapM_toList]
 have key : ∀ l : List Field, l.all (fun f => (P.info? f.type).isSome) = true →
   (l.mapM fun f => (do pure (f.offset, ← sizeOf f.type) : Sem (Nat × Nat))).run P w = .ok (l.map fun f => (f.offset, P.cellsOf f.type)) w := by
  intro l hl
  induction l with
  | nil => simp
  | cons f fs ih =>
   simp only [List.all_cons, zc] at hl
   obtain ⟨i, hi⟩ := z2d.1 hl.1
   have hf1 : (do pure (f.offset, ← sizeOf f.type) : Sem (Nat × Nat)).run P w = .ok (f.offset, P.cellsOf f.type) w := by simp [sizeOf, typeInfo, hi, Program.cellsOf]
   rw [List.mapM_cons, Sem.run_bind, hf1, Result.andThen_ok, Sem.run_bind, ih hl.2, Result.andThen_ok]
   rfl
 simp only [Sem.run_map, key _ hf, Result.andThen_ok]
 congr 1
 apply Array.ext'
 simp
theorem yuj (I : Inv nm w F m h) {a : Act} {t : Tmps} (hT : TRep nm w F m (gens h) a t) {ty : Nat} {ps : Array (Nat × Operand)} {qs : List (Nat × Nat × Opd)} {zero r : List AV}
  (hz : ybn P ty zero = true)
  (hc : (match P.underlying ty with
   | some (.struct fs) => fs.toList.all (fun f => (P.info? f.type).isSome) && y84 nm (fun i => (fs[i]?).map fun f => (f.offset, P.cellsOf f.type)) ps.toList qs
   | some (.array _ e) => (P.info? e).isSome && y84 nm (fun i => some (i * P.cellsOf e, P.cellsOf e)) ps.toList qs
   | _ => false) = true)
  (hr : y63 (qs.map fun p => (p.1, p.2.1, p.2.2.ev t)) zero = some r) :
  ∃ v, (Instr.build ty (ps.map fun (i, x) => (i, a.eval x))).run P w = .ok v w ∧ Rep nm w F m (gens h) v (.agg r) := by
 obtain ⟨i, z, hi, hz1, hz2⟩ := y8a hz
 have hL := y81 (nm := nm) (w := w) (F := F) (m := m) (G := gens h) hz2
 split at hc
 ·rename_i fs hu
  simp only [zc] at hc
  obtain ⟨vs', h1, h2⟩ := yep hT hc.2 hL hr
  refine ⟨.agg vs', ?_, .agg _ _ (by simpa using h2.1) (fun j v l hv hl => h2.2 j v l (by simpa using hv) hl)⟩
  simp only [Instr.build, Sem.run_bind, y2u hi hz1, yf hu, Result.andThen_ok, y17i hc.1]
  have hp : (fun i : Nat => (fs.map fun f : Field => (f.offset, P.cellsOf f.type))[i]?) = (fun i : Nat => (fs[i]?).map fun f : Field => (f.offset, P.cellsOf f.type)) := by funext i; simp
  rw [hp]
  simp only [z35, h1]
  rfl
 ·rename_i n e hu
  simp only [zc] at hc
  obtain ⟨ie, hie⟩ := z2d.1 hc.1
  have hce : P.cellsOf e = ie.size := by simp [Program.cellsOf, hie]
  obtain ⟨vs', h1, h2⟩ := yep hT hc.2 hL hr
  refine ⟨.agg vs', ?_, .agg _ _ (by simpa using h2.1) (fun j v l hv hl => h2.2 j v l (by simpa using hv) hl)⟩
  simp only [Instr.build, Sem.run_bind, y2u hi hz1, yf hu, Result.andThen_ok]
  simp only [sizeOf, Sem.run_bind, yaa hie, Result.andThen_ok, Sem.run_pure]
  rw [hce] at h1
  simp only [z35, h1]
  rfl
 ·cases hc
def RRep (nm : Nat → Option Nat) (w : World) (F : Nat → Prop) (m : MapT) (G : List Nat) (es : Nat) (cells : Array Value) (rows : List (List AV)) : Prop :=
 cells.size = rows.length * es ∧ ∀ (i : Nat) (row : List AV), rows[i]? = some row → row.length = es ∧ ∀ (j : Nat) (l : AV), row[j]? = some l → y19 l = true ∧ ∃ v, cells[i * es + j]? = some v ∧ Rep nm w F m G v l
theorem yq5 {es n i j : Nat} (hi : i < n) (hj : j < es) : i * es + j < n * es := by
 have : (i + 1) * es ≤ n * es := z1q _ (by omega)
 rw [z25] at this
 omega
theorem ymi {G : List Nat} {es n : Nat} {z : Array Value} {zero : List AV} (hes : 0 < es) (hl : zero.length = es) (hz : LRep nm w F m G z.toList zero) (h1 : zero.all y19 = true) :
  RRep nm w F m G es ((Array.range (n * es)).map (z[· % z.size]!)) (List.replicate n zero) := by
 refine ⟨by simp, fun i row hi => ?_⟩
 have hil : i < n := by have := (zb.1 hi).1; simpa using this
 have hr : row = zero := by
  rw [z29, if_pos hil] at hi
  injection hi with hi
  exact hi.symm
 subst hr
 refine ⟨hl, fun j l hj => ?_⟩
 have hjl : j < es := by rw [← hl]; exact (zb.1 hj).1
 have hzs : z.size = es := by rw [← hl]; simpa using hz.1
 obtain ⟨v, hv, hrep⟩ := hz.get hj
 refine ⟨?_, v, ?_, hrep⟩
 ·rw [z19] at h1
  exact h1 l (zs hj)
 ·have hlt := yq5 (es := es) hil hjl
  have hmod : (i * es + j) % es = j := by rw [z3l, Nat.mul_add_mod]; exact Nat.mod_eq_of_lt hjl
  simp only [Array.getElem?_map, Array.getElem?_range, hlt, if_true, Option.map_some, hzs, hmod]
  congr 1
  have hv2 : z[j]? = some v := by simpa using hv
  have hjz : j < z.size := by omega
  rw [getElem!_pos z j hjz]
  rw [z1c hjz] at hv2
  injection hv2
theorem ybj {G : List Nat} {es : Nat} {a : Act} {t : Tmps} (hT : TRep nm w F m G a t) :
  ∀ {ps : List (Nat × Operand)} {qs : List (Nat × Opd)} {vs : Array Value} {rows r : List (List AV)}, yh2 nm ps qs = true → RRep nm w F m G es vs rows →
   y1i es (qs.map fun p => (p.1, p.2.ev t)) rows = some r →
   ∃ vs' : Array Value, Instr.fill (fun i => some (i * es, es)) vs (ps.map fun p => (p.1, a.eval p.2)) = some vs' ∧ RRep nm w F m G es vs' r ∧ r.length = rows.length
 | [], [], vs, rows, r, _, hl, hf => by
  simp only [List.map_nil, y1i] at hf
  injection hf with hf
  subst hf
  exact ⟨vs, rfl, hl, rfl⟩
 | (i, x) :: ps, (i', y) :: qs, vs, rows, r, hc, hl, hf => by
  simp only [yh2, zc, beq_iff_eq] at hc
  obtain ⟨⟨hc1, hc2⟩, hc3⟩ := hc
  subst hc1
  simp only [List.map_cons, y1i] at hf
  split at hf
  ·rename_i hb
   obtain ⟨hb1, hb2, hb3⟩ := hb
   obtain ⟨hcs, hcl⟩ := (yt hT hc2).cells hb3
   have hsz : (a.eval x).cells.toList.length = es := by rw [z1e, hcs, hb1]
   have hfill : i * es + 0 + (a.eval x).cells.toList.length ≤ vs.size := by
    rw [hsz, hl.1]
    have : (i + 1) * es ≤ rows.length * es := z1q _ (by omega)
    rw [z25] at this
    omega
   have hsize : ((a.eval x).cells.toList.zipIdx.foldl (fun cs (p : Value × Nat) => cs.setIfInBounds (i * es + p.2) p.1) vs).size = vs.size := y71 _ _ _
   have hstep : RRep nm w F m G es ((a.eval x).cells.toList.zipIdx.foldl (fun cs (p : Value × Nat) => cs.setIfInBounds (i * es + p.2) p.1) vs) (rows.set i (cellsOf (y.ev t))) := by
    refine ⟨by rw [hsize, hl.1]; simp, fun k row hk => ?_⟩
    rw [zu] at hk
    split at hk
    ·rename_i e
     subst e
     injection hk with hk
     subst hk
     refine ⟨hb1, fun j l hj => ?_⟩
     have hjl : j < es := by rw [← hb1]; exact (zb.1 hj).1
     have hz : (a.eval x).cells[j]? = some ((a.eval x).cells[j]'(by rw [hcs, hb1]; exact hjl)) := z1c _
     refine ⟨(hcl j _ l hz hj).1, _, ?_, (hcl j _ l hz hj).2.2⟩
     rw [y5s _ _ 0 _ hfill, if_neg (by omega), hsz, if_pos (by omega), show i * es + j - (i * es + 0) = j by omega]
     first | (simp; done) | (simp; exact hz) | exact hz
    ·rename_i hne
     refine ⟨(hl.2 k row hk).1, fun j l hj => ?_⟩
     have hjl : j < es := by rw [← (hl.2 k row hk).1]; exact (zb.1 hj).1
     obtain ⟨a1, v, a2, a3⟩ := (hl.2 k row hk).2 j l hj
     refine ⟨a1, v, ?_, a3⟩
     rw [y5s _ _ 0 _ hfill, hsz]
     by_cases h1 : k * es + j < i * es + 0
     ·rw [if_pos h1]; exact a2
     ·rw [if_neg h1]
      by_cases h2 : k * es + j < i * es + 0 + es
      ·exfalso
       have : k * es + j = i * es + (k * es + j - i * es) := by omega
       exact hne (ys5 hjl (by omega) this).1.symm
      ·rw [if_neg h2]; exact a2
   obtain ⟨vs', h1, h2, h3⟩ := ybj hT hc3 hstep hf
   refine ⟨vs', ?_, h2, by rw [h3]; simp⟩
   simp only [List.map_cons, Instr.fill]
   have hcond : ((a.eval x).cells.size ≠ es || i * es + (a.eval x).cells.size > vs.size) = false := by
    rw [z1e] at hsz hfill
    simp [hsz]
    omega
   rw [if_neg (by rw [hcond]; exact zv)]
   rw [← h1]
   congr 1
   rw [← Array.foldl_toList]
   simp
  ·cases hf
 | [], _ :: _, _, _, _, h, _, _ => by cases h
 | _ :: _, [], _, _, _, h, _, _ => by cases h
theorem ype (I : Inv nm w F m h) {fb : Nat} {sl : Option Nat} {a : Act} {t : Tmps} (hT : TRep nm w F m (gens h) a t) {ty e es len : Nat} {ps : Array (Nat × Operand)} {qs : List (Nat × Opd)} {zero : List AV}
  {rows : List (List AV)} {x : AV × Heap} (hu : P.underlying ty = some (.slice e)) (hs : y3w P e es = true) (hes : 0 < es) (hlen : len * es ≤ 2 ^ 24) (hz : ybn P e zero = true)
  (hzl : zero.length = es) (hz1 : zero.all y19 = true) (hc : yh2 nm ps.toList qs = true) (hr : y1i es (qs.map fun p => (p.1, p.2.ev t)) (List.replicate len zero) = some rows)
  (hx : y2k fb sl es rows h = some x) :
  Does nm w F m h ((do pure (Next.value (← Instr.buildSlice ty len (ps.map fun (i, x) => (i, a.eval x)))) : Sem Next).run P w) x := by
 obtain ⟨i, z, hi, hzz, hz2⟩ := y8a hz
 have hL := y81 (nm := nm) (w := w) (F := F) (m := m) (G := gens h) hz2
 obtain ⟨vs', h1, h2, h3⟩ := ybj hT hc (ymi (n := len) hes hzl hL hz1) hr
 have hrl : rows.length = len := by rw [h3]; simp
 have hrun : (Instr.buildSlice ty len (ps.map fun (i, x) => (i, a.eval x))).run P w = .ok (.slice (some ⟨w.heap.size, 0, none⟩) rows.length rows.length) { w with heap := w.heap.push (.cells vs' e) } := by
  simp only [Instr.buildSlice, Sem.run_bind, yf hu, Result.andThen_ok, y37 hs]
  rw [if_neg (by omega)]
  by_cases hn : len = 0
  ·subst hn
   simp only [z3m, if_true, Sem.run_bind, Sem.run_pure, Result.andThen_ok]
   simp only [z3m] at h1
   have : (Array.map (fun x => (#[] : Array Value)[x % (#[] : Array Value).size]!) (Array.range 0)) = (Array.map (fun x => z.cells[x % z.cells.size]!) (Array.range 0)) := by simp
   rw [this]
   simp only [z35, h1, hrl]
   simp [newRow]
  ·rw [if_neg (by have : 0 < len * es := Nat.mul_pos (by omega) hes; omega)]
   simp only [Sem.run_bind, y2u hi hzz, Result.andThen_ok, Sem.run_pure, z35, h1, hrl]
   simp [newRow]
 rw [yhs hrun]
 exact y6m I hx rfl rfl rfl rfl (ya0 _) (zi _) (by rw [h2.1]; exact zi _) h2.2
theorem ykg {n : Int} (h0 : 0 ≤ n) (h1 : n ≤ 2 ^ 62) : IntKind.i64.wrap n = n := by
 unfold IntKind.wrap
 simp [IntKind.signed, IntKind.bits]
 omega
theorem y1pt (I : Inv nm w F m h) {fb : Nat} {sl : Option Nat} {ty e es bytes : Nat} {zero : List AV} {l c : Int} {x : AV × Heap} (hu : P.underlying ty = some (.slice e)) (hs : y3w P e es = true) (hes : 0 < es)
  (hz : ybn P e zero = true) (hby : P.bytesOf e = bytes) (hzl : zero.length = es) (hz1 : zero.all y19 = true) (h0 : 0 ≤ l) (hlc : l ≤ c) (hcb : c * bytes ≤ 2 ^ 47) (hc62 : c ≤ 2 ^ 62)
  (hx : y2k fb sl es (List.replicate l.toNat zero) h = some x) :
  Does nm w F m h ((do pure (Next.value (← Instr.makeSlice ty (.int .i64 l) (.int .i64 c))) : Sem Next).run P w) x := by
 obtain ⟨i, z, hi, hzz, hz2⟩ := y8a hz
 have hL := y81 (nm := nm) (w := w) (F := F) (m := m) (G := gens h) hz2
 have hbytes : i.bytes = bytes := by rw [← hby]; simp [Program.bytesOf, hi]
 have hR := ymi (n := c.toNat) hes hzl hL hz1
 have hrun : (Instr.makeSlice ty (.int .i64 l) (.int .i64 c)).run P w =
   .ok (.slice (some ⟨w.heap.size, 0, none⟩) l.toNat c.toNat) { w with heap := w.heap.push (.cells ((Array.range (c.toNat * es)).map (z.cells[· % z.cells.size]!)) e) } := by
  have hcb2 : (bytes : Int) * c ≤ 2 ^ 47 := by rw [Int.mul_comm]; exact hcb
  simp only [Instr.makeSlice, Sem.run_bind, yf hu, Result.andThen_ok, asInt, asIntOf, Sem.run_pure, yaa hi, hbytes, ykg h0 (by omega), ykg (by omega : (0 : Int) ≤ c) hc62]
  rw [if_neg (by simp; omega)]
  simp only [Sem.run_bind, run_askRoom, Result.andThen_ok, y37 hs, Sem.run_pure]
  by_cases hn : c.toNat = 0
  ·simp only [hn, z3m, if_true, Sem.run_pure, Result.andThen_ok]
   have hr0 : Array.range 0 = #[] := rfl
   simp only [hr0, Array.map_empty, newRow, Sem.run_bind, run_newObj, Result.andThen_ok, Sem.run_pure]
  ·rw [if_neg (by have : 0 < c.toNat * es := Nat.mul_pos (by omega) hes; omega)]
   simp only [Sem.run_bind, y2u hi hzz, Result.andThen_ok, Sem.run_pure]
   simp [newRow]
 rw [yhs hrun]
 have hlen : l.toNat = (List.replicate l.toNat zero).length := by simp
 have := y6m (cap := c.toNat) (w' := { w with heap := w.heap.push (.cells ((Array.range (c.toNat * es)).map (z.cells[· % z.cells.size]!)) e) }) I hx rfl rfl rfl rfl (ya0 _)
  (by simp; omega) (by rw [hR.1]; simp) (fun k row hk => by
   have hk2 : (List.replicate c.toNat zero)[k]? = some row := by
    rw [z29] at hk ⊢
    split at hk
    ·rw [if_pos (by omega)]; exact hk
    ·cases hk
   exact hR.2 k row hk2)
 rw [List.length_replicate] at this
 exact this
end Go.Vm
/- The value machine: appending and copying, against the model. -/
namespace Go.Vm
variable {P : Program} {nm : Nat → Option Nat} {w : World} {F : Nat → Prop} {m : MapT} {h : Heap}
theorem ya5 {b o es n : Nat} {rows : List (List AV)} {G : List Nat} (hn : n ≤ rows.length) 
  (hc : ∀ (i : Nat) (row : List AV), rows[i]? = some row → row.length = es ∧ ∀ (j : Nat) (l : AV), row[j]? = some l → y19 l = true ∧ ∃ v, w.cell? ⟨b, o + (i * es + j), none⟩ = some v ∧ Rep nm w F m G v l) :
  ∃ cells : Array Value, (loadCells ⟨b, o, none⟩ (n * es)).run P w = .ok cells w ∧ RRep nm w F m G es cells (rows.take n) := by
 have hx : ∀ k, k < n * es → ∃ v, w.cell? ⟨b, o + k, none⟩ = some v := fun k hk => by
  have hes : 0 < es := Nat.pos_of_ne_zero fun e => by subst e; omega
  have hi : k / es < n := (Nat.div_lt_iff_lt_mul hes).2 hk
  have hrow : rows[k / es]? = some (rows[k / es]'(by omega)) := z9 _
  obtain ⟨hl, hcell⟩ := hc _ _ hrow
  have hj : k % es < es := z3n _ hes
  obtain ⟨_, v, hv, _⟩ := hcell (k % es) _ (z9 (by omega))
  refine ⟨v, ?_⟩
  rw [show k = k / es * es + k % es by rw [z3l]; exact (Nat.div_add_mod k es).symm]
  exact hv
 have h1 := run_loadCells (P := P) w ⟨b, o, none⟩ (n * es) (fun j => (w.cell? ⟨b, o + j, none⟩).getD undef) (fun j hj => by
  obtain ⟨v, hv⟩ := hx j hj
  rw [y3u, hv]; rfl)
 refine ⟨_, h1, by simp [Nat.min_eq_left hn], fun i row hi => ?_⟩
 have hil : i < n := by
  have := (zb.1 hi).1
  simp at this
  omega
 have hi2 : rows[i]? = some row := by
  rw [z1v] at hi
  simpa [hil] using hi
 obtain ⟨hl, hcell⟩ := hc i row hi2
 refine ⟨hl, fun j l hj => ?_⟩
 have hjl : j < es := by rw [← hl]; exact (zb.1 hj).1
 obtain ⟨a1, v, a2, a3⟩ := hcell j l hj
 refine ⟨a1, v, ?_, a3⟩
 have hlt := yq5 (es := es) hil hjl
 simp [hlt, a2]
theorem Rep.ls_at {G : List Nat} {v : Value} {id g es off len : Nat} {loc : Loc} (hr : Rep nm w F m G v (.ls id g es off len)) (hm : m id = some (g, loc)) :
  ∃ a cap, v = .slice (some a) len cap ∧ a.block = loc.blk ∧ a.spot = none ∧ loc.es = es ∧ (0 < cap → a.off = loc.base + off * loc.es) ∧ off + cap ≤ loc.cap ∧ len ≤ cap := by
 cases hr with
 | pure h => cases h
 | ls _ _ _ _ _ cap a loc' hg hl hb hs he ho hc hlen =>
  have := hl loc hm
  subst this
  exact ⟨a, cap, rfl, hb, hs, he, ho, hc, hlen⟩
theorem Rep.rs_inv {G : List Nat} {v : Value} {es : Nat} {rows : List (List AV)} (hr : Rep nm w F m G v (.rs es rows)) :
  ∃ a cap, v = .slice (some a) rows.length cap ∧ rows.length ≤ cap ∧ (rows ≠ [] → a.spot = none) ∧ ∀ (i : Nat) (row : List AV), rows[i]? = some row → row.length = es ∧ ∀ (j : Nat) (l : AV), row[j]? = some l →
   y19 l = true ∧ ∃ x, F a.block ∧ w.cell? ⟨a.block, a.off + (i * es + j), none⟩ = some x ∧ PRep nm w F x l := by
 cases hr with
 | pure h => cases h with
  | rs a cap _ _ f hs hcap hes hc hr =>
   exact ⟨a, cap, rfl, hcap, hs, fun i row hi => ⟨hes i row hi, fun j l hl => ⟨(hc i row j l hi hl).2.1, f i j, (hc i row j l hi hl).1, (hc i row j l hi hl).2.2, hr i row j l hi hl⟩⟩⟩
theorem yfp (I : Inv nm w F m h) {v : Value} {y : AV} {es : Nat} {ys : List (List AV)} (hv : Rep nm w F m (gens h) v y) (hr : y28 h es y = some ys) :
  (Builtin.lenOf v).run P w = .ok ys.length w ∧ ∀ n, n ≤ ys.length → ∃ cells : Array Value, (Builtin.firstCells es n v).run P w = .ok cells w ∧ RRep nm w F m (gens h) es cells (ys.take n) := by
 unfold y28 at hr
 split at hr
 ·injection hr with hr
  subst hr
  rw [hv.nils_inv]
  refine ⟨by simp [Builtin.lenOf], fun n hn => ⟨#[], by simp [Builtin.firstCells], ?_⟩⟩
  simp at hn
  subst hn
  exact ⟨by simp, fun i row hi => by simp at hi⟩
 ·rename_i es' rows
  split at hr
  ·rename_i he
   injection hr with hr
   subst hr
   subst he
   obtain ⟨ad, cap, rfl, hcap, hsp, hc⟩ := hv.rs_inv
   refine ⟨by simp [Builtin.lenOf], fun n hn => ?_⟩
   by_cases hn0 : n = 0
   ·subst hn0
    refine ⟨#[], ?_, by simp, fun i row hi => by simp at hi⟩
    simp [Builtin.firstCells, loadCells, loadCellsFrom]
   rw [y5v (hsp (by rintro rfl; simp at hn; omega))]
   obtain ⟨cells, h1, h2⟩ := ya5 (P := P) (b := ad.block) (o := ad.off) (m := m) (G := gens h) hn (fun i row hi => ⟨(hc i row hi).1, fun j l hl => by
    obtain ⟨a1, x, _, a3, a4⟩ := (hc i row hi).2 j l hl
    exact ⟨a1, x, a3, .pure a4⟩⟩)
   exact ⟨cells, by simpa [Builtin.firstCells] using h1, h2⟩
  ·cases hr
 ·rename_i id g esL off len
  split at hr
  ·rename_i fz es' rows hrows
   split at hr
   ·rename_i hc
    obtain ⟨hc1, hc2, hc3⟩ := hc
    injection hr with hr
    subst hr
    subst hc1; subst hc2
    obtain ⟨loc, hm, he, hcap, cs, ty, fr, hb, hfr, hsz, hcell⟩ := I.rows hrows
    obtain ⟨a, cap, rfl, hab, has, _, hao, hac, hlc⟩ := hv.ls_at hm
    have hlen : ((rows.drop off).take len).length = len := by simp; omega
    refine ⟨by simp [Builtin.lenOf, hlen], fun n hn => ?_⟩
    rw [hlen] at hn
    have hae : a = ⟨loc.blk, a.off, none⟩ := by rw [← hab]; exact y5v has
    have htake : ((rows.drop off).take len).take n = (rows.drop off).take n := by rw [List.take_take, Nat.min_eq_left hn]
    rw [htake]
    by_cases hn0 : n = 0
    ·subst hn0
     refine ⟨#[], ?_, by simp, fun i row hi => by simp at hi⟩
     simp [Builtin.firstCells, loadCells, loadCellsFrom]
    ·have hoff : a.off = loc.base + off * es' := by rw [← he]; exact hao (by omega)
     obtain ⟨cells, h1, h2⟩ := ya5 (P := P) (b := loc.blk) (o := a.off) (es := es') (n := n) (rows := rows.drop off) (G := gens h) (nm := nm) (F := F) (m := m) (w := w) (by simp; omega) (fun i row hi => by
      rw [z1l] at hi
      obtain ⟨b1, b2⟩ := hcell (off + i) row hi
      refine ⟨b1, fun j l hl => ?_⟩
      obtain ⟨c1, x, _, c2, c3⟩ := b2 j l hl
      refine ⟨c1, x, ?_, c3⟩
      rw [hoff, show loc.base + off * es' + (i * es' + j) = loc.base + ((off + i) * es' + j) by rw [z25]; omega]
      exact c2)
     refine ⟨cells, ?_, h2⟩
     rw [hae]
     simpa [Builtin.firstCells] using h1
   ·cases hr
  ·cases hr
 ·rename_i s
  split at hr
  ·rename_i he
   injection hr with hr
   subst hr
   subst he
   obtain ⟨b, rfl, hbs⟩ := hv.str_inv
   subst hbs
   have hsz : b.size = b.data.toList.length := by simp
   refine ⟨by simp [Builtin.lenOf], fun n hn => ⟨(b.extract 0 n).data.map fun b => .int .u8 b.toNat, by simp [Builtin.firstCells], ?_⟩⟩
   simp only [zy] at hn
   have hd : (b.extract 0 n).data.toList = b.data.toList.take n := by simp [ByteArray.data_extract]
   have hd2 : ∀ k, ((b.extract 0 n).data)[k]? = (b.data.toList.take n)[k]? := fun k => by rw [← hd, z1f]
   refine ⟨?_, fun i row hi => ?_⟩
   ·have := congrArg List.length hd
    simp only [z1e] at this
    simp only [Array.size_map, this]
    simp
   ·rw [z1v] at hi
    split at hi
    ·rename_i hin
     rw [z1a] at hi
     cases hbi : b.data.toList[i]? with
     | none => rw [hbi] at hi; cases hi
     | some c =>
      rw [hbi] at hi
      injection hi with hi
      subst hi
      refine ⟨rfl, fun j l hj => ?_⟩
      cases j with
      | succ j => simp at hj
      | zero =>
       simp at hj
       subst hj
       refine ⟨rfl, .int .u8 c.toNat, ?_, .pure (.int _ _)⟩
       rw [Array.getElem?_map, Nat.mul_one, z1p, hd2, z1v, if_pos hin, hbi]
       rfl
    ·cases hi
  ·cases hr
 ·cases hr
theorem ysg (n : Nat) : ∀ (r c : Nat), c ≤ 2 * n + 512 → Builtin.growBy n r c ≤ 2 * n + 512
 | 0, c, h => h
 | r + 1, c, h => by
  unfold Builtin.growBy
  split
  ·exact h
  ·exact ysg n r _ (by omega)
theorem yja {n c : Nat} (hc : c < n) : Builtin.nextslicecap n c ≤ 2 * n + 512 := by
 unfold Builtin.nextslicecap
 split
 ·omega
 ·split
  ·omega
  ·exact ysg n 4 c (by omega)
theorem ykv (n : Nat) : ∀ (r c : Nat), c ≤ n + n / 4 + 512 → Builtin.growBy n r c ≤ n + n / 4 + 512
 | 0, c, h => h
 | r + 1, c, h => by
  unfold Builtin.growBy
  split
  ·exact h
  ·exact ykv n r _ (by omega)
theorem yg7 {n c : Nat} (hc : c < n) : Builtin.nextslicecap n c ≤ n + n / 4 + 512 := by
 unfold Builtin.nextslicecap
 split
 ·omega
 ·split
  ·omega
  ·exact ykv n 4 c (by omega)
theorem RRep.append {G : List Nat} {es : Nat} {a b : Array Value} {xs ys : List (List AV)} (h1 : RRep nm w F m G es a xs) (h2 : RRep nm w F m G es b ys) : RRep nm w F m G es (a ++ b) (xs ++ ys) := by
 refine ⟨by rw [Array.size_append, h1.1, h2.1, zg, z25], fun i row hi => ?_⟩
 rw [z1j] at hi
 split at hi
 ·rename_i hlt
  refine ⟨(h1.2 i row hi).1, fun j l hj => ?_⟩
  obtain ⟨c1, v, c2, c3⟩ := (h1.2 i row hi).2 j l hj
  refine ⟨c1, v, ?_, c3⟩
  have hjl : j < es := by rw [← (h1.2 i row hi).1]; exact (zb.1 hj).1
  rw [z2l, if_pos (by rw [h1.1]; exact yq5 hlt hjl)]
  exact c2
 ·rename_i hge
  refine ⟨(h2.2 _ row hi).1, fun j l hj => ?_⟩
  obtain ⟨c1, v, c2, c3⟩ := (h2.2 _ row hi).2 j l hj
  refine ⟨c1, v, ?_, c3⟩
  have hmul : (i - xs.length) * es + xs.length * es = i * es := by rw [← z25]; congr 1; omega
  rw [z2l, if_neg (by rw [h1.1]; omega), h1.1]
  rw [show i * es + j - xs.length * es = (i - xs.length) * es + j by omega]
  exact c2
theorem RRep.grow {G : List Nat} {es : Nat} {a : Array Value} {xs : List (List AV)} (h1 : RRep nm w F m G es a xs) (r : Array Value) :
  ∀ (i : Nat) (row : List AV), xs[i]? = some row → row.length = es ∧ ∀ (j : Nat) (l : AV), row[j]? = some l → y19 l = true ∧ ∃ v, (a ++ r)[i * es + j]? = some v ∧ Rep nm w F m G v l := by
 intro i row hi
 refine ⟨(h1.2 i row hi).1, fun j l hj => ?_⟩
 obtain ⟨c1, v, c2, c3⟩ := (h1.2 i row hi).2 j l hj
 refine ⟨c1, v, ?_, c3⟩
 rw [z2l, if_pos (zo.1 c2).1]
 exact c2
theorem y1t1 (need old : Nat) (e : TypeId) (t : Nat) : need ≤ (Question.appendCap need old e).cut t := by
 simp only [Question.cut]; omega
structure AppT (P : Program) (t u e es bytes : Nat) : Prop where
 hu : P.underlying t = some (.slice e)
 hs : y3w P e es = true
 hes : 0 < es
 hb : P.bytesOf e = bytes
 hb0 : 0 < bytes
 hz : ∃ i z, P.info? e = some i ∧ i.zero = some z ∧ z.cells.size = es
 hy : ∃ d, P.underlying u = some d ∧ ∀ k, d ≠ .int k
theorem ybt {t u e es bytes : Nat} (H : AppT P t u e es bytes) {y : Value} {n : Nat} (ty : TypeId) {base : Option Addr} {len cap : Nat} {new : Array Value} {w' : World}
  (hn : (Builtin.lenOf y).run P w = .ok n w) (hle : len + n ≤ cap) (hnew : (Builtin.firstCells es n y).run P w = .ok new w)
  (hst : ((match base with | some a => storeCells (a.add (len * es)) new.toList | none => pure ()) : Sem Unit).run P w = .ok () w') :
  (Builtin.append_ #[t, u] ty #[.slice base len cap, y]).run P w = .ok (.slice base (len + n) cap) w' := by
 obtain ⟨i, z, hi, hz, hzs⟩ := H.hz
 obtain ⟨d, hd, hdi⟩ := H.hy
 unfold Builtin.append_
 simp only [List.getElem?_toArray, List.getElem?_cons_zero, List.getElem?_cons_succ, Sem.run_bind, yf H.hu, Result.andThen_ok, y37 H.hs]
 simp [yf hd, hn]
 rw [if_pos hle, hnew]
 simp only [Result.andThen_ok]
 cases base with
 | none =>
  simp only [Sem.run_pure] at hst ⊢
  injection hst with _ hst
  rw [hst]
 | some a => simp [hst]
theorem yac {t u e es bytes : Nat} (H : AppT P t u e es bytes) {y : Value} {n : Nat} (ty : TypeId) {base : Option Addr} {len cap : Nat} {old new : Array Value} {z : Value}
  (hn : (Builtin.lenOf y).run P w = .ok n w) (hgt : cap < len + n) (hbound : Builtin.nextslicecap (len + n) cap * bytes ≤ 2 ^ 48)
  (hold : (Builtin.firstCells es len (.slice base len cap)).run P w.drew = .ok old w.drew) (hnew : (Builtin.firstCells es n y).run P w.drew = .ok new w.drew) :
  ∃ (ncap : Nat) (rest : Array Value) (w' : World), len + n ≤ ncap ∧ rest.size = (ncap - (len + n)) * es ∧ w'.heap = w.heap.push (.cells (old ++ new ++ rest) e) ∧ w'.os = w.os ∧ w'.tape = w.tape ∧ w'.output = w.output ∧
   (Builtin.append_ #[t, u] ty #[.slice base len cap, y]).run P w = .ok (.slice (some ⟨w.heap.size, 0, none⟩) (len + n) ncap) w' := by
 obtain ⟨i, z, hi, hz, hzs⟩ := H.hz
 obtain ⟨d, hd, hdi⟩ := H.hy
 have hby : i.bytes = bytes := by rw [← H.hb]; simp [Program.bytesOf, hi]
 have hb0 : ¬ bytes = 0 := by have := H.hb0; omega
 refine ⟨(Question.appendCap (len + n) cap e).cut (w.tape w.drawn (.appendCap (len + n) cap e)),
  Builtin.zeroCells z.cells ((Question.appendCap (len + n) cap e).cut (w.tape w.drawn (.appendCap (len + n) cap e)) - (len + n)),
  { w.drew with heap := w.heap.push (.cells (old ++ new ++ Builtin.zeroCells z.cells ((Question.appendCap (len + n) cap e).cut (w.tape w.drawn (.appendCap (len + n) cap e)) - (len + n))) e) },
  y1t1 _ _ _ _, by simp [Builtin.zeroCells, hzs], rfl, rfl, rfl, rfl, ?_⟩
 unfold Builtin.append_
 simp only [List.getElem?_toArray, List.getElem?_cons_zero, List.getElem?_cons_succ, Sem.run_bind, yf H.hu, Result.andThen_ok, y37 H.hs]
 simp [yf hd, hn, yaa hi, hby, Question.forced, hb0]
 rw [if_neg (by omega), if_neg (by omega), hold]
 simp only [Result.andThen_ok, hnew, y2u hi hz, newRow, Sem.run_bind, run_newObj, Sem.run_pure, Array.append_assoc]
 rfl
theorem yut (I : Inv nm w F m h) {t u e es bytes : Nat} (H : AppT P t u e es bytes) {fb : Nat} {sl : Option Nat} {ty : TypeId} {v y : Value} {va ya : AV} {x : AV × Heap}
  (hv : Rep nm w F m (gens h) v va) (hy : Rep nm w F m (gens h) y ya) (hx : y1v fb sl es bytes va ya h = some x) :
  Does nm w F m h ((do pure (Next.value (← Builtin.append_ #[t, u] ty #[v, y])) : Sem Next).run P w) x := by
 unfold y1v at hx
 split at hx
 ·cases hx
 ·rename_i ys hys
  obtain ⟨hlen, hfirst⟩ := yfp (P := P) I hy hys
  obtain ⟨new, hnew, hnr⟩ := hfirst ys.length (zi _)
  rw [List.take_length] at hnr
  have Id : Inv nm w.drew F m h := I.heap rfl
  have hrd : ∀ {v a}, Rep nm w F m (gens h) v a → Rep nm w.drew F m (gens h) v a := fun hr => hr.mono (fun _ _ => rfl) (fun _ h => h) (fun _ g h => ⟨g, h, zi _⟩) (fun _ _ _ _ h _ _ => h)
  obtain ⟨hlend, hfirstd⟩ := yfp (P := P) Id (hrd hy) hys
  obtain ⟨newd, hnewd, hnrd⟩ := hfirstd ys.length (zi _)
  rw [List.take_length] at hnrd
  have hback : ∀ {v a}, Rep nm w.drew F m (gens h) v a → Rep nm w F m (gens h) v a := fun hr => hr.mono (fun _ _ => rfl) (fun _ h => h) (fun _ g h => ⟨g, h, zi _⟩) (fun _ _ _ _ h _ _ => h)
  have hnrb : RRep nm w F m (gens h) es newd ys := ⟨hnrd.1, fun i row hi => ⟨(hnrd.2 i row hi).1, fun j l hj => by
   obtain ⟨a1, x, a2, a3⟩ := (hnrd.2 i row hi).2 j l hj
   exact ⟨a1, x, a2, hback a3⟩⟩⟩
  split at hx
  ·rw [hv.nils_inv]
   split at hx
   ·rename_i hemp
    injection hx with hx
    subst hx
    have hn0 : ys.length = 0 := by simpa using hemp
    rw [hn0] at hlen hnew
    have hrun := ybt H ty (base := none) (len := 0) (cap := 0) hlen (zi _) hnew rfl
    rw [yhs hrun]
    exact Does.same I rfl (.pure .nils)
   ·rename_i hne
    split at hx
    ·rename_i hbound
     have hn0 : 0 < ys.length := by
      cases ys with
      | nil => simp at hne
      | cons => simp
     have hnc : Builtin.nextslicecap (0 + ys.length) 0 = ys.length := by
      unfold Builtin.nextslicecap; rw [if_pos (by omega)]; omega
     obtain ⟨ncap, rest, w', h1, h2, h3, h4, h5, h6, hrun⟩ := yac H ty (base := none) (len := 0) (cap := 0) (old := #[]) (z := undef) hlen (by omega) (by rw [hnc]; exact hbound)
      (by simp [Builtin.firstCells]) hnewd
     rw [yhs hrun]
     rw [zd] at h1 h2 hrun ⊢
     exact y6m I hx h3 h4 h5 h6 (ya0 _) h1 (by
      simp only [Array.size_append, h2, hnrb.1]
      have : ncap * es = ys.length * es + (ncap - ys.length) * es := by rw [← z25]; congr 1; omega
      simp; omega) (by simpa using hnrb.grow rest)
    ·cases hx
  ·rename_i id g esL off len
   split at hx
   ·rename_i g' es' rows ho
    split at hx
    ·rename_i hc
     obtain ⟨hc1, hc2, hc3, hc4, hc5⟩ := hc
     injection hx with hx
     subst hx
     subst hc1; subst hc2; subst hc3
     have hidl : id < h.length := (zb.1 ho).1
     have hrows : yr h id g' = some (false, es', rows) := by simp [yr, y23, ho]
     obtain ⟨loc, hm, he, hcap, cs, tyb, fr, hb, hfr, hsz, hcell⟩ := I.rows hrows
     obtain ⟨a, cap, rfl, hab, has, _, hao, hac, hlc⟩ := hv.ls_at hm
     have hae : a = ⟨loc.blk, a.off, none⟩ := by rw [← hab]; exact y5v has
     have hlt : loc.blk < w.heap.size := (zo.1 hb).1
     have hcellr : ∀ (i : Nat) (row : List AV), ((rows.drop off).take len)[i]? = some row → i < len ∧ row.length = es' ∧ ∀ (j : Nat) (l : AV), row[j]? = some l →
       y19 l = true ∧ ∃ v, cs[loc.base + off * es' + (i * es' + j)]? = some v ∧ Rep nm w F m (gens h) v l := by
      intro i row hi
      rw [z1v] at hi
      split at hi
      ·rename_i hil
       rw [z1l] at hi
       obtain ⟨b1, b2⟩ := hcell (off + i) row hi
       refine ⟨hil, b1, fun j l hl => ?_⟩
       obtain ⟨c1, x, c2, _, c3⟩ := b2 j l hl
       refine ⟨c1, x, ?_, c3⟩
       rw [show loc.base + off * es' + (i * es' + j) = loc.base + ((off + i) * es' + j) by rw [z25]; omega]
       exact c2
      ·cases hi
     have hseg : loc.base + off * es' + cap * es' ≤ cs.size := by
      have : (off + cap) * es' ≤ loc.cap * es' := z1q _ hac
      rw [z25] at this
      omega
     by_cases hfit : len + ys.length ≤ cap
     ·-- in place
      have hstore : ∃ w', ((match some a with | some a => storeCells (a.add (len * es')) new.toList | none => pure ()) : Sem Unit).run P w = .ok () w' ∧
        w'.os = w.os ∧ w'.tape = w.tape ∧ w'.output = w.output ∧ w.heap.size ≤ w'.heap.size ∧ (∀ b, b ≠ loc.blk → b < w.heap.size → w'.heap[b]? = w.heap[b]?) ∧
        ∃ cs' : Array Value, w'.heap[loc.blk]? = some (.cells cs' tyb fr) ∧ cs'.size = cs.size ∧
         ∀ k, cs'[k]? = if k < loc.base + off * es' + len * es' then cs[k]? else if k < loc.base + off * es' + len * es' + ys.length * es' then new[k - (loc.base + off * es' + len * es')]? else cs[k]? := by
       by_cases hc0 : cap = 0
       ·have hy0 : ys.length = 0 := by omega
        have hnew0 : new = #[] := by
         apply z32
         rw [hnr.1, hy0, z3m]
        refine ⟨w, by simp [hnew0, storeCells], rfl, rfl, rfl, zi _, fun _ _ _ => rfl, cs, hb, rfl, fun k => ?_⟩
        rw [hy0, z3m, z1p]
        by_cases hk : k < loc.base + off * es' + len * es' <;> simp [hk]
       ·have hoff : a.off = loc.base + off * es' := by rw [← he]; exact hao (by omega)
        have hl2 : loc.base + off * es' + len * es' + 0 + new.toList.length ≤ cs.size := by
         have : (len + ys.length) * es' ≤ cap * es' := z1q _ hfit
         rw [z25] at this
         rw [z1e, hnr.1]
         omega
        have hone : ∀ z ∈ new.toList, z.oneCell' = true := by
         intro z hz
         obtain ⟨k, hk⟩ := zz hz
         have hkl : k < ys.length * es' := by rw [← hnr.1]; have := (zb.1 hk).1; simpa using this
         have hi : k / es' < ys.length := (Nat.div_lt_iff_lt_mul H.hes).2 hkl
         obtain ⟨b1, b2⟩ := hnr.2 (k / es') _ (z9 hi)
         have hj : k % es' < es' := z3n _ H.hes
         obtain ⟨c1, x, c2, c3⟩ := b2 (k % es') _ (z9 (by omega))
         rw [show k / es' * es' + k % es' = k by rw [z3l]; exact Nat.div_add_mod k es'] at c2
         have : z = x := by
          rw [z1f, c2] at hk
          injection hk with hk
          exact hk.symm
         rw [this]
         exact (c3.leaf c1).1
        have hrun := y3s (P := P) new.toList (loc.base + off * es' + len * es') 0 cs w hb hfr hl2 hone
        refine ⟨y2y w loc.blk (.cells (y43 cs (loc.base + off * es' + len * es' + 0) new.toList) tyb fr), by rw [hae]; simp only [y3u, hoff]; exact hrun, rfl, rfl, rfl, by simp [y2y], fun b hne _ => by rw [y35, if_neg (fun e => hne e.1.symm)], y43 cs (loc.base + off * es' + len * es' + 0) new.toList, by rw [y35, if_pos ⟨rfl, hlt⟩],
         yas (by omega), fun k => ?_⟩
        rw [y67 (by omega)]
        simp only [Nat.add_zero, z1e, hnr.1, z1f]
      obtain ⟨w', hst, g1, g2, g3, g4, g5, cs', g6, g7, g8⟩ := hstore
      have hrun := ybt H ty (base := some a) hlen hfit hnew hst
      rw [yhs hrun]
      obtain ⟨m', hm', hI, hT⟩ := ybc (w' := w') (h' := h.set id ⟨g' + 1, .arr false false es' ((rows.drop off).take len ++ ys)⟩) (g' := g' + 1) (o := .arr false false es' ((rows.drop off).take len ++ ys))
       (loc := ⟨loc.blk, loc.base + off * es', es', cap, 0⟩) (id := id) I g1 g2 g3 g4 g5 (.inr ⟨g', loc, _, hm, ho, rfl, rfl⟩) (fun j hj => by rw [z17 (fun e => hj e.symm)]) (by simp [hidl]) rfl
       (.inl fun g0 hg0 => by rw [y1n, ho] at hg0; injection hg0 with hg0; simp only at hg0; omega)
       (fun _ _ hq => by rw [hb] at hq; cases hq)
       (fun m' _ hrep => ⟨rfl, cs', tyb, fr, g6, by rw [g7]; exact hfr, by rw [g7]; exact hseg, by simp; omega, fun i row hi => by
        rw [z1j] at hi
        have hrl : ((rows.drop off).take len).length = len := by simp; omega
        rw [hrl] at hi
        split at hi
        ·rename_i hil
         obtain ⟨_, b1, b2⟩ := hcellr i row hi
         refine ⟨b1, fun j l hj => ?_⟩
         obtain ⟨c1, x, c2, c3⟩ := b2 j l hj
         have hjl : j < es' := by rw [← b1]; exact (zb.1 hj).1
         refine ⟨c1, x, ?_, hrep _ _ c3⟩
         rw [g8, if_pos (by have := yq5 (es := es') hil hjl; simp only; omega)]
         exact c2
        ·rename_i hil
         obtain ⟨b1, b2⟩ := hnr.2 _ row hi
         have hi2 : i - len < ys.length := (zb.1 hi).1
         refine ⟨b1, fun j l hj => ?_⟩
         obtain ⟨c1, x, c2, c3⟩ := b2 j l hj
         have hjl : j < es' := by rw [← b1]; exact (zb.1 hj).1
         refine ⟨c1, x, ?_, hrep _ _ c3⟩
         have hmul : i * es' = len * es' + (i - len) * es' := by rw [← z25]; congr 1; omega
         have := yq5 (es := es') hi2 hjl
         simp only
         rw [g8, if_neg (by omega), if_pos (by omega), show loc.base + off * es' + (i * es' + j) - (loc.base + off * es' + len * es') = (i - len) * es' + j by omega]
         exact c2⟩)
      refine ⟨_, w', F, m', .inl rfl, hI, hT, ?_⟩
      refine .ls id (g' + 1) es' 0 (len + ys.length) cap a ⟨loc.blk, loc.base + off * es', es', cap, 0⟩ ⟨g' + 1, by rw [y1n]; simp [hidl], zi _⟩ (fun loc' hl => ?_) hab has rfl (fun hc0 => ?_) (by simp) hfit
      ·rw [hm'] at hl
       simp at hl
       exact hl.symm
      ·simp only [z3m, Nat.add_zero]
       rw [hao hc0, he]
     ·-- a new array
      have hold : ∃ old : Array Value, (Builtin.firstCells es' len (.slice (some a) len cap)).run P w.drew = .ok old w.drew ∧ RRep nm w F m (gens h) es' old ((rows.drop off).take len) := by
       by_cases hl0 : len = 0
       ·subst hl0
        exact ⟨#[], by simp [Builtin.firstCells, loadCells, loadCellsFrom], by simp, fun i row hi => by simp at hi⟩
       ·have hoff : a.off = loc.base + off * es' := by rw [← he]; exact hao (by omega)
        obtain ⟨cells, h1, h2⟩ := ya5 (P := P) (b := loc.blk) (o := a.off) (es := es') (n := len) (rows := (rows.drop off).take len) (G := gens h) (nm := nm) (F := F) (m := m) (w := w.drew) (by simp; omega) (fun i row hi => by
         obtain ⟨hil, b1, b2⟩ := hcellr i row hi
         refine ⟨b1, fun j l hl => ?_⟩
         obtain ⟨c1, x, c2, c3⟩ := b2 j l hl
         refine ⟨c1, x, ?_, hrd c3⟩
         rw [hoff]
         have : w.drew.heap = w.heap := rfl
         simp [World.cell?, this, hb, c2])
        rw [z2c (by simp; omega)] at h2
        refine ⟨cells, by rw [hae]; simpa [Builtin.firstCells] using h1, h2.1, fun i row hi => ⟨(h2.2 i row hi).1, fun j l hj => by
         obtain ⟨a1, x, a2, a3⟩ := (h2.2 i row hi).2 j l hj
         exact ⟨a1, x, a2, hback a3⟩⟩⟩
      obtain ⟨old, ho1, ho2⟩ := hold
      have hbound : Builtin.nextslicecap (len + ys.length) cap * bytes ≤ 2 ^ 48 := hc5.elim (z1o (z1q _ (yja (by omega)))) (z1o (z1q _ (yg7 (by omega))))
      obtain ⟨ncap, rest, w', h1, h2, h3, h4, h5, h6, hrun⟩ := yac H ty (z := undef) hlen (by omega) hbound ho1 hnewd
      rw [yhs hrun]
      have hboth := ho2.append hnrb
      have hrl : ((rows.drop off).take len ++ ys).length = len + ys.length := by simp; omega
      obtain ⟨m', hm', hI, hT⟩ := ybc (w' := w') (h' := h.set id ⟨g' + 1, .arr false false es' ((rows.drop off).take len ++ ys)⟩) (g' := g' + 1) (o := .arr false false es' ((rows.drop off).take len ++ ys))
       (loc := ⟨w.heap.size, 0, es', ncap, 0⟩) (id := id) I h4 h5 h6 (by rw [h3]; simp) (fun b hne hlt => by rw [h3, z3i, if_neg (by omega)]) (.inl (zi _))
       (fun j hj => by rw [z17 (fun e => hj e.symm)]) (by simp [hidl]) rfl
       (.inl fun g0 hg0 => by rw [y1n, ho] at hg0; injection hg0 with hg0; simp only at hg0; omega)
       (fun _ _ hq => by simp only [Array.getElem?_eq_none (zi _)] at hq; cases hq)
       (fun m' _ hrep => ⟨rfl, old ++ newd ++ rest, e, (0, 0), by rw [h3]; simp, ya0 _, by
        have : ncap * es' = (len + ys.length) * es' + (ncap - (len + ys.length)) * es' := by rw [← z25]; congr 1; omega
        have hb1 := hboth.1
        rw [hrl] at hb1
        rw [Array.size_append, hb1, h2]
        simp only
        omega, by rw [hrl]; exact h1, fun i row hi => by
         obtain ⟨b1, b2⟩ := hboth.grow rest i row hi
         refine ⟨b1, fun j l hj => ?_⟩
         obtain ⟨c1, x, c2, c3⟩ := b2 j l hj
         exact ⟨c1, x, by simpa using c2, hrep _ _ c3⟩⟩)
      refine ⟨_, w', F, m', .inl rfl, hI, hT, ?_⟩
      refine .ls id (g' + 1) es' 0 (len + ys.length) ncap ⟨w.heap.size, 0, none⟩ ⟨w.heap.size, 0, es', ncap, 0⟩ ⟨g' + 1, by rw [y1n]; simp [hidl], zi _⟩ (fun loc' hl => ?_) rfl rfl rfl (fun _ => by simp) (by simp) h1
      rw [hm'] at hl
      simp at hl
      exact hl.symm
    ·cases hx
   ·cases hx
  ·cases hx
end Go.Vm
/- The value machine: copying; numbers, texts, comparisons, parts of values, maps, against the model. -/
namespace Go.Vm
variable {P : Program} {nm : Nat → Option Nat} {w : World} {F : Nat → Prop} {m : MapT} {h : Heap}
theorem RRep.one {G : List Nat} {es : Nat} {cells : Array Value} {ys : List (List AV)} (hes : 0 < es) (hr : RRep nm w F m G es cells ys) : ∀ z ∈ cells.toList, z.oneCell' = true := by
 intro z hz
 obtain ⟨k, hk⟩ := zz hz
 have hkl : k < ys.length * es := by rw [← hr.1]; have := (zb.1 hk).1; simpa using this
 have hi : k / es < ys.length := (Nat.div_lt_iff_lt_mul hes).2 hkl
 obtain ⟨b1, b2⟩ := hr.2 (k / es) _ (z9 hi)
 have hj : k % es < es := z3n _ hes
 obtain ⟨c1, x, c2, c3⟩ := b2 (k % es) _ (z9 (by omega))
 rw [show k / es * es + k % es = k by rw [z3l]; exact Nat.div_add_mod k es] at c2
 have : z = x := by
  rw [z1f, c2] at hk
  injection hk with hk
  exact hk.symm
 rw [this]
 exact (c3.leaf c1).1
theorem y8p (b : ByteArray) : b.toList = b.data.toList := by
 have key : ∀ (n i : Nat) (r : List UInt8), b.size - i = n → ByteArray.toList.loop b i r = r.reverse ++ b.data.toList.drop i := by
  intro n
  induction n with
  | zero =>
   intro i r hn
   unfold ByteArray.toList.loop
   rw [if_neg (by omega)]
   rw [z14 (by simp; have : b.size = b.data.size := rfl; omega)]
   simp
  | succ n ih =>
   intro i r hn
   unfold ByteArray.toList.loop
   have hlt : i < b.size := by omega
   rw [if_pos hlt, ih (i + 1) _ (by omega)]
   have hlt2 : i < b.data.toList.length := by simpa using hlt
   rw [List.reverse_cons, z1m, zk hlt2]
   congr 1
   simp only [List.singleton_append, List.cons.injEq, and_true]
   have : b.get! i = b.data.toList[i] := by
    obtain ⟨d⟩ := b
    have hd : i < d.size := hlt
    show d[i]! = d.toList[i]
    rw [getElem!_pos d i hd]
    simp
   exact this
 have := key b.size 0 [] rfl
 unfold ByteArray.toList
 rw [this]
 simp
theorem yfx : ∀ a b : List UInt8, Op.bytesLess a b = yc8 a b
 | a, [] => by cases a <;> rfl
 | [], _ :: _ => rfl
 | a :: x, b :: y => by simp [Op.bytesLess, yc8, yfx x y]
theorem yuo {op : BinOp} {t : Nat} {ox oy : Operand} {v u : Value} {va ua r : AV} {G : List Nat} (hv : Rep nm w F m G v va) (hu : Rep nm w F m G u ua) (hr : yb op va ua = some r) :
  ∃ x, (do eqGuard op t ox oy v u; binOp op t v u : Sem Value).run P w = .ok x w ∧ Rep nm w F m G x r := by
 unfold yb at hr
 split at hr
 ·rename_i k a k' b
  have e1 := hv.int_inv
  have e2 := hu.int_inv
  subst e1; subst e2
  have hg : (eqGuard op t ox oy (.int k a) (.int k' b)).run P w = .ok () w := by
   unfold eqGuard
   cases op <;> simp
  simp only [Sem.run_bind, hg, Result.andThen_ok]
  by_cases hsh : y4v op = true
  ·rw [if_pos hsh] at hr
   unfold ygv at hr
   split at hr
   ·cases hr
   ·rename_i hb0
    cases op <;> first | cases hsh | skip
    ·injection hr with hr
     subst hr
     exact ⟨_, by simp [binOp, Op.shift, hb0], .pure (.int _ _)⟩
    ·injection hr with hr
     subst hr
     exact ⟨_, by simp [binOp, Op.shift, hb0], .pure (.int _ _)⟩
  ·rw [if_neg hsh] at hr
   split at hr
   ·rename_i hk
    subst hk
    cases op <;> simp only [yb0] at hr <;> first
     | (exact absurd rfl hsh)
     | (injection hr with hr; subst hr; exact ⟨_, by simp [binOp, Op.intArith, Op.intBits, Op.intCmp], .pure (.int _ _)⟩)
     | (injection hr with hr; subst hr; exact ⟨_, by simp [binOp, Op.intArith, Op.intBits, Op.intCmp], .pure (.bool _)⟩)
     | (split at hr
        · cases hr
        · rename_i hz
          injection hr with hr
          subst hr
          exact ⟨_, by simp [binOp, Op.intDiv, hz], .pure (.int _ _)⟩)
   ·cases hr
 ·rename_i a b
  obtain ⟨x, rfl, hx⟩ := hv.str_inv
  obtain ⟨y, rfl, hy⟩ := hu.str_inv
  have hg : (eqGuard op t ox oy (.string x) (.string y)).run P w = .ok () w := by
   unfold eqGuard
   cases op <;> simp
  simp only [Sem.run_bind, hg, Result.andThen_ok]
  have hxl : x.toList = a := by rw [y8p, hx]
  have hyl : y.toList = b := by rw [y8p, hy]
  have hxs : x.size = a.length := by rw [← hx]; simp
  have hys : y.size = b.length := by rw [← hy]; simp
  cases op <;> simp only [y11l] at hr <;> first
   | (injection hr with hr; subst hr; exact ⟨_, by simp only [binOp, Op.stringOp, hxl, hyl, yfx]; rfl, .pure (.bool _)⟩)
   | (split at hr
      · rename_i hlen
        injection hr with hr
        subst hr
        refine ⟨.string (x ++ y), ?_, ?_⟩
        · simp only [binOp, Op.stringOp]
          rw [if_neg (by rw [hxs, hys]; simp [IntKind.max, IntKind.bits, IntKind.signed]; omega)]
          rfl
        · have := PRep.str (nm := nm) (w := w) (F := F) (x ++ y)
          rw [show (x ++ y).data.toList = a ++ b by rw [ByteArray.data_append]; simp [hx, hy]] at this
          exact .pure this
      · cases hr)
   | cases hr
 ·cases hr
end Go.Vm
