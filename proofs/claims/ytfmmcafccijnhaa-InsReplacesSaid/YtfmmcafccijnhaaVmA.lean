/- The value machine: values, heap, operations, code, and how they are evaluated. Nothing here speaks of the translated program. -/
import Derived.Orders
namespace Go.Vm

/-- Values. 'rp', 'rs', 'rm': what is only read; 'lp', 'ls', 'lm': references into the heap, with the generation of the object. -/
inductive AV where
  | undef
  | int (k : IntKind) (n : Int)
  | bool (b : Bool)
  | str (s : List UInt8)
  | nilp
  | nils
  | nilm
  | rp (cells : List AV)
  | rs (es : Nat) (elems : List (List AV))
  | rm (entries : List (AV × AV))
  | lp (id g i off : Nat)
  | ls (id g es off len : Nat)
  | lm (id g : Nat)
  | agg (cells : List AV)
  | tup (vs : List AV)
  | fn (f : Nat) (caps : List AV)
  deriving Inhabited

/-- What an object holds: rows of cells ('bx': a variable of its own, one row), or a map's entries. -/
inductive OC where
  | dead
  | arr (bx fz : Bool) (es : Nat) (elems : List (List AV))
  | map (fz : Bool) (entries : List (AV × AV))
  deriving Inhabited

structure AO where
  gen : Nat
  c : OC
  deriving Inhabited

abbrev Heap := List AO

inductive Opd where
  | t (n : Nat)
  | c (v : AV)
  deriving Inhabited

/-- Operations; 'sl' is the place of a new object in the frame's own part of the heap (none: at the heap's end). -/
inductive COp where
  | mv (x : Opd)
  | pick (c a b : Opd)
  | new (sl : Option Nat) (cells : List AV)
  | box (sl : Option Nat) (x : Opd)
  | build (zero : List AV) (parts : List (Nat × Nat × Opd))
  | buildS (sl : Option Nat) (es len : Nat) (zero : List AV) (parts : List (Nat × Opd))
  | ld (agg : Bool) (n : Nat) (a : Opd)
  | st (n : Nat) (a v : Opd)
  | nilchk (x : Opd)
  | bin (op : BinOp) (x y : Opd)
  | eqn (k : Nat) (neq : Bool) (x y : Opd)
  | eqa (neq : Bool) (ks : List Nat) (x y : Opd)
  | eqb (neq : Bool) (x y : Opd)
  | un (op : UnOp) (x : Opd)
  | cvi (k : IntKind) (x : Opd)
  | s2b (sl : Option Nat) (x : Opd)
  | b2s (x : Opd)
  | mkS (sl : Option Nat) (es bytes : Nat) (zero : List AV) (len cap : Opd)
  | slc (es : Nat) (x : Opd) (lo hi : Option Opd)
  | sls (x : Opd) (lo hi : Option Opd)
  | fa (off : Nat) (x : Opd)
  | fld (agg : Bool) (off n : Nat) (x : Opd)
  | ixs (es : Nat) (x i : Opd)
  | ixa (len es : Nat) (x i : Opd)
  | ixv (agg : Bool) (len es : Nat) (x i : Opd)
  | ixstr (x i : Opd)
  | ext (i : Nat) (x : Opd)
  | len (k : Nat) (x : Opd)
  | app (sl : Option Nat) (es bytes : Nat) (x y : Opd)
  | cpy (es : Nat) (x y : Opd)
  | minmax (isMax : Bool) (x y : Opd)
  | call (sl : Option Nat) (ro : Bool) (f : Nat) (args : List Opd)
  | callv (sl : Option Nat) (ro : Bool) (f : Opd) (args : List Opd)
  | mkf (f : Nat) (caps : List Opd)
  | mkm (sl : Option Nat)
  | mget (agg : Bool) (ks : List Nat) (zero : AV) (commaOk : Bool) (x k : Opd)
  | mput (agg : Bool) (ks : List Nat) (m k v : Opd)
  | mdel (agg : Bool) (ks : List Nat) (m k : Opd)
  | mclr (m : Opd)
  deriving Inhabited

/-- An operation with where its value goes, and its guard: a temporary, and what it must be. -/
structure CI where
  dst : Option Nat
  op : COp
  g : Option (Nat × Bool)
  deriving Inhabited

inductive CCode where
  | skip
  | region (ops : List CI)
  /-- Operations whose order is open: 'n' places are laid ahead; 'pairs': temporaries that must name different objects. -/
  | draw (ops : List CI) (pairs : List (Nat × Nat))
  | seq (a b : CCode)
  | cond (c : Opd) (a b : CCode)
  | block (id : Nat) (a : CCode)
  | loop (live : List Nat) (a : CCode)
  | exit (id : Nat)
  | ret
  deriving Inhabited

inductive CRes where
  | t (n : Nat)
  | cell (n : Nat) (agg : Bool) (size : Nat)
  deriving Inhabited

/-- A function; 'pure': it is called with what is only read, and its results are moved to the caller. -/
structure CFunc where
  params : Nat
  pure : Bool
  slots : Nat
  body : CCode
  results : List CRes
  deriving Inhabited

abbrev Tmps := List (Nat × AV)

structure St where
  t : Tmps
  h : Heap

inductive Res where
  | norm
  | exit (id : Nat)
  | ret

def tget : Tmps → Nat → AV
  | [], _ => .undef
  | (j, v) :: r, i => if j = i then v else tget r i

def tput (d : Option Nat) (v : AV) (t : Tmps) : Tmps :=
  match d with
  | some d => (d, v) :: t
  | none => t

def restrict (live : List Nat) (t : Tmps) : Tmps := live.map fun i => (i, tget t i)

def Opd.ev (t : Tmps) : Opd → AV
  | .t n => tget t n
  | .c v => v

def cellsOf : AV → List AV
  | .agg cs => cs
  | v => [v]

/-- May it lie in one cell? -/
def leaf1 : AV → Bool
  | .undef | .agg _ | .tup _ => false
  | _ => true

/-- A value that names no object. -/
def pure1 : AV → Bool
  | .int .. | .bool _ | .str _ | .nilp | .nils | .nilm | .rp _ | .rs .. | .rm _ => true
  | .fn _ caps => caps.isEmpty
  | _ => false

/-- A value that leads to no memory at all. -/
def scalar1 : AV → Bool
  | .int .. | .bool _ | .str _ | .nilp | .nils | .nilm => true
  | .rp cs => cs.isEmpty
  | .rs _ rows => rows.isEmpty
  | .fn _ caps => caps.isEmpty
  | _ => false

def objAt (h : Heap) (id g : Nat) : Option OC :=
  match h[id]? with
  | some o => if o.gen = g then some o.c else none
  | none => none

def rowsAt (h : Heap) (id g : Nat) : Option (Bool × Nat × List (List AV)) :=
  match objAt h id g with
  | some (.arr _ fz es rows) => some (fz, es, rows)
  | _ => none

def setRows (h : Heap) (id : Nat) (rows : List (List AV)) : Heap :=
  match h[id]? with
  | some ⟨g, .arr bx fz es _⟩ => h.set id ⟨g, .arr bx fz es rows⟩
  | _ => h

/-- A new object: its place and generation, and the heap with it. -/
def place (fb : Nat) (sl : Option Nat) (c : OC) (h : Heap) : Option (Nat × Nat × Heap) :=
  match sl with
  | none => some (h.length, 0, h ++ [⟨0, c⟩])
  | some j =>
    match h[fb + j]? with
    | some o => some (fb + j, o.gen + 1, h.set (fb + j) ⟨o.gen + 1, c⟩)
    | none => none

def asNat (v : AV) (hi : Nat) : Option Nat :=
  match v with
  | .int _ n => if 0 ≤ n ∧ n ≤ hi then some n.toNat else none
  | _ => none

def spliceAt (off : Nat) (vs row : List AV) : List AV := row.take off ++ vs ++ row.drop (off + vs.length)

def known : AV → Bool
  | .undef => false
  | _ => true

def fillParts : List (Nat × Nat × AV) → List AV → Option (List AV)
  | [], cs => some cs
  | (off, n, v) :: r, cs =>
    if known v = true ∧ (cellsOf v).length = n ∧ off + n ≤ cs.length then fillParts r (spliceAt off (cellsOf v) cs) else none

def fillRows (es : Nat) : List (Nat × AV) → List (List AV) → Option (List (List AV))
  | [], rows => some rows
  | (i, v) :: r, rows =>
    if (cellsOf v).length = es ∧ i < rows.length ∧ (cellsOf v).all leaf1 = true then fillRows es r (rows.set i (cellsOf v)) else none

def aggOr (agg : Bool) (n : Nat) (cs : List AV) : Option AV :=
  if agg then (if n ≤ cs.length then some (.agg (cs.take n)) else none) else cs.head?

/-- The rows that an append or a copy takes out of a value. -/
def rowsOf (h : Heap) (es : Nat) : AV → Option (List (List AV))
  | .nils => some []
  | .rs es' rows => if es' = es then some rows else none
  | .ls id g es1 off len =>
    match rowsAt h id g with
    | some (_, es', rows) => if es1 = es ∧ es' = es ∧ off + len ≤ rows.length then some ((rows.drop off).take len) else none
    | none => none
  | .str s => if es = 1 then some (s.map fun b => [.int .u8 b.toNat]) else none
  | _ => none

def bytesLt : List UInt8 → List UInt8 → Bool
  | _, [] => false
  | [], _ :: _ => true
  | a :: x, b :: y => a < b || (a == b && bytesLt x y)

def binInt (op : BinOp) (k : IntKind) (a b : Int) : Option AV :=
  match op with
  | .add => some (.int k (k.wrap (a + b)))
  | .sub => some (.int k (k.wrap (a - b)))
  | .mul => some (.int k (k.wrap (a * b)))
  | .quo => if b = 0 then none else some (.int k (k.wrap (a.tdiv b)))
  | .rem => if b = 0 then none else some (.int k (a.tmod b))
  | .and => some (.int k (k.wrap (BitVec.ofInt k.bits a &&& BitVec.ofInt k.bits b).toNat))
  | .or => some (.int k (k.wrap (BitVec.ofInt k.bits a ||| BitVec.ofInt k.bits b).toNat))
  | .xor => some (.int k (k.wrap (BitVec.ofInt k.bits a ^^^ BitVec.ofInt k.bits b).toNat))
  | .andNot => some (.int k (k.wrap (BitVec.ofInt k.bits a &&& ~~~(BitVec.ofInt k.bits b)).toNat))
  | .eql => some (.bool (a == b))
  | .neq => some (.bool (a != b))
  | .lss => some (.bool (a < b))
  | .leq => some (.bool (a ≤ b))
  | .gtr => some (.bool (a > b))
  | .geq => some (.bool (a ≥ b))
  | .shl => none
  | .shr => none

def shiftInt (op : BinOp) (k : IntKind) (a b : Int) : Option AV :=
  if b < 0 then none else
  match op with
  | .shl => some (.int k (k.wrap (a * 2 ^ (min b.toNat k.bits))))
  | .shr => some (.int k (a.fdiv (2 ^ (min b.toNat k.bits))))
  | _ => none

def binStr (op : BinOp) (a b : List UInt8) : Option AV :=
  match op with
  | .add => if a.length + b.length ≤ 2 ^ 62 then some (.str (a ++ b)) else none
  | .eql => some (.bool (a == b))
  | .neq => some (.bool (!(a == b)))
  | .lss => some (.bool (bytesLt a b))
  | .leq => some (.bool (bytesLt a b || a == b))
  | .gtr => some (.bool (!(bytesLt a b || a == b)))
  | .geq => some (.bool (!(bytesLt a b)))
  | _ => none

def isShift : BinOp → Bool
  | .shl | .shr => true
  | _ => false

def evBin (op : BinOp) (x y : AV) : Option AV :=
  match x, y with
  | .int k a, .int k' b => if isShift op then shiftInt op k a b else if k = k' then binInt op k a b else none
  | .str a, .str b => binStr op a b
  | _, _ => none

/-- Is it nothing? (0: a pointer, 1: a slice, 2: a map.) -/
def isNil : Nat → AV → Option Bool
  | 0, .nilp => some true
  | 0, .rp _ => some false
  | 0, .lp .. => some false
  | 1, .nils => some true
  | 1, .rs .. => some false
  | 1, .ls .. => some false
  | 2, .nilm => some true
  | 2, .rm _ => some false
  | 2, .lm .. => some false
  | _, _ => none

/-- Two values of which one at least is nothing: the same? -/
def evEqn (k : Nat) (x y : AV) : Option Bool :=
  match isNil k x, isNil k y with
  | some true, some b => some b
  | some b, some true => some b
  | _, _ => none

/-- Two leaves of one kind (0: whole numbers, 1: bools, 2: texts): the same? -/
def leafEq : Nat → AV → AV → Option Bool
  | 0, .int k a, .int k' b => if k = k' then some (a == b) else none
  | 1, .bool a, .bool b => some (a == b)
  | 2, .str a, .str b => some (a == b)
  | _, _, _ => none

def leavesEq : List Nat → List AV → List AV → Option Bool
  | [], [], [] => some true
  | k :: ks, x :: xs, y :: ys =>
    match leafEq k x y, leavesEq ks xs ys with
    | some a, some b => some (a && b)
    | _, _ => none
  | _, _, _ => none

def keyEq (agg : Bool) (ks : List Nat) (x y : AV) : Option Bool :=
  if agg then match x, y with
    | .agg a, .agg b => leavesEq ks a b
    | _, _ => none
  else match ks with
    | [k] => leafEq k x y
    | _ => none

def mfind (agg : Bool) (ks : List Nat) (k : AV) : List (AV × AV) → Option (Option AV)
  | [] => some none
  | (k', v) :: r =>
    match keyEq agg ks k k' with
    | some true => some (some v)
    | some false => mfind agg ks k r
    | none => none

def mset (agg : Bool) (ks : List Nat) (k v : AV) : List (AV × AV) → Option (List (AV × AV))
  | [] => some [(k, v)]
  | (k', v') :: r =>
    match keyEq agg ks k k' with
    | some true => some ((k, v) :: r)
    | some false => (mset agg ks k v r).map ((k', v') :: ·)
    | none => none

def mdrop (agg : Bool) (ks : List Nat) (k : AV) : List (AV × AV) → Option (List (AV × AV))
  | [] => some []
  | (k', v') :: r =>
    match keyEq agg ks k k' with
    | some true => some r
    | some false => (mdrop agg ks k r).map ((k', v') :: ·)
    | none => none

def mapAt (h : Heap) (id g : Nat) : Option (Bool × List (AV × AV)) :=
  match objAt h id g with
  | some (.map fz es) => some (fz, es)
  | _ => none

def setMap (h : Heap) (id : Nat) (es : List (AV × AV)) : Heap :=
  match h[id]? with
  | some ⟨g, .map fz _⟩ => h.set id ⟨g, .map fz es⟩
  | _ => h

/-- What is told of a value that is made one that is only read: the value, whether it leads to no memory but what was passed, the objects passed. -/
structure Fz (α : Type) where
  v : α
  fresh : Bool
  ids : List Nat

def fzList {α β : Type} (f : α → Option (Fz β)) : List α → Option (Fz (List β))
  | [] => some ⟨[], true, []⟩
  | x :: xs =>
    match f x, fzList f xs with
    | some a, some b => some ⟨a.v :: b.v, a.fresh && b.fresh, a.ids ++ b.ids⟩
    | _, _ => none

def fz (h : Heap) : Nat → AV → Option (Fz AV)
  | 0, _ => none
  | k + 1, v =>
    match v with
    | .undef => none
    | .ls id g es1 off len =>
      match rowsAt h id g with
      | some (_, es, rows) =>
        if es1 = es ∧ off + len ≤ rows.length then
          match fzList (fzList (fz h k)) ((rows.drop off).take len) with
          | some r => some ⟨.rs es r.v, r.fresh, id :: r.ids⟩
          | none => none
        else none
      | none => none
    | .lp id g i off =>
      match rowsAt h id g with
      | some (_, _, rows) =>
        match rows[i]? with
        | some row =>
          match fzList (fz h k) (row.drop off) with
          | some r => some ⟨.rp r.v, r.fresh, id :: r.ids⟩
          | none => none
        | none => none
      | none => none
    | .lm id g =>
      match mapAt h id g with
      | some (_, es) =>
        match fzList (fun e : AV × AV => match fz h k e.1, fz h k e.2 with
            | some a, some b => some (⟨(a.v, b.v), a.fresh && b.fresh, a.ids ++ b.ids⟩ : Fz (AV × AV))
            | _, _ => none) es with
        | some r => some ⟨.rm r.v, r.fresh, id :: r.ids⟩
        | none => none
      | none => none
    | .agg cs =>
      match fzList (fz h k) cs with
      | some r => some ⟨.agg r.v, r.fresh, r.ids⟩
      | none => none
    | .tup cs =>
      match fzList (fz h k) cs with
      | some r => some ⟨.tup r.v, r.fresh, r.ids⟩
      | none => none
    | v => if pure1 v then some ⟨v, scalar1 v, []⟩ else none

/-- A value's level that is moved out of a callee's heap: slices, maps and variables of its own become objects of the answer ('xs'); what lies in them is only read from then on ('fs'). -/
structure Ex (α : Type) where
  v : α
  objs : List OC
  fresh : Bool
  xs : List Nat
  fs : List Nat

def exList {α β : Type} (f : α → List OC → Option (Ex β)) : List α → List OC → Option (Ex (List β))
  | [], os => some ⟨[], os, true, [], []⟩
  | x :: xs, os =>
    match f x os with
    | some a =>
      match exList f xs a.objs with
      | some b => some ⟨a.v :: b.v, b.objs, a.fresh && b.fresh, a.xs ++ b.xs, a.fs ++ b.fs⟩
      | none => none
    | none => none

def fuelF : Nat := 12

def fzEnt (h : Heap) (k : Nat) (e : AV × AV) : Option (Fz (AV × AV)) :=
  match fz h k e.1, fz h k e.2 with
  | some a, some b => some ⟨(a.v, b.v), a.fresh && b.fresh, a.ids ++ b.ids⟩
  | _, _ => none

/-- As one that is only read. -/
def exFz (h : Heap) (v : AV) (os : List OC) : Option (Ex AV) :=
  match fz h fuelF v with
  | some q => some ⟨q.v, os, q.fresh, [], q.ids⟩
  | none => none

def expo (h : Heap) : Nat → AV → List OC → Option (Ex AV)
  | 0, _, _ => none
  | k + 1, v, os =>
    match v with
    | .undef => none
    | .ls id g es1 off len =>
      match rowsAt h id g with
      | some (true, _, _) => exFz h (.ls id g es1 off len) os
      | some (false, es, rows) =>
        if es1 = es ∧ off + len ≤ rows.length then
          match fzList (fzList (fz h fuelF)) ((rows.drop off).take len) with
          | some r => some ⟨.ls os.length 0 es 0 len, os ++ [.arr false false es r.v], r.fresh, [id], r.ids⟩
          | none => none
        else none
      | none => none
    | .lp id g i off =>
      match rowsAt h id g with
      | some (true, _, _) => exFz h (.lp id g i off) os
      | some (false, es, [row]) =>
        if i = 0 ∧ off = 0 then
          match exList (expo h k) row os with
          | some r => some ⟨.lp r.objs.length 0 0 0, r.objs ++ [.arr true false es [r.v]], r.fresh, id :: r.xs, r.fs⟩
          | none => none
        else none
      | _ => none
    | .lm id g =>
      match mapAt h id g with
      | some (true, _) => exFz h (.lm id g) os
      | some (false, es) =>
        match fzList (fzEnt h fuelF) es with
        | some r => some ⟨.lm os.length 0, os ++ [.map false r.v], r.fresh, [id], r.ids⟩
        | none => none
      | none => none
    | .agg cs =>
      match exList (expo h k) cs os with
      | some r => some ⟨.agg r.v, r.objs, r.fresh, r.xs, r.fs⟩
      | none => none
    | .tup cs =>
      match exList (expo h k) cs os with
      | some r => some ⟨.tup r.v, r.objs, r.fresh, r.xs, r.fs⟩
      | none => none
    | v => if pure1 v then some ⟨v, os, scalar1 v, [], []⟩ else none

/-- No object is moved out twice, none that lies in another one. -/
def apartIds : List Nat → List Nat → Bool
  | [], _ => true
  | x :: xs, fs => !xs.contains x && !fs.contains x && apartIds xs fs

def expo1 (h : Heap) (v : AV) : Option (Ex AV) :=
  match expo h fuelF v [] with
  | some r => if apartIds r.xs r.fs then some ⟨r.v, r.objs, r.fresh, [], []⟩ else none
  | none => none

end Go.Vm
