/- The value machine (Va). -/
import Derived.Orders
import Derived.Below
import Derived.Laws.Cells
set_option linter.unusedSimpArgs false
set_option linter.unusedVariables false
set_option linter.unusedSectionVars false
/- The value machine: values, heap, operations, code, and how they are evaluated. Nothing here speaks of the translated program. -/
namespace Go.Vm
inductive AV where
  | undef
  | int (k : IntKind) (n : Int)
  | bool (b : Bool)
  | str (s : List UInt8)
  | nilp
  | nils
  | nilm
  | rp (cells : List AV)
  | rs (es : Nat) (elems : List (List AV))
  | rm (entries : List (AV × AV))
  | lp (id g i off : Nat)
  | ls (id g es off len : Nat)
  | lm (id g : Nat)
  | agg (cells : List AV)
  | tup (vs : List AV)
  | fn (f : Nat) (caps : List AV)
  deriving Inhabited
inductive OC where
  | dead
  | arr (bx fz : Bool) (es : Nat) (elems : List (List AV))
  | map (fz : Bool) (entries : List (AV × AV))
  deriving Inhabited
structure AO where
  gen : Nat
  c : OC
  deriving Inhabited
abbrev Heap := List AO
inductive Opd where
  | t (n : Nat)
  | c (v : AV)
  deriving Inhabited
inductive COp where
  | mv (x : Opd)
  | pick (c a b : Opd)
  | new (sl : Option Nat) (cells : List AV)
  | box (sl : Option Nat) (x : Opd)
  | build (zero : List AV) (parts : List (Nat × Nat × Opd))
  | buildS (sl : Option Nat) (es len : Nat) (zero : List AV) (parts : List (Nat × Opd))
  | ld (agg : Bool) (n : Nat) (a : Opd)
  | st (n : Nat) (a v : Opd)
  | nilchk (x : Opd)
  | bin (op : BinOp) (x y : Opd)
  | eqn (k : Nat) (neq : Bool) (x y : Opd)
  | eqa (neq : Bool) (ks : List Nat) (x y : Opd)
  | eqb (neq : Bool) (x y : Opd)
  | un (op : UnOp) (x : Opd)
  | cvi (k : IntKind) (x : Opd)
  | s2b (sl : Option Nat) (x : Opd)
  | b2s (x : Opd)
  | mkS (sl : Option Nat) (es bytes : Nat) (zero : List AV) (len cap : Opd)
  | slc (es : Nat) (x : Opd) (lo hi : Option Opd)
  | sls (x : Opd) (lo hi : Option Opd)
  | fa (off : Nat) (x : Opd)
  | fld (agg : Bool) (off n : Nat) (x : Opd)
  | ixs (es : Nat) (x i : Opd)
  | ixa (len es : Nat) (x i : Opd)
  | ixv (agg : Bool) (len es : Nat) (x i : Opd)
  | ixstr (x i : Opd)
  | ext (i : Nat) (x : Opd)
  | len (k : Nat) (x : Opd)
  | app (sl : Option Nat) (es bytes : Nat) (x y : Opd)
  | cpy (es : Nat) (x y : Opd)
  | minmax (isMax : Bool) (x y : Opd)
  | call (sl : Option Nat) (ro : Bool) (f : Nat) (args : List Opd)
  | callv (sl : Option Nat) (ro : Bool) (f : Opd) (args : List Opd)
  | mkf (f : Nat) (caps : List Opd)
  | mkm (sl : Option Nat)
  | mget (agg : Bool) (ks : List Nat) (zero : AV) (commaOk : Bool) (x k : Opd)
  | mput (agg : Bool) (ks : List Nat) (m k v : Opd)
  | mdel (agg : Bool) (ks : List Nat) (m k : Opd)
  | mclr (m : Opd)
  deriving Inhabited
structure CI where
  dst : Option Nat
  op : COp
  g : Option (Nat × Bool)
  deriving Inhabited
inductive CCode where
  | skip
  | region (ops : List CI)
  | draw (ops : List CI) (pairs : List (Nat × Nat))
  | drawN (k : Nat) (ops : List CI) (pairs : List (Nat × Nat))
  | seq (a b : CCode)
  | cond (c : Opd) (a b : CCode)
  | block (id : Nat) (a : CCode)
  | loop (live : List Nat) (a : CCode)
  | mrange (pre : List CI) (x : Opd) (live car : List Nat) (e : Nat) (cs : List CI) (a : CCode) (ts : List CI) (z : CCode)
  | kill (ks : List Nat) (a : CCode)
  | exit (id : Nat)
  | ret
  | bad
  deriving Inhabited
inductive CRes where
  | t (n : Nat)
  | cell (n : Nat) (agg : Bool) (size : Nat)
  deriving Inhabited
structure CFunc where
  params : Nat
  pure : Bool
  slots : Nat
  body : CCode
  results : List CRes
  deriving Inhabited
abbrev Tmps := List (Nat × AV)
structure St where
  t : Tmps
  h : Heap
inductive Res where
  | norm
  | exit (id : Nat)
  | ret
def tget : Tmps → Nat → AV
  | [], _ => .undef
  | (j, v) :: r, i => if j = i then v else tget r i
def tput (d : Option Nat) (v : AV) (t : Tmps) : Tmps :=
  match d with
  | some d => (d, v) :: t
  | none => t
def restrict (live : List Nat) (t : Tmps) : Tmps := live.map fun i => (i, tget t i)
def Opd.ev (t : Tmps) : Opd → AV
  | .t n => tget t n
  | .c v => v
def cellsOf : AV → List AV
  | .agg cs => cs
  | v => [v]
def yj : AV → Bool
  | .undef | .agg _ | .tup _ => false
  | _ => true
def pure1 : AV → Bool
  | .int .. | .bool _ | .str _ | .nilp | .nils | .nilm | .rp _ | .rs .. | .rm _ => true
  | .fn _ caps => caps.isEmpty
  | _ => false
def yw : AV → Bool
  | .int .. | .bool _ | .str _ | .nilp | .nils | .nilm => true
  | .rp cs => cs.isEmpty
  | .rs _ rows => rows.isEmpty
  | .fn _ caps => caps.isEmpty
  | _ => false
def y1p (h : Heap) (id g : Nat) : Option OC :=
  match h[id]? with
  | some o => if o.gen = g then some o.c else none
  | none => none
def ye (h : Heap) (id g : Nat) : Option (Bool × Nat × List (List AV)) :=
  match y1p h id g with
  | some (.arr _ fz es rows) => some (fz, es, rows)
  | _ => none
def y1e (h : Heap) (id : Nat) (rows : List (List AV)) : Heap :=
  match h[id]? with
  | some ⟨g, .arr bx fz es _⟩ => h.set id ⟨g, .arr bx fz es rows⟩
  | _ => h
def place (fb : Nat) (sl : Option Nat) (c : OC) (h : Heap) : Option (Nat × Nat × Heap) :=
  match sl with
  | none => some (h.length, 0, h ++ [⟨0, c⟩])
  | some j =>
    match h[fb + j]? with
    | some o => some (fb + j, o.gen + 1, h.set (fb + j) ⟨o.gen + 1, c⟩)
    | none => none
def yiq (v : AV) (hi : Nat) : Option Nat :=
  match v with
  | .int _ n => if 0 ≤ n ∧ n ≤ hi then some n.toNat else none
  | _ => none
def ym (off : Nat) (vs row : List AV) : List AV := row.take off ++ vs ++ row.drop (off + vs.length)
def known : AV → Bool
  | .undef => false
  | _ => true
def y4k : List (Nat × Nat × AV) → List AV → Option (List AV)
  | [], cs => some cs
  | (off, n, v) :: r, cs =>
    if known v = true ∧ (cellsOf v).length = n ∧ off + n ≤ cs.length then y4k r (ym off (cellsOf v) cs) else none
def y3s (es : Nat) : List (Nat × AV) → List (List AV) → Option (List (List AV))
  | [], rows => some rows
  | (i, v) :: r, rows =>
    if (cellsOf v).length = es ∧ i < rows.length ∧ (cellsOf v).all yj = true then y3s es r (rows.set i (cellsOf v)) else none
def y3h (agg : Bool) (n : Nat) (cs : List AV) : Option AV :=
  if agg then (if n ≤ cs.length then some (.agg (cs.take n)) else none) else cs.head?
def y15 (h : Heap) (es : Nat) : AV → Option (List (List AV))
  | .nils => some []
  | .rs es' rows => if es' = es then some rows else none
  | .ls id g es1 off len =>
    match ye h id g with
    | some (_, es', rows) => if es1 = es ∧ es' = es ∧ off + len ≤ rows.length then some ((rows.drop off).take len) else none
    | none => none
  | .str s => if es = 1 then some (s.map fun b => [.int .u8 b.toNat]) else none
  | _ => none
def y7w : List UInt8 → List UInt8 → Bool
  | _, [] => false
  | [], _ :: _ => true
  | a :: x, b :: y => a < b || (a == b && y7w x y)
def y69 (op : BinOp) (k : IntKind) (a b : Int) : Option AV :=
  match op with
  | .add => some (.int k (k.wrap (a + b)))
  | .sub => some (.int k (k.wrap (a - b)))
  | .mul => some (.int k (k.wrap (a * b)))
  | .quo => if b = 0 then none else some (.int k (k.wrap (a.tdiv b)))
  | .rem => if b = 0 then none else some (.int k (a.tmod b))
  | .and => some (.int k (k.wrap (BitVec.ofInt k.bits a &&& BitVec.ofInt k.bits b).toNat))
  | .or => some (.int k (k.wrap (BitVec.ofInt k.bits a ||| BitVec.ofInt k.bits b).toNat))
  | .xor => some (.int k (k.wrap (BitVec.ofInt k.bits a ^^^ BitVec.ofInt k.bits b).toNat))
  | .andNot => some (.int k (k.wrap (BitVec.ofInt k.bits a &&& ~~~(BitVec.ofInt k.bits b)).toNat))
  | .eql => some (.bool (a == b))
  | .neq => some (.bool (a != b))
  | .lss => some (.bool (a < b))
  | .leq => some (.bool (a ≤ b))
  | .gtr => some (.bool (a > b))
  | .geq => some (.bool (a ≥ b))
  | .shl => none
  | .shr => none
def ylu (op : BinOp) (k : IntKind) (a b : Int) : Option AV :=
  if b < 0 then none else
  match op with
  | .shl => some (.int k (k.wrap (a * 2 ^ (min b.toNat k.bits))))
  | .shr => some (.int k (a.fdiv (2 ^ (min b.toNat k.bits))))
  | _ => none
def ygf (op : BinOp) (a b : List UInt8) : Option AV :=
  match op with
  | .add => if a.length + b.length ≤ 2 ^ 62 then some (.str (a ++ b)) else none
  | .eql => some (.bool (a == b))
  | .neq => some (.bool (!(a == b)))
  | .lss => some (.bool (y7w a b))
  | .leq => some (.bool (y7w a b || a == b))
  | .gtr => some (.bool (!(y7w a b || a == b)))
  | .geq => some (.bool (!(y7w a b)))
  | _ => none
def y49 : BinOp → Bool
  | .shl | .shr => true
  | _ => false
def y9 (op : BinOp) (x y : AV) : Option AV :=
  match x, y with
  | .int k a, .int k' b => if y49 op then ylu op k a b else if k = k' then y69 op k a b else none
  | .str a, .str b => ygf op a b
  | _, _ => none
def yed : Nat → AV → Option Bool
  | 0, .nilp => some true
  | 0, .rp _ => some false
  | 0, .lp .. => some false
  | 1, .nils => some true
  | 1, .rs .. => some false
  | 1, .ls .. => some false
  | 2, .nilm => some true
  | 2, .rm _ => some false
  | 2, .lm .. => some false
  | _, _ => none
def yik (k : Nat) (x y : AV) : Option Bool :=
  match yed k x, yed k y with
  | some true, some b => some b
  | some b, some true => some b
  | _, _ => none
def yx : Nat → AV → AV → Option Bool
  | 0, .int k a, .int k' b => if k = k' then some (a == b) else none
  | 1, .bool a, .bool b => some (a == b)
  | 2, .str a, .str b => some (a == b)
  | _, _, _ => none
def yd : List Nat → List AV → List AV → Option Bool
  | [], [], [] => some true
  | k :: ks, x :: xs, y :: ys =>
    match yx k x y, yd ks xs ys with
    | some a, some b => some (a && b)
    | _, _ => none
  | _, _, _ => none
def y1o (agg : Bool) (ks : List Nat) (x y : AV) : Option Bool :=
  if agg then match x, y with
    | .agg a, .agg b => yd ks a b
    | _, _ => none
  else match ks with
    | [k] => yx k x y
    | _ => none
def y4f (agg : Bool) (ks : List Nat) (k : AV) : Bool := !agg || match k with
  | .agg cs => cs.length == ks.length
  | _ => false
def mfind (agg : Bool) (ks : List Nat) (k : AV) : List (AV × AV) → Option (Option AV)
  | [] => if y4f agg ks k then some none else none
  | (k', v) :: r =>
    match y1o agg ks k k' with
    | some true => some (some v)
    | some false => mfind agg ks k r
    | none => none
def mset (agg : Bool) (ks : List Nat) (k v : AV) : List (AV × AV) → Option (List (AV × AV))
  | [] => if y4f agg ks k then some [(k, v)] else none
  | (k', v') :: r =>
    match y1o agg ks k k' with
    | some true => some ((k, v) :: r)
    | some false => (mset agg ks k v r).map ((k', v') :: ·)
    | none => none
def mdrop (agg : Bool) (ks : List Nat) (k : AV) : List (AV × AV) → Option (List (AV × AV))
  | [] => if y4f agg ks k then some [] else none
  | (k', v') :: r =>
    match y1o agg ks k k' with
    | some true => some r
    | some false => (mdrop agg ks k r).map ((k', v') :: ·)
    | none => none
def y2f (h : Heap) (id g : Nat) : Option (Bool × List (AV × AV)) :=
  match y1p h id g with
  | some (.map fz es) => some (fz, es)
  | _ => none
def y5i (h : Heap) (id : Nat) (es : List (AV × AV)) : Heap :=
  match h[id]? with
  | some ⟨g, .map fz _⟩ => h.set id ⟨g, .map fz es⟩
  | _ => h
structure Fz (α : Type) where
  v : α
  fresh : Bool
  ids : List Nat
def yb {α β : Type} (f : α → Option (Fz β)) : List α → Option (Fz (List β))
  | [] => some ⟨[], true, []⟩
  | x :: xs =>
    match f x, yb f xs with
    | some a, some b => some ⟨a.v :: b.v, a.fresh && b.fresh, a.ids ++ b.ids⟩
    | _, _ => none
def fz (h : Heap) : Nat → AV → Option (Fz AV)
  | 0, _ => none
  | k + 1, v =>
    match v with
    | .undef => none
    | .ls id g es1 off len =>
      match ye h id g with
      | some (_, es, rows) =>
        if es1 = es ∧ off + len ≤ rows.length then
          match yb (yb (fz h k)) ((rows.drop off).take len) with
          | some r => some ⟨.rs es r.v, r.fresh, id :: r.ids⟩
          | none => none
        else none
      | none => none
    | .lp id g i off =>
      match ye h id g with
      | some (_, _, rows) =>
        match rows[i]? with
        | some row =>
          match yb (fz h k) (row.drop off) with
          | some r => some ⟨.rp r.v, r.fresh, id :: r.ids⟩
          | none => none
        | none => none
      | none => none
    | .lm id g =>
      match y2f h id g with
      | some (_, es) =>
        match yb (fun e : AV × AV => match fz h k e.1, fz h k e.2 with
            | some a, some b => some (⟨(a.v, b.v), a.fresh && b.fresh, a.ids ++ b.ids⟩ : Fz (AV × AV))
            | _, _ => none) es with
        | some r => some ⟨.rm r.v, r.fresh, id :: r.ids⟩
        | none => none
      | none => none
    | .agg cs =>
      match yb (fz h k) cs with
      | some r => some ⟨.agg r.v, r.fresh, r.ids⟩
      | none => none
    | .tup cs =>
      match yb (fz h k) cs with
      | some r => some ⟨.tup r.v, r.fresh, r.ids⟩
      | none => none
    | v => if pure1 v then some ⟨v, yw v, []⟩ else none
structure Ex (α : Type) where
  v : α
  objs : List OC
  fresh : Bool
  xs : List Nat
  fs : List Nat
def y1z {α β : Type} (f : α → List OC → Option (Ex β)) : List α → List OC → Option (Ex (List β))
  | [], os => some ⟨[], os, true, [], []⟩
  | x :: xs, os =>
    match f x os with
    | some a =>
      match y1z f xs a.objs with
      | some b => some ⟨a.v :: b.v, b.objs, a.fresh && b.fresh, a.xs ++ b.xs, a.fs ++ b.fs⟩
      | none => none
    | none => none
def yu : Nat := 12
def y62 (h : Heap) (k : Nat) (e : AV × AV) : Option (Fz (AV × AV)) :=
  match fz h k e.1, fz h k e.2 with
  | some a, some b => some ⟨(a.v, b.v), a.fresh && b.fresh, a.ids ++ b.ids⟩
  | _, _ => none
def exFz (h : Heap) (v : AV) (os : List OC) : Option (Ex AV) :=
  match fz h yu v with
  | some q => some ⟨q.v, os, q.fresh, [], q.ids⟩
  | none => none
def expo (h : Heap) : Nat → AV → List OC → Option (Ex AV)
  | 0, _, _ => none
  | k + 1, v, os =>
    match v with
    | .undef => none
    | .ls id g es1 off len =>
      match ye h id g with
      | some (true, _, _) => exFz h (.ls id g es1 off len) os
      | some (false, es, rows) =>
        if es1 = es ∧ off + len ≤ rows.length then
          match yb (yb (fz h yu)) ((rows.drop off).take len) with
          | some r => some ⟨.ls os.length 0 es 0 len, os ++ [.arr false false es r.v], r.fresh, [id], r.ids⟩
          | none => none
        else none
      | none => none
    | .lp id g i off =>
      match ye h id g with
      | some (true, _, _) => exFz h (.lp id g i off) os
      | some (false, es, [row]) =>
        if i = 0 ∧ off = 0 then
          match y1z (expo h k) row os with
          | some r => some ⟨.lp r.objs.length 0 0 0, r.objs ++ [.arr true false es [r.v]], r.fresh, id :: r.xs, r.fs⟩
          | none => none
        else none
      | _ => none
    | .lm id g =>
      match y2f h id g with
      | some (true, _) => exFz h (.lm id g) os
      | some (false, es) =>
        match yb (y62 h yu) es with
        | some r => some ⟨.lm os.length 0, os ++ [.map false r.v], r.fresh, [id], r.ids⟩
        | none => none
      | none => none
    | .agg cs =>
      match y1z (expo h k) cs os with
      | some r => some ⟨.agg r.v, r.objs, r.fresh, r.xs, r.fs⟩
      | none => none
    | .tup cs =>
      match y1z (expo h k) cs os with
      | some r => some ⟨.tup r.v, r.objs, r.fresh, r.xs, r.fs⟩
      | none => none
    | v => if pure1 v then some ⟨v, os, yw v, [], []⟩ else none
def y2o : List Nat → List Nat → Bool
  | [], _ => true
  | x :: xs, fs => !xs.contains x && !fs.contains x && y2o xs fs
def yq (h : Heap) (v : AV) : Option (Ex AV) :=
  match expo h yu v [] with
  | some r => if y2o r.xs r.fs then some ⟨r.v, r.objs, r.fresh, [], []⟩ else none
  | none => none
end Go.Vm
/- The value machine: how operations, regions, code and calls are evaluated; the answers that any fuel gives. -/
namespace Go.Vm
structure Calls2 where
  p : Nat → List AV → Option (Ex AV)
  i : Nat → List AV → Nat → Heap → Option (AV × Heap)
structure Env where
  fn : Nat → Option CFunc
  pure : Nat → Bool
  xp : Nat → List AV → Option (Ex AV)
  xi : Nat → List AV → Nat → Heap → Option (AV × Heap)
abbrev y6p := List Nat → CCode → Nat → St → Option (Res × St)
def yf : List Nat → Heap → Heap
  | [], h => h
  | id :: r, h =>
    match h[id]? with
    | some ⟨g, .arr bx _ es rows⟩ => yf r (h.set id ⟨g, .arr bx true es rows⟩)
    | some ⟨g, .map _ es⟩ => yf r (h.set id ⟨g, .map true es⟩)
    | _ => yf r h
def y2y (tab : List (Nat × Nat)) : AV → AV
  | .ls j 0 es off len => match tab[j]? with
    | some (id, g) => .ls id g es off len
    | none => .undef
  | .lp j 0 i off => match tab[j]? with
    | some (id, g) => .lp id g i off
    | none => .undef
  | .lm j 0 => match tab[j]? with
    | some (id, g) => .lm id g
    | none => .undef
  | v => if pure1 v then v else .undef
def yal (tab : List (Nat × Nat)) : AV → AV
  | .agg cs => .agg (cs.map (y2y tab))
  | v => y2y tab v
def reloc (tab : List (Nat × Nat)) : AV → AV
  | .tup vs => .tup (vs.map (yal tab))
  | v => yal tab v
def y52 (tab : List (Nat × Nat)) : OC → OC
  | .arr true fz es rows => .arr true fz es (rows.map (·.map (y2y tab)))
  | o => o
def yfi : AV → Bool
  | .agg cs => cs.all yw
  | v => yw v
def okOC : OC → Bool
  | .arr true false _ rows => rows.all (·.all yj)
  | .arr false false _ _ => true
  | .map false es => es.all fun p => yfi p.1 && yfi p.2
  | _ => false
def y2n (fb : Nat) : Option Nat → List OC → List (Nat × Nat) → Heap → Option (List (Nat × Nat) × Heap)
  | _, [], tab, h => some (tab, h)
  | sl, o :: os, tab, h =>
    match (if okOC (y52 tab o) then place fb sl (y52 tab o) h else none) with
    | some (id, g, h') => y2n fb (sl.map (· + 1)) os (tab ++ [(id, g)]) h'
    | none => none
def y1u (os : List OC) : Heap := os.map (⟨0, ·⟩)
def y4n (E : Env) (C : Calls2) (fb : Nat) (sl : Option Nat) (ro : Bool) (f : Nat) (args : List AV) (h : Heap) : Option (AV × Heap) :=
  match yb (fz h yu) args with
  | none => none
  | some fa =>
    match C.p f fa.v with
    | none => none
    | some r =>
      match (if r.fresh || fa.ids.isEmpty then h else yf fa.ids h) with
      | h1 =>
        if ro then
          match fz (y1u r.objs) yu r.v with
          | some q => some (q.v, h1)
          | none => none
        else
          match y2n fb sl r.objs [] h1 with
          | some (tab, h2) => some (reloc tab r.v, h2)
          | none => none
def y7 (E : Env) (C : Calls2) (fb : Nat) (sl : Option Nat) (ro : Bool) (f : Nat) (args : List AV) (h : Heap) : Option (AV × Heap) :=
  if E.pure f && !(ro && sl.isSome) then y4n E C fb sl ro f args h
  else C.i f args (match sl with | some j => fb + j | none => h.length) h
def y42 (t : Tmps) (hi : Nat) (dflt : Nat) : Option Opd → Option Nat
  | none => some dflt
  | some x => yiq (x.ev t) hi
def y2s (fb : Nat) (sl : Option Nat) (es : Nat) (rows : List (List AV)) (h : Heap) : Option (AV × Heap) :=
  match place fb sl (.arr false false es rows) h with
  | some (id, g, h') => some (.ls id g es 0 rows.length, h')
  | none => none
def y4j (fb : Nat) (sl : Option Nat) (cs : List AV) (h : Heap) : Option (AV × Heap) :=
  match place fb sl (.arr true false cs.length [cs]) h with
  | some (id, g, h') => some (.lp id g 0 0, h')
  | none => none
def y2d (fb : Nat) (sl : Option Nat) (es bytes : Nat) (x y : AV) (h : Heap) : Option (AV × Heap) :=
  match y15 h es y with
  | none => none
  | some ys =>
    match x with
    | .nils =>
      if ys.isEmpty then some (.nils, h)
      else if ys.length * bytes ≤ 2 ^ 48 then y2s fb sl es ys h else none
    | .ls id g es1 off len =>
      match h[id]? with
      | some ⟨g', .arr false false es' rows⟩ =>
        if g' = g ∧ es1 = es ∧ es' = es ∧ off + len ≤ rows.length ∧ ((2 * (len + ys.length) + 512) * bytes ≤ 2 ^ 48 ∨ (len + ys.length + (len + ys.length) / 4 + 512) * bytes ≤ 2 ^ 48) then
          some (.ls id (g + 1) es 0 (len + ys.length), h.set id ⟨g + 1, .arr false false es ((rows.drop off).take len ++ ys)⟩)
        else none
      | _ => none
    | _ => none
def yiz (es : Nat) (x y : AV) (h : Heap) : Option (AV × Heap) :=
  match y15 h es y with
  | none => none
  | some ys =>
    match x with
    | .nils => some (.int .i64 0, h)
    | .ls id g es1 off len =>
      match ye h id g with
      | some (fz, es', rows) =>
        if fz = false ∧ es1 = es ∧ es' = es ∧ off + len ≤ rows.length then
          some (.int .i64 (min ys.length len : Nat), y1e h id (rows.take off ++ ys.take (min ys.length len) ++ rows.drop (off + min ys.length len)))
        else none
      | none => none
    | _ => none
def yrc (es : Nat) (x : AV) (lo : Nat → Option Nat) (hi : Nat → Option Nat) : Option AV :=
  match x with
  | .nils => match hi 0 with
    | some b => match lo b with
      | some _ => some .nils
      | none => none
    | none => none
  | .rs es' rows =>
    if es' = es then match hi rows.length with
      | some b => match lo b with
        | some a => some (.rs es ((rows.take b).drop a))
        | none => none
      | none => none
    else none
  | .ls id g es' off len =>
    if es' = es then match hi len with
      | some b => match lo b with
        | some a => some (.ls id g es (off + a) (b - a))
        | none => none
      | none => none
    else none
  | _ => none
def evLd (agg : Bool) (n : Nat) (a : AV) (h : Heap) : Option AV :=
  match a with
  | .rp cs => y3h agg n cs
  | .lp id g i off =>
    match ye h id g with
    | some (_, _, rows) => match rows[i]? with
      | some row => y3h agg n (row.drop off)
      | none => none
    | none => none
  | _ => none
def evSt (n : Nat) (a v : AV) (h : Heap) : Option (AV × Heap) :=
  match a with
  | .lp id g i off =>
    match ye h id g with
    | some (false, _, rows) => match rows[i]? with
      | some row =>
        if (cellsOf v).length = n ∧ off + n ≤ row.length ∧ (cellsOf v).all yj = true then
          some (.tup [], y1e h id (rows.set i (ym off (cellsOf v) row)))
        else none
      | none => none
    | _ => none
  | _ => none
def y21 (es : Nat) (x i : AV) : Option AV :=
  match x, i with
  | .rs es' rows, .int _ n => if es' = es ∧ 0 ≤ n then (rows[n.toNat]?).map .rp else none
  | .ls id g es' off len, .int _ n => if es' = es ∧ 0 ≤ n ∧ n < len then some (.lp id g (off + n.toNat) 0) else none
  | _, _ => none
def ybr (len es : Nat) (x i : AV) : Option AV :=
  match x, i with
  | .rp cs, .int _ n => if 0 ≤ n ∧ n < len then some (.rp (cs.drop (n.toNat * es))) else none
  | .lp id g r off, .int _ n => if 0 ≤ n ∧ n < len then some (.lp id g r (off + n.toNat * es)) else none
  | _, _ => none
def y18l : AV → Bool
  | .str _ => true
  | _ => false
def bytesOf : List (List AV) → Option (List UInt8)
  | [] => some []
  | [.int .u8 n] :: r => (bytesOf r).map (UInt8.ofNat n.toNat :: ·)
  | _ :: _ => none
def evFa (off : Nat) (x : AV) : Option AV :=
  match x with
  | .rp cs => some (.rp (cs.drop off))
  | .lp id g i o => some (.lp id g i (o + off))
  | _ => none
def y1t (k : Nat) (x : AV) (h : Heap) : Option AV :=
  match k, x with
  | 0, .str s => some (.int .i64 s.length)
  | 1, .nils => some (.int .i64 0)
  | 1, .rs _ rows => some (.int .i64 rows.length)
  | 1, .ls _ _ _ _ len => some (.int .i64 len)
  | 2, .nilm => some (.int .i64 0)
  | 2, .rm es => some (.int .i64 es.length)
  | 2, .lm id g => match y2f h id g with
    | some (_, es) => some (.int .i64 es.length)
    | none => none
  | _, _ => none
def y16 (agg : Bool) (ks : List Nat) (zero : AV) (commaOk : Bool) (x k : AV) (h : Heap) : Option AV :=
  match (match x with
    | .nilm => some []
    | .rm es => some es
    | .lm id g => (y2f h id g).map (·.2)
    | _ => none) with
  | none => none
  | some es => match mfind agg ks k es with
    | none => none
    | some (some v) => some (if commaOk then .tup [v, .bool true] else v)
    | some none => some (if commaOk then .tup [zero, .bool false] else zero)
def y3z (agg : Bool) (ks : List Nat) (m k v : AV) (h : Heap) : Option (AV × Heap) :=
  match m with
  | .lm id g => match y2f h id g with
    | some (false, es) => match mset agg ks k v es with
      | some es' => some (.tup [], y5i h id es')
      | none => none
    | _ => none
  | _ => none
def ycq (agg : Bool) (ks : List Nat) (m k : AV) (h : Heap) : Option (AV × Heap) :=
  match m with
  | .nilm => if y4f agg ks k then some (.tup [], h) else none
  | .lm id g => match y2f h id g with
    | some (false, es) => match mdrop agg ks k es with
      | some es' => some (.tup [], y5i h id es')
      | none => none
    | _ => none
  | _ => none
def ybb (m : AV) (h : Heap) : Option (AV × Heap) :=
  match m with
  | .nilm => some (.tup [], h)
  | .lm id g => match y2f h id g with
    | some (false, _) => some (.tup [], y5i h id [])
    | _ => none
  | _ => none
def evOp (E : Env) (C : Calls2) (fb : Nat) (t : Tmps) (h : Heap) : COp → Option (AV × Heap)
  | .mv x => some (x.ev t, h)
  | .pick c a b => match c.ev t with
    | .bool true => some (a.ev t, h)
    | .bool false => some (b.ev t, h)
    | _ => none
  | .new sl cs => if cs.all yj then y4j fb sl cs h else none
  | .box sl x => if (cellsOf (x.ev t)).all yj then y4j fb sl (cellsOf (x.ev t)) h else none
  | .build zero parts => (y4k (parts.map fun p => (p.1, p.2.1, p.2.2.ev t)) zero).map (.agg ·, h)
  | .buildS sl es len zero parts =>
    if zero.length = es ∧ zero.all yj = true then
      match y3s es (parts.map fun p => (p.1, p.2.ev t)) (List.replicate len zero) with
      | some rows => y2s fb sl es rows h
      | none => none
    else none
  | .ld agg n a => (evLd agg n (a.ev t) h).map (·, h)
  | .st n a v => evSt n (a.ev t) (v.ev t) h
  | .nilchk x => match x.ev t with
    | .rp cs => some (.rp cs, h)
    | .lp id g i off => some (.lp id g i off, h)
    | _ => none
  | .bin op x y => (y9 op (x.ev t) (y.ev t)).map (·, h)
  | .eqn k neq x y => (yik k (x.ev t) (y.ev t)).map fun b => (.bool (if neq then !b else b), h)
  | .eqa neq ks x y => match x.ev t, y.ev t with
    | .agg a, .agg b => (yd ks a b).map fun b => (.bool (if neq then !b else b), h)
    | _, _ => none
  | .eqb neq x y => match x.ev t, y.ev t with
    | .bool a, .bool b => some (.bool (if neq then !(a == b) else a == b), h)
    | _, _ => none
  | .un op x => match op, x.ev t with
    | .not, .bool b => some (.bool (!b), h)
    | .neg, .int k n => some (.int k (k.wrap (0 - n)), h)
    | .xor, .int k n => some (.int k (k.wrap (BitVec.ofInt k.bits (if k.signed then -1 else k.max) ^^^ BitVec.ofInt k.bits n).toNat), h)
    | _, _ => none
  | .cvi k x => match x.ev t with
    | .int _ n => some (.int k (k.wrap n), h)
    | _ => none
  | .s2b sl x => match x.ev t with
    | .str s => y2s fb sl 1 (s.map fun b => [.int .u8 b.toNat]) h
    | _ => none
  | .b2s x => if y18l (x.ev t) then none else match y15 h 1 (x.ev t) with
    | some rows => (bytesOf rows).map fun s => (.str s, h)
    | none => none
  | .mkS sl es bytes zero len cap => match len.ev t, cap.ev t with
    | .int .i64 l, .int .i64 c =>
      if zero.length = es ∧ zero.all yj = true ∧ 0 ≤ l ∧ l ≤ c ∧ c * bytes ≤ 2 ^ 47 ∧ c ≤ 2 ^ 62 then y2s fb sl es (List.replicate l.toNat zero) h else none
    | _, _ => none
  | .slc es x lo hi => (yrc es (x.ev t) (fun b => y42 t b 0 lo) (fun n => y42 t n n hi)).map (·, h)
  | .sls x lo hi => match x.ev t with
    | .str s => match y42 t s.length s.length hi with
      | some b => match y42 t b 0 lo with
        | some a => some (.str ((s.take b).drop a), h)
        | none => none
      | none => none
    | _ => none
  | .fa off x => (evFa off (x.ev t)).map (·, h)
  | .fld agg off n x => match x.ev t with
    | .agg cs => (y3h agg n (cs.drop off)).map (·, h)
    | _ => none
  | .ixs es x i => (y21 es (x.ev t) (i.ev t)).map (·, h)
  | .ixa len es x i => (ybr len es (x.ev t) (i.ev t)).map (·, h)
  | .ixv agg len es x i => match x.ev t, i.ev t with
    | .agg cs, .int _ n => if 0 ≤ n ∧ n < len then (y3h agg es (cs.drop (n.toNat * es))).map (·, h) else none
    | _, _ => none
  | .ixstr x i => match x.ev t, i.ev t with
    | .str s, .int _ n => if 0 ≤ n then (s[n.toNat]?).map fun b => (.int .u8 b.toNat, h) else none
    | _, _ => none
  | .ext i x => match x.ev t with
    | .tup vs => (vs[i]?).map (·, h)
    | _ => none
  | .len k x => (y1t k (x.ev t) h).map (·, h)
  | .app sl es bytes x y => y2d fb sl es bytes (x.ev t) (y.ev t) h
  | .cpy es x y => yiz es (x.ev t) (y.ev t) h
  | .minmax isMax x y => match x.ev t, y.ev t with
    | .int k a, .int k' b => if k = k' then some (.int k (if isMax then max a b else min a b), h) else none
    | _, _ => none
  | .call sl ro f args => y7 E C fb sl ro f (args.map (·.ev t)) h
  | .callv sl ro f args => match f.ev t with
    | .fn f caps => y7 E C fb sl ro f (args.map (·.ev t) ++ caps) h
    | _ => none
  | .mkf f caps => some (.fn f (caps.map (·.ev t)), h)
  | .mkm sl => match place fb sl (.map false []) h with
    | some (id, g, h') => some (.lm id g, h')
    | none => none
  | .mget agg ks zero ok x k => (y16 agg ks zero ok (x.ev t) (k.ev t) h).map (·, h)
  | .mput agg ks m k v => y3z agg ks (m.ev t) (k.ev t) (v.ev t) h
  | .mdel agg ks m k => ycq agg ks (m.ev t) (k.ev t) h
  | .mclr m => ybb (m.ev t) h
def wants (t : Tmps) : Option (Nat × Bool) → Option Bool
  | none => some true
  | some (d, want) => match tget t d with
    | .bool b => some (b == want)
    | .tup [] => some false
    | _ => none
def y14 (E : Env) (C : Calls2) (fb : Nat) (o : CI) (s : St) : Option St :=
  match wants s.t o.g with
  | some true => match evOp E C fb s.t s.h o.op with
    | some (v, h) => some ⟨tput o.dst v s.t, h⟩
    | none => none
  | some false => some ⟨tput o.dst (.tup []) s.t, s.h⟩
  | none => none
def y1d (E : Env) (C : Calls2) (fb : Nat) : List CI → St → Option St
  | [], s => some s
  | o :: r, s => match y14 E C fb o s with
    | some s' => y1d E C fb r s'
    | none => none
def ids1 : AV → List Nat
  | .lp id .. | .ls id .. | .lm id _ => [id]
  | _ => []
def fpOf (E : Env) (C : Calls2) (fb : Nat) (t : Tmps) (h : Heap) : COp → Option (List Nat × List Nat)
  | .new (some j) _ => some ([], [fb + j])
  | .box (some j) _ => some ([], [fb + j])
  | .buildS (some j) .. => some ([], [fb + j])
  | .mkS (some j) .. => some ([], [fb + j])
  | .s2b (some j) _ => some ([], [fb + j])
  | .mkm (some j) => some ([], [fb + j])
  | .new none _ | .box none _ | .buildS none .. | .mkS none .. | .s2b none _ | .mkm none => none
  | .ld _ _ a => some (ids1 (a.ev t), [])
  | .st _ a _ => some ([], ids1 (a.ev t))
  | .b2s x => some (ids1 (x.ev t), [])
  | .len _ x => some (ids1 (x.ev t), [])
  | .mget _ _ _ _ x _ => some (ids1 (x.ev t), [])
  | .call sl ro f args =>
    if E.pure f && !(ro && sl.isSome) then
      match yb (fz h yu) (args.map (·.ev t)) with
      | none => none
      | some fa =>
        match C.p f fa.v with
        | none => none
        | some r =>
          if r.fresh || fa.ids.isEmpty then
            if ro || r.objs.isEmpty then some (fa.ids, []) else
            match sl with
            | some j => some (fa.ids, (List.range r.objs.length).map (fb + j + ·))
            | none => none
          else if ro then some (fa.ids, fa.ids) else none
    else none
  | .mv _ | .pick .. | .build .. | .nilchk _ | .bin .. | .eqn .. | .eqa .. | .eqb .. | .un .. | .cvi .. | .slc .. | .ixs .. | .sls .. | .fa .. | .fld .. | .ixa .. | .ixv .. | .ixstr ..
  | .ext .. | .minmax .. | .mkf .. => some ([], [])
  | .app (some j) _ _ x y => some (ids1 (y.ev t), ids1 (x.ev t) ++ [fb + j])
  | .cpy _ x y => some (ids1 (y.ev t), ids1 (x.ev t))
  | .mput _ _ m _ _ => some ([], ids1 (m.ev t))
  | .mdel _ _ m _ => some ([], ids1 (m.ev t))
  | .mclr m => some ([], ids1 (m.ev t))
  | .app none .. | .callv .. => none
def fpCI (E : Env) (C : Calls2) (fb : Nat) (o : CI) (s : St) : Option (List Nat × List Nat) :=
  match wants s.t o.g with
  | some true => fpOf E C fb s.t s.h o.op
  | some false => some ([], [])
  | none => none
def meets (a b : List Nat) : Bool := a.any b.contains
def yx8 (a b : List Nat × List Nat) : Bool := !meets a.2 b.1 && !meets a.2 b.2 && !meets a.1 b.2
def COp.isB : COp → Bool
  | .call none false _ _ => true
  | _ => false
def fpB (E : Env) (C : Calls2) (fb : Nat) (o : CI) (s : St) : Option (List Nat × List Nat) :=
  match o.op.isB with
  | true => some ([], [])
  | false => fpCI E C fb o s
def y5z (E : Env) (C : Calls2) (fb : Nat) : List CI → St → Option (St × List (List Nat × List Nat))
  | [], s => some (s, [])
  | o :: r, s => match fpB E C fb o s, y14 E C fb o s with
    | some f, some s' => match y5z E C fb r s' with
      | some (s'', fs) => some (s'', f :: fs)
      | none => none
    | _, _ => none
def y44 (fs : List (List Nat × List Nat)) (pairs : List (Nat × Nat)) : Bool :=
  pairs.all fun p => match fs[p.1]?, fs[p.2]? with
    | some a, some b => yx8 a b
    | _, _ => false
def y47 (E : Env) (C : Calls2) (fb : Nat) (ops : List CI) (pairs : List (Nat × Nat)) (s : St) : Option St :=
  match y5z E C fb ops s with
  | some (s', fs) => if y44 fs pairs then some s' else none
  | none => none
def yg (n : Nat) : Heap := List.replicate n ⟨0, .dead⟩
def yu3 : Option AO → Option AO → Prop
  | none, none => True
  | some a, some b => a.gen = b.gen ∧ (a.c = b.c ∨ ∃ fz es es', a.c = .map fz es ∧ b.c = .map fz es' ∧ es.Perm es')
  | _, _ => False
def ycb (h h' : Heap) : Prop := ∀ i : Nat, yu3 h[i]? h'[i]?
def yc5 (s s' : St) : Prop := s.t = s'.t ∧ ycb s.h s'.h
def mfold {σ : Type} (step : σ → AV × AV → Option σ) : List (AV × AV) → σ → Option σ
  | [], h => some h
  | p :: r, h => match step h p with
    | some h' => mfold step r h'
    | none => none
open Classical in
noncomputable def mall {σ : Type} (same : σ → σ → Prop) (step : σ → AV × AV → Option σ) (fin : σ → Option σ) (es : List (AV × AV)) (h : σ) : Option σ :=
  if ∃ hf, (mfold step es h).bind fin = some hf ∧ ∀ π : List (AV × AV), π.Perm es → ∃ h', (mfold step π h).bind fin = some h' ∧ same h' hf then (mfold step es h).bind fin else none
def yge (car : List Nat) (x : Option St) : Option St := x.map fun s => ⟨restrict car s.t, s.h⟩
def yen : Option (Res × St) → Option St
  | some (.norm, s) => some s
  | _ => none
def mstep (E : Env) (C : Calls2) (fb : Nat) (t0 : Tmps) (car : List Nat) (e : Nat) (cs : List CI) (run : St → Option (Res × St)) (s : St) (p : AV × AV) : Option St :=
  match y1d E C fb cs ⟨(e, .tup [p.1, p.2]) :: (restrict car s.t ++ t0), s.h⟩ with
  | some s2 => yge car (yen (run s2))
  | none => none
def mtail (E : Env) (C : Calls2) (fb : Nat) (t0 : Tmps) (car : List Nat) (ts : List CI) (s : St) : Option St := yge car (y1d E C fb ts ⟨restrict car s.t ++ t0, s.h⟩)
def killAt (h : Heap) (id : Nat) : Heap :=
  match h[id]? with
  | some o => h.set id ⟨o.gen + 1, .dead⟩
  | none => h
def killAll (fb : Nat) : List Nat → Heap → Heap
  | [], h => h
  | k :: ks, h => killAll fb ks (killAt h (fb + k))
def yac (h : Heap) : AV → Option (List (AV × AV) × List Nat)
  | .nilm => some ([], [])
  | .rm es => some (es, [])
  | .lm id g => match fz h yu (.lm id g) with
    | some ⟨.rm es, _, ids⟩ => some (es, ids)
    | _ => none
  | _ => none
noncomputable def exec (E : Env) (C : Calls2) (L : y6p) (fb : Nat) : CCode → St → Option (Res × St)
  | .skip, s => some (.norm, s)
  | .region ops, s => match y1d E C fb ops s with
    | some s' => some (.norm, s')
    | none => none
  | .draw ops pairs, s => match (if pairs.isEmpty then y1d E C fb ops s else y47 E C fb ops pairs s) with
    | some s' => some (.norm, s')
    | none => none
  | .drawN k ops pairs, s => match y47 E C s.h.length ops pairs ⟨s.t, s.h ++ yg k⟩ with
    | some s' => some (.norm, s')
    | none => none
  | .seq a b, s => match exec E C L fb a s with
    | some (.norm, s') => exec E C L fb b s'
    | r => r
  | .cond c a b, s => match c.ev s.t with
    | .bool b' => if b' then exec E C L fb a s else exec E C L fb b s
    | _ => none
  | .block id a, s => match exec E C L fb a s with
    | some (.exit id', s') => if id' = id then some (.norm, s') else some (.exit id', s')
    | r => r
  | .loop live a, s => L live a fb s
  | .mrange pre x live car e cs a ts z, s => match y1d E C fb pre s with
    | some s1 => match yac s1.h (x.ev s1.t) with
      | some (es, ids) => match mall yc5 (mstep E C fb (restrict live s1.t) car e cs fun s2 => exec E C L fb a s2) (mtail E C fb (restrict live s1.t) car ts) es ⟨restrict car s1.t, yf ids s1.h⟩ with
        | some sf => exec E C L fb z ⟨restrict car sf.t ++ restrict live s1.t, sf.h⟩
        | none => none
      | none => none
    | none => none
  | .kill ks a, s => match exec E C L fb a s with
    | some (r, s1) => some (r, ⟨s1.t, killAll fb ks s1.h⟩)
    | none => none
  | .exit id, s => some (.exit id, s)
  | .ret, s => some (.ret, s)
  | .bad, _ => none
def ysr (h : Heap) (t : Tmps) : CRes → Option AV
  | .t n => some (tget t n)
  | .cell n agg size => evLd agg size (tget t n) h
def y2u (h : Heap) (t : Tmps) : List CRes → Option (List AV)
  | [] => some []
  | r :: rs => match ysr h t r, y2u h t rs with
    | some a, some b => some (a :: b)
    | _, _ => none
def yi2 : List AV → AV
  | [v] => v
  | vs => .tup vs
def y31 : Nat → List AV → Tmps
  | _, [] => []
  | n, v :: vs => (n, v) :: y31 (n + 1) vs
noncomputable def y33 (E : Env) (C : Calls2) (L : y6p) (cf : CFunc) (args : List AV) (fb : Nat) (h : Heap) : Option (AV × Heap) :=
  if args.length = cf.params then
    match exec E C L fb cf.body ⟨y31 0 args, h⟩ with
    | some (.norm, s) | some (.ret, s) => match y2u s.h s.t cf.results with
      | some vs => some (yi2 vs, s.h)
      | none => none
    | _ => none
  else none
noncomputable def y56 (E : Env) (C : Calls2) (L : y6p) (f : Nat) (args : List AV) : Option (Ex AV) :=
  match E.fn f with
  | none => E.xp f args
  | some cf =>
    match y33 E C L cf args 0 (yg cf.slots) with
    | some (v, h) => yq h v
    | none => none
noncomputable def ybx (E : Env) (C : Calls2) (L : y6p) (f : Nat) (args : List AV) (fb : Nat) (h : Heap) : Option (AV × Heap) :=
  match E.fn f with
  | none => E.xi f args fb h
  | some cf => if fb = h.length then y33 E C L cf args fb (h ++ yg cf.slots) else y33 E C L cf args fb h
noncomputable def y48 (E : Env) (C : Calls2) (L : y6p) : y6p := fun live a fb s =>
  match exec E C L fb a ⟨restrict live s.t, s.h⟩ with
  | some (.norm, s') => L live a fb s'
  | r => r
noncomputable def both (E : Env) : Nat → Calls2 × y6p
  | 0 => (⟨fun _ _ => none, fun _ _ _ _ => none⟩, fun _ _ _ _ => none)
  | k + 1 => (⟨y56 E (both E k).1 (both E k).2, ybx E (both E k).1 (both E k).2⟩, y48 E (both E k).1 (both E k).2)
open Classical in
noncomputable def lim {α : Type} (f : Nat → Option α) : Option α :=
  if h : ∃ k r, f k = some r then some (Classical.choose (Classical.choose_spec h)) else none
noncomputable def y6 (E : Env) : Calls2 :=
  ⟨fun f args => lim fun k => (both E k).1.p f args, fun f args fb h => lim fun k => (both E k).1.i f args fb h⟩
noncomputable def y54 (E : Env) : y6p := fun live a fb s => lim fun k => (both E k).2 live a fb s
end Go.Vm
/- The value machine: more fuel gives the same answers, and the answers that any fuel gives satisfy the machine's own equations. -/
namespace Go.Vm
def Le {α : Type} (a b : Option α) : Prop := ∀ r, a = some r → b = some r
theorem Le.refl {α : Type} (a : Option α) : Le a a := fun _ h => h
theorem Le.trans {α : Type} {a b c : Option α} (h : Le a b) (h' : Le b c) : Le a c := fun r hr => h' r (h r hr)
structure CLe (C C' : Calls2) : Prop where
  p : ∀ f a, Le (C.p f a) (C'.p f a)
  i : ∀ f a fb h, Le (C.i f a fb h) (C'.i f a fb h)
def LLe (L L' : y6p) : Prop := ∀ live a fb s, Le (L live a fb s) (L' live a fb s)
variable {E : Env} {C C' : Calls2} {L L' : y6p}
theorem yoy (hC : CLe C C') (fb : Nat) (sl : Option Nat) (ro : Bool) (f : Nat) (args : List AV) (h : Heap) :
    Le (y4n E C fb sl ro f args h) (y4n E C' fb sl ro f args h) := by
  intro r hr
  unfold y4n at hr ⊢
  split at hr
  · cases hr
  · rename_i fa hfa
    split at hr
    · cases hr
    · rename_i q hq
      rw [hC.p _ _ _ hq]
      exact hr
theorem ya5 (hC : CLe C C') (fb : Nat) (sl : Option Nat) (ro : Bool) (f : Nat) (args : List AV) (h : Heap) :
    Le (y7 E C fb sl ro f args h) (y7 E C' fb sl ro f args h) := by
  intro r hr
  unfold y7 at hr ⊢
  split
  · rename_i hp; rw [if_pos hp] at hr; exact yoy hC _ _ _ _ _ _ _ hr
  · rename_i hp; rw [if_neg hp] at hr; exact hC.i _ _ _ _ _ hr
theorem yqk (hC : CLe C C') (fb : Nat) (t : Tmps) (h : Heap) (op : COp) : Le (evOp E C fb t h op) (evOp E C' fb t h op) := by
  intro r hr
  cases op with
  | call sl ro f args => exact ya5 hC _ _ _ _ _ _ _ hr
  | callv sl ro f args =>
    simp only [evOp] at hr ⊢
    split at hr
    · exact ya5 hC _ _ _ _ _ _ _ hr
    · cases hr
  | _ => exact hr
theorem y5q (hC : CLe C C') (fb : Nat) (o : CI) (s : St) : Le (y14 E C fb o s) (y14 E C' fb o s) := by
  intro r hr
  unfold y14 at hr ⊢
  split at hr
  · split at hr
    · rename_i hv; rw [yqk hC _ _ _ _ _ hv]; exact hr
    · cases hr
  · exact hr
  · cases hr
theorem y1y (hC : CLe C C') (fb : Nat) : ∀ (l : List CI) (s : St), Le (y1d E C fb l s) (y1d E C' fb l s)
  | [], _ => Le.refl _
  | o :: r, s => by
    intro x hx
    simp only [y1d] at hx ⊢
    split at hx
    · rename_i hs; rw [y5q hC _ _ _ _ hs]; exact y1y hC fb r _ _ hx
    · cases hx
theorem yuy (hC : CLe C C') (fb : Nat) (t : Tmps) (h : Heap) (op : COp) : Le (fpOf E C fb t h op) (fpOf E C' fb t h op) := by
  intro r hr
  cases op with
  | call sl ro f args =>
    simp only [fpOf] at hr ⊢
    split
    · rename_i hp
      rw [if_pos hp] at hr
      split at hr
      · cases hr
      · split at hr
        · cases hr
        · rename_i q hq; rw [hC.p _ _ _ hq]; exact hr
    · rename_i hp; rw [if_neg hp] at hr; cases hr
  | new sl _ => cases sl <;> exact hr
  | box sl _ => cases sl <;> exact hr
  | buildS sl _ _ _ _ => cases sl <;> exact hr
  | mkS sl _ _ _ _ _ => cases sl <;> exact hr
  | s2b sl _ => cases sl <;> exact hr
  | mkm sl => cases sl <;> exact hr
  | app sl _ _ _ _ => cases sl <;> exact hr
  | _ => exact hr
theorem yum (hC : CLe C C') (fb : Nat) (o : CI) (s : St) : Le (fpCI E C fb o s) (fpCI E C' fb o s) := by
  intro r hr
  unfold fpCI at hr ⊢
  split at hr
  · exact yuy hC _ _ _ _ _ hr
  · exact hr
  · cases hr
theorem ynm (hC : CLe C C') (fb : Nat) (o : CI) (s : St) : Le (fpB E C fb o s) (fpB E C' fb o s) := by
  intro r hr
  unfold fpB at hr ⊢
  split at hr
  · exact hr
  · exact yum hC _ _ _ _ hr
theorem y8y (hC : CLe C C') (fb : Nat) : ∀ (l : List CI) (s : St), Le (y5z E C fb l s) (y5z E C' fb l s)
  | [], _ => Le.refl _
  | o :: r, s => by
    intro x hx
    simp only [y5z] at hx ⊢
    split at hx
    · rename_i hf hs
      rw [ynm hC _ _ _ _ hf, y5q hC _ _ _ _ hs]
      split at hx
      · rename_i hr; simp only [y8y hC fb r _ _ hr]; exact hx
      · cases hx
    · cases hx
theorem y9v (hC : CLe C C') (fb : Nat) (ops : List CI) (pairs : List (Nat × Nat)) (s : St) : Le (y47 E C fb ops pairs s) (y47 E C' fb ops pairs s) := by
  intro x hx
  simp only [y47] at hx ⊢
  split at hx
  · rename_i hf; simp only [y8y hC _ _ _ _ hf]; exact hx
  · cases hx
section
variable {σ : Type} {same : σ → σ → Prop}
theorem y71 {st st' : σ → AV × AV → Option σ} (hs : ∀ h p, Le (st h p) (st' h p)) : ∀ (es : List (AV × AV)) (h : σ), Le (mfold st es h) (mfold st' es h)
  | [], _ => fun _ hx => hx
  | p :: r, h => by
    intro x hx
    simp only [mfold] at hx ⊢
    split at hx
    · rename_i h' hh
      rw [hs h p _ hh]
      exact y71 hs r h' x hx
    · cases hx
theorem y39 {st : σ → AV × AV → Option σ} {fn : σ → Option σ} {es : List (AV × AV)} {h hf : σ} :
    mall same st fn es h = some hf ↔ (mfold st es h).bind fn = some hf ∧ ∀ π : List (AV × AV), π.Perm es → ∃ h', (mfold st π h).bind fn = some h' ∧ same h' hf := by
  unfold mall
  constructor
  · intro hx
    split at hx
    · rename_i hc
      obtain ⟨h1, e1, e2⟩ := hc
      rw [e1] at hx
      injection hx with hx
      subst hx
      exact ⟨e1, e2⟩
    · cases hx
  · rintro ⟨e1, e2⟩
    rw [if_pos ⟨hf, e1, e2⟩, e1]
theorem yqx {st : σ → AV × AV → Option σ} {es : List (AV × AV)} {h hf : σ} (h1 : mfold st es h = some hf) (h2 : ∀ π : List (AV × AV), π.Perm es → ∃ h', mfold st π h = some h' ∧ same h' hf) : mall same st some es h = some hf :=
  y39.2 ⟨by rw [h1]; rfl, fun π hp => (h2 π hp).elim fun h' q => ⟨h', by rw [q.1]; rfl, q.2⟩⟩
theorem y6d {st st' : σ → AV × AV → Option σ} {fn fn' : σ → Option σ} (hs : ∀ h p, Le (st h p) (st' h p)) (hf : ∀ h, Le (fn h) (fn' h)) (es : List (AV × AV)) (h : σ) : Le ((mfold st es h).bind fn) ((mfold st' es h).bind fn') := by
  intro x hx
  obtain ⟨h1, e1, e2⟩ := Option.bind_eq_some_iff.1 hx
  exact Option.bind_eq_some_iff.2 ⟨h1, y71 hs es h _ e1, hf _ _ e2⟩
theorem yh4 {st st' : σ → AV × AV → Option σ} {fn fn' : σ → Option σ} (hs : ∀ h p, Le (st h p) (st' h p)) (hn : ∀ h, Le (fn h) (fn' h)) (es : List (AV × AV)) (h : σ) : Le (mall same st fn es h) (mall same st' fn' es h) := by
  intro hf hx
  rw [y39] at hx ⊢
  obtain ⟨e1, e2⟩ := hx
  refine ⟨y6d hs hn es h _ e1, fun π hp => ?_⟩
  obtain ⟨h', f1, f2⟩ := e2 π hp
  exact ⟨h', y6d hs hn π h _ f1, f2⟩
end
theorem y7u {α : Type} : ∀ {l : List α} {i : Nat} {e : α}, l[i]? = some e → (e :: l.eraseIdx i).Perm l
  | [], _, _, h => by simp at h
  | a :: l, 0, e, h => by simp at h; subst h; exact .refl _
  | a :: l, i + 1, e, h => by
    have := y7u (l := l) (i := i) (by simpa using h)
    exact (List.Perm.swap a e _).trans (this.cons a)
theorem y1ci {n : Nat} {Q : Nat → Nat → Prop} (hm : ∀ i k k', k ≤ k' → Q i k → Q i k') (h : ∀ i, i < n → ∃ k, Q i k) : ∃ K, ∀ i, i < n → Q i K := by
  induction n with
  | zero => exact ⟨0, fun i hi => by omega⟩
  | succ n ih =>
    obtain ⟨K, hK⟩ := ih fun i hi => h i (by omega)
    obtain ⟨k, hk⟩ := h n (by omega)
    refine ⟨max K k, fun i hi => ?_⟩
    by_cases e : i = n
    · subst e; exact hm _ _ _ (Nat.le_max_right K k) hk
    · exact hm _ _ _ (Nat.le_max_left K k) (hK i (by omega))
theorem yd0 {α : Type} : ∀ (n : Nat) (es : List α), es.length = n → ∀ (Q : Nat → List α → Prop), (∀ k k' π, k ≤ k' → Q k π → Q k' π) → (∀ π : List α, π.Perm es → ∃ k, Q k π) → ∃ K, ∀ π : List α, π.Perm es → Q K π
  | 0, es, hn, Q, hm, h => by
    have : es = [] := List.eq_nil_of_length_eq_zero hn
    subst this
    obtain ⟨k, hk⟩ := h [] (.refl _)
    exact ⟨k, fun π hp => by rw [List.Perm.eq_nil hp]; exact hk⟩
  | n + 1, es, hn, Q, hm, h => by
    have step : ∀ i, i < n + 1 → ∃ K, ∀ e, es[i]? = some e → ∀ π : List α, π.Perm (es.eraseIdx i) → Q K (e :: π) := by
      intro i hi
      have hi' : i < es.length := by omega
      have he : es[i]? = some es[i] := List.getElem?_eq_getElem hi'
      have hl : (es.eraseIdx i).length = n := by rw [List.length_eraseIdx_of_lt hi']; omega
      obtain ⟨K, hK⟩ := yd0 n (es.eraseIdx i) hl (fun k π => Q k (es[i] :: π)) (fun k k' π hle hq => hm _ _ _ hle hq) (fun π hp => h _ ((hp.cons _).trans (y7u he)))
      refine ⟨K, fun e he2 π hp => ?_⟩
      rw [he] at he2
      injection he2 with he2
      subst he2
      exact hK π hp
    obtain ⟨K, hK⟩ := y1ci (Q := fun i K => ∀ e, es[i]? = some e → ∀ π : List α, π.Perm (es.eraseIdx i) → Q K (e :: π)) (fun i k k' hle hq e he π hp => hm _ _ _ hle (hq e he π hp)) step
    refine ⟨K, fun π hp => ?_⟩
    cases π with
    | nil => have := hp.length_eq; simp at this; omega
    | cons p π =>
      obtain ⟨i, hi⟩ := List.getElem?_of_mem (hp.mem_iff.1 (List.mem_cons_self))
      have hil := (List.getElem?_eq_some_iff.1 hi).1
      exact hK i (by omega) p hi π ((hp.trans (y7u hi).symm).cons_inv)
theorem yrw {σ : Type} {same : σ → σ → Prop} {st : σ → AV × AV → Option σ} {sk : Nat → σ → AV × AV → Option σ} {fn : σ → Option σ} {fk : Nat → σ → Option σ} (hm : ∀ k k' h p, k ≤ k' → Le (sk k h p) (sk k' h p)) (hb : ∀ h p x, st h p = some x → ∃ k, sk k h p = some x)
    (hfm : ∀ k k' h, k ≤ k' → Le (fk k h) (fk k' h)) (hfb : ∀ h x, fn h = some x → ∃ k, fk k h = some x) {es : List (AV × AV)} {h hf : σ}
    (hx : mall same st fn es h = some hf) : ∃ k, mall same (sk k) (fk k) es h = some hf := by
  have one : ∀ (l : List (AV × AV)) (h h' : σ), mfold st l h = some h' → ∃ k, mfold (sk k) l h = some h' := by
    intro l
    induction l with
    | nil => exact fun h h' hh => ⟨0, hh⟩
    | cons p l ih =>
      intro h h' hh
      simp only [mfold] at hh
      split at hh
      · rename_i h1 e1
        obtain ⟨k1, f1⟩ := hb _ _ _ e1
        obtain ⟨k2, f2⟩ := ih _ _ hh
        refine ⟨max k1 k2, ?_⟩
        simp only [mfold, hm _ _ _ _ (Nat.le_max_left k1 k2) _ f1]
        exact y71 (fun h p => hm _ _ h p (Nat.le_max_right k1 k2)) l h1 _ f2
      · cases hh
  have both : ∀ (l : List (AV × AV)) (h h' : σ), (mfold st l h).bind fn = some h' → ∃ k, (mfold (sk k) l h).bind (fk k) = some h' := by
    intro l h h' hh
    obtain ⟨h1, e1, e2⟩ := Option.bind_eq_some_iff.1 hh
    obtain ⟨k1, f1⟩ := one _ _ _ e1
    obtain ⟨k2, f2⟩ := hfb _ _ e2
    refine ⟨max k1 k2, Option.bind_eq_some_iff.2 ⟨h1, y71 (fun h p => hm _ _ h p (Nat.le_max_left k1 k2)) l h _ f1, hfm _ _ _ (Nat.le_max_right k1 k2) _ f2⟩⟩
  rw [y39] at hx
  obtain ⟨e1, e2⟩ := hx
  obtain ⟨k0, f0⟩ := both _ _ _ e1
  obtain ⟨K, hK⟩ := yd0 es.length es rfl (fun k π => ∃ h', (mfold (sk k) π h).bind (fk k) = some h' ∧ same h' hf) (fun k k' π hle hq => by
    obtain ⟨h', q1, q2⟩ := hq
    exact ⟨h', y6d (fun h p => hm _ _ h p hle) (fun h => hfm _ _ h hle) π h _ q1, q2⟩) (fun π hp => by
    obtain ⟨h', q1, q2⟩ := e2 π hp
    obtain ⟨k, q3⟩ := both _ _ _ q1
    exact ⟨k, h', q3, q2⟩)
  refine ⟨max k0 K, ?_⟩
  rw [y39]
  refine ⟨y6d (fun h p => hm _ _ h p (Nat.le_max_left k0 K)) (fun h => hfm _ _ h (Nat.le_max_left k0 K)) es h _ f0, fun π hp => ?_⟩
  obtain ⟨h', q1, q2⟩ := hK π hp
  exact ⟨h', y6d (fun h p => hm _ _ h p (Nat.le_max_right k0 K)) (fun h => hfm _ _ h (Nat.le_max_right k0 K)) π h _ q1, q2⟩
theorem ylx {car : List Nat} {x y : Option St} (h : Le x y) : Le (yge car x) (yge car y) := by
  intro q hq
  obtain ⟨s, e1, e2⟩ := Option.map_eq_some_iff.1 hq
  exact Option.map_eq_some_iff.2 ⟨s, h _ e1, e2⟩
theorem y9f {x : Option (Res × St)} {s : St} (e : yen x = some s) : x = some (.norm, s) := by
  unfold yen at e
  split at e
  · injection e with e
    rw [e]
  · cases e
theorem y11t {x y : Option (Res × St)} (h : Le x y) : Le (yen x) (yen y) := by
  intro q hq
  rw [h _ (y9f hq), yen]
theorem yfc (hC : CLe C C') {fb : Nat} {t0 : Tmps} {car : List Nat} {e : Nat} {cs : List CI} {run run' : St → Option (Res × St)} (hr : ∀ s, Le (run s) (run' s)) (s : St) (p : AV × AV) : Le (mstep E C fb t0 car e cs run s p) (mstep E C' fb t0 car e cs run' s p) := by
  intro q hq
  unfold mstep at hq ⊢
  split at hq
  · rename_i s2 hs2
    rw [y1y hC _ _ _ _ hs2]
    exact ylx (y11t (hr s2)) q hq
  · cases hq
theorem yfd (hC : CLe C C') {fb : Nat} {t0 : Tmps} {car : List Nat} {ts : List CI} (s : St) : Le (mtail E C fb t0 car ts s) (mtail E C' fb t0 car ts s) := ylx (y1y hC _ _ _)
theorem y2g (hC : CLe C C') (hL : LLe L L') (fb : Nat) : ∀ (c : CCode) (s : St), Le (exec E C L fb c s) (exec E C' L' fb c s) := by
  intro c
  induction c with
  | skip => exact fun _ => Le.refl _
  | bad => exact fun _ => Le.refl _
  | region ops =>
    intro s x hx
    simp only [exec] at hx ⊢
    split at hx
    · rename_i hr; rw [y1y hC _ _ _ _ hr]; exact hx
    · cases hx
  | draw ops pairs =>
    intro s x hx
    simp only [exec] at hx ⊢
    by_cases hp : pairs.isEmpty = true
    · simp only [hp, if_true] at hx ⊢
      split at hx
      · rename_i hr; rw [y1y hC _ _ _ _ hr]; exact hx
      · cases hx
    · simp only [if_neg hp] at hx ⊢
      split at hx
      · rename_i hr; rw [y9v hC _ _ _ _ _ hr]; exact hx
      · cases hx
  | drawN k ops pairs =>
    intro s x hx
    simp only [exec] at hx ⊢
    split at hx
    · rename_i hr; rw [y9v hC _ _ _ _ _ hr]; exact hx
    · cases hx
  | seq a b iha ihb =>
    intro s x hx
    simp only [exec] at hx ⊢
    split at hx
    · rename_i hr; rw [iha _ _ hr]; exact ihb _ _ hx
    · rename_i r hne
      rw [iha _ _ hx]
      split
      · rename_i s' he; exact (hne s' (hx.trans he)).elim
      · rfl
  | cond c a b iha ihb =>
    intro s x hx
    simp only [exec] at hx ⊢
    split at hx
    · split
      · rename_i hb; rw [if_pos hb] at hx; exact iha _ _ hx
      · rename_i hb; rw [if_neg hb] at hx; exact ihb _ _ hx
    · cases hx
  | block id a iha =>
    intro s x hx
    simp only [exec] at hx ⊢
    split at hx
    · rename_i hr; rw [iha _ _ hr]; exact hx
    · rename_i r hne
      rw [iha _ _ hx]
      split
      · rename_i id' s' he; exact (hne id' s' (hx.trans he)).elim
      · rfl
  | loop live a _ => exact fun s => hL _ _ _ _
  | mrange pre x live car e cs a ts z iha ihz =>
    intro s y hx
    simp only [exec] at hx ⊢
    split at hx
    · rename_i s1 hs1
      rw [y1y hC _ _ _ _ hs1]
      simp only
      split at hx
      · rename_i es ids hv
        split at hx
        · rename_i h' hh
          rw [yh4 (yfc hC iha) (yfd hC) _ _ _ hh]
          exact ihz _ _ hx
        · cases hx
      · cases hx
    · cases hx
  | kill ks a iha =>
    intro s y hx
    simp only [exec] at hx ⊢
    split at hx
    · rename_i r s1 hs1
      rw [iha s _ hs1]
      exact hx
    · cases hx
  | exit id => exact fun _ => Le.refl _
  | ret => exact fun _ => Le.refl _
theorem y6g (hC : CLe C C') (hL : LLe L L') (cf : CFunc) (args : List AV) (fb : Nat) (h : Heap) :
    Le (y33 E C L cf args fb h) (y33 E C' L' cf args fb h) := by
  intro x hx
  unfold y33 at hx ⊢
  split
  · rename_i hp
    rw [if_pos hp] at hx
    split at hx
    · rename_i hr; rw [y2g hC hL _ _ _ _ hr]; exact hx
    · rename_i hr; rw [y2g hC hL _ _ _ _ hr]; exact hx
    · cases hx
  · rename_i hp; rw [if_neg hp] at hx; cases hx
theorem y9s (hC : CLe C C') (hL : LLe L L') (f : Nat) (args : List AV) : Le (y56 E C L f args) (y56 E C' L' f args) := by
  intro x hx
  unfold y56 at hx ⊢
  split
  · rename_i hf; rw [hf] at hx; exact hx
  · rename_i cf hf
    rw [hf] at hx
    simp only at hx
    split at hx
    · rename_i hr; rw [y6g hC hL _ _ _ _ _ hr]; exact hx
    · cases hx
theorem ydd (hC : CLe C C') (hL : LLe L L') (f : Nat) (args : List AV) (fb : Nat) (h : Heap) : Le (ybx E C L f args fb h) (ybx E C' L' f args fb h) := by
  intro x hx
  unfold ybx at hx ⊢
  split
  · rename_i hf; rw [hf] at hx; exact hx
  · rename_i cf hf
    rw [hf] at hx
    simp only at hx
    split
    · rename_i hb; rw [if_pos hb] at hx; exact y6g hC hL _ _ _ _ _ hx
    · rename_i hb; rw [if_neg hb] at hx; exact y6g hC hL _ _ _ _ _ hx
theorem y9n (hC : CLe C C') (hL : LLe L L') : LLe (y48 E C L) (y48 E C' L') := by
  intro live a fb s x hx
  unfold y48 at hx ⊢
  split at hx
  · rename_i hr; rw [y2g hC hL _ _ _ _ hr]; exact hL _ _ _ _ _ hx
  · rename_i r hne
    rw [y2g hC hL _ _ _ _ hx]
    split
    · rename_i s' he; exact (hne s' (hx.trans he)).elim
    · rfl
theorem ygx (E : Env) : ∀ k, CLe (both E k).1 (both E (k + 1)).1 ∧ LLe (both E k).2 (both E (k + 1)).2
  | 0 => ⟨⟨fun _ _ _ h => by simp [both] at h, fun _ _ _ _ _ h => by simp [both] at h⟩, fun _ _ _ _ _ h => by simp [both] at h⟩
  | k + 1 => by
    obtain ⟨hc, hl⟩ := ygx E k
    exact ⟨⟨y9s hc hl, ydd hc hl⟩, y9n hc hl⟩
theorem y1g (E : Env) {k k' : Nat} (h : k ≤ k') : CLe (both E k).1 (both E k').1 ∧ LLe (both E k).2 (both E k').2 := by
  induction h with
  | refl => exact ⟨⟨fun _ _ => Le.refl _, fun _ _ _ _ => Le.refl _⟩, fun _ _ _ _ => Le.refl _⟩
  | step _ ih =>
    obtain ⟨hc, hl⟩ := ygx E _
    exact ⟨⟨fun f a => (ih.1.p f a).trans (hc.p f a), fun f a fb h => (ih.1.i f a fb h).trans (hc.i f a fb h)⟩,
      fun l a fb s => (ih.2 l a fb s).trans (hl l a fb s)⟩
theorem yyj {α : Type} {f : Nat → Option α} (hm : ∀ k k', k ≤ k' → Le (f k) (f k')) (r : α) : lim f = some r ↔ ∃ k, f k = some r := by
  unfold lim
  constructor
  · intro h
    split at h
    · rename_i hex
      injection h with h
      subst h
      exact ⟨_, Classical.choose_spec (Classical.choose_spec hex)⟩
    · cases h
  · rintro ⟨k, hk⟩
    have hex : ∃ k r, f k = some r := ⟨k, r, hk⟩
    rw [dif_pos hex]
    have h2 := Classical.choose_spec (Classical.choose_spec hex)
    have a := hm k (max k (Classical.choose hex)) (Nat.le_max_left _ _) _ hk
    have b := hm (Classical.choose hex) (max k (Classical.choose hex)) (Nat.le_max_right _ _) _ h2
    rw [a] at b
    exact b.symm
theorem y9h (f : Nat) (args : List AV) (r : Ex AV) : (y6 E).p f args = some r ↔ ∃ k, (both E k).1.p f args = some r :=
  yyj (fun _ _ h => (y1g E h).1.p f args) r
theorem yi6 (f : Nat) (args : List AV) (fb : Nat) (h : Heap) (r : AV × Heap) : (y6 E).i f args fb h = some r ↔ ∃ k, (both E k).1.i f args fb h = some r :=
  yyj (fun _ _ hk => (y1g E hk).1.i f args fb h) r
theorem yeu (live : List Nat) (a : CCode) (fb : Nat) (s : St) (r : Res × St) : y54 E live a fb s = some r ↔ ∃ k, (both E k).2 live a fb s = some r :=
  yyj (fun _ _ hk => (y1g E hk).2 live a fb s) r
theorem yev (k : Nat) : CLe (both E k).1 (y6 E) := ⟨fun _ _ _ h => (y9h _ _ _).2 ⟨k, h⟩, fun _ _ _ _ _ h => (yi6 _ _ _ _ _).2 ⟨k, h⟩⟩
theorem yfa (k : Nat) : LLe (both E k).2 (y54 E) := fun _ _ _ _ _ h => (yeu _ _ _ _ _).2 ⟨k, h⟩
theorem yo9 {fb : Nat} {sl : Option Nat} {ro : Bool} {f : Nat} {args : List AV} {h : Heap} {r : AV × Heap}
    (hr : y4n E (y6 E) fb sl ro f args h = some r) : ∃ k, y4n E (both E k).1 fb sl ro f args h = some r := by
  unfold y4n at hr
  split at hr
  · cases hr
  · rename_i fa hfa
    split at hr
    · cases hr
    · rename_i q hq
      obtain ⟨k, hk⟩ := (y9h _ _ _).1 hq
      refine ⟨k, ?_⟩
      unfold y4n
      rw [hfa]
      simp only [hk]
      exact hr
theorem y9q {fb : Nat} {sl : Option Nat} {ro : Bool} {f : Nat} {args : List AV} {h : Heap} {r : AV × Heap}
    (hr : y7 E (y6 E) fb sl ro f args h = some r) : ∃ k, y7 E (both E k).1 fb sl ro f args h = some r := by
  unfold y7 at hr ⊢
  split at hr
  · rename_i hp; simp only [if_pos hp]; exact yo9 hr
  · rename_i hp; simp only [if_neg hp]; exact (yi6 _ _ _ _ _).1 hr
theorem yye {fb : Nat} {t : Tmps} {h : Heap} {op : COp} {r : AV × Heap} (hr : evOp E (y6 E) fb t h op = some r) : ∃ k, evOp E (both E k).1 fb t h op = some r := by
  cases op with
  | call sl ro f args => exact y9q hr
  | callv sl ro f args =>
    simp only [evOp] at hr ⊢
    split at hr
    · exact y9q hr
    · cases hr
  | _ => exact ⟨0, hr⟩
theorem ycg {fb : Nat} {o : CI} {s s' : St} (hr : y14 E (y6 E) fb o s = some s') : ∃ k, y14 E (both E k).1 fb o s = some s' := by
  unfold y14 at hr ⊢
  split at hr
  · split at hr
    · rename_i hv
      obtain ⟨k, hk⟩ := yye hv
      exact ⟨k, by rw [hk]; exact hr⟩
    · cases hr
  · exact ⟨0, hr⟩
  · cases hr
theorem y3j {fb : Nat} : ∀ {l : List CI} {s s' : St}, y1d E (y6 E) fb l s = some s' → ∃ k, y1d E (both E k).1 fb l s = some s'
  | [], _, _, h => ⟨0, h⟩
  | o :: r, s, s', h => by
    simp only [y1d] at h
    split at h
    · rename_i hs
      obtain ⟨k, hk⟩ := ycg hs
      obtain ⟨k2, hk2⟩ := y3j h
      refine ⟨max k k2, ?_⟩
      simp only [y1d]
      rw [y5q (y1g E (Nat.le_max_left k k2)).1 _ _ _ _ hk]
      exact y1y (y1g E (Nat.le_max_right k k2)).1 _ _ _ _ hk2
    · cases h
theorem ywi {fb : Nat} {t : Tmps} {h : Heap} {op : COp} {r : List Nat × List Nat} (hr : fpOf E (y6 E) fb t h op = some r) : ∃ k, fpOf E (both E k).1 fb t h op = some r := by
  cases op with
  | call sl ro f args =>
    simp only [fpOf] at hr ⊢
    split at hr
    · rename_i hp
      simp only [if_pos hp]
      split at hr
      · cases hr
      · split at hr
        · cases hr
        · rename_i q hq
          obtain ⟨k, hk⟩ := (y9h _ _ _).1 hq
          exact ⟨k, by rw [hk]; exact hr⟩
    · cases hr
  | new sl _ => cases sl <;> exact ⟨0, hr⟩
  | box sl _ => cases sl <;> exact ⟨0, hr⟩
  | buildS sl _ _ _ _ => cases sl <;> exact ⟨0, hr⟩
  | mkS sl _ _ _ _ _ => cases sl <;> exact ⟨0, hr⟩
  | s2b sl _ => cases sl <;> exact ⟨0, hr⟩
  | mkm sl => cases sl <;> exact ⟨0, hr⟩
  | app sl _ _ _ _ => cases sl <;> exact ⟨0, hr⟩
  | _ => exact ⟨0, hr⟩
theorem yds {fb : Nat} : ∀ {l : List CI} {s : St} {x : St × List (List Nat × List Nat)}, y5z E (y6 E) fb l s = some x → ∃ k, y5z E (both E k).1 fb l s = some x
  | [], _, _, h => ⟨0, h⟩
  | o :: r, s, x, h => by
    simp only [y5z] at h
    split at h
    · rename_i hf hs
      split at h
      · rename_i hr
        obtain ⟨k1, hk1⟩ : ∃ k, fpB E (both E k).1 fb o s = some _ := by
          unfold fpB fpCI at hf ⊢
          split at hf
          · exact ⟨0, hf⟩
          split at hf
          · exact ywi hf
          · exact ⟨0, hf⟩
          · cases hf
        obtain ⟨k2, hk2⟩ := ycg hs
        obtain ⟨k3, hk3⟩ := yds hr
        refine ⟨max k1 (max k2 k3), ?_⟩
        simp only [y5z]
        rw [ynm (y1g E (Nat.le_max_left k1 (max k2 k3))).1 _ _ _ _ hk1,
          y5q (y1g E (Nat.le_trans (Nat.le_max_left k2 k3) (Nat.le_max_right k1 _))).1 _ _ _ _ hk2]
        simp only [y8y (y1g E (Nat.le_trans (Nat.le_max_right k2 k3) (Nat.le_max_right k1 _))).1 _ _ _ _ hk3]
        exact h
      · cases h
    · cases h
theorem y9l {fb : Nat} {ops : List CI} {pairs : List (Nat × Nat)} {s s' : St} (h : y47 E (y6 E) fb ops pairs s = some s') : ∃ k, y47 E (both E k).1 fb ops pairs s = some s' := by
  simp only [y47] at h ⊢
  split at h
  · rename_i hf
    obtain ⟨k, hk⟩ := yds hf
    exact ⟨k, by simp only [hk]; exact h⟩
  · cases h
theorem y8k {fb : Nat} : ∀ (c : CCode) {s : St} {x : Res × St}, exec E (y6 E) (y54 E) fb c s = some x → ∃ k, exec E (both E k).1 (both E k).2 fb c s = some x := by
  intro c
  induction c with
  | skip => exact fun h => ⟨0, h⟩
  | bad => exact fun h => ⟨0, h⟩
  | region ops =>
    intro s x hx
    simp only [exec] at hx ⊢
    split at hx
    · rename_i hr
      obtain ⟨k, hk⟩ := y3j hr
      exact ⟨k, by rw [hk]; exact hx⟩
    · cases hx
  | draw ops pairs =>
    intro s x hx
    simp only [exec] at hx ⊢
    by_cases hp : pairs.isEmpty = true
    · simp only [hp, if_true] at hx ⊢
      split at hx
      · rename_i hr
        obtain ⟨k, hk⟩ := y3j hr
        exact ⟨k, by rw [hk]; exact hx⟩
      · cases hx
    · simp only [if_neg hp] at hx ⊢
      split at hx
      · rename_i hr
        obtain ⟨k, hk⟩ := y9l hr
        exact ⟨k, by rw [hk]; exact hx⟩
      · cases hx
  | drawN k ops pairs =>
    intro s x hx
    simp only [exec] at hx ⊢
    split at hx
    · rename_i hr
      obtain ⟨k, hk⟩ := y9l hr
      exact ⟨k, by rw [hk]; exact hx⟩
    · cases hx
  | seq a b iha ihb =>
    intro s x hx
    simp only [exec] at hx
    split at hx
    · rename_i s' hr
      obtain ⟨k, hk⟩ := iha hr
      obtain ⟨k2, hk2⟩ := ihb hx
      refine ⟨max k k2, ?_⟩
      simp only [exec]
      rw [y2g (y1g E (Nat.le_max_left k k2)).1 (y1g E (Nat.le_max_left k k2)).2 _ _ _ _ hk]
      exact y2g (y1g E (Nat.le_max_right k k2)).1 (y1g E (Nat.le_max_right k k2)).2 _ _ _ _ hk2
    · rename_i r hne
      obtain ⟨k, hk⟩ := iha hx
      refine ⟨k, ?_⟩
      simp only [exec]
      rw [hk]
      split
      · rename_i s' he; exact (hne s' (hx.trans he)).elim
      · rfl
  | cond c a b iha ihb =>
    intro s x hx
    simp only [exec] at hx ⊢
    split at hx
    · rename_i bb hc
      cases bb with
      | true => obtain ⟨k, hk⟩ := iha hx; exact ⟨k, hk⟩
      | false => obtain ⟨k, hk⟩ := ihb hx; exact ⟨k, hk⟩
    · cases hx
  | block id a iha =>
    intro s x hx
    simp only [exec] at hx
    split at hx
    · rename_i hr
      obtain ⟨k, hk⟩ := iha hr
      exact ⟨k, by simp only [exec]; rw [hk]; exact hx⟩
    · rename_i r hne
      obtain ⟨k, hk⟩ := iha hx
      refine ⟨k, ?_⟩
      simp only [exec]
      rw [hk]
      split
      · rename_i id' s' he; exact (hne id' s' (hx.trans he)).elim
      · rfl
  | loop live a _ => exact fun h => (yeu _ _ _ _ _).1 h
  | kill ks a iha =>
    intro s y hx
    simp only [exec] at hx
    split at hx
    · rename_i r s1 hs1
      obtain ⟨k, hk⟩ := iha hs1
      refine ⟨k, ?_⟩
      simp only [exec]
      rw [hk]
      exact hx
    · cases hx
  | mrange pre x live car e cs a ts z iha ihz =>
    intro s y hx
    simp only [exec] at hx
    split at hx
    · rename_i s1 hs1
      obtain ⟨k0, h0⟩ := y3j hs1
      split at hx
      · rename_i es ids hv
        split at hx
        · rename_i h' hh
          obtain ⟨k1, h1⟩ := yrw (sk := fun k => mstep E (both E k).1 fb (restrict live s1.t) car e cs fun s2 => exec E (both E k).1 (both E k).2 fb a s2) (fk := fun k => mtail E (both E k).1 fb (restrict live s1.t) car ts)
            (fun k k' h p hle => yfc (y1g E hle).1 (fun _ => y2g (y1g E hle).1 (y1g E hle).2 _ _ _) h p) (fun h p q hq => by
              unfold mstep at hq
              split at hq
              · rename_i s2 hs2
                obtain ⟨k2, h2⟩ := y3j hs2
                obtain ⟨s3, e1, e2⟩ := Option.map_eq_some_iff.1 hq
                obtain ⟨k3, h3⟩ := iha (y9f e1)
                refine ⟨max k2 k3, ?_⟩
                unfold mstep
                rw [y1y (y1g E (Nat.le_max_left k2 k3)).1 _ _ _ _ h2]
                simp only
                rw [y2g (y1g E (Nat.le_max_right k2 k3)).1 (y1g E (Nat.le_max_right k2 k3)).2 _ _ _ _ h3, yen, yge, Option.map_some, e2]
              · cases hq) (fun k k' h hle => yfd (y1g E hle).1 h) (fun h x hq => by
              obtain ⟨s2, e1, e2⟩ := Option.map_eq_some_iff.1 hq
              obtain ⟨k2, h2⟩ := y3j e1
              exact ⟨k2, Option.map_eq_some_iff.2 ⟨s2, h2, e2⟩⟩) hh
          obtain ⟨kz, hz⟩ := ihz hx
          have lm : ∀ {k}, k ≤ max kz (max k0 k1) → CLe (both E k).1 (both E (max kz (max k0 k1))).1 ∧ LLe (both E k).2 (both E (max kz (max k0 k1))).2 := fun hk => y1g E hk
          have l0 : k0 ≤ max kz (max k0 k1) := by omega
          have l1 : k1 ≤ max kz (max k0 k1) := by omega
          refine ⟨max kz (max k0 k1), ?_⟩
          simp only [exec]
          rw [y1y (lm l0).1 _ _ _ _ h0]
          simp only [hv]
          rw [yh4 (yfc (lm l1).1 fun _ => y2g (lm l1).1 (lm l1).2 _ _ _) (yfd (lm l1).1) _ _ _ h1]
          exact y2g (lm (Nat.le_max_left _ _)).1 (lm (Nat.le_max_left _ _)).2 _ _ _ _ hz
        · cases hx
      · cases hx
    · cases hx
  | exit id => exact fun h => ⟨0, h⟩
  | ret => exact fun h => ⟨0, h⟩
theorem y6o {cf : CFunc} {args : List AV} {fb : Nat} {h : Heap} {r : AV × Heap} (hx : y33 E (y6 E) (y54 E) cf args fb h = some r) :
    ∃ k, y33 E (both E k).1 (both E k).2 cf args fb h = some r := by
  unfold y33 at hx ⊢
  split at hx
  · rename_i hp
    simp only [if_pos hp]
    split at hx
    · rename_i hr; obtain ⟨k, hk⟩ := y8k _ hr; exact ⟨k, by rw [hk]; exact hx⟩
    · rename_i hr; obtain ⟨k, hk⟩ := y8k _ hr; exact ⟨k, by rw [hk]; exact hx⟩
    · cases hx
  · cases hx
theorem yiy {α : Type} {a b : Option α} (h : ∀ r, a = some r ↔ b = some r) : a = b := by
  cases a with
  | none =>
    cases b with
    | none => rfl
    | some y => exact ((h y).2 rfl)
  | some x => exact ((h x).1 rfl).symm
theorem yoh (f : Nat) (args : List AV) : (y6 E).p f args = y56 E (y6 E) (y54 E) f args := by
  apply yiy
  intro r
  rw [y9h]
  constructor
  · rintro ⟨k, hk⟩
    cases k with
    | zero => simp [both] at hk
    | succ k => exact y9s (yev k) (yfa k) _ _ _ hk
  · intro h
    suffices h2 : ∃ k, y56 E (both E k).1 (both E k).2 f args = some r by
      obtain ⟨k, hk⟩ := h2; exact ⟨k + 1, hk⟩
    unfold y56 at h ⊢
    split at h
    · rename_i hf; exact ⟨0, by simpa [hf] using h⟩
    · rename_i cf hf
      split at h
      · rename_i hr; obtain ⟨k, hk⟩ := y6o hr; exact ⟨k, by simp only [hf, hk]; exact h⟩
      · cases h
theorem ye4 (f : Nat) (args : List AV) (fb : Nat) (h : Heap) : (y6 E).i f args fb h = ybx E (y6 E) (y54 E) f args fb h := by
  apply yiy
  intro r
  rw [yi6]
  constructor
  · rintro ⟨k, hk⟩
    cases k with
    | zero => simp [both] at hk
    | succ k => exact ydd (yev k) (yfa k) _ _ _ _ _ hk
  · intro hx
    suffices h2 : ∃ k, ybx E (both E k).1 (both E k).2 f args fb h = some r by
      obtain ⟨k, hk⟩ := h2; exact ⟨k + 1, hk⟩
    unfold ybx at hx ⊢
    split at hx
    · rename_i hf; exact ⟨0, by simpa [hf] using hx⟩
    · rename_i cf hf
      split at hx
      · rename_i hb; obtain ⟨k, hk⟩ := y6o hx; exact ⟨k, by simp only [hf, if_pos hb]; exact hk⟩
      · rename_i hb; obtain ⟨k, hk⟩ := y6o hx; exact ⟨k, by simp only [hf, if_neg hb]; exact hk⟩
theorem y02 (live : List Nat) (a : CCode) (fb : Nat) (s : St) : y54 E live a fb s = y48 E (y6 E) (y54 E) live a fb s := by
  apply yiy
  intro r
  rw [yeu]
  constructor
  · rintro ⟨k, hk⟩
    cases k with
    | zero => simp [both] at hk
    | succ k => exact y9n (yev k) (yfa k) _ _ _ _ _ hk
  · intro hx
    suffices h2 : ∃ k, y48 E (both E k).1 (both E k).2 live a fb s = some r by
      obtain ⟨k, hk⟩ := h2; exact ⟨k + 1, hk⟩
    unfold y48 at hx
    split at hx
    · rename_i hr
      obtain ⟨k, hk⟩ := y8k _ hr
      obtain ⟨k2, hk2⟩ := (yeu _ _ _ _ _).1 hx
      refine ⟨max k k2, ?_⟩
      unfold y48
      rw [y2g (y1g E (Nat.le_max_left k k2)).1 (y1g E (Nat.le_max_left k k2)).2 _ _ _ _ hk]
      exact (y1g E (Nat.le_max_right k k2)).2 _ _ _ _ _ hk2
    · rename_i x hne
      obtain ⟨k, hk⟩ := y8k _ hx
      refine ⟨k, ?_⟩
      unfold y48
      rw [hk]
      split
      · rename_i s' he; exact (hne s' (hx.trans he)).elim
      · rfl
end Go.Vm
/- The value machine: what its values and its heap say of the model's values and worlds. -/
namespace Go.Vm
open Go.RowKit
structure Loc where
  blk : Nat
  base : Nat
  es : Nat
  cap : Nat
abbrev MapT := Nat → Option (Nat × Loc)
def All2 {α β : Type} (R : α → β → Prop) : List α → List β → Prop
  | [], [] => True
  | a :: as, b :: bs => R a b ∧ All2 R as bs
  | _, _ => False
theorem All2.length {α β : Type} {R : α → β → Prop} : ∀ {as : List α} {bs : List β}, All2 R as bs → as.length = bs.length
  | [], [], _ => rfl
  | _ :: _, _ :: _, h => by rw [List.length_cons, List.length_cons, All2.length h.2]
  | [], _ :: _, h => h.elim
  | _ :: _, [], h => h.elim
theorem All2.get {α β : Type} {R : α → β → Prop} : ∀ {as : List α} {bs : List β}, All2 R as bs → ∀ {i : Nat} {a : α} {b : β}, as[i]? = some a → bs[i]? = some b → R a b
  | _ :: _, _ :: _, h, 0, _, _, h1, h2 => by simp at h1 h2; subst h1; subst h2; exact h.1
  | _ :: _, _ :: _, h, i + 1, _, _, h1, h2 => All2.get h.2 (i := i) (by simpa using h1) (by simpa using h2)
  | [], [], _, _, _, _, h1, _ => by simp at h1
  | [], _ :: _, h, _, _, _, _, _ => h.elim
  | _ :: _, [], h, _, _, _, _, _ => h.elim
theorem All2.of {α β : Type} {R : α → β → Prop} : ∀ {as : List α} {bs : List β}, as.length = bs.length → (∀ (i : Nat) (a : α) (b : β), as[i]? = some a → bs[i]? = some b → R a b) → All2 R as bs
  | [], [], _, _ => trivial
  | a :: as, b :: bs, hl, h => ⟨h 0 a b rfl rfl, All2.of (by simpa using hl) fun i x y h1 h2 => h (i + 1) x y (by simpa using h1) (by simpa using h2)⟩
  | [], _ :: _, h, _ => by cases h
  | _ :: _, [], h, _ => by cases h
theorem All2.mono {α β : Type} {R R' : α → β → Prop} {as : List α} {bs : List β} (h : All2 R as bs) (hr : ∀ a b, R a b → R' a b) : All2 R' as bs :=
  .of h.length fun _ _ _ h1 h2 => hr _ _ (h.get h1 h2)
def KR (p q : AV × AV) : Prop := p.1 ≠ q.1 ∧ ∃ agg ks r, y1o agg ks p.1 q.1 = some r
def y5a (R : Value → AV → Prop) (mes : Array MapEntry) (clock : Nat) (es : List (AV × AV)) : Prop :=
  ∃ ms : List MapEntry, ms.Perm mes.toList ∧ All2 (fun e p => R e.key p.1 ∧ R e.val p.2) ms es ∧ es.Pairwise KR ∧ (∀ e ∈ ms, e.born < clock) ∧ (ms.map (·.born)).Nodup
theorem y5a.mono {R R' : Value → AV → Prop} {mes : Array MapEntry} {clock : Nat} {es : List (AV × AV)} (h : y5a R mes clock es) (hr : ∀ v a, R v a → R' v a) : y5a R' mes clock es := by
  obtain ⟨ms, h1, h2, h3⟩ := h
  exact ⟨ms, h1, h2.mono fun e p h => ⟨hr _ _ h.1, hr _ _ h.2⟩, h3⟩
theorem y5a.size {R : Value → AV → Prop} {mes : Array MapEntry} {clock : Nat} {es : List (AV × AV)} (h : y5a R mes clock es) : mes.size = es.length := by
  obtain ⟨ms, h1, h2, _⟩ := h
  rw [← h2.length, h1.length_eq, Array.length_toList]
inductive PRep (nm : Nat → Option Nat) (w : World) (F : Nat → Prop) : Value → AV → Prop
  | int (k : IntKind) (n : Int) : PRep nm w F (.int k n) (.int k n)
  | bool (b : Bool) : PRep nm w F (.bool b) (.bool b)
  | str (s : ByteArray) : PRep nm w F (.string s) (.str s.data.toList)
  | nilp : PRep nm w F (.pointer none) .nilp
  | nils : PRep nm w F (.slice none 0 0) .nils
  | nilm : PRep nm w F (.map none) .nilm
  | rp (a : Addr) (cs : List AV) (f : Nat → Value) (hs : a.spot = none)
      (hc : ∀ j l, cs[j]? = some l → F a.block ∧ yj l = true ∧ w.cell? ⟨a.block, a.off + j, none⟩ = some (f j))
      (hr : ∀ j l, cs[j]? = some l → PRep nm w F (f j) l) : PRep nm w F (.pointer (some a)) (.rp cs)
  | rs (a : Addr) (cap es : Nat) (rows : List (List AV)) (f : Nat → Nat → Value) (hs : rows ≠ [] → a.spot = none) (hcap : rows.length ≤ cap)
      (hes : ∀ (i : Nat) (row : List AV), rows[i]? = some row → row.length = es)
      (hc : ∀ (i : Nat) (row : List AV) (j : Nat) (l : AV), rows[i]? = some row → row[j]? = some l →
        F a.block ∧ yj l = true ∧ w.cell? ⟨a.block, a.off + (i * es + j), none⟩ = some (f i j))
      (hr : ∀ (i : Nat) (row : List AV) (j : Nat) (l : AV), rows[i]? = some row → row[j]? = some l → PRep nm w F (f i j) l) :
      PRep nm w F (.slice (some a) rows.length cap) (.rs es rows)
  | rm (r : Nat) (mes : Array MapEntry) (clock : Nat) (ms : List MapEntry) (es : List (AV × AV)) (hF : F r) (hh : w.heap[r]? = some (.map mes clock)) (hp : ms.Perm mes.toList) (hn : ms.length = es.length)
      (hk : ∀ (i : Nat) (e : MapEntry) (p : AV × AV), ms[i]? = some e → es[i]? = some p → PRep nm w F e.key p.1)
      (hv : ∀ (i : Nat) (e : MapEntry) (p : AV × AV), ms[i]? = some e → es[i]? = some p → PRep nm w F e.val p.2)
      (hkr : es.Pairwise KR) (hb : ∀ e ∈ ms, e.born < clock) (hd : (ms.map (·.born)).Nodup) : PRep nm w F (.map (some r)) (.rm es)
  | agg (vs : Array Value) (cs : List AV) (hn : vs.size = cs.length)
      (hr : ∀ (j : Nat) (v : Value) (l : AV), vs[j]? = some v → cs[j]? = some l → PRep nm w F v l) : PRep nm w F (.agg vs) (.agg cs)
  | tup (vs : Array Value) (cs : List AV) (hn : vs.size = cs.length)
      (hr : ∀ (j : Nat) (v : Value) (l : AV), vs[j]? = some v → cs[j]? = some l → PRep nm w F v l) : PRep nm w F (.tuple vs) (.tup cs)
  | fn (f key : Nat) (h : nm f = some key) : PRep nm w F (.func (.func f) #[] #[]) (.fn key [])
inductive Rep (nm : Nat → Option Nat) (w : World) (F : Nat → Prop) (m : MapT) (G : List Nat) : Value → AV → Prop
  | pure {v : Value} {a : AV} (h : PRep nm w F v a) : Rep nm w F m G v a
  | undef (v : Value) : Rep nm w F m G v .undef
  | lp (id g i off : Nat) (loc : Loc) (hg : ∃ g0, G[id]? = some g0 ∧ g ≤ g0) (h : ∀ loc', m id = some (g, loc') → loc' = loc) :
      Rep nm w F m G (.pointer (some ⟨loc.blk, loc.base + i * loc.es + off, none⟩)) (.lp id g i off)
  | ls (id g es off len cap : Nat) (a : Addr) (loc : Loc) (hg : ∃ g0, G[id]? = some g0 ∧ g ≤ g0) (h : ∀ loc', m id = some (g, loc') → loc' = loc)
      (hb : a.block = loc.blk) (hs : a.spot = none) (he : loc.es = es) (ho : 0 < cap → a.off = loc.base + off * loc.es) (hc : off + cap ≤ loc.cap) (hl : len ≤ cap) :
      Rep nm w F m G (.slice (some a) len cap) (.ls id g es off len)
  | lm (id g : Nat) (loc : Loc) (hg : ∃ g0, G[id]? = some g0 ∧ g ≤ g0) (h : ∀ loc', m id = some (g, loc') → loc' = loc) :
      Rep nm w F m G (.map (some loc.blk)) (.lm id g)
  | agg (vs : Array Value) (cs : List AV) (hn : vs.size = cs.length)
      (hr : ∀ (j : Nat) (v : Value) (l : AV), vs[j]? = some v → cs[j]? = some l → Rep nm w F m G v l) : Rep nm w F m G (.agg vs) (.agg cs)
  | tup (vs : Array Value) (cs : List AV) (hn : vs.size = cs.length)
      (hr : ∀ (j : Nat) (v : Value) (l : AV), vs[j]? = some v → cs[j]? = some l → Rep nm w F m G v l) : Rep nm w F m G (.tuple vs) (.tup cs)
  | fn (f key : Nat) (caps : Array Value) (cs : List AV) (h : nm f = some key) (hn : caps.size = cs.length)
      (hr : ∀ (j : Nat) (v : Value) (l : AV), caps[j]? = some v → cs[j]? = some l → Rep nm w F m G v l) : Rep nm w F m G (.func (.func f) #[] caps) (.fn key cs)
def frOk (fr : Nat × Nat) (n : Nat) : Prop := ∀ x, x < n → ¬ (fr.1 ≤ x ∧ x < fr.2)
def gens (h : Heap) : List Nat := h.map (·.gen)
def y8e (nm : Nat → Option Nat) (w : World) (F : Nat → Prop) (m : MapT) (G : List Nat) (loc : Loc) : OC → Prop
  | .dead => False
  | .arr _ _ es rows => loc.es = es ∧ ∃ cs ty fr, w.heap[loc.blk]? = some (.cells cs ty fr) ∧ frOk fr cs.size ∧ loc.base + loc.cap * es ≤ cs.size ∧ rows.length ≤ loc.cap ∧
      ∀ (i : Nat) (row : List AV), rows[i]? = some row → row.length = es ∧ ∀ (j : Nat) (l : AV), row[j]? = some l →
        yj l = true ∧ ∃ v, cs[loc.base + (i * es + j)]? = some v ∧ Rep nm w F m G v l
  | .map _ es => ∃ mes clock, w.heap[loc.blk]? = some (.map mes clock) ∧ y5a (Rep nm w F m G) mes clock es
def OC.fz : OC → Bool
  | .arr _ fz _ _ => fz
  | .map fz _ => fz
  | .dead => false
def OC.isDead : OC → Bool
  | .dead => true
  | _ => false
structure Inv (nm : Nat → Option Nat) (w : World) (F : Nat → Prop) (m : MapT) (h : Heap) : Prop where
  live : ∀ id g loc, m id = some (g, loc) → ∃ o, h[id]? = some ⟨g, o⟩ ∧ y8e nm w F m (gens h) loc o
  has : ∀ id g o, h[id]? = some ⟨g, o⟩ → o.isDead = false → ∃ loc, m id = some (g, loc)
  inj : ∀ id g loc id' g' loc', m id = some (g, loc) → m id' = some (g', loc') → loc.blk = loc'.blk → id = id'
  fz : ∀ id g loc o, m id = some (g, loc) → h[id]? = some ⟨g, o⟩ → (o.fz = true ↔ F loc.blk)
  bd : ∀ b, F b → b < w.heap.size
def owned (m : MapT) (b : Nat) : Prop := ∃ id g loc, m id = some (g, loc) ∧ loc.blk = b
structure Tr (w : World) (F : Nat → Prop) (m : MapT) (G : List Nat) (w' : World) (F' : Nat → Prop) (m' : MapT) (G' : List Nat) : Prop where
  os : w'.os = w.os
  tape : w'.tape = w.tape
  output : w'.output = w.output
  size : w.heap.size ≤ w'.heap.size
  sub : ∀ b, F b → F' b
  same : ∀ b, b < w.heap.size → (¬ owned m b ∨ F b) → w'.heap[b]? = w.heap[b]?
  own : ∀ b, owned m' b → owned m b ∨ w.heap.size ≤ b
  new : ∀ b, F' b → F b ∨ owned m b ∨ w.heap.size ≤ b
  gl : ∀ (id g : Nat), G[id]? = some g → ∃ g' : Nat, G'[id]? = some g' ∧ g ≤ g'
  mp : ∀ (id g g0 : Nat) (loc : Loc), m' id = some (g, loc) → G[id]? = some g0 → g ≤ g0 → m id = some (g, loc)
theorem Tr.refl (w : World) (F : Nat → Prop) (m : MapT) (G : List Nat) : Tr w F m G w F m G :=
  ⟨rfl, rfl, rfl, Nat.le_refl _, fun _ h => h, fun _ _ _ => rfl, fun _ h => .inl h, fun _ h => .inl h, fun _ g h => ⟨g, h, Nat.le_refl _⟩, fun _ _ _ _ h _ _ => h⟩
theorem Tr.trans {w w1 w2 : World} {F F1 F2 : Nat → Prop} {m m1 m2 : MapT} {G G1 G2 : List Nat} (h : Tr w F m G w1 F1 m1 G1) (k : Tr w1 F1 m1 G1 w2 F2 m2 G2) : Tr w F m G w2 F2 m2 G2 where
  os := k.os.trans h.os
  tape := k.tape.trans h.tape
  output := k.output.trans h.output
  size := Nat.le_trans h.size k.size
  sub b hb := k.sub b (h.sub b hb)
  same b hb hc := by
    rw [k.same b (Nat.lt_of_lt_of_le hb h.size) ?_, h.same b hb hc]
    rcases hc with hc | hc
    · refine .inl fun ho => ?_
      rcases h.own b ho with ho | ho
      · exact hc ho
      · omega
    · exact .inr (h.sub b hc)
  own b hb := by
    rcases k.own b hb with hb | hb
    · exact h.own b hb
    · exact .inr (Nat.le_trans h.size hb)
  new b hb := by
    rcases k.new b hb with hb | hb | hb
    · exact h.new b hb
    · rcases h.own b hb with hb | hb
      · exact .inr (.inl hb)
      · exact .inr (.inr hb)
    · exact .inr (.inr (Nat.le_trans h.size hb))
  gl id g hg := by
    obtain ⟨g1, h1, l1⟩ := h.gl id g hg
    obtain ⟨g2, h2, l2⟩ := k.gl id g1 h1
    exact ⟨g2, h2, Nat.le_trans l1 l2⟩
  mp id g g0 loc hm hg hl := by
    obtain ⟨g1, h1, l1⟩ := h.gl id g0 hg
    exact h.mp id g g0 loc (k.mp id g g1 loc hm h1 (Nat.le_trans hl l1)) hg hl
variable {nm : Nat → Option Nat}
theorem y8o {w w' : World} {b : Nat} (h : w'.heap[b]? = w.heap[b]?) (o : Nat) : w'.cell? ⟨b, o, none⟩ = w.cell? ⟨b, o, none⟩ := by
  simp only [World.cell?, h]
theorem PRep.mono {w w' : World} {F F' : Nat → Prop} {v : Value} {a : AV} (h : PRep nm w F v a) (hw : ∀ b, F b → w'.heap[b]? = w.heap[b]?) (hF : ∀ b, F b → F' b) : PRep nm w' F' v a := by
  induction h with
  | int k n => exact .int k n
  | bool b => exact .bool b
  | str s => exact .str s
  | nilp => exact .nilp
  | nils => exact .nils
  | nilm => exact .nilm
  | rp a cs f hs hc hr ih =>
    refine .rp a cs f hs (fun j l hl => ?_) ih
    obtain ⟨h1, h2, h3⟩ := hc j l hl
    exact ⟨hF _ h1, h2, by rw [y8o (hw _ h1)]; exact h3⟩
  | rs a cap es rows f hs hcap hes hc hr ih =>
    refine .rs a cap es rows f hs hcap hes (fun i row j l hi hl => ?_) ih
    obtain ⟨h1, h2, h3⟩ := hc i row j l hi hl
    exact ⟨hF _ h1, h2, by rw [y8o (hw _ h1)]; exact h3⟩
  | rm r mes clock ms es hFr hh hp hn hk hv hkr hb hd ihk ihv => exact .rm r mes clock ms es (hF _ hFr) (by rw [hw _ hFr]; exact hh) hp hn ihk ihv hkr hb hd
  | agg vs cs hn hr ih => exact .agg vs cs hn ih
  | tup vs cs hn hr ih => exact .tup vs cs hn ih
  | fn f key h => exact .fn f key h
theorem Rep.mono {w w' : World} {F F' : Nat → Prop} {m m' : MapT} {G G' : List Nat} {v : Value} {a : AV} (h : Rep nm w F m G v a)
    (hw : ∀ b, F b → w'.heap[b]? = w.heap[b]?) (hF : ∀ b, F b → F' b) (hG : ∀ (id g : Nat), G[id]? = some g → ∃ g' : Nat, G'[id]? = some g' ∧ g ≤ g')
    (hm : ∀ (id g g0 : Nat) (loc : Loc), m' id = some (g, loc) → G[id]? = some g0 → g ≤ g0 → m id = some (g, loc)) : Rep nm w' F' m' G' v a := by
  have hg' : ∀ id g : Nat, (∃ g0 : Nat, G[id]? = some g0 ∧ g ≤ g0) → ∃ g0 : Nat, G'[id]? = some g0 ∧ g ≤ g0 := fun id g ⟨g0, h1, h2⟩ => by
    obtain ⟨g1, h3, h4⟩ := hG id g0 h1
    exact ⟨g1, h3, Nat.le_trans h2 h4⟩
  induction h with
  | pure h => exact .pure (h.mono hw hF)
  | undef v => exact .undef v
  | lp id g i off loc hg h =>
    obtain ⟨g0, h1, h2⟩ := hg
    exact .lp id g i off loc (hg' _ _ ⟨g0, h1, h2⟩) fun loc' hl => h loc' (hm id g g0 loc' hl h1 h2)
  | ls id g es off len cap a loc hg h hb hs he ho hc hl =>
    obtain ⟨g0, h1, h2⟩ := hg
    exact .ls id g es off len cap a loc (hg' _ _ ⟨g0, h1, h2⟩) (fun loc' hl => h loc' (hm id g g0 loc' hl h1 h2)) hb hs he ho hc hl
  | lm id g loc hg h =>
    obtain ⟨g0, h1, h2⟩ := hg
    exact .lm id g loc (hg' _ _ ⟨g0, h1, h2⟩) fun loc' hl => h loc' (hm id g g0 loc' hl h1 h2)
  | agg vs cs hn hr ih => exact .agg vs cs hn ih
  | tup vs cs hn hr ih => exact .tup vs cs hn ih
  | fn f key caps cs h hn hr ih => exact .fn f key caps cs h hn ih
theorem Inv.blk_lt {w : World} {F : Nat → Prop} {m : MapT} {h : Heap} (I : Inv nm w F m h) {id g : Nat} {loc : Loc} (hm : m id = some (g, loc)) : loc.blk < w.heap.size := by
  obtain ⟨o, _, ho⟩ := I.live id g loc hm
  have key : ∀ x, w.heap[loc.blk]? = some x → loc.blk < w.heap.size := fun x hx => (Array.getElem?_eq_some_iff.1 hx).1
  cases o with
  | dead => exact ho.elim
  | arr bx fz es rows => obtain ⟨_, cs, ty, fr, hb, _⟩ := ho; exact key _ hb
  | map fz es => obtain ⟨mes, clock, hb, _⟩ := ho; exact key _ hb
theorem Rep.tr {w w' : World} {F F' : Nat → Prop} {m m' : MapT} {G G' : List Nat} {v : Value} {a : AV} (h : Rep nm w F m G v a) (hb : ∀ b, F b → b < w.heap.size)
    (T : Tr w F m G w' F' m' G') : Rep nm w' F' m' G' v a :=
  h.mono (fun b hF => T.same b (hb b hF) (.inr hF)) T.sub T.gl T.mp
theorem Inv.heap {w w' : World} {F : Nat → Prop} {m : MapT} {h : Heap} (I : Inv nm w F m h) (hw : w'.heap = w.heap) : Inv nm w' F m h where
  live id g loc hm := by
    obtain ⟨o, ho, hr⟩ := I.live id g loc hm
    refine ⟨o, ho, ?_⟩
    have hrep : ∀ v a, Rep nm w F m (gens h) v a → Rep nm w' F m (gens h) v a := fun v a hr =>
      hr.mono (fun b _ => by rw [hw]) (fun _ h => h) (fun _ g h => ⟨g, h, Nat.le_refl _⟩) (fun _ _ _ _ h _ _ => h)
    cases o with
    | dead => exact hr
    | arr bx fz es rows =>
      obtain ⟨h1, cs, ty, fr, h2, h3, h4, h5, h6⟩ := hr
      exact ⟨h1, cs, ty, fr, by rw [hw]; exact h2, h3, h4, h5, fun i row hi => ⟨(h6 i row hi).1, fun j l hl => by
        obtain ⟨a1, v, a2, a3⟩ := (h6 i row hi).2 j l hl
        exact ⟨a1, v, a2, hrep _ _ a3⟩⟩⟩
    | map fz es =>
      obtain ⟨mes, clock, h2, h3⟩ := hr
      exact ⟨mes, clock, by rw [hw]; exact h2, h3.mono hrep⟩
  has := I.has
  inj := I.inj
  fz := I.fz
  bd b hb := by rw [hw]; exact I.bd b hb
theorem Tr.heap {w w' : World} {F : Nat → Prop} {m : MapT} {G : List Nat} (hw : w'.heap = w.heap) (h1 : w'.os = w.os) (h2 : w'.tape = w.tape) (h3 : w'.output = w.output) : Tr w F m G w' F m G :=
  ⟨h1, h2, h3, by rw [hw]; exact Nat.le_refl _, fun _ h => h, fun _ _ _ => by rw [hw], fun _ h => .inl h, fun _ h => .inl h, fun _ g h => ⟨g, h, Nat.le_refl _⟩, fun _ _ _ _ h _ _ => h⟩
theorem y0t {h : Heap} {id : Nat} {a : AO} : gens (h.set id a) = (gens h).set id a.gen := by
  simp [gens, List.map_set]
theorem yl {h : Heap} {id : Nat} : (gens h)[id]? = (h[id]?).map (·.gen) := by simp [gens]
theorem y8e.of {w w' : World} {F F' : Nat → Prop} {m m' : MapT} {G G' : List Nat} {loc : Loc} {o : OC} (h : y8e nm w F m G loc o)
    (hb : w'.heap[loc.blk]? = w.heap[loc.blk]?) (hrep : ∀ v a, Rep nm w F m G v a → Rep nm w' F' m' G' v a) : y8e nm w' F' m' G' loc o := by
  cases o with
  | dead => exact h
  | arr bx fz es rows =>
    obtain ⟨h1, cs, ty, fr, h2, h3, h4, h5, h6⟩ := h
    exact ⟨h1, cs, ty, fr, hb.trans h2, h3, h4, h5, fun i row hi => ⟨(h6 i row hi).1, fun j l hl => by
      obtain ⟨a1, v, a2, a3⟩ := (h6 i row hi).2 j l hl
      exact ⟨a1, v, a2, hrep _ _ a3⟩⟩⟩
  | map fz es =>
    obtain ⟨mes, clock, h2, h3⟩ := h
    exact ⟨mes, clock, hb.trans h2, h3.mono hrep⟩
theorem y76 {w w' : World} {F : Nat → Prop} {m : MapT} {h h' : Heap} (I : Inv nm w F m h) {id g' : Nat} {o : OC} {loc : Loc}
    (hos : w'.os = w.os) (htape : w'.tape = w.tape) (hout : w'.output = w.output) (hsize : w.heap.size ≤ w'.heap.size)
    (hsame : ∀ b, b ≠ loc.blk → b < w.heap.size → w'.heap[b]? = w.heap[b]?)
    (hblk : w.heap.size ≤ loc.blk ∨ (∃ g0 loc0 o0, m id = some (g0, loc0) ∧ h[id]? = some ⟨g0, o0⟩ ∧ o0.fz = false ∧ loc0.blk = loc.blk))
    (hh : ∀ j, j ≠ id → h'[j]? = h[j]?) (hid : h'[id]? = some ⟨g', o⟩) (hfz : o.fz = false)
    (hgen : (∀ g0, (gens h)[id]? = some g0 → g0 < g') ∨ m id = some (g', loc))
    (ho : ∀ m' : MapT, m' = (fun j => if j = id then some (g', loc) else m j) → (∀ v a, Rep nm w F m (gens h) v a → Rep nm w' F m' (gens h') v a) → y8e nm w' F m' (gens h') loc o) :
    ∃ m' : MapT, m' = (fun j => if j = id then some (g', loc) else m j) ∧ Inv nm w' F m' h' ∧ Tr w F m (gens h) w' F m' (gens h') := by
  have hFne : ∀ b, F b → b ≠ loc.blk := by
    intro b hb e
    subst e
    rcases hblk with hblk | ⟨g0, loc0, o0, h1, h2, h3, h4⟩
    · have := I.bd _ hb; omega
    · have := (I.fz id g0 loc0 o0 h1 h2).2 (by rw [h4]; exact hb); rw [h3] at this; cases this
  have hFsame : ∀ b, F b → w'.heap[b]? = w.heap[b]? := fun b hb => hsame b (hFne b hb) (I.bd b hb)
  have hgl : ∀ (j g : Nat), (gens h)[j]? = some g → ∃ g2 : Nat, (gens h')[j]? = some g2 ∧ g ≤ g2 := by
    intro j g hj
    by_cases e : j = id
    · subst e
      refine ⟨g', by rw [yl, hid]; rfl, ?_⟩
      rcases hgen with hgen | hgen
      · exact Nat.le_of_lt (hgen _ hj)
      · obtain ⟨o1, h1, _⟩ := I.live _ _ _ hgen
        rw [yl, h1] at hj
        injection hj with hj
        exact Nat.le_of_eq hj.symm
    · exact ⟨g, by rw [yl, hh j e, ← yl]; exact hj, Nat.le_refl _⟩
  have hmp : ∀ (j g g0 : Nat) (l : Loc), (fun j => if j = id then some (g', loc) else m j) j = some (g, l) → (gens h)[j]? = some g0 → g ≤ g0 → m j = some (g, l) := by
    intro j g g0 l hm hg hl
    simp only at hm
    by_cases e : j = id
    · subst e
      rw [if_pos rfl] at hm
      injection hm with hm
      injection hm with h1 h2
      subst h1; subst h2
      rcases hgen with hgen | hgen
      · have := hgen g0 hg; omega
      · exact hgen
    · rw [if_neg e] at hm; exact hm
  have hrep : ∀ v a, Rep nm w F m (gens h) v a → Rep nm w' F (fun j => if j = id then some (g', loc) else m j) (gens h') v a := fun v a hr =>
    hr.mono hFsame (fun _ h => h) hgl hmp
  have hown : ∀ j g l, j ≠ id → m j = some (g, l) → l.blk ≠ loc.blk := by
    intro j g l hj hm e
    rcases hblk with hblk | ⟨g0, loc0, o0, h1, h2, h3, h4⟩
    · have := I.blk_lt hm; omega
    · exact hj (I.inj j g l id g0 loc0 hm h1 (by rw [e, h4]))
  refine ⟨_, rfl, ⟨?_, ?_, ?_, ?_, ?_⟩, ⟨hos, htape, hout, hsize, fun _ h => h, ?_, ?_, fun _ h => .inl h, hgl, hmp⟩⟩
  · intro j g l hm
    by_cases e : j = id
    · subst e
      rw [if_pos rfl] at hm
      injection hm with hm
      injection hm with h1 h2
      subst h1; subst h2
      exact ⟨o, hid, ho _ rfl hrep⟩
    · rw [if_neg e] at hm
      obtain ⟨o1, h1, h2⟩ := I.live j g l hm
      exact ⟨o1, by rw [hh j e]; exact h1, h2.of (hsame _ (hown j g l e hm) (I.blk_lt hm)) hrep⟩
  · intro j g o1 hj hd
    by_cases e : j = id
    · subst e
      rw [hid] at hj
      injection hj with hj
      injection hj with h1 h2
      subst h1
      exact ⟨loc, by rw [if_pos rfl]⟩
    · rw [if_neg e]
      rw [hh j e] at hj
      exact I.has j g o1 hj hd
  · intro j g l j' g2 l2 hm hm2 hb
    by_cases e : j = id
    · by_cases e2 : j' = id
      · rw [e, e2]
      · rw [if_pos e] at hm
        rw [if_neg e2] at hm2
        injection hm with hm
        injection hm with h1 h2
        subst h2
        exact (hown j' g2 l2 e2 hm2 hb.symm).elim
    · by_cases e2 : j' = id
      · rw [if_neg e] at hm
        rw [if_pos e2] at hm2
        injection hm2 with hm2
        injection hm2 with h1 h2
        subst h2
        exact (hown j g l e hm hb).elim
      · rw [if_neg e] at hm
        rw [if_neg e2] at hm2
        exact I.inj j g l j' g2 l2 hm hm2 hb
  · intro j g l o1 hm hj
    by_cases e : j = id
    · subst e
      rw [if_pos rfl] at hm
      injection hm with hm
      injection hm with h1 h2
      subst h2
      rw [hid] at hj
      injection hj with hj
      injection hj with _ h3
      subst h3
      rw [hfz]
      exact ⟨fun hx => (Bool.false_ne_true hx).elim, fun hx => (hFne _ hx rfl).elim⟩
    · rw [if_neg e] at hm
      rw [hh j e] at hj
      exact I.fz j g l o1 hm hj
  · exact fun b hb => Nat.lt_of_lt_of_le (I.bd b hb) hsize
  · intro b hb hc
    by_cases e : b = loc.blk
    · subst e
      rcases hblk with hblk | ⟨g0, loc0, o0, h1, h2, h3, h4⟩
      · omega
      · rcases hc with hc | hc
        · exact (hc ⟨id, g0, loc0, h1, h4⟩).elim
        · exact (hFne _ hc rfl).elim
    · exact hsame b e hb
  · rintro b ⟨j, g, l, hm, hb⟩
    simp only at hm
    by_cases e : j = id
    · rw [if_pos e] at hm
      injection hm with hm
      injection hm with h1 h2
      subst h2
      rcases hblk with hblk | ⟨g0, loc0, o0, h1, h2, h3, h4⟩
      · exact .inr (by rw [← hb]; exact hblk)
      · exact .inl ⟨id, g0, loc0, h1, h4.trans hb⟩
    · rw [if_neg e] at hm
      exact .inl ⟨j, g, l, hm, hb⟩
end Go.Vm
/- The value machine: when an operation of the translated program is one of the machine's. -/
namespace Go.Vm
def y8f : Value → AV → Bool
  | .int k n, .int k' n' => k == k' && n == n'
  | .bool b, .bool b' => b == b'
  | .string s, .str l => s.data.toList == l
  | .pointer none, .nilp => true
  | .slice none 0 0, .nils => true
  | .map none, .nilm => true
  | _, _ => false
def y9t : List Value → List AV → Bool
  | [], [] => true
  | v :: vs, a :: as => y8f v a && y9t vs as
  | _, _ => false
def yfj : Value → AV → Bool
  | .agg vs, .agg cs => y9t vs.toList cs
  | .tuple vs, .tup cs => y9t vs.toList cs
  | v, a => y8f v a
variable (P : Program) (nm : Nat → Option Nat)
def chkO : Operand → Opd → Bool
  | .tmp t, .t n => t == n
  | .const v, .c a => yfj v a
  | .func f, .c (.fn key []) => nm f == some key
  | _, _ => false
def y64 : Option Operand → Option Opd → Bool
  | none, none => true
  | some x, some y => chkO nm x y
  | _, _ => false
def yf7 : List Operand → List Opd → Bool
  | [], [] => true
  | x :: xs, y :: ys => chkO nm x y && yf7 xs ys
  | _, _ => false
def y29 (t n : Nat) : Bool := match P.info? t with
  | some i => i.size == n
  | none => false
def yby (t : Nat) (b : Bool) : Bool := match P.underlying t with
  | some (.struct _) => b
  | some (.array _ _) => b
  | some _ => !b
  | none => false
def y7f (t : Nat) (cs : List AV) : Bool := match P.info? t with
  | some i => match i.zero with
    | some z => y9t z.cells.toList cs
    | none => false
  | none => false
def yb9 (t es : Nat) : Bool := match P.underlying t with
  | some (.slice e) => y29 P e es
  | _ => false
def y5p (place : Nat → Option (Nat × Nat)) : List (Nat × Operand) → List (Nat × Nat × Opd) → Bool
  | [], [] => true
  | (i, x) :: r, (off, n, y) :: r' => place i == some (off, n) && chkO nm x y && y5p place r r'
  | _, _ => false
def yce : List (Nat × Operand) → List (Nat × Opd) → Bool
  | [], [] => true
  | (i, x) :: r, (j, y) :: r' => i == j && chkO nm x y && yce r r'
  | _, _ => false
def y6y (t : Nat) : Option Nat := match P.underlying t with
  | some (.int _) => some 0
  | some .bool => some 1
  | some .string => some 2
  | _ => none
def y4g : List Field → Nat → List Nat → Bool
  | [], _, [] => true
  | f :: fs, n, k :: ks => f.name != "_" && f.offset == n && y6y P f.type == some k && y29 P f.type 1 && yby P f.type false && y4g fs (n + 1) ks
  | _, _, _ => false
def y3k (t : Nat) (ks : List Nat) : Bool := match P.underlying t with
  | some (.struct fs) => y4g P fs.toList 0 ks && !(P.stoodInHeld t)
  | _ => false
def ybl (t : Nat) (agg : Bool) (ks : List Nat) : Bool := if agg then y3k P t ks else match ks with
  | [k] => y6y P t == some k
  | _ => false
def yp3 (o : Oper) (c : COp) : Bool :=
  match o.op, c with
  | .move x, .mv y => chkO nm x y
  | .assign x, .mv y => chkO nm x y
  | .pick a b d, .pick a' b' d' => chkO nm a a' && chkO nm b b' && chkO nm d d'
  | .alloc t, .new _ cs => y7f P t cs
  | .box _ x, .box _ y => chkO nm x y
  | .build t ps, .build zero qs => y7f P t zero &&
    match P.underlying t with
    | some (.struct fs) => fs.toList.all (fun f => (P.info? f.type).isSome) &&
        y5p nm (fun i => (fs[i]?).map fun f => (f.offset, P.cellsOf f.type)) ps.toList qs
    | some (.array _ e) => (P.info? e).isSome && y5p nm (fun i => some (i * P.cellsOf e, P.cellsOf e)) ps.toList qs
    | _ => false
  | .buildSlice t len ps, .buildS _ es len' zero qs => len == len' && decide (len * es ≤ 2 ^ 24) && decide (0 < es) && yce nm ps.toList qs &&
    match P.underlying t with
    | some (.slice e) => y29 P e es && y7f P e zero
    | _ => false
  | .load t a, .ld agg n b => yby P t agg && y29 P t n && (agg || n == 1) && chkO nm a b
  | .store t a v, .st n a' v' => y29 P t n && chkO nm a a' && chkO nm v v'
  | .nilCheck x, .nilchk y => chkO nm x y
  | .binOp op _ x y _, .bin op' x' y' => op == op' && chkO nm x x' && chkO nm y y'
  | .binOp op t x y _, .eqb neq x' y' => op == (if neq then .neq else .eql) && chkO nm x x' && chkO nm y y' &&
    (match P.underlying t with
     | some .bool => true
     | _ => false)
  | .binOp op t x y _, .eqn k neq x' y' => op == (if neq then .neq else .eql) && chkO nm x x' && chkO nm y y' &&
    (match P.underlying t with
     | some (.pointer _) => k == 0
     | some (.slice _) => k == 1
     | some (.map _ _) => k == 2
     | _ => false)
  | .binOp op t x y _, .eqa neq ks x' y' => op == (if neq then .neq else .eql) && chkO nm x x' && chkO nm y y' && y3k P t ks && !(P.eqGuardType P.depth t)
  | .unOp op _ x, .un op' y => op == op' && chkO nm x y
  | .convert s d x, .cvi k y => chkO nm x y && (P.underlying s).isSome && (match P.underlying d with
    | some (.int k') => k == k'
    | _ => false)
  | .convert s d x, .s2b _ y => chkO nm x y && (P.underlying s).isSome && (match P.underlying d with
    | some (.slice e) => (match P.underlying e with
      | some (.int .u8) => true
      | _ => false)
    | _ => false)
  | .convert s d x, .b2s y => chkO nm x y && (match P.underlying s, P.underlying d with
    | some (.slice e), some .string => (match P.underlying e with
      | some (.int .u8) => true
      | _ => false)
    | _, _ => false)
  | .makeSlice t l c, .mkS _ es bytes zero l' c' => chkO nm l l' && chkO nm c c' && decide (0 < es) &&
    (match P.underlying t with
     | some (.slice e) => y29 P e es && y7f P e zero && P.bytesOf e == bytes
     | _ => false)
  | .slice t x lo hi none, .slc es y lo' hi' => yb9 P t es && chkO nm x y && y64 nm lo lo' && y64 nm hi hi'
  | .slice t x lo hi none, .sls y lo' hi' => (match P.underlying t with
    | some .string => true
    | _ => false) && chkO nm x y && y64 nm lo lo' && y64 nm hi hi'
  | .fieldAddr t x i, .fa off y => chkO nm x y && (match P.underlying t with
    | some (.struct fs) => (match fs[i]? with
      | some f => f.offset == off && (match P.info? f.type with
        | some ti => ti.size != 0
        | none => false)
      | none => false)
    | _ => false)
  | .field t x i, .fld agg off n y => chkO nm x y && (match P.underlying t with
    | some (.struct fs) => (match fs[i]? with
      | some f => f.offset == off && yby P f.type agg && y29 P f.type n && (agg || n == 1)
      | none => false)
    | _ => false)
  | .indexAddr t x i, .ixs es y j => yb9 P t es && chkO nm x y && chkO nm i j
  | .indexAddr t x i, .ixa len es y j => chkO nm x y && chkO nm i j && (match P.underlying t with
    | some (.array n e) => n == len && y29 P e es
    | _ => false)
  | .index t x i, .ixv agg len es y j => chkO nm x y && chkO nm i j && (match P.underlying t with
    | some (.array n e) => n == len && yby P e agg && y29 P e es && (agg || es == 1)
    | _ => false)
  | .index t x i, .ixstr y j => chkO nm x y && chkO nm i j && (match P.underlying t with
    | some .string => true
    | _ => false)
  | .extract x i, .ext i' y => chkO nm x y && i == i'
  | .makeFunc (.func f) first caps, .mkf key caps' => nm f == some key && first.size == 0 && yf7 nm caps.toList caps'
  | .makeMap _ none, .mkm _ => true
  | .lookup t x k ok, .mget agg ks zero ok' y k' => ok == ok' && chkO nm x y && chkO nm k k' && (match P.underlying t with
    | some (.map kt e) => ybl P kt agg ks && (match P.info? e with
      | some i => (match i.zero with
        | some z => yfj z zero
        | none => false)
      | none => false)
    | _ => false)
  | .mapUpdate t m k v, .mput agg ks m' k' v' => chkO nm m m' && chkO nm k k' && chkO nm v v' && (match P.underlying t with
    | some (.map kt _) => ybl P kt agg ks
    | _ => false)
  | .insert t m k v, .mput agg ks m' k' v' => chkO nm m m' && chkO nm k k' && chkO nm v v' && (match P.underlying t with
    | some (.map kt _) => ybl P kt agg ks
    | _ => false)
  | .call { callee := .builtin .len, args, argTypes }, .len k y => (match args.toList, argTypes.toList with
    | [x], [t] => chkO nm x y && (match P.underlying t with
      | some .string => k == 0
      | some (.slice _) => k == 1
      | some (.map _ _) => k == 2
      | _ => false)
    | _, _ => false)
  | .call { callee := .builtin .append, args, argTypes }, .app _ es bytes x' y' => (match args.toList, argTypes.toList with
    | [x, y], [t, u] => chkO nm x x' && chkO nm y y' && decide (0 < es) && (match P.underlying u with
        | some (.int _) => false
        | some _ => true
        | none => false) && (match P.underlying t with
        | some (.slice e) => y29 P e es && P.bytesOf e == bytes && decide (0 < bytes) && (match P.info? e with
          | some i => i.zero.any fun z => z.cells.size == es
          | none => false)
        | _ => false)
    | _, _ => false)
  | .call { callee := .builtin .copy, args, argTypes }, .cpy es x' y' => (match args.toList, argTypes.toList with
    | [x, y], t :: _ => chkO nm x x' && chkO nm y y' && decide (0 < es) && yb9 P t es
    | _, _ => false)
  | .call { callee := .builtin .delete, args, argTypes }, .mdel agg ks x' y' => (match args.toList, argTypes.toList with
    | [x, y], t :: _ => chkO nm x x' && chkO nm y y' && (match P.underlying t with
      | some (.map kt _) => ybl P kt agg ks
      | _ => false)
    | _, _ => false)
  | .call { callee := .builtin .clear, args, argTypes }, .mclr x' => (match args.toList, argTypes.toList with
    | [x], t :: _ => chkO nm x x' && (match P.underlying t with
      | some (.map _ _) => true
      | _ => false)
    | _, _ => false)
  | .call { callee := .builtin .max, args, .. }, .minmax isMax x' y' => isMax && (match args.toList with
    | [x, y] => chkO nm x x' && chkO nm y y'
    | _ => false)
  | .call { callee := .builtin .min, args, .. }, .minmax isMax x' y' => !isMax && (match args.toList with
    | [x, y] => chkO nm x x' && chkO nm y y'
    | _ => false)
  | .call { callee := .value (.func f), args, .. }, .call _ _ key args' => nm f == some key && yf7 nm args.toList args'
  | .call { callee := .value x, args, .. }, .callv _ _ y args' => chkO nm x y && yf7 nm args.toList args'
  | _, _ => false
variable {P nm} {w : World} {F : Nat → Prop} {m : MapT} {G : List Nat}
theorem y8d {v : Value} {a : AV} (h : y8f v a = true) : PRep nm w F v a := by
  unfold y8f at h
  split at h
  · simp at h; obtain ⟨rfl, rfl⟩ := h; exact .int _ _
  · simp at h; subst h; exact .bool _
  · simp at h; subst h; exact .str _
  · exact .nilp
  · exact .nils
  · exact .nilm
  · cases h
theorem y77 : ∀ {vs : List Value} {as : List AV}, y9t vs as = true → vs.length = as.length ∧ ∀ (j : Nat) (v : Value) (l : AV), vs[j]? = some v → as[j]? = some l → PRep nm w F v l
  | [], [], _ => ⟨rfl, fun j v l h => by simp at h⟩
  | v :: vs, a :: as, h => by
    simp only [y9t, Bool.and_eq_true] at h
    obtain ⟨h1, h2⟩ := y77 h.2
    refine ⟨by simp [h1], fun j x l hx hl => ?_⟩
    cases j with
    | zero => simp at hx hl; subst hx; subst hl; exact y8d h.1
    | succ j => simp at hx hl; exact h2 j x l hx hl
  | [], _ :: _, h => by cases h
  | _ :: _, [], h => by cases h
theorem ydt {v : Value} {a : AV} (h : yfj v a = true) : PRep nm w F v a := by
  unfold yfj at h
  split at h
  · obtain ⟨h1, h2⟩ := y77 (nm := nm) (w := w) (F := F) h
    exact .agg _ _ (by simpa using h1) (fun j v l hv hl => h2 j v l (by simpa using hv) hl)
  · obtain ⟨h1, h2⟩ := y77 (nm := nm) (w := w) (F := F) h
    exact .tup _ _ (by simpa using h1) (fun j v l hv hl => h2 j v l (by simpa using hv) hl)
  · exact y8d h
def TRep (nm : Nat → Option Nat) (w : World) (F : Nat → Prop) (m : MapT) (G : List Nat) (a : Act) (t : Tmps) : Prop := ∀ i, Rep nm w F m G (a.tmps.getD i undef) (tget t i)
theorem y8 {a : Act} {t : Tmps} (hT : TRep nm w F m G a t) {x : Operand} {y : Opd} (h : chkO nm x y = true) : Rep nm w F m G (a.eval x) (y.ev t) := by
  unfold chkO at h
  split at h
  · simp at h; subst h; exact hT _
  · exact .pure (ydt h)
  · simp at h; exact .pure (.fn _ _ h)
  · cases h
theorem y85 {a : Act} {t : Tmps} (hT : TRep nm w F m G a t) : ∀ {xs : List Operand} {ys : List Opd}, yf7 nm xs ys = true →
    (xs.map a.eval).length = (ys.map (·.ev t)).length ∧ ∀ (j : Nat) (v : Value) (l : AV), (xs.map a.eval)[j]? = some v → (ys.map (·.ev t))[j]? = some l → Rep nm w F m G v l
  | [], [], _ => ⟨rfl, fun j v l h => by simp at h⟩
  | x :: xs, y :: ys, h => by
    simp only [yf7, Bool.and_eq_true] at h
    obtain ⟨h1, h2⟩ := y85 hT h.2
    refine ⟨by simpa using h1, fun j v l hv hl => ?_⟩
    cases j with
    | zero => simp at hv hl; subst hv; subst hl; exact y8 hT h.1
    | succ j => simp at hv hl; exact h2 j v l (by simpa using hv) (by simpa using hl)
  | [], _ :: _, h => by cases h
  | _ :: _, [], h => by cases h
theorem Rep.int_inv {v : Value} {k : IntKind} {n : Int} (h : Rep nm w F m G v (.int k n)) : v = .int k n := by cases h with | pure h => cases h; rfl
theorem Rep.bool_inv {v : Value} {b : Bool} (h : Rep nm w F m G v (.bool b)) : v = .bool b := by cases h with | pure h => cases h; rfl
theorem Rep.str_inv {v : Value} {s : List UInt8} (h : Rep nm w F m G v (.str s)) : ∃ b : ByteArray, v = .string b ∧ b.data.toList = s := by
  cases h with | pure h => cases h; exact ⟨_, rfl, rfl⟩
theorem Rep.nilp_inv {v : Value} (h : Rep nm w F m G v .nilp) : v = .pointer none := by cases h with | pure h => cases h; rfl
theorem Rep.nils_inv {v : Value} (h : Rep nm w F m G v .nils) : v = .slice none 0 0 := by cases h with | pure h => cases h; rfl
theorem Rep.nilm_inv {v : Value} (h : Rep nm w F m G v .nilm) : v = .map none := by cases h with | pure h => cases h; rfl
theorem Rep.agg_inv {v : Value} {cs : List AV} (h : Rep nm w F m G v (.agg cs)) :
    ∃ vs : Array Value, v = .agg vs ∧ vs.size = cs.length ∧ ∀ (j : Nat) (v : Value) (l : AV), vs[j]? = some v → cs[j]? = some l → Rep nm w F m G v l := by
  cases h with
  | pure h => cases h with | agg vs cs hn hr => exact ⟨vs, rfl, hn, fun j v l h1 h2 => .pure (hr j v l h1 h2)⟩
  | agg vs cs hn hr => exact ⟨vs, rfl, hn, hr⟩
theorem Rep.tup_inv {v : Value} {cs : List AV} (h : Rep nm w F m G v (.tup cs)) :
    ∃ vs : Array Value, v = .tuple vs ∧ vs.size = cs.length ∧ ∀ (j : Nat) (v : Value) (l : AV), vs[j]? = some v → cs[j]? = some l → Rep nm w F m G v l := by
  cases h with
  | pure h => cases h with | tup vs cs hn hr => exact ⟨vs, rfl, hn, fun j v l h1 h2 => .pure (hr j v l h1 h2)⟩
  | tup vs cs hn hr => exact ⟨vs, rfl, hn, hr⟩
theorem Rep.leaf {v : Value} {a : AV} (h : Rep nm w F m G v a) (hl : yj a = true) : v.oneCell' = true ∧ v.cells = #[v] ∧ cellsOf a = [a] := by
  cases h with
  | pure h => cases h <;> first | exact ⟨rfl, rfl, rfl⟩ | cases hl
  | undef => cases hl
  | lp => exact ⟨rfl, rfl, rfl⟩
  | ls => exact ⟨rfl, rfl, rfl⟩
  | lm => exact ⟨rfl, rfl, rfl⟩
  | agg => cases hl
  | tup => cases hl
  | fn => exact ⟨rfl, rfl, rfl⟩
theorem Rep.cells {v : Value} {a : AV} (h : Rep nm w F m G v a) (hl : (cellsOf a).all yj = true) :
    v.cells.size = (cellsOf a).length ∧ (∀ (j : Nat) (x : Value) (l : AV), v.cells[j]? = some x → (cellsOf a)[j]? = some l → yj l = true ∧ x.oneCell' = true ∧ Rep nm w F m G x l) := by
  by_cases ha : ∃ cs, a = .agg cs
  · obtain ⟨cs, rfl⟩ := ha
    obtain ⟨vs, rfl, hn, hr⟩ := h.agg_inv
    refine ⟨hn, fun j x l hx hl2 => ?_⟩
    have h1 : yj l = true := by
      rw [List.all_eq_true] at hl
      exact hl l (List.mem_of_getElem? hl2)
    exact ⟨h1, ((hr j x l hx hl2).leaf h1).1, hr j x l hx hl2⟩
  · have hc : cellsOf a = [a] := by
      cases a <;> first | rfl | exact (ha ⟨_, rfl⟩).elim
    rw [hc] at hl ⊢
    simp at hl
    obtain ⟨h1, h2, _⟩ := h.leaf hl
    rw [h2]
    refine ⟨rfl, fun j x l hx hl2 => ?_⟩
    cases j with
    | zero => simp at hx hl2; subst hx; subst hl2; exact ⟨hl, h1, h⟩
    | succ j => simp at hx
theorem yj2 {t n : Nat} (h : y29 P t n = true) : ∃ i, P.info? t = some i ∧ i.size = n := by
  unfold y29 at h
  split at h
  · rename_i i hi; exact ⟨i, hi, by simpa using h⟩
  · cases h
theorem y17 {t n : Nat} (h : y29 P t n = true) (w : World) : (sizeOf t).run P w = .ok n w := by
  obtain ⟨i, hi, hn⟩ := yj2 h
  simp [sizeOf, typeInfo, hi, hn]
theorem y6f {t : Nat} {i : TypeInfo} (h : P.info? t = some i) (w : World) : (typeInfo t).run P w = .ok i w := by simp [typeInfo, h]
theorem y3 {t : Nat} {d : TypeDesc} (h : P.underlying t = some d) (w : World) : (underlying t).run P w = .ok d w := by simp [underlying, h]
theorem ybe {t : Nat} {b : Bool} (h : yby P t b = true) (w : World) : (isAgg t).run P w = .ok b w := by
  unfold yby at h
  split at h
  · rename_i fs hu; simp [isAgg, underlying, hu, h]
  · rename_i n e hu; simp [isAgg, underlying, hu, h]
  · rename_i d hne hne2 hu
    have : b = false := by simpa using h
    subst this
    simp only [isAgg, Sem.run_bind, y3 hu, Result.andThen_ok]
    rfl
  · cases h
theorem y5k {t : Nat} {cs : List AV} (h : y7f P t cs = true) : ∃ i z, P.info? t = some i ∧ i.zero = some z ∧ y9t z.cells.toList cs = true := by
  unfold y7f at h
  split at h
  · rename_i i hi
    split at h
    · rename_i z hz; exact ⟨i, z, hi, hz, h⟩
    · cases h
  · cases h
theorem y1m {t : Nat} {i : TypeInfo} {z : Value} (h : P.info? t = some i) (hz : i.zero = some z) (w : World) : (zeroValue t).run P w = .ok z w := by
  simp [zeroValue, typeInfo, h, hz]
theorem y7q {t es : Nat} (h : yb9 P t es = true) : ∃ e, P.underlying t = some (.slice e) ∧ y29 P e es = true := by
  unfold yb9 at h
  split at h
  · rename_i e he; exact ⟨e, he, h⟩
  · cases h
end Go.Vm
/- The value machine: new objects, loads and stores, against the model. -/
namespace Go.Vm
variable {P : Program} {nm : Nat → Option Nat} {w : World} {F : Nat → Prop} {m : MapT} {h : Heap}
def Does (nm : Nat → Option Nat) (w : World) (F : Nat → Prop) (m : MapT) (h : Heap) (r : Result Next) (x : AV × Heap) : Prop :=
  ∃ v w' F' m', (r = .ok (.value v) w' ∨ (v = undef ∧ r = .ok .skip w')) ∧ Inv nm w' F' m' x.2 ∧ Tr w F m (gens h) w' F' m' (gens x.2) ∧ Rep nm w' F' m' (gens x.2) v x.1
theorem Does.same (I : Inv nm w F m h) {r : Result Next} {v : Value} {a : AV} (hr : r = .ok (.value v) w) (hv : Rep nm w F m (gens h) v a) : Does nm w F m h r (a, h) :=
  ⟨v, w, F, m, .inl hr, I, Tr.refl _ _ _ _, hv⟩
theorem y8i {s : Sem Value} {w w' : World} {x : Value} (h : s.run P w = .ok x w') : (do pure (Next.value (← s)) : Sem Next).run P w = .ok (.value x) w' := by simp [h]
def LRep (nm : Nat → Option Nat) (w : World) (F : Nat → Prop) (m : MapT) (G : List Nat) (vs : List Value) (cs : List AV) : Prop :=
  vs.length = cs.length ∧ ∀ (j : Nat) (v : Value) (l : AV), vs[j]? = some v → cs[j]? = some l → Rep nm w F m G v l
theorem LRep.get {G : List Nat} {vs : List Value} {cs : List AV} (h : LRep nm w F m G vs cs) {j : Nat} {l : AV} (hl : cs[j]? = some l) : ∃ v, vs[j]? = some v ∧ Rep nm w F m G v l := by
  have hj : j < cs.length := (List.getElem?_eq_some_iff.1 hl).1
  have hv : vs[j]? = some (vs[j]'(by rw [h.1]; exact hj)) := List.getElem?_eq_getElem _
  exact ⟨_, hv, h.2 j _ l hv hl⟩
theorem y2m (b o n : Nat) : (⟨b, o, none⟩ : Addr).add n = ⟨b, o + n, none⟩ := by
  unfold Addr.add; split <;> simp_all
theorem y3r {a : Addr} (h : a.spot = none) : a = ⟨a.block, a.off, none⟩ := by cases a; simp at h; subst h; rfl
theorem y8z {b o n : Nat} {cs : List AV} {G : List Nat} (hn : n ≤ cs.length)
    (hc : ∀ (j : Nat) (l : AV), j < n → cs[j]? = some l → ∃ v, w.cell? ⟨b, o + j, none⟩ = some v ∧ Rep nm w F m G v l) :
    ∃ vs : Array Value, (loadCells ⟨b, o, none⟩ n).run P w = .ok vs w ∧ LRep nm w F m G vs.toList (cs.take n) := by
  have hx : ∀ j, j < n → ∃ v, w.cell? ⟨b, o + j, none⟩ = some v := fun j hj => by
    obtain ⟨v, hv, _⟩ := hc j _ hj (List.getElem?_eq_getElem (by omega))
    exact ⟨v, hv⟩
  have h1 := run_loadCells (P := P) w ⟨b, o, none⟩ n (fun j => (w.cell? ⟨b, o + j, none⟩).getD undef) (fun j hj => by
    obtain ⟨v, hv⟩ := hx j hj
    rw [y2m, hv]; rfl)
  refine ⟨_, h1, by simp; omega, fun j v l hv hl => ?_⟩
  have hj : j < n := by
    have := (List.getElem?_eq_some_iff.1 hv).1
    simpa using this
  obtain ⟨v', hv', hr⟩ := hc j l hj (by rw [List.getElem?_take] at hl; simpa [hj] using hl)
  have : v = v' := by
    simp [hj, hv'] at hv
    exact hv.symm
  rw [this]; exact hr
theorem yh2 {b o : Nat} {v : Value} (hc : w.cell? ⟨b, o, none⟩ = some v) : (load ⟨b, o, none⟩).run P w = .ok v w := by
  rw [run_load, hc]
theorem y6n {b o n t : Nat} {agg : Bool} {cs : List AV} {G : List Nat} {r : AV} (ha : yby P t agg = true) (hs : y29 P t n = true) (h1 : (agg || n == 1) = true)
    (hr : y3h agg n cs = some r) (hc : ∀ (j : Nat) (l : AV), cs[j]? = some l → ∃ v, w.cell? ⟨b, o + j, none⟩ = some v ∧ Rep nm w F m G v l) :
    ∃ v, (loadVar t ⟨b, o, none⟩).run P w = .ok v w ∧ Rep nm w F m G v r := by
  simp only [loadVar, Sem.run_bind, ybe ha, Result.andThen_ok]
  cases agg with
  | true =>
    simp only [y3h, if_true] at hr
    split at hr
    · rename_i hn
      injection hr with hr
      subst hr
      obtain ⟨vs, hv, hl⟩ := y8z (P := P) hn (fun j l _ hl => hc j l hl)
      refine ⟨.agg vs, ?_, .agg _ _ (by simpa using hl.1) (fun j v l a b => hl.2 j v l (by simpa using a) b)⟩
      simp only [if_true, Sem.run_bind, y17 hs, Result.andThen_ok, hv, Sem.run_pure]
    · cases hr
  | false =>
    simp only [y3h, Bool.false_eq_true, if_false] at hr
    cases cs with
    | nil => cases hr
    | cons c cs =>
      simp at hr
      subst hr
      obtain ⟨v, hv, hrep⟩ := hc 0 c rfl
      refine ⟨v, ?_, hrep⟩
      simp only [Bool.false_eq_true, if_false]
      exact yh2 hv
theorem y4o {id g : Nat} {fz : Bool} {es : Nat} {rows : List (List AV)} (hr : ye h id g = some (fz, es, rows)) : ∃ bx, h[id]? = some ⟨g, .arr bx fz es rows⟩ := by
  unfold ye y1p at hr
  cases ho : h[id]? with
  | none => rw [ho] at hr; cases hr
  | some o =>
    rw [ho] at hr
    obtain ⟨g0, c⟩ := o
    simp only at hr
    split at hr
    · rename_i bx fz' es' rows' hg
      split at hg
      · rename_i he
        injection hg with hg
        subst hg
        injection hr with hr
        injection hr with h1 h2
        injection h2 with h2 h3
        subst h1; subst h2; subst h3
        subst he
        exact ⟨bx, rfl⟩
      · cases hg
    · cases hr
theorem y59 {id g : Nat} {fz : Bool} {es : List (AV × AV)} (hr : y2f h id g = some (fz, es)) : h[id]? = some ⟨g, .map fz es⟩ := by
  unfold y2f y1p at hr
  cases ho : h[id]? with
  | none => rw [ho] at hr; cases hr
  | some o =>
    rw [ho] at hr
    obtain ⟨g0, c⟩ := o
    simp only at hr
    split at hr
    · rename_i fz' es' hg
      split at hg
      · rename_i he
        injection hg with hg
        subst hg
        injection hr with hr
        injection hr with h1 h2
        subst h1; subst h2; subst he
        rfl
      · cases hg
    · cases hr
theorem Inv.rows (I : Inv nm w F m h) {id g : Nat} {fz : Bool} {es : Nat} {rows : List (List AV)} (hr : ye h id g = some (fz, es, rows)) :
    ∃ loc, m id = some (g, loc) ∧ loc.es = es ∧ rows.length ≤ loc.cap ∧ ∃ cs ty fr, w.heap[loc.blk]? = some (.cells cs ty fr) ∧ frOk fr cs.size ∧ loc.base + loc.cap * es ≤ cs.size ∧
      ∀ (i : Nat) (row : List AV), rows[i]? = some row → row.length = es ∧ ∀ (j : Nat) (l : AV), row[j]? = some l →
        yj l = true ∧ ∃ v, cs[loc.base + (i * es + j)]? = some v ∧ w.cell? ⟨loc.blk, loc.base + (i * es + j), none⟩ = some v ∧ Rep nm w F m (gens h) v l := by
  obtain ⟨bx, ho⟩ := y4o hr
  obtain ⟨loc, hm⟩ := I.has id g _ ho rfl
  obtain ⟨o, ho2, hrep⟩ := I.live id g loc hm
  rw [ho] at ho2
  injection ho2 with ho2
  injection ho2 with _ ho2
  subst ho2
  obtain ⟨h1, cs, ty, fr, h2, h3, h4, h5, h6⟩ := hrep
  refine ⟨loc, hm, h1, h5, cs, ty, fr, h2, h3, h4, fun i row hi => ⟨(h6 i row hi).1, fun j l hl => ?_⟩⟩
  obtain ⟨a1, v, a2, a3⟩ := (h6 i row hi).2 j l hl
  exact ⟨a1, v, a2, by simp [World.cell?, h2, a2], a3⟩
theorem Rep.lp_at {G : List Nat} {v : Value} {id g i off : Nat} {loc : Loc} (hr : Rep nm w F m G v (.lp id g i off)) (hm : m id = some (g, loc)) :
    v = .pointer (some ⟨loc.blk, loc.base + i * loc.es + off, none⟩) := by
  cases hr with
  | pure h => cases h
  | lp _ _ _ _ loc' hg hl => rw [hl loc hm]
theorem Rep.lp_inv {G : List Nat} {v : Value} {id g i off : Nat} (hr : Rep nm w F m G v (.lp id g i off)) :
    ∃ loc, v = .pointer (some ⟨loc.blk, loc.base + i * loc.es + off, none⟩) ∧ (∃ g0, G[id]? = some g0 ∧ g ≤ g0) ∧ (∀ loc', m id = some (g, loc') → loc' = loc) := by
  cases hr with
  | pure h => cases h
  | lp _ _ _ _ loc' hg hl => exact ⟨loc', rfl, hg, hl⟩
theorem Rep.rp_inv {G : List Nat} {v : Value} {cs : List AV} (hr : Rep nm w F m G v (.rp cs)) :
    ∃ b o, v = .pointer (some ⟨b, o, none⟩) ∧ ∀ (j : Nat) (l : AV), cs[j]? = some l → ∃ x, F b ∧ yj l = true ∧ w.cell? ⟨b, o + j, none⟩ = some x ∧ PRep nm w F x l := by
  cases hr with
  | pure h => cases h with
    | rp a _ f hs hc hr => exact ⟨a.block, a.off, by rw [y3r hs], fun j l hl => ⟨f j, (hc j l hl).1, (hc j l hl).2.1, (hc j l hl).2.2, hr j l hl⟩⟩
theorem ye0 (I : Inv nm w F m h) {t n : Nat} {agg : Bool} {av : AV} {v : Value} {r : AV} (ha : yby P t agg = true) (hs : y29 P t n = true) (h1 : (agg || n == 1) = true)
    (hv : Rep nm w F m (gens h) v av) (hr : evLd agg n av h = some r) : ∃ x, (Instr.loadAt t v).run P w = .ok x w ∧ Rep nm w F m (gens h) x r := by
  unfold evLd at hr
  split at hr
  · rename_i cs
    obtain ⟨b, o, rfl, hc⟩ := hv.rp_inv
    obtain ⟨x, hx, hrep⟩ := y6n (P := P) ha hs h1 hr (fun j l hl => by
      obtain ⟨x, _, _, a2, a3⟩ := hc j l hl
      exact ⟨x, a2, Rep.pure (m := m) (G := gens h) a3⟩)
    exact ⟨x, by simpa [Instr.loadAt, Instr.sureAddr] using hx, hrep⟩
  · rename_i id g i off
    split at hr
    · rename_i fz es rows hrows
      split at hr
      · rename_i row hrow
        obtain ⟨loc, hm, he, hcap, cs, ty, fr, hb, _, _, hcell⟩ := I.rows hrows
        have hp := hv.lp_at hm
        subst hp
        obtain ⟨x, hx, hrep⟩ := y6n (P := P) (b := loc.blk) (o := loc.base + i * loc.es + off) ha hs h1 hr (fun j l hl => by
          rw [List.getElem?_drop] at hl
          obtain ⟨_, x, _, a2, a3⟩ := (hcell i row hrow).2 (off + j) l hl
          refine ⟨x, ?_, a3⟩
          rw [he, Nat.add_assoc, Nat.add_assoc]; exact a2)
        exact ⟨x, by simpa [Instr.loadAt, Instr.sureAddr] using hx, hrep⟩
      · cases hr
    · cases hr
  · cases hr
def y20 (w : World) (b : Nat) (o : Obj) : World := { w with heap := w.heap.setIfInBounds b o }
theorem y3p (w : World) (b : Nat) (o : Obj) (k : Nat) : (y20 w b o).heap[k]? = if b = k ∧ k < w.heap.size then some o else w.heap[k]? := by
  simp only [y20, Array.getElem?_setIfInBounds]
  split
  · rename_i h; subst h
    split
    · simp [*]
    · rename_i h; simp [h]
  · rename_i h; simp [h]
def y28 (cs : Array Value) (o : Nat) (vs : List Value) : Array Value := (cs.toList.take o ++ vs ++ cs.toList.drop (o + vs.length)).toArray
theorem y6v {cs : Array Value} {o : Nat} {vs : List Value} (hl : o + vs.length ≤ cs.size) : (y28 cs o vs).size = cs.size := by
  simp [y28]; omega
theorem y32 {cs : Array Value} {o : Nat} {vs : List Value} (hl : o + vs.length ≤ cs.size) (k : Nat) :
    (y28 cs o vs)[k]? = if k < o then cs[k]? else if k < o + vs.length then vs[k - o]? else cs[k]? := by
  simp only [y28, List.getElem?_toArray]
  rw [List.getElem?_append]
  simp only [List.length_append, List.length_take, Array.length_toList]
  have hm : min o cs.size = o := by omega
  rw [hm]
  by_cases h1 : k < o
  · rw [if_pos (by omega), List.getElem?_append, if_pos (by simp; omega), List.getElem?_take, if_pos h1, if_pos h1]; simp
  · rw [if_neg h1]
    by_cases h2 : k < o + vs.length
    · rw [if_pos h2, if_pos h2, List.getElem?_append, if_neg (by simp; omega)]; simp [hm]
    · rw [if_neg h2, if_neg h2, List.getElem?_drop]
      rw [show o + vs.length + (k - (o + vs.length)) = k by omega]; simp
theorem ypf {w : World} {b o : Nat} {cs : Array Value} {ty : TypeId} {fr : Nat × Nat} (hb : w.heap[b]? = some (.cells cs ty fr)) (v : Value) :
    w.setCell ⟨b, o, none⟩ v = y20 w b (.cells (cs.setIfInBounds o v) ty fr) := by
  have hlt : b < w.heap.size := (Array.getElem?_eq_some_iff.1 hb).1
  unfold World.setCell y20
  congr 1
  apply Array.ext_getElem?
  intro k
  rw [Array.getElem?_modify, Array.getElem?_setIfInBounds]
  by_cases hk : b = k
  · subst hk
    have hv : w.heap[b] = .cells cs ty fr := (Array.getElem?_eq_some_iff.1 hb).2
    simp [hlt, hv]
  · simp [hk]
theorem yew (w : World) (b : Nat) (o o' : Obj) : y20 (y20 w b o) b o' = y20 w b o' := by
  unfold y20
  congr 1
  apply Array.ext_getElem?
  intro k
  simp only [Array.getElem?_setIfInBounds, Array.size_setIfInBounds]
  split <;> rfl
theorem y1l {b : Nat} {ty : TypeId} {fr : Nat × Nat} : ∀ (vs : List Value) (o i : Nat) (cs : Array Value) (w : World), w.heap[b]? = some (.cells cs ty fr) →
    frOk fr cs.size → o + i + vs.length ≤ cs.size → (∀ v ∈ vs, v.oneCell' = true) →
    (storeCells ⟨b, o, none⟩ vs i).run P w = .ok () (y20 w b (.cells (y28 cs (o + i) vs) ty fr))
  | [], o, i, cs, w, hb, _, _, _ => by
    have : y20 w b (.cells (y28 cs (o + i) []) ty fr) = w := by
      have : y28 cs (o + i) [] = cs := by simp [y28]
      rw [this]
      unfold y20
      cases w with
      | mk heap tape drawn os output =>
        congr 1
        apply Array.ext_getElem?
        intro k
        rw [Array.getElem?_setIfInBounds]
        split
        · rename_i hk; subst hk; split
          · exact hb.symm
          · rename_i hk; simp [hk]
        · rfl
    rw [this]
    rfl
  | v :: rest, o, i, cs, w, hb, hfr, hl, h1 => by
    have hi : o + i < cs.size := by simp at hl; omega
    have hcell : w.cell? ⟨b, o + i, none⟩ = some cs[o + i] := by simp [World.cell?, hb, hi]
    have hfro : w.frozen? ⟨b, o + i, none⟩ = false := by
      have := hfr (o + i) hi
      simp only [World.frozen?, hb]
      simpa using this
    have hst : (store ((⟨b, o, none⟩ : Addr).add i) v).run P w = .ok () (w.setCell ⟨b, o + i, none⟩ v) := by
      rw [y2m, run_store P w _ v _ (h1 v (by simp)), hcell]
      simp [hfro]
    have hlt : b < w.heap.size := (Array.getElem?_eq_some_iff.1 hb).1
    have ih := y1l (b := b) (ty := ty) (fr := fr) rest o (i + 1) (cs.setIfInBounds (o + i) v) (y20 w b (.cells (cs.setIfInBounds (o + i) v) ty fr))
      (by rw [y3p]; simp [hlt]) (by rw [Array.size_setIfInBounds]; exact hfr) (by rw [Array.size_setIfInBounds]; simp at hl; omega) (fun x hx => h1 x (by simp [hx]))
    simp only [storeCells, Sem.run_bind, hst, Result.andThen_ok]
    rw [ypf hb, ih, yew]
    congr 3
    apply Array.ext_getElem?
    intro k
    rw [y32 (by simp at hl ⊢; omega), y32 (by simp at hl ⊢; omega)]
    simp only [Array.getElem?_setIfInBounds, List.length_cons]
    by_cases hk : k < o + i
    · rw [if_pos hk, if_pos (by omega), if_neg (by omega)]
    · rw [if_neg hk]
      by_cases hk2 : k = o + i
      · subst hk2; simp [hi]
      · have : ¬ k < o + (i + 1) := by omega
        rw [if_neg this]
        by_cases hk3 : k < o + i + (rest.length + 1)
        · rw [if_pos (by omega), if_pos hk3, show k - (o + i) = (k - (o + (i + 1))) + 1 by omega]; simp
        · rw [if_neg (by omega), if_neg hk3, if_neg (by omega)]
theorem ydz (I : Inv nm w F m h) {id g : Nat} {bx : Bool} {es : Nat} {rows rows' : List (List AV)} {loc : Loc} {cs : Array Value} {ty : TypeId} {fr : Nat × Nat} {o : Nat} {vs : List Value}
    (ho : h[id]? = some ⟨g, .arr bx false es rows⟩) (hm : m id = some (g, loc)) (hb : w.heap[loc.blk]? = some (.cells cs ty fr)) (hl : o + vs.length ≤ cs.size)
    (hrows : rows'.length ≤ loc.cap)
    (hcell : ∀ (i : Nat) (row : List AV), rows'[i]? = some row → row.length = es ∧ ∀ (j : Nat) (l : AV), row[j]? = some l →
      yj l = true ∧ ∃ v, (y28 cs o vs)[loc.base + (i * es + j)]? = some v ∧ Rep nm w F m (gens h) v l) :
    Inv nm (y20 w loc.blk (.cells (y28 cs o vs) ty fr)) F m (y1e h id rows') ∧
      Tr w F m (gens h) (y20 w loc.blk (.cells (y28 cs o vs) ty fr)) F m (gens (y1e h id rows')) := by
  have hlt : loc.blk < w.heap.size := (Array.getElem?_eq_some_iff.1 hb).1
  obtain ⟨o1, ho1, hrep1⟩ := I.live id g loc hm
  rw [ho] at ho1
  injection ho1 with ho1
  injection ho1 with _ ho1
  subst ho1
  obtain ⟨h1, cs2, ty2, fr2, h2, h3, h4, h5, h6⟩ := hrep1
  rw [hb] at h2
  injection h2 with h2
  injection h2 with e1 e2 e3
  subst e1; subst e2; subst e3
  have hsr : y1e h id rows' = h.set id ⟨g, .arr bx false es rows'⟩ := by unfold y1e; rw [ho]
  have hidl : id < h.length := (List.getElem?_eq_some_iff.1 ho).1
  have hgens : gens (y1e h id rows') = gens h := by
    rw [hsr, y0t]
    apply List.ext_getElem?
    intro k
    rw [List.getElem?_set]
    split
    · rename_i e; subst e; rw [yl, ho]; simp [gens, hidl]
    · rfl
  obtain ⟨m', hm', hI, hT⟩ := y76 (w' := y20 w loc.blk (.cells (y28 cs o vs) ty fr)) (h' := y1e h id rows') (g' := g) (o := .arr bx false es rows') (loc := loc) (id := id) I
    rfl rfl rfl (by simp [y20]) (fun b hne _ => by rw [y3p, if_neg (fun e => hne e.1.symm)]) (.inr ⟨g, loc, _, hm, ho, rfl, rfl⟩)
    (fun j hj => by rw [hsr, List.getElem?_set_ne (fun e => hj e.symm)]) (by rw [hsr]; simp [hidl]) rfl (.inr hm)
    (fun m' hm' hrep => ⟨h1, y28 cs o vs, ty, fr, by rw [y3p]; simp [hlt], by rw [y6v hl]; exact h3, by rw [y6v hl]; exact h4, hrows, fun i row hi =>
      ⟨(hcell i row hi).1, fun j l hj => by
        obtain ⟨a1, v, a2, a3⟩ := (hcell i row hi).2 j l hj
        exact ⟨a1, v, a2, hrep _ _ a3⟩⟩⟩)
  have hmm : m' = m := by
    rw [hm']
    funext j
    split
    · rename_i e; rw [e]; exact hm.symm
    · rfl
  rw [hmm] at hI hT
  exact ⟨hI, hT⟩
theorem y9r {off : Nat} {vs row : List AV} (hl : off + vs.length ≤ row.length) (k : Nat) :
    (ym off vs row)[k]? = if k < off then row[k]? else if k < off + vs.length then vs[k - off]? else row[k]? := by
  unfold ym
  rw [List.getElem?_append]
  simp only [List.length_append, List.length_take]
  have hm : min off row.length = off := by omega
  rw [hm]
  by_cases h1 : k < off
  · rw [if_pos (by omega), List.getElem?_append, if_pos (by simp; omega), List.getElem?_take, if_pos h1, if_pos h1]
  · rw [if_neg h1]
    by_cases h2 : k < off + vs.length
    · rw [if_pos h2, if_pos h2, List.getElem?_append, if_neg (by simp; omega)]; simp [hm]
    · rw [if_neg h2, if_neg h2, List.getElem?_drop]
      rw [show off + vs.length + (k - (off + vs.length)) = k by omega]
theorem y6w {off : Nat} {vs row : List AV} (hl : off + vs.length ≤ row.length) : (ym off vs row).length = row.length := by
  simp [ym]; omega
theorem yhd {es i j i' j' : Nat} (hj : j < es) (hj' : j' < es) (he : i * es + j = i' * es + j') : i = i' ∧ j = j' := by
  have h1 : (i * es + j) / es = i := by rw [Nat.mul_comm, Nat.mul_add_div (by omega)]; rw [Nat.div_eq_of_lt hj]; omega
  have h2 : (i' * es + j') / es = i' := by rw [Nat.mul_comm, Nat.mul_add_div (by omega)]; rw [Nat.div_eq_of_lt hj']; omega
  have : i = i' := by rw [← h1, ← h2, he]
  subst this
  exact ⟨rfl, by omega⟩
theorem yof (I : Inv nm w F m h) {t n : Nat} {av bv : AV} {v u : Value} {x : AV × Heap} (hs : y29 P t n = true)
    (hv : Rep nm w F m (gens h) v av) (hu : Rep nm w F m (gens h) u bv) (hr : evSt n av bv h = some x) :
    ∃ w', (Instr.storeAt t v u).run P w = .ok () w' ∧ Inv nm w' F m x.2 ∧ Tr w F m (gens h) w' F m (gens x.2) ∧ x.1 = .tup [] := by
  unfold evSt at hr
  split at hr
  · rename_i id g i off
    split at hr
    · rename_i es rows hrows
      split at hr
      · rename_i row hrow
        split at hr
        · rename_i hc
          obtain ⟨hc1, hc2, hc3⟩ := hc
          injection hr with hr
          subst hr
          obtain ⟨loc, hm, he, hcap, cs, ty, fr, hb, hfr, hsz, hcell⟩ := I.rows hrows
          obtain ⟨bx, ho⟩ := y4o hrows
          have hp := hv.lp_at hm
          subst hp
          obtain ⟨hcs, hcl⟩ := hu.cells hc3
          have hil : i < rows.length := (List.getElem?_eq_some_iff.1 hrow).1
          have hrl : row.length = es := (hcell i row hrow).1
          have hbound : loc.base + i * es + off + u.cells.toList.length ≤ cs.size := by
            have : (i + 1) * es ≤ loc.cap * es := Nat.mul_le_mul_right _ (by omega)
            rw [Nat.add_mul] at this
            simp only [Array.length_toList]
            omega
          have hone : ∀ z ∈ u.cells.toList, z.oneCell' = true := by
            intro z hz
            obtain ⟨j, hj⟩ := List.getElem?_of_mem hz
            have hjl : j < (cellsOf bv).length := by rw [← hcs]; have := (List.getElem?_eq_some_iff.1 hj).1; simpa using this
            exact (hcl j z _ (by simpa using hj) (List.getElem?_eq_getElem hjl)).2.1
          have hrun := y1l (P := P) u.cells.toList (loc.base + i * es + off) 0 cs w hb hfr (by omega) hone
          have hcell2 : ∀ (k : Nat) (row' : List AV), (rows.set i (ym off (cellsOf bv) row))[k]? = some row' → row'.length = es ∧ ∀ (j : Nat) (l : AV), row'[j]? = some l →
              yj l = true ∧ ∃ v, (y28 cs (loc.base + i * es + off) u.cells.toList)[loc.base + (k * es + j)]? = some v ∧ Rep nm w F m (gens h) v l := by
            intro k row' hk
            rw [List.getElem?_set] at hk
            split at hk
            · rename_i e; subst e
              injection hk with hk
              subst hk
              refine ⟨by rw [y6w (by omega)]; exact hrl, fun j l hj => ?_⟩
              rw [y9r (by omega)] at hj
              rw [y32 hbound]
              simp only [Array.length_toList, hcs]
              have hjl : j < es := by
                rw [← hrl]
                split at hj
                · omega
                · split at hj
                  · omega
                  · exact (List.getElem?_eq_some_iff.1 hj).1
              split at hj
              · rw [if_pos (by omega)]
                obtain ⟨a1, z, a2, _, a3⟩ := (hcell i row hrow).2 j l hj
                exact ⟨a1, z, a2, a3⟩
              · split at hj
                · rw [if_neg (by omega), if_pos (by omega)]
                  have hz : u.cells[j - off]? = some (u.cells[j - off]'(by rw [hcs]; omega)) := Array.getElem?_eq_getElem _
                  obtain ⟨b1, _, b2⟩ := hcl (j - off) _ l hz hj
                  exact ⟨b1, _, by rw [show loc.base + (i * es + j) - (loc.base + i * es + off) = j - off by omega]; first | (simp; done) | (simp; exact hz) | exact hz, b2⟩
                · rw [if_neg (by omega), if_neg (by omega)]
                  obtain ⟨a1, z, a2, _, a3⟩ := (hcell i row hrow).2 j l hj
                  exact ⟨a1, z, a2, a3⟩
            · rename_i hne
              refine ⟨(hcell k row' hk).1, fun j l hj => ?_⟩
              have hjl : j < es := by rw [← (hcell k row' hk).1]; exact (List.getElem?_eq_some_iff.1 hj).1
              obtain ⟨a1, z, a2, _, a3⟩ := (hcell k row' hk).2 j l hj
              refine ⟨a1, z, ?_, a3⟩
              rw [y32 hbound]
              simp only [Array.length_toList, hcs]
              by_cases h1 : loc.base + (k * es + j) < loc.base + i * es + off
              · rw [if_pos h1]; exact a2
              · rw [if_neg h1]
                by_cases h2 : loc.base + (k * es + j) < loc.base + i * es + off + (cellsOf bv).length
                · exfalso
                  have : k * es + j = i * es + (k * es + j - i * es) := by omega
                  exact hne (yhd hjl (by omega) this).1.symm
                · rw [if_neg h2]; exact a2
          have hst := ydz I ho hm hb hbound (rows' := rows.set i (ym off (cellsOf bv) row)) (by simpa using hcap) hcell2
          refine ⟨_, ?_, hst.1, hst.2, rfl⟩
          simp only [Instr.storeAt, Instr.sureAddr, storeVar, Sem.run_bind, Sem.run_pure, Result.andThen_ok, y17 hs, he]
          rw [if_neg (by rw [hcs]; exact fun h => h hc1)]
          simpa using hrun
        · cases hr
      · cases hr
    · cases hr
  · cases hr
end Go.Vm
/- The value machine: new objects, appended and copied rows, against the model. -/
namespace Go.Vm
variable {P : Program} {nm : Nat → Option Nat} {w : World} {F : Nat → Prop} {m : MapT} {h : Heap}
theorem ye7 {fb : Nat} {sl : Option Nat} {o : OC} {id g : Nat} {h' : Heap} (hp : place fb sl o h = some (id, g, h')) :
    (∀ j, j ≠ id → h'[j]? = h[j]?) ∧ h'[id]? = some ⟨g, o⟩ ∧ (∀ g0, (gens h)[id]? = some g0 → g0 < g) := by
  unfold place at hp
  split at hp
  · injection hp with hp
    injection hp with h1 h2
    injection h2 with h2 h3
    subst h1; subst h2; subst h3
    refine ⟨fun j hj => ?_, by simp, fun g0 hg => by simp [gens] at hg⟩
    by_cases hlt : j < h.length
    · rw [List.getElem?_append_left hlt]
    · have e : h[j]? = none := List.getElem?_eq_none (by omega)
      rw [e]
      exact List.getElem?_eq_none (by simp; omega)
  · rename_i j
    split at hp
    · rename_i o0 ho
      injection hp with hp
      injection hp with h1 h2
      injection h2 with h2 h3
      subst h1; subst h2; subst h3
      have hl : fb + j < h.length := (List.getElem?_eq_some_iff.1 ho).1
      refine ⟨fun k hk => by rw [List.getElem?_set_ne (fun e => hk e.symm)], by simp [hl], fun g0 hg => ?_⟩
      rw [yl, ho] at hg
      injection hg with hg
      simp only at hg
      omega
    · cases hp
theorem yfo (I : Inv nm w F m h) {fb : Nat} {sl : Option Nat} {o : OC} {id g : Nat} {h' : Heap} (hp : place fb sl o h = some (id, g, h')) {w' : World} {ob : Obj} {loc : Loc}
    (hheap : w'.heap = w.heap.push ob) (hos : w'.os = w.os) (htape : w'.tape = w.tape) (hout : w'.output = w.output) (hloc : loc.blk = w.heap.size) (hfz : o.fz = false)
    (ho : ∀ m' : MapT, (∀ v a, Rep nm w F m (gens h) v a → Rep nm w' F m' (gens h') v a) → y8e nm w' F m' (gens h') loc o) :
    ∃ m' : MapT, Inv nm w' F m' h' ∧ Tr w F m (gens h) w' F m' (gens h') ∧ m' id = some (g, loc) ∧ (gens h')[id]? = some g := by
  obtain ⟨h1, h2, h3⟩ := ye7 hp
  obtain ⟨m', hm', hI, hT⟩ := y76 (w' := w') (h' := h') (g' := g) (o := o) (loc := loc) (id := id) I hos htape hout (by rw [hheap]; simp)
    (fun b hb hlt => by rw [hheap, Array.getElem?_push, if_neg (by omega)]) (.inl (by omega)) h1 h2 hfz (.inl h3) (fun m' _ hrep => ho m' hrep)
  exact ⟨m', hI, hT, by rw [hm']; simp, by rw [yl, h2]; rfl⟩
theorem y8j (w' : World) {ob : Obj} (hheap : w'.heap = w.heap.push ob) : w'.heap[w.heap.size]? = some ob := by rw [hheap]; simp
theorem ywa (I : Inv nm w F m h) {fb : Nat} {sl : Option Nat} {bx : Bool} {es cap : Nat} {rows : List (List AV)} {id g : Nat} {h' : Heap} (hp : place fb sl (.arr bx false es rows) h = some (id, g, h'))
    {w' : World} {cells : Array Value} {ty : TypeId} {fr : Nat × Nat} (hheap : w'.heap = w.heap.push (.cells cells ty fr)) (hos : w'.os = w.os) (htape : w'.tape = w.tape) (hout : w'.output = w.output)
    (hfr : frOk fr cells.size) (hcap : rows.length ≤ cap) (hsz : cap * es ≤ cells.size)
    (hcell : ∀ (i : Nat) (row : List AV), rows[i]? = some row → row.length = es ∧ ∀ (j : Nat) (l : AV), row[j]? = some l → yj l = true ∧ ∃ v, cells[i * es + j]? = some v ∧ Rep nm w F m (gens h) v l) :
    ∃ m' : MapT, Inv nm w' F m' h' ∧ Tr w F m (gens h) w' F m' (gens h') ∧ m' id = some (g, ⟨w.heap.size, 0, es, cap⟩) ∧ (gens h')[id]? = some g :=
  yfo I hp hheap hos htape hout (loc := ⟨w.heap.size, 0, es, cap⟩) rfl rfl fun m' hrep => ⟨rfl, cells, ty, fr, y8j w' hheap, hfr, by simpa using hsz, hcap, fun i row hi =>
    ⟨(hcell i row hi).1, fun j l hl => by
      obtain ⟨a1, v, a2, a3⟩ := (hcell i row hi).2 j l hl
      exact ⟨a1, v, by simpa using a2, hrep _ _ a3⟩⟩⟩
theorem y6x (n : Nat) : frOk (0, 0) n := fun x _ h => by simp at h
theorem yhe {w' : World} {F' : Nat → Prop} {m' : MapT} {G : List Nat} {id g es cap len : Nat} {loc : Loc} (hm : m' id = some (g, loc)) (hG : G[id]? = some g) (hb : loc.base = 0) (he : loc.es = es)
    (hc : cap = loc.cap) (hl : len ≤ cap) : Rep nm w' F' m' G (.slice (some ⟨loc.blk, 0, none⟩) len cap) (.ls id g es 0 len) :=
  .ls id g es 0 len cap ⟨loc.blk, 0, none⟩ loc ⟨g, hG, Nat.le_refl _⟩ (fun loc' h => by rw [hm] at h; injection h with h; injection h with _ h; exact h.symm) rfl rfl he (fun _ => by show 0 = loc.base + 0 * loc.es; omega) (by omega) hl
theorem yor {w' : World} {F' : Nat → Prop} {m' : MapT} {G : List Nat} {id g : Nat} {loc : Loc} (hm : m' id = some (g, loc)) (hG : G[id]? = some g) (hb : loc.base = 0) :
    Rep nm w' F' m' G (.pointer (some ⟨loc.blk, 0, none⟩)) (.lp id g 0 0) := by
  have h := Rep.lp (nm := nm) (w := w') (F := F') (m := m') (G := G) id g 0 0 loc ⟨g, hG, Nat.le_refl _⟩ (fun loc' h => by rw [hm] at h; injection h with h; injection h with _ h; exact h.symm)
  simpa [hb] using h
theorem y9k (I : Inv nm w F m h) {fb : Nat} {sl : Option Nat} {cs : List AV} {x : AV × Heap} {cells : Array Value} {ty : TypeId} (hx : y4j fb sl cs h = some x) (hn : cells.size = cs.length)
    (hcell : ∀ (j : Nat) (v : Value) (l : AV), cells[j]? = some v → cs[j]? = some l → yj l = true ∧ Rep nm w F m (gens h) v l) :
    Does nm w F m h (.ok (.value (.pointer (some ⟨w.heap.size, 0, none⟩))) { w with heap := w.heap.push (.cells cells ty) }) x := by
  unfold y4j at hx
  split at hx
  · rename_i id g h' hp
    injection hx with hx
    subst hx
    obtain ⟨m', hI, hT, hm, hG⟩ := ywa (w' := { w with heap := w.heap.push (.cells cells ty) }) (cap := 1) (cells := cells) (ty := ty) (fr := (0, 0)) I hp rfl rfl rfl rfl (y6x _) (by simp) (by simp [hn])
      (fun i row hi => by
        cases i with
        | succ i => simp at hi
        | zero =>
          simp at hi
          subst hi
          refine ⟨rfl, fun j l hl => ?_⟩
          have hj : j < cells.size := by rw [hn]; exact (List.getElem?_eq_some_iff.1 hl).1
          have hv : cells[j]? = some cells[j] := Array.getElem?_eq_getElem _
          exact ⟨(hcell j _ l hv hl).1, cells[j], by first | (simp; done) | (simp; exact hv) | exact hv, (hcell j _ l hv hl).2⟩)
    exact ⟨_, _, F, m', .inl rfl, hI, hT, yor hm hG rfl⟩
  · cases hx
theorem y4y (I : Inv nm w F m h) {fb : Nat} {sl : Option Nat} {es cap : Nat} {rows : List (List AV)} {x : AV × Heap} {w' : World} {cells : Array Value} {ty : TypeId} {fr : Nat × Nat}
    (hx : y2s fb sl es rows h = some x) (hheap : w'.heap = w.heap.push (.cells cells ty fr)) (hos : w'.os = w.os) (htape : w'.tape = w.tape) (hout : w'.output = w.output)
    (hfr : frOk fr cells.size) (hcap : rows.length ≤ cap) (hsz : cap * es ≤ cells.size)
    (hcell : ∀ (i : Nat) (row : List AV), rows[i]? = some row → row.length = es ∧ ∀ (j : Nat) (l : AV), row[j]? = some l → yj l = true ∧ ∃ v, cells[i * es + j]? = some v ∧ Rep nm w F m (gens h) v l) :
    Does nm w F m h (.ok (.value (.slice (some ⟨w.heap.size, 0, none⟩) rows.length cap)) w') x := by
  unfold y2s at hx
  split at hx
  · rename_i id g h' hp
    injection hx with hx
    subst hx
    obtain ⟨m', hI, hT, hm, hG⟩ := ywa I hp hheap hos htape hout hfr hcap hsz hcell
    exact ⟨_, _, F, m', .inl rfl, hI, hT, yhe (loc := ⟨w.heap.size, 0, es, cap⟩) hm hG rfl rfl rfl hcap⟩
  · cases hx
theorem y5r {vs : List Value} {cs : List AV} {G : List Nat} (hm : y9t vs cs = true) : LRep nm w F m G vs cs := by
  obtain ⟨h1, h2⟩ := y77 (nm := nm) (w := w) (F := F) hm
  exact ⟨h1, fun j v l hv hl => .pure (h2 j v l hv hl)⟩
theorem yv1 (I : Inv nm w F m h) {fb : Nat} {sl : Option Nat} {t : Nat} {cs : List AV} {x : AV × Heap} (hz : y7f P t cs = true) (hl : cs.all yj = true) (hx : y4j fb sl cs h = some x) :
    Does nm w F m h ((do pure (Next.value (← Instr.alloc t true (.tuple #[]))) : Sem Next).run P w) x := by
  obtain ⟨i, z, hi, hz1, hz2⟩ := y5k hz
  have hrun : (Instr.alloc t true (.tuple #[])).run P w = .ok (.pointer (some ⟨w.heap.size, 0, none⟩)) { w with heap := w.heap.push (.cells z.cells t) } := by
    simp [Instr.alloc, y1m hi hz1, newVar, newRow]
  rw [y8i hrun]
  have hL := y5r (nm := nm) (w := w) (F := F) (m := m) (G := gens h) hz2
  refine y9k I hx (by simpa using hL.1) (fun j v l hv hl2 => ⟨?_, hL.2 j v l (by simpa using hv) hl2⟩)
  rw [List.all_eq_true] at hl
  exact hl l (List.mem_of_getElem? hl2)
theorem yuw (I : Inv nm w F m h) {fb : Nat} {sl : Option Nat} {t : Nat} {v : Value} {a : AV} {x : AV × Heap} (hv : Rep nm w F m (gens h) v a) (hl : (cellsOf a).all yj = true)
    (hx : y4j fb sl (cellsOf a) h = some x) : Does nm w F m h ((do pure (Next.value (← Instr.box t v)) : Sem Next).run P w) x := by
  have hrun : (Instr.box t v).run P w = .ok (.pointer (some ⟨w.heap.size, 0, none⟩)) { w with heap := w.heap.push (.cells v.cells t) } := by
    simp [Instr.box, newVar, newRow]
  rw [y8i hrun]
  obtain ⟨h1, h2⟩ := hv.cells hl
  exact y9k I hx h1 (fun j x l hx hl2 => ⟨(h2 j x l hx hl2).1, (h2 j x l hx hl2).2.2⟩)
theorem y4c (off : Nat) : ∀ (vs : List Value) (n : Nat) (cs : Array Value), off + n + vs.length ≤ cs.size → ∀ k,
    ((vs.zipIdx n).foldl (fun cs (p : Value × Nat) => cs.setIfInBounds (off + p.2) p.1) cs)[k]? = if k < off + n then cs[k]? else if k < off + n + vs.length then vs[k - (off + n)]? else cs[k]?
  | [], n, cs, _, k => by
    simp only [List.zipIdx_nil, List.foldl_nil, List.length_nil, Nat.add_zero]
    by_cases hk : k < off + n <;> simp [hk]
  | v :: vs, n, cs, hl, k => by
    simp only [List.zipIdx_cons, List.foldl_cons]
    rw [y4c off vs (n + 1) _ (by simp at hl ⊢; omega) k]
    simp only [Array.getElem?_setIfInBounds, List.length_cons]
    simp only [List.length_cons] at hl
    by_cases h1 : k < off + n
    · rw [if_pos (by omega), if_neg (by omega), if_pos h1]
    · by_cases h2 : k = off + n
      · subst h2
        rw [if_pos (by omega), if_pos rfl, if_pos (by omega), if_neg (by omega), if_pos (by omega)]
        simp
      · rw [if_neg (by omega), if_neg h1]
        by_cases h3 : k < off + n + (vs.length + 1)
        · rw [if_pos (by omega), if_pos h3, show k - (off + n) = (k - (off + (n + 1))) + 1 by omega]; simp
        · rw [if_neg (by omega), if_neg h3, if_neg (by omega)]
theorem y53 (off : Nat) : ∀ (vs : List (Value × Nat)) (cs : Array Value), (vs.foldl (fun cs (p : Value × Nat) => cs.setIfInBounds (off + p.2) p.1) cs).size = cs.size
  | [], _ => rfl
  | v :: vs, cs => by rw [List.foldl_cons, y53 off vs]; simp
theorem y8v {G : List Nat} {place : Nat → Option (Nat × Nat)} {a : Act} {t : Tmps} (hT : TRep nm w F m G a t) :
    ∀ {ps : List (Nat × Operand)} {qs : List (Nat × Nat × Opd)} {vs : Array Value} {cs r : List AV}, y5p nm place ps qs = true → LRep nm w F m G vs.toList cs →
      y4k (qs.map fun p => (p.1, p.2.1, p.2.2.ev t)) cs = some r →
      ∃ vs' : Array Value, Instr.fill place vs (ps.map fun p => (p.1, a.eval p.2)) = some vs' ∧ LRep nm w F m G vs'.toList r
  | [], [], vs, cs, r, _, hl, hf => by
    simp only [List.map_nil, y4k] at hf
    injection hf with hf
    subst hf
    exact ⟨vs, rfl, hl⟩
  | (i, x) :: ps, (off, n, y) :: qs, vs, cs, r, hc, hl, hf => by
    simp only [y5p, Bool.and_eq_true, beq_iff_eq] at hc
    obtain ⟨⟨hc1, hc2⟩, hc3⟩ := hc
    simp only [List.map_cons, y4k] at hf
    split at hf
    · rename_i hb
      obtain ⟨hk, hb1, hb2⟩ := hb
      have hrep := y8 hT hc2
      have hcells : (a.eval x).cells.size = n ∧ ∀ (j : Nat) (v : Value) (l : AV), (a.eval x).cells[j]? = some v → (cellsOf (y.ev t))[j]? = some l → Rep nm w F m G v l := by
        by_cases ha : ∃ cs, y.ev t = .agg cs
        · obtain ⟨cs0, ha⟩ := ha
          rw [ha] at hrep hb1
          obtain ⟨vs0, hv, hn, hr⟩ := hrep.agg_inv
          rw [hv, ha]
          exact ⟨by rw [← hb1]; exact hn, hr⟩
        · have hc : cellsOf (y.ev t) = [y.ev t] := by
            cases hy : y.ev t <;> first | rfl | exact (ha ⟨_, hy⟩).elim
          rw [hc] at hb1 ⊢
          have hv : (a.eval x).cells = #[a.eval x] := by
            cases hax : a.eval x with
            | agg vs0 =>
              rw [hax] at hrep
              generalize y.ev t = q at hrep ha hk
              cases hrep with
              | pure hp => cases hp; exact (ha ⟨_, rfl⟩).elim
              | undef => cases hk
              | agg => exact (ha ⟨_, rfl⟩).elim
            | _ => rfl
          rw [hv]
          refine ⟨by simpa using hb1, fun j v l h1 h2 => ?_⟩
          cases j with
          | zero => simp at h1 h2; subst h1; subst h2; exact hrep
          | succ j => simp at h1
      have hsz : (a.eval x).cells.toList.length = n := by simpa using hcells.1
      have hvl : vs.size = cs.length := by simpa using hl.1
      have hfill : off + 0 + (a.eval x).cells.toList.length ≤ vs.size := by omega
      have hsize : ((a.eval x).cells.toList.zipIdx.foldl (fun cs (p : Value × Nat) => cs.setIfInBounds (off + p.2) p.1) vs).size = vs.size := y53 _ _ _
      have hstep : LRep nm w F m G ((a.eval x).cells.toList.zipIdx.foldl (fun cs (p : Value × Nat) => cs.setIfInBounds (off + p.2) p.1) vs).toList (ym off (cellsOf (y.ev t)) cs) := by
        refine ⟨by rw [Array.length_toList, hsize, y6w (by omega)]; exact hvl, fun j v l hv hl2 => ?_⟩
        rw [Array.getElem?_toList, y4c off _ 0 _ hfill] at hv
        rw [y9r (by omega)] at hl2
        simp only [Nat.add_zero, hsz, hb1] at hv hl2
        split at hv
        · rename_i h1; rw [if_pos h1] at hl2; exact hl.2 j v l (by simpa using hv) hl2
        · rename_i h1
          rw [if_neg h1] at hl2
          split at hv
          · rename_i h2; rw [if_pos h2] at hl2; exact hcells.2 _ v l (by simpa using hv) hl2
          · rename_i h2; rw [if_neg h2] at hl2; exact hl.2 j v l (by simpa using hv) hl2
      obtain ⟨vs', h1, h2⟩ := y8v hT hc3 hstep hf
      refine ⟨vs', ?_, h2⟩
      simp only [List.map_cons, Instr.fill, hc1]
      rw [if_neg (by simp [hcells.1]; omega)]
      rw [← h1]
      congr 1
      rw [← Array.foldl_toList]
      simp
    · cases hf
  | [], _ :: _, _, _, _, h, _, _ => by cases h
  | _ :: _, [], _, _, _, h, _, _ => by cases h
theorem yon {fs : Array Field} (hf : fs.toList.all (fun f => (P.info? f.type).isSome) = true) (w : World) :
    (fs.mapM fun f => (do pure (f.offset, ← sizeOf f.type) : Sem (Nat × Nat))).run P w = .ok (fs.map fun f => (f.offset, P.cellsOf f.type)) w := by
  rw [Array.mapM_eq_mapM_toList]
  have key : ∀ l : List Field, l.all (fun f => (P.info? f.type).isSome) = true →
      (l.mapM fun f => (do pure (f.offset, ← sizeOf f.type) : Sem (Nat × Nat))).run P w = .ok (l.map fun f => (f.offset, P.cellsOf f.type)) w := by
    intro l hl
    induction l with
    | nil => simp
    | cons f fs ih =>
      simp only [List.all_cons, Bool.and_eq_true] at hl
      obtain ⟨i, hi⟩ := Option.isSome_iff_exists.1 hl.1
      have hf1 : (do pure (f.offset, ← sizeOf f.type) : Sem (Nat × Nat)).run P w = .ok (f.offset, P.cellsOf f.type) w := by simp [sizeOf, typeInfo, hi, Program.cellsOf]
      rw [List.mapM_cons, Sem.run_bind, hf1, Result.andThen_ok, Sem.run_bind, ih hl.2, Result.andThen_ok]
      rfl
  simp only [Sem.run_map, key _ hf, Result.andThen_ok]
  congr 1
  apply Array.ext'
  simp
theorem yii (I : Inv nm w F m h) {a : Act} {t : Tmps} (hT : TRep nm w F m (gens h) a t) {ty : Nat} {ps : Array (Nat × Operand)} {qs : List (Nat × Nat × Opd)} {zero r : List AV}
    (hz : y7f P ty zero = true)
    (hc : (match P.underlying ty with
      | some (.struct fs) => fs.toList.all (fun f => (P.info? f.type).isSome) && y5p nm (fun i => (fs[i]?).map fun f => (f.offset, P.cellsOf f.type)) ps.toList qs
      | some (.array _ e) => (P.info? e).isSome && y5p nm (fun i => some (i * P.cellsOf e, P.cellsOf e)) ps.toList qs
      | _ => false) = true)
    (hr : y4k (qs.map fun p => (p.1, p.2.1, p.2.2.ev t)) zero = some r) :
    ∃ v, (Instr.build ty (ps.map fun (i, x) => (i, a.eval x))).run P w = .ok v w ∧ Rep nm w F m (gens h) v (.agg r) := by
  obtain ⟨i, z, hi, hz1, hz2⟩ := y5k hz
  have hL := y5r (nm := nm) (w := w) (F := F) (m := m) (G := gens h) hz2
  split at hc
  · rename_i fs hu
    simp only [Bool.and_eq_true] at hc
    obtain ⟨vs', h1, h2⟩ := y8v hT hc.2 hL hr
    refine ⟨.agg vs', ?_, .agg _ _ (by simpa using h2.1) (fun j v l hv hl => h2.2 j v l (by simpa using hv) hl)⟩
    simp only [Instr.build, Sem.run_bind, y1m hi hz1, y3 hu, Result.andThen_ok, yon hc.1]
    have hp : (fun i : Nat => (fs.map fun f : Field => (f.offset, P.cellsOf f.type))[i]?) = (fun i : Nat => (fs[i]?).map fun f : Field => (f.offset, P.cellsOf f.type)) := by funext i; simp
    rw [hp]
    simp only [Array.toList_map, h1]
    rfl
  · rename_i n e hu
    simp only [Bool.and_eq_true] at hc
    obtain ⟨ie, hie⟩ := Option.isSome_iff_exists.1 hc.1
    have hce : P.cellsOf e = ie.size := by simp [Program.cellsOf, hie]
    obtain ⟨vs', h1, h2⟩ := y8v hT hc.2 hL hr
    refine ⟨.agg vs', ?_, .agg _ _ (by simpa using h2.1) (fun j v l hv hl => h2.2 j v l (by simpa using hv) hl)⟩
    simp only [Instr.build, Sem.run_bind, y1m hi hz1, y3 hu, Result.andThen_ok]
    simp only [sizeOf, Sem.run_bind, y6f hie, Result.andThen_ok, Sem.run_pure]
    rw [hce] at h1
    simp only [Array.toList_map, h1]
    rfl
  · cases hc
def RRep (nm : Nat → Option Nat) (w : World) (F : Nat → Prop) (m : MapT) (G : List Nat) (es : Nat) (cells : Array Value) (rows : List (List AV)) : Prop :=
  cells.size = rows.length * es ∧ ∀ (i : Nat) (row : List AV), rows[i]? = some row → row.length = es ∧ ∀ (j : Nat) (l : AV), row[j]? = some l → yj l = true ∧ ∃ v, cells[i * es + j]? = some v ∧ Rep nm w F m G v l
theorem ycs {es n i j : Nat} (hi : i < n) (hj : j < es) : i * es + j < n * es := by
  have : (i + 1) * es ≤ n * es := Nat.mul_le_mul_right _ (by omega)
  rw [Nat.add_mul] at this
  omega
theorem ydm {G : List Nat} {es n : Nat} {z : Array Value} {zero : List AV} (hes : 0 < es) (hl : zero.length = es) (hz : LRep nm w F m G z.toList zero) (h1 : zero.all yj = true) :
    RRep nm w F m G es ((Array.range (n * es)).map (z[· % z.size]!)) (List.replicate n zero) := by
  refine ⟨by simp, fun i row hi => ?_⟩
  have hil : i < n := by have := (List.getElem?_eq_some_iff.1 hi).1; simpa using this
  have hr : row = zero := by
    rw [List.getElem?_replicate, if_pos hil] at hi
    injection hi with hi
    exact hi.symm
  subst hr
  refine ⟨hl, fun j l hj => ?_⟩
  have hjl : j < es := by rw [← hl]; exact (List.getElem?_eq_some_iff.1 hj).1
  have hzs : z.size = es := by rw [← hl]; simpa using hz.1
  obtain ⟨v, hv, hrep⟩ := hz.get hj
  refine ⟨?_, v, ?_, hrep⟩
  · rw [List.all_eq_true] at h1
    exact h1 l (List.mem_of_getElem? hj)
  · have hlt := ycs (es := es) hil hjl
    have hmod : (i * es + j) % es = j := by rw [Nat.mul_comm, Nat.mul_add_mod]; exact Nat.mod_eq_of_lt hjl
    simp only [Array.getElem?_map, Array.getElem?_range, hlt, if_true, Option.map_some, hzs, hmod]
    congr 1
    have hv2 : z[j]? = some v := by simpa using hv
    have hjz : j < z.size := by omega
    rw [getElem!_pos z j hjz]
    rw [Array.getElem?_eq_getElem hjz] at hv2
    injection hv2
theorem y7d {G : List Nat} {es : Nat} {a : Act} {t : Tmps} (hT : TRep nm w F m G a t) :
    ∀ {ps : List (Nat × Operand)} {qs : List (Nat × Opd)} {vs : Array Value} {rows r : List (List AV)}, yce nm ps qs = true → RRep nm w F m G es vs rows →
      y3s es (qs.map fun p => (p.1, p.2.ev t)) rows = some r →
      ∃ vs' : Array Value, Instr.fill (fun i => some (i * es, es)) vs (ps.map fun p => (p.1, a.eval p.2)) = some vs' ∧ RRep nm w F m G es vs' r ∧ r.length = rows.length
  | [], [], vs, rows, r, _, hl, hf => by
    simp only [List.map_nil, y3s] at hf
    injection hf with hf
    subst hf
    exact ⟨vs, rfl, hl, rfl⟩
  | (i, x) :: ps, (i', y) :: qs, vs, rows, r, hc, hl, hf => by
    simp only [yce, Bool.and_eq_true, beq_iff_eq] at hc
    obtain ⟨⟨hc1, hc2⟩, hc3⟩ := hc
    subst hc1
    simp only [List.map_cons, y3s] at hf
    split at hf
    · rename_i hb
      obtain ⟨hb1, hb2, hb3⟩ := hb
      obtain ⟨hcs, hcl⟩ := (y8 hT hc2).cells hb3
      have hsz : (a.eval x).cells.toList.length = es := by rw [Array.length_toList, hcs, hb1]
      have hfill : i * es + 0 + (a.eval x).cells.toList.length ≤ vs.size := by
        rw [hsz, hl.1]
        have : (i + 1) * es ≤ rows.length * es := Nat.mul_le_mul_right _ (by omega)
        rw [Nat.add_mul] at this
        omega
      have hsize : ((a.eval x).cells.toList.zipIdx.foldl (fun cs (p : Value × Nat) => cs.setIfInBounds (i * es + p.2) p.1) vs).size = vs.size := y53 _ _ _
      have hstep : RRep nm w F m G es ((a.eval x).cells.toList.zipIdx.foldl (fun cs (p : Value × Nat) => cs.setIfInBounds (i * es + p.2) p.1) vs) (rows.set i (cellsOf (y.ev t))) := by
        refine ⟨by rw [hsize, hl.1]; simp, fun k row hk => ?_⟩
        rw [List.getElem?_set] at hk
        split at hk
        · rename_i e
          subst e
          injection hk with hk
          subst hk
          refine ⟨hb1, fun j l hj => ?_⟩
          have hjl : j < es := by rw [← hb1]; exact (List.getElem?_eq_some_iff.1 hj).1
          have hz : (a.eval x).cells[j]? = some ((a.eval x).cells[j]'(by rw [hcs, hb1]; exact hjl)) := Array.getElem?_eq_getElem _
          refine ⟨(hcl j _ l hz hj).1, _, ?_, (hcl j _ l hz hj).2.2⟩
          rw [y4c _ _ 0 _ hfill, if_neg (by omega), hsz, if_pos (by omega), show i * es + j - (i * es + 0) = j by omega]
          first | (simp; done) | (simp; exact hz) | exact hz
        · rename_i hne
          refine ⟨(hl.2 k row hk).1, fun j l hj => ?_⟩
          have hjl : j < es := by rw [← (hl.2 k row hk).1]; exact (List.getElem?_eq_some_iff.1 hj).1
          obtain ⟨a1, v, a2, a3⟩ := (hl.2 k row hk).2 j l hj
          refine ⟨a1, v, ?_, a3⟩
          rw [y4c _ _ 0 _ hfill, hsz]
          by_cases h1 : k * es + j < i * es + 0
          · rw [if_pos h1]; exact a2
          · rw [if_neg h1]
            by_cases h2 : k * es + j < i * es + 0 + es
            · exfalso
              have : k * es + j = i * es + (k * es + j - i * es) := by omega
              exact hne (yhd hjl (by omega) this).1.symm
            · rw [if_neg h2]; exact a2
      obtain ⟨vs', h1, h2, h3⟩ := y7d hT hc3 hstep hf
      refine ⟨vs', ?_, h2, by rw [h3]; simp⟩
      simp only [List.map_cons, Instr.fill]
      have hcond : ((a.eval x).cells.size ≠ es || i * es + (a.eval x).cells.size > vs.size) = false := by
        rw [Array.length_toList] at hsz hfill
        simp [hsz]
        omega
      rw [if_neg (by rw [hcond]; exact Bool.false_ne_true)]
      rw [← h1]
      congr 1
      rw [← Array.foldl_toList]
      simp
    · cases hf
  | [], _ :: _, _, _, _, h, _, _ => by cases h
  | _ :: _, [], _, _, _, h, _, _ => by cases h
theorem yhk (I : Inv nm w F m h) {fb : Nat} {sl : Option Nat} {a : Act} {t : Tmps} (hT : TRep nm w F m (gens h) a t) {ty e es len : Nat} {ps : Array (Nat × Operand)} {qs : List (Nat × Opd)} {zero : List AV}
    {rows : List (List AV)} {x : AV × Heap} (hu : P.underlying ty = some (.slice e)) (hs : y29 P e es = true) (hes : 0 < es) (hlen : len * es ≤ 2 ^ 24) (hz : y7f P e zero = true)
    (hzl : zero.length = es) (hz1 : zero.all yj = true) (hc : yce nm ps.toList qs = true) (hr : y3s es (qs.map fun p => (p.1, p.2.ev t)) (List.replicate len zero) = some rows)
    (hx : y2s fb sl es rows h = some x) :
    Does nm w F m h ((do pure (Next.value (← Instr.buildSlice ty len (ps.map fun (i, x) => (i, a.eval x)))) : Sem Next).run P w) x := by
  obtain ⟨i, z, hi, hzz, hz2⟩ := y5k hz
  have hL := y5r (nm := nm) (w := w) (F := F) (m := m) (G := gens h) hz2
  obtain ⟨vs', h1, h2, h3⟩ := y7d hT hc (ydm (n := len) hes hzl hL hz1) hr
  have hrl : rows.length = len := by rw [h3]; simp
  have hrun : (Instr.buildSlice ty len (ps.map fun (i, x) => (i, a.eval x))).run P w = .ok (.slice (some ⟨w.heap.size, 0, none⟩) rows.length rows.length) { w with heap := w.heap.push (.cells vs' e) } := by
    simp only [Instr.buildSlice, Sem.run_bind, y3 hu, Result.andThen_ok, y17 hs]
    rw [if_neg (by omega)]
    by_cases hn : len = 0
    · subst hn
      simp only [Nat.zero_mul, if_true, Sem.run_bind, Sem.run_pure, Result.andThen_ok]
      simp only [Nat.zero_mul] at h1
      have : (Array.map (fun x => (#[] : Array Value)[x % (#[] : Array Value).size]!) (Array.range 0)) = (Array.map (fun x => z.cells[x % z.cells.size]!) (Array.range 0)) := by simp
      rw [this]
      simp only [Array.toList_map, h1, hrl]
      simp [newRow]
    · rw [if_neg (by have : 0 < len * es := Nat.mul_pos (by omega) hes; omega)]
      simp only [Sem.run_bind, y1m hi hzz, Result.andThen_ok, Sem.run_pure, Array.toList_map, h1, hrl]
      simp [newRow]
  rw [y8i hrun]
  exact y4y I hx rfl rfl rfl rfl (y6x _) (Nat.le_refl _) (by rw [h2.1]; exact Nat.le_refl _) h2.2
theorem yd3 {n : Int} (h0 : 0 ≤ n) (h1 : n ≤ 2 ^ 62) : IntKind.i64.wrap n = n := by
  unfold IntKind.wrap
  simp [IntKind.signed, IntKind.bits]
  omega
theorem yqa (I : Inv nm w F m h) {fb : Nat} {sl : Option Nat} {ty e es bytes : Nat} {zero : List AV} {l c : Int} {x : AV × Heap} (hu : P.underlying ty = some (.slice e)) (hs : y29 P e es = true) (hes : 0 < es)
    (hz : y7f P e zero = true) (hby : P.bytesOf e = bytes) (hzl : zero.length = es) (hz1 : zero.all yj = true) (h0 : 0 ≤ l) (hlc : l ≤ c) (hcb : c * bytes ≤ 2 ^ 47) (hc62 : c ≤ 2 ^ 62)
    (hx : y2s fb sl es (List.replicate l.toNat zero) h = some x) :
    Does nm w F m h ((do pure (Next.value (← Instr.makeSlice ty (.int .i64 l) (.int .i64 c))) : Sem Next).run P w) x := by
  obtain ⟨i, z, hi, hzz, hz2⟩ := y5k hz
  have hL := y5r (nm := nm) (w := w) (F := F) (m := m) (G := gens h) hz2
  have hbytes : i.bytes = bytes := by rw [← hby]; simp [Program.bytesOf, hi]
  have hR := ydm (n := c.toNat) hes hzl hL hz1
  have hrun : (Instr.makeSlice ty (.int .i64 l) (.int .i64 c)).run P w =
      .ok (.slice (some ⟨w.heap.size, 0, none⟩) l.toNat c.toNat) { w with heap := w.heap.push (.cells ((Array.range (c.toNat * es)).map (z.cells[· % z.cells.size]!)) e) } := by
    have hcb2 : (bytes : Int) * c ≤ 2 ^ 47 := by rw [Int.mul_comm]; exact hcb
    simp only [Instr.makeSlice, Sem.run_bind, y3 hu, Result.andThen_ok, asInt, asIntOf, Sem.run_pure, y6f hi, hbytes, yd3 h0 (by omega), yd3 (by omega : (0 : Int) ≤ c) hc62]
    rw [if_neg (by simp; omega)]
    simp only [Sem.run_bind, run_askRoom, Result.andThen_ok, y17 hs, Sem.run_pure]
    by_cases hn : c.toNat = 0
    · simp only [hn, Nat.zero_mul, if_true, Sem.run_pure, Result.andThen_ok]
      have hr0 : Array.range 0 = #[] := rfl
      simp only [hr0, Array.map_empty, newRow, Sem.run_bind, run_newObj, Result.andThen_ok, Sem.run_pure]
    · rw [if_neg (by have : 0 < c.toNat * es := Nat.mul_pos (by omega) hes; omega)]
      simp only [Sem.run_bind, y1m hi hzz, Result.andThen_ok, Sem.run_pure]
      simp [newRow]
  rw [y8i hrun]
  have hlen : l.toNat = (List.replicate l.toNat zero).length := by simp
  have := y4y (cap := c.toNat) (w' := { w with heap := w.heap.push (.cells ((Array.range (c.toNat * es)).map (z.cells[· % z.cells.size]!)) e) }) I hx rfl rfl rfl rfl (y6x _)
    (by simp; omega) (by rw [hR.1]; simp) (fun k row hk => by
      have hk2 : (List.replicate c.toNat zero)[k]? = some row := by
        rw [List.getElem?_replicate] at hk ⊢
        split at hk
        · rw [if_pos (by omega)]; exact hk
        · cases hk
      exact hR.2 k row hk2)
  rw [List.length_replicate] at this
  exact this
end Go.Vm
/- The value machine: appending and copying, against the model. -/
namespace Go.Vm
variable {P : Program} {nm : Nat → Option Nat} {w : World} {F : Nat → Prop} {m : MapT} {h : Heap}
theorem y6r {b o es n : Nat} {rows : List (List AV)} {G : List Nat} (hn : n ≤ rows.length) 
    (hc : ∀ (i : Nat) (row : List AV), rows[i]? = some row → row.length = es ∧ ∀ (j : Nat) (l : AV), row[j]? = some l → yj l = true ∧ ∃ v, w.cell? ⟨b, o + (i * es + j), none⟩ = some v ∧ Rep nm w F m G v l) :
    ∃ cells : Array Value, (loadCells ⟨b, o, none⟩ (n * es)).run P w = .ok cells w ∧ RRep nm w F m G es cells (rows.take n) := by
  have hx : ∀ k, k < n * es → ∃ v, w.cell? ⟨b, o + k, none⟩ = some v := fun k hk => by
    have hes : 0 < es := Nat.pos_of_ne_zero fun e => by subst e; omega
    have hi : k / es < n := (Nat.div_lt_iff_lt_mul hes).2 hk
    have hrow : rows[k / es]? = some (rows[k / es]'(by omega)) := List.getElem?_eq_getElem _
    obtain ⟨hl, hcell⟩ := hc _ _ hrow
    have hj : k % es < es := Nat.mod_lt _ hes
    obtain ⟨_, v, hv, _⟩ := hcell (k % es) _ (List.getElem?_eq_getElem (by omega))
    refine ⟨v, ?_⟩
    rw [show k = k / es * es + k % es by rw [Nat.mul_comm]; exact (Nat.div_add_mod k es).symm]
    exact hv
  have h1 := run_loadCells (P := P) w ⟨b, o, none⟩ (n * es) (fun j => (w.cell? ⟨b, o + j, none⟩).getD undef) (fun j hj => by
    obtain ⟨v, hv⟩ := hx j hj
    rw [y2m, hv]; rfl)
  refine ⟨_, h1, by simp [Nat.min_eq_left hn], fun i row hi => ?_⟩
  have hil : i < n := by
    have := (List.getElem?_eq_some_iff.1 hi).1
    simp at this
    omega
  have hi2 : rows[i]? = some row := by
    rw [List.getElem?_take] at hi
    simpa [hil] using hi
  obtain ⟨hl, hcell⟩ := hc i row hi2
  refine ⟨hl, fun j l hj => ?_⟩
  have hjl : j < es := by rw [← hl]; exact (List.getElem?_eq_some_iff.1 hj).1
  obtain ⟨a1, v, a2, a3⟩ := hcell j l hj
  refine ⟨a1, v, ?_, a3⟩
  have hlt := ycs (es := es) hil hjl
  simp [hlt, a2]
theorem Rep.ls_at {G : List Nat} {v : Value} {id g es off len : Nat} {loc : Loc} (hr : Rep nm w F m G v (.ls id g es off len)) (hm : m id = some (g, loc)) :
    ∃ a cap, v = .slice (some a) len cap ∧ a.block = loc.blk ∧ a.spot = none ∧ loc.es = es ∧ (0 < cap → a.off = loc.base + off * loc.es) ∧ off + cap ≤ loc.cap ∧ len ≤ cap := by
  cases hr with
  | pure h => cases h
  | ls _ _ _ _ _ cap a loc' hg hl hb hs he ho hc hlen =>
    have := hl loc hm
    subst this
    exact ⟨a, cap, rfl, hb, hs, he, ho, hc, hlen⟩
theorem Rep.rs_inv {G : List Nat} {v : Value} {es : Nat} {rows : List (List AV)} (hr : Rep nm w F m G v (.rs es rows)) :
    ∃ a cap, v = .slice (some a) rows.length cap ∧ rows.length ≤ cap ∧ (rows ≠ [] → a.spot = none) ∧ ∀ (i : Nat) (row : List AV), rows[i]? = some row → row.length = es ∧ ∀ (j : Nat) (l : AV), row[j]? = some l →
      yj l = true ∧ ∃ x, F a.block ∧ w.cell? ⟨a.block, a.off + (i * es + j), none⟩ = some x ∧ PRep nm w F x l := by
  cases hr with
  | pure h => cases h with
    | rs a cap _ _ f hs hcap hes hc hr =>
      exact ⟨a, cap, rfl, hcap, hs, fun i row hi => ⟨hes i row hi, fun j l hl => ⟨(hc i row j l hi hl).2.1, f i j, (hc i row j l hi hl).1, (hc i row j l hi hl).2.2, hr i row j l hi hl⟩⟩⟩
theorem y4z (I : Inv nm w F m h) {v : Value} {y : AV} {es : Nat} {ys : List (List AV)} (hv : Rep nm w F m (gens h) v y) (hr : y15 h es y = some ys) :
    (Builtin.lenOf v).run P w = .ok ys.length w ∧ ∀ n, n ≤ ys.length → ∃ cells : Array Value, (Builtin.firstCells es n v).run P w = .ok cells w ∧ RRep nm w F m (gens h) es cells (ys.take n) := by
  unfold y15 at hr
  split at hr
  · injection hr with hr
    subst hr
    rw [hv.nils_inv]
    refine ⟨by simp [Builtin.lenOf], fun n hn => ⟨#[], by simp [Builtin.firstCells], ?_⟩⟩
    simp at hn
    subst hn
    exact ⟨by simp, fun i row hi => by simp at hi⟩
  · rename_i es' rows
    split at hr
    · rename_i he
      injection hr with hr
      subst hr
      subst he
      obtain ⟨ad, cap, rfl, hcap, hsp, hc⟩ := hv.rs_inv
      refine ⟨by simp [Builtin.lenOf], fun n hn => ?_⟩
      by_cases hn0 : n = 0
      · subst hn0
        refine ⟨#[], ?_, by simp, fun i row hi => by simp at hi⟩
        simp [Builtin.firstCells, loadCells, loadCellsFrom]
      rw [y3r (hsp (by rintro rfl; simp at hn; omega))]
      obtain ⟨cells, h1, h2⟩ := y6r (P := P) (b := ad.block) (o := ad.off) (m := m) (G := gens h) hn (fun i row hi => ⟨(hc i row hi).1, fun j l hl => by
        obtain ⟨a1, x, _, a3, a4⟩ := (hc i row hi).2 j l hl
        exact ⟨a1, x, a3, .pure a4⟩⟩)
      exact ⟨cells, by simpa [Builtin.firstCells] using h1, h2⟩
    · cases hr
  · rename_i id g esL off len
    split at hr
    · rename_i fz es' rows hrows
      split at hr
      · rename_i hc
        obtain ⟨hc1, hc2, hc3⟩ := hc
        injection hr with hr
        subst hr
        subst hc1; subst hc2
        obtain ⟨loc, hm, he, hcap, cs, ty, fr, hb, hfr, hsz, hcell⟩ := I.rows hrows
        obtain ⟨a, cap, rfl, hab, has, _, hao, hac, hlc⟩ := hv.ls_at hm
        have hlen : ((rows.drop off).take len).length = len := by simp; omega
        refine ⟨by simp [Builtin.lenOf, hlen], fun n hn => ?_⟩
        rw [hlen] at hn
        have hae : a = ⟨loc.blk, a.off, none⟩ := by rw [← hab]; exact y3r has
        have htake : ((rows.drop off).take len).take n = (rows.drop off).take n := by rw [List.take_take, Nat.min_eq_left hn]
        rw [htake]
        by_cases hn0 : n = 0
        · subst hn0
          refine ⟨#[], ?_, by simp, fun i row hi => by simp at hi⟩
          simp [Builtin.firstCells, loadCells, loadCellsFrom]
        · have hoff : a.off = loc.base + off * es' := by rw [← he]; exact hao (by omega)
          obtain ⟨cells, h1, h2⟩ := y6r (P := P) (b := loc.blk) (o := a.off) (es := es') (n := n) (rows := rows.drop off) (G := gens h) (nm := nm) (F := F) (m := m) (w := w) (by simp; omega) (fun i row hi => by
            rw [List.getElem?_drop] at hi
            obtain ⟨b1, b2⟩ := hcell (off + i) row hi
            refine ⟨b1, fun j l hl => ?_⟩
            obtain ⟨c1, x, _, c2, c3⟩ := b2 j l hl
            refine ⟨c1, x, ?_, c3⟩
            rw [hoff, show loc.base + off * es' + (i * es' + j) = loc.base + ((off + i) * es' + j) by rw [Nat.add_mul]; omega]
            exact c2)
          refine ⟨cells, ?_, h2⟩
          rw [hae]
          simpa [Builtin.firstCells] using h1
      · cases hr
    · cases hr
  · rename_i s
    split at hr
    · rename_i he
      injection hr with hr
      subst hr
      subst he
      obtain ⟨b, rfl, hbs⟩ := hv.str_inv
      subst hbs
      have hsz : b.size = b.data.toList.length := by simp
      refine ⟨by simp [Builtin.lenOf], fun n hn => ⟨(b.extract 0 n).data.map fun b => .int .u8 b.toNat, by simp [Builtin.firstCells], ?_⟩⟩
      simp only [List.length_map] at hn
      have hd : (b.extract 0 n).data.toList = b.data.toList.take n := by simp [ByteArray.data_extract]
      have hd2 : ∀ k, ((b.extract 0 n).data)[k]? = (b.data.toList.take n)[k]? := fun k => by rw [← hd, Array.getElem?_toList]
      refine ⟨?_, fun i row hi => ?_⟩
      · have := congrArg List.length hd
        simp only [Array.length_toList] at this
        simp only [Array.size_map, this]
        simp
      · rw [List.getElem?_take] at hi
        split at hi
        · rename_i hin
          rw [List.getElem?_map] at hi
          cases hbi : b.data.toList[i]? with
          | none => rw [hbi] at hi; cases hi
          | some c =>
            rw [hbi] at hi
            injection hi with hi
            subst hi
            refine ⟨rfl, fun j l hj => ?_⟩
            cases j with
            | succ j => simp at hj
            | zero =>
              simp at hj
              subst hj
              refine ⟨rfl, .int .u8 c.toNat, ?_, .pure (.int _ _)⟩
              rw [Array.getElem?_map, Nat.mul_one, Nat.add_zero, hd2, List.getElem?_take, if_pos hin, hbi]
              rfl
        · cases hi
    · cases hr
  · cases hr
theorem yfx (n : Nat) : ∀ (r c : Nat), c ≤ 2 * n + 512 → Builtin.growBy n r c ≤ 2 * n + 512
  | 0, c, h => h
  | r + 1, c, h => by
    unfold Builtin.growBy
    split
    · exact h
    · exact yfx n r _ (by omega)
theorem ybm {n c : Nat} (hc : c < n) : Builtin.nextslicecap n c ≤ 2 * n + 512 := by
  unfold Builtin.nextslicecap
  split
  · omega
  · split
    · omega
    · exact yfx n 4 c (by omega)
theorem ydc (n : Nat) : ∀ (r c : Nat), c ≤ n + n / 4 + 512 → Builtin.growBy n r c ≤ n + n / 4 + 512
  | 0, c, h => h
  | r + 1, c, h => by
    unfold Builtin.growBy
    split
    · exact h
    · exact ydc n r _ (by omega)
theorem ya9 {n c : Nat} (hc : c < n) : Builtin.nextslicecap n c ≤ n + n / 4 + 512 := by
  unfold Builtin.nextslicecap
  split
  · omega
  · split
    · omega
    · exact ydc n 4 c (by omega)
theorem RRep.append {G : List Nat} {es : Nat} {a b : Array Value} {xs ys : List (List AV)} (h1 : RRep nm w F m G es a xs) (h2 : RRep nm w F m G es b ys) : RRep nm w F m G es (a ++ b) (xs ++ ys) := by
  refine ⟨by rw [Array.size_append, h1.1, h2.1, List.length_append, Nat.add_mul], fun i row hi => ?_⟩
  rw [List.getElem?_append] at hi
  split at hi
  · rename_i hlt
    refine ⟨(h1.2 i row hi).1, fun j l hj => ?_⟩
    obtain ⟨c1, v, c2, c3⟩ := (h1.2 i row hi).2 j l hj
    refine ⟨c1, v, ?_, c3⟩
    have hjl : j < es := by rw [← (h1.2 i row hi).1]; exact (List.getElem?_eq_some_iff.1 hj).1
    rw [Array.getElem?_append, if_pos (by rw [h1.1]; exact ycs hlt hjl)]
    exact c2
  · rename_i hge
    refine ⟨(h2.2 _ row hi).1, fun j l hj => ?_⟩
    obtain ⟨c1, v, c2, c3⟩ := (h2.2 _ row hi).2 j l hj
    refine ⟨c1, v, ?_, c3⟩
    have hmul : (i - xs.length) * es + xs.length * es = i * es := by rw [← Nat.add_mul]; congr 1; omega
    rw [Array.getElem?_append, if_neg (by rw [h1.1]; omega), h1.1]
    rw [show i * es + j - xs.length * es = (i - xs.length) * es + j by omega]
    exact c2
theorem RRep.grow {G : List Nat} {es : Nat} {a : Array Value} {xs : List (List AV)} (h1 : RRep nm w F m G es a xs) (r : Array Value) :
    ∀ (i : Nat) (row : List AV), xs[i]? = some row → row.length = es ∧ ∀ (j : Nat) (l : AV), row[j]? = some l → yj l = true ∧ ∃ v, (a ++ r)[i * es + j]? = some v ∧ Rep nm w F m G v l := by
  intro i row hi
  refine ⟨(h1.2 i row hi).1, fun j l hj => ?_⟩
  obtain ⟨c1, v, c2, c3⟩ := (h1.2 i row hi).2 j l hj
  refine ⟨c1, v, ?_, c3⟩
  rw [Array.getElem?_append, if_pos (Array.getElem?_eq_some_iff.1 c2).1]
  exact c2
theorem yui (need old : Nat) (e : TypeId) (t : Nat) : need ≤ (Question.appendCap need old e).cut t := by
  simp only [Question.cut]; omega
structure AppT (P : Program) (t u e es bytes : Nat) : Prop where
  hu : P.underlying t = some (.slice e)
  hs : y29 P e es = true
  hes : 0 < es
  hb : P.bytesOf e = bytes
  hb0 : 0 < bytes
  hz : ∃ i z, P.info? e = some i ∧ i.zero = some z ∧ z.cells.size = es
  hy : ∃ d, P.underlying u = some d ∧ ∀ k, d ≠ .int k
theorem y7g {t u e es bytes : Nat} (H : AppT P t u e es bytes) {y : Value} {n : Nat} (ty : TypeId) {base : Option Addr} {len cap : Nat} {new : Array Value} {w' : World}
    (hn : (Builtin.lenOf y).run P w = .ok n w) (hle : len + n ≤ cap) (hnew : (Builtin.firstCells es n y).run P w = .ok new w)
    (hst : ((match base with | some a => storeCells (a.add (len * es)) new.toList | none => pure ()) : Sem Unit).run P w = .ok () w') :
    (Builtin.append_ #[t, u] ty #[.slice base len cap, y]).run P w = .ok (.slice base (len + n) cap) w' := by
  obtain ⟨i, z, hi, hz, hzs⟩ := H.hz
  obtain ⟨d, hd, hdi⟩ := H.hy
  unfold Builtin.append_
  simp only [List.getElem?_toArray, List.getElem?_cons_zero, List.getElem?_cons_succ, Sem.run_bind, y3 H.hu, Result.andThen_ok, y17 H.hs]
  simp [y3 hd, hn]
  rw [if_pos hle, hnew]
  simp only [Result.andThen_ok]
  cases base with
  | none =>
    simp only [Sem.run_pure] at hst ⊢
    injection hst with _ hst
    rw [hst]
  | some a => simp [hst]
theorem y6s {t u e es bytes : Nat} (H : AppT P t u e es bytes) {y : Value} {n : Nat} (ty : TypeId) {base : Option Addr} {len cap : Nat} {old new : Array Value} {z : Value}
    (hn : (Builtin.lenOf y).run P w = .ok n w) (hgt : cap < len + n) (hbound : Builtin.nextslicecap (len + n) cap * bytes ≤ 2 ^ 48)
    (hold : (Builtin.firstCells es len (.slice base len cap)).run P w.drew = .ok old w.drew) (hnew : (Builtin.firstCells es n y).run P w.drew = .ok new w.drew) :
    ∃ (ncap : Nat) (rest : Array Value) (w' : World), len + n ≤ ncap ∧ rest.size = (ncap - (len + n)) * es ∧ w'.heap = w.heap.push (.cells (old ++ new ++ rest) e) ∧ w'.os = w.os ∧ w'.tape = w.tape ∧ w'.output = w.output ∧
      (Builtin.append_ #[t, u] ty #[.slice base len cap, y]).run P w = .ok (.slice (some ⟨w.heap.size, 0, none⟩) (len + n) ncap) w' := by
  obtain ⟨i, z, hi, hz, hzs⟩ := H.hz
  obtain ⟨d, hd, hdi⟩ := H.hy
  have hby : i.bytes = bytes := by rw [← H.hb]; simp [Program.bytesOf, hi]
  have hb0 : ¬ bytes = 0 := by have := H.hb0; omega
  refine ⟨(Question.appendCap (len + n) cap e).cut (w.tape w.drawn (.appendCap (len + n) cap e)),
    Builtin.zeroCells z.cells ((Question.appendCap (len + n) cap e).cut (w.tape w.drawn (.appendCap (len + n) cap e)) - (len + n)),
    { w.drew with heap := w.heap.push (.cells (old ++ new ++ Builtin.zeroCells z.cells ((Question.appendCap (len + n) cap e).cut (w.tape w.drawn (.appendCap (len + n) cap e)) - (len + n))) e) },
    yui _ _ _ _, by simp [Builtin.zeroCells, hzs], rfl, rfl, rfl, rfl, ?_⟩
  unfold Builtin.append_
  simp only [List.getElem?_toArray, List.getElem?_cons_zero, List.getElem?_cons_succ, Sem.run_bind, y3 H.hu, Result.andThen_ok, y17 H.hs]
  simp [y3 hd, hn, y6f hi, hby, Question.forced, hb0]
  rw [if_neg (by omega), if_neg (by omega), hold]
  simp only [Result.andThen_ok, hnew, y1m hi hz, newRow, Sem.run_bind, run_newObj, Sem.run_pure, Array.append_assoc]
  rfl
theorem yip (I : Inv nm w F m h) {t u e es bytes : Nat} (H : AppT P t u e es bytes) {fb : Nat} {sl : Option Nat} {ty : TypeId} {v y : Value} {va ya : AV} {x : AV × Heap}
    (hv : Rep nm w F m (gens h) v va) (hy : Rep nm w F m (gens h) y ya) (hx : y2d fb sl es bytes va ya h = some x) :
    Does nm w F m h ((do pure (Next.value (← Builtin.append_ #[t, u] ty #[v, y])) : Sem Next).run P w) x := by
  unfold y2d at hx
  split at hx
  · cases hx
  · rename_i ys hys
    obtain ⟨hlen, hfirst⟩ := y4z (P := P) I hy hys
    obtain ⟨new, hnew, hnr⟩ := hfirst ys.length (Nat.le_refl _)
    rw [List.take_length] at hnr
    have Id : Inv nm w.drew F m h := I.heap rfl
    have hrd : ∀ {v a}, Rep nm w F m (gens h) v a → Rep nm w.drew F m (gens h) v a := fun hr => hr.mono (fun _ _ => rfl) (fun _ h => h) (fun _ g h => ⟨g, h, Nat.le_refl _⟩) (fun _ _ _ _ h _ _ => h)
    obtain ⟨hlend, hfirstd⟩ := y4z (P := P) Id (hrd hy) hys
    obtain ⟨newd, hnewd, hnrd⟩ := hfirstd ys.length (Nat.le_refl _)
    rw [List.take_length] at hnrd
    have hback : ∀ {v a}, Rep nm w.drew F m (gens h) v a → Rep nm w F m (gens h) v a := fun hr => hr.mono (fun _ _ => rfl) (fun _ h => h) (fun _ g h => ⟨g, h, Nat.le_refl _⟩) (fun _ _ _ _ h _ _ => h)
    have hnrb : RRep nm w F m (gens h) es newd ys := ⟨hnrd.1, fun i row hi => ⟨(hnrd.2 i row hi).1, fun j l hj => by
      obtain ⟨a1, x, a2, a3⟩ := (hnrd.2 i row hi).2 j l hj
      exact ⟨a1, x, a2, hback a3⟩⟩⟩
    split at hx
    · rw [hv.nils_inv]
      split at hx
      · rename_i hemp
        injection hx with hx
        subst hx
        have hn0 : ys.length = 0 := by simpa using hemp
        rw [hn0] at hlen hnew
        have hrun := y7g H ty (base := none) (len := 0) (cap := 0) hlen (Nat.le_refl _) hnew rfl
        rw [y8i hrun]
        exact Does.same I rfl (.pure .nils)
      · rename_i hne
        split at hx
        · rename_i hbound
          have hn0 : 0 < ys.length := by
            cases ys with
            | nil => simp at hne
            | cons => simp
          have hnc : Builtin.nextslicecap (0 + ys.length) 0 = ys.length := by
            unfold Builtin.nextslicecap; rw [if_pos (by omega)]; omega
          obtain ⟨ncap, rest, w', h1, h2, h3, h4, h5, h6, hrun⟩ := y6s H ty (base := none) (len := 0) (cap := 0) (old := #[]) (z := undef) hlen (by omega) (by rw [hnc]; exact hbound)
            (by simp [Builtin.firstCells]) hnewd
          rw [y8i hrun]
          rw [Nat.zero_add] at h1 h2 hrun ⊢
          exact y4y I hx h3 h4 h5 h6 (y6x _) h1 (by
            simp only [Array.size_append, h2, hnrb.1]
            have : ncap * es = ys.length * es + (ncap - ys.length) * es := by rw [← Nat.add_mul]; congr 1; omega
            simp; omega) (by simpa using hnrb.grow rest)
        · cases hx
    · rename_i id g esL off len
      split at hx
      · rename_i g' es' rows ho
        split at hx
        · rename_i hc
          obtain ⟨hc1, hc2, hc3, hc4, hc5⟩ := hc
          injection hx with hx
          subst hx
          subst hc1; subst hc2; subst hc3
          have hidl : id < h.length := (List.getElem?_eq_some_iff.1 ho).1
          have hrows : ye h id g' = some (false, es', rows) := by simp [ye, y1p, ho]
          obtain ⟨loc, hm, he, hcap, cs, tyb, fr, hb, hfr, hsz, hcell⟩ := I.rows hrows
          obtain ⟨a, cap, rfl, hab, has, _, hao, hac, hlc⟩ := hv.ls_at hm
          have hae : a = ⟨loc.blk, a.off, none⟩ := by rw [← hab]; exact y3r has
          have hlt : loc.blk < w.heap.size := (Array.getElem?_eq_some_iff.1 hb).1
          have hcellr : ∀ (i : Nat) (row : List AV), ((rows.drop off).take len)[i]? = some row → i < len ∧ row.length = es' ∧ ∀ (j : Nat) (l : AV), row[j]? = some l →
              yj l = true ∧ ∃ v, cs[loc.base + off * es' + (i * es' + j)]? = some v ∧ Rep nm w F m (gens h) v l := by
            intro i row hi
            rw [List.getElem?_take] at hi
            split at hi
            · rename_i hil
              rw [List.getElem?_drop] at hi
              obtain ⟨b1, b2⟩ := hcell (off + i) row hi
              refine ⟨hil, b1, fun j l hl => ?_⟩
              obtain ⟨c1, x, c2, _, c3⟩ := b2 j l hl
              refine ⟨c1, x, ?_, c3⟩
              rw [show loc.base + off * es' + (i * es' + j) = loc.base + ((off + i) * es' + j) by rw [Nat.add_mul]; omega]
              exact c2
            · cases hi
          have hseg : loc.base + off * es' + cap * es' ≤ cs.size := by
            have : (off + cap) * es' ≤ loc.cap * es' := Nat.mul_le_mul_right _ hac
            rw [Nat.add_mul] at this
            omega
          by_cases hfit : len + ys.length ≤ cap
          · -- in place
            have hstore : ∃ w', ((match some a with | some a => storeCells (a.add (len * es')) new.toList | none => pure ()) : Sem Unit).run P w = .ok () w' ∧
                w'.os = w.os ∧ w'.tape = w.tape ∧ w'.output = w.output ∧ w.heap.size ≤ w'.heap.size ∧ (∀ b, b ≠ loc.blk → b < w.heap.size → w'.heap[b]? = w.heap[b]?) ∧
                ∃ cs' : Array Value, w'.heap[loc.blk]? = some (.cells cs' tyb fr) ∧ cs'.size = cs.size ∧
                  ∀ k, cs'[k]? = if k < loc.base + off * es' + len * es' then cs[k]? else if k < loc.base + off * es' + len * es' + ys.length * es' then new[k - (loc.base + off * es' + len * es')]? else cs[k]? := by
              by_cases hc0 : cap = 0
              · have hy0 : ys.length = 0 := by omega
                have hnew0 : new = #[] := by
                  apply Array.eq_empty_of_size_eq_zero
                  rw [hnr.1, hy0, Nat.zero_mul]
                refine ⟨w, by simp [hnew0, storeCells], rfl, rfl, rfl, Nat.le_refl _, fun _ _ _ => rfl, cs, hb, rfl, fun k => ?_⟩
                rw [hy0, Nat.zero_mul, Nat.add_zero]
                by_cases hk : k < loc.base + off * es' + len * es' <;> simp [hk]
              · have hoff : a.off = loc.base + off * es' := by rw [← he]; exact hao (by omega)
                have hl2 : loc.base + off * es' + len * es' + 0 + new.toList.length ≤ cs.size := by
                  have : (len + ys.length) * es' ≤ cap * es' := Nat.mul_le_mul_right _ hfit
                  rw [Nat.add_mul] at this
                  rw [Array.length_toList, hnr.1]
                  omega
                have hone : ∀ z ∈ new.toList, z.oneCell' = true := by
                  intro z hz
                  obtain ⟨k, hk⟩ := List.getElem?_of_mem hz
                  have hkl : k < ys.length * es' := by rw [← hnr.1]; have := (List.getElem?_eq_some_iff.1 hk).1; simpa using this
                  have hi : k / es' < ys.length := (Nat.div_lt_iff_lt_mul H.hes).2 hkl
                  obtain ⟨b1, b2⟩ := hnr.2 (k / es') _ (List.getElem?_eq_getElem hi)
                  have hj : k % es' < es' := Nat.mod_lt _ H.hes
                  obtain ⟨c1, x, c2, c3⟩ := b2 (k % es') _ (List.getElem?_eq_getElem (by omega))
                  rw [show k / es' * es' + k % es' = k by rw [Nat.mul_comm]; exact Nat.div_add_mod k es'] at c2
                  have : z = x := by
                    rw [Array.getElem?_toList, c2] at hk
                    injection hk with hk
                    exact hk.symm
                  rw [this]
                  exact (c3.leaf c1).1
                have hrun := y1l (P := P) new.toList (loc.base + off * es' + len * es') 0 cs w hb hfr hl2 hone
                refine ⟨y20 w loc.blk (.cells (y28 cs (loc.base + off * es' + len * es' + 0) new.toList) tyb fr), by rw [hae]; simp only [y2m, hoff]; exact hrun, rfl, rfl, rfl, by simp [y20], fun b hne _ => by rw [y3p, if_neg (fun e => hne e.1.symm)], y28 cs (loc.base + off * es' + len * es' + 0) new.toList, by rw [y3p, if_pos ⟨rfl, hlt⟩],
                  y6v (by omega), fun k => ?_⟩
                rw [y32 (by omega)]
                simp only [Nat.add_zero, Array.length_toList, hnr.1, Array.getElem?_toList]
            obtain ⟨w', hst, g1, g2, g3, g4, g5, cs', g6, g7, g8⟩ := hstore
            have hrun := y7g H ty (base := some a) hlen hfit hnew hst
            rw [y8i hrun]
            obtain ⟨m', hm', hI, hT⟩ := y76 (w' := w') (h' := h.set id ⟨g' + 1, .arr false false es' ((rows.drop off).take len ++ ys)⟩) (g' := g' + 1) (o := .arr false false es' ((rows.drop off).take len ++ ys))
              (loc := ⟨loc.blk, loc.base + off * es', es', cap⟩) (id := id) I g1 g2 g3 g4 g5 (.inr ⟨g', loc, _, hm, ho, rfl, rfl⟩) (fun j hj => by rw [List.getElem?_set_ne (fun e => hj e.symm)]) (by simp [hidl]) rfl
              (.inl fun g0 hg0 => by rw [yl, ho] at hg0; injection hg0 with hg0; simp only at hg0; omega)
              (fun m' _ hrep => ⟨rfl, cs', tyb, fr, g6, by rw [g7]; exact hfr, by rw [g7]; exact hseg, by simp; omega, fun i row hi => by
                rw [List.getElem?_append] at hi
                have hrl : ((rows.drop off).take len).length = len := by simp; omega
                rw [hrl] at hi
                split at hi
                · rename_i hil
                  obtain ⟨_, b1, b2⟩ := hcellr i row hi
                  refine ⟨b1, fun j l hj => ?_⟩
                  obtain ⟨c1, x, c2, c3⟩ := b2 j l hj
                  have hjl : j < es' := by rw [← b1]; exact (List.getElem?_eq_some_iff.1 hj).1
                  refine ⟨c1, x, ?_, hrep _ _ c3⟩
                  rw [g8, if_pos (by have := ycs (es := es') hil hjl; simp only; omega)]
                  exact c2
                · rename_i hil
                  obtain ⟨b1, b2⟩ := hnr.2 _ row hi
                  have hi2 : i - len < ys.length := (List.getElem?_eq_some_iff.1 hi).1
                  refine ⟨b1, fun j l hj => ?_⟩
                  obtain ⟨c1, x, c2, c3⟩ := b2 j l hj
                  have hjl : j < es' := by rw [← b1]; exact (List.getElem?_eq_some_iff.1 hj).1
                  refine ⟨c1, x, ?_, hrep _ _ c3⟩
                  have hmul : i * es' = len * es' + (i - len) * es' := by rw [← Nat.add_mul]; congr 1; omega
                  have := ycs (es := es') hi2 hjl
                  simp only
                  rw [g8, if_neg (by omega), if_pos (by omega), show loc.base + off * es' + (i * es' + j) - (loc.base + off * es' + len * es') = (i - len) * es' + j by omega]
                  exact c2⟩)
            refine ⟨_, w', F, m', .inl rfl, hI, hT, ?_⟩
            refine .ls id (g' + 1) es' 0 (len + ys.length) cap a ⟨loc.blk, loc.base + off * es', es', cap⟩ ⟨g' + 1, by rw [yl]; simp [hidl], Nat.le_refl _⟩ (fun loc' hl => ?_) hab has rfl (fun hc0 => ?_) (by simp) hfit
            · rw [hm'] at hl
              simp at hl
              exact hl.symm
            · simp only [Nat.zero_mul, Nat.add_zero]
              rw [hao hc0, he]
          · -- a new array
            have hold : ∃ old : Array Value, (Builtin.firstCells es' len (.slice (some a) len cap)).run P w.drew = .ok old w.drew ∧ RRep nm w F m (gens h) es' old ((rows.drop off).take len) := by
              by_cases hl0 : len = 0
              · subst hl0
                exact ⟨#[], by simp [Builtin.firstCells, loadCells, loadCellsFrom], by simp, fun i row hi => by simp at hi⟩
              · have hoff : a.off = loc.base + off * es' := by rw [← he]; exact hao (by omega)
                obtain ⟨cells, h1, h2⟩ := y6r (P := P) (b := loc.blk) (o := a.off) (es := es') (n := len) (rows := (rows.drop off).take len) (G := gens h) (nm := nm) (F := F) (m := m) (w := w.drew) (by simp; omega) (fun i row hi => by
                  obtain ⟨hil, b1, b2⟩ := hcellr i row hi
                  refine ⟨b1, fun j l hl => ?_⟩
                  obtain ⟨c1, x, c2, c3⟩ := b2 j l hl
                  refine ⟨c1, x, ?_, hrd c3⟩
                  rw [hoff]
                  have : w.drew.heap = w.heap := rfl
                  simp [World.cell?, this, hb, c2])
                rw [List.take_of_length_le (by simp; omega)] at h2
                refine ⟨cells, by rw [hae]; simpa [Builtin.firstCells] using h1, h2.1, fun i row hi => ⟨(h2.2 i row hi).1, fun j l hj => by
                  obtain ⟨a1, x, a2, a3⟩ := (h2.2 i row hi).2 j l hj
                  exact ⟨a1, x, a2, hback a3⟩⟩⟩
            obtain ⟨old, ho1, ho2⟩ := hold
            have hbound : Builtin.nextslicecap (len + ys.length) cap * bytes ≤ 2 ^ 48 := hc5.elim (Nat.le_trans (Nat.mul_le_mul_right _ (ybm (by omega)))) (Nat.le_trans (Nat.mul_le_mul_right _ (ya9 (by omega))))
            obtain ⟨ncap, rest, w', h1, h2, h3, h4, h5, h6, hrun⟩ := y6s H ty (z := undef) hlen (by omega) hbound ho1 hnewd
            rw [y8i hrun]
            have hboth := ho2.append hnrb
            have hrl : ((rows.drop off).take len ++ ys).length = len + ys.length := by simp; omega
            obtain ⟨m', hm', hI, hT⟩ := y76 (w' := w') (h' := h.set id ⟨g' + 1, .arr false false es' ((rows.drop off).take len ++ ys)⟩) (g' := g' + 1) (o := .arr false false es' ((rows.drop off).take len ++ ys))
              (loc := ⟨w.heap.size, 0, es', ncap⟩) (id := id) I h4 h5 h6 (by rw [h3]; simp) (fun b hne hlt => by rw [h3, Array.getElem?_push, if_neg (by omega)]) (.inl (Nat.le_refl _))
              (fun j hj => by rw [List.getElem?_set_ne (fun e => hj e.symm)]) (by simp [hidl]) rfl
              (.inl fun g0 hg0 => by rw [yl, ho] at hg0; injection hg0 with hg0; simp only at hg0; omega)
              (fun m' _ hrep => ⟨rfl, old ++ newd ++ rest, e, (0, 0), by rw [h3]; simp, y6x _, by
                have : ncap * es' = (len + ys.length) * es' + (ncap - (len + ys.length)) * es' := by rw [← Nat.add_mul]; congr 1; omega
                have hb1 := hboth.1
                rw [hrl] at hb1
                rw [Array.size_append, hb1, h2]
                simp only
                omega, by rw [hrl]; exact h1, fun i row hi => by
                  obtain ⟨b1, b2⟩ := hboth.grow rest i row hi
                  refine ⟨b1, fun j l hj => ?_⟩
                  obtain ⟨c1, x, c2, c3⟩ := b2 j l hj
                  exact ⟨c1, x, by simpa using c2, hrep _ _ c3⟩⟩)
            refine ⟨_, w', F, m', .inl rfl, hI, hT, ?_⟩
            refine .ls id (g' + 1) es' 0 (len + ys.length) ncap ⟨w.heap.size, 0, none⟩ ⟨w.heap.size, 0, es', ncap⟩ ⟨g' + 1, by rw [yl]; simp [hidl], Nat.le_refl _⟩ (fun loc' hl => ?_) rfl rfl rfl (fun _ => by simp) (by simp) h1
            rw [hm'] at hl
            simp at hl
            exact hl.symm
        · cases hx
      · cases hx
    · cases hx
end Go.Vm
/- The value machine: copying; numbers, texts, comparisons, parts of values, maps, against the model. -/
namespace Go.Vm
variable {P : Program} {nm : Nat → Option Nat} {w : World} {F : Nat → Prop} {m : MapT} {h : Heap}
theorem RRep.one {G : List Nat} {es : Nat} {cells : Array Value} {ys : List (List AV)} (hes : 0 < es) (hr : RRep nm w F m G es cells ys) : ∀ z ∈ cells.toList, z.oneCell' = true := by
  intro z hz
  obtain ⟨k, hk⟩ := List.getElem?_of_mem hz
  have hkl : k < ys.length * es := by rw [← hr.1]; have := (List.getElem?_eq_some_iff.1 hk).1; simpa using this
  have hi : k / es < ys.length := (Nat.div_lt_iff_lt_mul hes).2 hkl
  obtain ⟨b1, b2⟩ := hr.2 (k / es) _ (List.getElem?_eq_getElem hi)
  have hj : k % es < es := Nat.mod_lt _ hes
  obtain ⟨c1, x, c2, c3⟩ := b2 (k % es) _ (List.getElem?_eq_getElem (by omega))
  rw [show k / es * es + k % es = k by rw [Nat.mul_comm]; exact Nat.div_add_mod k es] at c2
  have : z = x := by
    rw [Array.getElem?_toList, c2] at hk
    injection hk with hk
    exact hk.symm
  rw [this]
  exact (c3.leaf c1).1
theorem yhv (I : Inv nm w F m h) {t u e es : Nat} (hu : P.underlying t = some (.slice e)) (hs : y29 P e es = true) (hes : 0 < es) {ty : TypeId} {ts : Array TypeId} (hts : ts[0]? = some t) {v y : Value} {va ya : AV} {x : AV × Heap}
    (hv : Rep nm w F m (gens h) v va) (hy : Rep nm w F m (gens h) y ya) (hx : yiz es va ya h = some x) :
    Does nm w F m h ((do pure (Next.value (← Builtin.copy_ ts ty #[v, y])) : Sem Next).run P w) x := by
  unfold yiz at hx
  split at hx
  · cases hx
  · rename_i ys hys
    obtain ⟨hlen, hfirst⟩ := y4z (P := P) I hy hys
    split at hx
    · rw [hv.nils_inv]
      injection hx with hx
      subst hx
      obtain ⟨new, hnew, hnr⟩ := hfirst 0 (Nat.zero_le _)
      have hrun : (Builtin.copy_ ts ty #[.slice none 0 0, y]).run P w = .ok (.int .i64 0) w := by
        unfold Builtin.copy_
        simp only [hts, List.getElem?_toArray, List.getElem?_cons_zero, List.getElem?_cons_succ, Sem.run_bind, y3 hu, Result.andThen_ok, hlen, y17 hs]
        have : Nat.min ys.length 0 = 0 := Nat.min_zero _
        rw [this, hnew]
        simp [goInt]
      rw [y8i hrun]
      exact Does.same I rfl (.pure (.int _ _))
    · rename_i id g esL off len
      split at hx
      · rename_i fz es' rows hrows
        split at hx
        · rename_i hc
          obtain ⟨hc1, hc2, hc3, hc4⟩ := hc
          injection hx with hx
          subst hx
          subst hc1; subst hc2; subst hc3
          obtain ⟨loc, hm, he, hcap, cs, tyb, fr, hb, hfr, hsz, hcell⟩ := I.rows hrows
          obtain ⟨bx, ho⟩ := y4o hrows
          obtain ⟨a, cap, rfl, hab, has, _, hao, hac, hlc⟩ := hv.ls_at hm
          have hae : a = ⟨loc.blk, a.off, none⟩ := by rw [← hab]; exact y3r has
          have hlt : loc.blk < w.heap.size := (Array.getElem?_eq_some_iff.1 hb).1
          generalize hn : min ys.length len = n
          have hny : n ≤ ys.length := by omega
          have hnl : n ≤ len := by omega
          obtain ⟨new, hnew, hnr⟩ := hfirst n hny
          have hnrl : (ys.take n).length = n := by simp; omega
          by_cases hn0 : n = 0
          · -- nothing is copied
            have hnew0 : new = #[] := by
              apply Array.eq_empty_of_size_eq_zero
              rw [hnr.1, hnrl, hn0, Nat.zero_mul]
            have hrun : (Builtin.copy_ ts ty #[.slice (some a) len cap, y]).run P w = .ok (.int .i64 (n : Nat)) w := by
              unfold Builtin.copy_
              simp only [hts, List.getElem?_toArray, List.getElem?_cons_zero, List.getElem?_cons_succ, Sem.run_bind, y3 hu, Result.andThen_ok, hlen, y17 hs]
              have : Nat.min ys.length len = n := hn
              rw [this, hnew]
              simp [goInt, hnew0, storeCells]
            rw [y8i hrun]
            have hsame : y1e h id (rows.take off ++ ys.take n ++ rows.drop (off + n)) = h := by
              rw [hn0]
              simp only [List.take_zero, List.append_nil, Nat.add_zero, List.take_append_drop]
              unfold y1e
              rw [ho]
              simp only
              apply List.ext_getElem?
              intro k
              rw [List.getElem?_set]
              split
              · rename_i e; subst e
                rw [ho]
                have := (List.getElem?_eq_some_iff.1 ho).1
                simp [this]
              · rfl
            rw [hsame]
            exact Does.same I rfl (.pure (.int _ _))
          · have hoff : a.off = loc.base + off * es' := by rw [← he]; exact hao (by omega)
            have hseg : loc.base + off * es' + n * es' ≤ cs.size := by
              have : (off + n) * es' ≤ loc.cap * es' := Nat.mul_le_mul_right _ (by omega)
              rw [Nat.add_mul] at this
              omega
            have hnsz : new.toList.length = n * es' := by rw [Array.length_toList, hnr.1, hnrl]
            have hrunS := y1l (P := P) new.toList (loc.base + off * es') 0 cs w hb hfr (by omega) (hnr.one hes)
            have hrun : (Builtin.copy_ ts ty #[.slice (some a) len cap, y]).run P w = .ok (.int .i64 (n : Nat)) (y20 w loc.blk (.cells (y28 cs (loc.base + off * es') new.toList) tyb fr)) := by
              unfold Builtin.copy_
              simp only [hts, List.getElem?_toArray, List.getElem?_cons_zero, List.getElem?_cons_succ, Sem.run_bind, y3 hu, Result.andThen_ok, hlen, y17 hs]
              have : Nat.min ys.length len = n := hn
              rw [this, hnew]
              rw [hae]
              simp only [Result.andThen_ok, hoff, Sem.run_bind, hrunS, Nat.add_zero, Sem.run_pure, goInt]
            rw [y8i hrun]
            have hst := ydz I ho hm hb (vs := new.toList) (o := loc.base + off * es') (rows' := rows.take off ++ ys.take n ++ rows.drop (off + n)) (by omega) (by simp; omega) (fun i row hi => by
              rw [List.getElem?_append] at hi
              have hl1 : (rows.take off ++ ys.take n).length = off + n := by simp; omega
              rw [hl1] at hi
              have hrowl : ∀ (k : Nat) (row : List AV), rows[k]? = some row → (k < off ∨ off + n ≤ k) → row.length = es' ∧ ∀ (j : Nat) (l : AV), row[j]? = some l →
                  yj l = true ∧ ∃ v, (y28 cs (loc.base + off * es') new.toList)[loc.base + (k * es' + j)]? = some v ∧ Rep nm w F m (gens h) v l := by
                intro k row hk hko
                obtain ⟨b1, b2⟩ := hcell k row hk
                refine ⟨b1, fun j l hj => ?_⟩
                obtain ⟨c1, x, c2, _, c3⟩ := b2 j l hj
                have hjl : j < es' := by rw [← b1]; exact (List.getElem?_eq_some_iff.1 hj).1
                refine ⟨c1, x, ?_, c3⟩
                rw [y32 (by omega), hnsz]
                rcases hko with hko | hko
                · have := ycs (es := es') hko hjl
                  rw [if_pos (by omega)]; exact c2
                · have : (off + n) * es' ≤ k * es' := Nat.mul_le_mul_right _ hko
                  rw [Nat.add_mul] at this
                  rw [if_neg (by omega), if_neg (by omega)]; exact c2
              split at hi
              · rename_i h1
                rw [List.getElem?_append] at hi
                have hl2 : (rows.take off).length = off := by simp; omega
                rw [hl2] at hi
                split at hi
                · rename_i h2
                  rw [List.getElem?_take, if_pos h2] at hi
                  exact hrowl i row hi (.inl h2)
                · rename_i h2
                  obtain ⟨b1, b2⟩ := hnr.2 _ row hi
                  refine ⟨b1, fun j l hj => ?_⟩
                  obtain ⟨c1, x, c2, c3⟩ := b2 j l hj
                  have hjl : j < es' := by rw [← b1]; exact (List.getElem?_eq_some_iff.1 hj).1
                  refine ⟨c1, x, ?_, c3⟩
                  have hmul : i * es' = off * es' + (i - off) * es' := by rw [← Nat.add_mul]; congr 1; omega
                  have := ycs (es := es') (i := i - off) (n := n) (by omega) hjl
                  rw [y32 (by omega), hnsz, if_neg (by omega), if_pos (by omega), show loc.base + (i * es' + j) - (loc.base + off * es') = (i - off) * es' + j by omega]
                  simpa using c2
              · rename_i h1
                rw [List.getElem?_drop] at hi
                rw [show off + n + (i - (off + n)) = i by omega] at hi
                exact hrowl i row hi (.inr (by omega)))
            exact ⟨_, _, F, m, .inl rfl, hst.1, hst.2, .pure (.int _ _)⟩
        · cases hx
      · cases hx
    · cases hx
theorem y67 (b : ByteArray) : b.toList = b.data.toList := by
  have key : ∀ (n i : Nat) (r : List UInt8), b.size - i = n → ByteArray.toList.loop b i r = r.reverse ++ b.data.toList.drop i := by
    intro n
    induction n with
    | zero =>
      intro i r hn
      unfold ByteArray.toList.loop
      rw [if_neg (by omega)]
      rw [List.drop_of_length_le (by simp; have : b.size = b.data.size := rfl; omega)]
      simp
    | succ n ih =>
      intro i r hn
      unfold ByteArray.toList.loop
      have hlt : i < b.size := by omega
      rw [if_pos hlt, ih (i + 1) _ (by omega)]
      have hlt2 : i < b.data.toList.length := by simpa using hlt
      rw [List.reverse_cons, List.append_assoc, List.drop_eq_getElem_cons hlt2]
      congr 1
      simp only [List.singleton_append, List.cons.injEq, and_true]
      have : b.get! i = b.data.toList[i] := by
        obtain ⟨d⟩ := b
        have hd : i < d.size := hlt
        show d[i]! = d.toList[i]
        rw [getElem!_pos d i hd]
        simp
      exact this
  have := key b.size 0 [] rfl
  unfold ByteArray.toList
  rw [this]
  simp
theorem y9m : ∀ a b : List UInt8, Op.bytesLess a b = y7w a b
  | a, [] => by cases a <;> rfl
  | [], _ :: _ => rfl
  | a :: x, b :: y => by simp [Op.bytesLess, y7w, y9m x y]
theorem yhy {op : BinOp} {t : Nat} {ox oy : Operand} {v u : Value} {va ua r : AV} {G : List Nat} (hv : Rep nm w F m G v va) (hu : Rep nm w F m G u ua) (hr : y9 op va ua = some r) :
    ∃ x, (do eqGuard op t ox oy v u; binOp op t v u : Sem Value).run P w = .ok x w ∧ Rep nm w F m G x r := by
  unfold y9 at hr
  split at hr
  · rename_i k a k' b
    have e1 := hv.int_inv
    have e2 := hu.int_inv
    subst e1; subst e2
    have hg : (eqGuard op t ox oy (.int k a) (.int k' b)).run P w = .ok () w := by
      unfold eqGuard
      cases op <;> simp
    simp only [Sem.run_bind, hg, Result.andThen_ok]
    by_cases hsh : y49 op = true
    · rw [if_pos hsh] at hr
      unfold ylu at hr
      split at hr
      · cases hr
      · rename_i hb0
        cases op <;> first | cases hsh | skip
        · injection hr with hr
          subst hr
          exact ⟨_, by simp [binOp, Op.shift, hb0], .pure (.int _ _)⟩
        · injection hr with hr
          subst hr
          exact ⟨_, by simp [binOp, Op.shift, hb0], .pure (.int _ _)⟩
    · rw [if_neg hsh] at hr
      split at hr
      · rename_i hk
        subst hk
        cases op <;> simp only [y69] at hr <;> first
          | (exact absurd rfl hsh)
          | (injection hr with hr; subst hr; exact ⟨_, by simp [binOp, Op.intArith, Op.intBits, Op.intCmp], .pure (.int _ _)⟩)
          | (injection hr with hr; subst hr; exact ⟨_, by simp [binOp, Op.intArith, Op.intBits, Op.intCmp], .pure (.bool _)⟩)
          | (split at hr
             · cases hr
             · rename_i hz
               injection hr with hr
               subst hr
               exact ⟨_, by simp [binOp, Op.intDiv, hz], .pure (.int _ _)⟩)
      · cases hr
  · rename_i a b
    obtain ⟨x, rfl, hx⟩ := hv.str_inv
    obtain ⟨y, rfl, hy⟩ := hu.str_inv
    have hg : (eqGuard op t ox oy (.string x) (.string y)).run P w = .ok () w := by
      unfold eqGuard
      cases op <;> simp
    simp only [Sem.run_bind, hg, Result.andThen_ok]
    have hxl : x.toList = a := by rw [y67, hx]
    have hyl : y.toList = b := by rw [y67, hy]
    have hxs : x.size = a.length := by rw [← hx]; simp
    have hys : y.size = b.length := by rw [← hy]; simp
    cases op <;> simp only [ygf] at hr <;> first
      | (injection hr with hr; subst hr; exact ⟨_, by simp only [binOp, Op.stringOp, hxl, hyl, y9m]; rfl, .pure (.bool _)⟩)
      | (split at hr
         · rename_i hlen
           injection hr with hr
           subst hr
           refine ⟨.string (x ++ y), ?_, ?_⟩
           · simp only [binOp, Op.stringOp]
             rw [if_neg (by rw [hxs, hys]; simp [IntKind.max, IntKind.bits, IntKind.signed]; omega)]
             rfl
           · have := PRep.str (nm := nm) (w := w) (F := F) (x ++ y)
             rw [show (x ++ y).data.toList = a ++ b by rw [ByteArray.data_append]; simp [hx, hy]] at this
             exact .pure this
         · cases hr)
      | cases hr
  · cases hr
end Go.Vm
