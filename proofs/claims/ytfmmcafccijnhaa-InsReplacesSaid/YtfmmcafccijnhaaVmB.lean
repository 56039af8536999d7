/- The value machine: how operations, regions, code and calls are evaluated; the answers that any fuel gives. -/
import Derived.Test.YtfmmcafccijnhaaVmA
namespace Go.Vm

/-- How functions are called: 'p' with what is only read, 'i' in the caller's own heap. -/
structure Calls2 where
  p : Nat → List AV → Option (Ex AV)
  i : Nat → List AV → Nat → Heap → Option (AV × Heap)

structure Env where
  fn : Nat → Option CFunc
  pure : Nat → Bool
  xp : Nat → List AV → Option (Ex AV)
  xi : Nat → List AV → Nat → Heap → Option (AV × Heap)

abbrev LoopT := List Nat → CCode → Nat → St → Option (Res × St)

def freezeIds : List Nat → Heap → Heap
  | [], h => h
  | id :: r, h =>
    match h[id]? with
    | some ⟨g, .arr bx _ es rows⟩ => freezeIds r (h.set id ⟨g, .arr bx true es rows⟩)
    | some ⟨g, .map _ es⟩ => freezeIds r (h.set id ⟨g, .map true es⟩)
    | _ => freezeIds r h

def relocLeaf (tab : List (Nat × Nat)) : AV → AV
  | .ls j 0 es off len => match tab[j]? with
    | some (id, g) => .ls id g es off len
    | none => .undef
  | .lp j 0 i off => match tab[j]? with
    | some (id, g) => .lp id g i off
    | none => .undef
  | .lm j 0 => match tab[j]? with
    | some (id, g) => .lm id g
    | none => .undef
  | v => if pure1 v then v else .undef

def relocAgg (tab : List (Nat × Nat)) : AV → AV
  | .agg cs => .agg (cs.map (relocLeaf tab))
  | v => relocLeaf tab v

def reloc (tab : List (Nat × Nat)) : AV → AV
  | .tup vs => .tup (vs.map (relocAgg tab))
  | v => relocAgg tab v

def relocOC (tab : List (Nat × Nat)) : OC → OC
  | .arr true fz es rows => .arr true fz es (rows.map (·.map (relocLeaf tab)))
  | o => o

def okOC : OC → Bool
  | .arr true false _ rows => rows.all (·.all leaf1)
  | .arr false false _ _ => true
  | _ => false

/-- Lays a callee's objects into the caller's heap. -/
def placeAll (fb : Nat) : Option Nat → List OC → List (Nat × Nat) → Heap → Option (List (Nat × Nat) × Heap)
  | _, [], tab, h => some (tab, h)
  | sl, o :: os, tab, h =>
    match (if okOC (relocOC tab o) then place fb sl (relocOC tab o) h else none) with
    | some (id, g, h') => placeAll fb (sl.map (· + 1)) os (tab ++ [(id, g)]) h'
    | none => none

def heapOf (os : List OC) : Heap := os.map (⟨0, ·⟩)

def callP (E : Env) (C : Calls2) (fb : Nat) (sl : Option Nat) (ro : Bool) (f : Nat) (args : List AV) (h : Heap) : Option (AV × Heap) :=
  match fzList (fz h fuelF) args with
  | none => none
  | some fa =>
    match C.p f fa.v with
    | none => none
    | some r =>
      match (if r.fresh || fa.ids.isEmpty then h else freezeIds fa.ids h) with
      | h1 =>
        if ro then
          match fz (heapOf r.objs) fuelF r.v with
          | some q => some (q.v, h1)
          | none => none
        else
          match placeAll fb sl r.objs [] h1 with
          | some (tab, h2) => some (reloc tab r.v, h2)
          | none => none

def callAny (E : Env) (C : Calls2) (fb : Nat) (sl : Option Nat) (ro : Bool) (f : Nat) (args : List AV) (h : Heap) : Option (AV × Heap) :=
  if E.pure f then callP E C fb sl ro f args h
  else C.i f args (match sl with | some j => fb + j | none => h.length) h

def optIx (t : Tmps) (hi : Nat) (dflt : Nat) : Option Opd → Option Nat
  | none => some dflt
  | some x => asNat (x.ev t) hi

/-- A new object as a value. -/
def newArr (fb : Nat) (sl : Option Nat) (es : Nat) (rows : List (List AV)) (h : Heap) : Option (AV × Heap) :=
  match place fb sl (.arr false false es rows) h with
  | some (id, g, h') => some (.ls id g es 0 rows.length, h')
  | none => none

def newBox (fb : Nat) (sl : Option Nat) (cs : List AV) (h : Heap) : Option (AV × Heap) :=
  match place fb sl (.arr true false cs.length [cs]) h with
  | some (id, g, h') => some (.lp id g 0 0, h')
  | none => none

def evApp (fb : Nat) (sl : Option Nat) (es bytes : Nat) (x y : AV) (h : Heap) : Option (AV × Heap) :=
  match rowsOf h es y with
  | none => none
  | some ys =>
    match x with
    | .nils =>
      if ys.isEmpty then some (.nils, h)
      else if ys.length * bytes ≤ 2 ^ 48 then newArr fb sl es ys h else none
    | .ls id g es1 off len =>
      match h[id]? with
      | some ⟨g', .arr false false es' rows⟩ =>
        if g' = g ∧ es1 = es ∧ es' = es ∧ off + len ≤ rows.length ∧ (2 * (len + ys.length) + 512) * bytes ≤ 2 ^ 48 then
          some (.ls id (g + 1) es 0 (len + ys.length), h.set id ⟨g + 1, .arr false false es ((rows.drop off).take len ++ ys)⟩)
        else none
      | _ => none
    | _ => none

def evCpy (es : Nat) (x y : AV) (h : Heap) : Option (AV × Heap) :=
  match rowsOf h es y with
  | none => none
  | some ys =>
    match x with
    | .nils => some (.int .i64 0, h)
    | .ls id g es1 off len =>
      match rowsAt h id g with
      | some (fz, es', rows) =>
        if fz = false ∧ es1 = es ∧ es' = es ∧ off + len ≤ rows.length then
          some (.int .i64 (min ys.length len : Nat), setRows h id (rows.take off ++ ys.take (min ys.length len) ++ rows.drop (off + min ys.length len)))
        else none
      | none => none
    | _ => none

def evSlc (es : Nat) (x : AV) (lo : Nat → Option Nat) (hi : Nat → Option Nat) : Option AV :=
  match x with
  | .nils => match hi 0 with
    | some b => match lo b with
      | some _ => some .nils
      | none => none
    | none => none
  | .rs es' rows =>
    if es' = es then match hi rows.length with
      | some b => match lo b with
        | some a => some (.rs es ((rows.take b).drop a))
        | none => none
      | none => none
    else none
  | .ls id g es' off len =>
    if es' = es then match hi len with
      | some b => match lo b with
        | some a => some (.ls id g es (off + a) (b - a))
        | none => none
      | none => none
    else none
  | _ => none

def evLd (agg : Bool) (n : Nat) (a : AV) (h : Heap) : Option AV :=
  match a with
  | .rp cs => aggOr agg n cs
  | .lp id g i off =>
    match rowsAt h id g with
    | some (_, _, rows) => match rows[i]? with
      | some row => aggOr agg n (row.drop off)
      | none => none
    | none => none
  | _ => none

def evSt (n : Nat) (a v : AV) (h : Heap) : Option (AV × Heap) :=
  match a with
  | .lp id g i off =>
    match rowsAt h id g with
    | some (false, _, rows) => match rows[i]? with
      | some row =>
        if (cellsOf v).length = n ∧ off + n ≤ row.length ∧ (cellsOf v).all leaf1 = true then
          some (.tup [], setRows h id (rows.set i (spliceAt off (cellsOf v) row)))
        else none
      | none => none
    | _ => none
  | _ => none

def evIxs (es : Nat) (x i : AV) : Option AV :=
  match x, i with
  | .rs es' rows, .int _ n => if es' = es ∧ 0 ≤ n then (rows[n.toNat]?).map .rp else none
  | .ls id g es' off len, .int _ n => if es' = es ∧ 0 ≤ n ∧ n < len then some (.lp id g (off + n.toNat) 0) else none
  | _, _ => none

def evIxa (len es : Nat) (x i : AV) : Option AV :=
  match x, i with
  | .rp cs, .int _ n => if 0 ≤ n ∧ n < len then some (.rp (cs.drop (n.toNat * es))) else none
  | .lp id g r off, .int _ n => if 0 ≤ n ∧ n < len then some (.lp id g r (off + n.toNat * es)) else none
  | _, _ => none

def isStr : AV → Bool
  | .str _ => true
  | _ => false

def bytesOf : List (List AV) → Option (List UInt8)
  | [] => some []
  | [.int .u8 n] :: r => (bytesOf r).map (UInt8.ofNat n.toNat :: ·)
  | _ :: _ => none

def evFa (off : Nat) (x : AV) : Option AV :=
  match x with
  | .rp cs => some (.rp (cs.drop off))
  | .lp id g i o => some (.lp id g i (o + off))
  | _ => none

def evLen (k : Nat) (x : AV) (h : Heap) : Option AV :=
  match k, x with
  | 0, .str s => some (.int .i64 s.length)
  | 1, .nils => some (.int .i64 0)
  | 1, .rs _ rows => some (.int .i64 rows.length)
  | 1, .ls _ _ _ _ len => some (.int .i64 len)
  | 2, .nilm => some (.int .i64 0)
  | 2, .rm es => some (.int .i64 es.length)
  | 2, .lm id g => match mapAt h id g with
    | some (_, es) => some (.int .i64 es.length)
    | none => none
  | _, _ => none

def evMget (agg : Bool) (ks : List Nat) (zero : AV) (commaOk : Bool) (x k : AV) (h : Heap) : Option AV :=
  match (match x with
    | .nilm => some []
    | .rm es => some es
    | .lm id g => (mapAt h id g).map (·.2)
    | _ => none) with
  | none => none
  | some es => match mfind agg ks k es with
    | none => none
    | some (some v) => some (if commaOk then .tup [v, .bool true] else v)
    | some none => some (if commaOk then .tup [zero, .bool false] else zero)

def evMput (agg : Bool) (ks : List Nat) (m k v : AV) (h : Heap) : Option (AV × Heap) :=
  match m with
  | .lm id g => match mapAt h id g with
    | some (false, es) => match mset agg ks k v es with
      | some es' => some (.tup [], setMap h id es')
      | none => none
    | _ => none
  | _ => none

def evMdel (agg : Bool) (ks : List Nat) (m k : AV) (h : Heap) : Option (AV × Heap) :=
  match m with
  | .nilm => some (.tup [], h)
  | .lm id g => match mapAt h id g with
    | some (false, es) => match mdrop agg ks k es with
      | some es' => some (.tup [], setMap h id es')
      | none => none
    | _ => none
  | _ => none

def evMclr (m : AV) (h : Heap) : Option (AV × Heap) :=
  match m with
  | .nilm => some (.tup [], h)
  | .lm id g => match mapAt h id g with
    | some (false, _) => some (.tup [], setMap h id [])
    | _ => none
  | _ => none

/-- An operation's value, and the heap behind it. -/
def evOp (E : Env) (C : Calls2) (fb : Nat) (t : Tmps) (h : Heap) : COp → Option (AV × Heap)
  | .mv x => some (x.ev t, h)
  | .pick c a b => match c.ev t with
    | .bool true => some (a.ev t, h)
    | .bool false => some (b.ev t, h)
    | _ => none
  | .new sl cs => if cs.all leaf1 then newBox fb sl cs h else none
  | .box sl x => if (cellsOf (x.ev t)).all leaf1 then newBox fb sl (cellsOf (x.ev t)) h else none
  | .build zero parts => (fillParts (parts.map fun p => (p.1, p.2.1, p.2.2.ev t)) zero).map (.agg ·, h)
  | .buildS sl es len zero parts =>
    if zero.length = es ∧ zero.all leaf1 = true then
      match fillRows es (parts.map fun p => (p.1, p.2.ev t)) (List.replicate len zero) with
      | some rows => newArr fb sl es rows h
      | none => none
    else none
  | .ld agg n a => (evLd agg n (a.ev t) h).map (·, h)
  | .st n a v => evSt n (a.ev t) (v.ev t) h
  | .nilchk x => match x.ev t with
    | .rp cs => some (.rp cs, h)
    | .lp id g i off => some (.lp id g i off, h)
    | _ => none
  | .bin op x y => (evBin op (x.ev t) (y.ev t)).map (·, h)
  | .eqn k neq x y => (evEqn k (x.ev t) (y.ev t)).map fun b => (.bool (if neq then !b else b), h)
  | .eqa neq ks x y => match x.ev t, y.ev t with
    | .agg a, .agg b => (leavesEq ks a b).map fun b => (.bool (if neq then !b else b), h)
    | _, _ => none
  | .eqb neq x y => match x.ev t, y.ev t with
    | .bool a, .bool b => some (.bool (if neq then !(a == b) else a == b), h)
    | _, _ => none
  | .un op x => match op, x.ev t with
    | .not, .bool b => some (.bool (!b), h)
    | .neg, .int k n => some (.int k (k.wrap (0 - n)), h)
    | .xor, .int k n => some (.int k (k.wrap (BitVec.ofInt k.bits (if k.signed then -1 else k.max) ^^^ BitVec.ofInt k.bits n).toNat), h)
    | _, _ => none
  | .cvi k x => match x.ev t with
    | .int _ n => some (.int k (k.wrap n), h)
    | _ => none
  | .s2b sl x => match x.ev t with
    | .str s => newArr fb sl 1 (s.map fun b => [.int .u8 b.toNat]) h
    | _ => none
  | .b2s x => if isStr (x.ev t) then none else match rowsOf h 1 (x.ev t) with
    | some rows => (bytesOf rows).map fun s => (.str s, h)
    | none => none
  | .mkS sl es bytes zero len cap => match len.ev t, cap.ev t with
    | .int .i64 l, .int .i64 c =>
      if zero.length = es ∧ zero.all leaf1 = true ∧ 0 ≤ l ∧ l ≤ c ∧ c * bytes ≤ 2 ^ 47 ∧ c ≤ 2 ^ 62 then newArr fb sl es (List.replicate l.toNat zero) h else none
    | _, _ => none
  | .slc es x lo hi => (evSlc es (x.ev t) (fun b => optIx t b 0 lo) (fun n => optIx t n n hi)).map (·, h)
  | .sls x lo hi => match x.ev t with
    | .str s => match optIx t s.length s.length hi with
      | some b => match optIx t b 0 lo with
        | some a => some (.str ((s.take b).drop a), h)
        | none => none
      | none => none
    | _ => none
  | .fa off x => (evFa off (x.ev t)).map (·, h)
  | .fld agg off n x => match x.ev t with
    | .agg cs => (aggOr agg n (cs.drop off)).map (·, h)
    | _ => none
  | .ixs es x i => (evIxs es (x.ev t) (i.ev t)).map (·, h)
  | .ixa len es x i => (evIxa len es (x.ev t) (i.ev t)).map (·, h)
  | .ixv agg len es x i => match x.ev t, i.ev t with
    | .agg cs, .int _ n => if 0 ≤ n ∧ n < len then (aggOr agg es (cs.drop (n.toNat * es))).map (·, h) else none
    | _, _ => none
  | .ixstr x i => match x.ev t, i.ev t with
    | .str s, .int _ n => if 0 ≤ n then (s[n.toNat]?).map fun b => (.int .u8 b.toNat, h) else none
    | _, _ => none
  | .ext i x => match x.ev t with
    | .tup vs => (vs[i]?).map (·, h)
    | _ => none
  | .len k x => (evLen k (x.ev t) h).map (·, h)
  | .app sl es bytes x y => evApp fb sl es bytes (x.ev t) (y.ev t) h
  | .cpy es x y => evCpy es (x.ev t) (y.ev t) h
  | .minmax isMax x y => match x.ev t, y.ev t with
    | .int k a, .int k' b => if k = k' then some (.int k (if isMax then max a b else min a b), h) else none
    | _, _ => none
  | .call sl ro f args => callAny E C fb sl ro f (args.map (·.ev t)) h
  | .callv sl ro f args => match f.ev t with
    | .fn f caps => callAny E C fb sl ro f (args.map (·.ev t) ++ caps) h
    | _ => none
  | .mkf f caps => some (.fn f (caps.map (·.ev t)), h)
  | .mkm sl => match place fb sl (.map false []) h with
    | some (id, g, h') => some (.lm id g, h')
    | none => none
  | .mget agg ks zero ok x k => (evMget agg ks zero ok (x.ev t) (k.ev t) h).map (·, h)
  | .mput agg ks m k v => evMput agg ks (m.ev t) (k.ev t) (v.ev t) h
  | .mdel agg ks m k => evMdel agg ks (m.ev t) (k.ev t) h
  | .mclr m => evMclr (m.ev t) h

/-- Is an operation wanted? -/
def wants (t : Tmps) : Option (Nat × Bool) → Option Bool
  | none => some true
  | some (d, want) => match tget t d with
    | .bool b => some (b == want)
    | .tup [] => some false
    | _ => none

def stepCI (E : Env) (C : Calls2) (fb : Nat) (o : CI) (s : St) : Option St :=
  match wants s.t o.g with
  | some true => match evOp E C fb s.t s.h o.op with
    | some (v, h) => some ⟨tput o.dst v s.t, h⟩
    | none => none
  | some false => some ⟨tput o.dst (.tup []) s.t, s.h⟩
  | none => none

def runCIs (E : Env) (C : Calls2) (fb : Nat) : List CI → St → Option St
  | [], s => some s
  | o :: r, s => match stepCI E C fb o s with
    | some s' => runCIs E C fb r s'
    | none => none

def ids1 : AV → List Nat
  | .lp id .. | .ls id .. | .lm id _ => [id]
  | _ => []

def slotId (fb : Nat) : Option Nat → List Nat
  | some j => [fb + j]
  | none => []

/-- The objects that an operation looks at, and those that it turns or makes; none: not told. -/
def fpOf (E : Env) (C : Calls2) (fb : Nat) (t : Tmps) (h : Heap) : COp → Option (List Nat × List Nat)
  | .new (some j) _ => some ([], [fb + j])
  | .box (some j) _ => some ([], [fb + j])
  | .buildS (some j) .. => some ([], [fb + j])
  | .mkS (some j) .. => some ([], [fb + j])
  | .s2b (some j) _ => some ([], [fb + j])
  | .mkm (some j) => some ([], [fb + j])
  | .new none _ | .box none _ | .buildS none .. | .mkS none .. | .s2b none _ | .mkm none => none
  | .ld _ _ a => some (ids1 (a.ev t), [])
  | .st _ a _ => some ([], ids1 (a.ev t))
  | .b2s x => some (ids1 (x.ev t), [])
  | .len _ x => some (ids1 (x.ev t), [])
  | .mget _ _ _ _ x _ => some (ids1 (x.ev t), [])
  | .call sl ro f args =>
    if E.pure f then
      match fzList (fz h fuelF) (args.map (·.ev t)) with
      | none => none
      | some fa =>
        match C.p f fa.v with
        | none => none
        | some r =>
          if r.fresh || fa.ids.isEmpty then
            if ro || r.objs.isEmpty then some (fa.ids, []) else
            match sl with
            | some j => some (fa.ids, (List.range r.objs.length).map (fb + j + ·))
            | none => none
          else none
    else none
  | .mv _ | .pick .. | .build .. | .nilchk _ | .bin .. | .eqn .. | .eqa .. | .eqb .. | .un .. | .cvi .. | .slc .. | .ixs .. | .sls .. | .fa .. | .fld .. | .ixa .. | .ixv .. | .ixstr ..
  | .ext .. | .minmax .. | .mkf .. => some ([], [])
  | .app .. | .cpy .. | .callv .. | .mput .. | .mdel .. | .mclr _ => none

/-- The same with its guard. -/
def fpCI (E : Env) (C : Calls2) (fb : Nat) (o : CI) (s : St) : Option (List Nat × List Nat) :=
  match wants s.t o.g with
  | some true => fpOf E C fb s.t s.h o.op
  | some false => some ([], [])
  | none => none

def meets (a b : List Nat) : Bool := a.any b.contains

def fpApart (a b : List Nat × List Nat) : Bool := !meets a.2 b.1 && !meets a.2 b.2 && !meets a.1 b.2

def runFp (E : Env) (C : Calls2) (fb : Nat) : List CI → St → Option (St × List (List Nat × List Nat))
  | [], s => some (s, [])
  | o :: r, s => match fpCI E C fb o s, stepCI E C fb o s with
    | some f, some s' => match runFp E C fb r s' with
      | some (s'', fs) => some (s'', f :: fs)
      | none => none
    | _, _ => none

def pairsOk (fs : List (List Nat × List Nat)) (pairs : List (Nat × Nat)) : Bool :=
  pairs.all fun p => match fs[p.1]?, fs[p.2]? with
    | some a, some b => fpApart a b
    | _, _ => false

def runDraw (E : Env) (C : Calls2) (fb : Nat) (ops : List CI) (pairs : List (Nat × Nat)) (s : St) : Option St :=
  match runFp E C fb ops s with
  | some (s', fs) => if pairsOk fs pairs then some s' else none
  | none => none

def exec (E : Env) (C : Calls2) (L : LoopT) (fb : Nat) : CCode → St → Option (Res × St)
  | .skip, s => some (.norm, s)
  | .region ops, s => match runCIs E C fb ops s with
    | some s' => some (.norm, s')
    | none => none
  | .draw ops pairs, s => match runDraw E C fb ops pairs s with
    | some s' => some (.norm, s')
    | none => none
  | .seq a b, s => match exec E C L fb a s with
    | some (.norm, s') => exec E C L fb b s'
    | r => r
  | .cond c a b, s => match c.ev s.t with
    | .bool b' => if b' then exec E C L fb a s else exec E C L fb b s
    | _ => none
  | .block id a, s => match exec E C L fb a s with
    | some (.exit id', s') => if id' = id then some (.norm, s') else some (.exit id', s')
    | r => r
  | .loop live a, s => L live a fb s
  | .exit id, s => some (.exit id, s)
  | .ret, s => some (.ret, s)

def resOf (h : Heap) (t : Tmps) : CRes → Option AV
  | .t n => some (tget t n)
  | .cell n agg size => evLd agg size (tget t n) h

def resList (h : Heap) (t : Tmps) : List CRes → Option (List AV)
  | [] => some []
  | r :: rs => match resOf h t r, resList h t rs with
    | some a, some b => some (a :: b)
    | _, _ => none

def tupOf : List AV → AV
  | [v] => v
  | vs => .tup vs

def enumFrom : Nat → List AV → Tmps
  | _, [] => []
  | n, v :: vs => (n, v) :: enumFrom (n + 1) vs

/-- A function's body, in a heap. -/
def runBody (E : Env) (C : Calls2) (L : LoopT) (cf : CFunc) (args : List AV) (fb : Nat) (h : Heap) : Option (AV × Heap) :=
  if args.length = cf.params then
    match exec E C L fb cf.body ⟨enumFrom 0 args, h⟩ with
    | some (.norm, s) | some (.ret, s) => match resList s.h s.t cf.results with
      | some vs => some (tupOf vs, s.h)
      | none => none
    | _ => none
  else none

def deadSlots (n : Nat) : Heap := List.replicate n ⟨0, .dead⟩

def runPure (E : Env) (C : Calls2) (L : LoopT) (f : Nat) (args : List AV) : Option (Ex AV) :=
  match E.fn f with
  | none => E.xp f args
  | some cf =>
    match runBody E C L cf args 0 (deadSlots cf.slots) with
    | some (v, h) => expo1 h v
    | none => none

def runIn (E : Env) (C : Calls2) (L : LoopT) (f : Nat) (args : List AV) (fb : Nat) (h : Heap) : Option (AV × Heap) :=
  match E.fn f with
  | none => E.xi f args fb h
  | some cf => if fb = h.length then runBody E C L cf args fb (h ++ deadSlots cf.slots) else runBody E C L cf args fb h

def runLoop (E : Env) (C : Calls2) (L : LoopT) : LoopT := fun live a fb s =>
  match exec E C L fb a ⟨restrict live s.t, s.h⟩ with
  | some (.norm, s') => L live a fb s'
  | r => r

/-- With so much fuel. -/
def both (E : Env) : Nat → Calls2 × LoopT
  | 0 => (⟨fun _ _ => none, fun _ _ _ _ => none⟩, fun _ _ _ _ => none)
  | k + 1 => (⟨runPure E (both E k).1 (both E k).2, runIn E (both E k).1 (both E k).2⟩, runLoop E (both E k).1 (both E k).2)

/-! What any fuel gives. -/

open Classical in
noncomputable def lim {α : Type} (f : Nat → Option α) : Option α :=
  if h : ∃ k r, f k = some r then some (Classical.choose (Classical.choose_spec h)) else none

noncomputable def callW (E : Env) : Calls2 :=
  ⟨fun f args => lim fun k => (both E k).1.p f args, fun f args fb h => lim fun k => (both E k).1.i f args fb h⟩

noncomputable def loopW (E : Env) : LoopT := fun live a fb s => lim fun k => (both E k).2 live a fb s

end Go.Vm
