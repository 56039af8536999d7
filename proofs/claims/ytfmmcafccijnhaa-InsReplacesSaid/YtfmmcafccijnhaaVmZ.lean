/- The value machine: code as plain functions that go on with what follows; nothing here speaks of a program. -/
import Derived.Test.YtfmmcafccijnhaaVmY
namespace Go.Vm

/-! Goes on with a value; with a value and a heap; the same under a guard; with one of two. -/

def ob {α : Type} (x : Option AV) (K : AV → Option α) : Option α :=
  match x with
  | some v => K v
  | none => none
def oh {α : Type} (x : Option (AV × Heap)) (K : AV → Heap → Option α) : Option α :=
  match x with
  | some (v, h) => K v h
  | none => none
def wants1 : AV → Bool → Option Bool
  | .bool b, w => some (b == w)
  | .tup [], _ => some false
  | _, _ => none
def gb {α : Type} (g : AV) (w : Bool) (x : Option AV) (K : AV → Option α) : Option α :=
  match wants1 g w with
  | some true => ob x K
  | some false => K (.tup [])
  | none => none
def gh {α : Type} (g : AV) (w : Bool) (x : Option (AV × Heap)) (h : Heap) (K : AV → Heap → Option α) : Option α :=
  match wants1 g w with
  | some true => oh x K
  | some false => K (.tup []) h
  | none => none
def cnd {α : Type} (c : AV) (a b : Option α) : Option α :=
  match c with
  | .bool true => a
  | .bool false => b
  | _ => none
def ofp {α β : Type} (x : Option β) (K : β → Option α) : Option α :=
  match x with
  | some v => K v
  | none => none
def fgd (g : AV) (w : Bool) (x : Option (List Nat × List Nat)) : Option (List Nat × List Nat) :=
  match wants1 g w with
  | some true => x
  | some false => some ([], [])
  | none => none

theorem wants_some (t : Tmps) (d : Nat) (w : Bool) : wants t (some (d, w)) = wants1 (tget t d) w := by
  simp only [wants]
  generalize tget t d = v
  cases v <;> try rfl
  rename_i l
  cases l <;> rfl

/-! Operations by the values that they take. -/

def evPick (c a b : AV) : Option AV :=
  match c with
  | .bool true => some a
  | .bool false => some b
  | _ => none
def evBuild (zero : List AV) (parts : List (Nat × Nat × AV)) : Option AV := (fillParts parts zero).map .agg
def evNilchk : AV → Option AV
  | .rp cs => some (.rp cs)
  | .lp id g i off => some (.lp id g i off)
  | _ => none
def evEqnB (k : Nat) (neq : Bool) (x y : AV) : Option AV := (evEqn k x y).map fun b => .bool (if neq then !b else b)
def evEqa (neq : Bool) (ks : List Nat) (x y : AV) : Option AV :=
  match x, y with
  | .agg a, .agg b => (leavesEq ks a b).map fun b => .bool (if neq then !b else b)
  | _, _ => none
def evEqb (neq : Bool) (x y : AV) : Option AV :=
  match x, y with
  | .bool a, .bool b => some (.bool (if neq then !(a == b) else a == b))
  | _, _ => none
def evUn (op : UnOp) (x : AV) : Option AV :=
  match op, x with
  | .not, .bool b => some (.bool (!b))
  | .neg, .int k n => some (.int k (k.wrap (0 - n)))
  | .xor, .int k n => some (.int k (k.wrap (BitVec.ofInt k.bits (if k.signed then -1 else k.max) ^^^ BitVec.ofInt k.bits n).toNat))
  | _, _ => none
def evCvi (k : IntKind) (x : AV) : Option AV :=
  match x with
  | .int _ n => some (.int k (k.wrap n))
  | _ => none
def evB2s (x : AV) (h : Heap) : Option AV :=
  if isStr x then none else match rowsOf h 1 x with
    | some rows => (bytesOf rows).map .str
    | none => none
def optIxv (hi dflt : Nat) : Option AV → Option Nat
  | none => some dflt
  | some x => asNat x hi
def evSlcO (es : Nat) (x : AV) (lo hi : Option AV) : Option AV := evSlc es x (fun b => optIxv b 0 lo) (fun n => optIxv n n hi)
def evSls (x : AV) (lo hi : Option AV) : Option AV :=
  match x with
  | .str s => match optIxv s.length s.length hi with
    | some b => match optIxv b 0 lo with
      | some a => some (.str ((s.take b).drop a))
      | none => none
    | none => none
  | _ => none
def evFld (agg : Bool) (off n : Nat) (x : AV) : Option AV :=
  match x with
  | .agg cs => aggOr agg n (cs.drop off)
  | _ => none
def evIxv (agg : Bool) (len es : Nat) (x i : AV) : Option AV :=
  match x, i with
  | .agg cs, .int _ n => if 0 ≤ n ∧ n < len then aggOr agg es (cs.drop (n.toNat * es)) else none
  | _, _ => none
def evIxstr (x i : AV) : Option AV :=
  match x, i with
  | .str s, .int _ n => if 0 ≤ n then (s[n.toNat]?).map fun b => .int .u8 b.toNat else none
  | _, _ => none
def evExt (i : Nat) (x : AV) : Option AV :=
  match x with
  | .tup vs => vs[i]?
  | _ => none
def evMinmax (isMax : Bool) (x y : AV) : Option AV :=
  match x, y with
  | .int k a, .int k' b => if k = k' then some (.int k (if isMax then max a b else min a b)) else none
  | _, _ => none

/-- What only tells a value. -/
def pureOp : COp → Option (Tmps → Heap → Option AV)
  | .pick c a b => some fun t _ => evPick (c.ev t) (a.ev t) (b.ev t)
  | .build zero parts => some fun t _ => evBuild zero (parts.map fun p => (p.1, p.2.1, p.2.2.ev t))
  | .ld agg n a => some fun t h => evLd agg n (a.ev t) h
  | .nilchk x => some fun t _ => evNilchk (x.ev t)
  | .bin op x y => some fun t _ => evBin op (x.ev t) (y.ev t)
  | .eqn k neq x y => some fun t _ => evEqnB k neq (x.ev t) (y.ev t)
  | .eqa neq ks x y => some fun t _ => evEqa neq ks (x.ev t) (y.ev t)
  | .eqb neq x y => some fun t _ => evEqb neq (x.ev t) (y.ev t)
  | .un op x => some fun t _ => evUn op (x.ev t)
  | .cvi k x => some fun t _ => evCvi k (x.ev t)
  | .b2s x => some fun t h => evB2s (x.ev t) h
  | .slc es x lo hi => some fun t _ => evSlcO es (x.ev t) (lo.map (·.ev t)) (hi.map (·.ev t))
  | .sls x lo hi => some fun t _ => evSls (x.ev t) (lo.map (·.ev t)) (hi.map (·.ev t))
  | .fa off x => some fun t _ => evFa off (x.ev t)
  | .fld agg off n x => some fun t _ => evFld agg off n (x.ev t)
  | .ixs es x i => some fun t _ => evIxs es (x.ev t) (i.ev t)
  | .ixa len es x i => some fun t _ => evIxa len es (x.ev t) (i.ev t)
  | .ixv agg len es x i => some fun t _ => evIxv agg len es (x.ev t) (i.ev t)
  | .ixstr x i => some fun t _ => evIxstr (x.ev t) (i.ev t)
  | .ext i x => some fun t _ => evExt i (x.ev t)
  | .len k x => some fun t h => evLen k (x.ev t) h
  | .minmax isMax x y => some fun t _ => evMinmax isMax (x.ev t) (y.ev t)
  | .mget agg ks zero ok x k => some fun t h => evMget agg ks zero ok (x.ev t) (k.ev t) h
  | .mkf f caps => some fun t _ => some (.fn f (caps.map (·.ev t)))
  | _ => none

/-! Operations that turn the heap. -/

def newC (fb : Nat) (sl : Option Nat) (cs : List AV) (h : Heap) : Option (AV × Heap) := if cs.all leaf1 then newBox fb sl cs h else none
def buildSC (fb : Nat) (sl : Option Nat) (es len : Nat) (zero : List AV) (parts : List (Nat × AV)) (h : Heap) : Option (AV × Heap) :=
  if zero.length = es ∧ zero.all leaf1 = true then
    match fillRows es parts (List.replicate len zero) with
    | some rows => newArr fb sl es rows h
    | none => none
  else none
def s2bC (fb : Nat) (sl : Option Nat) (x : AV) (h : Heap) : Option (AV × Heap) :=
  match x with
  | .str s => newArr fb sl 1 (s.map fun b => [.int .u8 b.toNat]) h
  | _ => none
def mkSC (fb : Nat) (sl : Option Nat) (es bytes : Nat) (zero : List AV) (len cap : AV) (h : Heap) : Option (AV × Heap) :=
  match len, cap with
  | .int .i64 l, .int .i64 c =>
    if zero.length = es ∧ zero.all leaf1 = true ∧ 0 ≤ l ∧ l ≤ c ∧ c * bytes ≤ 2 ^ 47 ∧ c ≤ 2 ^ 62 then newArr fb sl es (List.replicate l.toNat zero) h else none
  | _, _ => none
def callvC (E : Env) (C : Calls2) (fb : Nat) (sl : Option Nat) (ro : Bool) (f : AV) (args : List AV) (h : Heap) : Option (AV × Heap) :=
  match f with
  | .fn f caps => callAny E C fb sl ro f (args ++ caps) h
  | _ => none
def mkmC (fb : Nat) (sl : Option Nat) (h : Heap) : Option (AV × Heap) :=
  match place fb sl (.map false []) h with
  | some (id, g, h') => some (.lm id g, h')
  | none => none

def heapOp (E : Env) (C : Calls2) (fb : Nat) (t : Tmps) (h : Heap) : COp → Option (AV × Heap)
  | .new sl cs => newC fb sl cs h
  | .box sl x => newC fb sl (cellsOf (x.ev t)) h
  | .buildS sl es len zero parts => buildSC fb sl es len zero (parts.map fun p => (p.1, p.2.ev t)) h
  | .st n a v => evSt n (a.ev t) (v.ev t) h
  | .s2b sl x => s2bC fb sl (x.ev t) h
  | .mkS sl es bytes zero len cap => mkSC fb sl es bytes zero (len.ev t) (cap.ev t) h
  | .app sl es bytes x y => evApp fb sl es bytes (x.ev t) (y.ev t) h
  | .cpy es x y => evCpy es (x.ev t) (y.ev t) h
  | .call sl ro f args => callAny E C fb sl ro f (args.map (·.ev t)) h
  | .callv sl ro f args => callvC E C fb sl ro (f.ev t) (args.map (·.ev t)) h
  | .mkm sl => mkmC fb sl h
  | .mput agg ks m k v => evMput agg ks (m.ev t) (k.ev t) (v.ev t) h
  | .mdel agg ks m k => evMdel agg ks (m.ev t) (k.ev t) h
  | .mclr m => evMclr (m.ev t) h
  | op => evOp E C fb t h op

theorem optIx_v (t : Tmps) (hi d : Nat) (o : Option Opd) : optIx t hi d o = optIxv hi d (o.map (·.ev t)) := by cases o <;> rfl

variable {E : Env} {C : Calls2} {L : LoopT} {fb : Nat} {α : Type}

theorem pureOp_ev {op : COp} {f : Tmps → Heap → Option AV} (hf : pureOp op = some f) (t : Tmps) (h : Heap) : evOp E C fb t h op = (f t h).map (·, h) := by
  cases op <;> simp only [pureOp, reduceCtorEq] at hf <;> (injection hf with hf; subst hf; simp only [evOp])
  case pick c a b => unfold evPick; split <;> simp_all
  case build => simp only [evBuild, Option.map_map]; rfl
  case nilchk x => unfold evNilchk; split <;> simp_all
  case eqn => simp only [evEqnB, Option.map_map]; rfl
  case eqa => unfold evEqa; split <;> simp_all [Option.map_map, Function.comp_def]
  case eqb => unfold evEqb; split <;> simp_all
  case un => unfold evUn; split <;> simp_all
  case cvi => unfold evCvi; split <;> simp_all
  case b2s x =>
    unfold evB2s
    split
    · simp_all
    · split <;> simp_all [Option.map_map, Function.comp_def]
  case slc => simp only [evSlcO, optIx_v]
  case sls x lo hi =>
    unfold evSls
    split
    · rename_i hx
      simp only [hx, optIx_v]
      split
      · split <;> simp_all
      · simp_all
    · rename_i hx
      simp only [Option.map_none]
  case fld => unfold evFld; split <;> simp_all
  case ixv len es x i =>
    cases x.ev t <;> try rfl
    cases i.ev t <;> try rfl
    rename_i n
    by_cases hc : 0 ≤ n ∧ n < len
    · simp only [evIxv, if_pos hc]
    · simp only [evIxv, if_neg hc]; rfl
  case ixstr x i =>
    cases x.ev t <;> try rfl
    cases i.ev t <;> try rfl
    rename_i n
    by_cases hc : 0 ≤ n
    · simp only [evIxstr, if_pos hc, Option.map_map]; rfl
    · simp only [evIxstr, if_neg hc]; rfl
  case ext => unfold evExt; split <;> simp_all
  case minmax =>
    unfold evMinmax
    split
    · split <;> simp_all
    · simp_all
  case mkf => rfl

theorem heapOp_ev {op : COp} (t : Tmps) (h : Heap) : evOp E C fb t h op = heapOp E C fb t h op := by
  cases op <;> rfl

/-- What a call looks at, and turns. -/
def fpCall (E : Env) (C : Calls2) (fb : Nat) (sl : Option Nat) (ro : Bool) (f : Nat) (args : List AV) (h : Heap) : Option (List Nat × List Nat) :=
  if E.pure f then
    match fzList (fz h fuelF) args with
    | none => none
    | some fa =>
      match C.p f fa.v with
      | none => none
      | some r =>
        if r.fresh || fa.ids.isEmpty then
          if ro || r.objs.isEmpty then some (fa.ids, []) else
          match sl with
          | some j => some (fa.ids, (List.range r.objs.length).map (fb + j + ·))
          | none => none
        else none
  else none

/-- One operation. -/
def wkO (E : Env) (C : Calls2) (fb : Nat) (o : CI) (s : St) (n : St → Option α) : Option α :=
  match o.g with
  | none => match o.op with
    | .mv x => n ⟨tput o.dst (x.ev s.t) s.t, s.h⟩
    | op => match pureOp op with
      | some f => ob (f s.t s.h) fun v => n ⟨tput o.dst v s.t, s.h⟩
      | none => oh (heapOp E C fb s.t s.h op) fun v h => n ⟨tput o.dst v s.t, h⟩
  | some (d, w) => match o.op with
    | .mv x => gb (tget s.t d) w (some (x.ev s.t)) fun v => n ⟨tput o.dst v s.t, s.h⟩
    | op => match pureOp op with
      | some f => gb (tget s.t d) w (f s.t s.h) fun v => n ⟨tput o.dst v s.t, s.h⟩
      | none => gh (tget s.t d) w (heapOp E C fb s.t s.h op) s.h fun v h => n ⟨tput o.dst v s.t, h⟩

theorem wkO_eq (o : CI) (s : St) (n : St → Option α) : wkO E C fb o s n = match stepCI E C fb o s with
    | some s' => n s'
    | none => none := by
  obtain ⟨dst, op, g⟩ := o
  unfold stepCI wkO
  have key : ∀ (f : Tmps → Heap → Option AV), pureOp op = some f → evOp E C fb s.t s.h op = (f s.t s.h).map (·, s.h) := fun f hf => pureOp_ev hf _ _
  have k2 : evOp E C fb s.t s.h op = heapOp E C fb s.t s.h op := heapOp_ev _ _
  cases g with
  | none =>
    simp only [wants]
    split
    · simp only [evOp]
    · split
      · rename_i f hf
        rw [key f hf]
        simp only [ob]
        cases f s.t s.h <;> rfl
      · simp only [k2, oh]
        cases heapOp E C fb s.t s.h op <;> rfl
  | some p =>
    obtain ⟨d, w⟩ := p
    simp only [wants_some]
    split
    · simp only [evOp, gb, ob]
      split <;> simp_all
    · split
      · rename_i f hf
        rw [key f hf]
        simp only [gb, ob]
        split <;> simp_all
        cases f s.t s.h <;> simp
      · simp only [k2, gh, oh]
        split <;> simp_all
        cases heapOp E C fb s.t s.h op <;> simp

def wkR (E : Env) (C : Calls2) (fb : Nat) : List CI → St → (St → Option α) → Option α
  | [], s, n => n s
  | o :: r, s, n => wkO E C fb o s fun s' => wkR E C fb r s' n

theorem wkR_eq : ∀ (l : List CI) (s : St) (n : St → Option α), wkR E C fb l s n = match runCIs E C fb l s with
    | some s' => n s'
    | none => none
  | [], _, _ => rfl
  | o :: r, s, n => by
    rw [wkR, wkO_eq, runCIs]
    cases stepCI E C fb o s with
    | none => rfl
    | some s' => exact wkR_eq r s' n

/-- Its footprint is told by its operands. -/
def fpTot : COp → Bool
  | .new (some _) _ | .box (some _) _ | .buildS (some _) .. | .mkS (some _) .. | .s2b (some _) _ | .mkm (some _) => true
  | .ld .. | .st .. | .b2s _ | .len .. | .mget .. => true
  | .mv _ | .pick .. | .build .. | .nilchk _ | .bin .. | .eqn .. | .eqa .. | .eqb .. | .un .. | .cvi .. | .slc .. | .ixs .. | .sls .. | .fa .. | .fld .. | .ixa .. | .ixv .. | .ixstr ..
  | .ext .. | .minmax .. | .mkf .. => true
  | _ => false

theorem fpTot_some {op : COp} (h : fpTot op = true) (t : Tmps) (hp : Heap) : ∃ f, fpOf E C fb t hp op = some f := by
  cases op
  case new sl _ => cases sl <;> simp_all [fpTot, fpOf]
  case box sl _ => cases sl <;> simp_all [fpTot, fpOf]
  case buildS sl _ _ _ _ => cases sl <;> simp_all [fpTot, fpOf]
  case mkS sl _ _ _ _ _ => cases sl <;> simp_all [fpTot, fpOf]
  case s2b sl _ => cases sl <;> simp_all [fpTot, fpOf]
  case mkm sl => cases sl <;> simp_all [fpTot, fpOf]
  all_goals simp_all [fpTot, fpOf]

/-- Operations in any order: with what each one looks at and turns. -/
def wkD (E : Env) (C : Calls2) (fb : Nat) : List CI → List (List Nat × List Nat) → St → (List (List Nat × List Nat) → St → Option α) → Option α
  | [], fs, s, n => n fs.reverse s
  | o :: r, fs, s, n =>
    match o.g with
    | none => ofp (fpOf E C fb s.t s.h o.op) fun f => wkO E C fb o s fun s' => wkD E C fb r (f :: fs) s' n
    | some (d, w) => ofp (fgd (tget s.t d) w (fpOf E C fb s.t s.h o.op)) fun f => wkO E C fb o s fun s' => wkD E C fb r (f :: fs) s' n

theorem fpCI_g (d : Nat) (w : Bool) (dst : Option Nat) (op : COp) (s : St) : fpCI E C fb ⟨dst, op, some (d, w)⟩ s = fgd (tget s.t d) w (fpOf E C fb s.t s.h op) := by
  simp only [fpCI, wants_some, fgd]
  cases wants1 (tget s.t d) w with
  | none => rfl
  | some b => cases b <;> rfl

theorem wkD_eq : ∀ (l : List CI) (fs : List (List Nat × List Nat)) (s : St) (n : List (List Nat × List Nat) → St → Option α), wkD E C fb l fs s n = match runFp E C fb l s with
    | some (s', gs) => n (fs.reverse ++ gs) s'
    | none => none
  | [], fs, s, n => by simp [wkD, runFp]
  | ⟨dst, op, g⟩ :: r, fs, s, n => by
    have step : ∀ f, (match stepCI E C fb ⟨dst, op, g⟩ s with
        | some s' => wkD E C fb r (f :: fs) s' n
        | none => none) = match (match some f, stepCI E C fb ⟨dst, op, g⟩ s with
        | some f, some s' => match runFp E C fb r s' with
          | some (s'', fs) => some (s'', f :: fs)
          | none => none
        | _, _ => none) with
        | some (s', gs) => n (fs.reverse ++ gs) s'
        | none => none := by
      intro f
      cases stepCI E C fb ⟨dst, op, g⟩ s with
      | none => rfl
      | some s' =>
        simp only [wkD_eq r (f :: fs) s' n]
        cases runFp E C fb r s' with
        | none => rfl
        | some p => obtain ⟨s2, gs⟩ := p; simp
    rw [wkD, runFp]
    cases g with
    | none =>
      have : fpCI E C fb ⟨dst, op, none⟩ s = fpOf E C fb s.t s.h op := rfl
      rw [this]
      simp only
      cases hf : fpOf E C fb s.t s.h op with
      | none => rfl
      | some f => simp only [ofp, wkO_eq]; exact step f
    | some p =>
      obtain ⟨d, w⟩ := p
      rw [fpCI_g]
      simp only
      cases hf : fgd (tget s.t d) w (fpOf E C fb s.t s.h op) with
      | none => rfl
      | some f => simp only [ofp, wkO_eq]; exact step f

def lpK (x : Option (Res × St)) (n : St → Option α) (e : Nat → St → Option α) (r : St → Option α) : Option α :=
  match x with
  | some (.norm, s) => n s
  | some (.exit i, s) => e i s
  | some (.ret, s) => r s
  | none => none

def okK (b : Bool) (x : Option α) : Option α := match b with
  | true => x
  | false => none

/-- A block is left by its own number. -/
def exitTo (id : Nat) (n : St → Option α) (e : Nat → St → Option α) (i : Nat) (s : St) : Option α :=
  match Nat.decEq i id with
  | isTrue _ => n s
  | isFalse _ => e i s

/-- Code, with what follows it where it ends, where it is left, where the function is. -/
def wk (E : Env) (C : Calls2) (L : LoopT) (fb : Nat) : CCode → St → (St → Option α) → (Nat → St → Option α) → (St → Option α) → Option α
  | .skip, s, n, _, _ => n s
  | .region ops, s, n, _, _ => wkR E C fb ops s n
  | .draw ops pairs, s, n, _, _ => match pairs.isEmpty && ops.all fun o => fpTot o.op with
    | true => wkR E C fb ops s n
    | false => wkD E C fb ops [] s fun fs s' => okK (pairsOk fs pairs) (n s')
  | .seq a b, s, n, e, r => wk E C L fb a s (fun s' => wk E C L fb b s' n e r) e r
  | .cond c a b, s, n, e, r => cnd (c.ev s.t) (wk E C L fb a s n e r) (wk E C L fb b s n e r)
  | .block id a, s, n, e, r => wk E C L fb a s n (exitTo id n e) r
  | .loop live a, s, n, e, r => lpK (L live a fb s) n e r
  | .exit id, s, _, e, _ => e id s
  | .ret, s, _, _, r => r s

theorem tot_runFp : ∀ (l : List CI) (s : St), (l.all fun o => fpTot o.op) = true → runCIs E C fb l s = match runFp E C fb l s with
    | some (s', _) => some s'
    | none => none
  | [], s, _ => rfl
  | ⟨dst, op, g⟩ :: r, s, h => by
    simp only [List.all_cons, Bool.and_eq_true] at h
    rw [runCIs, runFp]
    obtain ⟨f, hf⟩ := fpTot_some (E := E) (C := C) (fb := fb) h.1 s.t s.h
    cases hs : stepCI E C fb ⟨dst, op, g⟩ s with
    | none => cases fpCI E C fb ⟨dst, op, g⟩ s <;> rfl
    | some s' =>
      have : ∃ f, fpCI E C fb ⟨dst, op, g⟩ s = some f := by
        show ∃ f, (match wants s.t g with
          | some true => fpOf E C fb s.t s.h op
          | some false => some ([], [])
          | none => none) = some f
        unfold stepCI at hs
        split at hs
        · rename_i hw
          have hw : wants s.t g = some true := hw
          simp only [hw]; exact ⟨f, hf⟩
        · rename_i hw
          have hw : wants s.t g = some false := hw
          simp only [hw]; exact ⟨_, rfl⟩
        · cases hs
      obtain ⟨f', hf'⟩ := this
      simp only [hf', tot_runFp r s' h.2]
      cases runFp E C fb r s' with
      | none => rfl
      | some p => rfl

theorem wk_eq : ∀ (c : CCode) (s : St) (n : St → Option α) (e : Nat → St → Option α) (r : St → Option α), wk E C L fb c s n e r = lpK (exec E C L fb c s) n e r := by
  intro c
  induction c with
  | skip => exact fun _ _ _ _ => rfl
  | region ops =>
    intro s n e r
    rw [wk, wkR_eq, exec]
    cases runCIs E C fb ops s <;> rfl
  | draw ops pairs =>
    intro s n e r
    rw [wk, exec, runDraw]
    cases hb : pairs.isEmpty && ops.all fun o => fpTot o.op with
    | true =>
      simp only [Bool.and_eq_true, List.isEmpty_iff] at hb
      obtain ⟨h1, h2⟩ := hb
      subst h1
      simp only [wkR_eq, tot_runFp ops s h2]
      cases runFp E C fb ops s with
      | none => rfl
      | some p => simp [pairsOk, lpK]
    | false =>
      simp only [wkD_eq]
      cases runFp E C fb ops s with
      | none => rfl
      | some p =>
        obtain ⟨s', fs⟩ := p
        simp only [List.reverse_nil, List.nil_append]
        cases pairsOk fs pairs <;> rfl
  | seq a b iha ihb =>
    intro s n e r
    rw [wk, iha, exec]
    cases exec E C L fb a s with
    | none => rfl
    | some p =>
      obtain ⟨q, s'⟩ := p
      cases q with
      | norm => simp only [lpK]; exact ihb s' n e r
      | exit i => rfl
      | ret => rfl
  | cond c a b iha ihb =>
    intro s n e r
    rw [wk, iha, ihb, exec]
    cases c.ev s.t <;> try rfl
    rename_i b'
    cases b' <;> rfl
  | block id a iha =>
    intro s n e r
    rw [wk, iha, exec]
    cases exec E C L fb a s with
    | none => rfl
    | some p =>
      obtain ⟨q, s'⟩ := p
      cases q with
      | norm => rfl
      | exit i =>
        simp only [lpK, exitTo]
        cases h : Nat.decEq i id with
        | isTrue h1 => simp [h1]
        | isFalse h1 => simp [h1]
      | ret => rfl
  | loop live a _ => exact fun _ _ _ _ => rfl
  | exit id => exact fun _ _ _ _ => rfl
  | ret => exact fun _ _ _ _ => rfl

/-! With the calls and loops that any fuel gives. -/

noncomputable def W (E : Env) (fb : Nat) (c : CCode) (s : St) (n : St → Option α) (e : Nat → St → Option α) (r : St → Option α) : Option α :=
  wk E (callW E) (loopW E) fb c s n e r

theorem W_congr (fb : Nat) (c : CCode) (s : St) {n n' : St → Option α} {e : Nat → St → Option α} {r : St → Option α} (hn : ∀ s, n s = n' s) : W E fb c s n e r = W E fb c s n' e r := by
  rw [show n = n' from funext hn]
theorem W_congrE (fb : Nat) (c : CCode) (s : St) {n n' : St → Option α} {e e' : Nat → St → Option α} {r : St → Option α} (hn : ∀ s, n s = n' s) (he : ∀ i s, e i s = e' i s) : W E fb c s n e r = W E fb c s n' e' r := by
  rw [show n = n' from funext hn, show e = e' from funext fun i => funext (he i)]
theorem W_seq {fb : Nat} {a b : CCode} {s : St} {n : St → Option α} {e : Nat → St → Option α} {r : St → Option α} {k : St → Option α} (h : ∀ s, W E fb b s n e r = k s) : W E fb (.seq a b) s n e r = W E fb a s k e r :=
  W_congr fb a s h
theorem W_cond {fb : Nat} {c : Opd} {a b : CCode} {s : St} {n : St → Option α} {e : Nat → St → Option α} {r : St → Option α} {x y : Option α} (ha : W E fb a s n e r = x) (hb : W E fb b s n e r = y) :
    W E fb (.cond c a b) s n e r = cnd (c.ev s.t) x y := by
  rw [← ha, ← hb]; rfl
theorem W_block {fb id : Nat} {a : CCode} {s : St} {n : St → Option α} {e : Nat → St → Option α} {r : St → Option α} :
    W E fb (.block id a) s n e r = W E fb a s n (exitTo id n e) r := rfl

theorem W_loop {fb : Nat} {live : List Nat} {a : CCode} {s : St} {n : St → Option α} {e : Nat → St → Option α} {r : St → Option α} :
    W E fb (.loop live a) s n e r = W E fb a ⟨restrict live s.t, s.h⟩ (fun s' => W E fb (.loop live a) s' n e r) e r := by
  unfold W
  conv => lhs; rw [wk, loopW_eq, runLoop]
  rw [wk_eq a]
  cases hx : exec E (callW E) (loopW E) fb a ⟨restrict live s.t, s.h⟩ with
  | none => rfl
  | some p =>
    obtain ⟨q, s'⟩ := p
    cases q <;> rfl

theorem tget_restrict {live : List Nat} {t : Tmps} : ∀ {l : List Nat} {i : Nat}, i ∈ l → tget (l.map fun i => (i, tget t i)) i = tget t i
  | [], i, h => by cases h
  | j :: l, i, h => by
    simp only [List.map_cons, tget]
    split
    · rename_i e; rw [e]
    · rename_i e
      rcases List.mem_cons.1 h with h | h
      · exact (e h.symm).elim
      · exact tget_restrict (live := live) h

theorem restrict_twice (live : List Nat) (t : Tmps) : restrict live (restrict live t) = restrict live t :=
  List.map_congr_left fun i hi => by rw [restrict, tget_restrict (live := live) hi]

/-- A loop looks at what is live alone. -/
theorem W_loop_live {fb : Nat} {live : List Nat} {a : CCode} {s : St} {n : St → Option α} {e : Nat → St → Option α} {r : St → Option α} :
    W E fb (.loop live a) s n e r = W E fb (.loop live a) ⟨restrict live s.t, s.h⟩ n e r := by
  rw [W_loop, W_loop (s := ⟨restrict live s.t, s.h⟩), restrict_twice]

/-- What a function answers, out of its results. -/
def resK : List CRes → Heap → Tmps → (List AV → Option α) → Option α
  | [], _, _, K => K []
  | .t n :: rs, h, t, K => resK rs h t fun vs => K (tget t n :: vs)
  | .cell n agg size :: rs, h, t, K => ob (evLd agg size (tget t n) h) fun v => resK rs h t fun vs => K (v :: vs)

theorem resK_eq {h : Heap} {t : Tmps} : ∀ (rs : List CRes) (K : List AV → Option α), resK rs h t K = match resList h t rs with
    | some vs => K vs
    | none => none
  | [], _ => rfl
  | .t n :: rs, K => by
    rw [resK, resK_eq rs, resList, resOf]
    cases resList h t rs <;> rfl
  | .cell n agg size :: rs, K => by
    simp only [resK, resList, resOf, ob]
    cases evLd agg size (tget t n) h with
    | none => rfl
    | some v =>
      simp only [resK_eq rs]
      cases resList h t rs <;> rfl

def finP (rs : List CRes) (s : St) : Option (Ex AV) := resK rs s.h s.t fun vs => expo1 s.h (tupOf vs)
def finI (rs : List CRes) (s : St) : Option (AV × Heap) := resK rs s.h s.t fun vs => some (tupOf vs, s.h)

theorem callP_W {f : Nat} {cf : CFunc} {args : List AV} (hf : E.fn f = some cf) (hn : args.length = cf.params) :
    (callW E).p f args = W E 0 cf.body ⟨enumFrom 0 args, deadSlots cf.slots⟩ (finP cf.results) (fun _ _ => none) (finP cf.results) := by
  rw [call_eq hf, runBody, if_pos hn, W, wk_eq]
  cases exec E (callW E) (loopW E) 0 cf.body ⟨enumFrom 0 args, deadSlots cf.slots⟩ with
  | none => rfl
  | some p =>
    obtain ⟨q, s'⟩ := p
    cases q with
    | norm =>
      simp only [lpK, finP, resK_eq]
      cases resList s'.h s'.t cf.results <;> rfl
    | exit i => rfl
    | ret =>
      simp only [lpK, finP, resK_eq]
      cases resList s'.h s'.t cf.results <;> rfl

theorem callI_W {f : Nat} {cf : CFunc} {args : List AV} {fb : Nat} {h : Heap} (hf : E.fn f = some cf) (hn : args.length = cf.params) :
    (callW E).i f args fb h = W E fb cf.body ⟨enumFrom 0 args, if fb = h.length then h ++ deadSlots cf.slots else h⟩ (finI cf.results) (fun _ _ => none) (finI cf.results) := by
  rw [callW_i_eq, runIn, hf]
  have key : ∀ h', runBody E (callW E) (loopW E) cf args fb h' = W E fb cf.body ⟨enumFrom 0 args, h'⟩ (finI cf.results) (fun _ _ => none) (finI cf.results) := by
    intro h'
    rw [runBody, if_pos hn, W, wk_eq]
    cases exec E (callW E) (loopW E) fb cf.body ⟨enumFrom 0 args, h'⟩ with
    | none => rfl
    | some p =>
      obtain ⟨q, s'⟩ := p
      cases q with
      | norm =>
        simp only [lpK, finI, resK_eq]
        cases resList s'.h s'.t cf.results <;> rfl
      | exit i => rfl
      | ret =>
        simp only [lpK, finI, resK_eq]
        cases resList s'.h s'.t cf.results <;> rfl
  simp only
  split
  · exact key _
  · exact key _

end Go.Vm
