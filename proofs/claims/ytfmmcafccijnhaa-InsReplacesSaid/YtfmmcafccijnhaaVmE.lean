/- The value machine: when an operation of the translated program is one of the machine's. -/
import Derived.Test.YtfmmcafccijnhaaVmD
namespace Go.Vm

def matchLeaf : Value → AV → Bool
  | .int k n, .int k' n' => k == k' && n == n'
  | .bool b, .bool b' => b == b'
  | .string s, .str l => s.data.toList == l
  | .pointer none, .nilp => true
  | .slice none 0 0, .nils => true
  | .map none, .nilm => true
  | _, _ => false

def matchL : List Value → List AV → Bool
  | [], [] => true
  | v :: vs, a :: as => matchLeaf v a && matchL vs as
  | _, _ => false

def matchV : Value → AV → Bool
  | .agg vs, .agg cs => matchL vs.toList cs
  | .tuple vs, .tup cs => matchL vs.toList cs
  | v, a => matchLeaf v a

variable (P : Program) (nm : Nat → Option Nat)

def chkO : Operand → Opd → Bool
  | .tmp t, .t n => t == n
  | .const v, .c a => matchV v a
  | .func f, .c (.fn key []) => nm f == some key
  | _, _ => false

def chkOpt : Option Operand → Option Opd → Bool
  | none, none => true
  | some x, some y => chkO nm x y
  | _, _ => false

def chkOs : List Operand → List Opd → Bool
  | [], [] => true
  | x :: xs, y :: ys => chkO nm x y && chkOs xs ys
  | _, _ => false

def sizeIs (t n : Nat) : Bool := match P.info? t with
  | some i => i.size == n
  | none => false

def aggIs (t : Nat) (b : Bool) : Bool := match P.underlying t with
  | some (.struct _) => b
  | some (.array _ _) => b
  | some _ => !b
  | none => false

def zeroIs (t : Nat) (cs : List AV) : Bool := match P.info? t with
  | some i => match i.zero with
    | some z => matchL z.cells.toList cs
    | none => false
  | none => false

def elemIs (t es : Nat) : Bool := match P.underlying t with
  | some (.slice e) => sizeIs P e es
  | _ => false

def chkParts (place : Nat → Option (Nat × Nat)) : List (Nat × Operand) → List (Nat × Nat × Opd) → Bool
  | [], [] => true
  | (i, x) :: r, (off, n, y) :: r' => place i == some (off, n) && chkO nm x y && chkParts place r r'
  | _, _ => false

def chkRows : List (Nat × Operand) → List (Nat × Opd) → Bool
  | [], [] => true
  | (i, x) :: r, (j, y) :: r' => i == j && chkO nm x y && chkRows r r'
  | _, _ => false

/-- The kind of a plain type. -/
def kindOf (t : Nat) : Option Nat := match P.underlying t with
  | some (.int _) => some 0
  | some .bool => some 1
  | some .string => some 2
  | _ => none

/-- A struct of whole numbers, bools and texts, one behind the other. -/
def flatFields : List Field → Nat → List Nat → Bool
  | [], _, [] => true
  | f :: fs, n, k :: ks => f.name != "_" && f.offset == n && kindOf P f.type == some k && sizeIs P f.type 1 && aggIs P f.type false && flatFields fs (n + 1) ks
  | _, _, _ => false

def flatStruct (t : Nat) (ks : List Nat) : Bool := match P.underlying t with
  | some (.struct fs) => flatFields P fs.toList 0 ks && !(P.stoodInHeld t)
  | _ => false

def keyOk (t : Nat) (agg : Bool) (ks : List Nat) : Bool := !agg && match ks with
  | [k] => kindOf P t == some k
  | _ => false

def chkOp (o : Oper) (c : COp) : Bool :=
  match o.op, c with
  | .move x, .mv y => chkO nm x y
  | .assign x, .mv y => chkO nm x y
  | .pick a b d, .pick a' b' d' => chkO nm a a' && chkO nm b b' && chkO nm d d'
  | .alloc t, .new _ cs => zeroIs P t cs
  | .box _ x, .box _ y => chkO nm x y
  | .build t ps, .build zero qs => zeroIs P t zero &&
    match P.underlying t with
    | some (.struct fs) => fs.toList.all (fun f => (P.info? f.type).isSome) &&
        chkParts nm (fun i => (fs[i]?).map fun f => (f.offset, P.cellsOf f.type)) ps.toList qs
    | some (.array _ e) => (P.info? e).isSome && chkParts nm (fun i => some (i * P.cellsOf e, P.cellsOf e)) ps.toList qs
    | _ => false
  | .buildSlice t len ps, .buildS _ es len' zero qs => len == len' && decide (len * es ≤ 2 ^ 24) && decide (0 < es) && chkRows nm ps.toList qs &&
    match P.underlying t with
    | some (.slice e) => sizeIs P e es && zeroIs P e zero
    | _ => false
  | .load t a, .ld agg n b => aggIs P t agg && sizeIs P t n && (agg || n == 1) && chkO nm a b
  | .store t a v, .st n a' v' => sizeIs P t n && chkO nm a a' && chkO nm v v'
  | .nilCheck x, .nilchk y => chkO nm x y
  | .binOp op _ x y _, .bin op' x' y' => op == op' && chkO nm x x' && chkO nm y y'
  | .binOp op t x y _, .eqb neq x' y' => op == (if neq then .neq else .eql) && chkO nm x x' && chkO nm y y' &&
    (match P.underlying t with
     | some .bool => true
     | _ => false)
  | .binOp op t x y _, .eqn k neq x' y' => op == (if neq then .neq else .eql) && chkO nm x x' && chkO nm y y' &&
    (match P.underlying t with
     | some (.pointer _) => k == 0
     | some (.slice _) => k == 1
     | some (.map _ _) => k == 2
     | _ => false)
  | .binOp op t x y _, .eqa neq ks x' y' => op == (if neq then .neq else .eql) && chkO nm x x' && chkO nm y y' && flatStruct P t ks && !(P.eqGuardType P.depth t)
  | .unOp op _ x, .un op' y => op == op' && chkO nm x y
  | .convert s d x, .cvi k y => chkO nm x y && (P.underlying s).isSome && (match P.underlying d with
    | some (.int k') => k == k'
    | _ => false)
  | .convert s d x, .s2b _ y => chkO nm x y && (P.underlying s).isSome && (match P.underlying d with
    | some (.slice e) => (match P.underlying e with
      | some (.int .u8) => true
      | _ => false)
    | _ => false)
  | .convert s d x, .b2s y => chkO nm x y && (match P.underlying s, P.underlying d with
    | some (.slice e), some .string => (match P.underlying e with
      | some (.int .u8) => true
      | _ => false)
    | _, _ => false)
  | .makeSlice t l c, .mkS _ es bytes zero l' c' => chkO nm l l' && chkO nm c c' && decide (0 < es) &&
    (match P.underlying t with
     | some (.slice e) => sizeIs P e es && zeroIs P e zero && P.bytesOf e == bytes
     | _ => false)
  | .slice t x lo hi none, .slc es y lo' hi' => elemIs P t es && chkO nm x y && chkOpt nm lo lo' && chkOpt nm hi hi'
  | .slice t x lo hi none, .sls y lo' hi' => (match P.underlying t with
    | some .string => true
    | _ => false) && chkO nm x y && chkOpt nm lo lo' && chkOpt nm hi hi'
  | .fieldAddr t x i, .fa off y => chkO nm x y && (match P.underlying t with
    | some (.struct fs) => (match fs[i]? with
      | some f => f.offset == off && (match P.info? f.type with
        | some ti => ti.size != 0
        | none => false)
      | none => false)
    | _ => false)
  | .field t x i, .fld agg off n y => chkO nm x y && (match P.underlying t with
    | some (.struct fs) => (match fs[i]? with
      | some f => f.offset == off && aggIs P f.type agg && sizeIs P f.type n && (agg || n == 1)
      | none => false)
    | _ => false)
  | .indexAddr t x i, .ixs es y j => elemIs P t es && chkO nm x y && chkO nm i j
  | .indexAddr t x i, .ixa len es y j => chkO nm x y && chkO nm i j && (match P.underlying t with
    | some (.array n e) => n == len && sizeIs P e es
    | _ => false)
  | .index t x i, .ixv agg len es y j => chkO nm x y && chkO nm i j && (match P.underlying t with
    | some (.array n e) => n == len && aggIs P e agg && sizeIs P e es && (agg || es == 1)
    | _ => false)
  | .index t x i, .ixstr y j => chkO nm x y && chkO nm i j && (match P.underlying t with
    | some .string => true
    | _ => false)
  | .extract x i, .ext i' y => chkO nm x y && i == i'
  | .makeFunc (.func f) first caps, .mkf key caps' => nm f == some key && first.size == 0 && chkOs nm caps.toList caps'
  | .makeMap _ none, .mkm _ => true
  | .lookup t x k ok, .mget agg ks zero ok' y k' => ok == ok' && chkO nm x y && chkO nm k k' && (match P.underlying t with
    | some (.map kt e) => keyOk P kt agg ks && (match P.info? e with
      | some i => (match i.zero with
        | some z => matchV z zero
        | none => false)
      | none => false)
    | _ => false)
  | .mapUpdate t m k v, .mput agg ks m' k' v' => chkO nm m m' && chkO nm k k' && chkO nm v v' && (match P.underlying t with
    | some (.map kt _) => keyOk P kt agg ks
    | _ => false)
  | .call { callee := .builtin .len, args, argTypes }, .len k y => (match args.toList, argTypes.toList with
    | [x], [t] => chkO nm x y && (match P.underlying t with
      | some .string => k == 0
      | some (.slice _) => k == 1
      | some (.map _ _) => k == 2
      | _ => false)
    | _, _ => false)
  | .call { callee := .builtin .append, args, argTypes }, .app _ es bytes x' y' => (match args.toList, argTypes.toList with
    | [x, y], [t, u] => chkO nm x x' && chkO nm y y' && decide (0 < es) && (match P.underlying u with
        | some (.int _) => false
        | some _ => true
        | none => false) && (match P.underlying t with
        | some (.slice e) => sizeIs P e es && P.bytesOf e == bytes && decide (0 < bytes) && (match P.info? e with
          | some i => i.zero.any fun z => z.cells.size == es
          | none => false)
        | _ => false)
    | _, _ => false)
  | .call { callee := .builtin .copy, args, argTypes }, .cpy es x' y' => (match args.toList, argTypes.toList with
    | [x, y], t :: _ => chkO nm x x' && chkO nm y y' && decide (0 < es) && elemIs P t es
    | _, _ => false)
  | .call { callee := .value (.func f), args, .. }, .call _ _ key args' => nm f == some key && chkOs nm args.toList args'
  | .call { callee := .value x, args, .. }, .callv _ _ y args' => chkO nm x y && chkOs nm args.toList args'
  | _, _ => false

/-! Values and constants. -/

variable {P nm} {w : World} {F : Nat → Prop} {m : MapT} {G : List Nat}

theorem matchLeaf_rep {v : Value} {a : AV} (h : matchLeaf v a = true) : PRep nm w F v a := by
  unfold matchLeaf at h
  split at h
  · simp at h; obtain ⟨rfl, rfl⟩ := h; exact .int _ _
  · simp at h; subst h; exact .bool _
  · simp at h; subst h; exact .str _
  · exact .nilp
  · exact .nils
  · exact .nilm
  · cases h

theorem matchL_rep : ∀ {vs : List Value} {as : List AV}, matchL vs as = true → vs.length = as.length ∧ ∀ (j : Nat) (v : Value) (l : AV), vs[j]? = some v → as[j]? = some l → PRep nm w F v l
  | [], [], _ => ⟨rfl, fun j v l h => by simp at h⟩
  | v :: vs, a :: as, h => by
    simp only [matchL, Bool.and_eq_true] at h
    obtain ⟨h1, h2⟩ := matchL_rep h.2
    refine ⟨by simp [h1], fun j x l hx hl => ?_⟩
    cases j with
    | zero => simp at hx hl; subst hx; subst hl; exact matchLeaf_rep h.1
    | succ j => simp at hx hl; exact h2 j x l hx hl
  | [], _ :: _, h => by cases h
  | _ :: _, [], h => by cases h

theorem matchV_rep {v : Value} {a : AV} (h : matchV v a = true) : PRep nm w F v a := by
  unfold matchV at h
  split at h
  · obtain ⟨h1, h2⟩ := matchL_rep (nm := nm) (w := w) (F := F) h
    exact .agg _ _ (by simpa using h1) (fun j v l hv hl => h2 j v l (by simpa using hv) hl)
  · obtain ⟨h1, h2⟩ := matchL_rep (nm := nm) (w := w) (F := F) h
    exact .tup _ _ (by simpa using h1) (fun j v l hv hl => h2 j v l (by simpa using hv) hl)
  · exact matchLeaf_rep h

/-- The temporaries are told. -/
def TRep (nm : Nat → Option Nat) (w : World) (F : Nat → Prop) (m : MapT) (G : List Nat) (a : Act) (t : Tmps) : Prop := ∀ i, Rep nm w F m G (a.tmps.getD i undef) (tget t i)

theorem chkO_rep {a : Act} {t : Tmps} (hT : TRep nm w F m G a t) {x : Operand} {y : Opd} (h : chkO nm x y = true) : Rep nm w F m G (a.eval x) (y.ev t) := by
  unfold chkO at h
  split at h
  · simp at h; subst h; exact hT _
  · exact .pure (matchV_rep h)
  · simp at h; exact .pure (.fn _ _ h)
  · cases h

theorem chkOs_rep {a : Act} {t : Tmps} (hT : TRep nm w F m G a t) : ∀ {xs : List Operand} {ys : List Opd}, chkOs nm xs ys = true →
    (xs.map a.eval).length = (ys.map (·.ev t)).length ∧ ∀ (j : Nat) (v : Value) (l : AV), (xs.map a.eval)[j]? = some v → (ys.map (·.ev t))[j]? = some l → Rep nm w F m G v l
  | [], [], _ => ⟨rfl, fun j v l h => by simp at h⟩
  | x :: xs, y :: ys, h => by
    simp only [chkOs, Bool.and_eq_true] at h
    obtain ⟨h1, h2⟩ := chkOs_rep hT h.2
    refine ⟨by simpa using h1, fun j v l hv hl => ?_⟩
    cases j with
    | zero => simp at hv hl; subst hv; subst hl; exact chkO_rep hT h.1
    | succ j => simp at hv hl; exact h2 j v l (by simpa using hv) (by simpa using hl)
  | [], _ :: _, h => by cases h
  | _ :: _, [], h => by cases h

/-! Taking a value's relation apart. -/

theorem Rep.int_inv {v : Value} {k : IntKind} {n : Int} (h : Rep nm w F m G v (.int k n)) : v = .int k n := by cases h with | pure h => cases h; rfl
theorem Rep.bool_inv {v : Value} {b : Bool} (h : Rep nm w F m G v (.bool b)) : v = .bool b := by cases h with | pure h => cases h; rfl
theorem Rep.str_inv {v : Value} {s : List UInt8} (h : Rep nm w F m G v (.str s)) : ∃ b : ByteArray, v = .string b ∧ b.data.toList = s := by
  cases h with | pure h => cases h; exact ⟨_, rfl, rfl⟩
theorem Rep.nilp_inv {v : Value} (h : Rep nm w F m G v .nilp) : v = .pointer none := by cases h with | pure h => cases h; rfl
theorem Rep.nils_inv {v : Value} (h : Rep nm w F m G v .nils) : v = .slice none 0 0 := by cases h with | pure h => cases h; rfl
theorem Rep.nilm_inv {v : Value} (h : Rep nm w F m G v .nilm) : v = .map none := by cases h with | pure h => cases h; rfl

theorem Rep.agg_inv {v : Value} {cs : List AV} (h : Rep nm w F m G v (.agg cs)) :
    ∃ vs : Array Value, v = .agg vs ∧ vs.size = cs.length ∧ ∀ (j : Nat) (v : Value) (l : AV), vs[j]? = some v → cs[j]? = some l → Rep nm w F m G v l := by
  cases h with
  | pure h => cases h with | agg vs cs hn hr => exact ⟨vs, rfl, hn, fun j v l h1 h2 => .pure (hr j v l h1 h2)⟩
  | agg vs cs hn hr => exact ⟨vs, rfl, hn, hr⟩

theorem Rep.tup_inv {v : Value} {cs : List AV} (h : Rep nm w F m G v (.tup cs)) :
    ∃ vs : Array Value, v = .tuple vs ∧ vs.size = cs.length ∧ ∀ (j : Nat) (v : Value) (l : AV), vs[j]? = some v → cs[j]? = some l → Rep nm w F m G v l := by
  cases h with
  | pure h => cases h with | tup vs cs hn hr => exact ⟨vs, rfl, hn, fun j v l h1 h2 => .pure (hr j v l h1 h2)⟩
  | tup vs cs hn hr => exact ⟨vs, rfl, hn, hr⟩

theorem Rep.leaf {v : Value} {a : AV} (h : Rep nm w F m G v a) (hl : leaf1 a = true) : v.oneCell' = true ∧ v.cells = #[v] ∧ cellsOf a = [a] := by
  cases h with
  | pure h => cases h <;> first | exact ⟨rfl, rfl, rfl⟩ | cases hl
  | undef => cases hl
  | lp => exact ⟨rfl, rfl, rfl⟩
  | ls => exact ⟨rfl, rfl, rfl⟩
  | lm => exact ⟨rfl, rfl, rfl⟩
  | agg => cases hl
  | tup => cases hl
  | fn => exact ⟨rfl, rfl, rfl⟩

/-- The cells of a value whose cells may be stored. -/
theorem Rep.cells {v : Value} {a : AV} (h : Rep nm w F m G v a) (hl : (cellsOf a).all leaf1 = true) :
    v.cells.size = (cellsOf a).length ∧ (∀ (j : Nat) (x : Value) (l : AV), v.cells[j]? = some x → (cellsOf a)[j]? = some l → leaf1 l = true ∧ x.oneCell' = true ∧ Rep nm w F m G x l) := by
  by_cases ha : ∃ cs, a = .agg cs
  · obtain ⟨cs, rfl⟩ := ha
    obtain ⟨vs, rfl, hn, hr⟩ := h.agg_inv
    refine ⟨hn, fun j x l hx hl2 => ?_⟩
    have h1 : leaf1 l = true := by
      rw [List.all_eq_true] at hl
      exact hl l (List.mem_of_getElem? hl2)
    exact ⟨h1, ((hr j x l hx hl2).leaf h1).1, hr j x l hx hl2⟩
  · have hc : cellsOf a = [a] := by
      cases a <;> first | rfl | exact (ha ⟨_, rfl⟩).elim
    rw [hc] at hl ⊢
    simp at hl
    obtain ⟨h1, h2, _⟩ := h.leaf hl
    rw [h2]
    refine ⟨rfl, fun j x l hx hl2 => ?_⟩
    cases j with
    | zero => simp at hx hl2; subst hx; subst hl2; exact ⟨hl, h1, h⟩
    | succ j => simp at hx

/-! What is asked of types. -/

theorem sizeIs_spec {t n : Nat} (h : sizeIs P t n = true) : ∃ i, P.info? t = some i ∧ i.size = n := by
  unfold sizeIs at h
  split at h
  · rename_i i hi; exact ⟨i, hi, by simpa using h⟩
  · cases h

theorem run_sizeOf {t n : Nat} (h : sizeIs P t n = true) (w : World) : (sizeOf t).run P w = .ok n w := by
  obtain ⟨i, hi, hn⟩ := sizeIs_spec h
  simp [sizeOf, typeInfo, hi, hn]

theorem run_typeInfo {t : Nat} {i : TypeInfo} (h : P.info? t = some i) (w : World) : (typeInfo t).run P w = .ok i w := by simp [typeInfo, h]

theorem run_underlying {t : Nat} {d : TypeDesc} (h : P.underlying t = some d) (w : World) : (underlying t).run P w = .ok d w := by simp [underlying, h]

theorem run_isAgg {t : Nat} {b : Bool} (h : aggIs P t b = true) (w : World) : (isAgg t).run P w = .ok b w := by
  unfold aggIs at h
  split at h
  · rename_i fs hu; simp [isAgg, underlying, hu, h]
  · rename_i n e hu; simp [isAgg, underlying, hu, h]
  · rename_i d hne hne2 hu
    have : b = false := by simpa using h
    subst this
    simp only [isAgg, Sem.run_bind, run_underlying hu, Result.andThen_ok]
    rfl
  · cases h

theorem zeroIs_spec {t : Nat} {cs : List AV} (h : zeroIs P t cs = true) : ∃ i z, P.info? t = some i ∧ i.zero = some z ∧ matchL z.cells.toList cs = true := by
  unfold zeroIs at h
  split at h
  · rename_i i hi
    split at h
    · rename_i z hz; exact ⟨i, z, hi, hz, h⟩
    · cases h
  · cases h

theorem run_zeroValue {t : Nat} {i : TypeInfo} {z : Value} (h : P.info? t = some i) (hz : i.zero = some z) (w : World) : (zeroValue t).run P w = .ok z w := by
  simp [zeroValue, typeInfo, h, hz]

theorem elemIs_spec {t es : Nat} (h : elemIs P t es = true) : ∃ e, P.underlying t = some (.slice e) ∧ sizeIs P e es = true := by
  unfold elemIs at h
  split at h
  · rename_i e he; exact ⟨e, he, h⟩
  · cases h

end Go.Vm
