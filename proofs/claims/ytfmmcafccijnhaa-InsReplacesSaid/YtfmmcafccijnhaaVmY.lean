/- The value machine: small facts for stepping through a function's code. -/
import Derived.Test.YtfmmcafccijnhaaVmX
namespace Go.Vm

theorem fz_int (h : Heap) (k : IntKind) (n : Int) : fz h fuelF (.int k n) = some ⟨.int k n, true, []⟩ := rfl
theorem fz_bool (h : Heap) (b : Bool) : fz h fuelF (.bool b) = some ⟨.bool b, true, []⟩ := rfl
theorem fz_str (h : Heap) (b : List UInt8) : fz h fuelF (.str b) = some ⟨.str b, true, []⟩ := rfl
theorem fz_nils (h : Heap) : fz h fuelF .nils = some ⟨.nils, true, []⟩ := rfl
theorem fz_rs (h : Heap) (es : Nat) (rows : List (List AV)) : fz h fuelF (.rs es rows) = some ⟨.rs es rows, rows.isEmpty, []⟩ := rfl
theorem fz_rp (h : Heap) (cs : List AV) : fz h fuelF (.rp cs) = some ⟨.rp cs, cs.isEmpty, []⟩ := rfl
theorem fz_p {v : AV} (hp : pure1 v = true) (h : Heap) (k : Nat) : fz h (k + 1) v = some ⟨v, scalar1 v, []⟩ := by
  cases v <;> simp_all [fz, pure1]
theorem fzList_p {cs : List AV} (h : Heap) (k : Nat) (hp : cs.all pure1 = true) : fzList (fz h (k + 1)) cs = some ⟨cs, cs.all scalar1, []⟩ := by
  induction cs with
  | nil => rfl
  | cons c cs ih =>
    simp only [List.all_cons, Bool.and_eq_true] at hp
    rw [fzList, fz_p hp.1, ih hp.2]; rfl
theorem fz_agg_eq (h : Heap) (k : Nat) (cs : List AV) : fz h (k + 1) (.agg cs) = match fzList (fz h k) cs with
    | some r => some ⟨.agg r.v, r.fresh, r.ids⟩
    | none => none := by simp only [fz]; rfl
theorem fz_agg {cs : List AV} (h : Heap) (hp : cs.all pure1 = true) : fz h fuelF (.agg cs) = some ⟨.agg cs, cs.all scalar1, []⟩ := by
  show fz h (11 + 1) _ = _
  rw [fz_agg_eq, fzList_p h 10 hp]
theorem fz_pv {v : AV} (hp : pure1 v = true) (h : Heap) : fz h fuelF v = some ⟨v, scalar1 v, []⟩ := fz_p hp h 11

theorem heapOf_nil : heapOf [] = [] := rfl
theorem heapOf_cons (o : OC) (os : List OC) : heapOf (o :: os) = ⟨0, o⟩ :: heapOf os := rfl

/-- A heap's slice of whole rows of pure cells, as what is only read. -/
theorem fzList_rows (h : Heap) (k : Nat) : ∀ {rows : List (List AV)}, rows.all (·.all pure1) = true → fzList (fzList (fz h (k + 1))) rows = some ⟨rows, rows.all (·.all scalar1), []⟩
  | [], _ => rfl
  | r :: rows, hp => by
    simp only [List.all_cons, Bool.and_eq_true] at hp
    rw [fzList, fzList_p h k hp.1, fzList_rows h k hp.2]; rfl

theorem lift_p {E : Env} {f : Nat} {args : List AV} {r : Ex AV} (k : Nat) (h : (both E k).1.p f args = some r) : (callW E).p f args = some r := (callW_p _ _ _).2 ⟨k, h⟩

/-- A call, by its function's code. -/
theorem call_eq {E : Env} {f : Nat} {cf : CFunc} {args : List AV} (h : E.fn f = some cf) : (callW E).p f args = match runBody E (callW E) (loopW E) cf args 0 (deadSlots cf.slots) with
    | some (v, h) => expo1 h v
    | none => none := by
  rw [callW_p_eq, runPure, h]; rfl

theorem expo1_int (h : Heap) (k : IntKind) (n : Int) : expo1 h (.int k n) = some ⟨.int k n, [], true, [], []⟩ := rfl
theorem expo1_bool (h : Heap) (b : Bool) : expo1 h (.bool b) = some ⟨.bool b, [], true, [], []⟩ := rfl
theorem expo1_str (h : Heap) (s : List UInt8) : expo1 h (.str s) = some ⟨.str s, [], true, [], []⟩ := rfl
theorem expo1_nils (h : Heap) : expo1 h .nils = some ⟨.nils, [], true, [], []⟩ := rfl
theorem expo1_rs (h : Heap) (es : Nat) (rows : List (List AV)) : expo1 h (.rs es rows) = some ⟨.rs es rows, [], rows.isEmpty, [], []⟩ := rfl

/-- A slice of the callee's own becomes the caller's. -/
theorem expo1_ls {h : Heap} {id g es off len : Nat} {rows : List (List AV)} (hr : rowsAt h id g = some (false, es, rows)) (hl : off + len ≤ rows.length) (hp : ((rows.drop off).take len).all (·.all pure1) = true) :
    expo1 h (.ls id g es off len) = some ⟨.ls 0 0 es 0 len, [.arr false false es ((rows.drop off).take len)], ((rows.drop off).take len).all (·.all scalar1), [], []⟩ := by
  have e : expo h (11 + 1) (.ls id g es off len) [] = some ⟨.ls 0 0 es 0 len, [.arr false false es ((rows.drop off).take len)], ((rows.drop off).take len).all (·.all scalar1), [id], []⟩ := by
    rw [expo]
    simp only [hr]
    rw [if_pos ⟨trivial, hl⟩]
    have := fzList_rows h 11 hp
    rw [show fuelF = 11 + 1 from rfl, this]
    rfl
  rw [expo1, show fuelF = 11 + 1 from rfl, e]
  simp [apartIds]

theorem fz_ls (h : Heap) (id g es1 off len : Nat) : fz h fuelF (.ls id g es1 off len) = match rowsAt h id g with
    | some (_, es, rows) => if es1 = es ∧ off + len ≤ rows.length then (match fzList (fzList (fz h 11)) ((rows.drop off).take len) with
      | some r => some ⟨.rs es r.v, r.fresh, id :: r.ids⟩
      | none => none) else none
    | none => none := by
  show fz h (11 + 1) _ = _
  rw [fz]
  rfl
theorem fz11_int (h : Heap) (k : IntKind) (n : Int) : fz h 11 (.int k n) = some ⟨.int k n, true, []⟩ := rfl
theorem fz11_bool (h : Heap) (b : Bool) : fz h 11 (.bool b) = some ⟨.bool b, true, []⟩ := rfl
theorem fz11_str (h : Heap) (b : List UInt8) : fz h 11 (.str b) = some ⟨.str b, true, []⟩ := rfl
theorem fz11_nils (h : Heap) : fz h 11 .nils = some ⟨.nils, true, []⟩ := rfl
theorem fz11_rs (h : Heap) (es : Nat) (rows : List (List AV)) : fz h 11 (.rs es rows) = some ⟨.rs es rows, rows.isEmpty, []⟩ := rfl
theorem fz11_rows {rows : List (List AV)} (h : Heap) (hp : rows.all (·.all pure1) = true) : fzList (fzList (fz h 11)) rows = some ⟨rows, rows.all (·.all scalar1), []⟩ := fzList_rows h 10 hp
theorem fz12_rows {rows : List (List AV)} (h : Heap) (hp : rows.all (·.all pure1) = true) : fzList (fzList (fz h fuelF)) rows = some ⟨rows, rows.all (·.all scalar1), []⟩ := fzList_rows h 11 hp

theorem expo1_ls_eq (h : Heap) (id g es1 off len : Nat) : expo1 h (.ls id g es1 off len) = match rowsAt h id g with
    | some (false, es, rows) => if es1 = es ∧ off + len ≤ rows.length then (match fzList (fzList (fz h fuelF)) ((rows.drop off).take len) with
      | some r => if r.ids.contains id then none else some ⟨.ls 0 0 es 0 len, [.arr false false es r.v], r.fresh, [], []⟩
      | none => none) else none
    | some (true, _, _) => (match exFz h (.ls id g es1 off len) [] with
      | some r => if apartIds r.xs r.fs then some ⟨r.v, r.objs, r.fresh, [], []⟩ else none
      | none => none)
    | none => none := by
  unfold expo1
  conv => lhs; rw [show fuelF = 11 + 1 from rfl, expo]
  cases rowsAt h id g with
  | none => rfl
  | some p =>
    obtain ⟨b, es, rows⟩ := p
    cases b with
    | true => rfl
    | false =>
      by_cases hc : es1 = es ∧ off + len ≤ rows.length
      · simp only [if_pos hc]
        cases fzList (fzList (fz h fuelF)) (List.take len (List.drop off rows)) with
        | none => rfl
        | some r =>
          simp only [List.length_nil, List.nil_append, apartIds, List.contains_nil, Bool.not_false, Bool.true_and, Bool.and_true]
          cases r.ids.contains id <;> rfl
      · simp only [if_neg hc]

end Go.Vm
