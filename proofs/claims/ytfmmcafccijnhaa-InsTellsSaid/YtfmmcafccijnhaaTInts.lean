/- Lists of numbers: clones, and whether two are the same. -/
import Derived.Test.YtfmmcafccijnhaaTOut
namespace Go.Vm
attribute [local simp] runBody enumFrom deadSlots exec runCIs stepCI wants evOp tget tput Opd.ev newBox newArr place callAny callP fzList fz_bool fz_int fz_str fz_nils fz_rs heapOf_nil heapOf_cons evFa evLd rowsAt objAt aggOr evLen evBin isShift binInt runDraw runFp leaf1 fpCI fpOf ids1
  pairsOk fpApart meets resList resOf tupOf expo1_int expo1_bool expo1_str expo1_nils expo1_rs pure1 scalar1 cellsOf binStr fillRows fillParts evIxs E_pure fz_ls fz11_int fz11_bool fz11_str fz11_nils fz11_rs expo1_ls_eq evApp rowsOf evEqn isNil evSlc optIx asNat placeAll reloc relocAgg relocLeaf okOC relocOC

def iRows (L : List Int) : List (List AV) := L.map fun n => [.int .i64 n]
theorem iRows_len (L : List Int) : (iRows L).length = L.length := by simp [iRows]
theorem iRows_pure (L : List Int) : (iRows L).all (·.all pure1) = true := by simp [iRows, pure1]
theorem iRows_scalar (L : List Int) : (iRows L).all (·.all scalar1) = true := by simp [iRows, scalar1]
theorem iRows_get {L : List Int} {i : Nat} (h : i < L.length) : (iRows L)[i]? = some [.int .i64 L[i]] := by simp [iRows, List.getElem?_eq_getElem h]
theorem iRows_nil {L : List Int} : iRows L = [] ↔ L = [] := by simp [iRows]

theorem clone_nil : (callW E).p 39 [.nils] = some ⟨.nils, [], true, [], []⟩ := lift_p 20 (by kernel_rfl)

theorem iRows_take (L : List Int) : (iRows L).take L.length = iRows L := by rw [← iRows_len]; exact List.take_length
theorem fz12_iRows (h : Heap) (L : List Int) : fzList (fzList (fz h fuelF)) (iRows L) = some ⟨iRows L, true, []⟩ := by rw [fz12_rows h (iRows_pure L), iRows_scalar]
theorem fz11_iRows (h : Heap) (L : List Int) : fzList (fzList (fz h 11)) (iRows L) = some ⟨iRows L, true, []⟩ := by rw [fz11_rows h (iRows_pure L), iRows_scalar]
attribute [local simp] iRows_len iRows_take fz12_iRows fz11_iRows

theorem clone_spec (L : List Int) (hL : L.length ≤ 2 ^ 40) : (callW E).p 39 [.rs 1 (iRows L)] = some ⟨.ls 0 0 1 0 L.length, [.arr false false 1 (iRows L)], true, [], []⟩ := by
  rw [call_eq (show E.fn 39 = some c_slices_Clone_int_int from rfl)]
  have h1 : (2 * L.length + 512) * 8 ≤ 281474976710656 := by
    have : (2:Nat)^40 = 1099511627776 := by decide
    omega
  simp [c_slices_Clone_int_int, h1]

/-- A list of numbers that a function answers, or nothing. -/
inductive Ints : Ex AV → List Int → Prop
  | nils : Ints ⟨.nils, [], true, [], []⟩ []
  | ls (L : List Int) : Ints ⟨.ls 0 0 1 0 L.length, [.arr false false 1 (iRows L)], true, [], []⟩ L

/-- The same as what is only read. -/
inductive RInts : AV → List Int → Prop
  | nils : RInts .nils []
  | rs (L : List Int) : RInts (.rs 1 (iRows L)) L

theorem Ints.fz {u : Ex AV} {L : List Int} (h : Ints u L) : u.fresh = true ∧ ∃ v, fz (heapOf u.objs) fuelF u.v = some v ∧ pure1 v.v = true ∧ RInts v.v L := by
  cases h with
  | nils => exact ⟨rfl, _, fz_nils _, rfl, .nils⟩
  | ls => exact ⟨rfl, ⟨.rs 1 (iRows L), true, [0]⟩, by simp, rfl, .rs L⟩

def ints_body : CCode := ((loop1 c_regletref10_Ints.body).getD ([], .skip)).2

theorem ints_loop {va vb : AV} {L : List Int} (ha : va = .rs 1 (iRows L)) (hb : vb = .rs 1 (iRows L)) (hl : L.length ≤ 2^62) (fb : Nat) (h : Heap) :
   ∀ (d i : Nat) (t : Tmps), i + d = L.length → tget t 0 = va → tget t 1 = vb → tget t 5 = .int .i64 i → ∃ t', (loopW E [0, 1, 5] ints_body fb ⟨t, h⟩) = some (.exit 0, ⟨t', h⟩) := by
  subst ha; subst hb
  intro d
  induction d with
  | zero =>
    intro i t hi h0 h1 h5
    rw [loopW_eq]
    have e2 : ¬ ((i : Int) < (L.length : Int)) := by omega
    simp [runLoop, restrict, h0, h1, h5, e2, ints_body, c_regletref10_Ints, loop1]
  | succ d ih =>
    intro i t hi h0 h1 h5
    rw [loopW_eq]
    have hlt : i < L.length := by omega
    have h2 : ((i : Int) < (L.length : Int)) := by omega
    have hw := wrap_add1 hlt hl
    have key := fun t' e0 e1 e2 => ih (i+1) t' (by omega) e0 e1 e2
    simp only [ints_body, c_regletref10_Ints, loop1, Option.getD_some] at key
    simp [runLoop, restrict, h0, h1, h5, h2, iRows_get hlt, hw, ints_body, c_regletref10_Ints, loop1]
    exact key _ rfl rfl rfl

theorem ints_spec {va vb : AV} {L : List Int} (ha : RInts va L) (hb : RInts vb L) (hl : L.length ≤ 2^62) : (callW E).p 11 [va, vb] = some ⟨.bool true, [], true, [], []⟩ := by
  have empty : ∀ va vb, RInts va [] → RInts vb [] → (callW E).p 11 [va, vb] = some ⟨.bool true, [], true, [], []⟩ := by
    intro va vb ha hb
    cases ha <;> cases hb <;> exact lift_p 20 (by kernel_rfl)
  cases ha with
  | nils => exact empty _ _ .nils hb
  | rs => cases hb with
    | nils => exact empty _ _ (.rs []) .nils
    | rs =>
      rw [call_eq (show E.fn 11 = some c_regletref10_Ints from rfl)]
      obtain ⟨t', e1⟩ := ints_loop (va := .rs 1 (iRows L)) (vb := .rs 1 (iRows L)) rfl rfl hl 0 [] L.length 0 [(5, .int .i64 0), (10, .bool false), (9, .int .i64 L.length), (8, .rs 1 (iRows L)), (7, .int .i64 L.length), (6, .rs 1 (iRows L)), (4, .bool false), (0, .rs 1 (iRows L)), (1, .rs 1 (iRows L))] (by omega) rfl rfl rfl
      simp only [ints_body, c_regletref10_Ints, loop1, Option.getD_some] at e1
      simp [c_regletref10_Ints, e1]
end Go.Vm
