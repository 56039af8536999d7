/- A number in a list: the loop of regletref10's search. -/
import Derived.Test.YtfmmcafccijnhaaTEnv
namespace Go.Vm
attribute [local simp] runBody enumFrom deadSlots exec runCIs stepCI wants evOp tget tput Opd.ev newBox newArr place callAny callP fzList fz_bool fz_int fz_str fz_nils fz_rs heapOf_nil evFa evLd rowsAt objAt aggOr evLen evBin isShift binInt runDraw runFp leaf1 fpCI fpOf ids1
  pairsOk fpApart meets resList resOf tupOf expo1_int expo1_bool expo1_str expo1_nils expo1_rs pure1 scalar1 cellsOf binStr fillRows fillParts evIxs
theorem E_pure (f : Nat) : E.pure f = true := rfl
attribute [local simp] E_pure

/-- The first loop of a body. -/
def loop1 : CCode → Option (List Nat × CCode)
  | .loop l a => some (l, a)
  | .seq a b => match loop1 a with
    | some x => some x
    | none => loop1 b
  | .block _ a => loop1 a
  | .cond _ a b => match loop1 a with
    | some x => some x
    | none => loop1 b
  | _ => none

def in_live : List Nat := ((loop1 c_regletref10_in.body).getD ([], .skip)).1
def in_body : CCode := ((loop1 c_regletref10_in.body).getD ([], .skip)).2

theorem wrap_add1 {i n : Nat} (h : i < n) (hn : n ≤ 2 ^ 62) : IntKind.wrap .i64 ((i : Int) + 1) = ((i + 1 : Nat) : Int) := by
  have : (2:Nat)^62 = 4611686018427387904 := by decide
  simp [IntKind.wrap, IntKind.bits, IntKind.signed]; omega

theorem in_loop (op : Int) (l : List Int) (hl : l.length ≤ 2^62) (fb : Nat) (h : Heap) :
   ∀ (d i : Nat) (t : Tmps), i + d = l.length → tget t 0 = .int .i64 op → tget t 1 = .rs 1 (l.map fun n => [.int .i64 n]) → tget t 5 = .int .i64 i → 
    ∃ t', (loopW E in_live in_body fb ⟨t, h⟩) = some (if (l.drop i).contains op then .ret else .exit 0, ⟨t', h⟩) ∧ ((l.drop i).contains op = true → tget t' 4 = .bool true) := by
  intro d
  induction d with
  | zero =>
    intro i t hi h0 h1 h5
    rw [loopW_eq]
    have e : List.drop i l = [] := List.drop_eq_nil_of_le (by omega)
    have e2 : ¬ ((i : Int) < (l.length : Int)) := by omega
    simp [runLoop, restrict, h0, h1, h5, e, e2, in_live, in_body, c_regletref10_in, loop1]
  | succ d ih =>
    intro i t hi h0 h1 h5
    rw [loopW_eq]
    have hlt : i < l.length := by omega
    have hd : List.drop i l = l[i] :: l.drop (i+1) := by rw [List.drop_eq_getElem_cons hlt]
    have h2 : ((i : Int) < (l.length : Int)) := by omega
    have hw := wrap_add1 hlt hl
    by_cases he : l[i] = op
    · simp [runLoop, restrict, h0, h1, h5, h2, hd, List.getElem?_eq_getElem hlt, hw, in_live, in_body, c_regletref10_in, loop1, he]
    · have he2 : (l[i] == op) = false := by simpa using he
      have he3 : (op == l[i]) = false := by simpa using Ne.symm he
      obtain ⟨t', e1, e2⟩ := ih (i+1) ((5, .int .i64 (i+1 : Nat)) :: (11, .int .i64 (i+1 : Nat)) :: (10, .int .i64 i) :: (17, .bool false) :: (16, .int .i64 op) :: (15, .int .i64 l[i]) :: (14, .rp [.int .i64 l[i]]) :: (13, .int .i64 i) :: (12, .rs 1 (l.map fun n => [.int .i64 n])) ::
         (9, .bool true) :: (8, .int .i64 l.length) :: (7, .rs 1 (l.map fun n => [.int .i64 n])) :: (6, .int .i64 i) :: [(0, .int .i64 op), (1, .rs 1 (l.map fun n => [.int .i64 n])), (5, .int .i64 i)]) (by omega) rfl rfl rfl
      refine ⟨t', ?_, ?_⟩
      · rw [hd]
        simp only [List.contains_cons, he3, Bool.false_or]
        rw [← e1]
        simp [runLoop, restrict, h0, h1, h5, h2, List.getElem?_eq_getElem hlt, hw, in_live, in_body, c_regletref10_in, loop1, he2]
      · rw [hd]
        simp only [List.contains_cons, he3, Bool.false_or]
        exact e2

theorem in_spec (op : Int) (l : List Int) (hl : l.length ≤ 2^62) : (callW E).p 42 [.int .i64 op, .rs 1 (l.map fun n => [.int .i64 n])] = some ⟨.bool (l.contains op), [], true, [], []⟩ := by
  rw [call_eq (show E.fn 42 = some c_regletref10_in from rfl)]
  obtain ⟨t', e1, e2⟩ := in_loop op l hl 0 [] l.length 0 [(5, .int .i64 0), (4, .bool false), (0, .int .i64 op), (1, .rs 1 (l.map fun n => [.int .i64 n]))] (by omega) rfl rfl rfl
  rw [show in_live = [0, 1, 5] from rfl] at e1
  simp only [in_body, c_regletref10_in, loop1, Option.getD_some] at e1
  rw [List.drop_zero] at e1 e2
  cases hc : l.contains op with
  | true =>
    rw [hc] at e1 e2
    simp only [if_true] at e1
    simp [c_regletref10_in, e1, e2 rfl]
  | false =>
    rw [hc] at e1 e2
    simp only [Bool.false_eq_true, if_false] at e1
    simp [c_regletref10_in, e1]
end Go.Vm
