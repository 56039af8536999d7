/- Lists that a function builds by appending, at a place of its own. -/
import Derived.Test.YthemfgeagohdhaaLTyp
namespace Go.Vm
open Cel

def nz {α : Type} : List α → Option (List α)
  | [] => none
  | x :: L => some (x :: L)
@[simp] theorem lst_nz {α : Type} (L : List α) : lst (nz L) = L := by cases L <;> rfl

section
variable {α : Type} [Cel α]
def slotV (α : Type) [Cel α] (j g : Nat) : List α → AV
  | [] => .nils
  | _ :: L => .ls j g (es α) 0 (L.length + 1)
def slotO (g : Nat) (o : AO) : List α → AO
  | [] => o
  | x :: L => ⟨g, .arr false false (es α) ((x :: L).map enc)⟩
@[simp] theorem slotV_nil (j g : Nat) : slotV α j g [] = .nils := rfl
@[simp] theorem slotO_nil (g : Nat) (o : AO) : slotO g o ([] : List α) = o := rfl
@[simp] theorem evLen_slot (j g : Nat) (L : List α) (H : Heap) : evLen 1 (slotV α j g L) H = some (.int .i64 L.length) := by
  cases L <;> simp [slotV, evLen]
@[simp] theorem cellsOf_slot (j g : Nat) (L : List α) : cellsOf (slotV α j g L) = [slotV α j g L] := by cases L <;> rfl
@[simp] theorem leaf1_slot (j g : Nat) (L : List α) : leaf1 (slotV α j g L) = true := by cases L <;> rfl
theorem ids_slot (j g : Nat) (L : List α) : ids1 (slotV α j g L) = [] ∨ ids1 (slotV α j g L) = [j] := by
  cases L
  · exact .inl rfl
  · exact .inr rfl
theorem slot_rows {H : Heap} {j g : Nat} {o : AO} {x : α} {L : List α} (h : H[j]? = some (slotO g o (x :: L))) : rowsAt H j g = some (false, es α, (x :: L).map enc) := by
  simp [rowsAt, objAt, h, slotO]
theorem fz_slot {H : Heap} {j g : Nat} {o : AO} {L : List α} (h : H[j]? = some (slotO g o L)) : fz H fuelF (slotV α j g L) = some ⟨slA (nz L), L.all scal, ids1 (slotV α j g L)⟩ := by
  cases L with
  | nil => rfl
  | cons x L =>
    rw [slotV, fz_ls, slot_rows h]
    simp only [List.drop_zero, Nat.zero_add, List.length_map, List.length_cons, Nat.le_refl, and_self, if_true]
    rw [show ((x :: L).map (enc (α := α))).take (L.length + 1) = (x :: L).map enc from take_rows (x :: L), fz_rows11]
    simp [slA, nz, ids1]
theorem expo1_slot {H : Heap} {j g : Nat} {o : AO} {L : List α} (h : H[j]? = some (slotO g o L)) : expo1 H (slotV α j g L) = some ⟨match L with | [] => .nils | _ :: _ => .ls 0 0 (es α) 0 L.length, match L with | [] => [] | _ :: _ => [.arr false false (es α) (L.map enc)], L.all scal, [], []⟩ := by
  cases L with
  | nil => rfl
  | cons x L =>
    rw [slotV, expo1_ls_eq, slot_rows h]
    simp only [List.drop_zero, Nat.zero_add, List.length_map, List.length_cons, Nat.le_refl, and_self, if_true]
    rw [show ((x :: L).map (enc (α := α))).take (L.length + 1) = (x :: L).map enc from take_rows (x :: L), fz_rows]
    simp
theorem expo1_slotX {H : Heap} {j g : Nat} {o : AO} {L : List α} (h : H[j]? = some (slotO g o L)) : expo1 H (slotV α j g L) = some (exO (nz L)) := by
  rw [expo1_slot h]
  cases L <;> rfl
theorem rowsOf_slot {H : Heap} {j g : Nat} {o : AO} {L : List α} (h : H[j]? = some (slotO g o L)) : rowsOf H (es α) (slotV α j g L) = some (L.map enc) := by
  cases L with
  | nil => rfl
  | cons x L =>
    have := slot_rows h
    simp only [slotV, rowsOf, this]
    simp
theorem app_slot {H : Heap} {fb j g b : Nat} {o : AO} {y : AV} {L M : List α} (hy : rowsOf H (es α) y = some (M.map enc)) (h : H[fb + j]? = some (slotO g o L)) (hs : (2 * (L.length + M.length) + 512) * b ≤ 2 ^ 48) :
    ∃ g', evApp fb (some j) (es α) b (slotV α (fb + j) g L) y H = some (slotV α (fb + j) g' (L ++ M), H.set (fb + j) (slotO g' o (L ++ M))) := by
  unfold evApp
  rw [hy]
  have hlt : fb + j < H.length := (List.getElem?_eq_some_iff.1 h).1
  cases L with
  | nil =>
    cases M with
    | nil =>
      refine ⟨g, ?_⟩
      simp only [slotV, List.map_nil, List.isEmpty_nil, if_true, List.append_nil, slotO]
      rw [slotO] at h
      rw [show H.set (fb + j) o = H from by
        refine List.ext_getElem? fun i => ?_
        rw [List.getElem?_set]
        split
        · rename_i e; subst e; simp [h]
        · rfl]
    | cons y M =>
      refine ⟨o.gen + 1, ?_⟩
      rw [slotO] at h
      have hm : (M.length + 1) * b ≤ 281474976710656 := Nat.le_trans (Nat.mul_le_mul_right b (by simp only [List.length_nil, List.length_cons]; omega)) hs
      simp [slotV, hm, newArr, place, h, slotO]
  | cons x L =>
    refine ⟨g + 1, ?_⟩
    have h' : H[fb + j]? = some ⟨g, .arr false false (es α) ((x :: L).map enc)⟩ := h
    simp only [slotV, h']
    rw [if_pos (by simp; simpa using hs)]
    simp only [List.drop_zero]
    rw [show ((x :: L).map (enc (α := α))).take (L.length + 1) = (x :: L).map enc from take_rows (x :: L)]
    simp [slotV, slotO, Nat.add_right_comm]
end

@[simp] theorem rowsOf_ls (h : Heap) (es id g es1 off len : Nat) : rowsOf h es (.ls id g es1 off len) = match rowsAt h id g with
    | some (_, es', rows) => if es1 = es ∧ es' = es ∧ off + len ≤ rows.length then some ((rows.drop off).take len) else none
    | none => none := rfl

theorem fz_slotI {H : Heap} {j g : Nat} {o : AO} {L : List Int} (h : H[j]? = some (slotO g o L)) : fz H fuelF (slotV Int j g L) = some ⟨slA (nz L), true, ids1 (slotV Int j g L)⟩ := by
  rw [fz_slot h]
  simp

/-- One more number. -/
theorem app_int {H : Heap} {fb j g : Nat} {o : AO} {y : AV} {L : List Int} {n : Int} (hy : rowsOf H 1 y = some [[.int .i64 n]]) (h : H[fb + j]? = some (slotO g o L)) (hs : L.length ≤ 2 ^ 38) :
    ∃ g', evApp fb (some j) 1 8 (slotV Int (fb + j) g L) y H = some (slotV Int (fb + j) g' (L ++ [n]), H.set (fb + j) (slotO g' o (L ++ [n]))) := by
  have e : (2:Nat)^38 = 274877906944 := by decide
  refine app_slot (α := Int) (M := [n]) hy h ?_
  have : (2 * (L.length + [n].length) + 512) * 8 ≤ (2 * (274877906944 + 1) + 512) * 8 := Nat.mul_le_mul_right 8 (by simp only [List.length_singleton]; omega)
  exact Nat.le_trans this (by decide)
theorem wrap_next {i : Int} {n : Nat} (h0 : 0 ≤ i) (h : i < n) (hn : n ≤ 9223372036854775807) : IntKind.wrap .i64 (i + 1) = i + 1 := by
  rw [wrap_i64] <;> omega
@[simp] theorem exO_nz {α : Type} [Cel α] (x : α) (L : List α) : exO (nz (x :: L)) = ⟨.ls 0 0 (es α) 0 (L.length + 1), [.arr false false (es α) ((x :: L).map enc)], (x :: L).all scal, [], []⟩ := rfl
theorem expo1_int1 {H : Heap} {id g : Nat} {a : Int} (h : rowsAt H id g = some (false, 1, [[.int .i64 a]])) : expo1 H (.ls id g 1 0 1) = some (exO (nz [a])) := expo1_own (α := Int) (L := [a]) h
theorem expo1_int2 {H : Heap} {id g : Nat} {a b : Int} (h : rowsAt H id g = some (false, 1, [[.int .i64 a], [.int .i64 b]])) : expo1 H (.ls id g 1 0 2) = some (exO (nz [a, b])) := expo1_own (α := Int) (L := [a, b]) h

abbrev D0 : AO := ⟨0, .dead⟩
section
variable {α : Type} [Cel α]
/-- Appended to the first part of an object. -/
theorem app_stk {H : Heap} {fb id g b : Nat} {sl : Option Nat} {y : AV} {L M T : List α} (hy : rowsOf H (es α) y = some (M.map enc)) (h : H[id]? = some ⟨g, .arr false false (es α) ((L ++ T).map enc)⟩) (hs : (2 * (L.length + M.length) + 512) * b ≤ 2 ^ 48) :
    evApp fb sl (es α) b (.ls id g (es α) 0 L.length) y H = some (.ls id (g + 1) (es α) 0 (L ++ M).length, H.set id ⟨g + 1, .arr false false (es α) ((L ++ M).map enc)⟩) := by
  unfold evApp
  rw [hy]
  simp only [h]
  rw [if_pos (by simp; simpa using hs)]
  simp only [List.drop_zero, List.map_append, List.length_append]
  rw [List.take_append_of_le_length (by simp), take_rows, List.length_map]
/-- What a callee made, at a place of one's own. -/
theorem call_slot {E : Env} {C : Calls2} {fb j f : Nat} {args : List AV} {H : Heap} {fa : Fz (List AV)} {N : List α} {o : AO} (hE : E.pure f = true) (ha : fzList (fz H fuelF) args = some fa) (hc : C.p f fa.v = some (exO (nz N)))
    (hf : N.all scal = true ∨ fa.ids = []) (ho : H[fb + j]? = some o) :
    callAny E C fb (some j) false f args H = some (slotV α (fb + j) (o.gen + 1) N, H.set (fb + j) (slotO (o.gen + 1) o N)) := by
  have hlt : fb + j < H.length := (List.getElem?_eq_some_iff.1 ho).1
  simp only [callAny, hE, if_true, callP, ha, hc]
  have hfr : ((exO (nz N)).fresh || fa.ids.isEmpty) = true := by
    rw [exO_fresh, lst_nz]
    rcases hf with hf | hf
    · rw [hf]; rfl
    · rw [hf]; simp
  rw [if_pos hfr]
  cases N with
  | nil =>
    simp only [nz, exO, placeAll, Bool.false_eq_true, if_false, slotV, slotO]
    rw [show H.set (fb + j) o = H from by
        refine List.ext_getElem? fun i => ?_
        rw [List.getElem?_set]
        split
        · rename_i e; subst e; simp [ho]
        · rfl]
    rfl
  | cons x N =>
    simp only [nz, Bool.false_eq_true, if_false, place_ex, ho, reloc_ex, slotV, slotO, List.length_cons]
end
/-- The last of a stack, and the stack without it. -/
theorem stk_ld {H : Heap} {id g : Nat} {L T : List Int} {i : Int} (h : rowsAt H id g = some (false, 1, (L ++ i :: T).map enc)) : evLd false 1 (.lp id g L.length 0) H = some (.int .i64 i) := by
  simp [evLd, h]
theorem stk_ix (id g : Nat) (L : Nat) : evIxs 1 (.ls id g 1 0 (L + 1)) (.int .i64 (L : Int)) = some (.lp id g L 0) := by
  have : (L : Int) < (L : Int) + 1 := by omega
  simp [evIxs, this]
theorem stk_slc (id g : Nat) (L : Nat) : evSlcO 1 (.ls id g 1 0 (L + 1)) none (some (.int .i64 (L : Int))) = some (.ls id g 1 0 L) := by
  have : (L : Int) ≤ (L : Int) + 1 := by omega
  simp [evSlcO, evSlc, optIxv, asNat, this]
@[simp] theorem exO_nz0 {α : Type} [Cel α] : exO (nz ([] : List α)) = ⟨.nils, [], true, [], []⟩ := rfl
/-- One thing of a list is another one. -/
theorem evSt_at {α : Type} [Cel α] {H : Heap} {id g i : Nat} {L : List α} {v : AV} {y : α} (h : H[id]? = some ⟨g, .arr false false (es α) (L.map enc)⟩) (hi : i < L.length) (hv : cellsOf v = enc y) :
    evSt (es α) (.lp id g i 0) v H = some (.tup [], H.set id ⟨g, .arr false false (es α) ((L.set i y).map enc)⟩) := by
  have hr : rowsAt H id g = some (false, es α, L.map enc) := by simp [rowsAt, objAt, h]
  have hg : (L.map (enc (α := α)))[i]? = some (enc L[i]) := by simp [hi]
  rw [evSt_lp, hr]
  simp only [hg, hv]
  rw [if_pos ⟨len y, by rw [len]; omega, leaf y⟩]
  rw [splice_all (by rw [len, len]), setRows, h]
  simp only
  rw [List.map_set]
theorem app_bound {a b : Nat} (h : a + b ≤ 137438953472) : (2 * (a + b) + 512) * 8 ≤ 2 ^ 48 := by
  have : (2 * (a + b) + 512) * 8 ≤ (2 * 137438953472 + 512) * 8 := Nat.mul_le_mul_right 8 (by omega)
  exact Nat.le_trans this (by decide)
end Go.Vm
