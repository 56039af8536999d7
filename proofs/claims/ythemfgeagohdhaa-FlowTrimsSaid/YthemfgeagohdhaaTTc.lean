/- flow.Trim. The document's answer whether an operation is a call. The document's answers for single operations: numbers in a list, ways, ends. The document's Next, Caught. The document's All, Reach. The document's answers for single operations. The document's answers for names and types: the program's own. The document's answer whether a call, an instruction is well formed. -/
import Derived.Test.YthemfgeagohdhaaTX
import Derived.Test.YthemfgeagohdhaaTTb
set_option linter.unusedSimpArgs false
set_option linter.unusedVariables false
set_option linter.unusedSectionVars false
namespace Go.Vm
open Cel
theorem app_ins {H : Heap} {fb j g : Nat} {o : AO} {y : AV} {L : List Ins} {x : Ins} (hy : rowsOf H 9 y = some [enc x]) (h : H[fb + j]? = some (slotO g o L)) (hs : L.length ≤ 2 ^ 38) :
    ∃ g', evApp fb (some j) 9 96 (slotV Ins (fb + j) g L) y H = some (slotV Ins (fb + j) g' (L ++ [x]), H.set (fb + j) (slotO g' o (L ++ [x]))) := by
  have e : (2:Nat)^38 = 274877906944 := by decide
  refine app_slot (α := Ins) (M := [x]) hy h ?_
  have : (2 * (L.length + [x].length) + 512) * 96 ≤ (2 * (274877906944 + 1) + 512) * 96 := Nat.mul_le_mul_right 96 (by simp only [List.length_singleton]; omega)
  exact Nat.le_trans this (by decide)
theorem app_row {H : Heap} {fb j g : Nat} {o : AO} {y : AV} {L : List Row} {x : Row} (hy : rowsOf H 4 y = some [enc x]) (h : H[fb + j]? = some (slotO g o L)) (hs : L.length ≤ 2 ^ 38) :
    ∃ g', evApp fb (some j) 4 40 (slotV Row (fb + j) g L) y H = some (slotV Row (fb + j) g' (L ++ [x]), H.set (fb + j) (slotO g' o (L ++ [x]))) := by
  have e : (2:Nat)^38 = 274877906944 := by decide
  refine app_slot (α := Row) (M := [x]) hy h ?_
  have : (2 * (L.length + [x].length) + 512) * 40 ≤ (2 * (274877906944 + 1) + 512) * 40 := Nat.mul_le_mul_right 40 (by simp only [List.length_singleton]; omega)
  exact Nat.le_trans this (by decide)
section
variable (f : Fn) (w : Wf f)
include w
theorem Trim_nops (o1 o4 o5 o6 o7 o8 o9 o10 o11 : AO) : ∀ (d i : Nat) (o3 : AO), i + d = (lst f.code).length →
    ∃ o3', q9_L35 (.lp 0 1 0 0) (.lp 1 1 0 0) (.ls 2 1 1 0 (lst f.code).length) (slA f.code) (.int .i64 (lst f.code).length) (.int .i64 i) [AB f, o1, AL 1 (kpL f i), o3, o4, o5, o6, o7, o8, o9, o10, o11] =
      q9_34 (.lp 0 1 0 0) (.lp 1 1 0 0) (.ls 2 1 1 0 (lst f.code).length) [AB f, o1, AL 1 (kpL f (lst f.code).length), o3', o4, o5, o6, o7, o8, o9, o10, o11] := by
  have hl := w.n2
  intro d
  induction d with
  | zero =>
    intro i o3 hi
    have hn : ¬ ((i : Int) < ((lst f.code).length : Int)) := by omega
    have hi' : i = (lst f.code).length := by omega
    rw [q9_L35_go]
    exact ⟨o3, by simp [q9_39, q9_38, hi']⟩
  | succ d ih =>
    intro i o3 hi
    have hlt : i < (lst f.code).length := by omega
    have hc : ((i : Int) < ((lst f.code).length : Int)) := by omega
    have k1 := ixs_ins (o := f.code) (i := i) (insAt_lt hlt) .i64
    have hw := wrap_up hlt (by omega)
    have ix := ixAt (n := (lst f.code).length) (p := (i : Int)) (by omega) hc 2 1 .i64
    rw [show ((i : Int)).toNat = i by omega] at ix
    obtain ⟨o3', ih⟩ := ih (i + 1) ⟨o3.gen + 1, .arr true false 9 [enc (insAt f i)]⟩ (by omega)
    push_cast at ih
    refine ⟨o3', ?_⟩
    rw [q9_L35_go, ← ih]
    by_cases hop : (insAt f i).op = 33
    · have st := evSt_at (H := [AB f, o1, AL 1 (kpL f i), AX (o3.gen + 1) (insAt f i), o4, o5, o6, o7, o8, o9, o10, o11]) (α := Bool) (id := 2) (g := 1) (i := i) (L := kpL f i) (v := .bool false) (y := false) rfl (by rw [kpL_len]; exact hlt) rfl
      rw [kpL_nop hop] at st
      simp only [es_bool, List.set_cons_zero, List.set_cons_succ] at st
      have e : q9_39 (.lp 0 1 0 0) (.lp 1 1 0 0) (.ls 2 1 1 0 (lst f.code).length) (slA f.code) (.int .i64 (lst f.code).length) (.int .i64 i) [AB f, o1, AL 1 (kpL f i), o3, o4, o5, o6, o7, o8, o9, o10, o11] =
          ob (evIxs 1 (.ls 2 1 1 0 (lst f.code).length) (.int .i64 i)) fun v35 => oh (evSt 1 v35 (.bool false) [AB f, o1, AL 1 (kpL f i), AX (o3.gen + 1) (insAt f i), o4, o5, o6, o7, o8, o9, o10, o11]) fun _ h22 =>
            q9_36 (.lp 0 1 0 0) (.lp 1 1 0 0) (.ls 2 1 1 0 (lst f.code).length) (slA f.code) (.int .i64 (lst f.code).length) (.int .i64 i) h22 := by
        simp [q9_39, q9_38, q9_37, hc, k1, hop]
      rw [e, ix, ob_some, st, oh_some]
      simp only [q9_36, evBin_add, ob_some, hw]
    · rw [kpL_op hop]
      simp [q9_39, q9_38, q9_37, q9_36, hc, k1, hop, hw]
theorem Trim_place (o1 o3 o5 o6 o7 o8 o9 o10 o11 : AO) : ∀ (d i : Nat), i + d = (lst f.code).length →
    q9_L25 (.lp 0 1 0 0) (.lp 1 1 0 0) (.ls 2 1 1 0 (lst f.code).length) (.ls 4 1 1 0 ((lst f.code).length + 1)) (.int .i64 (plc f i)) (.int .i64 (lst f.code).length) (.int .i64 i)
        [AB f, o1, AL 1 (kpL f (lst f.code).length), o3, AI 1 (plcL f i), o5, o6, o7, o8, o9, o10, o11] =
      q9_23 (.lp 0 1 0 0) (.lp 1 1 0 0) (.ls 2 1 1 0 (lst f.code).length) (.ls 4 1 1 0 ((lst f.code).length + 1)) [AB f, o1, AL 1 (kpL f (lst f.code).length), o3, AI 1 (plcL f ((lst f.code).length + 1)), o5, o6, o7, o8, o9, o10, o11] := by
  have hl := w.n2
  intro d
  induction d with
  | zero =>
    intro i hi
    have hn : ¬ ((i : Int) < ((lst f.code).length : Int)) := by omega
    have hi' : i = (lst f.code).length := by omega
    have st := evSt_at (H := [AB f, o1, AL 1 (kpL f (lst f.code).length), o3, AI 1 (plcL f i), o5, o6, o7, o8, o9, o10, o11]) (α := Int) (id := 4) (g := 1) (i := i) (L := plcL f i) (v := .int .i64 (plc f i)) (y := (plc f i : Int)) rfl (by rw [plcL_len]; omega) rfl
    rw [plcL_set] at st
    simp only [es_int, List.set_cons_zero, List.set_cons_succ] at st
    have ix := ixAt (n := (lst f.code).length + 1) (p := ((lst f.code).length : Int)) (by omega) (by omega) 4 1 .i64
    rw [show (((lst f.code).length : Int)).toNat = i by omega] at ix
    have l0 : ∀ t : Heap, evLd false 1 (.lp 0 1 0 3) (AB f :: t) = some (slA f.code) := fun t => by simp
    rw [q9_L25_go]
    simp only [q9_29, evBin_lss, hn, decide_false, ob_some, q9_28, cnd_f, q9_24, evFa_lp, Nat.zero_add, l0, evLen_sl, ix, st, oh_some]
    rw [hi']
  | succ d ih =>
    intro i hi
    have hlt : i < (lst f.code).length := by omega
    have hc : ((i : Int) < ((lst f.code).length : Int)) := by omega
    have hw := wrap_up hlt (by omega)
    have st := evSt_at (H := [AB f, o1, AL 1 (kpL f (lst f.code).length), o3, AI 1 (plcL f i), o5, o6, o7, o8, o9, o10, o11]) (α := Int) (id := 4) (g := 1) (i := i) (L := plcL f i) (v := .int .i64 (plc f i)) (y := (plc f i : Int)) rfl (by rw [plcL_len]; omega) rfl
    rw [plcL_set] at st
    simp only [es_int, List.set_cons_zero, List.set_cons_succ] at st
    have ix := ixAt (n := (lst f.code).length + 1) (p := (i : Int)) (by omega) (by omega) 4 1 .i64
    have ix2 := ixAt (n := (lst f.code).length) (p := (i : Int)) (by omega) hc 2 1 .i64
    rw [show ((i : Int)).toNat = i by omega] at ix ix2
    have l2 := ld_at (α := Bool) (H := [AB f, o1, AL 1 (kpL f (lst f.code).length), o3, AI 1 (plcL f (i + 1)), o5, o6, o7, o8, o9, o10, o11]) (id := 2) (g := 1) (v := .bool (keepB f i)) rfl (kpL_get hlt) rfl
    have ih := ih (i + 1) (by omega)
    have hle := plc_le f i
    push_cast at ih
    rw [q9_L25_go, ← ih]
    have e : q9_29 (.lp 0 1 0 0) (.lp 1 1 0 0) (.ls 2 1 1 0 (lst f.code).length) (.ls 4 1 1 0 ((lst f.code).length + 1)) (.int .i64 (plc f i)) (.int .i64 (lst f.code).length) (.int .i64 i)
        [AB f, o1, AL 1 (kpL f (lst f.code).length), o3, AI 1 (plcL f i), o5, o6, o7, o8, o9, o10, o11] = cnd (.bool (keepB f i))
          (ob (evBin .add (.int .i64 (plc f i)) (.int .i64 1)) fun v57 => q9_26 (.lp 0 1 0 0) (.lp 1 1 0 0) (.ls 2 1 1 0 (lst f.code).length) (.ls 4 1 1 0 ((lst f.code).length + 1)) v57 (.int .i64 (lst f.code).length) (.int .i64 i) [AB f, o1, AL 1 (kpL f (lst f.code).length), o3, AI 1 (plcL f (i + 1)), o5, o6, o7, o8, o9, o10, o11])
          (q9_26 (.lp 0 1 0 0) (.lp 1 1 0 0) (.ls 2 1 1 0 (lst f.code).length) (.ls 4 1 1 0 ((lst f.code).length + 1)) (.int .i64 (plc f i)) (.int .i64 (lst f.code).length) (.int .i64 i) [AB f, o1, AL 1 (kpL f (lst f.code).length), o3, AI 1 (plcL f (i + 1)), o5, o6, o7, o8, o9, o10, o11]) := by
      simp only [q9_29, evBin_lss, hc, decide_true, ob_some, q9_28, cnd_t, q9_27, ix, st, oh_some, ix2, l2]
    rw [e]
    have hw2 : IntKind.wrap .i64 ((plc f i : Int) + 1) = (plc f i : Int) + 1 := by rw [wrap_i64] <;> omega
    cases hk : keepB f i with
    | true =>
      have hp : plc f (i + 1) = plc f i + 1 := by rw [plc, hk]; rfl
      rw [hp]
      simp only [cnd_t, evBin_add, ob_some, q9_26, hw, hw2]
      push_cast
      rfl
    | false =>
      have hp : plc f (i + 1) = plc f i := by rw [plc, hk]; rfl
      rw [hp]
      simp only [cnd_f, evBin_add, ob_some, q9_26, hw]
abbrev AG (L : List Ins) (gc : Nat) (R : List Row) (gr : Nat) : AO := ⟨1, .arr true false 5 [[slA f.regs, slA f.params, .int .i64 f.ret, slotV Ins 8 gc L, slotV Row 11 gr R]]⟩
theorem Trim_code (o1 o3 o9 o10 o11 : AO) : ∀ (d i gc : Nat) (o6 o7 : AO), i + d = (lst f.code).length →
    ∃ gc' o6' o7', q9_L10 (.lp 0 1 0 0) (.lp 1 1 0 0) (.ls 2 1 1 0 (lst f.code).length) (.ls 4 1 1 0 ((lst f.code).length + 1)) (.lp 5 1 0 0) (slA f.code) (.int .i64 (lst f.code).length) (.int .i64 i)
        [AB f, o1, AL 1 (kpL f (lst f.code).length), o3, AI 1 (plcL f ((lst f.code).length + 1)), AG f (trimG f i) gc [] 0, o6, o7, slotO gc D0 (trimG f i), o9, o10, o11] =
      q9_8 (.lp 0 1 0 0) (.lp 1 1 0 0) (.ls 2 1 1 0 (lst f.code).length) (.ls 4 1 1 0 ((lst f.code).length + 1)) (.lp 5 1 0 0)
        [AB f, o1, AL 1 (kpL f (lst f.code).length), o3, AI 1 (plcL f ((lst f.code).length + 1)), AG f (trimG f (lst f.code).length) gc' [] 0, o6', o7', slotO gc' D0 (trimG f (lst f.code).length), o9, o10, o11] := by
  have hl := w.n2
  intro d
  induction d with
  | zero =>
    intro i gc o6 o7 hi
    have hi' : i = (lst f.code).length := by omega
    have hn : ¬ ((i : Int) < ((lst f.code).length : Int)) := by omega
    refine ⟨gc, o6, o7, ?_⟩
    rw [q9_L10_go]
    simp only [q9_19, evBin_lss, hn, decide_false, ob_some, q9_18, cnd_f]
    rw [hi']
  | succ d ih =>
    intro i gc o6 o7 hi
    have hlt : i < (lst f.code).length := by omega
    have hc : ((i : Int) < ((lst f.code).length : Int)) := by omega
    have k1 := ixs_ins (o := f.code) (i := i) (insAt_lt hlt) .i64
    have hw := wrap_up hlt (by omega)
    have hle := plc_le f i
    have hgl := trimG_len f i
    have hld := fun h => w.leads hlt h
    rw [q9_L10_go]
    have ix2 := ixAt (n := (lst f.code).length) (p := (i : Int)) (by omega) hc 2 1 .i64
    rw [show ((i : Int)).toNat = i by omega] at ix2
    have lK : ∀ (a b c d e g h k l : AO), evLd false 1 (.lp 2 1 i 0) [AB f, o1, AL 1 (kpL f (lst f.code).length), a, b, c, d, e, g, h, k, l] = some (.bool (keepB f i)) := fun a b c d e g h k l =>
      ld_at (α := Bool) (id := 2) (g := 1) (v := .bool (keepB f i)) rfl (kpL_get hlt) rfl
    have e19 : q9_19 (.lp 0 1 0 0) (.lp 1 1 0 0) (.ls 2 1 1 0 (lst f.code).length) (.ls 4 1 1 0 ((lst f.code).length + 1)) (.lp 5 1 0 0) (slA f.code) (.int .i64 (lst f.code).length) (.int .i64 i)
        [AB f, o1, AL 1 (kpL f (lst f.code).length), o3, AI 1 (plcL f ((lst f.code).length + 1)), AG f (trimG f i) gc [] 0, o6, o7, slotO gc D0 (trimG f i), o9, o10, o11] =
        q9_14 (.lp 0 1 0 0) (.lp 1 1 0 0) (.ls 2 1 1 0 (lst f.code).length) (.ls 4 1 1 0 ((lst f.code).length + 1)) (.lp 5 1 0 0) (.int .i64 i) (.lp 6 (o6.gen + 1) 0 0) (slA f.code) (.int .i64 (lst f.code).length) (.int .i64 i)
        [AB f, o1, AL 1 (kpL f (lst f.code).length), o3, AI 1 (plcL f ((lst f.code).length + 1)), AG f (trimG f i) gc [] 0, AX (o6.gen + 1) (insAt f i), o7, slotO gc D0 (trimG f i), o9, o10, o11] := by
      simp [q9_19, q9_18, q9_15, hc, k1]
    rw [e19]
    generalize hx : insAt f i = x at *
    generalize o6.gen + 1 = g6 at *
    cases hk : keepB f i with
    | false =>
      rw [hk] at lK
      obtain ⟨gc', o6', o7', ih⟩ := ih (i + 1) gc (AX g6 x) o7 (by omega)
      refine ⟨gc', o6', o7', ?_⟩
      rw [← ih, trimG, hk]
      simp only [Bool.false_eq_true, if_false, List.append_nil, q9_14, ix2, ob_some, lK, evUn_not, Bool.not_false, cnd_t, q9_11, evBin_add, hw]
      push_cast
      rfl
    | true =>
      rw [hk] at lK
      have e14 : q9_14 (.lp 0 1 0 0) (.lp 1 1 0 0) (.ls 2 1 1 0 (lst f.code).length) (.ls 4 1 1 0 ((lst f.code).length + 1)) (.lp 5 1 0 0) (.int .i64 i) (.lp 6 g6 0 0) (slA f.code) (.int .i64 (lst f.code).length) (.int .i64 i)
          [AB f, o1, AL 1 (kpL f (lst f.code).length), o3, AI 1 (plcL f ((lst f.code).length + 1)), AG f (trimG f i) gc [] 0, AX g6 x, o7, slotO gc D0 (trimG f i), o9, o10, o11] =
          q9_13 (.lp 0 1 0 0) (.lp 1 1 0 0) (.ls 2 1 1 0 (lst f.code).length) (.ls 4 1 1 0 ((lst f.code).length + 1)) (.lp 5 1 0 0) (.lp 6 g6 0 0) (slA f.code) (.int .i64 (lst f.code).length) (.int .i64 i)
          [AB f, o1, AL 1 (kpL f (lst f.code).length), o3, AI 1 (plcL f ((lst f.code).length + 1)), AG f (trimG f i) gc [] 0, AX g6 x, o7, slotO gc D0 (trimG f i), o9, o10, o11] := by
        simp only [q9_14, ix2, ob_some, lK, evUn_not, Bool.not_true, cnd_f]
      have cL : ∀ h : Heap, callAny E (callW E) 0 none true 22 [.agg (enc x)] h = some (.bool (leads x.op), h) := fun h => by simp [callAny, callP, heapOf_nil]
      have e13 : q9_13 (.lp 0 1 0 0) (.lp 1 1 0 0) (.ls 2 1 1 0 (lst f.code).length) (.ls 4 1 1 0 ((lst f.code).length + 1)) (.lp 5 1 0 0) (.lp 6 g6 0 0) (slA f.code) (.int .i64 (lst f.code).length) (.int .i64 i)
          [AB f, o1, AL 1 (kpL f (lst f.code).length), o3, AI 1 (plcL f ((lst f.code).length + 1)), AG f (trimG f i) gc [] 0, AX g6 x, o7, slotO gc D0 (trimG f i), o9, o10, o11] =
          q9_12 (.lp 0 1 0 0) (.lp 1 1 0 0) (.ls 2 1 1 0 (lst f.code).length) (.ls 4 1 1 0 ((lst f.code).length + 1)) (.lp 5 1 0 0) (.lp 6 g6 0 0) (slA f.code) (.int .i64 (lst f.code).length) (.int .i64 i)
          [AB f, o1, AL 1 (kpL f (lst f.code).length), o3, AI 1 (plcL f ((lst f.code).length + 1)), AG f (trimG f i) gc [] 0, AX g6 (trimI f x), o7, slotO gc D0 (trimG f i), o9, o10, o11] := by
        have l6 : evLd true 9 (.lp 6 g6 0 0) [AB f, o1, AL 1 (kpL f (lst f.code).length), o3, AI 1 (plcL f ((lst f.code).length + 1)), AG f (trimG f i) gc [] 0, AX g6 x, o7, slotO gc D0 (trimG f i), o9, o10, o11] = some (.agg (enc x)) := by simp
        have l66 : evLd false 1 (.lp 6 g6 0 6) [AB f, o1, AL 1 (kpL f (lst f.code).length), o3, AI 1 (plcL f ((lst f.code).length + 1)), AG f (trimG f i) gc [] 0, AX g6 x, o7, slotO gc D0 (trimG f i), o9, o10, o11] = some (.int .i64 x.t) := by simp
        have st6 : ∀ n : Int, evSt 1 (.lp 6 g6 0 6) (.int .i64 n) [AB f, o1, AL 1 (kpL f (lst f.code).length), o3, AI 1 (plcL f ((lst f.code).length + 1)), AG f (trimG f i) gc [] 0, AX g6 x, o7, slotO gc D0 (trimG f i), o9, o10, o11] =
            some (.tup [], [AB f, o1, AL 1 (kpL f (lst f.code).length), o3, AI 1 (plcL f ((lst f.code).length + 1)), AG f (trimG f i) gc [] 0, AX g6 { x with t := n }, o7, slotO gc D0 (trimG f i), o9, o10, o11]) := fun n => by simp [evSt_lp]
        cases hd : leads x.op with
        | true =>
          obtain ⟨t0, t1⟩ := hld hd
          have ixt := ixAt (n := (lst f.code).length + 1) t0 (by omega) 4 1 .i64
          have lp := ld_at (α := Int) (H := [AB f, o1, AL 1 (kpL f (lst f.code).length), o3, AI 1 (plcL f ((lst f.code).length + 1)), AG f (trimG f i) gc [] 0, AX g6 x, o7, slotO gc D0 (trimG f i), o9, o10, o11]) (id := 4) (g := 1) (v := .int .i64 (plc f x.t.toNat)) rfl (plcL_get (f := f) (j := x.t.toNat) (by omega)) rfl
          simp only [q9_13, l6, ob_some, cL, oh_some, hd, cnd_t, evFa_lp, Nat.zero_add, l66, ixt, lp, st6, trimI, if_true]
        | false =>
          simp only [q9_13, l6, ob_some, cL, oh_some, hd, cnd_f, evFa_lp, Nat.zero_add, st6, trimI, Bool.false_eq_true, if_false]
      have hlen : (trimG f i).length ≤ 2 ^ 38 := by
        have e : (2:Nat)^38 = 274877906944 := by decide
        omega
      obtain ⟨gc2, ha⟩ := app_ins (H := [AB f, o1, AL 1 (kpL f (lst f.code).length), o3, AI 1 (plcL f ((lst f.code).length + 1)), AG f (trimG f i) gc [] 0, AX g6 (trimI f x), ⟨o7.gen + 1, .arr false false 9 [enc (trimI f x)]⟩, slotO gc D0 (trimG f i), o9, o10, o11]) (fb := 0) (j := 8) (g := gc) (o := D0) (y := .ls 7 (o7.gen + 1) 9 0 1) (L := trimG f i) (x := trimI f x) (by simp) rfl hlen
      have ha' : evApp 0 (some 8) 9 96 (slotV Ins 8 gc (trimG f i)) (.ls 7 (o7.gen + 1) 9 0 1) [AB f, o1, AL 1 (kpL f (lst f.code).length), o3, AI 1 (plcL f ((lst f.code).length + 1)), AG f (trimG f i) gc [] 0, AX g6 (trimI f x), ⟨o7.gen + 1, .arr false false 9 [enc (trimI f x)]⟩, slotO gc D0 (trimG f i), o9, o10, o11] =
          some (slotV Ins 8 gc2 (trimG f i ++ [trimI f x]), [AB f, o1, AL 1 (kpL f (lst f.code).length), o3, AI 1 (plcL f ((lst f.code).length + 1)), AG f (trimG f i) gc [] 0, AX g6 (trimI f x), ⟨o7.gen + 1, .arr false false 9 [enc (trimI f x)]⟩, slotO gc2 D0 (trimG f i ++ [trimI f x]), o9, o10, o11]) := ha
      obtain ⟨gc', o6', o7', ih⟩ := ih (i + 1) gc2 (AX g6 (trimI f x)) ⟨o7.gen + 1, .arr false false 9 [enc (trimI f x)]⟩ (by omega)
      refine ⟨gc', o6', o7', ?_⟩
      have hG : trimG f (i + 1) = trimG f i ++ [trimI f x] := by rw [trimG, hk, hx]; rfl
      rw [hG] at ih
      rw [← ih, e14, e13]
      have l53 : ∀ (a b c : AO), evLd false 1 (.lp 5 1 0 3) [AB f, o1, AL 1 (kpL f (lst f.code).length), o3, AI 1 (plcL f ((lst f.code).length + 1)), AG f (trimG f i) gc [] 0, a, b, c, o9, o10, o11] = some (slotV Ins 8 gc (trimG f i)) := fun a b c => by simp
      have l6 : ∀ (b c : AO), evLd true 9 (.lp 6 g6 0 0) [AB f, o1, AL 1 (kpL f (lst f.code).length), o3, AI 1 (plcL f ((lst f.code).length + 1)), AG f (trimG f i) gc [] 0, AX g6 (trimI f x), b, c, o9, o10, o11] = some (.agg (enc (trimI f x))) := fun b c => by simp
      have bs : buildSC 0 (some 7) 9 1 [.int .i64 0, .int .i64 0, .int .i64 0, .int .i64 0, .int .i64 0, .int .i64 0, .int .i64 0, .str [], .nils] [(0, .agg (enc (trimI f x)))] [AB f, o1, AL 1 (kpL f (lst f.code).length), o3, AI 1 (plcL f ((lst f.code).length + 1)), AG f (trimG f i) gc [] 0, AX g6 (trimI f x), o7, slotO gc D0 (trimG f i), o9, o10, o11] =
          some (.ls 7 (o7.gen + 1) 9 0 1, [AB f, o1, AL 1 (kpL f (lst f.code).length), o3, AI 1 (plcL f ((lst f.code).length + 1)), AG f (trimG f i) gc [] 0, AX g6 (trimI f x), ⟨o7.gen + 1, .arr false false 9 [enc (trimI f x)]⟩, slotO gc D0 (trimG f i), o9, o10, o11]) := by
        simp [buildSC, fillRows]
      have st5 : ∀ (a b c : AO), evSt 1 (.lp 5 1 0 3) (slotV Ins 8 gc2 (trimG f i ++ [trimI f x])) [AB f, o1, AL 1 (kpL f (lst f.code).length), o3, AI 1 (plcL f ((lst f.code).length + 1)), AG f (trimG f i) gc [] 0, a, b, c, o9, o10, o11] =
          some (.tup [], [AB f, o1, AL 1 (kpL f (lst f.code).length), o3, AI 1 (plcL f ((lst f.code).length + 1)), AG f (trimG f i ++ [trimI f x]) gc2 [] 0, a, b, c, o9, o10, o11]) := fun a b c => by simp [evSt_lp, spliceAt]
      simp only [q9_12, evFa_lp, Nat.zero_add, ob_some, l53, l6, bs, oh_some, ha', st5, q9_11, evBin_add, hw]
      push_cast
      rfl
theorem Trim_rows (L : List Ins) (gc : Nat) (o1 o3 o6 o7 o8 : AO) (hrl : (lst f.rows).length ≤ 2 ^ 38) : ∀ (d k gr : Nat) (o9 o10 : AO), k + d = (lst f.rows).length →
    ∃ gr' o9' o10', q9_L2 (.lp 1 1 0 0) (.ls 2 1 1 0 (lst f.code).length) (.ls 4 1 1 0 ((lst f.code).length + 1)) (.lp 5 1 0 0) (slA f.rows) (.int .i64 (lst f.rows).length) (.int .i64 k)
        [AB f, o1, AL 1 (kpL f (lst f.code).length), o3, AI 1 (plcL f ((lst f.code).length + 1)), AG f L gc (trimR f k) gr, o6, o7, o8, o9, o10, slotO gr D0 (trimR f k)] =
      q9_1 (.lp 1 1 0 0) (.lp 5 1 0 0)
        [AB f, o1, AL 1 (kpL f (lst f.code).length), o3, AI 1 (plcL f ((lst f.code).length + 1)), AG f L gc (trimR f (lst f.rows).length) gr', o6, o7, o8, o9', o10', slotO gr' D0 (trimR f (lst f.rows).length)] := by
  have e38 : (2:Nat)^38 = 274877906944 := by decide
  have hl := w.n2
  intro d
  induction d with
  | zero =>
    intro k gr o9 o10 hk
    have hk' : k = (lst f.rows).length := by omega
    have hn : ¬ ((k : Int) < ((lst f.rows).length : Int)) := by omega
    refine ⟨gr, o9, o10, ?_⟩
    rw [q9_L2_go]
    simp only [q9_6, evBin_lss, hn, decide_false, ob_some, q9_5, cnd_f]
    rw [hk']
  | succ d ih =>
    intro k gr o9 o10 hk
    have hlt : k < (lst f.rows).length := by omega
    have hc : ((k : Int) < ((lst f.rows).length : Int)) := by omega
    have hw := wrap_up hlt (by omega)
    have hgr := trimR_len f k
    obtain ⟨r, hr⟩ : ∃ r, (lst f.rows)[k]? = some r := ⟨_, List.getElem?_eq_getElem hlt⟩
    have hin := w.row (List.mem_of_getElem? hr)
    have k1 := ixs_row (o := f.rows) hr .i64
    have hsucc := trimR_succ hr
    rw [q9_L2_go]
    have ixA := ixAt (n := (lst f.code).length) hin.a0 hin.an 2 1 .i64
    have ixF := ixAt (n := (lst f.code).length + 1) hin.f0 (by have := hin.ft; have := hin.tn; omega) 4 1 .i64
    have ixT := ixAt (n := (lst f.code).length + 1) (p := r.t) (by have := hin.ft; have := hin.f0; omega) (by have := hin.tn; omega) 4 1 .i64
    have ixQ := ixAt (n := (lst f.code).length + 1) hin.a0 (by have := hin.an; omega) 4 1 .i64
    generalize hg9 : o9.gen + 1 = g9 at *
    have AR : ∀ (g : Nat) (L' : List Row) (b c : AO), evLd false 1 (.lp 2 1 r.at_.toNat 0) [AB f, o1, AL 1 (kpL f (lst f.code).length), o3, AI 1 (plcL f ((lst f.code).length + 1)), AG f L gc L' g, o6, o7, o8, ⟨g9, .arr true false 4 [enc r]⟩, b, c] = some (.bool (keepB f r.at_.toNat)) := fun g L' b c =>
      ld_at (α := Bool) (id := 2) (g := 1) (v := .bool (keepB f r.at_.toNat)) rfl (kpL_get (by have := hin.an; have := hin.a0; omega)) rfl
    have PL : ∀ (p : Nat) (g : Nat) (L' : List Row) (b c : AO), p ≤ (lst f.code).length → evLd false 1 (.lp 4 1 p 0) [AB f, o1, AL 1 (kpL f (lst f.code).length), o3, AI 1 (plcL f ((lst f.code).length + 1)), AG f L gc L' g, o6, o7, o8, ⟨g9, .arr true false 4 [enc r]⟩, b, c] = some (.int .i64 (plc f p)) := fun p g L' b c hp =>
      ld_at (α := Int) (id := 4) (g := 1) (v := .int .i64 (plc f p)) rfl (plcL_get hp) rfl
    have pF := fun g L' b c => PL r.f.toNat g L' b c (by have := hin.ft; have := hin.tn; omega)
    have pT := fun g L' b c => PL r.t.toNat g L' b c (by have := hin.tn; omega)
    have pA := fun g L' b c => PL r.at_.toNat g L' b c (by have := hin.an; omega)
    have lb : ∀ (j : Nat) (g : Nat) (L' : List Row) (b c : AO), evLd false 1 (.lp 9 g9 0 j) [AB f, o1, AL 1 (kpL f (lst f.code).length), o3, AI 1 (plcL f ((lst f.code).length + 1)), AG f L gc L' g, o6, o7, o8, ⟨g9, .arr true false 4 [enc r]⟩, b, c] = ((enc r).drop j).head? := fun j g L' b c => by simp
    have d0 : ((enc r).drop 0).head? = some (.int .i64 r.f) := rfl
    have d1 : ((enc r).drop 1).head? = some (.int .i64 r.t) := rfl
    have d2 : ((enc r).drop 2).head? = some (.int .i64 r.at_) := rfl
    have d3 : ((enc r).drop 3).head? = some (.str r.c) := rfl
    have e6 : q9_6 (.lp 1 1 0 0) (.ls 2 1 1 0 (lst f.code).length) (.ls 4 1 1 0 ((lst f.code).length + 1)) (.lp 5 1 0 0) (slA f.rows) (.int .i64 (lst f.rows).length) (.int .i64 k)
        [AB f, o1, AL 1 (kpL f (lst f.code).length), o3, AI 1 (plcL f ((lst f.code).length + 1)), AG f L gc (trimR f k) gr, o6, o7, o8, o9, o10, slotO gr D0 (trimR f k)] =
      q9_4 (.lp 1 1 0 0) (.ls 2 1 1 0 (lst f.code).length) (.ls 4 1 1 0 ((lst f.code).length + 1)) (.lp 5 1 0 0) (slA f.rows) (.int .i64 (lst f.rows).length) (.int .i64 k)
        [AB f, o1, AL 1 (kpL f (lst f.code).length), o3, AI 1 (plcL f ((lst f.code).length + 1)), AG f L gc (trimR f k) gr, o6, o7, o8, o9, o10, slotO gr D0 (trimR f k)] := by
      simp only [q9_6, evBin_lss, hc, decide_true, ob_some, q9_5, cnd_t]
    have lr : ∀ t : Heap, evLd true 4 (.rp (enc r)) t = some (.agg (enc r)) := fun t => by simp
    have nc : newC 0 (some 9) [.int .i64 0, .int .i64 0, .int .i64 0, .str []] [AB f, o1, AL 1 (kpL f (lst f.code).length), o3, AI 1 (plcL f ((lst f.code).length + 1)), AG f L gc (trimR f k) gr, o6, o7, o8, o9, o10, slotO gr D0 (trimR f k)] =
        some (.lp 9 g9 0 0, [AB f, o1, AL 1 (kpL f (lst f.code).length), o3, AI 1 (plcL f ((lst f.code).length + 1)), AG f L gc (trimR f k) gr, o6, o7, o8, ⟨g9, .arr true false 4 [[.int .i64 0, .int .i64 0, .int .i64 0, .str []]]⟩, o10, slotO gr D0 (trimR f k)]) := by
      simp [newC, newBox, place, hg9]
    have s9 : evSt 4 (.lp 9 g9 0 0) (.agg (enc r)) [AB f, o1, AL 1 (kpL f (lst f.code).length), o3, AI 1 (plcL f ((lst f.code).length + 1)), AG f L gc (trimR f k) gr, o6, o7, o8, ⟨g9, .arr true false 4 [[.int .i64 0, .int .i64 0, .int .i64 0, .str []]]⟩, o10, slotO gr D0 (trimR f k)] =
        some (.tup [], [AB f, o1, AL 1 (kpL f (lst f.code).length), o3, AI 1 (plcL f ((lst f.code).length + 1)), AG f L gc (trimR f k) gr, o6, o7, o8, ⟨g9, .arr true false 4 [enc r]⟩, o10, slotO gr D0 (trimR f k)]) := by
      simp [evSt_lp]
    rw [e6]
    by_cases hb : keepB f r.at_.toNat = true ∧ plc f r.f.toNat < plc f r.t.toNat
    · have hT : trimW f r = [⟨plc f r.f.toNat, plc f r.t.toNat, plc f r.at_.toNat, r.c⟩] := by rw [trimW, hb.1]; simp [hb.2]
      rw [hT] at hsucc
      generalize hnr : (⟨plc f r.f.toNat, plc f r.t.toNat, plc f r.at_.toNat, r.c⟩ : Row) = nr at *
      have hlt2 : ((plc f r.f.toNat : Nat) : Int) < ((plc f r.t.toNat : Nat) : Int) := by have := hb.2; omega
      obtain ⟨gr2, ha⟩ := app_row (H := [AB f, o1, AL 1 (kpL f (lst f.code).length), o3, AI 1 (plcL f ((lst f.code).length + 1)), AG f L gc (trimR f k) gr, o6, o7, o8, ⟨g9, .arr true false 4 [enc r]⟩, ⟨o10.gen + 1, .arr false false 4 [enc nr]⟩, slotO gr D0 (trimR f k)]) (fb := 0) (j := 11) (g := gr) (o := D0) (y := .ls 10 (o10.gen + 1) 4 0 1) (L := trimR f k) (x := nr) (by simp) rfl (by omega)
      have ha' : evApp 0 (some 11) 4 40 (slotV Row 11 gr (trimR f k)) (.ls 10 (o10.gen + 1) 4 0 1) [AB f, o1, AL 1 (kpL f (lst f.code).length), o3, AI 1 (plcL f ((lst f.code).length + 1)), AG f L gc (trimR f k) gr, o6, o7, o8, ⟨g9, .arr true false 4 [enc r]⟩, ⟨o10.gen + 1, .arr false false 4 [enc nr]⟩, slotO gr D0 (trimR f k)] =
          some (slotV Row 11 gr2 (trimR f k ++ [nr]), [AB f, o1, AL 1 (kpL f (lst f.code).length), o3, AI 1 (plcL f ((lst f.code).length + 1)), AG f L gc (trimR f k) gr, o6, o7, o8, ⟨g9, .arr true false 4 [enc r]⟩, ⟨o10.gen + 1, .arr false false 4 [enc nr]⟩, slotO gr2 D0 (trimR f k ++ [nr])]) := ha
      obtain ⟨gr', o9', o10', ih⟩ := ih (k + 1) gr2 ⟨g9, .arr true false 4 [enc r]⟩ ⟨o10.gen + 1, .arr false false 4 [enc nr]⟩ (by omega)
      refine ⟨gr', o9', o10', ?_⟩
      rw [← ih, hsucc]
      have l54 : ∀ (b c : AO), evLd false 1 (.lp 5 1 0 4) [AB f, o1, AL 1 (kpL f (lst f.code).length), o3, AI 1 (plcL f ((lst f.code).length + 1)), AG f L gc (trimR f k) gr, o6, o7, o8, ⟨g9, .arr true false 4 [enc r]⟩, b, c] = some (slotV Row 11 gr (trimR f k)) := fun b c => by simp
      have bd : evBuild [.int .i64 0, .int .i64 0, .int .i64 0, .str []] [(0, 1, .int .i64 (plc f r.f.toNat)), (1, 1, .int .i64 (plc f r.t.toNat)), (2, 1, .int .i64 (plc f r.at_.toNat)), (3, 1, .str r.c)] = some (.agg (enc nr)) := by
        rw [← hnr]; simp [evBuild, fillParts, known, spliceAt, enc_row]
      have bs : buildSC 0 (some 10) 4 1 [.int .i64 0, .int .i64 0, .int .i64 0, .str []] [(0, .agg (enc nr))] [AB f, o1, AL 1 (kpL f (lst f.code).length), o3, AI 1 (plcL f ((lst f.code).length + 1)), AG f L gc (trimR f k) gr, o6, o7, o8, ⟨g9, .arr true false 4 [enc r]⟩, o10, slotO gr D0 (trimR f k)] =
          some (.ls 10 (o10.gen + 1) 4 0 1, [AB f, o1, AL 1 (kpL f (lst f.code).length), o3, AI 1 (plcL f ((lst f.code).length + 1)), AG f L gc (trimR f k) gr, o6, o7, o8, ⟨g9, .arr true false 4 [enc r]⟩, ⟨o10.gen + 1, .arr false false 4 [enc nr]⟩, slotO gr D0 (trimR f k)]) := by
        simp [buildSC, fillRows]
      have s5 : ∀ (b c : AO), evSt 1 (.lp 5 1 0 4) (slotV Row 11 gr2 (trimR f k ++ [nr])) [AB f, o1, AL 1 (kpL f (lst f.code).length), o3, AI 1 (plcL f ((lst f.code).length + 1)), AG f L gc (trimR f k) gr, o6, o7, o8, ⟨g9, .arr true false 4 [enc r]⟩, b, c] =
          some (.tup [], [AB f, o1, AL 1 (kpL f (lst f.code).length), o3, AI 1 (plcL f ((lst f.code).length + 1)), AG f L gc (trimR f k ++ [nr]) gr2, o6, o7, o8, ⟨g9, .arr true false 4 [enc r]⟩, b, c]) := fun b c => by simp [evSt_lp, spliceAt]
      have hp : pairsOk [([], []), (ids1 (.lp 5 1 0 4), []), ([], []), ([], []), (ids1 (.lp 9 g9 0 0), []), ([], []), (ids1 (.lp 4 1 r.f.toNat 0), []), ([], []), ([], []), (ids1 (.lp 9 g9 0 1), []), ([], []), (ids1 (.lp 4 1 r.t.toNat 0), []), ([], []), ([], []), (ids1 (.lp 9 g9 0 2), []), ([], []), (ids1 (.lp 4 1 r.at_.toNat 0), []), ([], []), (ids1 (.lp 9 g9 0 3), []), ([], []), ([], [10]),
          (ids1 (.ls 10 (o10.gen + 1) 4 0 1), ids1 (slotV Row 11 gr (trimR f k)) ++ [11]), ([], []), ([], ids1 (.lp 5 1 0 4))] [(1, 20)] = true := by simp [pairsOk, fpApart, meets]
      simp only [q9_4, k1, ob_some, lr, nc, oh_some, s9, evFa_lp, Nat.zero_add, lb, d0, d1, d2, d3, ixA, AR, hb.1, gb_tt, ixF, pF, ixT, pT, evBin_lss, hlt2, decide_true, evPick_t, cnd_t, l54, ixQ, pA, bd, bs, ha', s5, hp, okK_t, q9_3, evBin_add, hw]
      push_cast
      rfl
    · have hT : trimW f r = [] := by
        rw [trimW]
        cases hk2 : keepB f r.at_.toNat with
        | false => rfl
        | true =>
          have : ¬ plc f r.f.toNat < plc f r.t.toNat := fun h => hb ⟨hk2, h⟩
          simp [this]
      rw [hT, List.append_nil] at hsucc
      obtain ⟨gr', o9', o10', ih⟩ := ih (k + 1) gr ⟨g9, .arr true false 4 [enc r]⟩ o10 (by omega)
      refine ⟨gr', o9', o10', ?_⟩
      rw [← ih, hsucc]
      cases hk2 : keepB f r.at_.toNat with
      | false =>
        simp only [q9_4, k1, ob_some, lr, nc, oh_some, s9, evFa_lp, Nat.zero_add, lb, d0, d1, d2, d3, ixA, AR, hk2, gb_ft, gb_tup, evPick_f, cnd_f, q9_3, evBin_add, hw]
        push_cast
        rfl
      | true =>
        have hlt2 : ¬ ((plc f r.f.toNat : Nat) : Int) < ((plc f r.t.toNat : Nat) : Int) := by
          have : ¬ plc f r.f.toNat < plc f r.t.toNat := fun h => hb ⟨hk2, h⟩
          omega
        simp only [q9_4, k1, ob_some, lr, nc, oh_some, s9, evFa_lp, Nat.zero_add, lb, d0, d1, d2, d3, ixA, AR, hk2, gb_tt, ixF, pF, ixT, pT, evBin_lss, hlt2, decide_false, evPick_t, cnd_f, q9_3, evBin_add, hw]
        push_cast
        rfl
end
theorem trim_reads (f g : Fn) {H : Heap} {gc gr : Nat} {L : List Ins} {R : List Row} (h8 : H[8]? = some (slotO gc D0 L)) (h11 : H[11]? = some (slotO gr D0 R)) (hg : g = { regs := f.regs, params := f.params, ret := f.ret, code := nz L, rows := nz R }) :
    ∃ r, expo1 H (.agg [slA f.regs, slA f.params, .int .i64 f.ret, slotV Ins 8 gc L, slotV Row 11 gr R]) = some r ∧ Reads r (.agg (enc g)) := by
  have x1 : ∀ os, expo H 11 (slotV Ins 8 gc L) os = some ⟨exV os.length (nz L), os ++ exOs (nz L), L.all scal, ownI 8 (nz L), []⟩ := by
    intro os
    cases L with
    | nil => exact expo_own (α := Ins) (H := H) (j := 8) (g := gc) (k := 10) (d := D0) (o := none) h8 os
    | cons x L => exact expo_own (α := Ins) (H := H) (j := 8) (g := gc) (k := 10) (d := D0) (o := some (x :: L)) h8 os
  have x2 : ∀ os, expo H 11 (slotV Row 11 gr R) os = some ⟨exV os.length (nz R), os ++ exOs (nz R), R.all scal, ownI 11 (nz R), []⟩ := by
    intro os
    cases R with
    | nil => exact expo_own (α := Row) (H := H) (j := 11) (g := gr) (k := 10) (d := D0) (o := none) h11 os
    | cons x R => exact expo_own (α := Row) (H := H) (j := 11) (g := gr) (k := 10) (d := D0) (o := some (x :: R)) h11 os
  rw [expo1_agg]
  simp only [exList, expo_p (pure1_sl f.regs) H 10, expo_p (pure1_sl f.params) H 10, expo_p (show pure1 (.int .i64 f.ret) = true from rfl) H 10, x1, x2, List.nil_append, List.append_nil, List.length_nil]
  have ap : apartIds (ownI 8 (nz L) ++ ownI 11 (nz R)) [] = true := by
    cases L <;> cases R <;> rfl
  rw [if_pos ap]
  refine ⟨_, rfl, ?_⟩
  have h3 := fz_exV (nz L) [] (exOs (nz R)) 9
  have h4 := fz_exV (nz R) (exOs (nz L)) [] 9
  simp only [List.nil_append, List.append_nil, List.length_nil] at h3 h4
  refine ⟨_, (fz_agg_eq _ 11 _).trans (by
    simp only [fzList_cons, fz_p (pure1_sl f.regs) _ 10, fz_p (pure1_sl f.params) _ 10, fz_p (show pure1 (.int .i64 f.ret) = true from rfl) _ 10, h3, h4, fzList_nil]
    rfl), by rw [hg]; rfl⟩
structure FnRd (f : Fn) : Prop where
  fit : FnFit f
  sm : FnSm f
set_option maxHeartbeats 1000000 in
theorem s_Trim (f : Fn) (hf : FnRd f) (hr : (lst f.rows).length ≤ 1000000) : ∃ r, (callW E).p 100 [.agg (enc f)] = some r ∧ Reads r (.agg (enc (trimM f))) := by
  rw [x_q9]
  have hcp := s_Copy f hf.sm
  have hck := s_Check f hf.fit
  have ha : ∀ H : Heap, fzList (fz H fuelF) [.agg (enc f)] = some ⟨[.agg (enc f)], scal f && true, []⟩ := fun H => by
    rw [fzList_cons, fz_enc, fzList_nil]; rfl
  have c1 : ∀ H, callAny E (callW E) 0 none true 13 [.agg (enc f)] H = some (.agg (enc f), H) := fun H => call_reads rfl (ha H) rfl hcp (copy_reads f)
  have c2 : ∀ H, callAny E (callW E) 0 none true 8 [.agg (enc f)] H = some (.int .i64 (if wf f then 0 else 80), H) := fun H => call_reads rfl (ha H) rfl hck ⟨_, rfl, rfl⟩
  have l0 : ∀ t : Heap, evLd true 5 (.lp 0 1 0 0) (AB f :: t) = some (.agg (enc f)) := fun t => by simp
  have s0 : ∀ t : Heap, evSt 5 (.lp 0 1 0 0) (.agg (enc f)) (AB f :: t) = some (.tup [], AB f :: t) := fun t => by simp [evSt_lp]
  have e46 : q9_46 (.agg (enc f)) [D0, D0, D0, D0, D0, D0, D0, D0, D0, D0, D0, D0] = q9_44 (.lp 0 1 0 0) (.lp 1 1 0 0) [AB f, ⟨1, .arr true false 5 [[.nils, .nils, .int .i64 0, .nils, .nils]]⟩, D0, D0, D0, D0, D0, D0, D0, D0, D0, D0] := by
    have n1 : newC 0 (some 0) (cellsOf (.agg (enc f))) [D0, D0, D0, D0, D0, D0, D0, D0, D0, D0, D0, D0] = some (.lp 0 1 0 0, [AB f, D0, D0, D0, D0, D0, D0, D0, D0, D0, D0, D0]) := by simp
    have n2 : newC 0 (some 1) [.nils, .nils, .int .i64 0, .nils, .nils] [AB f, D0, D0, D0, D0, D0, D0, D0, D0, D0, D0, D0] = some (.lp 1 1 0 0, [AB f, ⟨1, .arr true false 5 [[.nils, .nils, .int .i64 0, .nils, .nils]]⟩, D0, D0, D0, D0, D0, D0, D0, D0, D0, D0]) := by simp
    simp only [q9_46, n1, oh_some, n2, q9_45, l0, ob_some, c1, s0]
  rw [e46]
  cases hw : wf f with
  | false =>
    rw [hw] at c2
    have s1 : ∀ (a : AO) (t : Heap), evSt 5 (.lp 1 1 0 0) (.agg (enc f)) (AB f :: ⟨1, .arr true false 5 [[.nils, .nils, .int .i64 0, .nils, .nils]]⟩ :: t) = some (.tup [], AB f :: AB f :: t) := fun a t => by simp [evSt_lp]
    have l1 : ∀ t : Heap, evLd true 5 (.lp 1 1 0 0) (AB f :: AB f :: t) = some (.agg (enc f)) := fun t => by simp
    have hx : trimM f = f := by rw [trimM, hw]; rfl
    rw [hx]
    simp only [q9_44, l0, ob_some, c2, oh_some, Bool.false_eq_true, if_false, evBin_neq, show decide ((80 : Int) ≠ 0) = true from rfl, cnd_t, s1 D0, l1, expo1_enc]
    exact ⟨_, rfl, _, fz_enc f _, rfl⟩
  | true =>
    have w := wf_of hw
    rw [hw] at c2
    have hR := s_Reach f (by have := w.n2; omega) hr
    have hn := w.n2
    have cR := call_own (E := E) (C := callW E) (fb := 0) (j := 2) (f := 101) (N := some (reachL f)) (H := [AB f, ⟨1, .arr true false 5 [[.nils, .nils, .int .i64 0, .nils, .nils]]⟩, D0, D0, D0, D0, D0, D0, D0, D0, D0, D0]) rfl (ha _) hR rfl rfl
    simp only [ownV, ownO, Nat.zero_add, List.set_cons_zero, List.set_cons_succ, es_bool, reachL_len] at cR
    obtain ⟨o3, h35⟩ := Trim_nops f w ⟨1, .arr true false 5 [[.nils, .nils, .int .i64 0, .nils, .nils]]⟩ D0 D0 D0 D0 D0 D0 D0 D0 _ 0 D0 (Nat.zero_add _)
    have h25 := Trim_place f w ⟨1, .arr true false 5 [[.nils, .nils, .int .i64 0, .nils, .nils]]⟩ o3 D0 D0 D0 D0 D0 D0 D0 _ 0 (Nat.zero_add _)
    obtain ⟨gc, o6, o7, h10⟩ := Trim_code f w ⟨1, .arr true false 5 [[.nils, .nils, .int .i64 0, .nils, .nils]]⟩ o3 D0 D0 D0 _ 0 0 D0 D0 (Nat.zero_add _)
    have hr38 : (lst f.rows).length ≤ 2 ^ 38 := by
      have : (2:Nat)^38 = 274877906944 := by decide
      omega
    obtain ⟨gr, o9, o10, h2⟩ := Trim_rows f w (trimG f (lst f.code).length) gc ⟨1, .arr true false 5 [[.nils, .nils, .int .i64 0, .nils, .nils]]⟩ o3 o6 o7 (slotO gc D0 (trimG f (lst f.code).length)) hr38 _ 0 0 D0 D0 (Nat.zero_add _)
    have r0 : trimR f 0 = [] := rfl
    have g0 : trimG f 0 = [] := rfl
    have p0 : plc f 0 = 0 := rfl
    simp only [Int.ofNat_zero, r0, g0, p0, slotV_nil, slotO_nil, kpL_0] at h35 h25 h10 h2
    have lc : ∀ t : Heap, evLd false 1 (.lp 0 1 0 3) (AB f :: t) = some (slA f.code) := fun t => by simp
    have lr : ∀ t : Heap, evLd false 1 (.lp 0 1 0 4) (AB f :: t) = some (slA f.rows) := fun t => by simp
    have la : ∀ t : Heap, evLd false 1 (.lp 0 1 0 0) (AB f :: t) = some (slA f.regs) := fun t => by simp
    have lb : ∀ t : Heap, evLd false 1 (.lp 0 1 0 1) (AB f :: t) = some (slA f.params) := fun t => by simp
    have ld : ∀ t : Heap, evLd false 1 (.lp 0 1 0 2) (AB f :: t) = some (.int .i64 f.ret) := fun t => by simp
    have b1 : ((lst f.code).length : Int) + 1 ≤ 17592186044416 := by omega
    have b2 : ((lst f.code).length : Int) + 1 ≤ 4611686018427387904 := by omega
    have b3 : (0 : Int) ≤ ((lst f.code).length : Int) + 1 := by omega
    have b4 : (((lst f.code).length : Int) + 1).toNat = (lst f.code).length + 1 := by omega
    have b5 : (((lst f.code).length : Int) + 1) * 8 ≤ 140737488355328 := by omega
    have hwr : IntKind.wrap .i64 (((lst f.code).length : Int) + 1) = ((lst f.code).length : Int) + 1 := by rw [wrap_i64] <;> omega
    have mk : mkSC 0 (some 4) 1 8 [.int .i64 0] (.int .i64 (((lst f.code).length : Int) + 1)) (.int .i64 (((lst f.code).length : Int) + 1)) [AB f, ⟨1, .arr true false 5 [[.nils, .nils, .int .i64 0, .nils, .nils]]⟩, AL 1 (kpL f (lst f.code).length), o3, D0, D0, D0, D0, D0, D0, D0, D0] =
        some (.ls 4 1 1 0 ((lst f.code).length + 1), [AB f, ⟨1, .arr true false 5 [[.nils, .nils, .int .i64 0, .nils, .nils]]⟩, AL 1 (kpL f (lst f.code).length), o3, AI 1 (plcL f 0), D0, D0, D0, D0, D0, D0, D0]) := by
      rw [plcL_0]
      simp [mkSC, b2, b3, b4, b5]
    have e34 : q9_34 (.lp 0 1 0 0) (.lp 1 1 0 0) (.ls 2 1 1 0 (lst f.code).length) [AB f, ⟨1, .arr true false 5 [[.nils, .nils, .int .i64 0, .nils, .nils]]⟩, AL 1 (kpL f (lst f.code).length), o3, D0, D0, D0, D0, D0, D0, D0, D0] =
        q9_23 (.lp 0 1 0 0) (.lp 1 1 0 0) (.ls 2 1 1 0 (lst f.code).length) (.ls 4 1 1 0 ((lst f.code).length + 1)) [AB f, ⟨1, .arr true false 5 [[.nils, .nils, .int .i64 0, .nils, .nils]]⟩, AL 1 (kpL f (lst f.code).length), o3, AI 1 (plcL f ((lst f.code).length + 1)), D0, D0, D0, D0, D0, D0, D0] := by
      rw [← h25]
      simp only [q9_34, evFa_lp, Nat.zero_add, ob_some, lc, evLen_sl, evBin_add, hwr, mk, oh_some, q9_33, q9_31]
    have bg : evBuild [.nils, .nils, .int .i64 0, .nils, .nils] [(0, 1, slA f.regs), (1, 1, slA f.params), (2, 1, .int .i64 f.ret)] = some (.agg [slA f.regs, slA f.params, .int .i64 f.ret, .nils, .nils]) := by
      have k1 : known (slA f.regs) = true := by cases f.regs <;> rfl
      have k2 : known (slA f.params) = true := by cases f.params <;> rfl
      have k3 : known (.int .i64 f.ret) = true := rfl
      simp [evBuild, fillParts, k1, k2, k3, spliceAt]
    have e23 : q9_23 (.lp 0 1 0 0) (.lp 1 1 0 0) (.ls 2 1 1 0 (lst f.code).length) (.ls 4 1 1 0 ((lst f.code).length + 1)) [AB f, ⟨1, .arr true false 5 [[.nils, .nils, .int .i64 0, .nils, .nils]]⟩, AL 1 (kpL f (lst f.code).length), o3, AI 1 (plcL f ((lst f.code).length + 1)), D0, D0, D0, D0, D0, D0, D0] =
        q9_8 (.lp 0 1 0 0) (.lp 1 1 0 0) (.ls 2 1 1 0 (lst f.code).length) (.ls 4 1 1 0 ((lst f.code).length + 1)) (.lp 5 1 0 0) [AB f, ⟨1, .arr true false 5 [[.nils, .nils, .int .i64 0, .nils, .nils]]⟩, AL 1 (kpL f (lst f.code).length), o3, AI 1 (plcL f ((lst f.code).length + 1)), AG f (trimG f (lst f.code).length) gc [] 0, o6, o7, slotO gc D0 (trimG f (lst f.code).length), D0, D0, D0] := by
      rw [← h10]
      have n5 : newC 0 (some 5) [.nils, .nils, .int .i64 0, .nils, .nils] [AB f, ⟨1, .arr true false 5 [[.nils, .nils, .int .i64 0, .nils, .nils]]⟩, AL 1 (kpL f (lst f.code).length), o3, AI 1 (plcL f ((lst f.code).length + 1)), D0, D0, D0, D0, D0, D0, D0] =
          some (.lp 5 1 0 0, [AB f, ⟨1, .arr true false 5 [[.nils, .nils, .int .i64 0, .nils, .nils]]⟩, AL 1 (kpL f (lst f.code).length), o3, AI 1 (plcL f ((lst f.code).length + 1)), ⟨1, .arr true false 5 [[.nils, .nils, .int .i64 0, .nils, .nils]]⟩, D0, D0, D0, D0, D0, D0]) := by simp
      have s5 : evSt 5 (.lp 5 1 0 0) (.agg [slA f.regs, slA f.params, .int .i64 f.ret, .nils, .nils]) [AB f, ⟨1, .arr true false 5 [[.nils, .nils, .int .i64 0, .nils, .nils]]⟩, AL 1 (kpL f (lst f.code).length), o3, AI 1 (plcL f ((lst f.code).length + 1)), ⟨1, .arr true false 5 [[.nils, .nils, .int .i64 0, .nils, .nils]]⟩, D0, D0, D0, D0, D0, D0] =
          some (.tup [], [AB f, ⟨1, .arr true false 5 [[.nils, .nils, .int .i64 0, .nils, .nils]]⟩, AL 1 (kpL f (lst f.code).length), o3, AI 1 (plcL f ((lst f.code).length + 1)), AG f [] 0 [] 0, D0, D0, D0, D0, D0, D0]) := by simp [evSt_lp, spliceAt]
      simp only [q9_23, evFa_lp, Nat.zero_add, ob_some, la, lb, ld, bg, n5, oh_some, s5, q9_21, lc, evLen_sl, slotV_nil]
    have e8 : q9_8 (.lp 0 1 0 0) (.lp 1 1 0 0) (.ls 2 1 1 0 (lst f.code).length) (.ls 4 1 1 0 ((lst f.code).length + 1)) (.lp 5 1 0 0) [AB f, ⟨1, .arr true false 5 [[.nils, .nils, .int .i64 0, .nils, .nils]]⟩, AL 1 (kpL f (lst f.code).length), o3, AI 1 (plcL f ((lst f.code).length + 1)), AG f (trimG f (lst f.code).length) gc [] 0, o6, o7, slotO gc D0 (trimG f (lst f.code).length), D0, D0, D0] =
        q9_1 (.lp 1 1 0 0) (.lp 5 1 0 0) [AB f, ⟨1, .arr true false 5 [[.nils, .nils, .int .i64 0, .nils, .nils]]⟩, AL 1 (kpL f (lst f.code).length), o3, AI 1 (plcL f ((lst f.code).length + 1)), AG f (trimG f (lst f.code).length) gc (trimR f (lst f.rows).length) gr, o6, o7, slotO gc D0 (trimG f (lst f.code).length), o9, o10, slotO gr D0 (trimR f (lst f.rows).length)] := by
      rw [← h2]
      simp only [q9_8, evFa_lp, Nat.zero_add, ob_some, lr, evLen_sl, slotV_nil]
    have e44 : q9_44 (.lp 0 1 0 0) (.lp 1 1 0 0) [AB f, ⟨1, .arr true false 5 [[.nils, .nils, .int .i64 0, .nils, .nils]]⟩, D0, D0, D0, D0, D0, D0, D0, D0, D0, D0] =
        q9_34 (.lp 0 1 0 0) (.lp 1 1 0 0) (.ls 2 1 1 0 (lst f.code).length) [AB f, ⟨1, .arr true false 5 [[.nils, .nils, .int .i64 0, .nils, .nils]]⟩, AL 1 (kpL f (lst f.code).length), o3, D0, D0, D0, D0, D0, D0, D0, D0] := by
      rw [← h35]
      simp only [q9_44, l0, ob_some, c2, oh_some, if_true, evBin_neq, show decide ((0 : Int) ≠ 0) = false from rfl, cnd_f, q9_43, cR, q9_41, evFa_lp, Nat.zero_add, lc, evLen_sl]
    rw [e44, e34, e23, e8]
    have l5 : ∀ (a b c d e g : AO) (L : List Ins) (R : List Row) (gc gr : Nat), evLd true 5 (.lp 5 1 0 0) [a, b, c, d, e, AG f L gc R gr, o6, o7, g, o9, o10, slotO gr D0 R] = some (.agg [slA f.regs, slA f.params, .int .i64 f.ret, slotV Ins 8 gc L, slotV Row 11 gr R]) := fun a b c d e g L R gc gr => by simp [aggOr]
    have s1 : ∀ (a c d e g : AO) (t : Heap) (V W : AV) (hV : leaf1 V = true) (hW : leaf1 W = true), evSt 5 (.lp 1 1 0 0) (.agg [slA f.regs, slA f.params, .int .i64 f.ret, V, W]) (a :: ⟨1, .arr true false 5 [[.nils, .nils, .int .i64 0, .nils, .nils]]⟩ :: t) = some (.tup [], a :: ⟨1, .arr true false 5 [[slA f.regs, slA f.params, .int .i64 f.ret, V, W]]⟩ :: t) := fun a c d e g t V W hV hW => by simp [evSt_lp, spliceAt, hV, hW]
    have l1 : ∀ (a : AO) (t : Heap) (V W : AV), evLd true 5 (.lp 1 1 0 0) (a :: ⟨1, .arr true false 5 [[slA f.regs, slA f.params, .int .i64 f.ret, V, W]]⟩ :: t) = some (.agg [slA f.regs, slA f.params, .int .i64 f.ret, V, W]) := fun a t V W => by simp [aggOr]
    simp only [q9_1, l5, ob_some, s1 (AB f) D0 D0 D0 D0 _ _ _ (leaf1_slot _ _ _) (leaf1_slot _ _ _), oh_some, l1]
    exact trim_reads f (trimM f) rfl rfl (by rw [trimM, hw]; rfl)
end Go.Vm
namespace Go.Vm
@[simp] theorem s_RCalls (op : Int) : (callW E).p 7 [.int .i64 op] = some ⟨.bool (calls op), [], true, [], []⟩ := by
  rw [x_q59, q59_1]
  by_cases h1 : 23 ≤ op
  · by_cases h2 : op ≤ 26 <;> simp [h1, h2, calls]
  · simp [h1, calls]
end Go.Vm
namespace Go.Vm
open Cel
attribute [local simp] callAny callP heapOf_nil
theorem in_loop (op : Int) (o : Option (List Int)) (hl : (lst o).length ≤ 9223372036854775807) (h : Heap) : ∀ (d i : Nat), i + d = (lst o).length →
    q70_L2 (.int .i64 op) (slA o) (.int .i64 i) h = some ⟨.bool (decide (op ∈ (lst o).drop i)), [], true, [], []⟩ := by
  intro d
  induction d with
  | zero =>
    intro i hi
    have e1 : (lst o).drop i = [] := List.drop_eq_nil_of_le (by omega)
    have hn : ¬ ((i : Int) < ((lst o).length : Int)) := by omega
    rw [q70_L2_go, e1]
    simp [q70_1, q70_3, q70_4, q70_5, q70_7, q70_9, hn]
  | succ d ih =>
    intro i hi
    have hlt : i < (lst o).length := by omega
    have hn : ((i : Int) < ((lst o).length : Int)) := by omega
    have k1 := ixs_int (o := o) (i := i) (List.getElem?_eq_getElem hlt) .i64
    have hm : op ∈ (lst o).drop i ↔ op = (lst o)[i] ∨ op ∈ (lst o).drop (i + 1) := by rw [List.drop_eq_getElem_cons hlt, List.mem_cons]
    rw [q70_L2_go]
    simp only [hm]
    have ih := ih (i + 1) (by omega)
    push_cast at ih
    by_cases he : (lst o)[i] = op
    · simp [q70_1, q70_3, q70_4, q70_5, q70_7, q70_9, hn, k1, he]
    · have he' : ¬ op = (lst o)[i] := fun h => he h.symm
      simp [q70_1, q70_3, q70_4, q70_5, q70_7, q70_9, hn, k1, he, he', wrap_up hlt hl, ih]
theorem s_in (op : Int) (o : Option (List Int)) (hl : (lst o).length ≤ 9223372036854775807) : (callW E).p 42 [.int .i64 op, slA o] = some ⟨.bool (decide (op ∈ lst o)), [], true, [], []⟩ := by
  have := in_loop op o hl [] _ 0 (Nat.zero_add _)
  simp only [Int.ofNat_zero, List.drop_zero] at this
  rw [x_q70, ← this]
  simp [q70_1, q70_3, q70_4, q70_5, q70_7, q70_9]
theorem s_in3 (op a b c : Int) : (callW E).p 42 [.int .i64 op, .rs 1 [[.int .i64 a], [.int .i64 b], [.int .i64 c]]] = some ⟨.bool (decide (op ∈ [a, b, c])), [], true, [], []⟩ :=
  s_in op (some [a, b, c]) (by simp)
theorem freeze3 (g a b c : Nat) (x y z : Int) (t : Heap) : fz (⟨g, .arr false false 1 [[.int .i64 x], [.int .i64 y], [.int .i64 z]]⟩ :: t) fuelF (.ls 0 g 1 0 3) = some ⟨.rs 1 [[.int .i64 x], [.int .i64 y], [.int .i64 z]], true, [0]⟩ := by
  rw [fz_ls, rowsAt_0]; rfl
@[simp] theorem s_RLeads (op : Int) : (callW E).p 23 [.int .i64 op] = some ⟨.bool (leads op), [], true, [], []⟩ := by
  rw [x_q64, q64_1]
  simp [buildSC, fillRows, freeze3 1 0 0 0, s_in3, leads, Bool.or_assoc]
@[simp] theorem s_REnds (op : Int) : (callW E).p 25 [.int .i64 op] = some ⟨.bool (ends op), [], true, [], []⟩ := by
  rw [x_q62, q62_1]
  simp [buildSC, fillRows, freeze3 1 0 0 0, s_in3, ends, Bool.or_assoc]
end Go.Vm
namespace Go.Vm
open Cel
attribute [local simp] callAny callP heapOf_nil
@[simp] theorem s_RThrows (op : Int) : (callW E).p 19 [.int .i64 op] = some ⟨.bool (throws op), [], true, [], []⟩ := by
  rw [x_q67, q67_1]
  by_cases h1 : 7 ≤ op
  · by_cases h2 : op ≤ 12
    · simp [h1, h2, throws]
    · simp [h1, h2, buildSC, fillRows, freeze3 1 0 0 0, s_in3, throws]
      by_cases h3 : op = 20
      · simp [h3]
      by_cases h4 : op = 21
      · simp [h4]
      by_cases h5 : op = 31 <;> simp [h3, h4, h5]
  · have h4 : ¬ op = 20 ∧ ¬ op = 21 ∧ ¬ op = 31 := by omega
    simp [h1, buildSC, fillRows, freeze3 1 0 0 0, s_in3, throws, h4]
theorem in11_loop (n : Int) (o : Option (List Int)) (hl : (lst o).length ≤ 9223372036854775807) (h : Heap) : ∀ (d i : Nat), i + d = (lst o).length →
    q83_L2 (slA o) (.int .i64 n) (.int .i64 i) h = some ⟨.bool (((lst o).drop i).contains n), [], true, [], []⟩ := by
  intro d
  induction d with
  | zero =>
    intro i hi
    have e1 : (lst o).drop i = [] := List.drop_eq_nil_of_le (by omega)
    have hn : ¬ ((i : Int) < ((lst o).length : Int)) := by omega
    rw [q83_L2_go, e1]
    simp [q83_1, q83_3, q83_4, q83_5, q83_7, q83_9, hn]
  | succ d ih =>
    intro i hi
    have hlt : i < (lst o).length := by omega
    have hn : ((i : Int) < ((lst o).length : Int)) := by omega
    have k1 := ixs_int (o := o) (i := i) (List.getElem?_eq_getElem hlt) .i64
    rw [q83_L2_go, List.drop_eq_getElem_cons hlt, List.contains_cons]
    have ih := ih (i + 1) (by omega)
    push_cast at ih
    generalize (lst o)[i] = x at *
    by_cases he : x = n
    · simp [q83_1, q83_3, q83_4, q83_5, q83_7, q83_9, hn, k1, he]
    · have he' : ¬ n = x := fun h => he h.symm
      simp [q83_1, q83_3, q83_4, q83_5, q83_7, q83_9, hn, k1, he, he', wrap_up hlt hl, ih]
theorem s_in11 (n : Int) (o : Option (List Int)) (hl : (lst o).length ≤ 9223372036854775807) : (callW E).p 96 [slA o, .int .i64 n] = some ⟨.bool ((lst o).contains n), [], true, [], []⟩ := by
  have := in11_loop n o hl [] _ 0 (Nat.zero_add _)
  simp only [Int.ofNat_zero, List.drop_zero] at this
  rw [x_q83, ← this]
  simp [q83_1, q83_3, q83_4, q83_5, q83_7, q83_9]
theorem Rcontains1 (a b : Int) : (callW E).p 96 [.rs 1 [[.int .i64 a]], .int .i64 b] = some ⟨.bool ([a].contains b), [], true, [], []⟩ := by
  have := s_in11 b (some [a]) (by simp)
  exact this
theorem s_RNext (f : Fn) (i : Int) (hl : (lst f.code).length ≤ 9223372036854775807) : (callW E).p 95 [.agg (enc f), .int .i64 i] = some (exO (nz (nextL f i))) := by
  rw [x_q79]
  by_cases h0 : i < 0
  · simp [q79_1, q79_2, q79_3, q79_4, q79_5, q79_6, q79_7, h0, nextL, nz]; rfl
  by_cases h1 : ((lst f.code).length : Int) ≤ i
  · simp [q79_1, q79_2, q79_3, q79_4, q79_5, q79_6, q79_7, h0, h1, nextL, nz]; rfl
  have g0 : 0 ≤ i := by omega
  have hx := insAt_lt (f := f) (i := i.toNat) (by omega)
  have k1 := ixs_insI (o := f.code) g0 hx .i64
  have hw := wrap_next g0 (by omega) hl
  have hn : nextL f i = nextI (insAt f i.toNat) i := by rw [nextL, if_neg (by omega)]
  rw [hn]
  generalize insAt f i.toNat = x at *
  have e : q79_7 (.agg (enc f)) (.int .i64 i) [⟨0, .dead⟩, ⟨0, .dead⟩, ⟨0, .dead⟩, ⟨0, .dead⟩, ⟨0, .dead⟩] = q79_3 (.int .i64 i) (.lp 1 1 0 0) .nils [⟨1, .arr true false 5 [enc f]⟩, ⟨1, .arr true false 9 [enc x]⟩, ⟨0, .dead⟩, ⟨0, .dead⟩, ⟨0, .dead⟩] := by
    simp [q79_7, q79_6, q79_5, q79_4, h0, h1, k1]
  rw [e, nextI]
  cases he : ends x.op with
  | true =>
    cases hd : leads x.op with
    | false => simp [q79_3, q79_2, q79_1, he, hd, nz]; rfl
    | true =>
      have := s_in11 x.t none (by simp)
      simp [q79_3, q79_2, q79_1, he, hd, nz, slA] at this ⊢
      simp [this, buildSC, fillRows, evApp, addN]
      exact expo1_int1 (by simp)
  | false =>
    cases hd : leads x.op with
    | false =>
      simp [q79_3, q79_2, q79_1, he, hd, hw, buildSC, fillRows, evApp]
      exact expo1_int1 (by simp)
    | true =>
      have hz : fz [⟨1, .arr true false 5 [enc f]⟩, ⟨1, .arr true false 9 [enc x]⟩, ⟨1, .arr false false 1 [[.int .i64 (i + 1)]]⟩, ⟨0, .dead⟩, ⟨0, .dead⟩] fuelF (.ls 2 1 1 0 1) = some ⟨.rs 1 [[.int .i64 (i + 1)]], true, [2]⟩ := by
        rw [fz_ls]; rfl
      generalize hxt : x.t = t at *
      by_cases hc : i + 1 = t
      · subst hc
        simp [q79_3, q79_2, q79_1, he, hd, hw, buildSC, fillRows, evApp, hz, Rcontains1, addN, hxt]
        exact expo1_int1 (by simp)
      · have hc' : ¬ t = i + 1 := fun h => hc h.symm
        simp [q79_3, q79_2, q79_1, he, hd, hw, buildSC, fillRows, evApp, hz, Rcontains1, hc, hc', addN, hxt]
        exact expo1_int2 (by simp)
theorem RCaught_loop (f : Fn) (i : Int) (hl : (lst f.rows).length ≤ 274877906944) : ∀ (d k g : Nat) (L : List Int) (o1 o2 : AO), k + d = (lst f.rows).length → L.length ≤ k →
    q77_L2 (.int .i64 i) (.lp 0 1 0 0) (slotV Int 3 g L) (.int .i64 k) [⟨1, .arr true false 5 [enc f]⟩, o1, o2, slotO g D0 L] = some (exO (nz (caughtG i ((lst f.rows).drop k) L))) := by
  intro d
  induction d with
  | zero =>
    intro k g L o1 o2 hk _
    have e1 : (lst f.rows).drop k = [] := List.drop_eq_nil_of_le (by omega)
    have hn : ¬ ((k : Int) < ((lst f.rows).length : Int)) := by omega
    have hx := expo1_slotX (H := [⟨1, .arr true false 5 [enc f]⟩, o1, o2, slotO g D0 L]) (j := 3) (g := g) (o := D0) (L := L) rfl
    rw [q77_L2_go, e1]
    simp [q77_11, q77_1, hn, caughtG, hx]
  | succ d ih =>
    intro k g L o1 o2 hk hL
    have hlt : k < (lst f.rows).length := by omega
    have hc : ((k : Int) < ((lst f.rows).length : Int)) := by omega
    have k1 := ixs_row (o := f.rows) (i := k) (List.getElem?_eq_getElem hlt) .i64
    rw [q77_L2_go, List.drop_eq_getElem_cons hlt]
    generalize hr : (lst f.rows)[k] = r at *
    have ih0 := fun g L o1 o2 hL => ih (k + 1) g L o1 o2 (by omega) hL
    push_cast at ih0
    have hw := wrap_up hlt (by omega)
    have e11 : q77_11 (.int .i64 i) (.lp 0 1 0 0) (slotV Int 3 g L) (.int .i64 k) [⟨1, .arr true false 5 [enc f]⟩, o1, o2, slotO g D0 L] =
        q77_7 (.int .i64 i) (.lp 0 1 0 0) (slotV Int 3 g L) (.int .i64 k) (.lp 1 (o1.gen + 1) 0 0) [⟨1, .arr true false 5 [enc f]⟩, ⟨o1.gen + 1, .arr true false 4 [enc r]⟩, o2, slotO g D0 L] := by
      simp [q77_11, q77_8, hc, k1]
    rw [e11]
    generalize (o1.gen + 1) = g1
    by_cases h1 : r.f ≤ i
    rotate_left
    · have : ¬ (r.f ≤ i ∧ i < r.t) := by omega
      simp [q77_7, q77_6, q77_3, h1, hw, caughtG, ih0 g L _ _ (by omega)]
    by_cases h2 : i < r.t
    rotate_left
    · have : ¬ (r.f ≤ i ∧ i < r.t) := by omega
      simp [q77_7, q77_6, q77_3, h1, h2, hw, caughtG, ih0 g L _ _ (by omega)]
    rw [caughtG, if_pos ⟨h1, h2⟩]
    have hz : ∀ o2, fz [⟨1, .arr true false 5 [enc f]⟩, ⟨g1, .arr true false 4 [enc r]⟩, o2, slotO g D0 L] fuelF (slotV Int 3 g L) = some ⟨slA (nz L), true, ids1 (slotV Int 3 g L)⟩ := fun o2 => fz_slotI rfl
    have hct := s_in11 r.at_ (nz L) (by rw [lst_nz]; omega)
    rw [lst_nz] at hct
    have tail : ∀ g L o2, L.length ≤ k + 1 → q77_4 (.int .i64 i) (.lp 0 1 0 0) (slotV Int 3 g L) (.int .i64 k) (.lp 1 g1 0 0) [⟨1, .arr true false 5 [enc f]⟩, ⟨g1, .arr true false 4 [enc r]⟩, o2, slotO g D0 L] =
        some (exO (nz (if r.c = [] then L else caughtG i ((lst f.rows).drop (k + 1)) L))) := by
      intro g L o2 hL
      have hx := expo1_slotX (H := [⟨1, .arr true false 5 [enc f]⟩, ⟨g1, .arr true false 4 [enc r]⟩, o2, slotO g D0 L]) (j := 3) (g := g) (o := D0) (L := L) rfl
      by_cases hcl : r.c = []
      · simp [q77_4, hcl, hx]
      · simp [q77_4, q77_3, hcl, hw, ih0 g L _ _ hL]
    unfold addN
    cases hb : L.contains r.at_ with
    | true =>
      rw [hb] at hct
      rw [if_pos rfl]
      have := tail g L o2 (by omega)
      simp [q77_7, q77_6, q77_5, h1, h2, hz, hct, this]
    | false =>
      rw [hb] at hct
      rw [if_neg Bool.false_ne_true]
      obtain ⟨g', ha⟩ := app_int (H := [⟨1, .arr true false 5 [enc f]⟩, ⟨g1, .arr true false 4 [enc r]⟩, ⟨o2.gen + 1, .arr false false 1 [[.int .i64 r.at_]]⟩, slotO g D0 L]) (fb := 0) (j := 3) (g := g) (o := D0) (y := .ls 2 (o2.gen + 1) 1 0 1) (L := L) (n := r.at_) (by simp) rfl (by omega)
      have ha' : evApp 0 (some 3) 1 8 (slotV Int 3 g L) (.ls 2 (o2.gen + 1) 1 0 1) [⟨1, .arr true false 5 [enc f]⟩, ⟨g1, .arr true false 4 [enc r]⟩, ⟨o2.gen + 1, .arr false false 1 [[.int .i64 r.at_]]⟩, slotO g D0 L] = some (slotV Int 3 g' (L ++ [r.at_]), [⟨1, .arr true false 5 [enc f]⟩, ⟨g1, .arr true false 4 [enc r]⟩, ⟨o2.gen + 1, .arr false false 1 [[.int .i64 r.at_]]⟩, slotO g' D0 (L ++ [r.at_])]) := ha
      have := tail g' (L ++ [r.at_]) ⟨o2.gen + 1, .arr false false 1 [[.int .i64 r.at_]]⟩ (by simp; omega)
      simp [q77_7, q77_6, q77_5, h1, h2, hz, hct, buildSC, fillRows, ha', this]
theorem s_RCaught (f : Fn) (i : Int) (hl : (lst f.rows).length ≤ 274877906944) : (callW E).p 92 [.agg (enc f), .int .i64 i] = some (exO (nz (caughtL f i))) := by
  rw [x_q77]
  by_cases h0 : i < 0
  · simp [q77_17, q77_16, q77_15, h0, caughtL, nz]; rfl
  by_cases h1 : ((lst f.code).length : Int) ≤ i
  · simp [q77_17, q77_16, q77_15, h0, h1, caughtL, nz]; rfl
  have g0 : 0 ≤ i := by omega
  have hx := insAt_lt (f := f) (i := i.toNat) (by omega)
  have k1 := ixs_insI (o := f.code) g0 hx .i64
  have hn : caughtL f i = if throws (insAt f i.toNat).op then caughtG i (lst f.rows) [] else [] := by rw [caughtL, if_neg (by omega)]
  rw [hn]
  generalize insAt f i.toNat = x at *
  have lp := RCaught_loop f i hl _ 0 0 [] D0 D0 (Nat.zero_add _) (Nat.zero_le _)
  simp only [slotV_nil, slotO_nil, List.drop_zero, Int.ofNat_zero] at lp
  have lp' : q77_13 (.int .i64 i) (.lp 0 1 0 0) .nils [⟨1, .arr true false 5 [enc f]⟩, D0, D0, D0] = some (exO (nz (caughtG i (lst f.rows) []))) := lp
  cases ht : throws x.op with
  | false => simp [q77_17, q77_16, q77_15, h0, h1, k1, ht, nz]; rfl
  | true => simp [q77_17, q77_16, q77_15, h0, h1, k1, ht, lp']
end Go.Vm
namespace Go.Vm
open Cel
attribute [local simp] callAny callP heapOf_nil
theorem s_All (f : Fn) (i : Int) (hc : (lst f.code).length ≤ 9223372036854775807) (hr : (lst f.rows).length ≤ 100000000000) : (callW E).p 105 [.agg (enc f), .int .i64 i] = some (exO (nz (nextL f i ++ caughtL f i))) := by
  rw [x_q76]
  have hN := s_RNext f i hc
  have hC := s_RCaught f i (by omega)
  have c2 : ∀ h : Heap, callAny E (callW E) 0 none true 92 [.agg (enc f), .int .i64 i] h = some (slA (nz (caughtL f i)), h) := fun h => by simp [hC]
  have hl1 := nextL_len f i
  have hl2 := caughtL_len f i
  generalize nextL f i = N at *
  generalize caughtL f i = M at *
  have c1 := call_slot (α := Int) (E := E) (C := callW E) (fb := 0) (j := 1) (f := 95) (args := [.agg (enc f), .int .i64 i]) (H := [⟨1, .arr true false 5 [enc f]⟩, D0, D0]) (N := N) (o := D0) rfl (by simp; rfl) hN (.inl (by simp)) rfl
  have f2 : ∀ fb sl h, fpCall E (callW E) fb sl true 92 [.agg (enc f), .int .i64 i] h = some ([], []) := fun fb sl h => by simp [fpCall, hC]
  have f1 : fpCall E (callW E) 0 (some 1) false 95 [.agg (enc f), .int .i64 i] [⟨1, .arr true false 5 [enc f]⟩, D0, D0] = some ([], if N = [] then [] else [1]) := by
    cases N with
    | nil => simp [fpCall, hN]
    | cons x N => simp [fpCall, hN]
  have hb := app_bound (a := N.length) (b := M.length) (by omega)
  have l1 : ∀ t : Heap, evLd true 5 (.lp 0 1 0 0) (⟨1, .arr true false 5 [enc f]⟩ :: t) = some (.agg (enc f)) := fun t => by simp
  cases N with
  | nil =>
    have a1 := app_slot (α := Int) (H := [⟨1, .arr true false 5 [enc f]⟩, D0, D0]) (fb := 0) (j := 2) (g := 0) (b := 8) (o := D0) (y := slA (nz M)) (L := []) (M := M) (by simp) rfl hb
    obtain ⟨g', a1⟩ := a1
    simp only [slotV_nil, slotO_nil, List.set_cons_zero, List.set_cons_succ, Nat.zero_add, List.nil_append, if_true, es_int] at c1 f1 a1
    have hx := expo1_slotX (H := [⟨1, .arr true false 5 [enc f]⟩, D0, slotO g' D0 M]) (j := 2) (g := g') (o := D0) (L := M) rfl
    have hp : pairsOk [(ids1 (.lp 0 1 0 0), []), ([], []), ([], []), (ids1 (.lp 0 1 0 0), []), ([], []), ([], []), (ids1 (slA (nz M)), ids1 AV.nils ++ [0 + 2]), ([], [])] [(2, 3)] = true := by simp [pairsOk, fpApart, meets]
    simp only [q76_1, newC, cellsOf_agg, leaf_fn, if_true, newBox, place, List.getElem?_cons_zero, Nat.zero_add, List.set_cons_zero, oh_some, len_fn, l1, ob_some, f1, ofp_some, c1, f2, c2, a1]
    simp only [Nat.zero_add] at hp
    rw [hp, okK_t, hx, List.nil_append]
  | cons x N =>
    have a1 := app_stk (α := Int) (H := [⟨1, .arr true false 5 [enc f]⟩, ⟨1, .arr false false 1 ((x :: N).map enc)⟩, D0]) (fb := 0) (sl := some 2) (id := 1) (g := 1) (b := 8) (y := slA (nz M)) (L := x :: N) (M := M) (T := []) (by simp) (by simp) hb
    simp only [slotV, slotO, List.set_cons_zero, List.set_cons_succ, Nat.zero_add, es_int, List.length_cons, List.cons_append, reduceCtorEq, if_false] at c1 f1 a1
    have hx := expo1_own (α := Int) (h := [⟨1, .arr true false 5 [enc f]⟩, ⟨1 + 1, .arr false false 1 ((x :: (N ++ M)).map enc)⟩, D0]) (id := 1) (g := 1 + 1) (L := x :: (N ++ M)) (by simp)
    simp only [es_int, List.length_cons] at hx
    have hp : pairsOk [(ids1 (.lp 0 1 0 0), []), ([], []), ([], [1]), (ids1 (.lp 0 1 0 0), []), ([], []), ([], []), (ids1 (slA (nz M)), ids1 (.ls 1 1 1 0 (N.length + 1)) ++ [0 + 2]), ([], [])] [(2, 3)] = true := by simp [pairsOk, fpApart, meets]
    have c1' : callAny E (callW E) 0 (some 1) false 95 [.agg (enc f), .int .i64 i] [⟨1, .arr true false 5 [enc f]⟩, D0, D0] = some (.ls 1 1 1 0 (N.length + 1), [⟨1, .arr true false 5 [enc f]⟩, ⟨1, .arr false false 1 ((x :: N).map enc)⟩, D0]) := c1
    simp only [q76_1, newC, cellsOf_agg, leaf_fn, if_true, newBox, place, List.getElem?_cons_zero, Nat.zero_add, List.set_cons_zero, oh_some, len_fn, l1, ob_some, f1, ofp_some, c1', f2, c2, a1]
    simp only [Nat.zero_add] at hp
    rw [hp, okK_t, hx]
    rfl
theorem RReach_in (v1 v5 : AV) (n : Nat) (b : AO) (l : List Int) (hl : l.length ≤ 9223372036854775807) : ∀ (d k : Nat) (seen : List Bool) (more : Bool), k + d = l.length → seen.length = n →
    q80_L5 v1 (.ls 1 1 1 0 n) (.bool more) v5 (slA (nz l)) (.int .i64 k) [b, ⟨1, .arr false false 1 (seen.map enc)⟩] =
      q80_4 v1 (.ls 1 1 1 0 n) (.bool (rIn (l.drop k) (seen, more)).2) v5 [b, ⟨1, .arr false false 1 ((rIn (l.drop k) (seen, more)).1.map enc)⟩] := by
  intro d
  induction d with
  | zero =>
    intro k seen more hk hn
    have e1 : l.drop k = [] := List.drop_eq_nil_of_le (by omega)
    have hnk : ¬ ((k : Int) < (l.length : Int)) := by omega
    rw [q80_L5_go, e1]
    simp [q80_8, hnk, rIn]
  | succ d ih =>
    intro k seen more hk hn
    have hlt : k < l.length := by omega
    have hc : ((k : Int) < (l.length : Int)) := by omega
    have k1 := ixs_int (o := nz l) (i := k) (x := l[k]) (by rw [lst_nz]; exact List.getElem?_eq_getElem hlt) .i64
    have hw := wrap_up hlt hl
    rw [q80_L5_go, List.drop_eq_getElem_cons hlt]
    generalize l[k] = j at *
    have ih0 := fun seen more hn => ih (k + 1) seen more (by omega) hn
    push_cast at ih0
    rw [rIn]
    simp only
    by_cases h0 : 0 ≤ j
    rotate_left
    · rw [if_neg (fun h => h0 h.1)]
      simp [q80_8, q80_7, q80_6, hc, k1, h0, hw, ih0 seen more hn]
    by_cases h1 : j < (n : Int)
    rotate_left
    · rw [if_neg (fun h => h1 (by rw [← hn]; exact h.2.1))]
      simp [q80_8, q80_7, q80_6, hc, k1, h0, h1, hw, ih0 seen more hn]
    have hj : j.toNat < seen.length := by omega
    have r1 : evIxs 1 (.ls 1 1 1 0 n) (.int .i64 j) = some (.lp 1 1 j.toNat 0) := by simp [evIxs, h0, h1]
    have hgd : seen.getD j.toNat true = seen[j.toNat] := by rw [List.getD_eq_getElem?_getD, List.getElem?_eq_getElem hj]; rfl
    cases hs : seen[j.toNat] with
    | true =>
      rw [if_neg (fun h => by rw [hgd, hs] at h; cases h.2.2)]
      simp [q80_8, q80_7, q80_6, hc, k1, h0, h1, r1, hj, hs, hw, ih0 seen more hn]
    | false =>
      rw [if_pos ⟨h0, by omega, by rw [hgd, hs]⟩]
      have st : evSt 1 (.lp 1 1 j.toNat 0) (.bool true) [b, ⟨1, .arr false false 1 (seen.map enc)⟩] = some (.tup [], [b, ⟨1, .arr false false 1 ((seen.set j.toNat true).map enc)⟩]) :=
        evSt_at (α := Bool) (v := .bool true) (y := true) rfl hj rfl
      have ihs := ih0 (seen.set j.toNat true) true (by simpa using hn)
      have e : q80_8 v1 (.ls 1 1 1 0 n) (.bool more) v5 (slA (nz l)) (.int .i64 k) [b, ⟨1, .arr false false 1 (seen.map enc)⟩] =
          ob (evIxs 1 (slA (nz l)) (.int .i64 k)) fun v65 => ob (evLd false 1 v65 [b, ⟨1, .arr false false 1 (seen.map enc)⟩]) fun v66 => ob (evIxs 1 (.ls 1 1 1 0 n) v66) fun v67 =>
            oh (evSt 1 v67 (.bool true) [b, ⟨1, .arr false false 1 (seen.map enc)⟩]) fun _ h1 => q80_6 v1 (.ls 1 1 1 0 n) (.bool true) v5 (slA (nz l)) (.int .i64 k) h1 := by
        simp [q80_8, q80_7, hc, k1, h0, h1, r1, hj, hs]
      have l1 : ∀ H : Heap, evLd false 1 (.rp [.int .i64 j]) H = some (.int .i64 j) := fun H => by simp
      rw [e]
      simp only [k1, ob_some, l1, r1, st, oh_some, q80_6, evBin_add, hw, ihs]
theorem RReach_round (f : Fn) (hc : (lst f.code).length ≤ 9223372036854775807) (hr : (lst f.rows).length ≤ 100000000000) : ∀ (d i : Nat) (seen : List Bool) (more : Bool), i + d = (lst f.code).length → seen.length = (lst f.code).length →
    q80_L3 (.lp 0 1 0 0) (.ls 1 1 1 0 (lst f.code).length) (.bool more) (.int .i64 i) [⟨1, .arr true false 5 [enc f]⟩, ⟨1, .arr false false 1 (seen.map enc)⟩] =
      q80_L2 (.lp 0 1 0 0) (.ls 1 1 1 0 (lst f.code).length) (.bool (rRound (succL f) d i (seen, more)).2) [⟨1, .arr true false 5 [enc f]⟩, ⟨1, .arr false false 1 ((rRound (succL f) d i (seen, more)).1.map enc)⟩] := by
  intro d
  induction d with
  | zero =>
    intro i seen more hi hn
    have h1 : ¬ ((i : Int) < ((lst f.code).length : Int)) := by omega
    rw [q80_L3_go]
    simp [q80_15, h1, rRound]
  | succ d ih =>
    intro i seen more hi hn
    have hlt : i < (lst f.code).length := by omega
    have h1 : ((i : Int) < ((lst f.code).length : Int)) := by omega
    have hw := wrap_up hlt hc
    rw [q80_L3_go, rRound]
    have ih0 := fun seen more hn => ih (i + 1) seen more (by omega) hn
    push_cast at ih0
    have hj : i < seen.length := by omega
    have r1 : evIxs 1 (.ls 1 1 1 0 (lst f.code).length) (.int .i64 i) = some (.lp 1 1 i 0) := by simp [evIxs, h1]
    have hgd : seen.getD i false = seen[i] := by rw [List.getD_eq_getElem?_getD, List.getElem?_eq_getElem hj]; rfl
    simp only [hgd]
    cases hs : seen[i] with
    | false =>
      rw [if_neg Bool.false_ne_true]
      simp [q80_15, q80_12, q80_4, h1, r1, hj, hs, hw, ih0 seen more hn]
    | true =>
      rw [if_pos rfl]
      have hA := s_All f i hc hr
      have hs2 : succL f i = nextL f i ++ caughtL f i := rfl
      rw [← hs2] at hA
      have hlen := succL_len f i
      have lp := RReach_in (.lp 0 1 0 0) (.int .i64 i) (lst f.code).length ⟨1, .arr true false 5 [enc f]⟩ (succL f i) (by omega) _ 0 seen more (Nat.zero_add _) hn
      simp only [List.drop_zero, Int.ofNat_zero] at lp
      have hln : (rIn (succL f i) (seen, more)).1.length = (lst f.code).length := by
        have : ∀ (l : List Int) (s : List Bool × Bool), (rIn l s).1.length = s.1.length := by
          intro l
          induction l with
          | nil => intro s; rfl
          | cons j l ih => intro s; rw [rIn, ih]; split <;> simp
        rw [this]; exact hn
      have ihs := ih0 (rIn (succL f i) (seen, more)).1 (rIn (succL f i) (seen, more)).2 hln
      have lp' : q80_10 (.lp 0 1 0 0) (.ls 1 1 1 0 (lst f.code).length) (.bool more) (.int .i64 i) (slA (nz (succL f i))) [⟨1, .arr true false 5 [enc f]⟩, ⟨1, .arr false false 1 (seen.map enc)⟩] = _ := lp
      have c1 : ∀ h : Heap, callAny E (callW E) 0 none true 105 [.agg (enc f), .int .i64 i] h = some (slA (nz (succL f i)), h) := fun h => by simp [hA]
      have e : q80_15 (.lp 0 1 0 0) (.ls 1 1 1 0 (lst f.code).length) (.bool more) (.int .i64 i) [⟨1, .arr true false 5 [enc f]⟩, ⟨1, .arr false false 1 (seen.map enc)⟩] =
          q80_11 (.lp 0 1 0 0) (.ls 1 1 1 0 (lst f.code).length) (.bool more) (.int .i64 i) [⟨1, .arr true false 5 [enc f]⟩, ⟨1, .arr false false 1 (seen.map enc)⟩] := by
        simp [q80_15, q80_12, h1, r1, hj, hs]
      have l1 : ∀ t : Heap, evLd true 5 (.lp 0 1 0 0) (⟨1, .arr true false 5 [enc f]⟩ :: t) = some (.agg (enc f)) := fun t => by simp
      rw [e]
      simp only [q80_11, l1, ob_some, c1, oh_some, lp', q80_4, evBin_add, hw, ihs]
theorem RReach_all (f : Fn) (hc : (lst f.code).length ≤ 9223372036854775807) (hr : (lst f.rows).length ≤ 100000000000) : ∀ (k : Nat) (seen r : List Bool), seen.length = (lst f.code).length → rAll (lst f.code).length (succL f) k seen = some r →
    q80_L2 (.lp 0 1 0 0) (.ls 1 1 1 0 (lst f.code).length) (.bool true) [⟨1, .arr true false 5 [enc f]⟩, ⟨1, .arr false false 1 (seen.map enc)⟩] = some (exO (some r)) := by
  intro k
  induction k with
  | zero => intro seen r _ h; cases h
  | succ k ih =>
    intro seen r hn h
    rw [rAll] at h
    rw [q80_L2_go]
    have lp := RReach_round f hc hr _ 0 seen false (Nat.zero_add _) hn
    have lp' : q80_17 (.lp 0 1 0 0) (.ls 1 1 1 0 (lst f.code).length) (.bool false) [⟨1, .arr true false 5 [enc f]⟩, ⟨1, .arr false false 1 (seen.map enc)⟩] = _ := lp
    have hln : (rRound (succL f) (lst f.code).length 0 (seen, false)).1.length = (lst f.code).length := by
      have h1 : ∀ (l : List Int) (s : List Bool × Bool), (rIn l s).1.length = s.1.length := by
        intro l
        induction l with
        | nil => intro s; rfl
        | cons j l ih => intro s; rw [rIn, ih]; split <;> simp
      have h2 : ∀ (d i : Nat) (s : List Bool × Bool), (rRound (succL f) d i s).1.length = s.1.length := by
        intro d
        induction d with
        | zero => intro i s; rfl
        | succ d ih => intro i s; rw [rRound, ih]; split <;> simp [h1]
      rw [h2]; exact hn
    generalize rRound (succL f) (lst f.code).length 0 (seen, false) = p at *
    obtain ⟨s, more⟩ := p
    simp only at h hln lp'
    simp only [q80_20, cnd_t, q80_18, lp']
    cases more with
    | true => exact ih s r hln h
    | false =>
      simp only [Bool.false_eq_true, if_false, Option.some.injEq] at h
      subst h
      rw [q80_L2_go, q80_20, cnd_f, q80_1, ← hln]
      exact expo1_own (α := Bool) (by simp)
theorem s_RReach (f : Fn) (hc : (lst f.code).length ≤ 30000) (hr : (lst f.rows).length ≤ 1000000) : (callW E).p 104 [.agg (enc f)] = some (exO (some (reachL f))) := by
  rw [x_q80]
  have b1 : ((lst f.code).length : Int) ≤ 140737488355328 := by omega
  have b2 : ((lst f.code).length : Int) ≤ 4611686018427387904 := by omega
  by_cases h0 : (lst f.code).length = 0
  · have hnil : lst f.code = [] := List.eq_nil_of_length_eq_zero h0
    have e : reachL f = [] := by
      have := reachL_len f
      rw [h0] at this
      exact List.eq_nil_of_length_eq_zero this
    obtain ⟨r, h, h1, h2⟩ := rAll_ends (n := (lst f.code).length) (S := succL f) (A := [0]) 1 [] (by simp [h0]) (fun i h => by simp at h) (by simp [unseen]) (fun j _ h3 h4 => by omega)
    have er := reachL_of h1 h2
    subst er
    have := RReach_all f (by omega) (by omega) _ _ _ (by simp [h0]) h
    have t' : q80_22 (.lp 0 1 0 0) (.ls 1 1 1 0 (lst f.code).length) [⟨1, .arr true false 5 [enc f]⟩, ⟨1, .arr false false 1 (([] : List Bool).map enc)⟩] = _ := this
    simp only [List.map_nil, h0] at t'
    simp [q80_26, q80_25, q80_24, mkSC, hnil]
    exact t'
  · have hp : 0 < (lst f.code).length := by omega
    have hp' : (0 : Int) < ((lst f.code).length : Int) := by omega
    have hset : ∀ i : Nat, ((List.replicate (lst f.code).length false).set 0 true)[i]? = some true → i = 0 := by
      intro i hi
      rw [List.getElem?_set] at hi
      split at hi
      · rename_i e; exact e.symm
      · rw [List.getElem?_replicate] at hi
        split at hi <;> cases hi
    have h00 : ((List.replicate (lst f.code).length false).set 0 true)[0]? = some true := by simp [hp]
    obtain ⟨r, h, h1, h2⟩ := rAll_ends (n := (lst f.code).length) (S := succL f) (A := [0]) ((lst f.code).length + 1) ((List.replicate (lst f.code).length false).set 0 true) (by simp)
      (fun i hi => by rw [hset i hi]; exact Rch.base (j := 0) (by simp) (by omega) hp') (by
        unfold unseen
        exact Nat.lt_succ_of_le (Nat.le_trans List.countP_le_length (by rw [List.length_set, List.length_replicate]; exact Nat.le_refl _))) (fun j hj h3 h4 => by
        rw [List.mem_singleton] at hj
        subst hj
        exact h00)
    have er := reachL_of h1 h2
    subst er
    have := RReach_all f (by omega) (by omega) _ _ _ (by simp) h
    have t' : q80_22 (.lp 0 1 0 0) (.ls 1 1 1 0 (lst f.code).length) [⟨1, .arr true false 5 [enc f]⟩, ⟨1, .arr false false 1 (((List.replicate (lst f.code).length false).set 0 true).map enc)⟩] = _ := this
    have st : evSt 1 (.lp 1 1 0 0) (.bool true) [⟨1, .arr true false 5 [enc f]⟩, ⟨1, .arr false false 1 ((List.replicate (lst f.code).length false).map enc)⟩] = some (.tup [], [⟨1, .arr true false 5 [enc f]⟩, ⟨1, .arr false false 1 (((List.replicate (lst f.code).length false).set 0 true).map enc)⟩]) :=
      evSt_at (α := Bool) (v := .bool true) (y := true) rfl (by rw [List.length_replicate]; exact hp) rfl
    have hix : evIxs 1 (.ls 1 1 1 0 (lst f.code).length) (.int .i64 0) = some (.lp 1 1 0 0) := by
      have hne : lst f.code ≠ [] := fun e => by rw [e] at hp; exact Nat.lt_irrefl _ hp
      simp [evIxs, hne]
    have e26 : q80_26 (.agg (enc f)) [⟨0, .dead⟩, ⟨0, .dead⟩] = q80_24 (.lp 0 1 0 0) (.ls 1 1 1 0 (lst f.code).length) [⟨1, .arr true false 5 [enc f]⟩, ⟨1, .arr false false 1 ((List.replicate (lst f.code).length false).map enc)⟩] := by
      simp [q80_26, q80_25, mkSC, b1, b2]
    rw [e26]
    simp only [q80_24, evLen_ls, ob_some, evBin_gtr, hp', decide_true, cnd_t, hix, st, oh_some]
    exact t'
end Go.Vm
namespace Go.Vm
open Cel
attribute [local simp] callAny callP heapOf_nil
def rowT : List (List UInt8) := [[], [110, 45, 45, 45], [51, 45, 45, 45], [51, 45, 45, 45], [42, 61, 45, 45], [63, 63, 63, 63], [63, 63, 63, 63], [45, 110, 45, 45], [45, 51, 45, 45], [45, 51, 49, 45], [45, 49, 45, 45], [45, 51, 51, 45], [45, 51, 45, 45], [42, 51, 49, 45], [45, 51, 49, 42], [49, 51, 45, 45], [42, 51, 45, 45], [45, 51, 42, 45], [42, 45, 45, 45], [45, 42, 45, 45], [51, 45, 45, 45], [51, 49, 45, 45], [49, 51, 45, 45], [63, 63, 63, 63], [63, 63, 63, 63], [63, 63, 63, 63], [63, 63, 63, 63], [45, 45, 45, 45], [45, 49, 49, 45], [45, 51, 63, 45], [45, 63, 45, 45], [45, 51, 45, 45], [51, 45, 45, 45], [45, 45, 45, 45]]
def rowM (op : Int) : List UInt8 := if op < 1 ∨ 33 < op then [] else rowT.getD op.toNat []
def isStrR (r : Option (Ex AV)) (s : List UInt8) : Bool :=
  match r with
  | some ⟨.str a, [], true, [], []⟩ => a == s
  | _ => false
theorem isStrR_eq {r : Option (Ex AV)} {s : List UInt8} (h : isStrR r s = true) : r = some ⟨.str s, [], true, [], []⟩ := by
  unfold isStrR at h
  split at h
  · rw [eq_of_beq h]
  · cases h
theorem row_in : ((List.range 33).all fun i => isStrR ((both E 30).1.p 38 [.int .i64 (1 + i)]) (rowM (1 + i))) = true := by kernel_rfl
set_option maxHeartbeats 2000000 in
theorem s_row (op : Int) : (callW E).p 38 [.int .i64 op] = some ⟨.str (rowM op), [], true, [], []⟩ := by
  by_cases h : op < 1 ∨ 33 < op
  · rw [rowM, if_pos h, x_q74]
    simp only [q74_1, q74_2, q74_3, q74_4]
    generalize hb : buildSC 0 (some 0) 1 34 _ _ _ = B
    have hB : ∃ v t, B = some (.ls 0 1 1 0 34, ⟨1, .arr false false 1 v⟩ :: t) := by
      rw [← hb]; exact ⟨_, _, rfl⟩
    obtain ⟨v, t, rfl⟩ := hB
    rcases h with h | h
    · simp [h]
    · have h1 : ¬ op < 1 := by omega
      have h2 : 34 ≤ op := by omega
      simp [h1, h2]
  · have := range_all row_in (op - 1).toNat (by omega)
    have e : (1 + ((op - 1).toNat : Int)) = op := by omega
    simp only [e] at this
    exact lift_p 30 (isStrR_eq this)
@[simp] theorem s_kind (f : Fn) (r : Int) : (callW E).p 48 [.agg (enc f), .int .i64 r] = some ⟨.int .i64 (regK (lst f.regs) r), [], true, [], []⟩ := by
  rw [x_q71]
  by_cases h0 : r < 0
  · simp [q71_1, q71_2, q71_3, h0, regK]
  by_cases h1 : ((lst f.regs).length : Int) ≤ r
  · have : (lst f.regs)[r.toNat]? = none := List.getElem?_eq_none (by omega)
    simp [q71_1, q71_2, q71_3, h0, h1, regK, this]
  · have hin : inR (lst f.regs) r = true := by
      have a1 : 0 ≤ r := by omega
      have a2 : r < ((lst f.regs).length : Int) := by omega
      simp [inR, a1, a2]
    obtain ⟨a0, a1, a2⟩ := inR_get hin
    have k := ixs_intI (o := f.regs) a0 a2 .i64
    simp [q71_1, q71_2, q71_3, h0, h1, k]
def wantM (k : Int) (c : UInt8) : Bool :=
  if c = 45 ∨ c = 63 then true else if c = 42 ∨ c = 61 then decide (0 < k) else if c = 110 then decide (k = 1) || decide (k = 2) else decide (k = (c.toNat : Int) - 48)
theorem s_wanted (f : Fn) (r : Int) (c : UInt8) (hc : c = 45 ∨ c = 63 ∨ c = 42 ∨ c = 61 ∨ c = 110 ∨ c = 49 ∨ c = 50 ∨ c = 51) :
    (callW E).p 65 [.agg (enc f), .int .i64 r, .int .u8 c.toNat] = some ⟨.bool (wantM (regK (lst f.regs) r) c), [], true, [], []⟩ := by
  rw [x_q75]
  generalize hk : regK (lst f.regs) r = k
  have hk' := s_kind f r
  rw [hk] at hk'
  rcases hc with rfl | rfl | rfl | rfl | rfl | rfl | rfl | rfl
  · simp [q75_1, q75_2, q75_3, q75_4, q75_5, q75_7, q75_9, q75_10, hk', wantM]
  · simp [q75_1, q75_2, q75_3, q75_4, q75_5, q75_7, q75_9, q75_10, hk', wantM]
  · simp [q75_1, q75_2, q75_3, q75_4, q75_5, q75_7, q75_9, q75_10, hk', wantM]
  · simp [q75_1, q75_2, q75_3, q75_4, q75_5, q75_7, q75_9, q75_10, hk', wantM]
  · by_cases h1 : k = 1 <;> simp [q75_1, q75_2, q75_3, q75_4, q75_5, q75_7, q75_9, q75_10, hk', wantM, h1]
  · simp [q75_1, q75_2, q75_3, q75_4, q75_5, q75_7, q75_9, q75_10, hk', wantM, IntKind.wrap, IntKind.bits, IntKind.signed]
  · simp [q75_1, q75_2, q75_3, q75_4, q75_5, q75_7, q75_9, q75_10, hk', wantM, IntKind.wrap, IntKind.bits, IntKind.signed]
  · simp [q75_1, q75_2, q75_3, q75_4, q75_5, q75_7, q75_9, q75_10, hk', wantM, IntKind.wrap, IntKind.bits, IntKind.signed]
@[simp] theorem s_place (f : Fn) (i : Int) : (callW E).p 49 [.agg (enc f), .int .i64 i] = some ⟨.bool (placeOk (lst f.code).length i), [], true, [], []⟩ := by
  rw [x_q73]
  by_cases h0 : 0 ≤ i <;> simp [q73_1, h0, placeOk]
end Go.Vm
namespace Go.Vm
open Cel
attribute [local simp] callAny callP heapOf_nil
def mayB : List UInt8 := [97, 98, 99, 100, 101, 102, 103, 104, 105, 106, 107, 108, 109, 110, 111, 112, 113, 114, 115, 116, 117, 118, 119, 120, 121, 122, 65, 66, 67, 68, 69, 70, 71, 72, 73, 74, 75, 76, 77, 78, 79, 80, 81, 82, 83, 84, 85, 86, 87, 88, 89, 90, 48, 49, 50, 51, 52, 53, 54, 55, 56, 57, 95, 36, 47]
theorem may_in : ((List.range 256).all fun n => mayB.contains (UInt8.ofNat n) == okB (UInt8.ofNat n)) = true := by kernel_rfl
theorem may_ok (c : UInt8) : mayB.contains c = okB c := by
  have := range_all may_in c.toNat c.toNat_lt
  rw [UInt8.ofNat_toNat] at this
  exact eq_of_beq this
@[simp] theorem pure_53 : E.pure 53 = true := rfl
theorem s_has (s : List UInt8) (c : UInt8) : (callW E).p 53 [.str s, .str [c]] = some ⟨.bool (s.contains c), [], true, [], []⟩ := by
  rw [callW_p_eq, runPure, show E.fn 53 = none by kernel_rfl]
  rfl
theorem RName_loop (s : List UInt8) (hs : s.length ≤ 9223372036854775807) (h : Heap) : ∀ (d i : Nat), i + d = s.length →
    q57_L2 (.str s) (.str mayB) (.int .i64 i) h = if (s.drop i).all okB then q57_1 (.str s) h else some ⟨.bool false, [], true, [], []⟩ := by
  intro d
  induction d with
  | zero =>
    intro i hi
    have e1 : s.drop i = [] := List.drop_eq_nil_of_le (by omega)
    have hc : ¬ ((i : Int) < (s.length : Int)) := by omega
    rw [q57_L2_go, e1]
    simp [q57_5, hc]
  | succ d ih =>
    intro i hi
    have hlt : i < s.length := by omega
    have hc : ((i : Int) < (s.length : Int)) := by omega
    have ih := ih (i + 1) (by omega)
    push_cast at ih
    have e1 : (s.drop i).all okB = (okB s[i] && (s.drop (i + 1)).all okB) := by rw [List.drop_eq_getElem_cons hlt, List.all_cons]
    have hsl : evSls (.str s) (some (.int .i64 (i : Int))) (some (.int .i64 ((i : Int) + 1))) = some (.str [s[i]]) := by
      have a1 : ((0 : Int) ≤ (i : Int) + 1 ∧ (i : Int) + 1 ≤ (s.length : Int)) := by omega
      have a2 : ((0 : Int) ≤ (i : Int) ∧ (i : Int) ≤ (((i : Int) + 1).toNat : Int)) := by omega
      simp only [evSls, optIxv, asNat, if_pos a1, if_pos a2]
      have e2 : ((i : Int) + 1).toNat = i + 1 := by omega
      rw [e2, Int.toNat_natCast, List.drop_take, show i + 1 - i = 1 by omega, List.drop_eq_getElem_cons hlt]
      rfl
    have hm := s_has mayB s[i]
    rw [may_ok] at hm
    rw [q57_L2_go, e1]
    simp only [q57_5, evLen_str, ob_some, evBin_lss, hc, decide_true, cnd_t]
    cases hb : okB s[i] with
    | true =>
      rw [hb] at hm
      simp [q57_4, wrap_up hlt hs, hsl, hm, q57_3, ih]
    | false =>
      rw [hb] at hm
      simp [q57_4, wrap_up hlt hs, hsl, hm]
@[simp] theorem s_RName (s : List UInt8) (hs : s.length ≤ 9223372036854775807) : (callW E).p 69 [.str s, .bool false] = some ⟨.bool (nameOk s), [], true, [], []⟩ := by
  have h0 := RName_loop s hs [] _ 0 (Nat.zero_add _)
  simp only [Int.ofNat_zero, List.drop_zero] at h0
  rw [x_q57]
  have e : q57_11 (.str s) (.bool false) [] = q57_L2 (.str s) (.str mayB) (.int .i64 0) [] := by simp [q57_1, q57_3, q57_4, q57_5, q57_7, q57_9, q57_10, q57_11]; rfl
  rw [e, h0, nameOk]
  cases hal : s.all okB with
  | false => simp
  | true =>
    by_cases h1 : s = []
    · subst h1; simp [q57_1]
    · have h2 : 1 ≤ s.length := by have := List.length_pos_iff.2 h1; omega
      by_cases h3 : s.length ≤ 60
      · have : ((s.length : Int) ≤ 60) := by omega
        simp [q57_1, h1, h2, h3, this]
      · have : ¬ ((s.length : Int) ≤ 60) := by omega
        simp [q57_1, h1, h2, h3, this]
def refTypeM (s : List UInt8) : Bool :=
  decide (lead s ≤ 8) && (decide (s.drop (lead s) = [73]) || decide (s.drop (lead s) = [74]) ||
    (decide (2 < (s.drop (lead s)).length) && decide ((s.drop (lead s))[0]? = some 76) && decide ((s.drop (lead s))[(s.drop (lead s)).length - 1]? = some 59) && nameOk (((s.drop (lead s)).take ((s.drop (lead s)).length - 1)).drop 1)))
theorem RType_lead (s : List UInt8) (hs : s.length ≤ 9223372036854775807) (h : Heap) : ∀ (d i : Nat), i + d = lead s → q58_L5 (.str s) (.int .i64 i) h = q58_4 (.str s) (.int .i64 (lead s)) h := by
  intro d
  induction d with
  | zero =>
    intro i hi
    obtain rfl : i = lead s := by omega
    rw [q58_L5_go]
    have := lead_le s
    by_cases hc : lead s < s.length
    · have e := List.getElem?_eq_getElem hc
      have hne := lead_at e
      have hc' : ((lead s : Int) < (s.length : Int)) := by omega
      have hb : ¬ ((s[lead s].toNat : Int) = 91) := fun hh => hne ((byte_eq _ 91).1 hh)
      simp [q58_7, hc', ixstr e, hb]
    · have hc' : ¬ ((lead s : Int) < (s.length : Int)) := by omega
      simp [q58_7, hc']
  | succ d ih =>
    intro i hi
    have e := lead_lt (s := s) (i := i) (by omega)
    have := lead_le s
    have hc' : ((i : Int) < (s.length : Int)) := by omega
    have ih := ih (i + 1) (by omega)
    push_cast at ih
    rw [q58_L5_go]
    simp [q58_7, hc', ixstr e, q58_6, wrap_up (show i < s.length by omega) hs, ih]
theorem s_RType0 (s : List UInt8) (hs : s.length ≤ 9223372036854775807) : (callW E).p 67 [.str s] = some ⟨.bool (refTypeM s), [], true, [], []⟩ := by
  have h0 := RType_lead s hs [] _ 0 (Nat.zero_add _)
  simp only [Int.ofNat_zero] at h0
  rw [x_q58]
  have e : q58_11 (.str s) [] = q58_L5 (.str s) (.int .i64 0) [] := by simp [q58_1, q58_2, q58_3, q58_4, q58_6, q58_7, q58_10, q58_11]
  rw [e, h0, refTypeM]
  have hle := lead_le s
  have hsl : evSls (.str s) (some (.int .i64 (lead s))) none = some (.str (s.drop (lead s))) := by
    have a2 : ((0 : Int) ≤ (lead s : Int) ∧ (lead s : Int) ≤ (s.length : Int)) := by omega
    simp only [evSls, optIxv, asNat, if_pos a2]
    simp
  by_cases h8 : 8 < lead s
  · have h8' : ((8 : Int) < (lead s : Int)) := by omega
    have : ¬ lead s ≤ 8 := by omega
    simp [q58_4, hsl, q58_3, h8', this]
  · have h8' : ¬ ((8 : Int) < (lead s : Int)) := by omega
    have h8n : lead s ≤ 8 := by omega
    have hrl : (s.drop (lead s)).length ≤ 9223372036854775807 := by rw [List.length_drop]; omega
    simp only [q58_4, hsl, ob_some, q58_3, evBin_gtr, h8', decide_false, cnd_f, h8n, decide_true, Bool.true_and]
    generalize s.drop (lead s) = r at *
    by_cases c1 : r = [73]
    · simp [q58_2, c1]
    by_cases c2 : r = [74]
    · simp [q58_2, c2]
    by_cases c3 : 2 < r.length
    · have c3' : ((2 : Int) < (r.length : Int)) := by omega
      have k0 := List.getElem?_eq_getElem (l := r) (i := 0) (by omega)
      have k1 := List.getElem?_eq_getElem (l := r) (i := r.length - 1) (by omega)
      have i0 := ixstr k0
      have i1 := ixstr k1
      simp only [Int.ofNat_zero] at i0
      have hw : IntKind.wrap .i64 ((r.length : Int) - 1) = ((r.length - 1 : Nat) : Int) := by rw [wrap_i64] <;> omega
      have hs2 : evSls (.str r) (some (.int .i64 1)) (some (.int .i64 ((r.length - 1 : Nat) : Int))) = some (.str ((r.take (r.length - 1)).drop 1)) := by
        have a1 : ((0 : Int) ≤ ((r.length - 1 : Nat) : Int) ∧ ((r.length - 1 : Nat) : Int) ≤ (r.length : Int)) := by omega
        have a2 : ((0 : Int) ≤ (1 : Int) ∧ (1 : Int) ≤ (((r.length - 1 : Nat) : Int).toNat : Int)) := by omega
        simp only [evSls, optIxv, asNat, if_pos a1, if_pos a2]
        rfl
      have hn := s_RName ((r.take (r.length - 1)).drop 1) (by rw [List.length_drop, List.length_take]; omega)
      rw [k0, k1]
      generalize r[0] = b0 at *
      generalize r[r.length - 1] = b1 at *
      generalize nameOk ((r.take (r.length - 1)).drop 1) = N at *
      have hn' := hn
      simp only [List.drop_one] at hn'
      by_cases d0 : b0 = 76
      · by_cases d1 : b1 = 59
        · simp [q58_2, q58_1, c1, c2, c3, c3', i0, i1, hw, hs2, hn', d0, d1]
        · have d1' : ¬ ((b1.toNat : Int) = 59) := fun hh => d1 ((byte_eq _ 59).1 hh)
          simp [q58_2, q58_1, c1, c2, c3, c3', i0, i1, hw, d0, d1, d1']
      · have d0' : ¬ ((b0.toNat : Int) = 76) := fun hh => d0 ((byte_eq _ 76).1 hh)
        simp [q58_2, q58_1, c1, c2, c3, c3', i0, d0, d0']
    · have c3' : ¬ ((2 : Int) < (r.length : Int)) := by omega
      simp [q58_2, q58_1, c1, c2, c3, c3']
theorem nameOk_59 {l : List UInt8} (h : nameOk l = true) : 59 ∉ l ∧ 1 ≤ l.length := by
  simp only [nameOk, Bool.and_eq_true, decide_eq_true_eq, List.all_eq_true] at h
  refine ⟨fun hm => ?_, h.1.1⟩
  have := h.2 59 hm
  exact absurd this (by decide)
theorem type_same (s : List UInt8) : refTypeM s = typeOk s := by
  rw [Bool.eq_iff_iff]
  simp only [refTypeM, typeOk, Bool.and_eq_true, Bool.or_eq_true, decide_eq_true_eq]
  have hle := lead_le s
  have hdl : (s.drop (lead s)).length = s.length - lead s := List.length_drop
  by_cases hne : s = []
  · subst hne; simp [lead, takeM]
  have hpos : 0 < s.length := List.length_pos_iff.2 hne
  simp only [hne, not_false_eq_true, true_and, ne_eq]
  unfold takeM
  by_cases h8 : 8 < lead s
  · rw [if_pos (.inl h8)]
    constructor
    · rintro ⟨h, _⟩; omega
    · intro h; omega
  by_cases hl : lead s = s.length
  · rw [if_pos (.inr hl)]
    have : s.drop (lead s) = [] := List.drop_eq_nil_of_le (by omega)
    rw [this]
    constructor
    · rintro ⟨_, h⟩; simp at h
    · intro h; omega
  rw [if_neg (by omega)]
  have hlt : lead s < s.length := by omega
  have hd : s.drop (lead s) = s[lead s] :: s.drop (lead s + 1) := List.drop_eq_getElem_cons hlt
  have h8n : lead s ≤ 8 := by omega
  rw [List.getElem?_eq_getElem hlt]
  have hrl : (s.drop (lead s + 1)).length = s.length - (lead s + 1) := List.length_drop
  have htk : ∀ j, (s.take (lead s + 1 + j)).drop (lead s + 1) = (s.drop (lead s + 1)).take j := by
    intro j; rw [List.drop_take]; congr 1; omega
  simp only [htk]
  rw [hd]
  generalize s[lead s] = c at *
  generalize hr : s.drop (lead s + 1) = r at *
  simp only [h8n, true_and, Option.some.injEq, List.cons.injEq, List.length_cons, List.getElem?_cons_zero, Nat.add_sub_cancel]
  by_cases c1 : c = 73
  · subst c1
    simp only [true_or, if_true, true_and]
    have e1 : (s.length = lead s + 1) ↔ r = [] := by rw [← List.length_eq_zero_iff, hrl]; omega
    constructor
    · rintro (h | h)
      · rcases h with h | h
        · exact (e1.2 h).symm
        · exact absurd h.1 (by decide)
      · exact absurd h.1.1.2 (by decide)
    · intro h; exact .inl (.inl (e1.1 h.symm))
  by_cases c2 : c = 74
  · subst c2
    simp only [or_true, if_true, true_and]
    have e1 : (s.length = lead s + 1) ↔ r = [] := by rw [← List.length_eq_zero_iff, hrl]; omega
    constructor
    · rintro (h | h)
      · rcases h with h | h
        · exact absurd h.1 (by decide)
        · exact (e1.2 h).symm
      · exact absurd h.1.1.2 (by decide)
    · intro h; exact .inl (.inr (e1.1 h.symm))
  simp only [c1, c2, or_self, if_false, false_and, false_or]
  by_cases c3 : c = 76
  · subst c3
    simp only [if_true, true_and, and_true]
    have idx : ∀ j, j < r.length → r[j]? = some 59 → 59 ∉ r.take j → r.findIdx (· == 59) = j := by
      intro j hj h1 h2
      rw [List.getElem?_eq_getElem hj] at h1
      rw [List.findIdx_eq hj]
      refine ⟨by simpa using h1, fun k hk => ?_⟩
      have : r[k]'(by omega) ∈ r.take j := List.mem_take_iff_getElem.2 ⟨k, by omega, rfl⟩
      simp only [beq_eq_false_iff_ne, ne_eq]
      intro he
      rw [he] at this
      exact h2 this
    constructor
    · rintro ⟨⟨h1, h2⟩, h3⟩
      have e0 : (76 :: r : List UInt8)[r.length]? = r[r.length - 1]? := by
        rw [show r.length = (r.length - 1) + 1 by omega]; simp
      rw [e0] at h2
      have e1 : ((76 :: r : List UInt8).take r.length).drop 1 = r.take (r.length - 1) := by
        rw [show r.length = (r.length - 1) + 1 by omega]; simp
      rw [e1] at h3
      have := idx (r.length - 1) (by omega) h2 (nameOk_59 h3).1
      rw [this, if_pos ⟨by omega, h3⟩]
      omega
    · intro h
      split at h
      · rename_i hc
        have hj : r.findIdx (· == 59) = r.length - 1 := by omega
        have hn := nameOk_59 hc.2
        have hlen := hn.2
        rw [List.length_take, hj] at hlen
        have h59 : r[r.length - 1]? = some 59 := by
          have := List.findIdx_getElem (w := hc.1)
          rw [List.getElem?_eq_getElem (by omega)]
          simp only [hj] at this
          simpa using this
        rw [hj] at hc
        refine ⟨⟨by omega, ?_⟩, ?_⟩
        · rw [show r.length = (r.length - 1) + 1 by omega]; simpa using h59
        · have e1 : ((76 :: r : List UInt8).take r.length).drop 1 = r.take (r.length - 1) := by
            rw [show r.length = (r.length - 1) + 1 by omega]; simp
          rw [e1]; exact hc.2
      · omega
  · simp only [c3, if_false, and_false, false_and]
    constructor
    · intro h; exact h.elim
    · intro h; omega
theorem s_RType (s : List UInt8) (hs : s.length ≤ 9223372036854775807) : (callW E).p 67 [.str s] = some ⟨.bool (typeOk s), [], true, [], []⟩ := by
  rw [s_RType0 s hs, type_same]
end Go.Vm
namespace Go.Vm
open Cel
attribute [local simp] callAny callP heapOf_nil fpCall
abbrev H2 (f : Fn) (x : Ins) : Heap := [⟨1, .arr true false 5 [enc f]⟩, ⟨1, .arr true false 9 [enc x]⟩]
abbrev H3 (f : Fn) (x : Ins) : Heap := [⟨1, .arr true false 5 [enc f]⟩, ⟨1, .arr true false 9 [enc x]⟩, ⟨1, .arr false false 1 [[.int .i64 x.d], [.int .i64 x.a], [.int .i64 x.b], [.int .i64 x.c]]⟩]
abbrev Q0 : AV := .lp 0 1 0 0
abbrev Q1 : AV := .lp 1 1 0 0
def lastM (R : List Int) (x : Ins) : Bool :=
  (!decide (x.op = 24) && !decide (x.op = 25)) || (match lst x.args with
    | [] => false
    | r :: _ => decide (regK R r = 3))
def callM (R : List Int) (x : Ins) : Bool :=
  !((decide (x.n < 0) && !decide (x.op = 25)) || decide (21 < (lst x.args).length) || (!decide (x.d = -1) && decide (regK R x.d = 0))) && ((lst x.args).all (fun r => !decide (regK R r = 0)) && lastM R x)
theorem call_last (f : Fn) (x : Ins) : q69_1 Q0 Q1 (H2 f x) = some ⟨.bool (lastM (lst f.regs) x), [], true, [], []⟩ := by
  by_cases o1 : x.op = 24
  · cases ha : lst x.args with
    | nil => simp [q69_1, o1, lastM, ha, pairsOk]
    | cons r t =>
      have k1 := ixs_int (o := x.args) (i := 0) (x := r) (by rw [ha]; rfl) .i64
      simp only [Int.ofNat_zero] at k1
      simp [q69_1, o1, lastM, ha, k1, pairsOk]
  · by_cases o2 : x.op = 25
    · cases ha : lst x.args with
      | nil => simp [q69_1, o2, lastM, ha, pairsOk]
      | cons r t =>
        have k1 := ixs_int (o := x.args) (i := 0) (x := r) (by rw [ha]; rfl) .i64
        simp only [Int.ofNat_zero] at k1
        simp [q69_1, o2, lastM, ha, k1, pairsOk]
    · simp [q69_1, o1, o2, lastM, pairsOk]
theorem call_loop (f : Fn) (x : Ins) (hl : (lst x.args).length ≤ 9223372036854775807) : ∀ (d i : Nat), i + d = (lst x.args).length →
    q69_L2 Q0 Q1 (.int .i64 i) (H2 f x) = some ⟨.bool (((lst x.args).drop i).all (fun r => !decide (regK (lst f.regs) r = 0)) && lastM (lst f.regs) x), [], true, [], []⟩ := by
  intro d
  induction d with
  | zero =>
    intro i hi
    have e1 : (lst x.args).drop i = [] := List.drop_eq_nil_of_le (by omega)
    have hn : ¬ ((i : Int) < ((lst x.args).length : Int)) := by omega
    rw [q69_L2_go, e1]
    simp [q69_5, hn, call_last]
  | succ d ih =>
    intro i hi
    have hlt : i < (lst x.args).length := by omega
    have hn : ((i : Int) < ((lst x.args).length : Int)) := by omega
    have k1 := ixs_int (o := x.args) (i := i) (List.getElem?_eq_getElem hlt) .i64
    have e1 : ((lst x.args).drop i).all (fun r => !decide (regK (lst f.regs) r = 0)) = ((!decide (regK (lst f.regs) (lst x.args)[i] = 0)) && ((lst x.args).drop (i + 1)).all (fun r => !decide (regK (lst f.regs) r = 0))) := by
      rw [List.drop_eq_getElem_cons hlt, List.all_cons]
    have ih := ih (i + 1) (by omega)
    push_cast at ih
    rw [q69_L2_go, e1]
    generalize (lst x.args)[i] = r at *
    have hs := s_kind f r
    by_cases hz : regK (lst f.regs) r = 0
    · rw [hz] at hs
      simp [q69_5, hn, q69_4, k1, hs, hz, pairsOk]
    · generalize regK (lst f.regs) r = k at *
      simp [q69_5, hn, q69_4, k1, hs, hz, pairsOk, q69_3, wrap_up hlt hl]
      exact ih
theorem s_call (f : Fn) (x : Ins) (hl : (lst x.args).length ≤ 9223372036854775807) : (callW E).p 68 [.agg (enc f), .agg (enc x)] = some ⟨.bool (callM (lst f.regs) x), [], true, [], []⟩ := by
  rw [x_q69]
  have h0 := call_loop f x hl _ 0 (Nat.zero_add _)
  simp only [Int.ofNat_zero, List.drop_zero] at h0
  have hs := s_kind f x.d
  have e21 : ((21 : Int) < ((lst x.args).length : Int)) ↔ 21 < (lst x.args).length := by omega
  unfold callM
  generalize ((lst x.args).all (fun r => !decide (regK (lst f.regs) r = 0)) && lastM (lst f.regs) x) = T at *
  generalize regK (lst f.regs) x.d = kd at *
  by_cases h21 : 21 < (lst x.args).length
  · have h21' := e21.2 h21
    by_cases hn : x.n < 0
    · by_cases o5 : x.op = 25 <;> simp [q69_1, q69_3, q69_4, q69_5, q69_7, q69_9, q69_10, hn, o5, h21, h21', pairsOk, fpApart, meets]
    · simp [q69_1, q69_3, q69_4, q69_5, q69_7, q69_9, q69_10, hn, h21, h21', pairsOk, fpApart, meets]
  · have h21' : ¬ ((21 : Int) < ((lst x.args).length : Int)) := by omega
    by_cases hn : x.n < 0
    · by_cases o5 : x.op = 25
      · by_cases hd : x.d = -1
        · simp [q69_1, q69_3, q69_4, q69_5, q69_7, q69_9, q69_10, hn, o5, h21, h21', hd, h0, pairsOk, fpApart, meets]
        · by_cases hk : kd = 0
          · simp [q69_1, q69_3, q69_4, q69_5, q69_7, q69_9, q69_10, hn, o5, h21, h21', hd, hs, hk, h0, pairsOk, fpApart, meets]
          · simp [q69_1, q69_3, q69_4, q69_5, q69_7, q69_9, q69_10, hn, o5, h21, h21', hd, hs, hk, h0, pairsOk, fpApart, meets]
      · simp [q69_1, q69_3, q69_4, q69_5, q69_7, q69_9, q69_10, hn, o5, h21, h21', pairsOk, fpApart, meets]
    · by_cases hd : x.d = -1
      · simp [q69_1, q69_3, q69_4, q69_5, q69_7, q69_9, q69_10, hn, h21, h21', hd, h0, pairsOk, fpApart, meets]
      · by_cases hk : kd = 0
        · simp [q69_1, q69_3, q69_4, q69_5, q69_7, q69_9, q69_10, hn, h21, h21', hd, hs, hk, h0, pairsOk, fpApart, meets]
        · simp [q69_1, q69_3, q69_4, q69_5, q69_7, q69_9, q69_10, hn, h21, h21', hd, hs, hk, h0, pairsOk, fpApart, meets]
end Go.Vm
