/- live.Of: one sweep, and all sweeps. live.Of: all sweeps. live.Of: how its answer reads. live's sets, read only. What live's table tells is what the document tells. live's Before. live.Of: how the table is made. live.Of: one round of the loop that makes the table. live.Of: what it answers. What 'kinds' answers. What 'other' answers; all of 'kinds'. Whether one instruction is well formed: 'right'. 'right', whole. Whether a function is well formed: 'Check': its lists of registers, parameters, rows. -/
import Derived.Test.YthemfgeagohdhaaSTb
set_option linter.unusedSimpArgs false
set_option linter.unusedVariables false
set_option linter.unusedSectionVars false
namespace Go.Vm
open Cel
theorem ld_box1 {f : Fn} {H : Heap} (h : H[0]? = some (AB f)) : evLd true 5 (.lp 0 1 0 0) H = some (.agg (enc f)) := by
  have hr : rowsAt H 0 1 = some (false, 5, [enc f]) := by simp [rowsAt, objAt, h]
  simp [evLd_lp, hr]
theorem ld_code1 {f : Fn} {H : Heap} (h : H[0]? = some (AB f)) : evLd false 1 (.lp 0 1 0 3) H = some (slA f.code) := by
  have hr : rowsAt H 0 1 = some (false, 5, [enc f]) := by simp [rowsAt, objAt, h]
  simp [evLd_lp, hr]
theorem fz_fi1 (f : Fn) (i : Int) (H : Heap) : fzList (fz H fuelF) [.agg (enc f), .int .i64 i] = some ⟨[.agg (enc f), .int .i64 i], scal f && (true && true), []⟩ := by
  rw [fzList_cons, fzList_cons, fz_enc, fz_int', fzList_nil]; rfl
theorem fz_x1 (x : Ins) (H : Heap) : fzList (fz H fuelF) [.agg (enc x)] = some ⟨[.agg (enc x)], scal x && true, []⟩ := by
  rw [fzList_cons, fz_enc, fzList_nil]; rfl
theorem rows_ne {s : Ws} (h : 1 ≤ s.length) : (s.map enc).isEmpty = false := by
  cases s with
  | nil => simp at h
  | cons a s => rfl
theorem app_new {H : Heap} {id g j : Nat} {o : AO} {s : Ws} (h : H[id]? = some (AW g s)) (ho : H[j]? = some o) (h1 : 1 ≤ s.length) (h2 : s.length ≤ 1000000) :
    evApp 0 (some j) 1 8 .nils (.ls id g 1 0 s.length) H = some (.ls j (o.gen + 1) 1 0 s.length, H.set j (AW (o.gen + 1) s)) := by
  have hy := rows_ls (α := BitVec 64) h
  simp only [es_w] at hy
  have hb : s.length * 8 ≤ 2 ^ 48 := by omega
  unfold evApp
  rw [hy]
  simp only [rows_ne h1, List.length_map, hb, if_true, Bool.false_eq_true, if_false, newArr, place, Nat.zero_add, ho]
theorem uses_loop {W : Nat} {o : Option (List Int)} (hl : (lst o).length ≤ 9223372036854775806) (hu : ∀ u ∈ lst o, 0 ≤ u ∧ u < 20000 ∧ u.toNat / 64 < W) (v1 v3 v5 v6 v7 : AV) (g : Nat) : ∀ (d m : Nat) (H : Heap) (s : Ws), m + d = (lst o).length → H[2]? = some (AW g s) → s.length = W →
    q35_L6 v1 v3 v5 v6 v7 (.ls 2 g 1 0 W) (slA o) (.int .i64 (lst o).length) (.int .i64 (m : Int)) H = q35_5 v1 v3 v5 v6 v7 (.ls 2 g 1 0 W) (H.set 2 (AW g (adds ((lst o).drop m) s))) := by
  intro d
  induction d with
  | zero =>
    intro m H s hm hs hW
    have hm' : m = (lst o).length := by omega
    have e : (lst o).drop m = [] := List.drop_eq_nil_of_le (by omega)
    have hc : ¬ ((m : Int) < ((lst o).length : Int)) := by omega
    rw [e, q35_L6_go]
    have ha : adds [] s = s := rfl
    simp only [q35_10, evBin_lss, ob_some, hc, decide_false, q35_9, cnd_f, ha, set_same hs]
  | succ d ih =>
    intro m H s hm hs hW
    have hlt : m < (lst o).length := by omega
    have hc : ((m : Int) < ((lst o).length : Int)) := by omega
    have hw := wrap_up hlt (by omega)
    have kx := ixs_int (List.getElem?_eq_getElem hlt) .i64
    have hu1 := hu _ (List.getElem_mem hlt)
    rw [List.drop_eq_getElem_cons hlt, q35_L6_go]
    generalize (lst o)[m] = u at *
    have lx : ∀ t : Heap, evLd false 1 (.rp [.int .i64 u]) t = some (.int .i64 u) := fun t => by simp
    have eu : ((u.toNat : Nat) : Int) = u := by omega
    have ad := s_add (H := H) hs (r := u.toNat) (by omega) (by omega)
    rw [eu, hW] at ad
    have ih1 := ih (m + 1) (H.set 2 (AW g (addW s u.toNat))) (addW s u.toNat) (by omega) (gs_eq (get_lt hs)) (by rw [addW_len, hW])
    rw [List.set_set] at ih1
    push_cast at ih1
    have ha : adds (u :: (lst o).drop (m + 1)) s = adds ((lst o).drop (m + 1)) (addW s u.toNat) := rfl
    rw [ha]
    simp only [q35_10, evBin_lss, ob_some, hc, decide_true, q35_9, cnd_t, q35_8, kx, lx, ad, oh_some, q35_7, evBin_add, hw, ih1]
section
variable {f : Fn} (w : Wf f) (hr : (lst f.rows).length ≤ 10000000000000) (hx : ∀ x ∈ lst f.code, (lst x.args).length ≤ 17592186043904) {P : Plc} {Q : Arr}
include w hr hx
set_option maxHeartbeats 1000000 in
theorem one_step {i : Nat} (hi : i < (lst f.code).length) (m : Bool) (H : Heap) (t : Tb) (L : LvRep f P Q H t) :
    ∃ H', q35_L3 (.lp 0 1 0 0) (.int .i64 (lst f.code).length) (.lp 1 1 0 0) (.bool m) (.int .i64 (i : Int)) H =
      q35_4 (.lp 0 1 0 0) (.int .i64 (lst f.code).length) (.lp 1 1 0 0) (.bool (moreT f t i || m)) (.int .i64 (i : Int)) H' ∧ LvRep f P Q H' (stepT f t i) := by
  have hn := w.n2
  have hR := w.regs
  have hge : (0 : Int) ≤ (i : Int) := by omega
  have cN : ∀ H, callAny E (callW E) 0 none true 81 [.agg (enc f), .int .i64 (i : Int)] H = some (slA (nz (nextL f i)), H) := fun H => call_reads rfl (fz_fi1 f i H) rfl (s_Next f i (by omega)) ⟨_, exO_fz _, rfl⟩
  have cC : ∀ H, callAny E (callW E) 0 none true 79 [.agg (enc f), .int .i64 (i : Int)] H = some (slA (nz (caughtL f i)), H) := fun H => call_reads rfl (fz_fi1 f i H) rfl (s_Caught f i (by omega)) ⟨_, exO_fz _, rfl⟩
  have cD : ∀ H, callAny E (callW E) 0 none true 9 [.agg (enc (insAt f i))] H = some (.int .i64 (defr (insAt f i)), H) := fun H => call_reads rfl (fz_x1 _ H) rfl (s_Def _) ⟨_, rfl, rfl⟩
  have hxa := hx _ (List.mem_of_getElem? (insAt_lt hi))
  have cU : ∀ H, callAny E (callW E) 0 none true 10 [.agg (enc (insAt f i))] H = some (slA (uses (insAt f i)), H) := fun H => call_reads rfl (fz_x1 _ H) rfl (s_Uses _ hxa) ⟨_, exO_fz _, rfl⟩
  have lN := nextL_len f i
  have lC := w.caught_len i
  have nc : ∀ a b c d, evNilchk (.lp a b c d) = some (.lp a b c d) := fun _ _ _ _ => rfl
  have ixQ : ∀ (k : Nat) (j : Int), 0 ≤ j → j < (lst f.code).length → evIxs 1 (.ls (Q k).1 (Q k).2 1 0 (lst f.code).length) (.int .i64 j) = some (.lp (Q k).1 (Q k).2 j.toNat 0) := fun k j h0 h1 => ixAt' h0 h1 _ _ .i64
  -- behind it
  obtain ⟨H1, e1, L1⟩ := joins_loop (f := f) (P := P) (Q := Q) hR (k := 1) (i := i) (by omega) (by omega) hi (l := nextL f i) (fun to h => w.next hi h)
    (fun q H => q35_L25 (.lp 0 1 0 0) (.int .i64 (lst f.code).length) (.lp 1 1 0 0) (.bool m) (.int .i64 (i : Int)) (slA (nz (nextL f i))) (.int .i64 (nextL f i).length) (.int .i64 (q : Int)) H)
    (fun q to H t hk L => by
      have hlt := (List.getElem?_eq_some_iff.1 hk).1
      have hto := w.next hi (List.mem_of_getElem? hk)
      have hc : ((q : Int) < ((nextL f i).length : Int)) := by omega
      have hw2 := wrap_up hlt (by omega)
      have kx := ixs_int (o := nz (nextL f i)) (i := q) (by rw [lst_nz]; exact hk) .i64
      have lx : ∀ t : Heap, evLd false 1 (.rp [.int .i64 to]) t = some (.int .i64 to) := fun t => by simp
      have a1 := L.fld (k := 1) (by omega)
      have a0 := L.fld (k := 0) (by omega)
      have b1 := L.at (k := 1) (i := i) (by omega) hi
      have b0 := L.at (k := 0) (i := to.toNat) (by omega) (by omega)
      have i1 := ixQ 1 (i : Int) (by omega) (by omega)
      have i0 := ixQ 0 to hto.1 hto.2
      rw [Int.toNat_natCast] at i1
      rw [q35_L25_go]
      simp only [q35_29, evBin_lss, ob_some, hc, decide_true, q35_28, cnd_t, q35_27, kx, lx, nc, evFa_lp, Nat.zero_add, a1, i1, b1, a0, i0, b0, q35_26, evBin_add, hw2]
      rfl)
    _ 0 H t (Nat.zero_add _) L
  rw [List.drop_zero] at L1
  simp only [Int.ofNat_zero] at e1
  -- where it is caught
  obtain ⟨H2, e2, L2⟩ := joins_loop (f := f) (P := P) (Q := Q) hR (k := 2) (i := i) (by omega) (by omega) hi (l := caughtL f i) (fun to h => w.caught h)
    (fun q H => q35_L17 (.lp 0 1 0 0) (.int .i64 (lst f.code).length) (.lp 1 1 0 0) (.bool m) (.int .i64 (i : Int)) (slA (nz (caughtL f i))) (.int .i64 (caughtL f i).length) (.int .i64 (q : Int)) H)
    (fun q to H t hk L => by
      have hlt := (List.getElem?_eq_some_iff.1 hk).1
      have hto := w.caught (List.mem_of_getElem? hk)
      have hc : ((q : Int) < ((caughtL f i).length : Int)) := by omega
      have hw2 := wrap_up hlt (by omega)
      have kx := ixs_int (o := nz (caughtL f i)) (i := q) (by rw [lst_nz]; exact hk) .i64
      have lx : ∀ t : Heap, evLd false 1 (.rp [.int .i64 to]) t = some (.int .i64 to) := fun t => by simp
      have a1 := L.fld (k := 2) (by omega)
      have a0 := L.fld (k := 0) (by omega)
      have b1 := L.at (k := 2) (i := i) (by omega) hi
      have b0 := L.at (k := 0) (i := to.toNat) (by omega) (by omega)
      have i1 := ixQ 2 (i : Int) (by omega) (by omega)
      have i0 := ixQ 0 to hto.1 hto.2
      rw [Int.toNat_natCast] at i1
      rw [q35_L17_go]
      simp only [q35_21, evBin_lss, ob_some, hc, decide_true, q35_20, cnd_t, q35_19, kx, lx, nc, evFa_lp, Nat.zero_add, a1, i1, b1, a0, i0, b0, q35_18, evBin_add, hw2]
      rfl)
    _ 0 H1 _ (Nat.zero_add _) L1
  rw [List.drop_zero] at L2
  simp only [Int.ofNat_zero] at e2
  have eT : setk (setk t 1 i (joins t.b (nextL f i) (rowW (tk t 1) i))) 2 i (joins (setk t 1 i (joins t.b (nextL f i) (rowW (tk t 1) i))).b (caughtL f i) (rowW (tk (setk t 1 i (joins t.b (nextL f i) (rowW (tk t 1) i))) 2) i)) = ⟨t.b, t.a.set i (aftT f t i), t.h.set i (hanT f t i)⟩ := rfl
  rw [eT] at L2
  have rA : rowW (tk (⟨t.b, t.a.set i (aftT f t i), t.h.set i (hanT f t i)⟩ : Tb) 1) i = aftT f t i := by
    simp only [tk]; rw [row_set (by rw [L.ok.a]; exact hi), if_pos rfl]
  have rH : rowW (tk (⟨t.b, t.a.set i (aftT f t i), t.h.set i (hanT f t i)⟩ : Tb) 2) i = hanT f t i := by
    simp only [tk]; rw [row_set (by rw [L.ok.h]; exact hi), if_pos rfl]
  have lenA := aft_len w L.ok hi
  have lenH := han_len w L.ok hi
  have lenB := bef_len w L.ok hi
  -- the copy
  have a1 := L2.fld (k := 1) (by omega)
  have b1 := L2.at (k := 1) (i := i) (by omega) hi
  have i1 := ixQ 1 (i : Int) (by omega) (by omega)
  have i2 := ixQ 2 (i : Int) (by omega) (by omega)
  have i0 := ixQ 0 (i : Int) (by omega) (by omega)
  rw [Int.toNat_natCast] at i1 i2 i0
  have r1 := L2.row 1 (by omega) i hi
  rw [rA] at r1
  obtain ⟨o11, h11⟩ : ∃ o, H2[2]? = some o := ⟨_, List.getElem?_eq_getElem (by have := L2.size; omega)⟩
  have ap := app_new r1 h11 (by omega) (by omega)
  rw [lenA] at ap
  have hl11 := get_lt h11
  generalize o11.gen + 1 = g at *
  -- what is written
  have lx : ∀ t : Heap, evLd true 9 (.rp (enc (insAt f i))) t = some (.agg (enc (insAt f i))) := fun t => by simp
  have k9 := ixs_ins (o := f.code) (insAt_lt hi) .i64
  have eC : q35_15 (.lp 0 1 0 0) (.int .i64 (lst f.code).length) (.lp 1 1 0 0) (.bool m) (.int .i64 (i : Int)) (.ls 2 g 1 0 ((lst f.regs).length / 64 + 1)) (H2.set 2 (AW g (aftT f t i))) =
      q35_14 (.lp 0 1 0 0) (.int .i64 (lst f.code).length) (.lp 1 1 0 0) (.bool m) (.int .i64 (i : Int)) (.ls 2 g 1 0 ((lst f.regs).length / 64 + 1)) (H2.set 2 (AW g (dropD (defr (insAt f i)) (aftT f t i)))) := by
    have lc := ld_code1 (L2.slot (AW g (aftT f t i))).box
    by_cases hd : 0 ≤ defr (insAt f i)
    · have hd2 := w.def hi hd
      have dr := s_drop (H := H2.set 2 (AW g (aftT f t i))) (gs_eq hl11) (r := (defr (insAt f i)).toNat) (by omega) (by rw [lenA]; omega)
      rw [lenA, List.set_set, show (((defr (insAt f i)).toNat : Nat) : Int) = defr (insAt f i) by omega] at dr
      simp only [q35_15, evFa_lp, Nat.zero_add, ob_some, lc, k9, lx, cD, oh_some, evBin_geq, hd, decide_true, cnd_t, dr, dropD, if_true]
    · simp only [q35_15, evFa_lp, Nat.zero_add, ob_some, lc, k9, lx, cD, oh_some, evBin_geq, hd, decide_false, cnd_f, dropD, if_false]
  -- what is caught, what is read
  have L3 := L2.slot (AW g (dropD (defr (insAt f i)) (aftT f t i)))
  have lenD : (dropD (defr (insAt f i)) (aftT f t i)).length = (lst f.regs).length / 64 + 1 := by rw [dropD_len, lenA]
  have c2 := L3.fld (k := 2) (by omega)
  have d2 := L3.at (k := 2) (i := i) (by omega) hi
  have r2 := L3.row 2 (by omega) i hi
  rw [rH] at r2
  have f2 := L3.farP 2 i (by omega) hi
  have jn := s_join (H := H2.set 2 (AW g (dropD (defr (insAt f i)) (aftT f t i)))) (gs_eq hl11) r2 (by rw [lenD, lenH]) (by rw [lenD]; omega) (by omega)
  rw [lenD, lenH, List.set_set] at jn
  have L4 := L2.slot (AW g (joinW (dropD (defr (insAt f i)) (aftT f t i)) (hanT f t i)))
  have lc4 := ld_code1 L4.box
  have hlu : (lst (uses (insAt f i))).length ≤ 9223372036854775806 := by
    have : (lst (uses (insAt f i))).length ≤ (lst (insAt f i).args).length + 3 := by
      unfold uses
      repeat' split
      all_goals simp
    omega
  have us := uses_loop (W := (lst f.regs).length / 64 + 1) (o := uses (insAt f i)) hlu (fun u hu => by
    have := w.uses hi hu
    omega) (.lp 0 1 0 0) (.int .i64 (lst f.code).length) (.lp 1 1 0 0) (.bool m) (.int .i64 (i : Int)) g _ 0 (H2.set 2 (AW g (joinW (dropD (defr (insAt f i)) (aftT f t i)) (hanT f t i)))) _ (Nat.zero_add _) (gs_eq hl11) (by rw [joinW_len (by rw [lenD, lenH]), lenD])
  rw [List.drop_zero, List.set_set] at us
  simp only [Int.ofNat_zero] at us
  have eB : adds (lst (uses (insAt f i))) (joinW (dropD (defr (insAt f i)) (aftT f t i)) (hanT f t i)) = befT f t i := rfl
  rw [eB] at us
  -- ahead of it
  have L5 := L2.slot (AW g (befT f t i))
  have a5 := L5.fld (k := 0) (by omega)
  have b5 := L5.at (k := 0) (i := i) (by omega) hi
  have r5 := L5.row 0 (by omega) i hi
  have f5 := L5.farP 0 i (by omega) hi
  have lb : (rowW t.b i).length = (lst f.regs).length / 64 + 1 := L.ok.bw i hi
  have jb := s_join (H := H2.set 2 (AW g (befT f t i))) r5 (gs_eq hl11) (by rw [lenB]; exact lb) (by rw [show (rowW (tk (⟨t.b, t.a.set i (aftT f t i), t.h.set i (hanT f t i)⟩ : Tb) 0) i).length = (lst f.regs).length / 64 + 1 from lb]; omega) (by omega)
  rw [lenB, show (rowW (tk (⟨t.b, t.a.set i (aftT f t i), t.h.set i (hanT f t i)⟩ : Tb) 0) i).length = (lst f.regs).length / 64 + 1 from lb] at jb
  have L6 := L5.put (k := 0) (i := i) (by omega) hi (x := joinW (rowW t.b i) (befT f t i)) (by rw [joinW_len (by rw [lb, lenB]), lb])
  refine ⟨_, ?_, L6⟩
  have hc1 : ¬ (((nextL f i).length : Int) < ((nextL f i).length : Int)) := by omega
  have hc2 : ¬ (((caughtL f i).length : Int) < ((caughtL f i).length : Int)) := by omega
  have z1 : q35_L3 (.lp 0 1 0 0) (.int .i64 (lst f.code).length) (.lp 1 1 0 0) (.bool m) (.int .i64 (i : Int)) H =
      q35_L25 (.lp 0 1 0 0) (.int .i64 (lst f.code).length) (.lp 1 1 0 0) (.bool m) (.int .i64 (i : Int)) (slA (nz (nextL f i))) (.int .i64 (nextL f i).length) (.int .i64 0) H := by
    rw [q35_L3_go]
    simp only [q35_35, evBin_geq, hge, decide_true, ob_some, cnd_t, q35_31, ld_box1 L.box, cN, oh_some, evLen_sl, lst_nz]
  have z2 : q35_L25 (.lp 0 1 0 0) (.int .i64 (lst f.code).length) (.lp 1 1 0 0) (.bool m) (.int .i64 (i : Int)) (slA (nz (nextL f i))) (.int .i64 (nextL f i).length) (.int .i64 (nextL f i).length) H1 =
      q35_L17 (.lp 0 1 0 0) (.int .i64 (lst f.code).length) (.lp 1 1 0 0) (.bool m) (.int .i64 (i : Int)) (slA (nz (caughtL f i))) (.int .i64 (caughtL f i).length) (.int .i64 0) H1 := by
    rw [q35_L25_go]
    simp only [q35_29, evBin_lss, ob_some, hc1, decide_false, q35_28, cnd_f, q35_23, ld_box1 L1.box, cC, oh_some, evLen_sl, lst_nz]
  have z3 : q35_L17 (.lp 0 1 0 0) (.int .i64 (lst f.code).length) (.lp 1 1 0 0) (.bool m) (.int .i64 (i : Int)) (slA (nz (caughtL f i))) (.int .i64 (caughtL f i).length) (.int .i64 (caughtL f i).length) H2 =
      q35_15 (.lp 0 1 0 0) (.int .i64 (lst f.code).length) (.lp 1 1 0 0) (.bool m) (.int .i64 (i : Int)) (.ls 2 g 1 0 ((lst f.regs).length / 64 + 1)) (H2.set 2 (AW g (aftT f t i))) := by
    rw [q35_L17_go]
    simp only [q35_21, evBin_lss, ob_some, hc2, decide_false, q35_20, cnd_f, q35_16, nc, evFa_lp, Nat.zero_add, a1, i1, b1, ap, oh_some]
  have z4 : q35_14 (.lp 0 1 0 0) (.int .i64 (lst f.code).length) (.lp 1 1 0 0) (.bool m) (.int .i64 (i : Int)) (.ls 2 g 1 0 ((lst f.regs).length / 64 + 1)) (H2.set 2 (AW g (dropD (defr (insAt f i)) (aftT f t i)))) =
      q35_5 (.lp 0 1 0 0) (.int .i64 (lst f.code).length) (.lp 1 1 0 0) (.bool m) (.int .i64 (i : Int)) (.ls 2 g 1 0 ((lst f.regs).length / 64 + 1)) (H2.set 2 (AW g (befT f t i))) := by
    rw [← us]
    simp only [q35_14, nc, ob_some, evFa_lp, Nat.zero_add, c2, i2, d2, jn, oh_some, q35_12, lc4, k9, lx, cU, evLen_sl]
  rw [z1, e1, z2, e2, z3, eC, z4]
  have hmt : moreT f t i = moreW (rowW (tk (⟨t.b, t.a.set i (aftT f t i), t.h.set i (hanT f t i)⟩ : Tb) 0) i) (befT f t i) := rfl
  rw [hmt]
  cases hmm : moreW (rowW (tk (⟨t.b, t.a.set i (aftT f t i), t.h.set i (hanT f t i)⟩ : Tb) 0) i) (befT f t i) with
  | true =>
    rw [hmm] at jb
    simp only [q35_5, nc, ob_some, evFa_lp, Nat.zero_add, a5, i0, b5, jb, oh_some, gb_tf, evPick_t, Bool.true_or]
    rfl
  | false =>
    rw [hmm] at jb
    simp only [q35_5, nc, ob_some, evFa_lp, Nat.zero_add, a5, i0, b5, jb, oh_some, gb_ff, evPick_f, Bool.false_or]
    rfl
end
end Go.Vm
namespace Go.Vm
open Cel
section
variable {f : Fn} (w : Wf f) (hr : (lst f.rows).length ≤ 10000000000000) (hx : ∀ x ∈ lst f.code, (lst x.args).length ≤ 17592186043904) {P : Plc} {Q : Arr}
include w hr hx
theorem sweep_walk : ∀ (k : Nat) (t : Tb) (H : Heap) (m : Bool), k ≤ (lst f.code).length → LvRep f P Q H t →
    ∃ H', q35_L3 (.lp 0 1 0 0) (.int .i64 (lst f.code).length) (.lp 1 1 0 0) (.bool m) (.int .i64 ((k : Int) - 1)) H = q35_L2 (.lp 0 1 0 0) (.int .i64 (lst f.code).length) (.lp 1 1 0 0) (.bool ((sweepT f k t).2 || m)) H' ∧ LvRep f P Q H' (sweepT f k t).1 := by
  have hn := w.n2
  intro k
  induction k with
  | zero =>
    intro t H m _ L
    refine ⟨H, ?_, L⟩
    have hc : ¬ (0 : Int) ≤ ((0 : Nat) : Int) - 1 := by omega
    rw [q35_L3_go]
    simp only [q35_35, evBin_geq, ob_some, hc, decide_false, cnd_f, sweepT, Bool.false_or]
  | succ k ih =>
    intro t H m hk L
    obtain ⟨H1, e1, L1⟩ := one_step w hr hx (i := k) (by omega) m H t L
    obtain ⟨H2, e2, L2⟩ := ih (stepT f t k) H1 (moreT f t k || m) (by omega) L1
    refine ⟨H2, ?_, L2⟩
    have ek : (((k + 1 : Nat) : Int) - 1) = (k : Int) := by omega
    have hw : IntKind.wrap .i64 ((k : Int) - 1) = (k : Int) - 1 := by rw [wrap_i64] <;> omega
    have eb : ((sweepT f (k + 1) t).2 || m) = ((sweepT f k (stepT f t k)).2 || (moreT f t k || m)) := by
      rw [sweepT]
      cases moreT f t k <;> cases (sweepT f k (stepT f t k)).2 <;> cases m <;> rfl
    rw [ek, e1, eb, ← e2]
    simp only [q35_4, evBin_sub, hw, ob_some]
theorem loop_walk : ∀ (q : Nat) (t : Tb) (H : Heap) (r : Tb), LvRep f P Q H t → liveLoop f q t = some r →
    ∃ H', q35_L2 (.lp 0 1 0 0) (.int .i64 (lst f.code).length) (.lp 1 1 0 0) (.bool true) H = q35_1 (.lp 1 1 0 0) H' ∧ LvRep f P Q H' r := by
  have hn := w.n2
  intro q
  induction q with
  | zero => intro t H r _ h; cases h
  | succ q ih =>
    intro t H r L h
    obtain ⟨H1, e1, L1⟩ := sweep_walk w hr hx (lst f.code).length t H false (Nat.le_refl _) L
    have hw : IntKind.wrap .i64 (((lst f.code).length : Int) - 1) = ((lst f.code).length : Int) - 1 := by rw [wrap_i64] <;> omega
    have e2 : q35_L2 (.lp 0 1 0 0) (.int .i64 (lst f.code).length) (.lp 1 1 0 0) (.bool true) H = q35_L2 (.lp 0 1 0 0) (.int .i64 (lst f.code).length) (.lp 1 1 0 0) (.bool ((sweepT f (lst f.code).length t).2 || false)) H1 := by
      rw [← e1, q35_L2_go]
      simp only [q35_40, cnd_t, q35_38, q35_37, evBin_sub, hw, ob_some]
    rw [e2, Bool.or_false]
    rw [liveLoop] at h
    cases hm : (sweepT f (lst f.code).length t).2 with
    | true =>
      rw [hm, if_pos rfl] at h
      exact ih _ H1 r L1 h
    | false =>
      rw [hm, if_neg Bool.false_ne_true] at h
      injection h with h
      subst h
      refine ⟨H1, ?_, L1⟩
      rw [q35_L2_go]
      simp only [q35_40, cnd_f]
end
end Go.Vm
namespace Go.Vm
open Cel
instance : Cel Ws := ⟨1, fun s => [slA (some s)], fun _ => rfl, fun _ => rfl, fun _ => rfl⟩
@[simp] theorem enc_ws (s : Ws) : enc s = [slA (some s)] := rfl
@[simp] theorem es_ws : es Ws = 1 := rfl
theorem fzList_all {β γ : Type} (g : β → Option (Fz γ)) (x : Nat → β) (y : Nat → γ) (id : Nat → Nat) : ∀ (l : List Nat), (∀ i ∈ l, g (x i) = some ⟨y i, true, [id i]⟩) → fzList g (l.map x) = some ⟨l.map y, true, l.map id⟩
  | [], _ => rfl
  | i :: l, h => by
    rw [List.map_cons, fzList_cons, h i (by simp), fzList_all g x y id l (fun j hj => h j (by simp [hj]))]
    rfl
theorem scal_ws (s : Ws) : s.all scal = true := by
  rw [List.all_eq_true]
  intro w _
  rfl
def idsP (P : Plc) (k n : Nat) : List Nat := (List.range n).map fun i => (P k i).1
theorem rows_all {l : List Ws} {n : Nat} (h : l.length = n) : (List.range n).map (fun i => enc (rowW l i)) = l.map enc := by
  refine List.ext_getElem (by simp [h]) fun i h1 h2 => ?_
  have hi : i < l.length := by simpa using h2
  simp [rowW, List.getD_eq_getElem?_getD, hi]
section
variable {f : Fn} {P : Plc} {Q : Arr} {H : Heap} {t : Tb} (L : LvRep f P Q H t)
include L
theorem LvRep.rows {k : Nat} (hk : k < 3) : fzList (fzList (fz H fuelF)) (rowsP P ((lst f.regs).length / 64 + 1) k (lst f.code).length) = some ⟨(tk t k).map enc, true, idsP P k (lst f.code).length⟩ := by
  have hl : (tk t k).length = (lst f.code).length := by
    match k, hk with
    | 0, _ => exact L.ok.b
    | 1, _ => exact L.ok.a
    | 2, _ => exact L.ok.h
  rw [← rows_all hl]
  refine fzList_all _ _ _ _ _ fun i hi => ?_
  rw [List.mem_range] at hi
  have h1 := fz_ls0 (α := BitVec 64) (k := 10) (L.row k hk i hi)
  rw [L.len hk hi, scal_ws] at h1
  have h2 : fz H fuelF (.ls (P k i).1 (P k i).2 1 0 ((lst f.regs).length / 64 + 1)) = some ⟨slA (some (rowW (tk t k) i)), true, [(P k i).1]⟩ := h1
  rw [fzList_cons, h2, fzList_nil]
  rfl
theorem LvRep.ex {k : Nat} (hk : k < 3) (os : List OC) : expo H 11 (.ls (Q k).1 (Q k).2 1 0 (lst f.code).length) os = some ⟨.ls os.length 0 1 0 (lst f.code).length, os ++ [.arr false false 1 ((tk t k).map enc)], true, [(Q k).1], idsP P k (lst f.code).length⟩ := by
  have hr : rowsAt H (Q k).1 (Q k).2 = some (false, 1, rowsP P ((lst f.regs).length / 64 + 1) k (lst f.code).length) := by simp [rowsAt, objAt, L.arr k hk]
  have hl : (rowsP P ((lst f.regs).length / 64 + 1) k (lst f.code).length).length = (lst f.code).length := by simp [rowsP]
  have ht : ((rowsP P ((lst f.regs).length / 64 + 1) k (lst f.code).length).drop 0).take (lst f.code).length = rowsP P ((lst f.regs).length / 64 + 1) k (lst f.code).length := by
    rw [List.drop_zero, List.take_of_length_le (by rw [hl]; exact Nat.le_refl _)]
  rw [expo_ls, hr]
  simp only [hl, Nat.zero_add, Nat.le_refl, and_self, if_true, ht, L.rows hk]
theorem LvRep.reads : ∃ r, q35_1 (.lp 1 1 0 0) H = some r ∧ r.fresh = true ∧ Reads r (.rp [slA (some t.b), slA (some t.a), slA (some t.h), .int .i64 (lst f.regs).length]) := by
  have e0 := L.ex (k := 0) (by omega)
  have e1 := L.ex (k := 1) (by omega)
  have e2 := L.ex (k := 2) (by omega)
  have e3 : ∀ os, expo H 11 (.int .i64 (lst f.regs).length) os = some ⟨.int .i64 (lst f.regs).length, os, true, [], []⟩ := fun os => expo_p rfl H 10 os
  have hr : rowsAt H 1 1 = some (false, 4, [[.ls (Q 0).1 (Q 0).2 1 0 (lst f.code).length, .ls (Q 1).1 (Q 1).2 1 0 (lst f.code).length, .ls (Q 2).1 (Q 2).2 1 0 (lst f.code).length, .int .i64 (lst f.regs).length]]) := by simp [rowsAt, objAt, L.tb]
  have q0 := L.farQ 0 (by omega)
  have q1 := L.farQ 1 (by omega)
  have q2 := L.farQ 2 (by omega)
  have m : ∀ x, (∀ k i, k < 3 → i < (lst f.code).length → (P k i).1 ≠ x) → (idsP P 0 (lst f.code).length ++ (idsP P 1 (lst f.code).length ++ (idsP P 2 (lst f.code).length ++ []))).contains x = false := by
    intro x hx
    rw [← Bool.not_eq_true, List.contains_iff_mem]
    intro hm
    simp only [List.mem_append, idsP, List.mem_map, List.mem_range, List.not_mem_nil, or_false] at hm
    rcases hm with ⟨i, hi, e⟩ | ⟨i, hi, e⟩ | ⟨i, hi, e⟩
    · exact hx 0 i (by omega) hi e
    · exact hx 1 i (by omega) hi e
    · exact hx 2 i (by omega) hi e
  have m1 := m 1 (fun k i hk hi e => by have := L.farP k i hk hi; omega)
  have mq : ∀ k, k < 3 → _ := fun k hk => m (Q k).1 (fun k' i hk' hi e => L.off k' k i hk' hk hi e)
  have nq : ∀ k k', k < 3 → k' < 3 → k ≠ k' → ¬ (Q k).1 = (Q k').1 := fun k k' h h' hne e => hne (L.injQ k k' h h' e)
  have ap : apartIds [1, (Q 0).1, (Q 1).1, (Q 2).1] (idsP P 0 (lst f.code).length ++ (idsP P 1 (lst f.code).length ++ (idsP P 2 (lst f.code).length ++ []))) = true := by
    have n01 := nq 0 1 (by omega) (by omega) (by omega)
    have n02 := nq 0 2 (by omega) (by omega) (by omega)
    have n12 := nq 1 2 (by omega) (by omega) (by omega)
    have z0 : ¬ 1 = (Q 0).1 := by omega
    have z1 : ¬ 1 = (Q 1).1 := by omega
    have z2 : ¬ 1 = (Q 2).1 := by omega
    simp only [apartIds, m1, mq 0 (by omega), mq 1 (by omega), mq 2 (by omega), Bool.not_false, Bool.and_true]
    simp [n01, n02, n12, z0, z1, z2]
  have ex : expo H fuelF (.lp 1 1 0 0) [] = some ⟨.lp 3 0 0 0, [.arr false false 1 (t.b.map enc), .arr false false 1 (t.a.map enc), .arr false false 1 (t.h.map enc), .arr true false 4 [[.ls 0 0 1 0 (lst f.code).length, .ls 1 0 1 0 (lst f.code).length, .ls 2 0 1 0 (lst f.code).length, .int .i64 (lst f.regs).length]]], true, [1, (Q 0).1, (Q 1).1, (Q 2).1], idsP P 0 (lst f.code).length ++ (idsP P 1 (lst f.code).length ++ (idsP P 2 (lst f.code).length ++ []))⟩ := by
    show expo H (11 + 1) (.lp 1 1 0 0) [] = _
    rw [expo]
    simp only [hr, and_self, if_true, exList, e0, e1, e2, e3, List.nil_append, List.length_nil, List.length_cons, List.cons_append, List.append_nil, tk]
    rfl
  refine ⟨⟨.lp 3 0 0 0, [.arr false false 1 (t.b.map enc), .arr false false 1 (t.a.map enc), .arr false false 1 (t.h.map enc), .arr true false 4 [[.ls 0 0 1 0 (lst f.code).length, .ls 1 0 1 0 (lst f.code).length, .ls 2 0 1 0 (lst f.code).length, .int .i64 (lst f.regs).length]]], true, [], []⟩, by rw [q35_1, expo1, ex]; simp only [ap, if_true], rfl, ?_⟩
  have lb := L.ok.b
  have la := L.ok.a
  have lh := L.ok.h
  generalize hX : heapOf [OC.arr false false 1 (t.b.map enc), .arr false false 1 (t.a.map enc), .arr false false 1 (t.h.map enc), .arr true false 4 [[.ls 0 0 1 0 (lst f.code).length, .ls 1 0 1 0 (lst f.code).length, .ls 2 0 1 0 (lst f.code).length, .int .i64 (lst f.regs).length]]] = X
  have y0 : fz X 11 (.ls 0 0 1 0 (lst f.code).length) = some ⟨slA (some t.b), t.b.all scal, [0]⟩ := by
    rw [← lb, ← hX]; exact fz_ls0 (α := Ws) (k := 9) (id := 0) (g := 0) (L := t.b) rfl
  have y1 : fz X 11 (.ls 1 0 1 0 (lst f.code).length) = some ⟨slA (some t.a), t.a.all scal, [1]⟩ := by
    rw [← la, ← hX]; exact fz_ls0 (α := Ws) (k := 9) (id := 1) (g := 0) (L := t.a) rfl
  have y2 : fz X 11 (.ls 2 0 1 0 (lst f.code).length) = some ⟨slA (some t.h), t.h.all scal, [2]⟩ := by
    rw [← lh, ← hX]; exact fz_ls0 (α := Ws) (k := 9) (id := 2) (g := 0) (L := t.h) rfl
  have y3 : fz X 11 (.int .i64 (lst f.regs).length) = some ⟨.int .i64 (lst f.regs).length, true, []⟩ := rfl
  have hr2 : rowsAt X 3 0 = some (false, 4, [[.ls 0 0 1 0 (lst f.code).length, .ls 1 0 1 0 (lst f.code).length, .ls 2 0 1 0 (lst f.code).length, .int .i64 (lst f.regs).length]]) := by
    rw [← hX]; rfl
  refine ⟨⟨.rp [slA (some t.b), slA (some t.a), slA (some t.h), .int .i64 (lst f.regs).length], t.b.all scal && (t.a.all scal && (t.h.all scal && (true && true))), 3 :: ([0] ++ ([1] ++ ([2] ++ ([] ++ []))))⟩, ?_, rfl⟩
  simp only [hX]
  show fz X (11 + 1) (.lp 3 0 0 0) = _
  rw [fz]
  simp only [hr2, List.getElem?_cons_zero, List.drop_zero, fzList_cons, fzList_nil, y0, y1, y2, y3]
end
end Go.Vm
namespace Go.Vm
open Cel
theorem s_sethas (s : Ws) {r : Nat} (hr : r < 9223372036854775808) (hs : r / 64 < s.length) : (callW E).p 83 [slA (some s), .int .i64 r] = some ⟨.bool (bit s r), [], true, [], []⟩ := by
  rw [x_q42]
  obtain ⟨q1, q2⟩ := quo_rem hr
  have kx : evIxs 1 (slA (some s)) (.int .i64 ((r / 64 : Nat) : Int)) = some (.rp [.int .u64 (s.getD (r / 64) 0).toNat]) := by
    have := evIxs_sl (α := BitVec 64) (o := some s) (i := r / 64) (x := s.getD (r / 64) 0) (by rw [lst_some, List.getD_eq_getElem?_getD, List.getElem?_eq_getElem hs]; rfl) .i64
    exact this
  have lx : ∀ t : Heap, evLd false 1 (.rp [.int .u64 (s.getD (r / 64) 0).toNat]) t = some (.int .u64 (s.getD (r / 64) 0).toNat) := fun t => by simp
  obtain ⟨v, w, h1, h2, h3⟩ := has_w (r := r % 64) (Nat.mod_lt r (by omega)) (s.getD (r / 64) 0)
  simp only [q42_1, q1, q2, ob_some, kx, lx, h1, h2, h3, expo1_bool']
  rfl
def tv (t : Tb) (R : Nat) : AV := .rp [slA (some t.b), slA (some t.a), slA (some t.h), .int .i64 R]
def atM (R : Nat) (l : List Ws) (i r : Int) : Bool := decide (0 ≤ i) && decide (i < l.length) && decide (0 ≤ r) && decide (r < R) && bit (rowW l i.toNat) r.toNat
theorem s_at (t : Tb) {R : Nat} (hR : R ≤ 20000) (l : List Ws) (hl : ∀ i, i < l.length → (rowW l i).length = R / 64 + 1) (i r : Int) : (callW E).p 82 [tv t R, slA (some l), .int .i64 i, .int .i64 r] = some ⟨.bool (atM R l i r), [], true, [], []⟩ := by
  rw [x_q39]
  have hE : evEqnB 0 true (tv t R) .nilp = some (.bool true) := rfl
  have nc : evNilchk (tv t R) = some (tv t R) := rfl
  have fa : evFa 3 (tv t R) = some (.rp [.int .i64 R]) := rfl
  have lR : ∀ H : Heap, evLd false 1 (.rp [.int .i64 R]) H = some (.int .i64 R) := fun H => by simp
  have le : ∀ H, evLen 1 (slA (some l)) H = some (.int .i64 l.length) := fun H => evLen_sl (some l) H
  unfold atM
  by_cases h1 : 0 ≤ i
  · by_cases h2 : i < (l.length : Int)
    · by_cases h3 : 0 ≤ r
      · by_cases h4 : r < (R : Int)
        · have hi : i.toNat < l.length := by omega
          have kx : evIxs 1 (slA (some l)) (.int .i64 i) = some (.rp [slA (some (rowW l i.toNat))]) := by
            have := evIxs_slI (α := Ws) (o := some l) (n := i) (x := rowW l i.toNat) h1 (by rw [lst_some, rowW, List.getD_eq_getElem?_getD, List.getElem?_eq_getElem hi]; rfl) .i64
            exact this
          have lx : ∀ (H : Heap) (s : Ws), evLd false 1 (.rp [slA (some s)]) H = some (slA (some s)) := fun H s => rfl
          have hb := s_sethas (rowW l i.toNat) (r := r.toNat) (by omega) (by rw [hl _ hi]; omega)
          rw [show ((r.toNat : Nat) : Int) = r by omega] at hb
          have ha : ∀ H : Heap, fzList (fz H fuelF) [slA (some (rowW l i.toNat)), .int .i64 r] = some ⟨[slA (some (rowW l i.toNat)), .int .i64 r], (lst (some (rowW l i.toNat))).isEmpty && (true && true), []⟩ := fun H => by
            rw [fzList_cons, fzList_cons, fz_sl, fz_int', fzList_nil]; rfl
          have c1 : ∀ H, callAny E (callW E) 0 none true 83 [slA (some (rowW l i.toNat)), .int .i64 r] H = some (.bool (bit (rowW l i.toNat) r.toNat), H) := fun H => call_reads rfl (ha H) rfl hb ⟨_, rfl, rfl⟩
          simp only [q39_1, hE, ob_some, gb_tt, evBin_geq, h1, decide_true, evPick_t, le, evBin_lss, h2, h3, nc, fa, lR, h4, kx, lx, gh_tt, c1, oh_some, expo1_bool', Bool.true_and]
        · simp only [q39_1, hE, ob_some, gb_tt, evBin_geq, h1, decide_true, evPick_t, le, evBin_lss, h2, h3, nc, fa, lR, h4, decide_false, gb_ft, gh_ft, evPick_f, expo1_bool', Bool.and_false, Bool.false_and]
      · simp only [q39_1, hE, ob_some, gb_tt, evBin_geq, h1, decide_true, evPick_t, le, evBin_lss, h2, h3, decide_false, gb_ft, gh_ft, evPick_f, expo1_bool', Bool.and_false, Bool.false_and]
    · simp only [q39_1, hE, ob_some, gb_tt, evBin_geq, h1, decide_true, evPick_t, le, evBin_lss, h2, decide_false, gb_ft, gh_ft, evPick_f, expo1_bool', Bool.and_false, Bool.false_and]
  · simp only [q39_1, hE, ob_some, gb_tt, evBin_geq, h1, decide_false, evPick_t, gb_ft, gh_ft, evPick_f, expo1_bool', Bool.and_false, Bool.false_and]
theorem at_call (t : Tb) {R : Nat} (hR : R ≤ 20000) (l : List Ws) (hl : ∀ i, i < l.length → (rowW l i).length = R / 64 + 1) (i r : Int) (H : Heap) : callAny E (callW E) 0 none true 82 [tv t R, slA (some l), .int .i64 i, .int .i64 r] H = some (.bool (atM R l i r), H) := by
  have ht : fz H fuelF (tv t R) = some ⟨tv t R, scalar1 (tv t R), []⟩ := fz_p (k := 11) rfl H
  have hs : fz H fuelF (slA (some l)) = some ⟨slA (some l), scalar1 (slA (some l)), []⟩ := fz_p (k := 11) (pure1_sl _) H
  have ha : ∃ b, fzList (fz H fuelF) [tv t R, slA (some l), .int .i64 i, .int .i64 r] = some ⟨[tv t R, slA (some l), .int .i64 i, .int .i64 r], b, []⟩ := by
    refine ⟨scalar1 (tv t R) && (scalar1 (slA (some l)) && (true && (true && true))), ?_⟩
    rw [fzList_cons, fzList_cons, fzList_cons, fzList_cons, ht, hs, fz_int', fz_int', fzList_nil]; rfl
  obtain ⟨b, ha⟩ := ha
  exact call_reads rfl ha rfl (s_at t hR l hl i r) ⟨_, rfl, rfl⟩
end Go.Vm
namespace Go.Vm
open Cel
open Classical in
theorem at_eq {n R : Nat} {l : List Ws} {P : Prop} {i r : Int} (hl : l.length = n) (h : 0 ≤ i → i < n → 0 ≤ r → (bit (rowW l i.toNat) r.toNat = true ↔ P)) :
    atM R l i r = (decide (0 ≤ i) && (decide (i < (n : Int)) && (decide (0 ≤ r) && (decide (r < (R : Int)) && decide P)))) := by
  unfold atM
  rw [hl]
  by_cases h1 : 0 ≤ i
  · by_cases h2 : i < (n : Int)
    · by_cases h3 : 0 ≤ r
      · have := h h1 h2 h3
        have e : bit (rowW l i.toNat) r.toNat = decide P := by
          cases hb : bit (rowW l i.toNat) r.toNat with
          | true => exact (decide_eq_true (this.1 hb)).symm
          | false => exact (decide_eq_false fun hp => by rw [this.2 hp] at hb; cases hb).symm
        rw [e]
        simp [h1, h2, h3]
      · simp [h3]
    · simp [h2]
  · simp [h1]
section
variable {f : Fn} (w : Wf f) {t : Tb} (ok : TbOk (lst f.code).length ((lst f.regs).length / 64 + 1) t) (S : LvSnd f t) (C : ∀ i, i < (lst f.code).length → Cl f t i)
include w ok S C
theorem bef_eq (i r : Int) : atM (lst f.regs).length t.b i r = befR f i r := by
  refine at_eq ok.b fun h1 h2 h3 => ?_
  have := (live_tells w S C (i := i.toNat) (by omega) r.toNat).1
  rwa [show ((i.toNat : Nat) : Int) = i by omega] at this
end
theorem fz_tv (t : Tb) (R : Nat) (H : Heap) : fz H fuelF (tv t R) = some ⟨tv t R, scalar1 (tv t R), []⟩ := fz_p (k := 11) rfl H
theorem fz_tir (t : Tb) (R : Nat) (i r : Int) (H : Heap) : fzList (fz H fuelF) [tv t R, .int .i64 i, .int .i64 r] = some ⟨[tv t R, .int .i64 i, .int .i64 r], scalar1 (tv t R) && (true && (true && true)), []⟩ := by
  rw [fzList_cons, fzList_cons, fzList_cons, fz_tv, fz_int', fz_int', fzList_nil]; rfl
end Go.Vm
namespace Go.Vm
open Cel
theorem s_Before (t : Tb) {R : Nat} (hR : R ≤ 20000) (hl : ∀ i, i < t.b.length → (rowW t.b i).length = R / 64 + 1) (i r : Int) : (callW E).p 76 [tv t R, .int .i64 i, .int .i64 r] = some ⟨.bool (atM R t.b i r), [], true, [], []⟩ := by
  rw [x_q38]
  have hE : evEqnB 0 true (tv t R) .nilp = some (.bool true) := rfl
  have nc : evNilchk (tv t R) = some (tv t R) := rfl
  have fa : ∀ H : Heap, evLd false 1 (.rp [slA (some t.b), slA (some t.a), slA (some t.h), .int .i64 R]) H = some (slA (some t.b)) := fun H => rfl
  have f0 : evFa 0 (tv t R) = some (.rp [slA (some t.b), slA (some t.a), slA (some t.h), .int .i64 R]) := rfl
  simp only [q38_1, hE, ob_some, gb_tt, nc, f0, fa, gh_tt, at_call t hR t.b hl, oh_some, evPick_t, expo1_bool']
end Go.Vm
namespace Go.Vm
open Cel
theorem part_mk {Hc : Heap} {B j W : Nat} (d0 : Hc[B + j]? = some ⟨0, .dead⟩) (hW : W ≤ 1000000) :
    mkSC B (some j) 1 8 [.int .u64 0] (.int .i64 W) (.int .i64 W) Hc = some (.ls (B + j) 1 1 0 W, Hc.set (B + j) (AW 1 (noneW W))) := by
  simp [mkSC, newArr, place, d0]
  refine ⟨by omega, ?_⟩
  show Hc.set (B + j) ⟨_, .arr false false 1 _⟩ = Hc.set (B + j) ⟨_, .arr false false 1 ((List.replicate W (0 : BitVec 64)).map enc)⟩
  rw [List.map_replicate]
  rfl
theorem part_one {Hc : Heap} {B j : Nat} {v : AV} (hv : leaf1 v = true) (hc : cellsOf v = [v]) (d0 : Hc[B + j]? = some ⟨0, .dead⟩) :
    buildSC B (some j) 1 1 [.nils] [(0, v)] Hc = some (.ls (B + j) 1 1 0 1, Hc.set (B + j) ⟨1, .arr false false 1 [[v]]⟩) := by
  simp [buildSC, fillRows, newArr, place, d0, hc, hv]
def nP (B j m : Nat) (p : Nat → Nat × Nat) (i : Nat) : Nat × Nat := if i = m then (B + j, 1) else p i
def rws (W m : Nat) (p : Nat → Nat × Nat) : List (List AV) := (List.range m).map fun i => [.ls (p i).1 (p i).2 1 0 W]
theorem rws_succ (W m B j : Nat) (p : Nat → Nat × Nat) : rws W (m + 1) (nP B j m p) = rws W m p ++ [[.ls (B + j) 1 1 0 W]] := by
  unfold rws
  rw [List.range_succ, List.map_append]
  congr 1
  · refine List.map_congr_left fun i hi => ?_
    rw [List.mem_range] at hi
    simp only [nP, if_neg (show ¬ i = m by omega)]
  · simp [nP]
theorem part_app0 {Hc : Heap} {B j id W : Nat} {r : List AV} (h1 : Hc[id]? = some ⟨1, .arr false false 1 [r]⟩) (d : Hc[B + j]? = some ⟨0, .dead⟩) :
    evApp B (some j) 1 24 .nils (.ls id 1 1 0 1) Hc = some (.ls (B + j) 1 1 0 1, Hc.set (B + j) ⟨1, .arr false false 1 [r]⟩) := by
  have hy : rowsOf Hc 1 (.ls id 1 1 0 1) = some [r] := by simp [rowsOf, rowsAt, objAt, h1]
  unfold evApp
  rw [hy]
  simp [newArr, place, d]
theorem part_app {Hc : Heap} {B j id qa qg m : Nat} {rows : List (List AV)} {r : List AV} (h1 : Hc[id]? = some ⟨1, .arr false false 1 [r]⟩) (hq : Hc[qa]? = some ⟨qg, .arr false false 1 rows⟩) (hm : rows.length = m) (hl : m ≤ 1000000) :
    evApp B (some j) 1 24 (.ls qa qg 1 0 m) (.ls id 1 1 0 1) Hc = some (.ls qa (qg + 1) 1 0 (m + 1), Hc.set qa ⟨qg + 1, .arr false false 1 (rows ++ [r])⟩) := by
  have hy : rowsOf Hc 1 (.ls id 1 1 0 1) = some [r] := by simp [rowsOf, rowsAt, objAt, h1]
  unfold evApp
  rw [hy]
  simp only [hq]
  rw [if_pos ⟨trivial, trivial, trivial, by omega, by simp only [List.length_singleton]; omega⟩]
  simp only [List.drop_zero, List.length_singleton]
  rw [List.take_of_length_le (by omega)]
def fv (Q : Arr) (k m : Nat) : AV := if m = 0 then .nils else .ls (Q k).1 (Q k).2 1 0 m
structure BRep (f : Fn) (P : Plc) (Q : Arr) (H : Heap) (m : Nat) : Prop where
  box : H[0]? = some (AB f)
  tb : H[1]? = some ⟨1, .arr true false 4 [[fv Q 0 m, fv Q 1 m, fv Q 2 m, .int .i64 (lst f.regs).length]]⟩
  arr : 0 < m → ∀ k, k < 3 → H[(Q k).1]? = some ⟨(Q k).2, .arr false false 1 (rws ((lst f.regs).length / 64 + 1) m (P k))⟩
  row : ∀ k, k < 3 → ∀ i, i < m → H[(P k i).1]? = some (AW (P k i).2 (noneW ((lst f.regs).length / 64 + 1)))
  inj : ∀ k k' i i', k < 3 → k' < 3 → i < m → i' < m → (P k i).1 = (P k' i').1 → k = k' ∧ i = i'
  off : ∀ k k' i, k < 3 → k' < 3 → i < m → (P k i).1 ≠ (Q k').1
  farP : ∀ k i, k < 3 → i < m → 3 ≤ (P k i).1
  farQ : 0 < m → ∀ k, k < 3 → 3 ≤ (Q k).1
  injQ : 0 < m → ∀ k k', k < 3 → k' < 3 → (Q k).1 = (Q k').1 → k = k'
  size : 3 ≤ H.length
theorem BRep.done {f : Fn} {P : Plc} {Q : Arr} {H : Heap} (R : BRep f P Q H (lst f.code).length) (hn : 1 ≤ (lst f.code).length) : LvRep f P Q H (tb0 f) := by
  have hz : ¬ (lst f.code).length = 0 := by omega
  have ht := R.tb
  simp only [fv, if_neg hz] at ht
  refine ⟨R.box, ht, R.arr (by omega), fun k hk i hi => ?_, R.inj, R.off, R.farP, R.farQ (by omega), R.injQ (by omega), R.size, tb0_ok⟩
  have : rowW (tk (tb0 f) k) i = noneW ((lst f.regs).length / 64 + 1) := by
    match k, hk with
    | 0, _ => exact row_rep hi
    | 1, _ => exact row_rep hi
    | 2, _ => exact row_rep hi
  rw [this]
  exact R.row k hk i hi
end Go.Vm
namespace Go.Vm
open Cel
theorem st_fld {H : Heap} {a b c d v : AV} (h : H[1]? = some ⟨1, .arr true false 4 [[a, b, c, d]]⟩) (hv : cellsOf v = [v]) (hl : leaf1 v = true) :
    evSt 1 (.lp 1 1 0 0) v H = some (.tup [], H.set 1 ⟨1, .arr true false 4 [[v, b, c, d]]⟩) ∧ evSt 1 (.lp 1 1 0 1) v H = some (.tup [], H.set 1 ⟨1, .arr true false 4 [[a, v, c, d]]⟩) ∧ evSt 1 (.lp 1 1 0 2) v H = some (.tup [], H.set 1 ⟨1, .arr true false 4 [[a, b, v, d]]⟩) := by
  have hr : rowsAt H 1 1 = some (false, 4, [[a, b, c, d]]) := by simp [rowsAt, objAt, h]
  refine ⟨?_, ?_, ?_⟩ <;> (rw [evSt_lp, hr]; simp [hv, hl, spliceAt, setRows, h])
theorem ld_fld {H : Heap} {a b c d : AV} (h : H[1]? = some ⟨1, .arr true false 4 [[a, b, c, d]]⟩) : evLd false 1 (.lp 1 1 0 0) H = some a ∧ evLd false 1 (.lp 1 1 0 1) H = some b ∧ evLd false 1 (.lp 1 1 0 2) H = some c := by
  have hr : rowsAt H 1 1 = some (false, 4, [[a, b, c, d]]) := by simp [rowsAt, objAt, h]
  refine ⟨?_, ?_, ?_⟩ <;> (rw [evLd_lp, hr]; rfl)
set_option maxHeartbeats 4000000 in
theorem round {f : Fn} {P : Plc} {Q : Arr} {H : Heap} {m : Nat} (R : BRep f P Q H m) (hm : 0 < m) (hl : m ≤ 1000000) (hR : (lst f.regs).length ≤ 1000000) (v32 v33 : AV) :
    ∃ H' P' Q', q35_46 (.lp 0 1 0 0) (.int .i64 (lst f.code).length) (.int .i64 (((lst f.regs).length / 64 + 1 : Nat) : Int)) (.lp 1 1 0 0) v32 v33 H = q35_45 (.lp 0 1 0 0) (.int .i64 (lst f.code).length) (.int .i64 (((lst f.regs).length / 64 + 1 : Nat) : Int)) (.lp 1 1 0 0) v32 v33 H' ∧ BRep f P' Q' H' (m + 1) := by
  simp only [q35_46]
  have hz : ¬ m = 0 := by omega
  have nc : ∀ a b c d, evNilchk (.lp a b c d) = some (.lp a b c d) := fun _ _ _ _ => rfl
  have hW : (lst f.regs).length / 64 + 1 ≤ 1000000 := by omega
  generalize hWW : (lst f.regs).length / 64 + 1 = W at *
  have tb := R.tb
  simp only [fv, if_neg hz] at tb
  have a0 := R.arr hm 0 (by omega)
  have a1 := R.arr hm 1 (by omega)
  have a2 := R.arr hm 2 (by omega)
  rw [hWW] at a0 a1 a2
  have b0 := get_lt a0
  have b1 := get_lt a1
  have b2 := get_lt a2
  have f0 := R.farQ hm 0 (by omega)
  have f1 := R.farQ hm 1 (by omega)
  have f2 := R.farQ hm 2 (by omega)
  have n01 : ¬ (Q 0).1 = (Q 1).1 := fun e => by have := R.injQ hm 0 1 (by omega) (by omega) e; omega
  have n02 : ¬ (Q 0).1 = (Q 2).1 := fun e => by have := R.injQ hm 0 2 (by omega) (by omega) e; omega
  have n12 : ¬ (Q 1).1 = (Q 2).1 := fun e => by have := R.injQ hm 1 2 (by omega) (by omega) e; omega
  have hB := R.size
  have hd : ∀ j, j < 9 → (H ++ deadSlots 9)[H.length + j]? = some ⟨0, .dead⟩ := fun j hj => ga_ge hj
  have ho : ∀ b, b < H.length → (H ++ deadSlots 9)[b]? = H[b]? := fun b hb => ga_lt hb
  have hlen : (H ++ deadSlots 9).length = H.length + 9 := by simp [deadSlots]
  have rl : ∀ p, (rws W m p).length = m := fun p => by simp [rws]
  have row := R.row
  have box := R.box
  generalize hBB : H.length = B at *
  generalize H ++ deadSlots 9 = A0 at *
  have t0 : A0[1]? = some ⟨1, .arr true false 4 [[.ls (Q 0).1 (Q 0).2 1 0 m, .ls (Q 1).1 (Q 1).2 1 0 m, .ls (Q 2).1 (Q 2).2 1 0 m, .int .i64 (lst f.regs).length]]⟩ := by rw [ho 1 (by omega)]; exact tb
  have l0 := (ld_fld t0).1
  -- first list
  have m0 := part_mk (Hc := A0) (B := B) (j := 0) (W := W) (hd 0 (by omega)) hW
  generalize hA1 : A0.set (B + 0) (AW 1 (noneW W)) = A1 at *
  have o0 := part_one (Hc := A1) (B := B) (j := 1) (v := .ls (B + 0) 1 1 0 W) rfl rfl (by rw [← hA1, gs_ne (by omega)]; exact hd 1 (by omega))
  generalize hA2 : A1.set (B + 1) ⟨1, .arr false false 1 [[.ls (B + 0) 1 1 0 W]]⟩ = A2 at *
  have p0 := part_app (Hc := A2) (B := B) (j := 2) (id := B + 1) (m := m) (qa := (Q 0).1) (qg := (Q 0).2) (rows := rws W m (P 0)) (by rw [← hA2, gs_eq (by rw [← hA1, List.length_set]; omega)]) (by rw [← hA2, ← hA1, gs_ne (by omega), gs_ne (by omega), ho _ b0]; exact a0) (rl _) hl
  rw [← rws_succ] at p0
  generalize hA3 : A2.set (Q 0).1 ⟨(Q 0).2 + 1, .arr false false 1 (rws W (m + 1) (nP B 0 m (P 0)))⟩ = A3 at *
  have t3 : A3[1]? = A0[1]? := by rw [← hA3, ← hA2, ← hA1]; repeat rw [gs_ne (by omega)]
  rw [t0] at t3
  have l1 := (ld_fld t3).2.1
  -- second list
  have d3 : ∀ j, 2 < j → j < 9 → A3[B + j]? = some ⟨0, .dead⟩ := fun j h1 h2 => by
    rw [← hA3, ← hA2, ← hA1]; repeat rw [gs_ne (by omega)]
    exact hd j h2
  have q3 : ∀ b, b < B → b ≠ (Q 0).1 → A3[b]? = H[b]? := fun b hb hne => by
    rw [← hA3, ← hA2, ← hA1]; repeat rw [gs_ne (by omega)]
    exact ho b hb
  have g3 : A3.length = B + 9 := by rw [← hA3, ← hA2, ← hA1]; simp only [List.length_set]; exact hlen
  have m1 := part_mk (Hc := A3) (B := B) (j := 3) (W := W) (d3 3 (by omega) (by omega)) hW
  generalize hA4 : A3.set (B + 3) (AW 1 (noneW W)) = A4 at *
  have o1 := part_one (Hc := A4) (B := B) (j := 4) (v := .ls (B + 3) 1 1 0 W) rfl rfl (by rw [← hA4, gs_ne (by omega)]; exact d3 4 (by omega) (by omega))
  generalize hA5 : A4.set (B + 4) ⟨1, .arr false false 1 [[.ls (B + 3) 1 1 0 W]]⟩ = A5 at *
  have p1 := part_app (Hc := A5) (B := B) (j := 5) (id := B + 4) (m := m) (qa := (Q 1).1) (qg := (Q 1).2) (rows := rws W m (P 1)) (by rw [← hA5, gs_eq (by rw [← hA4, List.length_set]; omega)]) (by rw [← hA5, ← hA4, gs_ne (by omega), gs_ne (by omega), q3 _ b1 (fun e => n01 e.symm)]; exact a1) (rl _) hl
  rw [← rws_succ] at p1
  generalize hA6 : A5.set (Q 1).1 ⟨(Q 1).2 + 1, .arr false false 1 (rws W (m + 1) (nP B 3 m (P 1)))⟩ = A6 at *
  have t6 : A6[1]? = A3[1]? := by rw [← hA6, ← hA5, ← hA4]; repeat rw [gs_ne (by omega)]
  rw [t3] at t6
  have l2 := (ld_fld t6).2.2
  have d6 : ∀ j, 5 < j → j < 9 → A6[B + j]? = some ⟨0, .dead⟩ := fun j h1 h2 => by
    rw [← hA6, ← hA5, ← hA4]; repeat rw [gs_ne (by omega)]
    exact d3 j (by omega) h2
  have q6 : ∀ b, b < B → b ≠ (Q 0).1 → b ≠ (Q 1).1 → A6[b]? = H[b]? := fun b hb hne hne2 => by
    rw [← hA6, ← hA5, ← hA4]; repeat rw [gs_ne (by omega)]
    exact q3 b hb hne
  have g6 : A6.length = B + 9 := by rw [← hA6, ← hA5, ← hA4]; simp only [List.length_set]; exact g3
  have m2 := part_mk (Hc := A6) (B := B) (j := 6) (W := W) (d6 6 (by omega) (by omega)) hW
  generalize hA7 : A6.set (B + 6) (AW 1 (noneW W)) = A7 at *
  have o2 := part_one (Hc := A7) (B := B) (j := 7) (v := .ls (B + 6) 1 1 0 W) rfl rfl (by rw [← hA7, gs_ne (by omega)]; exact d6 7 (by omega) (by omega))
  generalize hA8 : A7.set (B + 7) ⟨1, .arr false false 1 [[.ls (B + 6) 1 1 0 W]]⟩ = A8 at *
  have p2 := part_app (Hc := A8) (B := B) (j := 8) (id := B + 7) (m := m) (qa := (Q 2).1) (qg := (Q 2).2) (rows := rws W m (P 2)) (by rw [← hA8, gs_eq (by rw [← hA7, List.length_set]; omega)]) (by rw [← hA8, ← hA7, gs_ne (by omega), gs_ne (by omega), q6 _ b2 (fun e => n02 e.symm) (fun e => n12 e.symm)]; exact a2) (rl _) hl
  rw [← rws_succ] at p2
  generalize hA9 : A8.set (Q 2).1 ⟨(Q 2).2 + 1, .arr false false 1 (rws W (m + 1) (nP B 6 m (P 2)))⟩ = A9 at *
  have t9 : A9[1]? = A6[1]? := by rw [← hA9, ← hA8, ← hA7]; repeat rw [gs_ne (by omega)]
  rw [t6] at t9
  have g9 : A9.length = B + 9 := by rw [← hA9, ← hA8, ← hA7]; simp only [List.length_set]; exact g6
  have x0 := (st_fld (v := .ls (Q 0).1 ((Q 0).2 + 1) 1 0 (m + 1)) t9 rfl rfl).1
  have x1 := (st_fld (H := A9.set 1 ⟨1, .arr true false 4 [[.ls (Q 0).1 ((Q 0).2 + 1) 1 0 (m + 1), .ls (Q 1).1 (Q 1).2 1 0 m, .ls (Q 2).1 (Q 2).2 1 0 m, .int .i64 (lst f.regs).length]]⟩) (v := .ls (Q 1).1 ((Q 1).2 + 1) 1 0 (m + 1)) (gs_eq (by omega)) rfl rfl).2.1
  rw [List.set_set] at x1
  have x2 := (st_fld (H := A9.set 1 ⟨1, .arr true false 4 [[.ls (Q 0).1 ((Q 0).2 + 1) 1 0 (m + 1), .ls (Q 1).1 ((Q 1).2 + 1) 1 0 (m + 1), .ls (Q 2).1 (Q 2).2 1 0 m, .int .i64 (lst f.regs).length]]⟩) (v := .ls (Q 2).1 ((Q 2).2 + 1) 1 0 (m + 1)) (gs_eq (by omega)) rfl rfl).2.2
  rw [List.set_set] at x2
  refine ⟨A9.set 1 ⟨1, .arr true false 4 [[.ls (Q 0).1 ((Q 0).2 + 1) 1 0 (m + 1), .ls (Q 1).1 ((Q 1).2 + 1) 1 0 (m + 1), .ls (Q 2).1 ((Q 2).2 + 1) 1 0 (m + 1), .int .i64 (lst f.regs).length]]⟩, fun k => nP B (3 * k) m (P k), fun k => ((Q k).1, (Q k).2 + 1), ?_, ?_⟩
  · have z : ∀ k c, k < 3 → (Q k).1 ≠ B + c := fun k c hk => by
      match k, hk with
      | 0, _ => omega
      | 1, _ => omega
      | 2, _ => omega
    simp only [nc, ob_some, evFa_lp, Nat.zero_add, l0, m0, oh_some, o0, p0, l1, m1, o1, p1, l2, m2, o2, p2, x0, x1, x2, ids1_lp, ids1_ls]
    have z0 : ∀ c, ¬ (Q 0).1 = B + c := fun c => z 0 c (by omega)
    have z1 : ∀ c, ¬ (Q 1).1 = B + c := fun c => z 1 c (by omega)
    have z2 : ∀ c, ¬ (Q 2).1 = B + c := fun c => z 2 c (by omega)
    have y0 : ∀ c, ¬ B + c = (Q 0).1 := fun c e => z 0 c (by omega) e.symm
    have y1 : ∀ c, ¬ B + c = (Q 1).1 := fun c e => z 1 c (by omega) e.symm
    have y2 : ∀ c, ¬ B + c = (Q 2).1 := fun c e => z 2 c (by omega) e.symm
    have w0 : ∀ c, ¬ 1 = B + c := fun c => by omega
    have w1 : ∀ c, ¬ B + c = 1 := fun c => by omega
    have u0 : ¬ (Q 0).1 = 1 := by omega
    have u1 : ¬ (Q 1).1 = 1 := by omega
    have u2 : ¬ (Q 2).1 = 1 := by omega
    have z0' := z0 0
    have z1' := z1 0
    have z2' := z2 0
    have hB1 : ¬ 1 = B := by omega
    have hB0 : ¬ B = 0 := by omega
    have hB2 : ¬ B = 1 := by omega
    rw [Nat.add_zero] at z0' z1' z2'
    have y0' : ¬ B = (Q 0).1 := fun e => z0' e.symm
    have y1' : ¬ B = (Q 1).1 := fun e => z1' e.symm
    have y2' : ¬ B = (Q 2).1 := fun e => z2' e.symm
    have u0' : ¬ 1 = (Q 0).1 := fun e => u0 e.symm
    have u1' : ¬ 1 = (Q 1).1 := fun e => u1 e.symm
    have u2' : ¬ 1 = (Q 2).1 := fun e => u2 e.symm
    have n10 : ¬ (Q 1).1 = (Q 0).1 := fun e => n01 e.symm
    have n20 : ¬ (Q 2).1 = (Q 0).1 := fun e => n02 e.symm
    have n21 : ¬ (Q 2).1 = (Q 1).1 := fun e => n12 e.symm
    simp [pairsOk, fpApart, meets, z0, z1, z2, y0, y1, y2, w0, w1, u0, u1, u2, u0', u1', u2', z0', z1', z2', y0', y1', y2', hB0, hB1, hB2, n01, n02, n12, n10, n20, n21]
  · have q9 : ∀ b, b < B → b ≠ (Q 0).1 → b ≠ (Q 1).1 → b ≠ (Q 2).1 → A9[b]? = H[b]? := fun b hb h0 h1 h2 => by
      rw [← hA9, ← hA8, ← hA7]; repeat rw [gs_ne (by omega)]
      exact q6 b hb h0 h1
    have l1' : A1.length = B + 9 := by rw [← hA1, List.length_set]; exact hlen
    have l2' : A2.length = B + 9 := by rw [← hA2, List.length_set]; exact l1'
    have l4' : A4.length = B + 9 := by rw [← hA4, List.length_set]; exact g3
    have l5' : A5.length = B + 9 := by rw [← hA5, List.length_set]; exact l4'
    have l7' : A7.length = B + 9 := by rw [← hA7, List.length_set]; exact g6
    have l8' : A8.length = B + 9 := by rw [← hA8, List.length_set]; exact l7'
    have rQ0 : A9[(Q 0).1]? = some ⟨(Q 0).2 + 1, .arr false false 1 (rws W (m + 1) (nP B 0 m (P 0)))⟩ := by
      rw [← hA9, ← hA8, ← hA7, ← hA6, ← hA5, ← hA4, ← hA3]
      rw [gs_ne (by omega), gs_ne (by omega), gs_ne (by omega), gs_ne (by omega), gs_ne (by omega), gs_ne (by omega), gs_eq (by omega)]
    have rQ1 : A9[(Q 1).1]? = some ⟨(Q 1).2 + 1, .arr false false 1 (rws W (m + 1) (nP B 3 m (P 1)))⟩ := by
      rw [← hA9, ← hA8, ← hA7, ← hA6]
      rw [gs_ne (by omega), gs_ne (by omega), gs_ne (by omega), gs_eq (by omega)]
    have rQ2 : A9[(Q 2).1]? = some ⟨(Q 2).2 + 1, .arr false false 1 (rws W (m + 1) (nP B 6 m (P 2)))⟩ := by
      rw [← hA9, gs_eq (by omega)]
    have rB0 : A9[B + 0]? = some (AW 1 (noneW W)) := by
      rw [← hA9, ← hA8, ← hA7, ← hA6, ← hA5, ← hA4, ← hA3, ← hA2, ← hA1]
      rw [gs_ne (by omega), gs_ne (by omega), gs_ne (by omega), gs_ne (by omega), gs_ne (by omega), gs_ne (by omega), gs_ne (by omega), gs_ne (by omega), gs_eq (by omega)]
    have rB3 : A9[B + 3]? = some (AW 1 (noneW W)) := by
      rw [← hA9, ← hA8, ← hA7, ← hA6, ← hA5, ← hA4]
      rw [gs_ne (by omega), gs_ne (by omega), gs_ne (by omega), gs_ne (by omega), gs_ne (by omega), gs_eq (by omega)]
    have rB6 : A9[B + 6]? = some (AW 1 (noneW W)) := by
      rw [← hA9, ← hA8, ← hA7]
      rw [gs_ne (by omega), gs_ne (by omega), gs_eq (by omega)]
    have pB : ∀ k i, k < 3 → i < m → (P k i).1 < B := fun k i hk hi => by rw [← hBB]; exact get_lt (row k hk i hi)
    have qB : ∀ k, k < 3 → (Q k).1 < B := fun k hk => by
      match k, hk with
      | 0, _ => exact b0
      | 1, _ => exact b1
      | 2, _ => exact b2
    have ne1 : ∀ k, k < 3 → (Q k).1 ≠ 1 := fun k hk => by have := R.farQ hm k hk; omega
    refine ⟨?_, ?_, fun _ k hk => ?_, fun k hk i hi => ?_, fun k k' i i' hk hk' hi hi' he => ?_, fun k k' i hk hk' hi => ?_, fun k i hk hi => ?_, fun _ k hk => R.farQ hm k hk, fun _ k k' hk hk' he => R.injQ hm k k' hk hk' he, ?_⟩
    · rw [gs_ne (by omega), q9 0 (by omega) (by omega) (by omega) (by omega)]; exact box
    · rw [gs_eq (by omega)]
      simp only [fv, if_neg (Nat.succ_ne_zero m)]
    · rw [hWW, gs_ne (fun e => ne1 k hk e.symm)]
      match k, hk with
      | 0, _ => exact rQ0
      | 1, _ => exact rQ1
      | 2, _ => exact rQ2
    · rw [hWW]
      by_cases e : i = m
      · simp only [nP, if_pos e]
        rw [gs_ne (by omega)]
        match k, hk with
        | 0, _ => exact rB0
        | 1, _ => exact rB3
        | 2, _ => exact rB6
      · have hi' : i < m := by omega
        simp only [nP, if_neg e]
        have h3 := R.farP k i hk hi'
        rw [gs_ne (by omega), q9 _ (pB k i hk hi') (R.off k 0 i hk (by omega) hi') (R.off k 1 i hk (by omega) hi') (R.off k 2 i hk (by omega) hi')]
        have := row k hk i hi'
        rw [hWW] at this
        exact this
    · simp only [nP] at he
      split at he <;> split at he
      · rename_i e e'
        simp only at he
        exact ⟨by omega, by omega⟩
      · rename_i e e'
        have := pB k' i' hk' (by omega)
        simp only at he
        omega
      · rename_i e e'
        have := pB k i hk (by omega)
        simp only at he
        omega
      · exact R.inj k k' i i' hk hk' (by omega) (by omega) he
    · simp only [nP]
      split
      · have := qB k' hk'
        simp only
        omega
      · exact R.off k k' i hk hk' (by omega)
    · simp only [nP]
      split
      · simp only; omega
      · exact R.farP k i hk (by omega)
    · rw [List.length_set]; omega
end Go.Vm
namespace Go.Vm
open Cel
def HB0 (f : Fn) : Heap := [AB f, ⟨1, .arr true false 4 [[.nils, .nils, .nils, .int .i64 (lst f.regs).length]]⟩, D0]
def HB1 (f : Fn) (W : Nat) : Heap := [AB f, ⟨1, .arr true false 4 [[.ls 5 1 1 0 1, .ls 8 1 1 0 1, .ls 11 1 1 0 1, .int .i64 (lst f.regs).length]]⟩, D0,
  AW 1 (noneW W), ⟨1, .arr false false 1 [[.ls 3 1 1 0 W]]⟩, ⟨1, .arr false false 1 [[.ls 3 1 1 0 W]]⟩,
  AW 1 (noneW W), ⟨1, .arr false false 1 [[.ls 6 1 1 0 W]]⟩, ⟨1, .arr false false 1 [[.ls 6 1 1 0 W]]⟩,
  AW 1 (noneW W), ⟨1, .arr false false 1 [[.ls 9 1 1 0 W]]⟩, ⟨1, .arr false false 1 [[.ls 9 1 1 0 W]]⟩]
theorem first (f : Fn) (v3 v32 v33 : AV) {W : Nat} (hW : W ≤ 1000000) :
    q35_46 (.lp 0 1 0 0) v3 (.int .i64 (W : Int)) (.lp 1 1 0 0) v32 v33 (HB0 f) = q35_45 (.lp 0 1 0 0) v3 (.int .i64 (W : Int)) (.lp 1 1 0 0) v32 v33 (HB1 f W) := by
  have e0 : HB0 f ++ deadSlots 9 = [AB f, ⟨1, .arr true false 4 [[.nils, .nils, .nils, .int .i64 (lst f.regs).length]]⟩, D0, D0, D0, D0, D0, D0, D0, D0, D0, D0] := rfl
  have el : (HB0 f).length = 3 := rfl
  have nc : ∀ a b c d, evNilchk (.lp a b c d) = some (.lp a b c d) := fun _ _ _ _ => rfl
  have m0 := part_mk (Hc := [AB f, ⟨1, .arr true false 4 [[.nils, .nils, .nils, .int .i64 (lst f.regs).length]]⟩, D0, D0, D0, D0, D0, D0, D0, D0, D0, D0]) (B := 3) (j := 0) (W := W) rfl hW
  have o0 := part_one (Hc := [AB f, ⟨1, .arr true false 4 [[.nils, .nils, .nils, .int .i64 (lst f.regs).length]]⟩, D0, AW 1 (noneW W), D0, D0, D0, D0, D0, D0, D0, D0]) (B := 3) (j := 1) (v := .ls 3 1 1 0 W) rfl rfl rfl
  have p0 := part_app0 (Hc := [AB f, ⟨1, .arr true false 4 [[.nils, .nils, .nils, .int .i64 (lst f.regs).length]]⟩, D0, AW 1 (noneW W), ⟨1, .arr false false 1 [[.ls 3 1 1 0 W]]⟩, D0, D0, D0, D0, D0, D0, D0]) (B := 3) (j := 2) (id := 4) (W := W) (r := [.ls 3 1 1 0 W]) rfl rfl
  simp only [Nat.reduceAdd, List.set_cons_succ, List.set_cons_zero] at m0 o0 p0
  have m1 := part_mk (Hc := [AB f, ⟨1, .arr true false 4 [[.nils, .nils, .nils, .int .i64 (lst f.regs).length]]⟩, D0, AW 1 (noneW W), ⟨1, .arr false false 1 [[.ls 3 1 1 0 W]]⟩, ⟨1, .arr false false 1 [[.ls 3 1 1 0 W]]⟩, D0, D0, D0, D0, D0, D0]) (B := 3) (j := 3) (W := W) rfl hW
  have o1 := part_one (Hc := [AB f, ⟨1, .arr true false 4 [[.nils, .nils, .nils, .int .i64 (lst f.regs).length]]⟩, D0, AW 1 (noneW W), ⟨1, .arr false false 1 [[.ls 3 1 1 0 W]]⟩, ⟨1, .arr false false 1 [[.ls 3 1 1 0 W]]⟩, AW 1 (noneW W), D0, D0, D0, D0, D0]) (B := 3) (j := 4) (v := .ls 6 1 1 0 W) rfl rfl rfl
  have p1 := part_app0 (Hc := [AB f, ⟨1, .arr true false 4 [[.nils, .nils, .nils, .int .i64 (lst f.regs).length]]⟩, D0, AW 1 (noneW W), ⟨1, .arr false false 1 [[.ls 3 1 1 0 W]]⟩, ⟨1, .arr false false 1 [[.ls 3 1 1 0 W]]⟩, AW 1 (noneW W), ⟨1, .arr false false 1 [[.ls 6 1 1 0 W]]⟩, D0, D0, D0, D0]) (B := 3) (j := 5) (id := 7) (W := W) (r := [.ls 6 1 1 0 W]) rfl rfl
  simp only [Nat.reduceAdd, List.set_cons_succ, List.set_cons_zero] at m1 o1 p1
  have m2 := part_mk (Hc := [AB f, ⟨1, .arr true false 4 [[.nils, .nils, .nils, .int .i64 (lst f.regs).length]]⟩, D0, AW 1 (noneW W), ⟨1, .arr false false 1 [[.ls 3 1 1 0 W]]⟩, ⟨1, .arr false false 1 [[.ls 3 1 1 0 W]]⟩, AW 1 (noneW W), ⟨1, .arr false false 1 [[.ls 6 1 1 0 W]]⟩, ⟨1, .arr false false 1 [[.ls 6 1 1 0 W]]⟩, D0, D0, D0]) (B := 3) (j := 6) (W := W) rfl hW
  have o2 := part_one (Hc := [AB f, ⟨1, .arr true false 4 [[.nils, .nils, .nils, .int .i64 (lst f.regs).length]]⟩, D0, AW 1 (noneW W), ⟨1, .arr false false 1 [[.ls 3 1 1 0 W]]⟩, ⟨1, .arr false false 1 [[.ls 3 1 1 0 W]]⟩, AW 1 (noneW W), ⟨1, .arr false false 1 [[.ls 6 1 1 0 W]]⟩, ⟨1, .arr false false 1 [[.ls 6 1 1 0 W]]⟩, AW 1 (noneW W), D0, D0]) (B := 3) (j := 7) (v := .ls 9 1 1 0 W) rfl rfl rfl
  have p2 := part_app0 (Hc := [AB f, ⟨1, .arr true false 4 [[.nils, .nils, .nils, .int .i64 (lst f.regs).length]]⟩, D0, AW 1 (noneW W), ⟨1, .arr false false 1 [[.ls 3 1 1 0 W]]⟩, ⟨1, .arr false false 1 [[.ls 3 1 1 0 W]]⟩, AW 1 (noneW W), ⟨1, .arr false false 1 [[.ls 6 1 1 0 W]]⟩, ⟨1, .arr false false 1 [[.ls 6 1 1 0 W]]⟩, AW 1 (noneW W), ⟨1, .arr false false 1 [[.ls 9 1 1 0 W]]⟩, D0]) (B := 3) (j := 8) (id := 10) (W := W) (r := [.ls 9 1 1 0 W]) rfl rfl
  simp only [Nat.reduceAdd, List.set_cons_succ, List.set_cons_zero] at m2 o2 p2
  have l0 := (ld_fld (H := [AB f, ⟨1, .arr true false 4 [[.nils, .nils, .nils, .int .i64 (lst f.regs).length]]⟩, D0, D0, D0, D0, D0, D0, D0, D0, D0, D0]) rfl).1
  have l1 := (ld_fld (H := [AB f, ⟨1, .arr true false 4 [[.nils, .nils, .nils, .int .i64 (lst f.regs).length]]⟩, D0, AW 1 (noneW W), ⟨1, .arr false false 1 [[.ls 3 1 1 0 W]]⟩, ⟨1, .arr false false 1 [[.ls 3 1 1 0 W]]⟩, D0, D0, D0, D0, D0, D0]) rfl).2.1
  have l2 := (ld_fld (H := [AB f, ⟨1, .arr true false 4 [[.nils, .nils, .nils, .int .i64 (lst f.regs).length]]⟩, D0, AW 1 (noneW W), ⟨1, .arr false false 1 [[.ls 3 1 1 0 W]]⟩, ⟨1, .arr false false 1 [[.ls 3 1 1 0 W]]⟩, AW 1 (noneW W), ⟨1, .arr false false 1 [[.ls 6 1 1 0 W]]⟩, ⟨1, .arr false false 1 [[.ls 6 1 1 0 W]]⟩, D0, D0, D0]) rfl).2.2
  have x0 := (st_fld (H := [AB f, ⟨1, .arr true false 4 [[.nils, .nils, .nils, .int .i64 (lst f.regs).length]]⟩, D0, AW 1 (noneW W), ⟨1, .arr false false 1 [[.ls 3 1 1 0 W]]⟩, ⟨1, .arr false false 1 [[.ls 3 1 1 0 W]]⟩, AW 1 (noneW W), ⟨1, .arr false false 1 [[.ls 6 1 1 0 W]]⟩, ⟨1, .arr false false 1 [[.ls 6 1 1 0 W]]⟩, AW 1 (noneW W), ⟨1, .arr false false 1 [[.ls 9 1 1 0 W]]⟩, ⟨1, .arr false false 1 [[.ls 9 1 1 0 W]]⟩]) (v := .ls 5 1 1 0 1) rfl rfl rfl).1
  have x1 := (st_fld (H := [AB f, ⟨1, .arr true false 4 [[.ls 5 1 1 0 1, .nils, .nils, .int .i64 (lst f.regs).length]]⟩, D0, AW 1 (noneW W), ⟨1, .arr false false 1 [[.ls 3 1 1 0 W]]⟩, ⟨1, .arr false false 1 [[.ls 3 1 1 0 W]]⟩, AW 1 (noneW W), ⟨1, .arr false false 1 [[.ls 6 1 1 0 W]]⟩, ⟨1, .arr false false 1 [[.ls 6 1 1 0 W]]⟩, AW 1 (noneW W), ⟨1, .arr false false 1 [[.ls 9 1 1 0 W]]⟩, ⟨1, .arr false false 1 [[.ls 9 1 1 0 W]]⟩]) (v := .ls 8 1 1 0 1) rfl rfl rfl).2.1
  have x2 := (st_fld (H := [AB f, ⟨1, .arr true false 4 [[.ls 5 1 1 0 1, .ls 8 1 1 0 1, .nils, .int .i64 (lst f.regs).length]]⟩, D0, AW 1 (noneW W), ⟨1, .arr false false 1 [[.ls 3 1 1 0 W]]⟩, ⟨1, .arr false false 1 [[.ls 3 1 1 0 W]]⟩, AW 1 (noneW W), ⟨1, .arr false false 1 [[.ls 6 1 1 0 W]]⟩, ⟨1, .arr false false 1 [[.ls 6 1 1 0 W]]⟩, AW 1 (noneW W), ⟨1, .arr false false 1 [[.ls 9 1 1 0 W]]⟩, ⟨1, .arr false false 1 [[.ls 9 1 1 0 W]]⟩]) (v := .ls 11 1 1 0 1) rfl rfl rfl).2.2
  simp only [List.set_cons_succ, List.set_cons_zero] at x0 x1 x2
  rw [q35_46, e0, el]
  simp only [nc, ob_some, evFa_lp, Nat.zero_add, Nat.reduceAdd, l0, m0, oh_some, o0, p0, l1, m1, o1, p1, l2, m2, o2, p2, x0, x1, x2]
  rfl
theorem rep1 (f : Fn) : BRep f (fun k _ => (3 + 3 * k, 1)) (fun k => (5 + 3 * k, 1)) (HB1 f ((lst f.regs).length / 64 + 1)) 1 := by
  refine ⟨rfl, rfl, fun _ k hk => ?_, fun k hk i hi => ?_, fun k k' i i' hk hk' hi hi' he => ⟨by simp only at he; omega, by omega⟩, fun k k' i hk hk' hi => by simp only; omega, fun k i hk hi => by simp only; omega, fun _ k hk => by simp only; omega, fun _ k k' hk hk' he => by simp only at he; omega, by simp [HB1]⟩
  · match k, hk with
    | 0, _ => rfl
    | 1, _ => rfl
    | 2, _ => rfl
  · match k, hk with
    | 0, _ => rfl
    | 1, _ => rfl
    | 2, _ => rfl
theorem make_walk {f : Fn} (hn : (lst f.code).length ≤ 20000) (hR : (lst f.regs).length ≤ 20000) : ∀ (d m : Nat) (H : Heap) (P : Plc) (Q : Arr), m + d = (lst f.code).length → 0 < m → BRep f P Q H m →
    ∃ H' P' Q', q35_L44 (.lp 0 1 0 0) (.int .i64 (lst f.code).length) (.int .i64 (((lst f.regs).length / 64 + 1 : Nat) : Int)) (.lp 1 1 0 0) (.int .i64 (lst f.code).length) (.int .i64 (m : Int)) H =
      q35_42 (.lp 0 1 0 0) (.int .i64 (lst f.code).length) (.lp 1 1 0 0) H' ∧ BRep f P' Q' H' (lst f.code).length := by
  intro d
  induction d with
  | zero =>
    intro m H P Q hm h0 R
    have hm' : m = (lst f.code).length := by omega
    have hc : ¬ ((m : Int) < ((lst f.code).length : Int)) := by omega
    refine ⟨H, P, Q, ?_, by rw [← hm']; exact R⟩
    rw [q35_L44_go]
    simp only [q35_48, evBin_lss, ob_some, hc, decide_false, q35_47, cnd_f]
  | succ d ih =>
    intro m H P Q hm h0 R
    have hlt : m < (lst f.code).length := by omega
    have hc : ((m : Int) < ((lst f.code).length : Int)) := by omega
    have hw := wrap_up hlt (by omega)
    obtain ⟨H1, P1, Q1, e1, R1⟩ := round R h0 (by omega) (by omega) (.int .i64 (lst f.code).length) (.int .i64 (m : Int))
    obtain ⟨H2, P2, Q2, e2, R2⟩ := ih (m + 1) H1 P1 Q1 (by omega) (by omega) R1
    push_cast at e2
    refine ⟨H2, P2, Q2, ?_, R2⟩
    rw [q35_L44_go]
    simp only [q35_48, evBin_lss, ob_some, hc, decide_true, q35_47, cnd_t]
    rw [e1]
    simp only [q35_45, evBin_add, hw, ob_some]
    exact e2
end Go.Vm
namespace Go.Vm
open Cel
attribute [local simp] callAny callP heapOf_nil
@[simp] theorem splice4 (a b c d : AV) (r : List AV) (h : r.length = 4) : spliceAt 0 [a, b, c, d] r = [a, b, c, d] := by
  simp [spliceAt, ← h]
@[simp] theorem expo1_k (h : Heap) (a b c d : Int) (o : Bool) : expo1 h (.tup [.agg [.int .i64 a, .int .i64 b, .int .i64 c, .int .i64 d], .bool o]) = some (exK (a, b, c, d, o)) := rfl
@[simp] theorem build4 (a b c d : Int) : evBuild [.int .i64 0, .int .i64 0, .int .i64 0, .int .i64 0] [(0, 1, .int .i64 a), (1, 1, .int .i64 b), (2, 1, .int .i64 c), (3, 1, .int .i64 d)] = some (.agg [.int .i64 a, .int .i64 b, .int .i64 c, .int .i64 d]) := rfl
@[simp] theorem build4z : evBuild [.int .i64 0, .int .i64 0, .int .i64 0, .int .i64 0] [] = some (.agg [.int .i64 0, .int .i64 0, .int .i64 0, .int .i64 0]) := rfl
@[simp] theorem fz_tup3 (h : Heap) (a b c : Int) : fz h fuelF (.tup [.int .i64 a, .int .i64 b, .int .i64 c]) = some ⟨.tup [.int .i64 a, .int .i64 b, .int .i64 c], true, []⟩ := rfl
@[simp] theorem fz_tupk (h : Heap) (a b c d : Int) (o : Bool) : fz h fuelF (.tup [.agg [.int .i64 a, .int .i64 b, .int .i64 c, .int .i64 d], .bool o]) = some ⟨.tup [.agg [.int .i64 a, .int .i64 b, .int .i64 c, .int .i64 d], .bool o], true, []⟩ := rfl
@[simp] theorem agg4 (a b c d : AV) : aggOr true 4 [a, b, c, d] = some (.agg [a, b, c, d]) := rfl
set_option maxHeartbeats 4000000 in
theorem kinds_1 (x : Ins) (h : x.op = 1 ∨ x.op = 2 ∨ x.op = 3 ∨ x.op = 4 ∨ x.op = 7 ∨ x.op = 8 ∨ x.op = 9 ∨ x.op = 10 ∨ x.op = 11 ∨ x.op = 13 ∨ x.op = 14 ∨ x.op = 15 ∨ x.op = 16 ∨ x.op = 17 ∨ x.op = 18 ∨ x.op = 19 ∨ x.op = 20 ∨ x.op = 27 ∨ x.op = 31 ∨ x.op = 32 ∨ x.op = 33) : (callW E).p 47 [.agg (enc x)] = some (exK (kindsM x)) := by
  rw [x_q21]
  rcases h with h|h|h|h|h|h|h|h|h|h|h|h|h|h|h|h|h|h|h|h|h <;> simp [h, q21_1, q21_2, q21_3, q21_4, q21_5, q21_6, q21_7, q21_8, q21_9, q21_10, q21_11, q21_12, q21_13, q21_14, q21_15, q21_16, q21_17, q21_18, q21_19, q21_20, q21_21, q21_22, q21_23, q21_24, q21_25, q21_26, q21_27, q21_28, q21_29, q21_30, q21_31, q21_32, q21_33, q21_34, q21_35, q21_36, q21_37, q21_38, q21_39, q21_40, q21_41, q21_42, q21_43, q21_45, q21_47, pairsOk, fpApart, meets, ids1, kindsM]
theorem kinds_t (x : Ins) (hs : x.s.length ≤ 9223372036854775807) (h : x.op = 12 ∨ x.op = 21 ∨ x.op = 22) : (callW E).p 47 [.agg (enc x)] = some (exK (kindsM x)) := by
  rw [x_q21]
  have ht := s_Type x.s hs
  rcases h with h|h|h <;> simp [h, ht, q21_1, q21_2, q21_3, q21_4, q21_5, q21_6, q21_7, q21_8, q21_9, q21_10, q21_11, q21_12, q21_13, q21_14, q21_15, q21_16, q21_17, q21_18, q21_19, q21_20, q21_21, q21_22, q21_23, q21_24, q21_25, q21_26, q21_27, q21_28, q21_29, q21_30, q21_31, q21_32, q21_33, q21_34, q21_35, q21_36, q21_37, q21_38, q21_39, q21_40, q21_41, q21_42, q21_43, q21_45, q21_47, pairsOk, fpApart, meets, ids1, kindsM]
theorem kinds_n (x : Ins) (hn : -9223372036854775808 ≤ x.n ∧ x.n < 9223372036854775808) (h : x.op = 5 ∨ x.op = 6) : (callW E).p 47 [.agg (enc x)] = some (exK (kindsM x)) := by
  rw [x_q21]
  have hk := s_Kinds x.n
  have hw := wrap_i64 hn.1 hn.2
  rcases h with h|h
  · simp [h, hk, hw, q21_1, q21_2, q21_3, q21_4, q21_5, q21_6, q21_7, q21_8, q21_9, q21_10, q21_11, q21_12, q21_13, q21_14, q21_15, q21_16, q21_17, q21_18, q21_19, q21_20, q21_21, q21_22, q21_23, q21_24, q21_25, q21_26, q21_27, q21_28, q21_29, q21_30, q21_31, q21_32, q21_33, q21_34, q21_35, q21_36, q21_37, q21_38, q21_39, q21_40, q21_41, q21_42, q21_43, q21_45, q21_47, pairsOk, fpApart, meets, ids1, kindsM]
  · by_cases h0 : (numK x.n).1 = 0
    · simp [h, hk, hw, h0, q21_1, q21_2, q21_3, q21_4, q21_5, q21_6, q21_7, q21_8, q21_9, q21_10, q21_11, q21_12, q21_13, q21_14, q21_15, q21_16, q21_17, q21_18, q21_19, q21_20, q21_21, q21_22, q21_23, q21_24, q21_25, q21_26, q21_27, q21_28, q21_29, q21_30, q21_31, q21_32, q21_33, q21_34, q21_35, q21_36, q21_37, q21_38, q21_39, q21_40, q21_41, q21_42, q21_43, q21_45, q21_47, pairsOk, fpApart, meets, ids1, kindsM]
    · simp [h, hk, hw, h0, q21_1, q21_2, q21_3, q21_4, q21_5, q21_6, q21_7, q21_8, q21_9, q21_10, q21_11, q21_12, q21_13, q21_14, q21_15, q21_16, q21_17, q21_18, q21_19, q21_20, q21_21, q21_22, q21_23, q21_24, q21_25, q21_26, q21_27, q21_28, q21_29, q21_30, q21_31, q21_32, q21_33, q21_34, q21_35, q21_36, q21_37, q21_38, q21_39, q21_40, q21_41, q21_42, q21_43, q21_45, q21_47, pairsOk, fpApart, meets, ids1, kindsM]
theorem kinds_i (x : Ins) (h : x.op = 28) : (callW E).p 47 [.agg (enc x)] = some (exK (kindsM x)) := by
  rw [x_q21]
  by_cases h0 : 0 ≤ x.n
  · simp [h, h0, q21_1, q21_2, q21_3, q21_4, q21_5, q21_6, q21_7, q21_8, q21_9, q21_10, q21_11, q21_12, q21_13, q21_14, q21_15, q21_16, q21_17, q21_18, q21_19, q21_20, q21_21, q21_22, q21_23, q21_24, q21_25, q21_26, q21_27, q21_28, q21_29, q21_30, q21_31, q21_32, q21_33, q21_34, q21_35, q21_36, q21_37, q21_38, q21_39, q21_40, q21_41, q21_42, q21_43, q21_45, q21_47, pairsOk, fpApart, meets, ids1, kindsM]
  · simp [h, h0, q21_1, q21_2, q21_3, q21_4, q21_5, q21_6, q21_7, q21_8, q21_9, q21_10, q21_11, q21_12, q21_13, q21_14, q21_15, q21_16, q21_17, q21_18, q21_19, q21_20, q21_21, q21_22, q21_23, q21_24, q21_25, q21_26, q21_27, q21_28, q21_29, q21_30, q21_31, q21_32, q21_33, q21_34, q21_35, q21_36, q21_37, q21_38, q21_39, q21_40, q21_41, q21_42, q21_43, q21_45, q21_47, pairsOk, fpApart, meets, ids1, kindsM]
end Go.Vm
namespace Go.Vm
open Cel
attribute [local simp] callAny callP heapOf_nil
theorem other_29 (x : Ins) (h : x.op = 29) : (callW E).p 51 [.agg (enc x)] = some (exK (kindsM x)) := by
  rw [x_q22]
  by_cases h0 : x.b = -1 <;> by_cases h1 : x.n = 0 <;> simp [h, h0, h1, q22_1, q22_2, q22_3, q22_4, q22_5, q22_6, q22_7, q22_8, q22_9, q22_10, q22_11, q22_12, q22_13, q22_14, q22_15, q22_16, q22_18, q22_20, pairsOk, fpApart, meets, kindsM]
theorem other_30 (x : Ins) (h : x.op = 30) : (callW E).p 51 [.agg (enc x)] = some (exK (kindsM x)) := by
  rw [x_q22]
  by_cases h0 : x.a = -1 <;> simp [h, h0, q22_1, q22_2, q22_3, q22_4, q22_5, q22_6, q22_7, q22_8, q22_9, q22_10, q22_11, q22_12, q22_13, q22_14, q22_15, q22_16, q22_18, q22_20, pairsOk, fpApart, meets, kindsM]
set_option maxHeartbeats 4000000 in
theorem other_c (x : Ins) (h : x.op = 23 ∨ x.op = 24 ∨ x.op = 25 ∨ x.op = 26) : (callW E).p 51 [.agg (enc x)] = some (exK (kindsM x)) := by
  rw [x_q22]
  have e1 : ((0 : Int) < ((lst x.args).length : Int)) = (0 < (lst x.args).length) := by simp
  have e2 : (((lst x.args).length : Int) ≤ (21 : Int)) = ((lst x.args).length ≤ 21) := by simp; omega
  by_cases h0 : x.d = -1 <;> by_cases h1 : 0 ≤ x.n <;> by_cases h2 : 0 < (lst x.args).length <;> rcases h with h|h|h|h <;> simp [h, h0, h1, h2, e1, e2, q22_1, q22_2, q22_3, q22_4, q22_5, q22_6, q22_7, q22_8, q22_9, q22_10, q22_11, q22_12, q22_13, q22_14, q22_15, q22_16, q22_18, q22_20, pairsOk, fpApart, meets, kindsM]
theorem other_o (x : Ins) (h : x.op < 1 ∨ 33 < x.op) : (callW E).p 51 [.agg (enc x)] = some (exK (kindsM x)) := by
  rw [x_q22, kindsM_out h]
  rcases h with h|h
  · simp [lo_f h, q22_1, q22_2, q22_3, q22_4, q22_5, q22_6, q22_7, q22_8, q22_9, q22_10, q22_11, q22_12, q22_13, q22_14, q22_15, q22_16, q22_18, q22_20, pairsOk, fpApart, meets]
  · simp [hi_f h, q22_1, q22_2, q22_3, q22_4, q22_5, q22_6, q22_7, q22_8, q22_9, q22_10, q22_11, q22_12, q22_13, q22_14, q22_15, q22_16, q22_18, q22_20, pairsOk, fpApart, meets]
theorem kinds_o (x : Ins) (h : x.op = 29 ∨ x.op = 30 ∨ x.op = 23 ∨ x.op = 24 ∨ x.op = 25 ∨ x.op = 26 ∨ x.op < 1 ∨ 33 < x.op) : (callW E).p 47 [.agg (enc x)] = some (exK (kindsM x)) := by
  have ho : (callW E).p 51 [.agg (enc x)] = some (exK (kindsM x)) := by
    rcases h with h|h|h|h|h|h|h
    · exact other_29 x h
    · exact other_30 x h
    · exact other_c x (.inl h)
    · exact other_c x (.inr (.inl h))
    · exact other_c x (.inr (.inr (.inl h)))
    · exact other_c x (.inr (.inr (.inr h)))
    · exact other_o x h
  rw [x_q21]
  generalize kindsM x = k at ho
  obtain ⟨a, b, c, d, o⟩ := k
  simp only [exK] at ho
  rcases h with h|h|h|h|h|h|h|h
  iterate 6 (simp [h, ho, q21_1, q21_2, q21_3, q21_4, q21_5, q21_6, q21_7, q21_8, q21_9, q21_10, q21_11, q21_12, q21_13, q21_14, q21_15, q21_16, q21_17, q21_18, q21_19, q21_20, q21_21, q21_22, q21_23, q21_24, q21_25, q21_26, q21_27, q21_28, q21_29, q21_30, q21_31, q21_32, q21_33, q21_34, q21_35, q21_36, q21_37, q21_38, q21_39, q21_40, q21_41, q21_42, q21_43, q21_45, q21_47, pairsOk, fpApart, meets])
  · simp [lo_f h, ho, q21_1, q21_2, q21_3, q21_4, q21_5, q21_6, q21_7, q21_8, q21_9, q21_10, q21_11, q21_12, q21_13, q21_14, q21_15, q21_16, q21_17, q21_18, q21_19, q21_20, q21_21, q21_22, q21_23, q21_24, q21_25, q21_26, q21_27, q21_28, q21_29, q21_30, q21_31, q21_32, q21_33, q21_34, q21_35, q21_36, q21_37, q21_38, q21_39, q21_40, q21_41, q21_42, q21_43, q21_45, q21_47, pairsOk, fpApart, meets]
  · simp [hi_f h, ho, q21_1, q21_2, q21_3, q21_4, q21_5, q21_6, q21_7, q21_8, q21_9, q21_10, q21_11, q21_12, q21_13, q21_14, q21_15, q21_16, q21_17, q21_18, q21_19, q21_20, q21_21, q21_22, q21_23, q21_24, q21_25, q21_26, q21_27, q21_28, q21_29, q21_30, q21_31, q21_32, q21_33, q21_34, q21_35, q21_36, q21_37, q21_38, q21_39, q21_40, q21_41, q21_42, q21_43, q21_45, q21_47, pairsOk, fpApart, meets]
theorem s_kinds (x : Ins) (hn : -9223372036854775808 ≤ x.n ∧ x.n < 9223372036854775808) (hs : x.s.length ≤ 9223372036854775807) : (callW E).p 47 [.agg (enc x)] = some (exK (kindsM x)) := by
  by_cases h1 : x.op = 1 ∨ x.op = 2 ∨ x.op = 3 ∨ x.op = 4 ∨ x.op = 7 ∨ x.op = 8 ∨ x.op = 9 ∨ x.op = 10 ∨ x.op = 11 ∨ x.op = 13 ∨ x.op = 14 ∨ x.op = 15 ∨ x.op = 16 ∨ x.op = 17 ∨ x.op = 18 ∨ x.op = 19 ∨ x.op = 20 ∨ x.op = 27 ∨ x.op = 31 ∨ x.op = 32 ∨ x.op = 33
  · exact kinds_1 x h1
  by_cases h2 : x.op = 12 ∨ x.op = 21 ∨ x.op = 22
  · exact kinds_t x hs h2
  by_cases h3 : x.op = 5 ∨ x.op = 6
  · exact kinds_n x hn h3
  by_cases h4 : x.op = 28
  · exact kinds_i x h4
  exact kinds_o x (by omega)
end Go.Vm
namespace Go.Vm
open Cel
attribute [local simp] callAny callP heapOf_nil
abbrev HR (f : Fn) (x : Ins) (a b c d : Int) : Heap := [⟨1, .arr true false 5 [enc f]⟩, ⟨1, .arr true false 9 [enc x]⟩, ⟨1, .arr true false 4 [[.int .i64 a, .int .i64 b, .int .i64 c, .int .i64 d]]⟩]
abbrev P0 : AV := .lp 0 1 0 0
abbrev P1 : AV := .lp 1 1 0 0
abbrev P2 : AV := .lp 2 1 0 0
theorem regs_at {f : Fn} {r : Int} (h : inR (lst f.regs) r = true) : evIxs 1 (slA f.regs) (.int .i64 r) = some (.rp [.int .i64 (regK (lst f.regs) r)]) := by
  obtain ⟨h0, h1, h2⟩ := inR_get h
  exact ixs_intI h0 h2 .i64
theorem right_field (f : Fn) (x : Ins) (a b c d : Int) (i : Nat) (w r : Int) (v26 : AV) (hi : i < 4) (hw : [a, b, c, d][i]? = some w) :
    q23_18 P0 P1 P2 (.int .i64 i) (.int .i64 r) v26 (.int .i64 i) (HR f x a b c d) =
      if fieldOk (lst f.regs) w r then q23_16 P0 P1 P2 v26 (.int .i64 i) (HR f x a b c d) else some ⟨.bool false, [], true, [], []⟩ := by
  have e1 : evIxa 4 1 P2 (.int .i64 i) = some (.lp 2 1 0 i) := by
    have : ((i : Int) < (4 : Int)) := by omega
    simp [evIxa, this]
  have e2 : ∀ f x, evLd false 1 (.lp 2 1 0 i) (HR f x a b c d) = some (.int .i64 w) := by
    intro f x
    simp only [evLd_lp]
    have : (rowsAt (HR f x a b c d) 2 1) = some (false, 4, [[.int .i64 a, .int .i64 b, .int .i64 c, .int .i64 d]]) := rfl
    rw [this]
    simp only [List.getElem?_cons_zero, aggOr_f]
    match i, hi, hw with
    | 0, _, hw => simp at hw; simp [hw]
    | 1, _, hw => simp at hw; simp [hw]
    | 2, _, hw => simp at hw; simp [hw]
    | 3, _, hw => simp at hw; simp [hw]
  have e2 := e2 f x
  by_cases hw0 : w < 0
  · simp [q23_18, e1, e2, fieldOk, hw0]
  by_cases h0 : r < 0
  · have : ¬ 0 ≤ r := by omega
    simp [q23_18, q23_17, e1, e2, fieldOk, hw0, h0, inR, this]
  by_cases h1 : r < ((lst f.regs).length : Int)
  · have h0' : 0 ≤ r := by omega
    have h1' : ¬ ((lst f.regs).length : Int) ≤ r := by omega
    have hin : inR (lst f.regs) r = true := by simp [inR, h0', h1]
    have hr := regs_at hin
    by_cases h2 : 0 < w
    · have h2' : ¬ w ≤ 0 := by omega
      by_cases h3 : regK (lst f.regs) r = w
      · simp [q23_18, q23_17, e1, e2, fieldOk, hw0, h0, h1', h2, h2', hin, hr, h3]
      · simp [q23_18, q23_17, e1, e2, fieldOk, hw0, h0, h1', h2, h2', hin, hr, h3]
    · have h2' : w ≤ 0 := by omega
      simp [q23_18, q23_17, e1, e2, fieldOk, hw0, h0, h1', h2, h2', hin]
  · have h1' : ((lst f.regs).length : Int) ≤ r := by omega
    simp [q23_18, q23_17, e1, e2, fieldOk, hw0, h0, h1', h1, inR]
theorem right_tail (f : Fn) (x : Ins) (a b c d : Int) (h1 : x.op = 1 → inR (lst f.regs) x.d = true) (h4 : x.op = 4 → inR (lst f.regs) x.d = true ∧ inR (lst f.regs) x.a = true) (h7 : x.op = 7 → inR (lst f.regs) x.a = true)
    (h30 : x.op = 30 → x.a = -1 ∨ inR (lst f.regs) x.a = true) :
    q23_2 P0 P1 (HR f x a b c d) = some ⟨.bool (tailOk (lst f.regs) f.ret (lst f.code).length x), [], true, [], []⟩ := by
  by_cases o1 : x.op = 1
  · have hr := regs_at (h1 o1)
    by_cases k3 : regK (lst f.regs) x.d = 3
    · simp [q23_2, tailOk, o1, hr, k3]
    · by_cases k2 : regK (lst f.regs) x.d = 2
      · simp [q23_2, tailOk, o1, hr, k2]
      · simp [q23_2, tailOk, o1, hr, k2, k3]
  by_cases o4 : x.op = 4
  · have hr := regs_at (h4 o4).1
    have hr2 := regs_at (h4 o4).2
    simp [q23_2, tailOk, o4, hr, hr2]
  by_cases o7 : x.op = 7
  · have hr := regs_at (h7 o7)
    simp [q23_2, tailOk, o7, hr]
  by_cases o30 : x.op = 30
  · by_cases ha : x.a = -1
    · by_cases hz : f.ret = 0
      · simp [q23_2, tailOk, o30, ha, hz]
      · simp [q23_2, tailOk, o30, ha, hz]
    · have hr := regs_at ((h30 o30).resolve_left ha)
      by_cases hz : f.ret = 0
      · simp [q23_2, tailOk, o30, ha, hz]
      · simp [q23_2, tailOk, o30, ha, hz, hr]
  · cases hl : leads x.op with
    | false => simp [q23_2, q23_1, tailOk, o1, o4, o7, o30, hl]
    | true =>
      by_cases ht : 0 ≤ x.t
      · simp [q23_2, q23_1, tailOk, o1, o4, o7, o30, hl, ht]
      · simp [q23_2, q23_1, tailOk, o1, o4, o7, o30, hl, ht]
end Go.Vm
namespace Go.Vm
open Cel
attribute [local simp] callAny callP heapOf_nil
theorem right_arg (f : Fn) (x : Ins) (a b c d : Int) (i : Nat) (r : Int) (v63 v64 : AV) :
    q23_5 P0 P1 (.int .i64 i) (.int .i64 r) v63 v64 (.int .i64 i) (HR f x a b c d) =
      if inR (lst f.regs) r && (!decide (i = 0) || !(decide (x.op = 24) || decide (x.op = 25)) || decide (regK (lst f.regs) r = 3)) then q23_4 P0 P1 v63 v64 (.int .i64 i) (HR f x a b c d) else some ⟨.bool false, [], true, [], []⟩ := by
  by_cases h0 : r < 0
  · have : ¬ 0 ≤ r := by omega
    simp [q23_5, h0, inR, this]
  by_cases h1 : r < ((lst f.regs).length : Int)
  · have h0' : 0 ≤ r := by omega
    have h1' : ¬ ((lst f.regs).length : Int) ≤ r := by omega
    have hin : inR (lst f.regs) r = true := by simp [inR, h0', h1]
    have hr := regs_at hin
    by_cases hi : i = 0
    · subst hi
      by_cases o1 : x.op = 24
      · by_cases h3 : regK (lst f.regs) r = 3
        · simp [q23_5, h0, h1', hin, hr, o1, h3]
        · simp [q23_5, h0, h1', hin, hr, o1, h3]
      · by_cases o2 : x.op = 25
        · by_cases h3 : regK (lst f.regs) r = 3
          · simp [q23_5, h0, h1', hin, hr, o2, h3]
          · simp [q23_5, h0, h1', hin, hr, o2, h3]
        · simp [q23_5, h0, h1', hin, o1, o2]
    · have hi' : ¬ ((i : Int) = 0) := by omega
      simp [q23_5, h0, h1', hin, hi, hi']
  · have h1' : ((lst f.regs).length : Int) ≤ r := by omega
    simp [q23_5, h0, h1', h1, inR]
theorem right_loop (f : Fn) (x : Ins) (a b c d : Int) (T : Bool) (hc : calls x.op = true) (hl : (lst x.args).length ≤ 9223372036854775807) (hT : q23_2 P0 P1 (HR f x a b c d) = some ⟨.bool T, [], true, [], []⟩) :
    ∀ (k i : Nat), i + k = (lst x.args).length → 0 < i →
    q23_L3 P0 P1 (slA x.args) (.int .i64 (lst x.args).length) (.int .i64 i) (HR f x a b c d) = some ⟨.bool (((lst x.args).drop i).all (inR (lst f.regs)) && T), [], true, [], []⟩ := by
  intro k
  induction k with
  | zero =>
    intro i hi _
    have e1 : (lst x.args).drop i = [] := List.drop_eq_nil_of_le (by omega)
    have hn : ¬ ((i : Int) < ((lst x.args).length : Int)) := by omega
    rw [q23_L3_go, e1]
    simp [q23_11, q23_10, hn, hT]
  | succ k ih =>
    intro i hi h0
    have hlt : i < (lst x.args).length := by omega
    have hn : ((i : Int) < ((lst x.args).length : Int)) := by omega
    have e1 : ((lst x.args).drop i).all (inR (lst f.regs)) = (inR (lst f.regs) (lst x.args)[i] && ((lst x.args).drop (i + 1)).all (inR (lst f.regs))) := by rw [List.drop_eq_getElem_cons hlt, List.all_cons]
    have ih := ih (i + 1) (by omega) (by omega)
    push_cast at ih
    have k1 := ixs_int (o := x.args) (i := i) (List.getElem?_eq_getElem hlt) .i64
    have hz : ¬ i = 0 := by omega
    rw [q23_L3_go, e1]
    simp only [q23_11, q23_10, evBin_lss, ob_some, hn, decide_true, cnd_t]
    simp only [q23_7, k1, ob_some, evLd_rp, aggOr_f, List.head?_cons]
    simp only [q23_6]
    simp only [evLd_lp]
    simp only [rowsAt_s, rowsAt_0]
    simp only [List.getElem?_cons_zero, List.drop_zero, agg_ins, ob_some]
    simp only [callAny, pure_17, if_true, callP, fzList_cons, fz_enc, fzList_nil, s_Calls, heapOf_nil, fz_bool', oh_some, Bool.true_or]
    simp only [evUn_not, ob_some, hc, Bool.not_true, cnd_f, right_arg]
    cases inR (lst f.regs) (lst x.args)[i]
    · simp
    · simp [hz, q23_4, wrap_up hlt hl, ih]
theorem right_args (f : Fn) (x : Ins) (a b c d : Int) (T : Bool) (hl : (lst x.args).length ≤ 9223372036854775807) (hT : q23_2 P0 P1 (HR f x a b c d) = some ⟨.bool T, [], true, [], []⟩) :
    q23_13 P0 P1 (HR f x a b c d) = some ⟨.bool (argsOk (lst f.regs) x && T), [], true, [], []⟩ := by
  have e0 : q23_13 P0 P1 (HR f x a b c d) = q23_L3 P0 P1 (slA x.args) (.int .i64 (lst x.args).length) (.int .i64 0) (HR f x a b c d) := by simp [q23_13]
  rw [e0, q23_L3_go]
  cases ha : lst x.args with
  | nil => simp [q23_11, q23_10, hT, argsOk, firstOk, ha]
  | cons r rest =>
    have k1 := ixs_int (o := x.args) (i := 0) (x := r) (by rw [ha]; rfl) .i64
    have k1 : evIxs 1 (slA x.args) (.int .i64 0) = some (.rp [.int .i64 r]) := k1
    have hn : ((0 : Int) < ((lst x.args).length : Int)) := by rw [ha]; simp
    have hra := right_arg f x a b c d 0 r (slA x.args) (.int .i64 (lst x.args).length)
    simp only [Int.ofNat_zero, decide_true, Bool.not_true, Bool.false_or] at hra
    rw [← ha]
    cases hc : calls x.op with
    | false =>
      simp only [q23_11, q23_10, evBin_lss, ob_some, hn, decide_true, cnd_t]
      simp only [q23_7, k1, ob_some, evLd_rp, aggOr_f, List.head?_cons]
      simp only [q23_6]
      simp only [evLd_lp]
      simp only [rowsAt_s, rowsAt_0]
      simp only [List.getElem?_cons_zero, List.drop_zero, agg_ins, ob_some]
      simp only [callAny, pure_17, if_true, callP, fzList_cons, fz_enc, fzList_nil, s_Calls, heapOf_nil, fz_bool', oh_some, Bool.true_or]
      simp only [evUn_not, ob_some, hc, Bool.not_false, cnd_t, hT, argsOk, Bool.true_or, Bool.true_and]
    | true =>
      have hlp := right_loop f x a b c d T hc hl hT rest.length 1 (by rw [ha]; simp; omega) (by omega)
      have hd : (lst x.args).drop 1 = rest := by rw [ha]; rfl
      rw [hd] at hlp
      have hlp : q23_L3 P0 P1 (slA x.args) (.int .i64 (lst x.args).length) (.int .i64 1) (HR f x a b c d) = _ := hlp
      simp only [q23_11, q23_10, evBin_lss, ob_some, hn, decide_true, cnd_t]
      simp only [q23_7, k1, ob_some, evLd_rp, aggOr_f, List.head?_cons]
      simp only [q23_6]
      simp only [evLd_lp]
      simp only [rowsAt_s, rowsAt_0]
      simp only [List.getElem?_cons_zero, List.drop_zero, agg_ins, ob_some]
      simp only [callAny, pure_17, if_true, callP, fzList_cons, fz_enc, fzList_nil, s_Calls, heapOf_nil, fz_bool', oh_some, Bool.true_or]
      simp only [evUn_not, ob_some, hc, Bool.not_true, cnd_f, hra]
      simp only [argsOk, firstOk, ha, List.all_cons]
      have hw : IntKind.wrap .i64 ((0 : Int) + 1) = 1 := wrap_i64 (n := 1) (by omega) (by omega)
      generalize (!(decide (x.op = 24) || decide (x.op = 25)) || decide (regK (lst f.regs) r = 3)) = B
      have hw2 : IntKind.wrap .i64 (1 : Int) = 1 := wrap_i64 (n := 1) (by omega) (by omega)
      cases inR (lst f.regs) r with
      | false => cases B <;> simp [hc]
      | true =>
        cases B with
        | false => simp [hc]
        | true =>
          simp only [Bool.and_self, if_true, q23_4, evBin_add, ob_some]
          rw [show IntKind.wrap .i64 ((0 : Int) + 1) = 1 from hw]
          rw [← ha, hlp]
          simp [hc]
theorem kinds_any (x : Ins) : (x.op = 1 → (kindsM x).1 = 0) ∧ (x.op = 4 → (kindsM x).1 = 0 ∧ (kindsM x).2.1 = 0) ∧ (x.op = 7 → (kindsM x).2.1 = 0) ∧ (x.op = 30 → x.a = -1 ∨ (kindsM x).2.1 = 0) := by
  refine ⟨fun h => ?_, fun h => ?_, fun h => ?_, fun h => ?_⟩ <;> simp [kindsM, h]
  by_cases ha : x.a = -1 <;> simp [ha]
theorem field_in {R : List Int} {w r : Int} (h : fieldOk R w r = true) (hw : w = 0) : inR R r = true := by
  subst hw
  simpa [fieldOk] using h
set_option maxHeartbeats 1000000 in
theorem s_right (f : Fn) (x : Ins) (hn : -9223372036854775808 ≤ x.n ∧ x.n < 9223372036854775808) (hs : x.s.length ≤ 9223372036854775807) (hl : (lst x.args).length ≤ 9223372036854775807) :
    (callW E).p 63 [.agg (enc f), .agg (enc x)] = some ⟨.bool (rightM f x), [], true, [], []⟩ := by
  have hk := s_kinds x hn hs
  obtain ⟨q1, q4, q7, q30⟩ := kinds_any x
  rw [x_q23]
  have red : ∀ X : Option (Ex AV), rightM f x = rightM f x → True := fun _ _ => trivial
  have e0 : q23_29 (.agg (enc f)) (.agg (enc x)) [⟨0, .dead⟩, ⟨0, .dead⟩, ⟨0, .dead⟩] =
      if (kindsM x).2.2.2.2 = true then q23_L15 P0 P1 P2 (.agg [.int .i64 x.d, .int .i64 x.a, .int .i64 x.b, .int .i64 x.c]) (.int .i64 0) (HR f x (kindsM x).1 (kindsM x).2.1 (kindsM x).2.2.1 (kindsM x).2.2.2.1) else some ⟨.bool false, [], true, [], []⟩ := by
    unfold exK at hk
    generalize kindsM x = k at *
    obtain ⟨a, b, c, d, o⟩ := k
    simp only at hk ⊢
    cases o with
    | true => simp [q23_29, q23_28, q23_27, q23_25, hk]
    | false => simp [q23_29, q23_28, q23_27, hk]
  rw [e0, rightM]
  cases hok : (kindsM x).2.2.2.2 with
  | false => simp
  | true =>
    simp only [if_true, Bool.true_and]
    have step : ∀ (i : Nat) (w r : Int), i < 4 → [(kindsM x).1, (kindsM x).2.1, (kindsM x).2.2.1, (kindsM x).2.2.2.1][i]? = some w → [x.d, x.a, x.b, x.c][i]? = some r →
        q23_L15 P0 P1 P2 (.agg [.int .i64 x.d, .int .i64 x.a, .int .i64 x.b, .int .i64 x.c]) (.int .i64 i) (HR f x (kindsM x).1 (kindsM x).2.1 (kindsM x).2.2.1 (kindsM x).2.2.2.1) =
        if fieldOk (lst f.regs) w r then q23_L15 P0 P1 P2 (.agg [.int .i64 x.d, .int .i64 x.a, .int .i64 x.b, .int .i64 x.c]) (.int .i64 (i + 1 : Nat)) (HR f x (kindsM x).1 (kindsM x).2.1 (kindsM x).2.2.1 (kindsM x).2.2.2.1) else some ⟨.bool false, [], true, [], []⟩ := by
      intro i w r hi hw hr
      have hc : ((i : Int) < (4 : Int)) := by omega
      have hv : evIxv false 4 1 (.agg [.int .i64 x.d, .int .i64 x.a, .int .i64 x.b, .int .i64 x.c]) (.int .i64 i) = some (.int .i64 r) := by
        match i, hi, hr with
        | 0, _, hr => simp at hr; simp [evIxv, hr]
        | 1, _, hr => simp at hr; simp [evIxv, hr]
        | 2, _, hr => simp at hr; simp [evIxv, hr]
        | 3, _, hr => simp at hr; simp [evIxv, hr]
      have hw2 : IntKind.wrap .i64 ((i : Int) + 1) = ((i + 1 : Nat) : Int) := by rw [wrap_i64] <;> omega
      rw [q23_L15_go]
      simp only [q23_23, q23_22, evBin_lss, ob_some, hc, decide_true, cnd_t]
      simp only [q23_19, hv, ob_some]
      rw [right_field f x _ _ _ _ i w r _ hi hw]
      simp only [q23_16, evBin_add, ob_some, hw2]
    have s0 := step 0 _ _ (by omega) rfl rfl
    have s1 := step 1 _ _ (by omega) rfl rfl
    have s2 := step 2 _ _ (by omega) rfl rfl
    have s3 := step 3 _ _ (by omega) rfl rfl
    simp only [Int.ofNat_zero] at s0
    rw [s0]
    cases f0 : fieldOk (lst f.regs) (kindsM x).1 x.d with
    | false => simp
    | true =>
      simp only [if_true, Bool.true_and]
      rw [s1]
      cases f1 : fieldOk (lst f.regs) (kindsM x).2.1 x.a with
      | false => simp
      | true =>
        simp only [if_true, Bool.true_and]
        rw [s2]
        cases f2 : fieldOk (lst f.regs) (kindsM x).2.2.1 x.b with
        | false => simp
        | true =>
          simp only [if_true, Bool.true_and]
          rw [s3]
          cases f3 : fieldOk (lst f.regs) (kindsM x).2.2.2.1 x.c with
          | false => simp
          | true =>
            simp only [if_true, Bool.true_and]
            have ht := right_tail f x (kindsM x).1 (kindsM x).2.1 (kindsM x).2.2.1 (kindsM x).2.2.2.1 (fun h => field_in f0 (q1 h)) (fun h => ⟨field_in f0 (q4 h).1, field_in f1 (q4 h).2⟩) (fun h => field_in f1 (q7 h)) (fun h => (q30 h).imp id fun h => field_in f1 h)
            rw [← right_args f x _ _ _ _ _ hl ht]
            rw [q23_L15_go]
            simp [q23_23, q23_22]
end Go.Vm
namespace Go.Vm
open Cel
attribute [local simp] callAny callP heapOf_nil
abbrev HC (f : Fn) (o1 o2 : AO) : Heap := [⟨1, .arr true false 5 [enc f]⟩, o1, o2]
abbrev E80 : Option (Ex AV) := some ⟨.int .i64 80, [], true, [], []⟩
abbrev E0 : Option (Ex AV) := some ⟨.int .i64 0, [], true, [], []⟩
theorem Check_rows (f : Fn) (o1 : AO) (n : Int) (hn : n = (lst f.code).length) (hl : (lst f.rows).length ≤ 9223372036854775807) : ∀ (d i : Nat) (o2 : AO), i + d = (lst f.rows).length →
    q14_L2 P0 (.int .i64 n) (slA f.rows) (.int .i64 (lst f.rows).length) (.int .i64 i) (HC f o1 o2) = if ((lst f.rows).drop i).all (rowOk (lst f.code)) then E0 else E80 := by
  intro d
  induction d with
  | zero =>
    intro i o2 hi
    have e1 : (lst f.rows).drop i = [] := List.drop_eq_nil_of_le (by omega)
    have hn : ¬ ((i : Int) < ((lst f.rows).length : Int)) := by omega
    rw [q14_L2_go, e1]
    simp [q14_6, q14_5, q14_1, hn]
  | succ d ih =>
    intro i o2 hi
    have hlt : i < (lst f.rows).length := by omega
    have hc : ((i : Int) < ((lst f.rows).length : Int)) := by omega
    have k1 := ixs_row (o := f.rows) (i := i) (List.getElem?_eq_getElem hlt) .i64
    rw [q14_L2_go]
    have e1 : ((lst f.rows).drop i).all (rowOk (lst f.code)) = (rowOk (lst f.code) (lst f.rows)[i] && ((lst f.rows).drop (i + 1)).all (rowOk (lst f.code))) := by rw [List.drop_eq_getElem_cons hlt, List.all_cons]
    rw [e1]
    generalize hr : (lst f.rows)[i] = r at *
    have ih := fun o2 => ih (i + 1) o2 (by omega)
    push_cast at ih
    subst hn
    simp only [q14_6, q14_5, evBin_lss, ob_some, hc, decide_true, cnd_t]
    by_cases h1 : r.f < 0
    · simp [q14_4, k1, rowOk, h1]
    by_cases h2 : r.t ≤ r.f
    · simp [q14_4, k1, rowOk, h1, h2]
    by_cases h3 : ((lst f.code).length : Int) < r.t
    · simp [q14_4, k1, rowOk, h1, h2, h3]
    by_cases h4 : r.at_ < 0
    · simp [q14_4, k1, rowOk, h1, h2, h3, h4]
    by_cases h5 : ((lst f.code).length : Int) ≤ r.at_
    · simp [q14_4, k1, rowOk, h1, h2, h3, h4, h5]
    · have hx : r.at_.toNat < (lst f.code).length := by omega
      have k2 := ixs_insI (o := f.code) (n := r.at_) (by omega) (List.getElem?_eq_getElem hx) .i64
      have hg : (lst f.code).getD r.at_.toNat default = (lst f.code)[r.at_.toNat] := by rw [List.getD_eq_getElem?_getD, List.getElem?_eq_getElem hx]; rfl
      by_cases h6 : ((lst f.code)[r.at_.toNat]).op = 32
      · simp [q14_4, k1, rowOk, h1, h2, h3, h4, h5, k2, h6, hx, q14_3, wrap_up hlt hl, ih]
      · simp [q14_4, k1, rowOk, h1, h2, h3, h4, h5, k2, h6, hx]
theorem Check_regs (f : Fn) (o1 o2 : AO) (n : Int) (hl : (lst f.regs).length ≤ 9223372036854775807) : ∀ (d i : Nat), i + d = (lst f.regs).length →
    q14_L30 P0 (.int .i64 n) (slA f.regs) (.int .i64 (lst f.regs).length) (.int .i64 i) (HC f o1 o2) = if ((lst f.regs).drop i).all (fun k => decide (1 ≤ k) && decide (k ≤ 3)) then q14_28 P0 (.int .i64 n) (HC f o1 o2) else E80 := by
  intro d
  induction d with
  | zero =>
    intro i hi
    have e1 : (lst f.regs).drop i = [] := List.drop_eq_nil_of_le (by omega)
    have hn : ¬ ((i : Int) < ((lst f.regs).length : Int)) := by omega
    rw [q14_L30_go, e1]
    simp [q14_34, q14_33, hn]
  | succ d ih =>
    intro i hi
    have hlt : i < (lst f.regs).length := by omega
    have hc : ((i : Int) < ((lst f.regs).length : Int)) := by omega
    have k1 := ixs_int (o := f.regs) (i := i) (List.getElem?_eq_getElem hlt) .i64
    have e1 : ((lst f.regs).drop i).all (fun k => decide (1 ≤ k) && decide (k ≤ 3)) = ((decide (1 ≤ (lst f.regs)[i]) && decide ((lst f.regs)[i] ≤ 3)) && ((lst f.regs).drop (i + 1)).all (fun k => decide (1 ≤ k) && decide (k ≤ 3))) := by
      rw [List.drop_eq_getElem_cons hlt, List.all_cons]
    rw [q14_L30_go, e1]
    generalize hr : (lst f.regs)[i] = r at *
    have ih := ih (i + 1) (by omega)
    push_cast at ih
    simp only [q14_34, q14_33, evBin_lss, ob_some, hc, decide_true, cnd_t]
    by_cases h1 : r < 1
    · have : ¬ 1 ≤ r := by omega
      simp [q14_32, k1, h1, this]
    by_cases h2 : 3 < r
    · have : ¬ r ≤ 3 := by omega
      simp [q14_32, k1, h1, h2, this]
    · have a1 : 1 ≤ r := by omega
      have a2 : r ≤ 3 := by omega
      simp [q14_32, k1, h1, h2, a1, a2, q14_31, wrap_up hlt hl, ih]
theorem Check_params (f : Fn) (o1 o2 : AO) (n : Int) (hl : (lst f.params).length ≤ 9223372036854775807) : ∀ (d i : Nat), i + d = (lst f.params).length →
    q14_L22 P0 (.int .i64 n) (slA f.params) (.int .i64 (lst f.params).length) (.int .i64 i) (HC f o1 o2) = if parOk (lst f.regs) i ((lst f.params).take i) ((lst f.params).drop i) then q14_20 P0 (.int .i64 n) (HC f o1 o2) else E80 := by
  intro d
  induction d with
  | zero =>
    intro i hi
    have e1 : (lst f.params).drop i = [] := List.drop_eq_nil_of_le (by omega)
    have hn : ¬ ((i : Int) < ((lst f.params).length : Int)) := by omega
    rw [q14_L22_go, e1]
    simp [q14_26, q14_25, hn, parOk]
  | succ d ih =>
    intro i hi
    have hlt : i < (lst f.params).length := by omega
    have hc : ((i : Int) < ((lst f.params).length : Int)) := by omega
    have k1 := ixs_int (o := f.params) (i := i) (List.getElem?_eq_getElem hlt) .i64
    have ks := slc_to (α := Int) f.params i (by omega) .i64
    simp only [es_int] at ks
    have hlm : lst (f.params.map (List.take i)) = (lst f.params).take i := by cases f.params <;> simp
    have e1 : parOk (lst f.regs) i ((lst f.params).take i) ((lst f.params).drop i) = ((inR (lst f.regs) (lst f.params)[i] && !((lst f.params).take i).contains (lst f.params)[i] && decide (i ≤ 20)) && parOk (lst f.regs) (i + 1) ((lst f.params).take (i + 1)) ((lst f.params).drop (i + 1))) := by
      rw [List.drop_eq_getElem_cons hlt, parOk, List.take_append_getElem]
    rw [q14_L22_go, e1]
    have hct : (callW E).p 46 [slA (f.params.map (List.take i)), .int .i64 (lst f.params)[i]] = some ⟨.bool (((lst f.params).take i).contains (lst f.params)[i]), [], true, [], []⟩ := by
      rw [s_Contains _ _ (by rw [hlm, List.length_take]; omega), hlm]
    generalize hr : (lst f.params)[i] = r at *
    generalize ((lst f.params).take i).contains r = B at *
    have ih := ih (i + 1) (by omega)
    push_cast at ih
    simp only [q14_26, q14_25, evBin_lss, ob_some, hc, decide_true, cnd_t]
    have e20 : ((20 : Int) < (i : Int)) ↔ ¬ i ≤ 20 := by omega
    by_cases h1 : r < 0
    · have : ¬ 0 ≤ r := by omega
      simp [q14_24, k1, inR, h1, this]
    by_cases h2 : ((lst f.regs).length : Int) ≤ r
    · have : ¬ r < ((lst f.regs).length : Int) := by omega
      simp [q14_24, k1, inR, h1, h2, this]
    · have a1 : 0 ≤ r := by omega
      have a2 : r < ((lst f.regs).length : Int) := by omega
      cases B with
      | true => simp [q14_24, k1, inR, h1, h2, a1, a2, ks, hct]
      | false =>
        by_cases h3 : i ≤ 20
        · have h3' : ¬ ((20 : Int) < (i : Int)) := by omega
          simp [q14_24, k1, inR, h1, h2, a1, a2, ks, hct, h3, h3', q14_23, wrap_up hlt hl, ih]
        · have h3' : ((20 : Int) < (i : Int)) := by omega
          simp [q14_24, k1, inR, h1, h2, a1, a2, ks, hct, h3, h3']
theorem tail_leads {R : List Int} {ret : Int} {n : Nat} {x : Ins} (h : tailOk R ret n x = true) (hl : leads x.op = true) : 0 ≤ x.t ∧ x.t < n := by
  have hne : ¬ x.op = 1 ∧ ¬ x.op = 4 ∧ ¬ x.op = 7 ∧ ¬ x.op = 30 := by
    simp only [leads, Bool.or_eq_true, decide_eq_true_eq] at hl
    omega
  simp only [tailOk, hne, if_false, hl, Bool.not_true, Bool.false_or, Bool.and_eq_true, decide_eq_true_eq] at h
  exact h
theorem right_leads {f : Fn} {x : Ins} (h : rightM f x = true) (hl : leads x.op = true) : 0 ≤ x.t ∧ x.t < (lst f.code).length := by
  simp only [rightM, Bool.and_eq_true] at h
  exact tail_leads h.2 hl
structure InsFit (x : Ins) : Prop where
  n : -9223372036854775808 ≤ x.n ∧ x.n < 9223372036854775808
  s : x.s.length ≤ 9223372036854775807
  a : (lst x.args).length ≤ 9223372036854775807
theorem Check_spot (f : Fn) (o2 : AO) (n : Int) (x : Ins) (i g : Nat) (v92 v93 v94 : AV) (hi : i < (lst f.code).length) (hl : (lst f.code).length ≤ 9223372036854775807) (ht : leads x.op = true → 0 ≤ x.t ∧ x.t < (lst f.code).length) :
    q14_12 P0 (.int .i64 n) (.int .i64 i) (.lp 1 g 0 0) v92 v93 v94 (HC f ⟨g, .arr true false 9 [enc x]⟩ o2) =
      if spotOk (lst f.code) i x then q14_11 P0 (.int .i64 n) v92 v93 v94 (HC f ⟨g, .arr true false 9 [enc x]⟩ o2) else E80 := by
  by_cases h32 : x.op = 32
  · have hld : leads x.op = false := by simp [leads, h32]
    by_cases h0 : i = 0
    · subst h0
      simp [q14_12, h32, spotOk]
    · have h0' : ¬ ((i : Int) = 0) := by omega
      have hp : i - 1 < (lst f.code).length := by omega
      have k1 := ixs_ins (o := f.code) (i := i - 1) (List.getElem?_eq_getElem hp) .i64
      have hw : IntKind.wrap .i64 ((i : Int) - 1) = ((i - 1 : Nat) : Int) := by rw [wrap_i64] <;> omega
      have hg : (lst f.code).getD (i - 1) default = (lst f.code)[i - 1] := by rw [List.getD_eq_getElem?_getD, List.getElem?_eq_getElem hp]; rfl
      have hld32 : leads 32 = false := by simp [leads]
      cases he : ends ((lst f.code)[i - 1]).op with
      | true => simp [q14_12, h32, spotOk, h0, h0', hw, k1, hp, he, hld32]
      | false => simp [q14_12, h32, spotOk, h0, h0', hw, k1, hp, he]
  · cases hld : leads x.op with
    | false => simp [q14_12, h32, spotOk, hld]
    | true =>
      obtain ⟨t0, t1⟩ := ht hld
      have hx : x.t.toNat < (lst f.code).length := by omega
      have k2 := ixs_insI (o := f.code) (n := x.t) t0 (List.getElem?_eq_getElem hx) .i64
      by_cases h6 : ((lst f.code)[x.t.toNat]).op = 32
      · simp [q14_12, h32, spotOk, hld, k2, h6, hx]
      · simp [q14_12, h32, spotOk, hld, k2, h6, hx]
theorem Check_code (f : Fn) (o2 : AO) (n : Int) (hfit : ∀ x ∈ lst f.code, InsFit x) (hl : (lst f.code).length ≤ 9223372036854775807) : ∀ (d i : Nat) (o1 : AO), i + d = (lst f.code).length →
    ∃ o1', q14_L10 P0 (.int .i64 n) (slA f.code) (.int .i64 (lst f.code).length) (.int .i64 i) (HC f o1 o2) = if codeOk f (lst f.code) i ((lst f.code).drop i) then q14_8 P0 (.int .i64 n) (HC f o1' o2) else E80 := by
  intro d
  induction d with
  | zero =>
    intro i o1 hi
    have e1 : (lst f.code).drop i = [] := List.drop_eq_nil_of_le (by omega)
    have hn : ¬ ((i : Int) < ((lst f.code).length : Int)) := by omega
    rw [q14_L10_go, e1]
    exact ⟨o1, by simp [q14_18, q14_17, hn, codeOk]⟩
  | succ d ih =>
    intro i o1 hi
    have hlt : i < (lst f.code).length := by omega
    have hc : ((i : Int) < ((lst f.code).length : Int)) := by omega
    have k1 := ixs_ins (o := f.code) (i := i) (List.getElem?_eq_getElem hlt) .i64
    have e1 : codeOk f (lst f.code) i ((lst f.code).drop i) = (rightM f (lst f.code)[i] && spotOk (lst f.code) i (lst f.code)[i] && codeOk f (lst f.code) (i + 1) ((lst f.code).drop (i + 1))) := by
      rw [List.drop_eq_getElem_cons hlt, codeOk]
    have fit := hfit _ (List.getElem_mem hlt)
    rw [q14_L10_go, e1]
    generalize hx : (lst f.code)[i] = x at *
    have hr := s_right f x fit.n fit.s fit.a
    simp only [q14_18, q14_17, evBin_lss, ob_some, hc, decide_true, cnd_t]
    cases hok : rightM f x with
    | false =>
      rw [hok] at hr
      exact ⟨o1, by simp [q14_14, q14_13, k1, hr]⟩
    | true =>
      rw [hok] at hr
      have e13 : ∀ K : Option (Ex AV), q14_14 P0 (.int .i64 n) (slA f.code) (.int .i64 (lst f.code).length) (.int .i64 i) (HC f o1 o2) = q14_12 P0 (.int .i64 n) (.int .i64 i) (.lp 1 (o1.gen + 1) 0 0) (slA f.code) (.int .i64 (lst f.code).length) (.int .i64 i) (HC f ⟨o1.gen + 1, .arr true false 9 [enc x]⟩ o2) := by
        intro _
        simp [q14_14, q14_13, k1, hr]
      rw [e13 none]
      rw [Check_spot f o2 n x i _ _ _ _ hlt hl (fun h => right_leads hok h)]
      cases hs : spotOk (lst f.code) i x with
      | false => exact ⟨o1, by simp⟩
      | true =>
        obtain ⟨o1', ih⟩ := ih (i + 1) ⟨o1.gen + 1, .arr true false 9 [enc x]⟩ (by omega)
        push_cast at ih
        exact ⟨o1', by simp [q14_11, wrap_up hlt hl, ih]⟩
structure FnFit (f : Fn) : Prop where
  ins : ∀ x ∈ lst f.code, InsFit x
  code : (lst f.code).length ≤ 9223372036854775807
  regs : (lst f.regs).length ≤ 9223372036854775807
  params : (lst f.params).length ≤ 9223372036854775807
  rows : (lst f.rows).length ≤ 9223372036854775807
theorem Check_all (f : Fn) (hf : FnFit f) (o1 o2 : AO) (n : Int) (hn : n = (lst f.code).length) :
    q14_36 P0 (.int .i64 n) (HC f o1 o2) = if (lst f.regs).all (fun k => decide (1 ≤ k) && decide (k ≤ 3)) && parOk (lst f.regs) 0 [] (lst f.params) && codeOk f (lst f.code) 0 (lst f.code) && (lst f.rows).all (rowOk (lst f.code)) then E0 else E80 := by
  have a1 := Check_regs f o1 o2 n hf.regs _ 0 (Nat.zero_add _)
  have a2 := Check_params f o1 o2 n hf.params _ 0 (Nat.zero_add _)
  obtain ⟨o1', a3⟩ := Check_code f o2 n hf.ins hf.code _ 0 o1 (Nat.zero_add _)
  have a4 := Check_rows f o1' n hn hf.rows _ 0 o2 (Nat.zero_add _)
  simp only [Int.ofNat_zero, List.drop_zero, List.take_zero] at a1 a2 a3 a4
  have e1 : q14_36 P0 (.int .i64 n) (HC f o1 o2) = q14_L30 P0 (.int .i64 n) (slA f.regs) (.int .i64 (lst f.regs).length) (.int .i64 0) (HC f o1 o2) := by simp [q14_36]
  have e2 : q14_28 P0 (.int .i64 n) (HC f o1 o2) = q14_L22 P0 (.int .i64 n) (slA f.params) (.int .i64 (lst f.params).length) (.int .i64 0) (HC f o1 o2) := by simp [q14_28]
  have e3 : q14_20 P0 (.int .i64 n) (HC f o1 o2) = q14_L10 P0 (.int .i64 n) (slA f.code) (.int .i64 (lst f.code).length) (.int .i64 0) (HC f o1 o2) := by simp [q14_20]
  have e4 : q14_8 P0 (.int .i64 n) (HC f o1' o2) = q14_L2 P0 (.int .i64 n) (slA f.rows) (.int .i64 (lst f.rows).length) (.int .i64 0) (HC f o1' o2) := by simp [q14_8]
  rw [e1, a1, e2, a2, e3, a3, e4, a4]
  generalize (lst f.regs).all (fun k => decide (1 ≤ k) && decide (k ≤ 3)) = b1
  generalize parOk (lst f.regs) 0 [] (lst f.params) = b2
  generalize codeOk f (lst f.code) 0 (lst f.code) = b3
  generalize (lst f.rows).all (rowOk (lst f.code)) = b4
  cases b1 <;> cases b2 <;> cases b3 <;> cases b4 <;> rfl
set_option maxHeartbeats 1000000 in
theorem s_Check (f : Fn) (hf : FnFit f) : (callW E).p 8 [.agg (enc f)] = some ⟨.int .i64 (if wf f then 0 else 80), [], true, [], []⟩ := by
  rw [x_q14]
  have hall := Check_all f hf ⟨0, .dead⟩ ⟨0, .dead⟩ _ rfl
  by_cases h1 : (lst f.code).length < 1
  · have h1' : ((lst f.code).length : Int) < 1 := by omega
    have : ¬ 1 ≤ (lst f.code).length := by omega
    simp [q14_40, q14_39, q14_38, h1', wf, this]
  have h1' : ¬ ((lst f.code).length : Int) < 1 := by omega
  have g1 : 1 ≤ (lst f.code).length := by omega
  by_cases h2 : 20000 < (lst f.code).length
  · have h2' : (20000 : Int) < ((lst f.code).length : Int) := by omega
    have : ¬ (lst f.code).length ≤ 20000 := by omega
    simp [q14_40, q14_39, q14_38, h1', h2', wf, this]
  have h2' : ¬ (20000 : Int) < ((lst f.code).length : Int) := by omega
  have g2 : (lst f.code).length ≤ 20000 := by omega
  by_cases h3 : 20000 < (lst f.regs).length
  · have h3' : (20000 : Int) < ((lst f.regs).length : Int) := by omega
    have : ¬ (lst f.regs).length ≤ 20000 := by omega
    simp [q14_40, q14_39, q14_38, h1', h2', h3', wf, this]
  have h3' : ¬ (20000 : Int) < ((lst f.regs).length : Int) := by omega
  have g3 : (lst f.regs).length ≤ 20000 := by omega
  by_cases h4 : f.ret < 0
  · have : ¬ 0 ≤ f.ret := by omega
    simp [q14_40, q14_39, q14_38, h1', h2', h3', h4, wf, this]
  have g4 : 0 ≤ f.ret := by omega
  by_cases h5 : 3 < f.ret
  · have : ¬ f.ret ≤ 3 := by omega
    simp [q14_40, q14_39, q14_38, h1', h2', h3', h4, h5, wf, this]
  have g5 : f.ret ≤ 3 := by omega
  have hp : (lst f.code).length - 1 < (lst f.code).length := by omega
  have k1 := ixs_ins (o := f.code) (i := (lst f.code).length - 1) (List.getElem?_eq_getElem hp) .i64
  have hw : IntKind.wrap .i64 (((lst f.code).length : Int) - 1) = (((lst f.code).length - 1 : Nat) : Int) := by rw [wrap_i64] <;> omega
  have hg : (lst f.code).getD ((lst f.code).length - 1) default = (lst f.code)[(lst f.code).length - 1] := by rw [List.getD_eq_getElem?_getD, List.getElem?_eq_getElem hp]; rfl
  cases he : ends ((lst f.code)[(lst f.code).length - 1]).op with
  | false =>
    have hwf : wf f = false := by rw [wf, hg, he]; simp
    rw [hwf]
    simp [q14_40, q14_39, q14_38, h1', h2', h3', h4, h5, hw, k1, he]
  | true =>
    have hwf : wf f = ((lst f.regs).all (fun k => decide (1 ≤ k) && decide (k ≤ 3)) && parOk (lst f.regs) 0 [] (lst f.params) && codeOk f (lst f.code) 0 (lst f.code) && (lst f.rows).all (rowOk (lst f.code))) := by
      rw [wf, hg, he]
      simp only [g1, g2, g3, g4, g5, decide_true, Bool.true_and]
    have e : q14_40 (.agg (enc f)) [⟨0, .dead⟩, ⟨0, .dead⟩, ⟨0, .dead⟩] = q14_36 P0 (.int .i64 (lst f.code).length) (HC f ⟨0, .dead⟩ ⟨0, .dead⟩) := by
      simp [q14_40, q14_39, q14_38, h1', h2', h3', h4, h5, hw, k1, he]
    rw [e, hall, hwf]
    split <;> rfl
end Go.Vm
