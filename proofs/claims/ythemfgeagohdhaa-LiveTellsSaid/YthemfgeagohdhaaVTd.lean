/- live: what outlives an instruction. live.Of: how the table is made. live.Of: one round of the loop that makes the table. live.Of: what it answers. What 'kinds' answers. What 'other' answers; all of 'kinds'. Whether one instruction is well formed: 'right'. 'right', whole. Whether a function is well formed: 'Check': its lists of registers, parameters, rows. live.Of: what it answers. What live's table tells is what the document tells. What the document says that the stack's instructions over numbers take and give. The document's answers for names and types: the program's own. The document's answer whether a call, an instruction is well formed. -/
import Derived.Test.YthemfgeagohdhaaVX
import Derived.Test.YthemfgeagohdhaaVTc
set_option linter.unusedSimpArgs false
set_option linter.unusedVariables false
set_option linter.unusedSectionVars false
namespace Go.Vm
open Cel
def acrM (f : Fn) (t : Tb) (i r : Int) : Bool := decide (0 ≤ i) && decide (i < (lst f.code).length) && (atM (lst f.regs).length t.h i r || (atM (lst f.regs).length t.a i r && decide (defr (insAt f i.toNat) ≠ r)))
theorem s_Across (f : Fn) (t : Tb) (hR : (lst f.regs).length ≤ 20000) (ok : TbOk (lst f.code).length ((lst f.regs).length / 64 + 1) t) (i r : Int) : (callW E).p 88 [tv t (lst f.regs).length, .agg (enc f), .int .i64 i, .int .i64 r] = some ⟨.bool (acrM f t i r), [], true, [], []⟩ := by
  rw [x_q36]
  have ca := fun H => at_call t hR t.a (fun i hi => ok.aw i (by rw [← ok.a]; exact hi)) i r H
  have ch := fun H => at_call t hR t.h (fun i hi => ok.hw i (by rw [← ok.h]; exact hi)) i r H
  have hE : evEqnB 0 false (tv t (lst f.regs).length) .nilp = some (.bool false) := rfl
  have nc : evNilchk (tv t (lst f.regs).length) = some (tv t (lst f.regs).length) := rfl
  have f1 : evFa 1 (tv t (lst f.regs).length) = some (.rp [slA (some t.a), slA (some t.h), .int .i64 (lst f.regs).length]) := rfl
  have f2 : evFa 2 (tv t (lst f.regs).length) = some (.rp [slA (some t.h), .int .i64 (lst f.regs).length]) := rfl
  have fa : ∀ H : Heap, evLd false 1 (.rp [slA (some t.a), slA (some t.h), .int .i64 (lst f.regs).length]) H = some (slA (some t.a)) := fun H => rfl
  have fh : ∀ H : Heap, evLd false 1 (.rp [slA (some t.h), .int .i64 (lst f.regs).length]) H = some (slA (some t.h)) := fun H => rfl
  have n0 : newC 0 (some 0) (cellsOf (.agg (enc f))) [D0] = some (.lp 0 1 0 0, [AB f]) := by simp
  have l3 : ∀ t : Heap, evLd false 1 (.lp 0 1 0 3) (AB f :: t) = some (slA f.code) := fun t => by simp
  have le : ∀ H, evLen 1 (slA (some t.a)) H = some (.int .i64 (lst f.code).length) := fun H => by
    have := evLen_sl (some t.a) H
    rw [lst_some, ok.a] at this
    exact this
  unfold acrM
  by_cases h1 : i < 0
  · have h1' : ¬ 0 ≤ i := by omega
    simp only [q36_1, q36_2, q36_3, n0, oh_some, hE, ob_some, gb_ff, evBin_lss, h1, decide_true, evPick_f, gb_tf, evPick_t, cnd_t, expo1_bool', h1', decide_false, Bool.false_and]
  have h1' : 0 ≤ i := by omega
  by_cases h2 : ((lst f.code).length : Int) ≤ i
  · have h2' : ¬ i < ((lst f.code).length : Int) := by omega
    simp only [q36_1, q36_2, q36_3, n0, oh_some, hE, ob_some, gb_ff, evBin_lss, h1, decide_false, evPick_f, evFa_lp, Nat.zero_add, l3, evLen_sl, evBin_geq, h2, decide_true, gb_tf, evPick_t, cnd_t, expo1_bool', h2', Bool.and_false, Bool.false_and]
  have h2' : i < ((lst f.code).length : Int) := by omega
  have kx := ixs_insI (o := f.code) h1' (insAt_lt (by omega)) .i64
  have lx : ∀ t : Heap, evLd true 9 (.rp (enc (insAt f i.toNat))) t = some (.agg (enc (insAt f i.toNat))) := fun t => by simp
  have hax : ∀ H : Heap, fzList (fz H fuelF) [.agg (enc (insAt f i.toNat))] = some ⟨[.agg (enc (insAt f i.toNat))], scal (insAt f i.toNat) && true, []⟩ := fun H => by
    rw [fzList_cons, fz_enc, fzList_nil]; rfl
  have cD : ∀ H, callAny E (callW E) 0 none true 9 [.agg (enc (insAt f i.toNat))] H = some (.int .i64 (defr (insAt f i.toNat)), H) := fun H => call_reads rfl (hax H) rfl (s_Def _) ⟨_, rfl, rfl⟩
  cases hh : atM (lst f.regs).length t.h i r with
  | true =>
    rw [hh] at ch
    simp only [q36_1, q36_2, q36_3, n0, oh_some, hE, ob_some, gb_ff, evBin_lss, h1, decide_false, evPick_f, evFa_lp, Nat.zero_add, l3, evLen_sl, evBin_geq, h2, nc, f1, fa, le, cnd_f, f2, fh, ch, gb_tf, gh_tf, gb_tup, gh_tup, evPick_t, expo1_bool', h1', h2', decide_true, Bool.true_and, Bool.true_or]
  | false =>
    rw [hh] at ch
    cases ha : atM (lst f.regs).length t.a i r with
    | true =>
      rw [ha] at ca
      simp only [q36_1, q36_2, q36_3, n0, oh_some, hE, ob_some, gb_ff, gh_ff, evBin_lss, h1, decide_false, evPick_f, evFa_lp, Nat.zero_add, l3, evLen_sl, evBin_geq, h2, nc, f1, fa, le, cnd_f, f2, fh, ch, ca, gb_tt, gh_tt, kx, lx, cD, evBin_neq, evPick_t, expo1_bool', h1', h2', decide_true, Bool.true_and, Bool.false_or]
    | false =>
      rw [ha] at ca
      simp only [q36_1, q36_2, q36_3, n0, oh_some, hE, ob_some, gb_ff, gh_ff, evBin_lss, h1, decide_false, evPick_f, evFa_lp, Nat.zero_add, l3, evLen_sl, evBin_geq, h2, nc, f1, fa, le, cnd_f, f2, fh, ch, ca, gb_ft, gh_ft, evPick_t, expo1_bool', h1', h2', decide_true, Bool.true_and, Bool.false_or, Bool.false_and]
end Go.Vm
namespace Go.Vm
open Cel
theorem part_mk {Hc : Heap} {B j W : Nat} (d0 : Hc[B + j]? = some ⟨0, .dead⟩) (hW : W ≤ 1000000) :
    mkSC B (some j) 1 8 [.int .u64 0] (.int .i64 W) (.int .i64 W) Hc = some (.ls (B + j) 1 1 0 W, Hc.set (B + j) (AW 1 (noneW W))) := by
  simp [mkSC, newArr, place, d0]
  refine ⟨by omega, ?_⟩
  show Hc.set (B + j) ⟨_, .arr false false 1 _⟩ = Hc.set (B + j) ⟨_, .arr false false 1 ((List.replicate W (0 : BitVec 64)).map enc)⟩
  rw [List.map_replicate]
  rfl
theorem part_one {Hc : Heap} {B j : Nat} {v : AV} (hv : leaf1 v = true) (hc : cellsOf v = [v]) (d0 : Hc[B + j]? = some ⟨0, .dead⟩) :
    buildSC B (some j) 1 1 [.nils] [(0, v)] Hc = some (.ls (B + j) 1 1 0 1, Hc.set (B + j) ⟨1, .arr false false 1 [[v]]⟩) := by
  simp [buildSC, fillRows, newArr, place, d0, hc, hv]
def nP (B j m : Nat) (p : Nat → Nat × Nat) (i : Nat) : Nat × Nat := if i = m then (B + j, 1) else p i
def rws (W m : Nat) (p : Nat → Nat × Nat) : List (List AV) := (List.range m).map fun i => [.ls (p i).1 (p i).2 1 0 W]
theorem rws_succ (W m B j : Nat) (p : Nat → Nat × Nat) : rws W (m + 1) (nP B j m p) = rws W m p ++ [[.ls (B + j) 1 1 0 W]] := by
  unfold rws
  rw [List.range_succ, List.map_append]
  congr 1
  · refine List.map_congr_left fun i hi => ?_
    rw [List.mem_range] at hi
    simp only [nP, if_neg (show ¬ i = m by omega)]
  · simp [nP]
theorem part_app0 {Hc : Heap} {B j id W : Nat} {r : List AV} (h1 : Hc[id]? = some ⟨1, .arr false false 1 [r]⟩) (d : Hc[B + j]? = some ⟨0, .dead⟩) :
    evApp B (some j) 1 24 .nils (.ls id 1 1 0 1) Hc = some (.ls (B + j) 1 1 0 1, Hc.set (B + j) ⟨1, .arr false false 1 [r]⟩) := by
  have hy : rowsOf Hc 1 (.ls id 1 1 0 1) = some [r] := by simp [rowsOf, rowsAt, objAt, h1]
  unfold evApp
  rw [hy]
  simp [newArr, place, d]
theorem part_app {Hc : Heap} {B j id qa qg m : Nat} {rows : List (List AV)} {r : List AV} (h1 : Hc[id]? = some ⟨1, .arr false false 1 [r]⟩) (hq : Hc[qa]? = some ⟨qg, .arr false false 1 rows⟩) (hm : rows.length = m) (hl : m ≤ 1000000) :
    evApp B (some j) 1 24 (.ls qa qg 1 0 m) (.ls id 1 1 0 1) Hc = some (.ls qa (qg + 1) 1 0 (m + 1), Hc.set qa ⟨qg + 1, .arr false false 1 (rows ++ [r])⟩) := by
  have hy : rowsOf Hc 1 (.ls id 1 1 0 1) = some [r] := by simp [rowsOf, rowsAt, objAt, h1]
  unfold evApp
  rw [hy]
  simp only [hq]
  rw [if_pos ⟨trivial, trivial, trivial, by omega, by simp only [List.length_singleton]; omega⟩]
  simp only [List.drop_zero, List.length_singleton]
  rw [List.take_of_length_le (by omega)]
def fv (Q : Arr) (k m : Nat) : AV := if m = 0 then .nils else .ls (Q k).1 (Q k).2 1 0 m
structure BRep (f : Fn) (P : Plc) (Q : Arr) (H : Heap) (m : Nat) : Prop where
  box : H[0]? = some (AB f)
  tb : H[1]? = some ⟨1, .arr true false 4 [[fv Q 0 m, fv Q 1 m, fv Q 2 m, .int .i64 (lst f.regs).length]]⟩
  arr : 0 < m → ∀ k, k < 3 → H[(Q k).1]? = some ⟨(Q k).2, .arr false false 1 (rws ((lst f.regs).length / 64 + 1) m (P k))⟩
  row : ∀ k, k < 3 → ∀ i, i < m → H[(P k i).1]? = some (AW (P k i).2 (noneW ((lst f.regs).length / 64 + 1)))
  inj : ∀ k k' i i', k < 3 → k' < 3 → i < m → i' < m → (P k i).1 = (P k' i').1 → k = k' ∧ i = i'
  off : ∀ k k' i, k < 3 → k' < 3 → i < m → (P k i).1 ≠ (Q k').1
  farP : ∀ k i, k < 3 → i < m → 3 ≤ (P k i).1
  farQ : 0 < m → ∀ k, k < 3 → 3 ≤ (Q k).1
  injQ : 0 < m → ∀ k k', k < 3 → k' < 3 → (Q k).1 = (Q k').1 → k = k'
  size : 3 ≤ H.length
theorem BRep.done {f : Fn} {P : Plc} {Q : Arr} {H : Heap} (R : BRep f P Q H (lst f.code).length) (hn : 1 ≤ (lst f.code).length) : LvRep f P Q H (tb0 f) := by
  have hz : ¬ (lst f.code).length = 0 := by omega
  have ht := R.tb
  simp only [fv, if_neg hz] at ht
  refine ⟨R.box, ht, R.arr (by omega), fun k hk i hi => ?_, R.inj, R.off, R.farP, R.farQ (by omega), R.injQ (by omega), R.size, tb0_ok⟩
  have : rowW (tk (tb0 f) k) i = noneW ((lst f.regs).length / 64 + 1) := by
    match k, hk with
    | 0, _ => exact row_rep hi
    | 1, _ => exact row_rep hi
    | 2, _ => exact row_rep hi
  rw [this]
  exact R.row k hk i hi
end Go.Vm
namespace Go.Vm
open Cel
theorem st_fld {H : Heap} {a b c d v : AV} (h : H[1]? = some ⟨1, .arr true false 4 [[a, b, c, d]]⟩) (hv : cellsOf v = [v]) (hl : leaf1 v = true) :
    evSt 1 (.lp 1 1 0 0) v H = some (.tup [], H.set 1 ⟨1, .arr true false 4 [[v, b, c, d]]⟩) ∧ evSt 1 (.lp 1 1 0 1) v H = some (.tup [], H.set 1 ⟨1, .arr true false 4 [[a, v, c, d]]⟩) ∧ evSt 1 (.lp 1 1 0 2) v H = some (.tup [], H.set 1 ⟨1, .arr true false 4 [[a, b, v, d]]⟩) := by
  have hr : rowsAt H 1 1 = some (false, 4, [[a, b, c, d]]) := by simp [rowsAt, objAt, h]
  refine ⟨?_, ?_, ?_⟩ <;> (rw [evSt_lp, hr]; simp [hv, hl, spliceAt, setRows, h])
theorem ld_fld {H : Heap} {a b c d : AV} (h : H[1]? = some ⟨1, .arr true false 4 [[a, b, c, d]]⟩) : evLd false 1 (.lp 1 1 0 0) H = some a ∧ evLd false 1 (.lp 1 1 0 1) H = some b ∧ evLd false 1 (.lp 1 1 0 2) H = some c := by
  have hr : rowsAt H 1 1 = some (false, 4, [[a, b, c, d]]) := by simp [rowsAt, objAt, h]
  refine ⟨?_, ?_, ?_⟩ <;> (rw [evLd_lp, hr]; rfl)
set_option maxHeartbeats 4000000 in
theorem round {f : Fn} {P : Plc} {Q : Arr} {H : Heap} {m : Nat} (R : BRep f P Q H m) (hm : 0 < m) (hl : m ≤ 1000000) (hR : (lst f.regs).length ≤ 1000000) (v32 v33 : AV) :
    ∃ H' P' Q', q35_46 (.lp 0 1 0 0) (.int .i64 (lst f.code).length) (.int .i64 (((lst f.regs).length / 64 + 1 : Nat) : Int)) (.lp 1 1 0 0) v32 v33 H = q35_45 (.lp 0 1 0 0) (.int .i64 (lst f.code).length) (.int .i64 (((lst f.regs).length / 64 + 1 : Nat) : Int)) (.lp 1 1 0 0) v32 v33 H' ∧ BRep f P' Q' H' (m + 1) := by
  simp only [q35_46]
  have hz : ¬ m = 0 := by omega
  have nc : ∀ a b c d, evNilchk (.lp a b c d) = some (.lp a b c d) := fun _ _ _ _ => rfl
  have hW : (lst f.regs).length / 64 + 1 ≤ 1000000 := by omega
  generalize hWW : (lst f.regs).length / 64 + 1 = W at *
  have tb := R.tb
  simp only [fv, if_neg hz] at tb
  have a0 := R.arr hm 0 (by omega)
  have a1 := R.arr hm 1 (by omega)
  have a2 := R.arr hm 2 (by omega)
  rw [hWW] at a0 a1 a2
  have b0 := get_lt a0
  have b1 := get_lt a1
  have b2 := get_lt a2
  have f0 := R.farQ hm 0 (by omega)
  have f1 := R.farQ hm 1 (by omega)
  have f2 := R.farQ hm 2 (by omega)
  have n01 : ¬ (Q 0).1 = (Q 1).1 := fun e => by have := R.injQ hm 0 1 (by omega) (by omega) e; omega
  have n02 : ¬ (Q 0).1 = (Q 2).1 := fun e => by have := R.injQ hm 0 2 (by omega) (by omega) e; omega
  have n12 : ¬ (Q 1).1 = (Q 2).1 := fun e => by have := R.injQ hm 1 2 (by omega) (by omega) e; omega
  have hB := R.size
  have hd : ∀ j, j < 9 → (H ++ deadSlots 9)[H.length + j]? = some ⟨0, .dead⟩ := fun j hj => ga_ge hj
  have ho : ∀ b, b < H.length → (H ++ deadSlots 9)[b]? = H[b]? := fun b hb => ga_lt hb
  have hlen : (H ++ deadSlots 9).length = H.length + 9 := by simp [deadSlots]
  have rl : ∀ p, (rws W m p).length = m := fun p => by simp [rws]
  have row := R.row
  have box := R.box
  generalize hBB : H.length = B at *
  generalize H ++ deadSlots 9 = A0 at *
  have t0 : A0[1]? = some ⟨1, .arr true false 4 [[.ls (Q 0).1 (Q 0).2 1 0 m, .ls (Q 1).1 (Q 1).2 1 0 m, .ls (Q 2).1 (Q 2).2 1 0 m, .int .i64 (lst f.regs).length]]⟩ := by rw [ho 1 (by omega)]; exact tb
  have l0 := (ld_fld t0).1
  -- first list
  have m0 := part_mk (Hc := A0) (B := B) (j := 0) (W := W) (hd 0 (by omega)) hW
  generalize hA1 : A0.set (B + 0) (AW 1 (noneW W)) = A1 at *
  have o0 := part_one (Hc := A1) (B := B) (j := 1) (v := .ls (B + 0) 1 1 0 W) rfl rfl (by rw [← hA1, gs_ne (by omega)]; exact hd 1 (by omega))
  generalize hA2 : A1.set (B + 1) ⟨1, .arr false false 1 [[.ls (B + 0) 1 1 0 W]]⟩ = A2 at *
  have p0 := part_app (Hc := A2) (B := B) (j := 2) (id := B + 1) (m := m) (qa := (Q 0).1) (qg := (Q 0).2) (rows := rws W m (P 0)) (by rw [← hA2, gs_eq (by rw [← hA1, List.length_set]; omega)]) (by rw [← hA2, ← hA1, gs_ne (by omega), gs_ne (by omega), ho _ b0]; exact a0) (rl _) hl
  rw [← rws_succ] at p0
  generalize hA3 : A2.set (Q 0).1 ⟨(Q 0).2 + 1, .arr false false 1 (rws W (m + 1) (nP B 0 m (P 0)))⟩ = A3 at *
  have t3 : A3[1]? = A0[1]? := by rw [← hA3, ← hA2, ← hA1]; repeat rw [gs_ne (by omega)]
  rw [t0] at t3
  have l1 := (ld_fld t3).2.1
  -- second list
  have d3 : ∀ j, 2 < j → j < 9 → A3[B + j]? = some ⟨0, .dead⟩ := fun j h1 h2 => by
    rw [← hA3, ← hA2, ← hA1]; repeat rw [gs_ne (by omega)]
    exact hd j h2
  have q3 : ∀ b, b < B → b ≠ (Q 0).1 → A3[b]? = H[b]? := fun b hb hne => by
    rw [← hA3, ← hA2, ← hA1]; repeat rw [gs_ne (by omega)]
    exact ho b hb
  have g3 : A3.length = B + 9 := by rw [← hA3, ← hA2, ← hA1]; simp only [List.length_set]; exact hlen
  have m1 := part_mk (Hc := A3) (B := B) (j := 3) (W := W) (d3 3 (by omega) (by omega)) hW
  generalize hA4 : A3.set (B + 3) (AW 1 (noneW W)) = A4 at *
  have o1 := part_one (Hc := A4) (B := B) (j := 4) (v := .ls (B + 3) 1 1 0 W) rfl rfl (by rw [← hA4, gs_ne (by omega)]; exact d3 4 (by omega) (by omega))
  generalize hA5 : A4.set (B + 4) ⟨1, .arr false false 1 [[.ls (B + 3) 1 1 0 W]]⟩ = A5 at *
  have p1 := part_app (Hc := A5) (B := B) (j := 5) (id := B + 4) (m := m) (qa := (Q 1).1) (qg := (Q 1).2) (rows := rws W m (P 1)) (by rw [← hA5, gs_eq (by rw [← hA4, List.length_set]; omega)]) (by rw [← hA5, ← hA4, gs_ne (by omega), gs_ne (by omega), q3 _ b1 (fun e => n01 e.symm)]; exact a1) (rl _) hl
  rw [← rws_succ] at p1
  generalize hA6 : A5.set (Q 1).1 ⟨(Q 1).2 + 1, .arr false false 1 (rws W (m + 1) (nP B 3 m (P 1)))⟩ = A6 at *
  have t6 : A6[1]? = A3[1]? := by rw [← hA6, ← hA5, ← hA4]; repeat rw [gs_ne (by omega)]
  rw [t3] at t6
  have l2 := (ld_fld t6).2.2
  have d6 : ∀ j, 5 < j → j < 9 → A6[B + j]? = some ⟨0, .dead⟩ := fun j h1 h2 => by
    rw [← hA6, ← hA5, ← hA4]; repeat rw [gs_ne (by omega)]
    exact d3 j (by omega) h2
  have q6 : ∀ b, b < B → b ≠ (Q 0).1 → b ≠ (Q 1).1 → A6[b]? = H[b]? := fun b hb hne hne2 => by
    rw [← hA6, ← hA5, ← hA4]; repeat rw [gs_ne (by omega)]
    exact q3 b hb hne
  have g6 : A6.length = B + 9 := by rw [← hA6, ← hA5, ← hA4]; simp only [List.length_set]; exact g3
  have m2 := part_mk (Hc := A6) (B := B) (j := 6) (W := W) (d6 6 (by omega) (by omega)) hW
  generalize hA7 : A6.set (B + 6) (AW 1 (noneW W)) = A7 at *
  have o2 := part_one (Hc := A7) (B := B) (j := 7) (v := .ls (B + 6) 1 1 0 W) rfl rfl (by rw [← hA7, gs_ne (by omega)]; exact d6 7 (by omega) (by omega))
  generalize hA8 : A7.set (B + 7) ⟨1, .arr false false 1 [[.ls (B + 6) 1 1 0 W]]⟩ = A8 at *
  have p2 := part_app (Hc := A8) (B := B) (j := 8) (id := B + 7) (m := m) (qa := (Q 2).1) (qg := (Q 2).2) (rows := rws W m (P 2)) (by rw [← hA8, gs_eq (by rw [← hA7, List.length_set]; omega)]) (by rw [← hA8, ← hA7, gs_ne (by omega), gs_ne (by omega), q6 _ b2 (fun e => n02 e.symm) (fun e => n12 e.symm)]; exact a2) (rl _) hl
  rw [← rws_succ] at p2
  generalize hA9 : A8.set (Q 2).1 ⟨(Q 2).2 + 1, .arr false false 1 (rws W (m + 1) (nP B 6 m (P 2)))⟩ = A9 at *
  have t9 : A9[1]? = A6[1]? := by rw [← hA9, ← hA8, ← hA7]; repeat rw [gs_ne (by omega)]
  rw [t6] at t9
  have g9 : A9.length = B + 9 := by rw [← hA9, ← hA8, ← hA7]; simp only [List.length_set]; exact g6
  have x0 := (st_fld (v := .ls (Q 0).1 ((Q 0).2 + 1) 1 0 (m + 1)) t9 rfl rfl).1
  have x1 := (st_fld (H := A9.set 1 ⟨1, .arr true false 4 [[.ls (Q 0).1 ((Q 0).2 + 1) 1 0 (m + 1), .ls (Q 1).1 (Q 1).2 1 0 m, .ls (Q 2).1 (Q 2).2 1 0 m, .int .i64 (lst f.regs).length]]⟩) (v := .ls (Q 1).1 ((Q 1).2 + 1) 1 0 (m + 1)) (gs_eq (by omega)) rfl rfl).2.1
  rw [List.set_set] at x1
  have x2 := (st_fld (H := A9.set 1 ⟨1, .arr true false 4 [[.ls (Q 0).1 ((Q 0).2 + 1) 1 0 (m + 1), .ls (Q 1).1 ((Q 1).2 + 1) 1 0 (m + 1), .ls (Q 2).1 (Q 2).2 1 0 m, .int .i64 (lst f.regs).length]]⟩) (v := .ls (Q 2).1 ((Q 2).2 + 1) 1 0 (m + 1)) (gs_eq (by omega)) rfl rfl).2.2
  rw [List.set_set] at x2
  refine ⟨A9.set 1 ⟨1, .arr true false 4 [[.ls (Q 0).1 ((Q 0).2 + 1) 1 0 (m + 1), .ls (Q 1).1 ((Q 1).2 + 1) 1 0 (m + 1), .ls (Q 2).1 ((Q 2).2 + 1) 1 0 (m + 1), .int .i64 (lst f.regs).length]]⟩, fun k => nP B (3 * k) m (P k), fun k => ((Q k).1, (Q k).2 + 1), ?_, ?_⟩
  · have z : ∀ k c, k < 3 → (Q k).1 ≠ B + c := fun k c hk => by
      match k, hk with
      | 0, _ => omega
      | 1, _ => omega
      | 2, _ => omega
    simp only [nc, ob_some, evFa_lp, Nat.zero_add, l0, m0, oh_some, o0, p0, l1, m1, o1, p1, l2, m2, o2, p2, x0, x1, x2, ids1_lp, ids1_ls]
    have z0 : ∀ c, ¬ (Q 0).1 = B + c := fun c => z 0 c (by omega)
    have z1 : ∀ c, ¬ (Q 1).1 = B + c := fun c => z 1 c (by omega)
    have z2 : ∀ c, ¬ (Q 2).1 = B + c := fun c => z 2 c (by omega)
    have y0 : ∀ c, ¬ B + c = (Q 0).1 := fun c e => z 0 c (by omega) e.symm
    have y1 : ∀ c, ¬ B + c = (Q 1).1 := fun c e => z 1 c (by omega) e.symm
    have y2 : ∀ c, ¬ B + c = (Q 2).1 := fun c e => z 2 c (by omega) e.symm
    have w0 : ∀ c, ¬ 1 = B + c := fun c => by omega
    have w1 : ∀ c, ¬ B + c = 1 := fun c => by omega
    have u0 : ¬ (Q 0).1 = 1 := by omega
    have u1 : ¬ (Q 1).1 = 1 := by omega
    have u2 : ¬ (Q 2).1 = 1 := by omega
    have z0' := z0 0
    have z1' := z1 0
    have z2' := z2 0
    have hB1 : ¬ 1 = B := by omega
    have hB0 : ¬ B = 0 := by omega
    have hB2 : ¬ B = 1 := by omega
    rw [Nat.add_zero] at z0' z1' z2'
    have y0' : ¬ B = (Q 0).1 := fun e => z0' e.symm
    have y1' : ¬ B = (Q 1).1 := fun e => z1' e.symm
    have y2' : ¬ B = (Q 2).1 := fun e => z2' e.symm
    have u0' : ¬ 1 = (Q 0).1 := fun e => u0 e.symm
    have u1' : ¬ 1 = (Q 1).1 := fun e => u1 e.symm
    have u2' : ¬ 1 = (Q 2).1 := fun e => u2 e.symm
    have n10 : ¬ (Q 1).1 = (Q 0).1 := fun e => n01 e.symm
    have n20 : ¬ (Q 2).1 = (Q 0).1 := fun e => n02 e.symm
    have n21 : ¬ (Q 2).1 = (Q 1).1 := fun e => n12 e.symm
    simp [pairsOk, fpApart, meets, z0, z1, z2, y0, y1, y2, w0, w1, u0, u1, u2, u0', u1', u2', z0', z1', z2', y0', y1', y2', hB0, hB1, hB2, n01, n02, n12, n10, n20, n21]
  · have q9 : ∀ b, b < B → b ≠ (Q 0).1 → b ≠ (Q 1).1 → b ≠ (Q 2).1 → A9[b]? = H[b]? := fun b hb h0 h1 h2 => by
      rw [← hA9, ← hA8, ← hA7]; repeat rw [gs_ne (by omega)]
      exact q6 b hb h0 h1
    have l1' : A1.length = B + 9 := by rw [← hA1, List.length_set]; exact hlen
    have l2' : A2.length = B + 9 := by rw [← hA2, List.length_set]; exact l1'
    have l4' : A4.length = B + 9 := by rw [← hA4, List.length_set]; exact g3
    have l5' : A5.length = B + 9 := by rw [← hA5, List.length_set]; exact l4'
    have l7' : A7.length = B + 9 := by rw [← hA7, List.length_set]; exact g6
    have l8' : A8.length = B + 9 := by rw [← hA8, List.length_set]; exact l7'
    have rQ0 : A9[(Q 0).1]? = some ⟨(Q 0).2 + 1, .arr false false 1 (rws W (m + 1) (nP B 0 m (P 0)))⟩ := by
      rw [← hA9, ← hA8, ← hA7, ← hA6, ← hA5, ← hA4, ← hA3]
      rw [gs_ne (by omega), gs_ne (by omega), gs_ne (by omega), gs_ne (by omega), gs_ne (by omega), gs_ne (by omega), gs_eq (by omega)]
    have rQ1 : A9[(Q 1).1]? = some ⟨(Q 1).2 + 1, .arr false false 1 (rws W (m + 1) (nP B 3 m (P 1)))⟩ := by
      rw [← hA9, ← hA8, ← hA7, ← hA6]
      rw [gs_ne (by omega), gs_ne (by omega), gs_ne (by omega), gs_eq (by omega)]
    have rQ2 : A9[(Q 2).1]? = some ⟨(Q 2).2 + 1, .arr false false 1 (rws W (m + 1) (nP B 6 m (P 2)))⟩ := by
      rw [← hA9, gs_eq (by omega)]
    have rB0 : A9[B + 0]? = some (AW 1 (noneW W)) := by
      rw [← hA9, ← hA8, ← hA7, ← hA6, ← hA5, ← hA4, ← hA3, ← hA2, ← hA1]
      rw [gs_ne (by omega), gs_ne (by omega), gs_ne (by omega), gs_ne (by omega), gs_ne (by omega), gs_ne (by omega), gs_ne (by omega), gs_ne (by omega), gs_eq (by omega)]
    have rB3 : A9[B + 3]? = some (AW 1 (noneW W)) := by
      rw [← hA9, ← hA8, ← hA7, ← hA6, ← hA5, ← hA4]
      rw [gs_ne (by omega), gs_ne (by omega), gs_ne (by omega), gs_ne (by omega), gs_ne (by omega), gs_eq (by omega)]
    have rB6 : A9[B + 6]? = some (AW 1 (noneW W)) := by
      rw [← hA9, ← hA8, ← hA7]
      rw [gs_ne (by omega), gs_ne (by omega), gs_eq (by omega)]
    have pB : ∀ k i, k < 3 → i < m → (P k i).1 < B := fun k i hk hi => by rw [← hBB]; exact get_lt (row k hk i hi)
    have qB : ∀ k, k < 3 → (Q k).1 < B := fun k hk => by
      match k, hk with
      | 0, _ => exact b0
      | 1, _ => exact b1
      | 2, _ => exact b2
    have ne1 : ∀ k, k < 3 → (Q k).1 ≠ 1 := fun k hk => by have := R.farQ hm k hk; omega
    refine ⟨?_, ?_, fun _ k hk => ?_, fun k hk i hi => ?_, fun k k' i i' hk hk' hi hi' he => ?_, fun k k' i hk hk' hi => ?_, fun k i hk hi => ?_, fun _ k hk => R.farQ hm k hk, fun _ k k' hk hk' he => R.injQ hm k k' hk hk' he, ?_⟩
    · rw [gs_ne (by omega), q9 0 (by omega) (by omega) (by omega) (by omega)]; exact box
    · rw [gs_eq (by omega)]
      simp only [fv, if_neg (Nat.succ_ne_zero m)]
    · rw [hWW, gs_ne (fun e => ne1 k hk e.symm)]
      match k, hk with
      | 0, _ => exact rQ0
      | 1, _ => exact rQ1
      | 2, _ => exact rQ2
    · rw [hWW]
      by_cases e : i = m
      · simp only [nP, if_pos e]
        rw [gs_ne (by omega)]
        match k, hk with
        | 0, _ => exact rB0
        | 1, _ => exact rB3
        | 2, _ => exact rB6
      · have hi' : i < m := by omega
        simp only [nP, if_neg e]
        have h3 := R.farP k i hk hi'
        rw [gs_ne (by omega), q9 _ (pB k i hk hi') (R.off k 0 i hk (by omega) hi') (R.off k 1 i hk (by omega) hi') (R.off k 2 i hk (by omega) hi')]
        have := row k hk i hi'
        rw [hWW] at this
        exact this
    · simp only [nP] at he
      split at he <;> split at he
      · rename_i e e'
        simp only at he
        exact ⟨by omega, by omega⟩
      · rename_i e e'
        have := pB k' i' hk' (by omega)
        simp only at he
        omega
      · rename_i e e'
        have := pB k i hk (by omega)
        simp only at he
        omega
      · exact R.inj k k' i i' hk hk' (by omega) (by omega) he
    · simp only [nP]
      split
      · have := qB k' hk'
        simp only
        omega
      · exact R.off k k' i hk hk' (by omega)
    · simp only [nP]
      split
      · simp only; omega
      · exact R.farP k i hk (by omega)
    · rw [List.length_set]; omega
end Go.Vm
namespace Go.Vm
open Cel
def HB0 (f : Fn) : Heap := [AB f, ⟨1, .arr true false 4 [[.nils, .nils, .nils, .int .i64 (lst f.regs).length]]⟩, D0]
def HB1 (f : Fn) (W : Nat) : Heap := [AB f, ⟨1, .arr true false 4 [[.ls 5 1 1 0 1, .ls 8 1 1 0 1, .ls 11 1 1 0 1, .int .i64 (lst f.regs).length]]⟩, D0,
  AW 1 (noneW W), ⟨1, .arr false false 1 [[.ls 3 1 1 0 W]]⟩, ⟨1, .arr false false 1 [[.ls 3 1 1 0 W]]⟩,
  AW 1 (noneW W), ⟨1, .arr false false 1 [[.ls 6 1 1 0 W]]⟩, ⟨1, .arr false false 1 [[.ls 6 1 1 0 W]]⟩,
  AW 1 (noneW W), ⟨1, .arr false false 1 [[.ls 9 1 1 0 W]]⟩, ⟨1, .arr false false 1 [[.ls 9 1 1 0 W]]⟩]
theorem first (f : Fn) (v3 v32 v33 : AV) {W : Nat} (hW : W ≤ 1000000) :
    q35_46 (.lp 0 1 0 0) v3 (.int .i64 (W : Int)) (.lp 1 1 0 0) v32 v33 (HB0 f) = q35_45 (.lp 0 1 0 0) v3 (.int .i64 (W : Int)) (.lp 1 1 0 0) v32 v33 (HB1 f W) := by
  have e0 : HB0 f ++ deadSlots 9 = [AB f, ⟨1, .arr true false 4 [[.nils, .nils, .nils, .int .i64 (lst f.regs).length]]⟩, D0, D0, D0, D0, D0, D0, D0, D0, D0, D0] := rfl
  have el : (HB0 f).length = 3 := rfl
  have nc : ∀ a b c d, evNilchk (.lp a b c d) = some (.lp a b c d) := fun _ _ _ _ => rfl
  have m0 := part_mk (Hc := [AB f, ⟨1, .arr true false 4 [[.nils, .nils, .nils, .int .i64 (lst f.regs).length]]⟩, D0, D0, D0, D0, D0, D0, D0, D0, D0, D0]) (B := 3) (j := 0) (W := W) rfl hW
  have o0 := part_one (Hc := [AB f, ⟨1, .arr true false 4 [[.nils, .nils, .nils, .int .i64 (lst f.regs).length]]⟩, D0, AW 1 (noneW W), D0, D0, D0, D0, D0, D0, D0, D0]) (B := 3) (j := 1) (v := .ls 3 1 1 0 W) rfl rfl rfl
  have p0 := part_app0 (Hc := [AB f, ⟨1, .arr true false 4 [[.nils, .nils, .nils, .int .i64 (lst f.regs).length]]⟩, D0, AW 1 (noneW W), ⟨1, .arr false false 1 [[.ls 3 1 1 0 W]]⟩, D0, D0, D0, D0, D0, D0, D0]) (B := 3) (j := 2) (id := 4) (W := W) (r := [.ls 3 1 1 0 W]) rfl rfl
  simp only [Nat.reduceAdd, List.set_cons_succ, List.set_cons_zero] at m0 o0 p0
  have m1 := part_mk (Hc := [AB f, ⟨1, .arr true false 4 [[.nils, .nils, .nils, .int .i64 (lst f.regs).length]]⟩, D0, AW 1 (noneW W), ⟨1, .arr false false 1 [[.ls 3 1 1 0 W]]⟩, ⟨1, .arr false false 1 [[.ls 3 1 1 0 W]]⟩, D0, D0, D0, D0, D0, D0]) (B := 3) (j := 3) (W := W) rfl hW
  have o1 := part_one (Hc := [AB f, ⟨1, .arr true false 4 [[.nils, .nils, .nils, .int .i64 (lst f.regs).length]]⟩, D0, AW 1 (noneW W), ⟨1, .arr false false 1 [[.ls 3 1 1 0 W]]⟩, ⟨1, .arr false false 1 [[.ls 3 1 1 0 W]]⟩, AW 1 (noneW W), D0, D0, D0, D0, D0]) (B := 3) (j := 4) (v := .ls 6 1 1 0 W) rfl rfl rfl
  have p1 := part_app0 (Hc := [AB f, ⟨1, .arr true false 4 [[.nils, .nils, .nils, .int .i64 (lst f.regs).length]]⟩, D0, AW 1 (noneW W), ⟨1, .arr false false 1 [[.ls 3 1 1 0 W]]⟩, ⟨1, .arr false false 1 [[.ls 3 1 1 0 W]]⟩, AW 1 (noneW W), ⟨1, .arr false false 1 [[.ls 6 1 1 0 W]]⟩, D0, D0, D0, D0]) (B := 3) (j := 5) (id := 7) (W := W) (r := [.ls 6 1 1 0 W]) rfl rfl
  simp only [Nat.reduceAdd, List.set_cons_succ, List.set_cons_zero] at m1 o1 p1
  have m2 := part_mk (Hc := [AB f, ⟨1, .arr true false 4 [[.nils, .nils, .nils, .int .i64 (lst f.regs).length]]⟩, D0, AW 1 (noneW W), ⟨1, .arr false false 1 [[.ls 3 1 1 0 W]]⟩, ⟨1, .arr false false 1 [[.ls 3 1 1 0 W]]⟩, AW 1 (noneW W), ⟨1, .arr false false 1 [[.ls 6 1 1 0 W]]⟩, ⟨1, .arr false false 1 [[.ls 6 1 1 0 W]]⟩, D0, D0, D0]) (B := 3) (j := 6) (W := W) rfl hW
  have o2 := part_one (Hc := [AB f, ⟨1, .arr true false 4 [[.nils, .nils, .nils, .int .i64 (lst f.regs).length]]⟩, D0, AW 1 (noneW W), ⟨1, .arr false false 1 [[.ls 3 1 1 0 W]]⟩, ⟨1, .arr false false 1 [[.ls 3 1 1 0 W]]⟩, AW 1 (noneW W), ⟨1, .arr false false 1 [[.ls 6 1 1 0 W]]⟩, ⟨1, .arr false false 1 [[.ls 6 1 1 0 W]]⟩, AW 1 (noneW W), D0, D0]) (B := 3) (j := 7) (v := .ls 9 1 1 0 W) rfl rfl rfl
  have p2 := part_app0 (Hc := [AB f, ⟨1, .arr true false 4 [[.nils, .nils, .nils, .int .i64 (lst f.regs).length]]⟩, D0, AW 1 (noneW W), ⟨1, .arr false false 1 [[.ls 3 1 1 0 W]]⟩, ⟨1, .arr false false 1 [[.ls 3 1 1 0 W]]⟩, AW 1 (noneW W), ⟨1, .arr false false 1 [[.ls 6 1 1 0 W]]⟩, ⟨1, .arr false false 1 [[.ls 6 1 1 0 W]]⟩, AW 1 (noneW W), ⟨1, .arr false false 1 [[.ls 9 1 1 0 W]]⟩, D0]) (B := 3) (j := 8) (id := 10) (W := W) (r := [.ls 9 1 1 0 W]) rfl rfl
  simp only [Nat.reduceAdd, List.set_cons_succ, List.set_cons_zero] at m2 o2 p2
  have l0 := (ld_fld (H := [AB f, ⟨1, .arr true false 4 [[.nils, .nils, .nils, .int .i64 (lst f.regs).length]]⟩, D0, D0, D0, D0, D0, D0, D0, D0, D0, D0]) rfl).1
  have l1 := (ld_fld (H := [AB f, ⟨1, .arr true false 4 [[.nils, .nils, .nils, .int .i64 (lst f.regs).length]]⟩, D0, AW 1 (noneW W), ⟨1, .arr false false 1 [[.ls 3 1 1 0 W]]⟩, ⟨1, .arr false false 1 [[.ls 3 1 1 0 W]]⟩, D0, D0, D0, D0, D0, D0]) rfl).2.1
  have l2 := (ld_fld (H := [AB f, ⟨1, .arr true false 4 [[.nils, .nils, .nils, .int .i64 (lst f.regs).length]]⟩, D0, AW 1 (noneW W), ⟨1, .arr false false 1 [[.ls 3 1 1 0 W]]⟩, ⟨1, .arr false false 1 [[.ls 3 1 1 0 W]]⟩, AW 1 (noneW W), ⟨1, .arr false false 1 [[.ls 6 1 1 0 W]]⟩, ⟨1, .arr false false 1 [[.ls 6 1 1 0 W]]⟩, D0, D0, D0]) rfl).2.2
  have x0 := (st_fld (H := [AB f, ⟨1, .arr true false 4 [[.nils, .nils, .nils, .int .i64 (lst f.regs).length]]⟩, D0, AW 1 (noneW W), ⟨1, .arr false false 1 [[.ls 3 1 1 0 W]]⟩, ⟨1, .arr false false 1 [[.ls 3 1 1 0 W]]⟩, AW 1 (noneW W), ⟨1, .arr false false 1 [[.ls 6 1 1 0 W]]⟩, ⟨1, .arr false false 1 [[.ls 6 1 1 0 W]]⟩, AW 1 (noneW W), ⟨1, .arr false false 1 [[.ls 9 1 1 0 W]]⟩, ⟨1, .arr false false 1 [[.ls 9 1 1 0 W]]⟩]) (v := .ls 5 1 1 0 1) rfl rfl rfl).1
  have x1 := (st_fld (H := [AB f, ⟨1, .arr true false 4 [[.ls 5 1 1 0 1, .nils, .nils, .int .i64 (lst f.regs).length]]⟩, D0, AW 1 (noneW W), ⟨1, .arr false false 1 [[.ls 3 1 1 0 W]]⟩, ⟨1, .arr false false 1 [[.ls 3 1 1 0 W]]⟩, AW 1 (noneW W), ⟨1, .arr false false 1 [[.ls 6 1 1 0 W]]⟩, ⟨1, .arr false false 1 [[.ls 6 1 1 0 W]]⟩, AW 1 (noneW W), ⟨1, .arr false false 1 [[.ls 9 1 1 0 W]]⟩, ⟨1, .arr false false 1 [[.ls 9 1 1 0 W]]⟩]) (v := .ls 8 1 1 0 1) rfl rfl rfl).2.1
  have x2 := (st_fld (H := [AB f, ⟨1, .arr true false 4 [[.ls 5 1 1 0 1, .ls 8 1 1 0 1, .nils, .int .i64 (lst f.regs).length]]⟩, D0, AW 1 (noneW W), ⟨1, .arr false false 1 [[.ls 3 1 1 0 W]]⟩, ⟨1, .arr false false 1 [[.ls 3 1 1 0 W]]⟩, AW 1 (noneW W), ⟨1, .arr false false 1 [[.ls 6 1 1 0 W]]⟩, ⟨1, .arr false false 1 [[.ls 6 1 1 0 W]]⟩, AW 1 (noneW W), ⟨1, .arr false false 1 [[.ls 9 1 1 0 W]]⟩, ⟨1, .arr false false 1 [[.ls 9 1 1 0 W]]⟩]) (v := .ls 11 1 1 0 1) rfl rfl rfl).2.2
  simp only [List.set_cons_succ, List.set_cons_zero] at x0 x1 x2
  rw [q35_46, e0, el]
  simp only [nc, ob_some, evFa_lp, Nat.zero_add, Nat.reduceAdd, l0, m0, oh_some, o0, p0, l1, m1, o1, p1, l2, m2, o2, p2, x0, x1, x2]
  rfl
theorem rep1 (f : Fn) : BRep f (fun k _ => (3 + 3 * k, 1)) (fun k => (5 + 3 * k, 1)) (HB1 f ((lst f.regs).length / 64 + 1)) 1 := by
  refine ⟨rfl, rfl, fun _ k hk => ?_, fun k hk i hi => ?_, fun k k' i i' hk hk' hi hi' he => ⟨by simp only at he; omega, by omega⟩, fun k k' i hk hk' hi => by simp only; omega, fun k i hk hi => by simp only; omega, fun _ k hk => by simp only; omega, fun _ k k' hk hk' he => by simp only at he; omega, by simp [HB1]⟩
  · match k, hk with
    | 0, _ => rfl
    | 1, _ => rfl
    | 2, _ => rfl
  · match k, hk with
    | 0, _ => rfl
    | 1, _ => rfl
    | 2, _ => rfl
theorem make_walk {f : Fn} (hn : (lst f.code).length ≤ 20000) (hR : (lst f.regs).length ≤ 20000) : ∀ (d m : Nat) (H : Heap) (P : Plc) (Q : Arr), m + d = (lst f.code).length → 0 < m → BRep f P Q H m →
    ∃ H' P' Q', q35_L44 (.lp 0 1 0 0) (.int .i64 (lst f.code).length) (.int .i64 (((lst f.regs).length / 64 + 1 : Nat) : Int)) (.lp 1 1 0 0) (.int .i64 (lst f.code).length) (.int .i64 (m : Int)) H =
      q35_42 (.lp 0 1 0 0) (.int .i64 (lst f.code).length) (.lp 1 1 0 0) H' ∧ BRep f P' Q' H' (lst f.code).length := by
  intro d
  induction d with
  | zero =>
    intro m H P Q hm h0 R
    have hm' : m = (lst f.code).length := by omega
    have hc : ¬ ((m : Int) < ((lst f.code).length : Int)) := by omega
    refine ⟨H, P, Q, ?_, by rw [← hm']; exact R⟩
    rw [q35_L44_go]
    simp only [q35_48, evBin_lss, ob_some, hc, decide_false, q35_47, cnd_f]
  | succ d ih =>
    intro m H P Q hm h0 R
    have hlt : m < (lst f.code).length := by omega
    have hc : ((m : Int) < ((lst f.code).length : Int)) := by omega
    have hw := wrap_up hlt (by omega)
    obtain ⟨H1, P1, Q1, e1, R1⟩ := round R h0 (by omega) (by omega) (.int .i64 (lst f.code).length) (.int .i64 (m : Int))
    obtain ⟨H2, P2, Q2, e2, R2⟩ := ih (m + 1) H1 P1 Q1 (by omega) (by omega) R1
    push_cast at e2
    refine ⟨H2, P2, Q2, ?_, R2⟩
    rw [q35_L44_go]
    simp only [q35_48, evBin_lss, ob_some, hc, decide_true, q35_47, cnd_t]
    rw [e1]
    simp only [q35_45, evBin_add, hw, ob_some]
    exact e2
end Go.Vm
namespace Go.Vm
open Cel
attribute [local simp] callAny callP heapOf_nil
@[simp] theorem splice4 (a b c d : AV) (r : List AV) (h : r.length = 4) : spliceAt 0 [a, b, c, d] r = [a, b, c, d] := by
  simp [spliceAt, ← h]
@[simp] theorem expo1_k (h : Heap) (a b c d : Int) (o : Bool) : expo1 h (.tup [.agg [.int .i64 a, .int .i64 b, .int .i64 c, .int .i64 d], .bool o]) = some (exK (a, b, c, d, o)) := rfl
@[simp] theorem build4 (a b c d : Int) : evBuild [.int .i64 0, .int .i64 0, .int .i64 0, .int .i64 0] [(0, 1, .int .i64 a), (1, 1, .int .i64 b), (2, 1, .int .i64 c), (3, 1, .int .i64 d)] = some (.agg [.int .i64 a, .int .i64 b, .int .i64 c, .int .i64 d]) := rfl
@[simp] theorem build4z : evBuild [.int .i64 0, .int .i64 0, .int .i64 0, .int .i64 0] [] = some (.agg [.int .i64 0, .int .i64 0, .int .i64 0, .int .i64 0]) := rfl
@[simp] theorem fz_tup3 (h : Heap) (a b c : Int) : fz h fuelF (.tup [.int .i64 a, .int .i64 b, .int .i64 c]) = some ⟨.tup [.int .i64 a, .int .i64 b, .int .i64 c], true, []⟩ := rfl
@[simp] theorem fz_tupk (h : Heap) (a b c d : Int) (o : Bool) : fz h fuelF (.tup [.agg [.int .i64 a, .int .i64 b, .int .i64 c, .int .i64 d], .bool o]) = some ⟨.tup [.agg [.int .i64 a, .int .i64 b, .int .i64 c, .int .i64 d], .bool o], true, []⟩ := rfl
@[simp] theorem agg4 (a b c d : AV) : aggOr true 4 [a, b, c, d] = some (.agg [a, b, c, d]) := rfl
set_option maxHeartbeats 4000000 in
theorem kinds_1 (x : Ins) (h : x.op = 1 ∨ x.op = 2 ∨ x.op = 3 ∨ x.op = 4 ∨ x.op = 7 ∨ x.op = 8 ∨ x.op = 9 ∨ x.op = 10 ∨ x.op = 11 ∨ x.op = 13 ∨ x.op = 14 ∨ x.op = 15 ∨ x.op = 16 ∨ x.op = 17 ∨ x.op = 18 ∨ x.op = 19 ∨ x.op = 20 ∨ x.op = 27 ∨ x.op = 31 ∨ x.op = 32 ∨ x.op = 33) : (callW E).p 47 [.agg (enc x)] = some (exK (kindsM x)) := by
  rw [x_q21]
  rcases h with h|h|h|h|h|h|h|h|h|h|h|h|h|h|h|h|h|h|h|h|h <;> simp [h, q21_1, q21_2, q21_3, q21_4, q21_5, q21_6, q21_7, q21_8, q21_9, q21_10, q21_11, q21_12, q21_13, q21_14, q21_15, q21_16, q21_17, q21_18, q21_19, q21_20, q21_21, q21_22, q21_23, q21_24, q21_25, q21_26, q21_27, q21_28, q21_29, q21_30, q21_31, q21_32, q21_33, q21_34, q21_35, q21_36, q21_37, q21_38, q21_39, q21_40, q21_41, q21_42, q21_43, q21_45, q21_47, pairsOk, fpApart, meets, ids1, kindsM]
theorem kinds_t (x : Ins) (hs : x.s.length ≤ 9223372036854775807) (h : x.op = 12 ∨ x.op = 21 ∨ x.op = 22) : (callW E).p 47 [.agg (enc x)] = some (exK (kindsM x)) := by
  rw [x_q21]
  have ht := s_Type x.s hs
  rcases h with h|h|h <;> simp [h, ht, q21_1, q21_2, q21_3, q21_4, q21_5, q21_6, q21_7, q21_8, q21_9, q21_10, q21_11, q21_12, q21_13, q21_14, q21_15, q21_16, q21_17, q21_18, q21_19, q21_20, q21_21, q21_22, q21_23, q21_24, q21_25, q21_26, q21_27, q21_28, q21_29, q21_30, q21_31, q21_32, q21_33, q21_34, q21_35, q21_36, q21_37, q21_38, q21_39, q21_40, q21_41, q21_42, q21_43, q21_45, q21_47, pairsOk, fpApart, meets, ids1, kindsM]
theorem kinds_n (x : Ins) (hn : -9223372036854775808 ≤ x.n ∧ x.n < 9223372036854775808) (h : x.op = 5 ∨ x.op = 6) : (callW E).p 47 [.agg (enc x)] = some (exK (kindsM x)) := by
  rw [x_q21]
  have hk := s_Kinds x.n
  have hw := wrap_i64 hn.1 hn.2
  rcases h with h|h
  · simp [h, hk, hw, q21_1, q21_2, q21_3, q21_4, q21_5, q21_6, q21_7, q21_8, q21_9, q21_10, q21_11, q21_12, q21_13, q21_14, q21_15, q21_16, q21_17, q21_18, q21_19, q21_20, q21_21, q21_22, q21_23, q21_24, q21_25, q21_26, q21_27, q21_28, q21_29, q21_30, q21_31, q21_32, q21_33, q21_34, q21_35, q21_36, q21_37, q21_38, q21_39, q21_40, q21_41, q21_42, q21_43, q21_45, q21_47, pairsOk, fpApart, meets, ids1, kindsM]
  · by_cases h0 : (numK x.n).1 = 0
    · simp [h, hk, hw, h0, q21_1, q21_2, q21_3, q21_4, q21_5, q21_6, q21_7, q21_8, q21_9, q21_10, q21_11, q21_12, q21_13, q21_14, q21_15, q21_16, q21_17, q21_18, q21_19, q21_20, q21_21, q21_22, q21_23, q21_24, q21_25, q21_26, q21_27, q21_28, q21_29, q21_30, q21_31, q21_32, q21_33, q21_34, q21_35, q21_36, q21_37, q21_38, q21_39, q21_40, q21_41, q21_42, q21_43, q21_45, q21_47, pairsOk, fpApart, meets, ids1, kindsM]
    · simp [h, hk, hw, h0, q21_1, q21_2, q21_3, q21_4, q21_5, q21_6, q21_7, q21_8, q21_9, q21_10, q21_11, q21_12, q21_13, q21_14, q21_15, q21_16, q21_17, q21_18, q21_19, q21_20, q21_21, q21_22, q21_23, q21_24, q21_25, q21_26, q21_27, q21_28, q21_29, q21_30, q21_31, q21_32, q21_33, q21_34, q21_35, q21_36, q21_37, q21_38, q21_39, q21_40, q21_41, q21_42, q21_43, q21_45, q21_47, pairsOk, fpApart, meets, ids1, kindsM]
theorem kinds_i (x : Ins) (h : x.op = 28) : (callW E).p 47 [.agg (enc x)] = some (exK (kindsM x)) := by
  rw [x_q21]
  by_cases h0 : 0 ≤ x.n
  · simp [h, h0, q21_1, q21_2, q21_3, q21_4, q21_5, q21_6, q21_7, q21_8, q21_9, q21_10, q21_11, q21_12, q21_13, q21_14, q21_15, q21_16, q21_17, q21_18, q21_19, q21_20, q21_21, q21_22, q21_23, q21_24, q21_25, q21_26, q21_27, q21_28, q21_29, q21_30, q21_31, q21_32, q21_33, q21_34, q21_35, q21_36, q21_37, q21_38, q21_39, q21_40, q21_41, q21_42, q21_43, q21_45, q21_47, pairsOk, fpApart, meets, ids1, kindsM]
  · simp [h, h0, q21_1, q21_2, q21_3, q21_4, q21_5, q21_6, q21_7, q21_8, q21_9, q21_10, q21_11, q21_12, q21_13, q21_14, q21_15, q21_16, q21_17, q21_18, q21_19, q21_20, q21_21, q21_22, q21_23, q21_24, q21_25, q21_26, q21_27, q21_28, q21_29, q21_30, q21_31, q21_32, q21_33, q21_34, q21_35, q21_36, q21_37, q21_38, q21_39, q21_40, q21_41, q21_42, q21_43, q21_45, q21_47, pairsOk, fpApart, meets, ids1, kindsM]
end Go.Vm
namespace Go.Vm
open Cel
attribute [local simp] callAny callP heapOf_nil
theorem other_29 (x : Ins) (h : x.op = 29) : (callW E).p 51 [.agg (enc x)] = some (exK (kindsM x)) := by
  rw [x_q22]
  by_cases h0 : x.b = -1 <;> by_cases h1 : x.n = 0 <;> simp [h, h0, h1, q22_1, q22_2, q22_3, q22_4, q22_5, q22_6, q22_7, q22_8, q22_9, q22_10, q22_11, q22_12, q22_13, q22_14, q22_15, q22_16, q22_18, q22_20, pairsOk, fpApart, meets, kindsM]
theorem other_30 (x : Ins) (h : x.op = 30) : (callW E).p 51 [.agg (enc x)] = some (exK (kindsM x)) := by
  rw [x_q22]
  by_cases h0 : x.a = -1 <;> simp [h, h0, q22_1, q22_2, q22_3, q22_4, q22_5, q22_6, q22_7, q22_8, q22_9, q22_10, q22_11, q22_12, q22_13, q22_14, q22_15, q22_16, q22_18, q22_20, pairsOk, fpApart, meets, kindsM]
set_option maxHeartbeats 4000000 in
theorem other_c (x : Ins) (h : x.op = 23 ∨ x.op = 24 ∨ x.op = 25 ∨ x.op = 26) : (callW E).p 51 [.agg (enc x)] = some (exK (kindsM x)) := by
  rw [x_q22]
  have e1 : ((0 : Int) < ((lst x.args).length : Int)) = (0 < (lst x.args).length) := by simp
  have e2 : (((lst x.args).length : Int) ≤ (21 : Int)) = ((lst x.args).length ≤ 21) := by simp; omega
  by_cases h0 : x.d = -1 <;> by_cases h1 : 0 ≤ x.n <;> by_cases h2 : 0 < (lst x.args).length <;> rcases h with h|h|h|h <;> simp [h, h0, h1, h2, e1, e2, q22_1, q22_2, q22_3, q22_4, q22_5, q22_6, q22_7, q22_8, q22_9, q22_10, q22_11, q22_12, q22_13, q22_14, q22_15, q22_16, q22_18, q22_20, pairsOk, fpApart, meets, kindsM]
theorem other_o (x : Ins) (h : x.op < 1 ∨ 33 < x.op) : (callW E).p 51 [.agg (enc x)] = some (exK (kindsM x)) := by
  rw [x_q22, kindsM_out h]
  rcases h with h|h
  · simp [lo_f h, q22_1, q22_2, q22_3, q22_4, q22_5, q22_6, q22_7, q22_8, q22_9, q22_10, q22_11, q22_12, q22_13, q22_14, q22_15, q22_16, q22_18, q22_20, pairsOk, fpApart, meets]
  · simp [hi_f h, q22_1, q22_2, q22_3, q22_4, q22_5, q22_6, q22_7, q22_8, q22_9, q22_10, q22_11, q22_12, q22_13, q22_14, q22_15, q22_16, q22_18, q22_20, pairsOk, fpApart, meets]
theorem kinds_o (x : Ins) (h : x.op = 29 ∨ x.op = 30 ∨ x.op = 23 ∨ x.op = 24 ∨ x.op = 25 ∨ x.op = 26 ∨ x.op < 1 ∨ 33 < x.op) : (callW E).p 47 [.agg (enc x)] = some (exK (kindsM x)) := by
  have ho : (callW E).p 51 [.agg (enc x)] = some (exK (kindsM x)) := by
    rcases h with h|h|h|h|h|h|h
    · exact other_29 x h
    · exact other_30 x h
    · exact other_c x (.inl h)
    · exact other_c x (.inr (.inl h))
    · exact other_c x (.inr (.inr (.inl h)))
    · exact other_c x (.inr (.inr (.inr h)))
    · exact other_o x h
  rw [x_q21]
  generalize kindsM x = k at ho
  obtain ⟨a, b, c, d, o⟩ := k
  simp only [exK] at ho
  rcases h with h|h|h|h|h|h|h|h
  iterate 6 (simp [h, ho, q21_1, q21_2, q21_3, q21_4, q21_5, q21_6, q21_7, q21_8, q21_9, q21_10, q21_11, q21_12, q21_13, q21_14, q21_15, q21_16, q21_17, q21_18, q21_19, q21_20, q21_21, q21_22, q21_23, q21_24, q21_25, q21_26, q21_27, q21_28, q21_29, q21_30, q21_31, q21_32, q21_33, q21_34, q21_35, q21_36, q21_37, q21_38, q21_39, q21_40, q21_41, q21_42, q21_43, q21_45, q21_47, pairsOk, fpApart, meets])
  · simp [lo_f h, ho, q21_1, q21_2, q21_3, q21_4, q21_5, q21_6, q21_7, q21_8, q21_9, q21_10, q21_11, q21_12, q21_13, q21_14, q21_15, q21_16, q21_17, q21_18, q21_19, q21_20, q21_21, q21_22, q21_23, q21_24, q21_25, q21_26, q21_27, q21_28, q21_29, q21_30, q21_31, q21_32, q21_33, q21_34, q21_35, q21_36, q21_37, q21_38, q21_39, q21_40, q21_41, q21_42, q21_43, q21_45, q21_47, pairsOk, fpApart, meets]
  · simp [hi_f h, ho, q21_1, q21_2, q21_3, q21_4, q21_5, q21_6, q21_7, q21_8, q21_9, q21_10, q21_11, q21_12, q21_13, q21_14, q21_15, q21_16, q21_17, q21_18, q21_19, q21_20, q21_21, q21_22, q21_23, q21_24, q21_25, q21_26, q21_27, q21_28, q21_29, q21_30, q21_31, q21_32, q21_33, q21_34, q21_35, q21_36, q21_37, q21_38, q21_39, q21_40, q21_41, q21_42, q21_43, q21_45, q21_47, pairsOk, fpApart, meets]
theorem s_kinds (x : Ins) (hn : -9223372036854775808 ≤ x.n ∧ x.n < 9223372036854775808) (hs : x.s.length ≤ 9223372036854775807) : (callW E).p 47 [.agg (enc x)] = some (exK (kindsM x)) := by
  by_cases h1 : x.op = 1 ∨ x.op = 2 ∨ x.op = 3 ∨ x.op = 4 ∨ x.op = 7 ∨ x.op = 8 ∨ x.op = 9 ∨ x.op = 10 ∨ x.op = 11 ∨ x.op = 13 ∨ x.op = 14 ∨ x.op = 15 ∨ x.op = 16 ∨ x.op = 17 ∨ x.op = 18 ∨ x.op = 19 ∨ x.op = 20 ∨ x.op = 27 ∨ x.op = 31 ∨ x.op = 32 ∨ x.op = 33
  · exact kinds_1 x h1
  by_cases h2 : x.op = 12 ∨ x.op = 21 ∨ x.op = 22
  · exact kinds_t x hs h2
  by_cases h3 : x.op = 5 ∨ x.op = 6
  · exact kinds_n x hn h3
  by_cases h4 : x.op = 28
  · exact kinds_i x h4
  exact kinds_o x (by omega)
end Go.Vm
namespace Go.Vm
open Cel
attribute [local simp] callAny callP heapOf_nil
abbrev HR (f : Fn) (x : Ins) (a b c d : Int) : Heap := [⟨1, .arr true false 5 [enc f]⟩, ⟨1, .arr true false 9 [enc x]⟩, ⟨1, .arr true false 4 [[.int .i64 a, .int .i64 b, .int .i64 c, .int .i64 d]]⟩]
abbrev P0 : AV := .lp 0 1 0 0
abbrev P1 : AV := .lp 1 1 0 0
abbrev P2 : AV := .lp 2 1 0 0
theorem regs_at {f : Fn} {r : Int} (h : inR (lst f.regs) r = true) : evIxs 1 (slA f.regs) (.int .i64 r) = some (.rp [.int .i64 (regK (lst f.regs) r)]) := by
  obtain ⟨h0, h1, h2⟩ := inR_get h
  exact ixs_intI h0 h2 .i64
theorem right_field (f : Fn) (x : Ins) (a b c d : Int) (i : Nat) (w r : Int) (v26 : AV) (hi : i < 4) (hw : [a, b, c, d][i]? = some w) :
    q23_18 P0 P1 P2 (.int .i64 i) (.int .i64 r) v26 (.int .i64 i) (HR f x a b c d) =
      if fieldOk (lst f.regs) w r then q23_16 P0 P1 P2 v26 (.int .i64 i) (HR f x a b c d) else some ⟨.bool false, [], true, [], []⟩ := by
  have e1 : evIxa 4 1 P2 (.int .i64 i) = some (.lp 2 1 0 i) := by
    have : ((i : Int) < (4 : Int)) := by omega
    simp [evIxa, this]
  have e2 : ∀ f x, evLd false 1 (.lp 2 1 0 i) (HR f x a b c d) = some (.int .i64 w) := by
    intro f x
    simp only [evLd_lp]
    have : (rowsAt (HR f x a b c d) 2 1) = some (false, 4, [[.int .i64 a, .int .i64 b, .int .i64 c, .int .i64 d]]) := rfl
    rw [this]
    simp only [List.getElem?_cons_zero, aggOr_f]
    match i, hi, hw with
    | 0, _, hw => simp at hw; simp [hw]
    | 1, _, hw => simp at hw; simp [hw]
    | 2, _, hw => simp at hw; simp [hw]
    | 3, _, hw => simp at hw; simp [hw]
  have e2 := e2 f x
  by_cases hw0 : w < 0
  · simp [q23_18, e1, e2, fieldOk, hw0]
  by_cases h0 : r < 0
  · have : ¬ 0 ≤ r := by omega
    simp [q23_18, q23_17, e1, e2, fieldOk, hw0, h0, inR, this]
  by_cases h1 : r < ((lst f.regs).length : Int)
  · have h0' : 0 ≤ r := by omega
    have h1' : ¬ ((lst f.regs).length : Int) ≤ r := by omega
    have hin : inR (lst f.regs) r = true := by simp [inR, h0', h1]
    have hr := regs_at hin
    by_cases h2 : 0 < w
    · have h2' : ¬ w ≤ 0 := by omega
      by_cases h3 : regK (lst f.regs) r = w
      · simp [q23_18, q23_17, e1, e2, fieldOk, hw0, h0, h1', h2, h2', hin, hr, h3]
      · simp [q23_18, q23_17, e1, e2, fieldOk, hw0, h0, h1', h2, h2', hin, hr, h3]
    · have h2' : w ≤ 0 := by omega
      simp [q23_18, q23_17, e1, e2, fieldOk, hw0, h0, h1', h2, h2', hin]
  · have h1' : ((lst f.regs).length : Int) ≤ r := by omega
    simp [q23_18, q23_17, e1, e2, fieldOk, hw0, h0, h1', h1, inR]
theorem right_tail (f : Fn) (x : Ins) (a b c d : Int) (h1 : x.op = 1 → inR (lst f.regs) x.d = true) (h4 : x.op = 4 → inR (lst f.regs) x.d = true ∧ inR (lst f.regs) x.a = true) (h7 : x.op = 7 → inR (lst f.regs) x.a = true)
    (h30 : x.op = 30 → x.a = -1 ∨ inR (lst f.regs) x.a = true) :
    q23_2 P0 P1 (HR f x a b c d) = some ⟨.bool (tailOk (lst f.regs) f.ret (lst f.code).length x), [], true, [], []⟩ := by
  by_cases o1 : x.op = 1
  · have hr := regs_at (h1 o1)
    by_cases k3 : regK (lst f.regs) x.d = 3
    · simp [q23_2, tailOk, o1, hr, k3]
    · by_cases k2 : regK (lst f.regs) x.d = 2
      · simp [q23_2, tailOk, o1, hr, k2]
      · simp [q23_2, tailOk, o1, hr, k2, k3]
  by_cases o4 : x.op = 4
  · have hr := regs_at (h4 o4).1
    have hr2 := regs_at (h4 o4).2
    simp [q23_2, tailOk, o4, hr, hr2]
  by_cases o7 : x.op = 7
  · have hr := regs_at (h7 o7)
    simp [q23_2, tailOk, o7, hr]
  by_cases o30 : x.op = 30
  · by_cases ha : x.a = -1
    · by_cases hz : f.ret = 0
      · simp [q23_2, tailOk, o30, ha, hz]
      · simp [q23_2, tailOk, o30, ha, hz]
    · have hr := regs_at ((h30 o30).resolve_left ha)
      by_cases hz : f.ret = 0
      · simp [q23_2, tailOk, o30, ha, hz]
      · simp [q23_2, tailOk, o30, ha, hz, hr]
  · cases hl : leads x.op with
    | false => simp [q23_2, q23_1, tailOk, o1, o4, o7, o30, hl]
    | true =>
      by_cases ht : 0 ≤ x.t
      · simp [q23_2, q23_1, tailOk, o1, o4, o7, o30, hl, ht]
      · simp [q23_2, q23_1, tailOk, o1, o4, o7, o30, hl, ht]
end Go.Vm
namespace Go.Vm
open Cel
attribute [local simp] callAny callP heapOf_nil
theorem right_arg (f : Fn) (x : Ins) (a b c d : Int) (i : Nat) (r : Int) (v63 v64 : AV) :
    q23_5 P0 P1 (.int .i64 i) (.int .i64 r) v63 v64 (.int .i64 i) (HR f x a b c d) =
      if inR (lst f.regs) r && (!decide (i = 0) || !(decide (x.op = 24) || decide (x.op = 25)) || decide (regK (lst f.regs) r = 3)) then q23_4 P0 P1 v63 v64 (.int .i64 i) (HR f x a b c d) else some ⟨.bool false, [], true, [], []⟩ := by
  by_cases h0 : r < 0
  · have : ¬ 0 ≤ r := by omega
    simp [q23_5, h0, inR, this]
  by_cases h1 : r < ((lst f.regs).length : Int)
  · have h0' : 0 ≤ r := by omega
    have h1' : ¬ ((lst f.regs).length : Int) ≤ r := by omega
    have hin : inR (lst f.regs) r = true := by simp [inR, h0', h1]
    have hr := regs_at hin
    by_cases hi : i = 0
    · subst hi
      by_cases o1 : x.op = 24
      · by_cases h3 : regK (lst f.regs) r = 3
        · simp [q23_5, h0, h1', hin, hr, o1, h3]
        · simp [q23_5, h0, h1', hin, hr, o1, h3]
      · by_cases o2 : x.op = 25
        · by_cases h3 : regK (lst f.regs) r = 3
          · simp [q23_5, h0, h1', hin, hr, o2, h3]
          · simp [q23_5, h0, h1', hin, hr, o2, h3]
        · simp [q23_5, h0, h1', hin, o1, o2]
    · have hi' : ¬ ((i : Int) = 0) := by omega
      simp [q23_5, h0, h1', hin, hi, hi']
  · have h1' : ((lst f.regs).length : Int) ≤ r := by omega
    simp [q23_5, h0, h1', h1, inR]
theorem right_loop (f : Fn) (x : Ins) (a b c d : Int) (T : Bool) (hc : calls x.op = true) (hl : (lst x.args).length ≤ 9223372036854775807) (hT : q23_2 P0 P1 (HR f x a b c d) = some ⟨.bool T, [], true, [], []⟩) :
    ∀ (k i : Nat), i + k = (lst x.args).length → 0 < i →
    q23_L3 P0 P1 (slA x.args) (.int .i64 (lst x.args).length) (.int .i64 i) (HR f x a b c d) = some ⟨.bool (((lst x.args).drop i).all (inR (lst f.regs)) && T), [], true, [], []⟩ := by
  intro k
  induction k with
  | zero =>
    intro i hi _
    have e1 : (lst x.args).drop i = [] := List.drop_eq_nil_of_le (by omega)
    have hn : ¬ ((i : Int) < ((lst x.args).length : Int)) := by omega
    rw [q23_L3_go, e1]
    simp [q23_11, q23_10, hn, hT]
  | succ k ih =>
    intro i hi h0
    have hlt : i < (lst x.args).length := by omega
    have hn : ((i : Int) < ((lst x.args).length : Int)) := by omega
    have e1 : ((lst x.args).drop i).all (inR (lst f.regs)) = (inR (lst f.regs) (lst x.args)[i] && ((lst x.args).drop (i + 1)).all (inR (lst f.regs))) := by rw [List.drop_eq_getElem_cons hlt, List.all_cons]
    have ih := ih (i + 1) (by omega) (by omega)
    push_cast at ih
    have k1 := ixs_int (o := x.args) (i := i) (List.getElem?_eq_getElem hlt) .i64
    have hz : ¬ i = 0 := by omega
    rw [q23_L3_go, e1]
    simp only [q23_11, q23_10, evBin_lss, ob_some, hn, decide_true, cnd_t]
    simp only [q23_7, k1, ob_some, evLd_rp, aggOr_f, List.head?_cons]
    simp only [q23_6]
    simp only [evLd_lp]
    simp only [rowsAt_s, rowsAt_0]
    simp only [List.getElem?_cons_zero, List.drop_zero, agg_ins, ob_some]
    simp only [callAny, pure_17, if_true, callP, fzList_cons, fz_enc, fzList_nil, s_Calls, heapOf_nil, fz_bool', oh_some, Bool.true_or]
    simp only [evUn_not, ob_some, hc, Bool.not_true, cnd_f, right_arg]
    cases inR (lst f.regs) (lst x.args)[i]
    · simp
    · simp [hz, q23_4, wrap_up hlt hl, ih]
theorem right_args (f : Fn) (x : Ins) (a b c d : Int) (T : Bool) (hl : (lst x.args).length ≤ 9223372036854775807) (hT : q23_2 P0 P1 (HR f x a b c d) = some ⟨.bool T, [], true, [], []⟩) :
    q23_13 P0 P1 (HR f x a b c d) = some ⟨.bool (argsOk (lst f.regs) x && T), [], true, [], []⟩ := by
  have e0 : q23_13 P0 P1 (HR f x a b c d) = q23_L3 P0 P1 (slA x.args) (.int .i64 (lst x.args).length) (.int .i64 0) (HR f x a b c d) := by simp [q23_13]
  rw [e0, q23_L3_go]
  cases ha : lst x.args with
  | nil => simp [q23_11, q23_10, hT, argsOk, firstOk, ha]
  | cons r rest =>
    have k1 := ixs_int (o := x.args) (i := 0) (x := r) (by rw [ha]; rfl) .i64
    have k1 : evIxs 1 (slA x.args) (.int .i64 0) = some (.rp [.int .i64 r]) := k1
    have hn : ((0 : Int) < ((lst x.args).length : Int)) := by rw [ha]; simp
    have hra := right_arg f x a b c d 0 r (slA x.args) (.int .i64 (lst x.args).length)
    simp only [Int.ofNat_zero, decide_true, Bool.not_true, Bool.false_or] at hra
    rw [← ha]
    cases hc : calls x.op with
    | false =>
      simp only [q23_11, q23_10, evBin_lss, ob_some, hn, decide_true, cnd_t]
      simp only [q23_7, k1, ob_some, evLd_rp, aggOr_f, List.head?_cons]
      simp only [q23_6]
      simp only [evLd_lp]
      simp only [rowsAt_s, rowsAt_0]
      simp only [List.getElem?_cons_zero, List.drop_zero, agg_ins, ob_some]
      simp only [callAny, pure_17, if_true, callP, fzList_cons, fz_enc, fzList_nil, s_Calls, heapOf_nil, fz_bool', oh_some, Bool.true_or]
      simp only [evUn_not, ob_some, hc, Bool.not_false, cnd_t, hT, argsOk, Bool.true_or, Bool.true_and]
    | true =>
      have hlp := right_loop f x a b c d T hc hl hT rest.length 1 (by rw [ha]; simp; omega) (by omega)
      have hd : (lst x.args).drop 1 = rest := by rw [ha]; rfl
      rw [hd] at hlp
      have hlp : q23_L3 P0 P1 (slA x.args) (.int .i64 (lst x.args).length) (.int .i64 1) (HR f x a b c d) = _ := hlp
      simp only [q23_11, q23_10, evBin_lss, ob_some, hn, decide_true, cnd_t]
      simp only [q23_7, k1, ob_some, evLd_rp, aggOr_f, List.head?_cons]
      simp only [q23_6]
      simp only [evLd_lp]
      simp only [rowsAt_s, rowsAt_0]
      simp only [List.getElem?_cons_zero, List.drop_zero, agg_ins, ob_some]
      simp only [callAny, pure_17, if_true, callP, fzList_cons, fz_enc, fzList_nil, s_Calls, heapOf_nil, fz_bool', oh_some, Bool.true_or]
      simp only [evUn_not, ob_some, hc, Bool.not_true, cnd_f, hra]
      simp only [argsOk, firstOk, ha, List.all_cons]
      have hw : IntKind.wrap .i64 ((0 : Int) + 1) = 1 := wrap_i64 (n := 1) (by omega) (by omega)
      generalize (!(decide (x.op = 24) || decide (x.op = 25)) || decide (regK (lst f.regs) r = 3)) = B
      have hw2 : IntKind.wrap .i64 (1 : Int) = 1 := wrap_i64 (n := 1) (by omega) (by omega)
      cases inR (lst f.regs) r with
      | false => cases B <;> simp [hc]
      | true =>
        cases B with
        | false => simp [hc]
        | true =>
          simp only [Bool.and_self, if_true, q23_4, evBin_add, ob_some]
          rw [show IntKind.wrap .i64 ((0 : Int) + 1) = 1 from hw]
          rw [← ha, hlp]
          simp [hc]
theorem kinds_any (x : Ins) : (x.op = 1 → (kindsM x).1 = 0) ∧ (x.op = 4 → (kindsM x).1 = 0 ∧ (kindsM x).2.1 = 0) ∧ (x.op = 7 → (kindsM x).2.1 = 0) ∧ (x.op = 30 → x.a = -1 ∨ (kindsM x).2.1 = 0) := by
  refine ⟨fun h => ?_, fun h => ?_, fun h => ?_, fun h => ?_⟩ <;> simp [kindsM, h]
  by_cases ha : x.a = -1 <;> simp [ha]
theorem field_in {R : List Int} {w r : Int} (h : fieldOk R w r = true) (hw : w = 0) : inR R r = true := by
  subst hw
  simpa [fieldOk] using h
set_option maxHeartbeats 1000000 in
theorem s_right (f : Fn) (x : Ins) (hn : -9223372036854775808 ≤ x.n ∧ x.n < 9223372036854775808) (hs : x.s.length ≤ 9223372036854775807) (hl : (lst x.args).length ≤ 9223372036854775807) :
    (callW E).p 63 [.agg (enc f), .agg (enc x)] = some ⟨.bool (rightM f x), [], true, [], []⟩ := by
  have hk := s_kinds x hn hs
  obtain ⟨q1, q4, q7, q30⟩ := kinds_any x
  rw [x_q23]
  have red : ∀ X : Option (Ex AV), rightM f x = rightM f x → True := fun _ _ => trivial
  have e0 : q23_29 (.agg (enc f)) (.agg (enc x)) [⟨0, .dead⟩, ⟨0, .dead⟩, ⟨0, .dead⟩] =
      if (kindsM x).2.2.2.2 = true then q23_L15 P0 P1 P2 (.agg [.int .i64 x.d, .int .i64 x.a, .int .i64 x.b, .int .i64 x.c]) (.int .i64 0) (HR f x (kindsM x).1 (kindsM x).2.1 (kindsM x).2.2.1 (kindsM x).2.2.2.1) else some ⟨.bool false, [], true, [], []⟩ := by
    unfold exK at hk
    generalize kindsM x = k at *
    obtain ⟨a, b, c, d, o⟩ := k
    simp only at hk ⊢
    cases o with
    | true => simp [q23_29, q23_28, q23_27, q23_25, hk]
    | false => simp [q23_29, q23_28, q23_27, hk]
  rw [e0, rightM]
  cases hok : (kindsM x).2.2.2.2 with
  | false => simp
  | true =>
    simp only [if_true, Bool.true_and]
    have step : ∀ (i : Nat) (w r : Int), i < 4 → [(kindsM x).1, (kindsM x).2.1, (kindsM x).2.2.1, (kindsM x).2.2.2.1][i]? = some w → [x.d, x.a, x.b, x.c][i]? = some r →
        q23_L15 P0 P1 P2 (.agg [.int .i64 x.d, .int .i64 x.a, .int .i64 x.b, .int .i64 x.c]) (.int .i64 i) (HR f x (kindsM x).1 (kindsM x).2.1 (kindsM x).2.2.1 (kindsM x).2.2.2.1) =
        if fieldOk (lst f.regs) w r then q23_L15 P0 P1 P2 (.agg [.int .i64 x.d, .int .i64 x.a, .int .i64 x.b, .int .i64 x.c]) (.int .i64 (i + 1 : Nat)) (HR f x (kindsM x).1 (kindsM x).2.1 (kindsM x).2.2.1 (kindsM x).2.2.2.1) else some ⟨.bool false, [], true, [], []⟩ := by
      intro i w r hi hw hr
      have hc : ((i : Int) < (4 : Int)) := by omega
      have hv : evIxv false 4 1 (.agg [.int .i64 x.d, .int .i64 x.a, .int .i64 x.b, .int .i64 x.c]) (.int .i64 i) = some (.int .i64 r) := by
        match i, hi, hr with
        | 0, _, hr => simp at hr; simp [evIxv, hr]
        | 1, _, hr => simp at hr; simp [evIxv, hr]
        | 2, _, hr => simp at hr; simp [evIxv, hr]
        | 3, _, hr => simp at hr; simp [evIxv, hr]
      have hw2 : IntKind.wrap .i64 ((i : Int) + 1) = ((i + 1 : Nat) : Int) := by rw [wrap_i64] <;> omega
      rw [q23_L15_go]
      simp only [q23_23, q23_22, evBin_lss, ob_some, hc, decide_true, cnd_t]
      simp only [q23_19, hv, ob_some]
      rw [right_field f x _ _ _ _ i w r _ hi hw]
      simp only [q23_16, evBin_add, ob_some, hw2]
    have s0 := step 0 _ _ (by omega) rfl rfl
    have s1 := step 1 _ _ (by omega) rfl rfl
    have s2 := step 2 _ _ (by omega) rfl rfl
    have s3 := step 3 _ _ (by omega) rfl rfl
    simp only [Int.ofNat_zero] at s0
    rw [s0]
    cases f0 : fieldOk (lst f.regs) (kindsM x).1 x.d with
    | false => simp
    | true =>
      simp only [if_true, Bool.true_and]
      rw [s1]
      cases f1 : fieldOk (lst f.regs) (kindsM x).2.1 x.a with
      | false => simp
      | true =>
        simp only [if_true, Bool.true_and]
        rw [s2]
        cases f2 : fieldOk (lst f.regs) (kindsM x).2.2.1 x.b with
        | false => simp
        | true =>
          simp only [if_true, Bool.true_and]
          rw [s3]
          cases f3 : fieldOk (lst f.regs) (kindsM x).2.2.2.1 x.c with
          | false => simp
          | true =>
            simp only [if_true, Bool.true_and]
            have ht := right_tail f x (kindsM x).1 (kindsM x).2.1 (kindsM x).2.2.1 (kindsM x).2.2.2.1 (fun h => field_in f0 (q1 h)) (fun h => ⟨field_in f0 (q4 h).1, field_in f1 (q4 h).2⟩) (fun h => field_in f1 (q7 h)) (fun h => (q30 h).imp id fun h => field_in f1 h)
            rw [← right_args f x _ _ _ _ _ hl ht]
            rw [q23_L15_go]
            simp [q23_23, q23_22]
end Go.Vm
namespace Go.Vm
open Cel
attribute [local simp] callAny callP heapOf_nil
abbrev HC (f : Fn) (o1 o2 : AO) : Heap := [⟨1, .arr true false 5 [enc f]⟩, o1, o2]
abbrev E80 : Option (Ex AV) := some ⟨.int .i64 80, [], true, [], []⟩
abbrev E0 : Option (Ex AV) := some ⟨.int .i64 0, [], true, [], []⟩
theorem Check_rows (f : Fn) (o1 : AO) (n : Int) (hn : n = (lst f.code).length) (hl : (lst f.rows).length ≤ 9223372036854775807) : ∀ (d i : Nat) (o2 : AO), i + d = (lst f.rows).length →
    q14_L2 P0 (.int .i64 n) (slA f.rows) (.int .i64 (lst f.rows).length) (.int .i64 i) (HC f o1 o2) = if ((lst f.rows).drop i).all (rowOk (lst f.code)) then E0 else E80 := by
  intro d
  induction d with
  | zero =>
    intro i o2 hi
    have e1 : (lst f.rows).drop i = [] := List.drop_eq_nil_of_le (by omega)
    have hn : ¬ ((i : Int) < ((lst f.rows).length : Int)) := by omega
    rw [q14_L2_go, e1]
    simp [q14_6, q14_5, q14_1, hn]
  | succ d ih =>
    intro i o2 hi
    have hlt : i < (lst f.rows).length := by omega
    have hc : ((i : Int) < ((lst f.rows).length : Int)) := by omega
    have k1 := ixs_row (o := f.rows) (i := i) (List.getElem?_eq_getElem hlt) .i64
    rw [q14_L2_go]
    have e1 : ((lst f.rows).drop i).all (rowOk (lst f.code)) = (rowOk (lst f.code) (lst f.rows)[i] && ((lst f.rows).drop (i + 1)).all (rowOk (lst f.code))) := by rw [List.drop_eq_getElem_cons hlt, List.all_cons]
    rw [e1]
    generalize hr : (lst f.rows)[i] = r at *
    have ih := fun o2 => ih (i + 1) o2 (by omega)
    push_cast at ih
    subst hn
    simp only [q14_6, q14_5, evBin_lss, ob_some, hc, decide_true, cnd_t]
    by_cases h1 : r.f < 0
    · simp [q14_4, k1, rowOk, h1]
    by_cases h2 : r.t ≤ r.f
    · simp [q14_4, k1, rowOk, h1, h2]
    by_cases h3 : ((lst f.code).length : Int) < r.t
    · simp [q14_4, k1, rowOk, h1, h2, h3]
    by_cases h4 : r.at_ < 0
    · simp [q14_4, k1, rowOk, h1, h2, h3, h4]
    by_cases h5 : ((lst f.code).length : Int) ≤ r.at_
    · simp [q14_4, k1, rowOk, h1, h2, h3, h4, h5]
    · have hx : r.at_.toNat < (lst f.code).length := by omega
      have k2 := ixs_insI (o := f.code) (n := r.at_) (by omega) (List.getElem?_eq_getElem hx) .i64
      have hg : (lst f.code).getD r.at_.toNat default = (lst f.code)[r.at_.toNat] := by rw [List.getD_eq_getElem?_getD, List.getElem?_eq_getElem hx]; rfl
      by_cases h6 : ((lst f.code)[r.at_.toNat]).op = 32
      · simp [q14_4, k1, rowOk, h1, h2, h3, h4, h5, k2, h6, hx, q14_3, wrap_up hlt hl, ih]
      · simp [q14_4, k1, rowOk, h1, h2, h3, h4, h5, k2, h6, hx]
theorem Check_regs (f : Fn) (o1 o2 : AO) (n : Int) (hl : (lst f.regs).length ≤ 9223372036854775807) : ∀ (d i : Nat), i + d = (lst f.regs).length →
    q14_L30 P0 (.int .i64 n) (slA f.regs) (.int .i64 (lst f.regs).length) (.int .i64 i) (HC f o1 o2) = if ((lst f.regs).drop i).all (fun k => decide (1 ≤ k) && decide (k ≤ 3)) then q14_28 P0 (.int .i64 n) (HC f o1 o2) else E80 := by
  intro d
  induction d with
  | zero =>
    intro i hi
    have e1 : (lst f.regs).drop i = [] := List.drop_eq_nil_of_le (by omega)
    have hn : ¬ ((i : Int) < ((lst f.regs).length : Int)) := by omega
    rw [q14_L30_go, e1]
    simp [q14_34, q14_33, hn]
  | succ d ih =>
    intro i hi
    have hlt : i < (lst f.regs).length := by omega
    have hc : ((i : Int) < ((lst f.regs).length : Int)) := by omega
    have k1 := ixs_int (o := f.regs) (i := i) (List.getElem?_eq_getElem hlt) .i64
    have e1 : ((lst f.regs).drop i).all (fun k => decide (1 ≤ k) && decide (k ≤ 3)) = ((decide (1 ≤ (lst f.regs)[i]) && decide ((lst f.regs)[i] ≤ 3)) && ((lst f.regs).drop (i + 1)).all (fun k => decide (1 ≤ k) && decide (k ≤ 3))) := by
      rw [List.drop_eq_getElem_cons hlt, List.all_cons]
    rw [q14_L30_go, e1]
    generalize hr : (lst f.regs)[i] = r at *
    have ih := ih (i + 1) (by omega)
    push_cast at ih
    simp only [q14_34, q14_33, evBin_lss, ob_some, hc, decide_true, cnd_t]
    by_cases h1 : r < 1
    · have : ¬ 1 ≤ r := by omega
      simp [q14_32, k1, h1, this]
    by_cases h2 : 3 < r
    · have : ¬ r ≤ 3 := by omega
      simp [q14_32, k1, h1, h2, this]
    · have a1 : 1 ≤ r := by omega
      have a2 : r ≤ 3 := by omega
      simp [q14_32, k1, h1, h2, a1, a2, q14_31, wrap_up hlt hl, ih]
theorem Check_params (f : Fn) (o1 o2 : AO) (n : Int) (hl : (lst f.params).length ≤ 9223372036854775807) : ∀ (d i : Nat), i + d = (lst f.params).length →
    q14_L22 P0 (.int .i64 n) (slA f.params) (.int .i64 (lst f.params).length) (.int .i64 i) (HC f o1 o2) = if parOk (lst f.regs) i ((lst f.params).take i) ((lst f.params).drop i) then q14_20 P0 (.int .i64 n) (HC f o1 o2) else E80 := by
  intro d
  induction d with
  | zero =>
    intro i hi
    have e1 : (lst f.params).drop i = [] := List.drop_eq_nil_of_le (by omega)
    have hn : ¬ ((i : Int) < ((lst f.params).length : Int)) := by omega
    rw [q14_L22_go, e1]
    simp [q14_26, q14_25, hn, parOk]
  | succ d ih =>
    intro i hi
    have hlt : i < (lst f.params).length := by omega
    have hc : ((i : Int) < ((lst f.params).length : Int)) := by omega
    have k1 := ixs_int (o := f.params) (i := i) (List.getElem?_eq_getElem hlt) .i64
    have ks := slc_to (α := Int) f.params i (by omega) .i64
    simp only [es_int] at ks
    have hlm : lst (f.params.map (List.take i)) = (lst f.params).take i := by cases f.params <;> simp
    have e1 : parOk (lst f.regs) i ((lst f.params).take i) ((lst f.params).drop i) = ((inR (lst f.regs) (lst f.params)[i] && !((lst f.params).take i).contains (lst f.params)[i] && decide (i ≤ 20)) && parOk (lst f.regs) (i + 1) ((lst f.params).take (i + 1)) ((lst f.params).drop (i + 1))) := by
      rw [List.drop_eq_getElem_cons hlt, parOk, List.take_append_getElem]
    rw [q14_L22_go, e1]
    have hct : (callW E).p 46 [slA (f.params.map (List.take i)), .int .i64 (lst f.params)[i]] = some ⟨.bool (((lst f.params).take i).contains (lst f.params)[i]), [], true, [], []⟩ := by
      rw [s_Contains _ _ (by rw [hlm, List.length_take]; omega), hlm]
    generalize hr : (lst f.params)[i] = r at *
    generalize ((lst f.params).take i).contains r = B at *
    have ih := ih (i + 1) (by omega)
    push_cast at ih
    simp only [q14_26, q14_25, evBin_lss, ob_some, hc, decide_true, cnd_t]
    have e20 : ((20 : Int) < (i : Int)) ↔ ¬ i ≤ 20 := by omega
    by_cases h1 : r < 0
    · have : ¬ 0 ≤ r := by omega
      simp [q14_24, k1, inR, h1, this]
    by_cases h2 : ((lst f.regs).length : Int) ≤ r
    · have : ¬ r < ((lst f.regs).length : Int) := by omega
      simp [q14_24, k1, inR, h1, h2, this]
    · have a1 : 0 ≤ r := by omega
      have a2 : r < ((lst f.regs).length : Int) := by omega
      cases B with
      | true => simp [q14_24, k1, inR, h1, h2, a1, a2, ks, hct]
      | false =>
        by_cases h3 : i ≤ 20
        · have h3' : ¬ ((20 : Int) < (i : Int)) := by omega
          simp [q14_24, k1, inR, h1, h2, a1, a2, ks, hct, h3, h3', q14_23, wrap_up hlt hl, ih]
        · have h3' : ((20 : Int) < (i : Int)) := by omega
          simp [q14_24, k1, inR, h1, h2, a1, a2, ks, hct, h3, h3']
theorem tail_leads {R : List Int} {ret : Int} {n : Nat} {x : Ins} (h : tailOk R ret n x = true) (hl : leads x.op = true) : 0 ≤ x.t ∧ x.t < n := by
  have hne : ¬ x.op = 1 ∧ ¬ x.op = 4 ∧ ¬ x.op = 7 ∧ ¬ x.op = 30 := by
    simp only [leads, Bool.or_eq_true, decide_eq_true_eq] at hl
    omega
  simp only [tailOk, hne, if_false, hl, Bool.not_true, Bool.false_or, Bool.and_eq_true, decide_eq_true_eq] at h
  exact h
theorem right_leads {f : Fn} {x : Ins} (h : rightM f x = true) (hl : leads x.op = true) : 0 ≤ x.t ∧ x.t < (lst f.code).length := by
  simp only [rightM, Bool.and_eq_true] at h
  exact tail_leads h.2 hl
structure InsFit (x : Ins) : Prop where
  n : -9223372036854775808 ≤ x.n ∧ x.n < 9223372036854775808
  s : x.s.length ≤ 9223372036854775807
  a : (lst x.args).length ≤ 9223372036854775807
theorem Check_spot (f : Fn) (o2 : AO) (n : Int) (x : Ins) (i g : Nat) (v92 v93 v94 : AV) (hi : i < (lst f.code).length) (hl : (lst f.code).length ≤ 9223372036854775807) (ht : leads x.op = true → 0 ≤ x.t ∧ x.t < (lst f.code).length) :
    q14_12 P0 (.int .i64 n) (.int .i64 i) (.lp 1 g 0 0) v92 v93 v94 (HC f ⟨g, .arr true false 9 [enc x]⟩ o2) =
      if spotOk (lst f.code) i x then q14_11 P0 (.int .i64 n) v92 v93 v94 (HC f ⟨g, .arr true false 9 [enc x]⟩ o2) else E80 := by
  by_cases h32 : x.op = 32
  · have hld : leads x.op = false := by simp [leads, h32]
    by_cases h0 : i = 0
    · subst h0
      simp [q14_12, h32, spotOk]
    · have h0' : ¬ ((i : Int) = 0) := by omega
      have hp : i - 1 < (lst f.code).length := by omega
      have k1 := ixs_ins (o := f.code) (i := i - 1) (List.getElem?_eq_getElem hp) .i64
      have hw : IntKind.wrap .i64 ((i : Int) - 1) = ((i - 1 : Nat) : Int) := by rw [wrap_i64] <;> omega
      have hg : (lst f.code).getD (i - 1) default = (lst f.code)[i - 1] := by rw [List.getD_eq_getElem?_getD, List.getElem?_eq_getElem hp]; rfl
      have hld32 : leads 32 = false := by simp [leads]
      cases he : ends ((lst f.code)[i - 1]).op with
      | true => simp [q14_12, h32, spotOk, h0, h0', hw, k1, hp, he, hld32]
      | false => simp [q14_12, h32, spotOk, h0, h0', hw, k1, hp, he]
  · cases hld : leads x.op with
    | false => simp [q14_12, h32, spotOk, hld]
    | true =>
      obtain ⟨t0, t1⟩ := ht hld
      have hx : x.t.toNat < (lst f.code).length := by omega
      have k2 := ixs_insI (o := f.code) (n := x.t) t0 (List.getElem?_eq_getElem hx) .i64
      by_cases h6 : ((lst f.code)[x.t.toNat]).op = 32
      · simp [q14_12, h32, spotOk, hld, k2, h6, hx]
      · simp [q14_12, h32, spotOk, hld, k2, h6, hx]
theorem Check_code (f : Fn) (o2 : AO) (n : Int) (hfit : ∀ x ∈ lst f.code, InsFit x) (hl : (lst f.code).length ≤ 9223372036854775807) : ∀ (d i : Nat) (o1 : AO), i + d = (lst f.code).length →
    ∃ o1', q14_L10 P0 (.int .i64 n) (slA f.code) (.int .i64 (lst f.code).length) (.int .i64 i) (HC f o1 o2) = if codeOk f (lst f.code) i ((lst f.code).drop i) then q14_8 P0 (.int .i64 n) (HC f o1' o2) else E80 := by
  intro d
  induction d with
  | zero =>
    intro i o1 hi
    have e1 : (lst f.code).drop i = [] := List.drop_eq_nil_of_le (by omega)
    have hn : ¬ ((i : Int) < ((lst f.code).length : Int)) := by omega
    rw [q14_L10_go, e1]
    exact ⟨o1, by simp [q14_18, q14_17, hn, codeOk]⟩
  | succ d ih =>
    intro i o1 hi
    have hlt : i < (lst f.code).length := by omega
    have hc : ((i : Int) < ((lst f.code).length : Int)) := by omega
    have k1 := ixs_ins (o := f.code) (i := i) (List.getElem?_eq_getElem hlt) .i64
    have e1 : codeOk f (lst f.code) i ((lst f.code).drop i) = (rightM f (lst f.code)[i] && spotOk (lst f.code) i (lst f.code)[i] && codeOk f (lst f.code) (i + 1) ((lst f.code).drop (i + 1))) := by
      rw [List.drop_eq_getElem_cons hlt, codeOk]
    have fit := hfit _ (List.getElem_mem hlt)
    rw [q14_L10_go, e1]
    generalize hx : (lst f.code)[i] = x at *
    have hr := s_right f x fit.n fit.s fit.a
    simp only [q14_18, q14_17, evBin_lss, ob_some, hc, decide_true, cnd_t]
    cases hok : rightM f x with
    | false =>
      rw [hok] at hr
      exact ⟨o1, by simp [q14_14, q14_13, k1, hr]⟩
    | true =>
      rw [hok] at hr
      have e13 : ∀ K : Option (Ex AV), q14_14 P0 (.int .i64 n) (slA f.code) (.int .i64 (lst f.code).length) (.int .i64 i) (HC f o1 o2) = q14_12 P0 (.int .i64 n) (.int .i64 i) (.lp 1 (o1.gen + 1) 0 0) (slA f.code) (.int .i64 (lst f.code).length) (.int .i64 i) (HC f ⟨o1.gen + 1, .arr true false 9 [enc x]⟩ o2) := by
        intro _
        simp [q14_14, q14_13, k1, hr]
      rw [e13 none]
      rw [Check_spot f o2 n x i _ _ _ _ hlt hl (fun h => right_leads hok h)]
      cases hs : spotOk (lst f.code) i x with
      | false => exact ⟨o1, by simp⟩
      | true =>
        obtain ⟨o1', ih⟩ := ih (i + 1) ⟨o1.gen + 1, .arr true false 9 [enc x]⟩ (by omega)
        push_cast at ih
        exact ⟨o1', by simp [q14_11, wrap_up hlt hl, ih]⟩
structure FnFit (f : Fn) : Prop where
  ins : ∀ x ∈ lst f.code, InsFit x
  code : (lst f.code).length ≤ 9223372036854775807
  regs : (lst f.regs).length ≤ 9223372036854775807
  params : (lst f.params).length ≤ 9223372036854775807
  rows : (lst f.rows).length ≤ 9223372036854775807
theorem Check_all (f : Fn) (hf : FnFit f) (o1 o2 : AO) (n : Int) (hn : n = (lst f.code).length) :
    q14_36 P0 (.int .i64 n) (HC f o1 o2) = if (lst f.regs).all (fun k => decide (1 ≤ k) && decide (k ≤ 3)) && parOk (lst f.regs) 0 [] (lst f.params) && codeOk f (lst f.code) 0 (lst f.code) && (lst f.rows).all (rowOk (lst f.code)) then E0 else E80 := by
  have a1 := Check_regs f o1 o2 n hf.regs _ 0 (Nat.zero_add _)
  have a2 := Check_params f o1 o2 n hf.params _ 0 (Nat.zero_add _)
  obtain ⟨o1', a3⟩ := Check_code f o2 n hf.ins hf.code _ 0 o1 (Nat.zero_add _)
  have a4 := Check_rows f o1' n hn hf.rows _ 0 o2 (Nat.zero_add _)
  simp only [Int.ofNat_zero, List.drop_zero, List.take_zero] at a1 a2 a3 a4
  have e1 : q14_36 P0 (.int .i64 n) (HC f o1 o2) = q14_L30 P0 (.int .i64 n) (slA f.regs) (.int .i64 (lst f.regs).length) (.int .i64 0) (HC f o1 o2) := by simp [q14_36]
  have e2 : q14_28 P0 (.int .i64 n) (HC f o1 o2) = q14_L22 P0 (.int .i64 n) (slA f.params) (.int .i64 (lst f.params).length) (.int .i64 0) (HC f o1 o2) := by simp [q14_28]
  have e3 : q14_20 P0 (.int .i64 n) (HC f o1 o2) = q14_L10 P0 (.int .i64 n) (slA f.code) (.int .i64 (lst f.code).length) (.int .i64 0) (HC f o1 o2) := by simp [q14_20]
  have e4 : q14_8 P0 (.int .i64 n) (HC f o1' o2) = q14_L2 P0 (.int .i64 n) (slA f.rows) (.int .i64 (lst f.rows).length) (.int .i64 0) (HC f o1' o2) := by simp [q14_8]
  rw [e1, a1, e2, a2, e3, a3, e4, a4]
  generalize (lst f.regs).all (fun k => decide (1 ≤ k) && decide (k ≤ 3)) = b1
  generalize parOk (lst f.regs) 0 [] (lst f.params) = b2
  generalize codeOk f (lst f.code) 0 (lst f.code) = b3
  generalize (lst f.rows).all (rowOk (lst f.code)) = b4
  cases b1 <;> cases b2 <;> cases b3 <;> cases b4 <;> rfl
set_option maxHeartbeats 1000000 in
theorem s_Check (f : Fn) (hf : FnFit f) : (callW E).p 8 [.agg (enc f)] = some ⟨.int .i64 (if wf f then 0 else 80), [], true, [], []⟩ := by
  rw [x_q14]
  have hall := Check_all f hf ⟨0, .dead⟩ ⟨0, .dead⟩ _ rfl
  by_cases h1 : (lst f.code).length < 1
  · have h1' : ((lst f.code).length : Int) < 1 := by omega
    have : ¬ 1 ≤ (lst f.code).length := by omega
    simp [q14_40, q14_39, q14_38, h1', wf, this]
  have h1' : ¬ ((lst f.code).length : Int) < 1 := by omega
  have g1 : 1 ≤ (lst f.code).length := by omega
  by_cases h2 : 20000 < (lst f.code).length
  · have h2' : (20000 : Int) < ((lst f.code).length : Int) := by omega
    have : ¬ (lst f.code).length ≤ 20000 := by omega
    simp [q14_40, q14_39, q14_38, h1', h2', wf, this]
  have h2' : ¬ (20000 : Int) < ((lst f.code).length : Int) := by omega
  have g2 : (lst f.code).length ≤ 20000 := by omega
  by_cases h3 : 20000 < (lst f.regs).length
  · have h3' : (20000 : Int) < ((lst f.regs).length : Int) := by omega
    have : ¬ (lst f.regs).length ≤ 20000 := by omega
    simp [q14_40, q14_39, q14_38, h1', h2', h3', wf, this]
  have h3' : ¬ (20000 : Int) < ((lst f.regs).length : Int) := by omega
  have g3 : (lst f.regs).length ≤ 20000 := by omega
  by_cases h4 : f.ret < 0
  · have : ¬ 0 ≤ f.ret := by omega
    simp [q14_40, q14_39, q14_38, h1', h2', h3', h4, wf, this]
  have g4 : 0 ≤ f.ret := by omega
  by_cases h5 : 3 < f.ret
  · have : ¬ f.ret ≤ 3 := by omega
    simp [q14_40, q14_39, q14_38, h1', h2', h3', h4, h5, wf, this]
  have g5 : f.ret ≤ 3 := by omega
  have hp : (lst f.code).length - 1 < (lst f.code).length := by omega
  have k1 := ixs_ins (o := f.code) (i := (lst f.code).length - 1) (List.getElem?_eq_getElem hp) .i64
  have hw : IntKind.wrap .i64 (((lst f.code).length : Int) - 1) = (((lst f.code).length - 1 : Nat) : Int) := by rw [wrap_i64] <;> omega
  have hg : (lst f.code).getD ((lst f.code).length - 1) default = (lst f.code)[(lst f.code).length - 1] := by rw [List.getD_eq_getElem?_getD, List.getElem?_eq_getElem hp]; rfl
  cases he : ends ((lst f.code)[(lst f.code).length - 1]).op with
  | false =>
    have hwf : wf f = false := by rw [wf, hg, he]; simp
    rw [hwf]
    simp [q14_40, q14_39, q14_38, h1', h2', h3', h4, h5, hw, k1, he]
  | true =>
    have hwf : wf f = ((lst f.regs).all (fun k => decide (1 ≤ k) && decide (k ≤ 3)) && parOk (lst f.regs) 0 [] (lst f.params) && codeOk f (lst f.code) 0 (lst f.code) && (lst f.rows).all (rowOk (lst f.code))) := by
      rw [wf, hg, he]
      simp only [g1, g2, g3, g4, g5, decide_true, Bool.true_and]
    have e : q14_40 (.agg (enc f)) [⟨0, .dead⟩, ⟨0, .dead⟩, ⟨0, .dead⟩] = q14_36 P0 (.int .i64 (lst f.code).length) (HC f ⟨0, .dead⟩ ⟨0, .dead⟩) := by
      simp [q14_40, q14_39, q14_38, h1', h2', h3', h4, h5, hw, k1, he]
    rw [e, hall, hwf]
    split <;> rfl
end Go.Vm
namespace Go.Vm
open Cel
theorem s_OfNo (f : Fn) (hf : FnFit f) (hw : wf f = false) : (callW E).p 75 [.agg (enc f)] = some ⟨.nilp, [], true, [], []⟩ := by
  rw [x_q35]
  have hck := s_Check f hf
  rw [hw] at hck
  have ha : ∀ H : Heap, fzList (fz H fuelF) [.agg (enc f)] = some ⟨[.agg (enc f)], scal f && true, []⟩ := fun H => by
    rw [fzList_cons, fz_enc, fzList_nil]; rfl
  have c8 : ∀ H, callAny E (callW E) 0 none true 8 [.agg (enc f)] H = some (.int .i64 80, H) := fun H => call_reads rfl (ha H) rfl hck ⟨_, rfl, rfl⟩
  have l0 : ∀ t : Heap, evLd true 5 (.lp 0 1 0 0) (AB f :: t) = some (.agg (enc f)) := fun t => by simp
  have n0 : newC 0 (some 0) (cellsOf (.agg (enc f))) [D0, D0, D0] = some (.lp 0 1 0 0, [AB f, D0, D0]) := by simp
  simp only [q35_55, n0, oh_some, q35_54, l0, ob_some, c8, evBin_neq, show decide ((80 : Int) ≠ 0) = true from rfl, cnd_t]
  rfl
theorem s_Of (f : Fn) (hf : FnFit f) (hr : (lst f.rows).length ≤ 10000000000000) (hx : ∀ x ∈ lst f.code, (lst x.args).length ≤ 17592186043904) (hw : wf f = true) :
    ∃ r t, (callW E).p 75 [.agg (enc f)] = some r ∧ Reads r (.rp [slA (some t.b), slA (some t.a), slA (some t.h), .int .i64 (lst f.regs).length]) ∧ TbOk (lst f.code).length ((lst f.regs).length / 64 + 1) t ∧ LvSnd f t ∧ ∀ i, i < (lst f.code).length → Cl f t i := by
  rw [x_q35]
  have w := wf_of hw
  have hn1 := w.n1
  have hn2 := w.n2
  have hR := w.regs
  have hck := s_Check f hf
  rw [hw] at hck
  have ha : ∀ H : Heap, fzList (fz H fuelF) [.agg (enc f)] = some ⟨[.agg (enc f)], scal f && true, []⟩ := fun H => by
    rw [fzList_cons, fz_enc, fzList_nil]; rfl
  have c8 : ∀ H, callAny E (callW E) 0 none true 8 [.agg (enc f)] H = some (.int .i64 0, H) := fun H => call_reads rfl (ha H) rfl hck ⟨_, rfl, rfl⟩
  have l0 : ∀ t : Heap, evLd true 5 (.lp 0 1 0 0) (AB f :: t) = some (.agg (enc f)) := fun t => by simp
  have l3 : ∀ t : Heap, evLd false 1 (.lp 0 1 0 3) (AB f :: t) = some (slA f.code) := fun t => by simp
  have lr : ∀ t : Heap, evLd false 1 (.lp 0 1 0 0) (AB f :: t) = some (slA f.regs) := fun t => by simp
  have n0 : newC 0 (some 0) (cellsOf (.agg (enc f))) [D0, D0, D0] = some (.lp 0 1 0 0, [AB f, D0, D0]) := by simp
  obtain ⟨q1, _⟩ := quo_rem (r := (lst f.regs).length) (by omega)
  have hwr : IntKind.wrap .i64 ((((lst f.regs).length / 64 : Nat) : Int) + 1) = (((lst f.regs).length / 64 + 1 : Nat) : Int) := by
    rw [wrap_i64] <;> omega
  have bd : evBuild [.nils, .nils, .nils, .int .i64 0] [(3, 1, .int .i64 (lst f.regs).length)] = some (.agg [.nils, .nils, .nils, .int .i64 (lst f.regs).length]) := by rfl
  have n1 : newC 0 (some 1) (cellsOf (.agg [.nils, .nils, .nils, .int .i64 (lst f.regs).length])) [AB f, D0, D0] = some (.lp 1 1 0 0, HB0 f) := by rfl
  obtain ⟨H1, P1, Q1, e1, R1⟩ := make_walk (f := f) hn2 hR ((lst f.code).length - 1) 1 _ _ _ (by omega) (by omega) (rep1 f)
  obtain ⟨t, ht1, ht2, ht3, ht4⟩ := liveLoop_ends w ((lst f.code).length * ((lst f.regs).length + 1) + 1) (tb0 f) tb0_ok tb0_sound (by omega)
  obtain ⟨H2, e2, L2⟩ := loop_walk w hr hx _ (tb0 f) H1 t (R1.done hn1) ht1
  obtain ⟨r, e3, rd⟩ := L2.reads
  refine ⟨r, t, ?_, rd, ht2, ht3, ht4⟩
  rw [← e3, ← e2]
  have hc : (0 : Int) < ((lst f.code).length : Int) := by omega
  have hw1 : IntKind.wrap .i64 ((0 : Int) + 1) = ((1 : Nat) : Int) := by rw [wrap_i64] <;> omega
  have ef := first f (.int .i64 (lst f.code).length) (.int .i64 (lst f.code).length) (.int .i64 0) (W := (lst f.regs).length / 64 + 1) (by omega)
  have e42 : q35_42 (.lp 0 1 0 0) (.int .i64 (lst f.code).length) (.lp 1 1 0 0) H1 = q35_L2 (.lp 0 1 0 0) (.int .i64 (lst f.code).length) (.lp 1 1 0 0) (.bool true) H1 := rfl
  rw [← e42, ← e1]
  simp only [q35_55, n0, oh_some, q35_54, l0, ob_some, c8, evBin_neq, show decide ((0 : Int) ≠ 0) = false from rfl, cnd_f, q35_53, evFa_lp, Nat.zero_add, l3, evLen_sl, lr, q1, evBin_add, hwr, q35_52, bd, n1, q35_50]
  rw [q35_L44_go]
  simp only [q35_48, evBin_lss, ob_some, hc, decide_true, q35_47, cnd_t, ef, q35_45, evBin_add, hw1]
end Go.Vm
namespace Go.Vm
open Cel
open Classical in
theorem at_eq {n R : Nat} {l : List Ws} {P : Prop} {i r : Int} (hl : l.length = n) (h : 0 ≤ i → i < n → 0 ≤ r → (bit (rowW l i.toNat) r.toNat = true ↔ P)) :
    atM R l i r = (decide (0 ≤ i) && (decide (i < (n : Int)) && (decide (0 ≤ r) && (decide (r < (R : Int)) && decide P)))) := by
  unfold atM
  rw [hl]
  by_cases h1 : 0 ≤ i
  · by_cases h2 : i < (n : Int)
    · by_cases h3 : 0 ≤ r
      · have := h h1 h2 h3
        have e : bit (rowW l i.toNat) r.toNat = decide P := by
          cases hb : bit (rowW l i.toNat) r.toNat with
          | true => exact (decide_eq_true (this.1 hb)).symm
          | false => exact (decide_eq_false fun hp => by rw [this.2 hp] at hb; cases hb).symm
        rw [e]
        simp [h1, h2, h3]
      · simp [h3]
    · simp [h2]
  · simp [h1]
section
variable {f : Fn} (w : Wf f) {t : Tb} (ok : TbOk (lst f.code).length ((lst f.regs).length / 64 + 1) t) (S : LvSnd f t) (C : ∀ i, i < (lst f.code).length → Cl f t i)
include w ok S C
theorem bef_eq (i r : Int) : atM (lst f.regs).length t.b i r = befR f i r := by
  refine at_eq ok.b fun h1 h2 h3 => ?_
  have := (live_tells w S C (i := i.toNat) (by omega) r.toNat).1
  rwa [show ((i.toNat : Nat) : Int) = i by omega] at this
theorem aft_eq (i r : Int) : atM (lst f.regs).length t.a i r = aftR f i r := by
  refine at_eq ok.a fun h1 h2 h3 => ?_
  have := (live_tells w S C (i := i.toNat) (by omega) r.toNat).2.1
  rwa [show ((i.toNat : Nat) : Int) = i by omega] at this
theorem acr_eq (i r : Int) : acrM f t i r = acrR f i r := by
  unfold acrM acrR
  rw [aft_eq w ok S C, at_eq (P := fromP f (caughtL f i) r.toNat) ok.h (fun h1 h2 h3 => by
    have := (live_tells w S C (i := i.toNat) (by omega) r.toNat).2.2
    rwa [show ((i.toNat : Nat) : Int) = i by omega] at this)]
  by_cases h1 : 0 ≤ i
  · by_cases h2 : i < ((lst f.code).length : Int)
    · by_cases h3 : 0 ≤ r
      · by_cases h4 : r < ((lst f.regs).length : Int)
        · simp [h1, h2, h3, h4]
        · simp [aftR, h4]
      · simp [aftR, h3]
    · simp [h2]
  · simp [h1]
end
theorem fz_tv (t : Tb) (R : Nat) (H : Heap) : fz H fuelF (tv t R) = some ⟨tv t R, scalar1 (tv t R), []⟩ := fz_p (k := 11) rfl H
theorem fz_tir (t : Tb) (R : Nat) (i r : Int) (H : Heap) : fzList (fz H fuelF) [tv t R, .int .i64 i, .int .i64 r] = some ⟨[tv t R, .int .i64 i, .int .i64 r], scalar1 (tv t R) && (true && (true && true)), []⟩ := by
  rw [fzList_cons, fzList_cons, fzList_cons, fz_tv, fz_int', fz_int', fzList_nil]; rfl
theorem fz_tfir (t : Tb) (R : Nat) (f : Fn) (i r : Int) (H : Heap) : fzList (fz H fuelF) [tv t R, .agg (enc f), .int .i64 i, .int .i64 r] = some ⟨[tv t R, .agg (enc f), .int .i64 i, .int .i64 r], scalar1 (tv t R) && (scal f && (true && (true && true))), []⟩ := by
  rw [fzList_cons, fzList_cons, fzList_cons, fzList_cons, fz_tv, fz_enc, fz_int', fz_int', fzList_nil]; rfl
theorem fz_fir (f : Fn) (i r : Int) (H : Heap) : fzList (fz H fuelF) [.agg (enc f), .int .i64 i, .int .i64 r] = some ⟨[.agg (enc f), .int .i64 i, .int .i64 r], scal f && (true && (true && true)), []⟩ := by
  rw [fzList_cons, fzList_cons, fzList_cons, fz_enc, fz_int', fz_int', fzList_nil]; rfl
end Go.Vm
namespace Go.Vm
open Cel
attribute [local simp] callAny callP heapOf_nil
theorem num_inR : ((List.range 60).all fun i => isTup3 ((both E 30).1.p 66 [.int .i64 (95 + i)]) (numK (95 + i))) = true := by kernel_rfl
theorem s_RKinds (c : Int) (h1 : 0 ≤ c) (h2 : c < 1000) : (callW E).p 66 [.int .i64 c] = some ⟨.tup [.int .i64 (numK c).1, .int .i64 (numK c).2.1, .int .i64 (numK c).2.2], [], true, [], []⟩ := by
  by_cases h : c < 96 ∨ 148 < c
  · rw [numK_out h, x_q56]
    have h2 : ∀ k : Int, 96 ≤ k → k ≤ 148 → ¬ c = k := by omega
    rcases h with h | h
    · have a1 : ¬ 96 ≤ c := by omega
      have a2 : ¬ 120 ≤ c := by omega
      have a3 : ¬ 145 ≤ c := by omega
      simp [q56_1, q56_2, q56_3, q56_4, h2, a1, a2, a3]
      rfl
    · have a1 : 96 ≤ c := by omega
      have a2 : 120 ≤ c := by omega
      have a3 : 145 ≤ c := by omega
      have b1 : ¬ c ≤ 113 := by omega
      have b2 : ¬ c ≤ 131 := by omega
      have b3 : ¬ c ≤ 147 := by omega
      simp [q56_1, q56_2, q56_3, q56_4, h2, a1, a2, a3, b1, b2, b3]
      rfl
  · have := range_all num_inR (c - 95).toNat (by omega)
    have e : (95 + ((c - 95).toNat : Int)) = c := by omega
    simp only [e] at this
    exact lift_p 30 (isTup3_eq this)
end Go.Vm
namespace Go.Vm
open Cel
attribute [local simp] callAny callP heapOf_nil
def mayB : List UInt8 := [97, 98, 99, 100, 101, 102, 103, 104, 105, 106, 107, 108, 109, 110, 111, 112, 113, 114, 115, 116, 117, 118, 119, 120, 121, 122, 65, 66, 67, 68, 69, 70, 71, 72, 73, 74, 75, 76, 77, 78, 79, 80, 81, 82, 83, 84, 85, 86, 87, 88, 89, 90, 48, 49, 50, 51, 52, 53, 54, 55, 56, 57, 95, 36, 47]
theorem may_in : ((List.range 256).all fun n => mayB.contains (UInt8.ofNat n) == okB (UInt8.ofNat n)) = true := by kernel_rfl
theorem may_ok (c : UInt8) : mayB.contains c = okB c := by
  have := range_all may_in c.toNat c.toNat_lt
  rw [UInt8.ofNat_toNat] at this
  exact eq_of_beq this
@[simp] theorem pure_53 : E.pure 53 = true := rfl
theorem s_has (s : List UInt8) (c : UInt8) : (callW E).p 53 [.str s, .str [c]] = some ⟨.bool (s.contains c), [], true, [], []⟩ := by
  rw [callW_p_eq, runPure, show E.fn 53 = none by kernel_rfl]
  rfl
theorem RName_loop (s : List UInt8) (hs : s.length ≤ 9223372036854775807) (h : Heap) : ∀ (d i : Nat), i + d = s.length →
    q57_L2 (.str s) (.str mayB) (.int .i64 i) h = if (s.drop i).all okB then q57_1 (.str s) h else some ⟨.bool false, [], true, [], []⟩ := by
  intro d
  induction d with
  | zero =>
    intro i hi
    have e1 : s.drop i = [] := List.drop_eq_nil_of_le (by omega)
    have hc : ¬ ((i : Int) < (s.length : Int)) := by omega
    rw [q57_L2_go, e1]
    simp [q57_5, hc]
  | succ d ih =>
    intro i hi
    have hlt : i < s.length := by omega
    have hc : ((i : Int) < (s.length : Int)) := by omega
    have ih := ih (i + 1) (by omega)
    push_cast at ih
    have e1 : (s.drop i).all okB = (okB s[i] && (s.drop (i + 1)).all okB) := by rw [List.drop_eq_getElem_cons hlt, List.all_cons]
    have hsl : evSls (.str s) (some (.int .i64 (i : Int))) (some (.int .i64 ((i : Int) + 1))) = some (.str [s[i]]) := by
      have a1 : ((0 : Int) ≤ (i : Int) + 1 ∧ (i : Int) + 1 ≤ (s.length : Int)) := by omega
      have a2 : ((0 : Int) ≤ (i : Int) ∧ (i : Int) ≤ (((i : Int) + 1).toNat : Int)) := by omega
      simp only [evSls, optIxv, asNat, if_pos a1, if_pos a2]
      have e2 : ((i : Int) + 1).toNat = i + 1 := by omega
      rw [e2, Int.toNat_natCast, List.drop_take, show i + 1 - i = 1 by omega, List.drop_eq_getElem_cons hlt]
      rfl
    have hm := s_has mayB s[i]
    rw [may_ok] at hm
    rw [q57_L2_go, e1]
    simp only [q57_5, evLen_str, ob_some, evBin_lss, hc, decide_true, cnd_t]
    cases hb : okB s[i] with
    | true =>
      rw [hb] at hm
      simp [q57_4, wrap_up hlt hs, hsl, hm, q57_3, ih]
    | false =>
      rw [hb] at hm
      simp [q57_4, wrap_up hlt hs, hsl, hm]
@[simp] theorem s_RName (s : List UInt8) (hs : s.length ≤ 9223372036854775807) : (callW E).p 69 [.str s, .bool false] = some ⟨.bool (nameOk s), [], true, [], []⟩ := by
  have h0 := RName_loop s hs [] _ 0 (Nat.zero_add _)
  simp only [Int.ofNat_zero, List.drop_zero] at h0
  rw [x_q57]
  have e : q57_11 (.str s) (.bool false) [] = q57_L2 (.str s) (.str mayB) (.int .i64 0) [] := by simp [q57_1, q57_3, q57_4, q57_5, q57_7, q57_9, q57_10, q57_11]; rfl
  rw [e, h0, nameOk]
  cases hal : s.all okB with
  | false => simp
  | true =>
    by_cases h1 : s = []
    · subst h1; simp [q57_1]
    · have h2 : 1 ≤ s.length := by have := List.length_pos_iff.2 h1; omega
      by_cases h3 : s.length ≤ 60
      · have : ((s.length : Int) ≤ 60) := by omega
        simp [q57_1, h1, h2, h3, this]
      · have : ¬ ((s.length : Int) ≤ 60) := by omega
        simp [q57_1, h1, h2, h3, this]
def refTypeM (s : List UInt8) : Bool :=
  decide (lead s ≤ 8) && (decide (s.drop (lead s) = [73]) || decide (s.drop (lead s) = [74]) ||
    (decide (2 < (s.drop (lead s)).length) && decide ((s.drop (lead s))[0]? = some 76) && decide ((s.drop (lead s))[(s.drop (lead s)).length - 1]? = some 59) && nameOk (((s.drop (lead s)).take ((s.drop (lead s)).length - 1)).drop 1)))
theorem RType_lead (s : List UInt8) (hs : s.length ≤ 9223372036854775807) (h : Heap) : ∀ (d i : Nat), i + d = lead s → q58_L5 (.str s) (.int .i64 i) h = q58_4 (.str s) (.int .i64 (lead s)) h := by
  intro d
  induction d with
  | zero =>
    intro i hi
    obtain rfl : i = lead s := by omega
    rw [q58_L5_go]
    have := lead_le s
    by_cases hc : lead s < s.length
    · have e := List.getElem?_eq_getElem hc
      have hne := lead_at e
      have hc' : ((lead s : Int) < (s.length : Int)) := by omega
      have hb : ¬ ((s[lead s].toNat : Int) = 91) := fun hh => hne ((byte_eq _ 91).1 hh)
      simp [q58_7, hc', ixstr e, hb]
    · have hc' : ¬ ((lead s : Int) < (s.length : Int)) := by omega
      simp [q58_7, hc']
  | succ d ih =>
    intro i hi
    have e := lead_lt (s := s) (i := i) (by omega)
    have := lead_le s
    have hc' : ((i : Int) < (s.length : Int)) := by omega
    have ih := ih (i + 1) (by omega)
    push_cast at ih
    rw [q58_L5_go]
    simp [q58_7, hc', ixstr e, q58_6, wrap_up (show i < s.length by omega) hs, ih]
theorem s_RType0 (s : List UInt8) (hs : s.length ≤ 9223372036854775807) : (callW E).p 67 [.str s] = some ⟨.bool (refTypeM s), [], true, [], []⟩ := by
  have h0 := RType_lead s hs [] _ 0 (Nat.zero_add _)
  simp only [Int.ofNat_zero] at h0
  rw [x_q58]
  have e : q58_11 (.str s) [] = q58_L5 (.str s) (.int .i64 0) [] := by simp [q58_1, q58_2, q58_3, q58_4, q58_6, q58_7, q58_10, q58_11]
  rw [e, h0, refTypeM]
  have hle := lead_le s
  have hsl : evSls (.str s) (some (.int .i64 (lead s))) none = some (.str (s.drop (lead s))) := by
    have a2 : ((0 : Int) ≤ (lead s : Int) ∧ (lead s : Int) ≤ (s.length : Int)) := by omega
    simp only [evSls, optIxv, asNat, if_pos a2]
    simp
  by_cases h8 : 8 < lead s
  · have h8' : ((8 : Int) < (lead s : Int)) := by omega
    have : ¬ lead s ≤ 8 := by omega
    simp [q58_4, hsl, q58_3, h8', this]
  · have h8' : ¬ ((8 : Int) < (lead s : Int)) := by omega
    have h8n : lead s ≤ 8 := by omega
    have hrl : (s.drop (lead s)).length ≤ 9223372036854775807 := by rw [List.length_drop]; omega
    simp only [q58_4, hsl, ob_some, q58_3, evBin_gtr, h8', decide_false, cnd_f, h8n, decide_true, Bool.true_and]
    generalize s.drop (lead s) = r at *
    by_cases c1 : r = [73]
    · simp [q58_2, c1]
    by_cases c2 : r = [74]
    · simp [q58_2, c2]
    by_cases c3 : 2 < r.length
    · have c3' : ((2 : Int) < (r.length : Int)) := by omega
      have k0 := List.getElem?_eq_getElem (l := r) (i := 0) (by omega)
      have k1 := List.getElem?_eq_getElem (l := r) (i := r.length - 1) (by omega)
      have i0 := ixstr k0
      have i1 := ixstr k1
      simp only [Int.ofNat_zero] at i0
      have hw : IntKind.wrap .i64 ((r.length : Int) - 1) = ((r.length - 1 : Nat) : Int) := by rw [wrap_i64] <;> omega
      have hs2 : evSls (.str r) (some (.int .i64 1)) (some (.int .i64 ((r.length - 1 : Nat) : Int))) = some (.str ((r.take (r.length - 1)).drop 1)) := by
        have a1 : ((0 : Int) ≤ ((r.length - 1 : Nat) : Int) ∧ ((r.length - 1 : Nat) : Int) ≤ (r.length : Int)) := by omega
        have a2 : ((0 : Int) ≤ (1 : Int) ∧ (1 : Int) ≤ (((r.length - 1 : Nat) : Int).toNat : Int)) := by omega
        simp only [evSls, optIxv, asNat, if_pos a1, if_pos a2]
        rfl
      have hn := s_RName ((r.take (r.length - 1)).drop 1) (by rw [List.length_drop, List.length_take]; omega)
      rw [k0, k1]
      generalize r[0] = b0 at *
      generalize r[r.length - 1] = b1 at *
      generalize nameOk ((r.take (r.length - 1)).drop 1) = N at *
      have hn' := hn
      simp only [List.drop_one] at hn'
      by_cases d0 : b0 = 76
      · by_cases d1 : b1 = 59
        · simp [q58_2, q58_1, c1, c2, c3, c3', i0, i1, hw, hs2, hn', d0, d1]
        · have d1' : ¬ ((b1.toNat : Int) = 59) := fun hh => d1 ((byte_eq _ 59).1 hh)
          simp [q58_2, q58_1, c1, c2, c3, c3', i0, i1, hw, d0, d1, d1']
      · have d0' : ¬ ((b0.toNat : Int) = 76) := fun hh => d0 ((byte_eq _ 76).1 hh)
        simp [q58_2, q58_1, c1, c2, c3, c3', i0, d0, d0']
    · have c3' : ¬ ((2 : Int) < (r.length : Int)) := by omega
      simp [q58_2, q58_1, c1, c2, c3, c3']
theorem nameOk_59 {l : List UInt8} (h : nameOk l = true) : 59 ∉ l ∧ 1 ≤ l.length := by
  simp only [nameOk, Bool.and_eq_true, decide_eq_true_eq, List.all_eq_true] at h
  refine ⟨fun hm => ?_, h.1.1⟩
  have := h.2 59 hm
  exact absurd this (by decide)
theorem type_same (s : List UInt8) : refTypeM s = typeOk s := by
  rw [Bool.eq_iff_iff]
  simp only [refTypeM, typeOk, Bool.and_eq_true, Bool.or_eq_true, decide_eq_true_eq]
  have hle := lead_le s
  have hdl : (s.drop (lead s)).length = s.length - lead s := List.length_drop
  by_cases hne : s = []
  · subst hne; simp [lead, takeM]
  have hpos : 0 < s.length := List.length_pos_iff.2 hne
  simp only [hne, not_false_eq_true, true_and, ne_eq]
  unfold takeM
  by_cases h8 : 8 < lead s
  · rw [if_pos (.inl h8)]
    constructor
    · rintro ⟨h, _⟩; omega
    · intro h; omega
  by_cases hl : lead s = s.length
  · rw [if_pos (.inr hl)]
    have : s.drop (lead s) = [] := List.drop_eq_nil_of_le (by omega)
    rw [this]
    constructor
    · rintro ⟨_, h⟩; simp at h
    · intro h; omega
  rw [if_neg (by omega)]
  have hlt : lead s < s.length := by omega
  have hd : s.drop (lead s) = s[lead s] :: s.drop (lead s + 1) := List.drop_eq_getElem_cons hlt
  have h8n : lead s ≤ 8 := by omega
  rw [List.getElem?_eq_getElem hlt]
  have hrl : (s.drop (lead s + 1)).length = s.length - (lead s + 1) := List.length_drop
  have htk : ∀ j, (s.take (lead s + 1 + j)).drop (lead s + 1) = (s.drop (lead s + 1)).take j := by
    intro j; rw [List.drop_take]; congr 1; omega
  simp only [htk]
  rw [hd]
  generalize s[lead s] = c at *
  generalize hr : s.drop (lead s + 1) = r at *
  simp only [h8n, true_and, Option.some.injEq, List.cons.injEq, List.length_cons, List.getElem?_cons_zero, Nat.add_sub_cancel]
  by_cases c1 : c = 73
  · subst c1
    simp only [true_or, if_true, true_and]
    have e1 : (s.length = lead s + 1) ↔ r = [] := by rw [← List.length_eq_zero_iff, hrl]; omega
    constructor
    · rintro (h | h)
      · rcases h with h | h
        · exact (e1.2 h).symm
        · exact absurd h.1 (by decide)
      · exact absurd h.1.1.2 (by decide)
    · intro h; exact .inl (.inl (e1.1 h.symm))
  by_cases c2 : c = 74
  · subst c2
    simp only [or_true, if_true, true_and]
    have e1 : (s.length = lead s + 1) ↔ r = [] := by rw [← List.length_eq_zero_iff, hrl]; omega
    constructor
    · rintro (h | h)
      · rcases h with h | h
        · exact absurd h.1 (by decide)
        · exact (e1.2 h).symm
      · exact absurd h.1.1.2 (by decide)
    · intro h; exact .inl (.inr (e1.1 h.symm))
  simp only [c1, c2, or_self, if_false, false_and, false_or]
  by_cases c3 : c = 76
  · subst c3
    simp only [if_true, true_and, and_true]
    have idx : ∀ j, j < r.length → r[j]? = some 59 → 59 ∉ r.take j → r.findIdx (· == 59) = j := by
      intro j hj h1 h2
      rw [List.getElem?_eq_getElem hj] at h1
      rw [List.findIdx_eq hj]
      refine ⟨by simpa using h1, fun k hk => ?_⟩
      have : r[k]'(by omega) ∈ r.take j := List.mem_take_iff_getElem.2 ⟨k, by omega, rfl⟩
      simp only [beq_eq_false_iff_ne, ne_eq]
      intro he
      rw [he] at this
      exact h2 this
    constructor
    · rintro ⟨⟨h1, h2⟩, h3⟩
      have e0 : (76 :: r : List UInt8)[r.length]? = r[r.length - 1]? := by
        rw [show r.length = (r.length - 1) + 1 by omega]; simp
      rw [e0] at h2
      have e1 : ((76 :: r : List UInt8).take r.length).drop 1 = r.take (r.length - 1) := by
        rw [show r.length = (r.length - 1) + 1 by omega]; simp
      rw [e1] at h3
      have := idx (r.length - 1) (by omega) h2 (nameOk_59 h3).1
      rw [this, if_pos ⟨by omega, h3⟩]
      omega
    · intro h
      split at h
      · rename_i hc
        have hj : r.findIdx (· == 59) = r.length - 1 := by omega
        have hn := nameOk_59 hc.2
        have hlen := hn.2
        rw [List.length_take, hj] at hlen
        have h59 : r[r.length - 1]? = some 59 := by
          have := List.findIdx_getElem (w := hc.1)
          rw [List.getElem?_eq_getElem (by omega)]
          simp only [hj] at this
          simpa using this
        rw [hj] at hc
        refine ⟨⟨by omega, ?_⟩, ?_⟩
        · rw [show r.length = (r.length - 1) + 1 by omega]; simpa using h59
        · have e1 : ((76 :: r : List UInt8).take r.length).drop 1 = r.take (r.length - 1) := by
            rw [show r.length = (r.length - 1) + 1 by omega]; simp
          rw [e1]; exact hc.2
      · omega
  · simp only [c3, if_false, and_false, false_and]
    constructor
    · intro h; exact h.elim
    · intro h; omega
theorem s_RType (s : List UInt8) (hs : s.length ≤ 9223372036854775807) : (callW E).p 67 [.str s] = some ⟨.bool (typeOk s), [], true, [], []⟩ := by
  rw [s_RType0 s hs, type_same]
end Go.Vm
namespace Go.Vm
open Cel
attribute [local simp] callAny callP heapOf_nil fpCall
abbrev H2 (f : Fn) (x : Ins) : Heap := [⟨1, .arr true false 5 [enc f]⟩, ⟨1, .arr true false 9 [enc x]⟩]
abbrev H3 (f : Fn) (x : Ins) : Heap := [⟨1, .arr true false 5 [enc f]⟩, ⟨1, .arr true false 9 [enc x]⟩, ⟨1, .arr false false 1 [[.int .i64 x.d], [.int .i64 x.a], [.int .i64 x.b], [.int .i64 x.c]]⟩]
abbrev Q0 : AV := .lp 0 1 0 0
abbrev Q1 : AV := .lp 1 1 0 0
def lastM (R : List Int) (x : Ins) : Bool :=
  (!decide (x.op = 24) && !decide (x.op = 25)) || (match lst x.args with
    | [] => false
    | r :: _ => decide (regK R r = 3))
def callM (R : List Int) (x : Ins) : Bool :=
  !((decide (x.n < 0) && !decide (x.op = 25)) || decide (21 < (lst x.args).length) || (!decide (x.d = -1) && decide (regK R x.d = 0))) && ((lst x.args).all (fun r => !decide (regK R r = 0)) && lastM R x)
theorem call_last (f : Fn) (x : Ins) : q69_1 Q0 Q1 (H2 f x) = some ⟨.bool (lastM (lst f.regs) x), [], true, [], []⟩ := by
  by_cases o1 : x.op = 24
  · cases ha : lst x.args with
    | nil => simp [q69_1, o1, lastM, ha, pairsOk]
    | cons r t =>
      have k1 := ixs_int (o := x.args) (i := 0) (x := r) (by rw [ha]; rfl) .i64
      simp only [Int.ofNat_zero] at k1
      simp [q69_1, o1, lastM, ha, k1, pairsOk]
  · by_cases o2 : x.op = 25
    · cases ha : lst x.args with
      | nil => simp [q69_1, o2, lastM, ha, pairsOk]
      | cons r t =>
        have k1 := ixs_int (o := x.args) (i := 0) (x := r) (by rw [ha]; rfl) .i64
        simp only [Int.ofNat_zero] at k1
        simp [q69_1, o2, lastM, ha, k1, pairsOk]
    · simp [q69_1, o1, o2, lastM, pairsOk]
theorem call_loop (f : Fn) (x : Ins) (hl : (lst x.args).length ≤ 9223372036854775807) : ∀ (d i : Nat), i + d = (lst x.args).length →
    q69_L2 Q0 Q1 (.int .i64 i) (H2 f x) = some ⟨.bool (((lst x.args).drop i).all (fun r => !decide (regK (lst f.regs) r = 0)) && lastM (lst f.regs) x), [], true, [], []⟩ := by
  intro d
  induction d with
  | zero =>
    intro i hi
    have e1 : (lst x.args).drop i = [] := List.drop_eq_nil_of_le (by omega)
    have hn : ¬ ((i : Int) < ((lst x.args).length : Int)) := by omega
    rw [q69_L2_go, e1]
    simp [q69_5, hn, call_last]
  | succ d ih =>
    intro i hi
    have hlt : i < (lst x.args).length := by omega
    have hn : ((i : Int) < ((lst x.args).length : Int)) := by omega
    have k1 := ixs_int (o := x.args) (i := i) (List.getElem?_eq_getElem hlt) .i64
    have e1 : ((lst x.args).drop i).all (fun r => !decide (regK (lst f.regs) r = 0)) = ((!decide (regK (lst f.regs) (lst x.args)[i] = 0)) && ((lst x.args).drop (i + 1)).all (fun r => !decide (regK (lst f.regs) r = 0))) := by
      rw [List.drop_eq_getElem_cons hlt, List.all_cons]
    have ih := ih (i + 1) (by omega)
    push_cast at ih
    rw [q69_L2_go, e1]
    generalize (lst x.args)[i] = r at *
    have hs := s_kind f r
    by_cases hz : regK (lst f.regs) r = 0
    · rw [hz] at hs
      simp [q69_5, hn, q69_4, k1, hs, hz, pairsOk]
    · generalize regK (lst f.regs) r = k at *
      simp [q69_5, hn, q69_4, k1, hs, hz, pairsOk, q69_3, wrap_up hlt hl]
      exact ih
theorem s_call (f : Fn) (x : Ins) (hl : (lst x.args).length ≤ 9223372036854775807) : (callW E).p 68 [.agg (enc f), .agg (enc x)] = some ⟨.bool (callM (lst f.regs) x), [], true, [], []⟩ := by
  rw [x_q69]
  have h0 := call_loop f x hl _ 0 (Nat.zero_add _)
  simp only [Int.ofNat_zero, List.drop_zero] at h0
  have hs := s_kind f x.d
  have e21 : ((21 : Int) < ((lst x.args).length : Int)) ↔ 21 < (lst x.args).length := by omega
  unfold callM
  generalize ((lst x.args).all (fun r => !decide (regK (lst f.regs) r = 0)) && lastM (lst f.regs) x) = T at *
  generalize regK (lst f.regs) x.d = kd at *
  by_cases h21 : 21 < (lst x.args).length
  · have h21' := e21.2 h21
    by_cases hn : x.n < 0
    · by_cases o5 : x.op = 25 <;> simp [q69_1, q69_3, q69_4, q69_5, q69_7, q69_9, q69_10, hn, o5, h21, h21', pairsOk, fpApart, meets]
    · simp [q69_1, q69_3, q69_4, q69_5, q69_7, q69_9, q69_10, hn, h21, h21', pairsOk, fpApart, meets]
  · have h21' : ¬ ((21 : Int) < ((lst x.args).length : Int)) := by omega
    by_cases hn : x.n < 0
    · by_cases o5 : x.op = 25
      · by_cases hd : x.d = -1
        · simp [q69_1, q69_3, q69_4, q69_5, q69_7, q69_9, q69_10, hn, o5, h21, h21', hd, h0, pairsOk, fpApart, meets]
        · by_cases hk : kd = 0
          · simp [q69_1, q69_3, q69_4, q69_5, q69_7, q69_9, q69_10, hn, o5, h21, h21', hd, hs, hk, h0, pairsOk, fpApart, meets]
          · simp [q69_1, q69_3, q69_4, q69_5, q69_7, q69_9, q69_10, hn, o5, h21, h21', hd, hs, hk, h0, pairsOk, fpApart, meets]
      · simp [q69_1, q69_3, q69_4, q69_5, q69_7, q69_9, q69_10, hn, o5, h21, h21', pairsOk, fpApart, meets]
    · by_cases hd : x.d = -1
      · simp [q69_1, q69_3, q69_4, q69_5, q69_7, q69_9, q69_10, hn, h21, h21', hd, h0, pairsOk, fpApart, meets]
      · by_cases hk : kd = 0
        · simp [q69_1, q69_3, q69_4, q69_5, q69_7, q69_9, q69_10, hn, h21, h21', hd, hs, hk, h0, pairsOk, fpApart, meets]
        · simp [q69_1, q69_3, q69_4, q69_5, q69_7, q69_9, q69_10, hn, h21, h21', hd, hs, hk, h0, pairsOk, fpApart, meets]
end Go.Vm
