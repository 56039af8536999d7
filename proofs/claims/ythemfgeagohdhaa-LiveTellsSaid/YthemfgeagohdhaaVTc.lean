/- The document's Before, After, Across on the machine. The sweeps end, and leave what is live. The machine's sets of registers. What the functions of 'ins' answer of single instructions. Which instructions may throw. A number in a list: the library's 'Contains'. flow.Next, flow.Caught. Clones of lists of numbers. What 'Uses' answers. The register that an instruction writes. live.Of: the sweeps over the table are as the plain words have them. live.Of: one sweep, and all sweeps. live.Of: all sweeps. live.Of: how its answer reads. live's sets, read only. -/
import Derived.Test.YthemfgeagohdhaaVX
import Derived.Test.YthemfgeagohdhaaVTb
set_option linter.unusedSimpArgs false
set_option linter.unusedVariables false
set_option linter.unusedSectionVars false
namespace Go.Vm
open Cel
theorem okK_of {α : Type} {b : Bool} (h : b = true) (x : Option α) : okK b x = x := by rw [h]; rfl
open Classical in
noncomputable def befR (f : Fn) (i r : Int) : Bool := decide (0 ≤ i) && (decide (i < (lst f.code).length) && (decide (0 ≤ r) && (decide (r < (lst f.regs).length) && decide (fromP f [i] r.toNat))))
open Classical in
noncomputable def aftR (f : Fn) (i r : Int) : Bool := decide (0 ≤ i) && (decide (i < (lst f.code).length) && (decide (0 ≤ r) && (decide (r < (lst f.regs).length) && decide (fromP f (nextL f i) r.toNat))))
open Classical in
noncomputable def acrR (f : Fn) (i r : Int) : Bool := decide (0 ≤ i) && (decide (i < (lst f.code).length) && (decide (0 ≤ r) && (decide (r < (lst f.regs).length) && (decide (fromP f (caughtL f i) r.toNat) || (aftR f i r && decide (defr (insAt f i.toNat) ≠ r))))))
section
variable (f : Fn) (w : Wf f) (hs : ArgsSm f) (hr : (lst f.rows).length ≤ 10000000000000)
include w hs hr
theorem s_RBefore (i r : Int) : (callW E).p 89 [.agg (enc f), .int .i64 i, .int .i64 r] = some ⟨.bool (befR f i r), [], true, [], []⟩ := by
  rw [x_q86]
  have n0 : newC 0 (some 0) (cellsOf (.agg (enc f))) [D0, D0] = some (.lp 0 1 0 0, [AB f, D0]) := by simp
  have l0 : ∀ t : Heap, evLd true 5 (.lp 0 1 0 0) (AB f :: t) = some (.agg (enc f)) := fun t => by simp
  have l3 : ∀ t : Heap, evLd false 1 (.lp 0 1 0 3) (AB f :: t) = some (slA f.code) := fun t => by simp
  have lr : ∀ t : Heap, evLd false 1 (.lp 0 1 0 0) (AB f :: t) = some (slA f.regs) := fun t => by simp
  unfold befR
  by_cases h1 : 0 ≤ i
  · by_cases h2 : i < (lst f.code).length
    · by_cases h3 : 0 ≤ r
      · by_cases h4 : r < (lst f.regs).length
        · have bs : buildSC 0 (some 1) 1 1 [.int .i64 0] [(0, .int .i64 i)] [AB f, D0] = some (.ls 1 1 1 0 1, [AB f, AI 1 [i]]) := by simp [buildSC, fillRows]
          obtain ⟨H', c1, _⟩ := s_from f w hs hr r.toNat 0 [AB f, AI 1 [i]] [i] (.ls 1 1 1 0 1) (fun j hj => by rw [List.mem_singleton] at hj; subst hj; exact ⟨h1, h2⟩) (by simp) (.inr ⟨1, 1, [], by simp, rfl, by simp⟩)
          rw [show ((r.toNat : Nat) : Int) = r by omega] at c1
          simp only [q86_1, n0, oh_some, evBin_geq, ob_some, h1, decide_true, gb_tt, evFa_lp, Nat.zero_add, l3, evLen_sl, evBin_lss, h2, evPick_t, h3, lr, h4, l0, gh_tt, bs, c1, expo1_bool', Bool.true_and]
        · simp only [q86_1, n0, oh_some, evBin_geq, ob_some, h1, decide_true, gb_tt, evFa_lp, Nat.zero_add, l3, evLen_sl, evBin_lss, h2, evPick_t, h3, lr, h4, decide_false, gb_ft, gh_ft, evPick_f, expo1_bool', Bool.true_and, Bool.false_and]
      · simp only [q86_1, n0, oh_some, evBin_geq, ob_some, h1, decide_true, gb_tt, evFa_lp, Nat.zero_add, l3, evLen_sl, evBin_lss, h2, evPick_t, h3, decide_false, gb_ft, gh_ft, evPick_f, expo1_bool', Bool.true_and, Bool.false_and]
    · simp only [q86_1, n0, oh_some, evBin_geq, ob_some, h1, decide_true, gb_tt, evFa_lp, Nat.zero_add, l3, evLen_sl, evBin_lss, h2, evPick_t, decide_false, gb_ft, gh_ft, evPick_f, expo1_bool', Bool.true_and, Bool.false_and]
  · simp only [q86_1, n0, oh_some, evBin_geq, ob_some, h1, decide_false, gb_ft, gh_ft, evPick_f, expo1_bool', Bool.false_and]
theorem s_RAfter (i r : Int) : (callW E).p 90 [.agg (enc f), .int .i64 i, .int .i64 r] = some ⟨.bool (aftR f i r), [], true, [], []⟩ := by
  have hn := w.n2
  rw [x_q85]
  have n0 : newC 0 (some 0) (cellsOf (.agg (enc f))) [D0, D0] = some (.lp 0 1 0 0, [AB f, D0]) := by simp
  have l0 : ∀ t : Heap, evLd true 5 (.lp 0 1 0 0) (AB f :: t) = some (.agg (enc f)) := fun t => by simp
  have l3 : ∀ t : Heap, evLd false 1 (.lp 0 1 0 3) (AB f :: t) = some (slA f.code) := fun t => by simp
  have lr : ∀ t : Heap, evLd false 1 (.lp 0 1 0 0) (AB f :: t) = some (slA f.regs) := fun t => by simp
  unfold aftR
  by_cases h1 : 0 ≤ i
  · by_cases h2 : i < (lst f.code).length
    · by_cases h3 : 0 ≤ r
      · by_cases h4 : r < (lst f.regs).length
        · have af : ∀ H : Heap, fzList (fz H fuelF) [.agg (enc f), .int .i64 i] = some ⟨[.agg (enc f), .int .i64 i], scal f && (true && true), []⟩ := fun H => by
            rw [fzList_cons, fzList_cons, fz_enc, fz_int', fzList_nil]; rfl
          have hN := s_RNext f i (by omega)
          have fN : ∀ H, fpCall E (callW E) 0 (some 1) false 95 [.agg (enc f), .int .i64 i] H = some ([], ownI (0 + 1) (nz (nextL f i))) := fun H => fp_own rfl (af H) hN rfl
          have cN := call_slot (α := Int) (E := E) (C := callW E) (fb := 0) (j := 1) (f := 95) (H := [AB f, D0]) (o := D0) rfl (af _) hN (.inl (by simp)) rfl
          have hlen := nextL_len f i
          have hv : (nextL f i = [] ∧ slotV Int (0 + 1) (D0.gen + 1) (nextL f i) = .nils) ∨ ∃ k g T, k < ([AB f, D0].set (0 + 1) (slotO (D0.gen + 1) D0 (nextL f i))).length ∧ slotV Int (0 + 1) (D0.gen + 1) (nextL f i) = .ls k g 1 0 (nextL f i).length ∧ ([AB f, D0].set (0 + 1) (slotO (D0.gen + 1) D0 (nextL f i)))[k]? = some (AI g (nextL f i ++ T)) := by
            cases hN2 : nextL f i with
            | nil => exact .inl ⟨rfl, rfl⟩
            | cons a l => exact .inr ⟨1, 1, [], by simp, rfl, by simp [slotO]⟩
          have hlt : i.toNat < (lst f.code).length := by omega
          obtain ⟨H', c1, _⟩ := s_from f w hs hr r.toNat 0 ([AB f, D0].set (0 + 1) (slotO (D0.gen + 1) D0 (nextL f i))) (nextL f i) (slotV Int (0 + 1) (D0.gen + 1) (nextL f i)) (fun j hj => by
            have := w.next hlt (to := j) (by rw [show ((i.toNat : Nat) : Int) = i by omega]; exact hj)
            exact this) (by omega) hv
          rw [show ((r.toNat : Nat) : Int) = r by omega] at c1
          simp only [q85_1, n0, oh_some, evBin_geq, ob_some, h1, decide_true, gb_tt, fgd_tt, ofp_some, evFa_lp, Nat.zero_add, l3, evLen_sl, evBin_lss, h2, evPick_t, h3, lr, h4, l0, gh_tt, fN, cN, c1, expo1_bool', Bool.true_and]
          refine okK_of ?_ _
          cases nextL f i <;> rfl
        · simp only [q85_1, n0, oh_some, evBin_geq, ob_some, h1, decide_true, gb_tt, fgd_tt, fgd_ft, ofp_some, evFa_lp, Nat.zero_add, l3, evLen_sl, evBin_lss, h2, evPick_t, h3, lr, h4, decide_false, gb_ft, gh_ft, evPick_f, expo1_bool', Bool.true_and, Bool.false_and]
          exact okK_of rfl _
      · simp only [q85_1, n0, oh_some, evBin_geq, ob_some, h1, decide_true, gb_tt, fgd_tt, fgd_ft, ofp_some, evFa_lp, Nat.zero_add, l3, evLen_sl, evBin_lss, h2, evPick_t, h3, decide_false, gb_ft, gh_ft, evPick_f, expo1_bool', Bool.true_and, Bool.false_and]
        exact okK_of rfl _
    · simp only [q85_1, n0, oh_some, evBin_geq, ob_some, h1, decide_true, gb_tt, fgd_tt, fgd_ft, ofp_some, evFa_lp, Nat.zero_add, l3, evLen_sl, evBin_lss, h2, evPick_t, decide_false, gb_ft, gh_ft, evPick_f, expo1_bool', Bool.true_and, Bool.false_and]
      exact okK_of rfl _
  · simp only [q85_1, n0, oh_some, evBin_geq, ob_some, h1, decide_false, gb_ft, gh_ft, fgd_ft, ofp_some, evPick_f, expo1_bool', Bool.false_and]
    exact okK_of rfl _
theorem s_RAcross (i r : Int) : (callW E).p 91 [.agg (enc f), .int .i64 i, .int .i64 r] = some ⟨.bool (acrR f i r), [], true, [], []⟩ := by
  have hn := w.n2
  rw [x_q84]
  have n0 : newC 0 (some 0) (cellsOf (.agg (enc f))) [D0, D0] = some (.lp 0 1 0 0, [AB f, D0]) := by simp
  have l0 : ∀ t : Heap, evLd true 5 (.lp 0 1 0 0) (AB f :: t) = some (.agg (enc f)) := fun t => by simp
  have l3 : ∀ t : Heap, evLd false 1 (.lp 0 1 0 3) (AB f :: t) = some (slA f.code) := fun t => by simp
  have lr : ∀ t : Heap, evLd false 1 (.lp 0 1 0 0) (AB f :: t) = some (slA f.regs) := fun t => by simp
  unfold acrR
  by_cases h1 : 0 ≤ i
  · have h1' : ¬ i < 0 := by omega
    by_cases h2 : i < (lst f.code).length
    · have h2' : ¬ ((lst f.code).length : Int) ≤ i := by omega
      by_cases h3 : 0 ≤ r
      · have h3' : ¬ r < 0 := by omega
        by_cases h4 : r < (lst f.regs).length
        · have h4' : ¬ ((lst f.regs).length : Int) ≤ r := by omega
          have af : ∀ H : Heap, fzList (fz H fuelF) [.agg (enc f), .int .i64 i] = some ⟨[.agg (enc f), .int .i64 i], scal f && (true && true), []⟩ := fun H => by
            rw [fzList_cons, fzList_cons, fz_enc, fz_int', fzList_nil]; rfl
          have a3 : ∀ H : Heap, fzList (fz H fuelF) [.agg (enc f), .int .i64 i, .int .i64 r] = some ⟨[.agg (enc f), .int .i64 i, .int .i64 r], scal f && (true && (true && true)), []⟩ := fun H => by
            rw [fzList_cons, fzList_cons, fzList_cons, fz_enc, fz_int', fz_int', fzList_nil]; rfl
          have hlt : i.toNat < (lst f.code).length := by omega
          have kx := ixs_insI (o := f.code) h1 (insAt_lt hlt) .i64
          have lx : ∀ t : Heap, evLd true 9 (.rp (enc (insAt f i.toNat))) t = some (.agg (enc (insAt f i.toNat))) := fun t => by simp
          have hax : ∀ H : Heap, fzList (fz H fuelF) [.agg (enc (insAt f i.toNat))] = some ⟨[.agg (enc (insAt f i.toNat))], scal (insAt f i.toNat) && true, []⟩ := fun H => by
            rw [fzList_cons, fz_enc, fzList_nil]; rfl
          have cD : ∀ H, callAny E (callW E) 0 none true 16 [.agg (enc (insAt f i.toNat))] H = some (.int .i64 (defr (insAt f i.toNat)), H) := fun H => call_reads rfl (hax H) rfl (s_RDef _) ⟨_, rfl, rfl⟩
          have fD : ∀ H, fpCall E (callW E) 0 none true 16 [.agg (enc (insAt f i.toNat))] H = some ([], []) := fun H => fp_reads rfl (hax H) rfl (s_RDef _)
          have hA := s_RAfter f w hs hr i r
          have cA : ∀ H, callAny E (callW E) 0 none true 90 [.agg (enc f), .int .i64 i, .int .i64 r] H = some (.bool (aftR f i r), H) := fun H => call_reads rfl (a3 H) rfl hA ⟨_, rfl, rfl⟩
          have fA : ∀ H, fpCall E (callW E) 0 none true 90 [.agg (enc f), .int .i64 i, .int .i64 r] H = some ([], []) := fun H => fp_reads rfl (a3 H) rfl hA
          have hN := s_RCaught f i (by omega)
          have fN : ∀ H, fpCall E (callW E) 0 (some 1) false 92 [.agg (enc f), .int .i64 i] H = some ([], ownI (0 + 1) (nz (caughtL f i))) := fun H => fp_own rfl (af H) hN rfl
          have cN := call_slot (α := Int) (E := E) (C := callW E) (fb := 0) (j := 1) (f := 92) (H := [AB f, D0]) (o := D0) rfl (af _) hN (.inl (by simp)) rfl
          have hlen := w.caught_len i
          have hv : (caughtL f i = [] ∧ slotV Int (0 + 1) (D0.gen + 1) (caughtL f i) = .nils) ∨ ∃ k g T, k < ([AB f, D0].set (0 + 1) (slotO (D0.gen + 1) D0 (caughtL f i))).length ∧ slotV Int (0 + 1) (D0.gen + 1) (caughtL f i) = .ls k g 1 0 (caughtL f i).length ∧ ([AB f, D0].set (0 + 1) (slotO (D0.gen + 1) D0 (caughtL f i)))[k]? = some (AI g (caughtL f i ++ T)) := by
            cases hN2 : caughtL f i with
            | nil => exact .inl ⟨rfl, rfl⟩
            | cons a l => exact .inr ⟨1, 1, [], by simp, rfl, by simp [slotO]⟩
          obtain ⟨H', c1, c2⟩ := s_from f w hs hr r.toNat 0 ([AB f, D0].set (0 + 1) (slotO (D0.gen + 1) D0 (caughtL f i))) (caughtL f i) (slotV Int (0 + 1) (D0.gen + 1) (caughtL f i)) (fun j hj => w.caught hj) (by omega) hv
          have hf0 : H'[0]? = some (AB f) := by
            have := c2 0 (by simp) (by rcases ids_slot (α := Int) (0 + 1) (D0.gen + 1) (caughtL f i) with h | h <;> rw [h] <;> simp)
            rw [this]; rfl
          have r0 : rowsAt H' 0 1 = some (false, 5, [enc f]) := by simp [rowsAt, objAt, hf0]
          have l0' : evLd true 5 (.lp 0 1 0 0) H' = some (.agg (enc f)) := by simp [evLd_lp, r0]
          have l3' : evLd false 1 (.lp 0 1 0 3) H' = some (slA f.code) := by simp [evLd_lp, r0]
          rw [show ((r.toNat : Nat) : Int) = r by omega] at c1
          generalize fromP f (caughtL f i) r.toNat = q at *
          by_cases hq : q
          · simp only [q84_1, q84_2, q84_3, n0, oh_some, evBin_geq, ob_some, h1, h1', decide_true, decide_false, gb_ff, evFa_lp, Nat.zero_add, l3, evLen_sl, evBin_lss, h2, h2', evPick_f, h3, h3', lr, h4, h4', cnd_f, l0, fN, ofp_some, cN, c1, hq, gb_tf, gh_tf, gb_tup, gh_tup, fgd_tf, fgd_tup, evPick_t, expo1_bool', Bool.true_and, Bool.true_or]
            refine okK_of ?_ _
            cases caughtL f i <;> rfl
          · cases ha : aftR f i r with
            | true =>
              rw [ha] at cA
              simp only [q84_1, q84_2, q84_3, n0, oh_some, evBin_geq, ob_some, h1, h1', decide_true, decide_false, gb_ff, gh_ff, evFa_lp, Nat.zero_add, l3, evLen_sl, evBin_lss, h2, h2', evPick_f, h3, h3', lr, h4, h4', cnd_f, l0, fN, ofp_some, cN, c1, hq, gb_tt, gh_tt, fgd_ff, fgd_tt, l0', l3', fA, cA, kx, lx, cD, fD, evBin_neq, evPick_t, expo1_bool', Bool.true_and, Bool.false_or]
              refine okK_of ?_ _
              cases caughtL f i <;> rfl
            | false =>
              rw [ha] at cA
              simp only [q84_1, q84_2, q84_3, n0, oh_some, evBin_geq, ob_some, h1, h1', decide_true, decide_false, gb_ff, gh_ff, evFa_lp, Nat.zero_add, l3, evLen_sl, evBin_lss, h2, h2', evPick_f, h3, h3', lr, h4, h4', cnd_f, l0, fN, ofp_some, cN, c1, hq, gb_ft, gh_ft, fgd_ff, fgd_ft, l0', fA, cA, evPick_t, expo1_bool', Bool.true_and, Bool.false_or, Bool.false_and]
              refine okK_of ?_ _
              cases caughtL f i <;> rfl
        · have h4' : ((lst f.regs).length : Int) ≤ r := by omega
          simp only [q84_1, q84_2, q84_3, n0, oh_some, evBin_geq, ob_some, h1', decide_true, decide_false, gb_ff, evFa_lp, Nat.zero_add, l3, evLen_sl, evBin_lss, h2', evPick_f, h3', lr, h4, h4', cnd_t, expo1_bool', Bool.and_false, Bool.false_and]
      · have h3' : r < 0 := by omega
        simp only [q84_1, q84_2, q84_3, n0, oh_some, evBin_geq, ob_some, h1', decide_true, decide_false, gb_ff, gb_tf, evFa_lp, Nat.zero_add, l3, evLen_sl, evBin_lss, h2', evPick_f, evPick_t, h3, h3', cnd_t, expo1_bool', Bool.and_false, Bool.false_and]
    · have h2' : ((lst f.code).length : Int) ≤ i := by omega
      simp only [q84_1, q84_2, q84_3, n0, oh_some, evBin_geq, ob_some, h1', decide_true, decide_false, gb_ff, gb_tf, evFa_lp, Nat.zero_add, l3, evLen_sl, evBin_lss, h2, h2', evPick_f, evPick_t, cnd_t, expo1_bool', Bool.and_false, Bool.false_and]
  · have h1' : i < 0 := by omega
    simp only [q84_1, q84_2, q84_3, n0, oh_some, evBin_geq, ob_some, h1, h1', decide_true, decide_false, gb_ff, gb_tf, evBin_lss, evPick_f, evPick_t, cnd_t, expo1_bool', Bool.and_false, Bool.false_and]
end
end Go.Vm
namespace Go.Vm
section
variable {f : Fn}
structure LvSnd (f : Fn) (t : Tb) : Prop where
  b : ∀ i, i < (lst f.code).length → ∀ r, bit (rowW t.b i) r = true → fromP f [(i : Int)] r
  a : ∀ i, i < (lst f.code).length → ∀ r, bit (rowW t.a i) r = true → fromP f (nextL f i) r
  h : ∀ i, i < (lst f.code).length → ∀ r, bit (rowW t.h i) r = true → fromP f (caughtL f i) r
structure Cl (f : Fn) (t : Tb) (i : Nat) : Prop where
  a : ∀ to ∈ nextL f i, ∀ r, bit (rowW t.b to.toNat) r = true → bit (rowW t.a i) r = true
  h : ∀ to ∈ caughtL f i, ∀ r, bit (rowW t.b to.toNat) r = true → bit (rowW t.h i) r = true
  b : ∀ r : Nat, (r : Int) ∈ usesAt f i ∨ bit (rowW t.h i) r = true ∨ (bit (rowW t.a i) r = true ∧ defr (insAt f i) ≠ r) → bit (rowW t.b i) r = true
variable (w : Wf f)
include w
theorem from_lt {A : List Int} {r : Nat} (h : fromP f A r) : r < (lst f.regs).length := by
  obtain ⟨i, hi, hu⟩ := h
  have := w.uses hi.lt hu
  omega
variable {t : Tb} (ok : TbOk (lst f.code).length ((lst f.regs).length / 64 + 1) t) {i : Nat} (hi : i < (lst f.code).length)
include ok hi
theorem next_in : ∀ to ∈ nextL f i, 0 ≤ to ∧ to < (lst f.code).length := fun _ h => w.next hi h
theorem aft_len : (aftT f t i).length = (lst f.regs).length / 64 + 1 := joins_len _ _ (ok.aw i hi) ok.bw (next_in w ok hi)
theorem han_len : (hanT f t i).length = (lst f.regs).length / 64 + 1 := joins_len _ _ (ok.hw i hi) ok.bw (fun _ h => w.caught h)
theorem bef_len : (befT f t i).length = (lst f.regs).length / 64 + 1 := by
  unfold befT
  rw [adds_len, joinW_len (by rw [dropD_len, aft_len w ok hi, han_len w ok hi]), dropD_len, aft_len w ok hi]
theorem aft_bit (r : Nat) : bit (aftT f t i) r = true ↔ bit (rowW t.a i) r = true ∨ ∃ to ∈ nextL f i, bit (rowW t.b to.toNat) r = true := joins_bit _ _ (ok.aw i hi) ok.bw (next_in w ok hi) r
theorem han_bit (r : Nat) : bit (hanT f t i) r = true ↔ bit (rowW t.h i) r = true ∨ ∃ to ∈ caughtL f i, bit (rowW t.b to.toNat) r = true := joins_bit _ _ (ok.hw i hi) ok.bw (fun _ h => w.caught h) r
theorem bef_bit (r : Nat) : bit (befT f t i) r = true ↔ (r : Int) ∈ usesAt f i ∨ bit (hanT f t i) r = true ∨ (bit (aftT f t i) r = true ∧ defr (insAt f i) ≠ r) := by
  unfold befT
  have h1 : (dropD (defr (insAt f i)) (aftT f t i)).length = (hanT f t i).length := by rw [dropD_len, aft_len w ok hi, han_len w ok hi]
  rw [adds_bit _ _ (fun u hu => by
    obtain ⟨u0, u1⟩ := w.uses hi hu
    rw [joinW_len h1, dropD_len, aft_len w ok hi]
    exact ⟨u0, by omega⟩), bit_join h1, Bool.or_eq_true, dropD_bit (fun hd => by
    have := w.def hi hd
    rw [aft_len w ok hi]; omega)]
  constructor
  · rintro ((h | h) | h)
    · exact .inr (.inr h)
    · exact .inr (.inl h)
    · exact .inl h
  · rintro (h | h | h)
    · exact .inr h
    · exact .inl (.inr h)
    · exact .inl (.inl h)
theorem lstep_ok : TbOk (lst f.code).length ((lst f.regs).length / 64 + 1) (stepT f t i) := by
  have e1 : (rowW t.b i).length = (befT f t i).length := by rw [ok.bw i hi, bef_len w ok hi]
  refine ⟨by simp [stepT, ok.b], by simp [stepT, ok.a], by simp [stepT, ok.h], fun j hj => ?_, fun j hj => ?_, fun j hj => ?_⟩
  · simp only [stepT]
    rw [row_set (by rw [ok.b]; exact hi)]
    split
    · rw [joinW_len e1, ok.bw i hi]
    · exact ok.bw j hj
  · simp only [stepT]
    rw [row_set (by rw [ok.a]; exact hi)]
    split
    · exact aft_len w ok hi
    · exact ok.aw j hj
  · simp only [stepT]
    rw [row_set (by rw [ok.h]; exact hi)]
    split
    · exact han_len w ok hi
    · exact ok.hw j hj
theorem lstep_b (j : Nat) : rowW (stepT f t i).b j = if j = i then joinW (rowW t.b i) (befT f t i) else rowW t.b j := row_set (by rw [ok.b]; exact hi)
theorem lstep_a (j : Nat) : rowW (stepT f t i).a j = if j = i then aftT f t i else rowW t.a j := row_set (by rw [ok.a]; exact hi)
theorem lstep_h (j : Nat) : rowW (stepT f t i).h j = if j = i then hanT f t i else rowW t.h j := row_set (by rw [ok.h]; exact hi)
theorem aft_sound (S : LvSnd f t) (r : Nat) (h : bit (aftT f t i) r = true) : fromP f (nextL f i) r := by
  rcases (aft_bit w ok hi r).1 h with h | ⟨to, ht, h⟩
  · exact S.a i hi r h
  · have hr := next_in w ok hi to ht
    have := S.b to.toNat (by omega) r h
    rw [show ((to.toNat : Nat) : Int) = to by omega] at this
    exact (from_some f).2 ⟨to, ht, hr.1, hr.2, this⟩
theorem han_sound (S : LvSnd f t) (r : Nat) (h : bit (hanT f t i) r = true) : fromP f (caughtL f i) r := by
  rcases (han_bit w ok hi r).1 h with h | ⟨to, ht, h⟩
  · exact S.h i hi r h
  · have hr := w.caught ht
    have := S.b to.toNat (by omega) r h
    rw [show ((to.toNat : Nat) : Int) = to by omega] at this
    exact (from_some f).2 ⟨to, ht, hr.1, hr.2, this⟩
theorem bef_sound (S : LvSnd f t) (r : Nat) (h : bit (befT f t i) r = true) : fromP f [(i : Int)] r := by
  rw [from_one f hi]
  rcases (bef_bit w ok hi r).1 h with h | h | ⟨h, hd⟩
  · exact .inl h
  · exact .inr (.inl (han_sound w ok hi S r h))
  · exact .inr (.inr ⟨hd, aft_sound w ok hi S r h⟩)
theorem lstep_snd (S : LvSnd f t) : LvSnd f (stepT f t i) := by
  refine ⟨fun j hj r h => ?_, fun j hj r h => ?_, fun j hj r h => ?_⟩
  · rw [lstep_b w ok hi] at h
    split at h
    · rename_i e
      subst e
      rw [bit_join (by rw [ok.bw j hj, bef_len w ok hj]), Bool.or_eq_true] at h
      rcases h with h | h
      · exact S.b j hj r h
      · exact bef_sound w ok hj S r h
    · exact S.b j hj r h
  · rw [lstep_a w ok hi] at h
    split at h
    · rename_i e
      subst e
      exact aft_sound w ok hj S r h
    · exact S.a j hj r h
  · rw [lstep_h w ok hi] at h
    split at h
    · rename_i e
      subst e
      exact han_sound w ok hj S r h
    · exact S.h j hj r h
theorem lstep_same (hm : moreT f t i = false) : (∀ j, rowW (stepT f t i).b j = rowW t.b j) ∧ Cl f (stepT f t i) i ∧ ∀ j, j ≠ i → Cl f t j → Cl f (stepT f t i) j := by
  have e1 : (rowW t.b i).length = (befT f t i).length := by rw [ok.bw i hi, bef_len w ok hi]
  have js := join_same e1 hm
  have hb : ∀ j, rowW (stepT f t i).b j = rowW t.b j := fun j => by
    rw [lstep_b w ok hi]
    split
    · rename_i e; rw [js, e]
    · rfl
  refine ⟨hb, ⟨fun to ht r h => ?_, fun to ht r h => ?_, fun r h => ?_⟩, fun j hj C => ⟨fun to ht r h => ?_, fun to ht r h => ?_, fun r h => ?_⟩⟩
  · rw [hb] at h
    rw [lstep_a w ok hi, if_pos rfl, aft_bit w ok hi]
    exact .inr ⟨to, ht, h⟩
  · rw [hb] at h
    rw [lstep_h w ok hi, if_pos rfl, han_bit w ok hi]
    exact .inr ⟨to, ht, h⟩
  · rw [lstep_h w ok hi, if_pos rfl, lstep_a w ok hi, if_pos rfl] at h
    have := (bef_bit w ok hi r).2 h
    rw [hb, ← js, bit_join e1, this, Bool.or_true]
  · rw [hb] at h
    rw [lstep_a w ok hi, if_neg hj]
    exact C.a to ht r h
  · rw [hb] at h
    rw [lstep_h w ok hi, if_neg hj]
    exact C.h to ht r h
  · rw [lstep_h w ok hi, if_neg hj, lstep_a w ok hi, if_neg hj] at h
    rw [hb]
    exact C.b r h
end
section
variable {f : Fn} (w : Wf f)
include w
theorem sweep_ok : ∀ (k : Nat) (t : Tb), k ≤ (lst f.code).length → TbOk (lst f.code).length ((lst f.regs).length / 64 + 1) t → LvSnd f t → TbOk (lst f.code).length ((lst f.regs).length / 64 + 1) (sweepT f k t).1 ∧ LvSnd f (sweepT f k t).1
  | 0, t, _, ok, S => ⟨ok, S⟩
  | k + 1, t, hk, ok, S => sweep_ok k _ (by omega) (lstep_ok w ok (by omega)) (lstep_snd w ok (by omega) S)
theorem sweep_same : ∀ (k : Nat) (t : Tb), k ≤ (lst f.code).length → TbOk (lst f.code).length ((lst f.regs).length / 64 + 1) t → (sweepT f k t).2 = false → (∀ j, j < k → Cl f (sweepT f k t).1 j) ∧ ∀ j, k ≤ j → Cl f t j → Cl f (sweepT f k t).1 j
  | 0, t, _, _, _ => ⟨fun _ h => by omega, fun _ _ h => h⟩
  | k + 1, t, hk, ok, h => by
    rw [sweepT, Bool.or_eq_false_iff] at h
    obtain ⟨_, c2, c3⟩ := lstep_same w ok (by omega) h.1
    obtain ⟨d1, d2⟩ := sweep_same k (stepT f t k) (by omega) (lstep_ok w ok (by omega)) h.2
    refine ⟨fun j hj => ?_, fun j hj C => d2 j (by omega) (c3 j (by omega) C)⟩
    by_cases e : j = k
    · subst e; exact d2 j (Nat.le_refl _) c2
    · exact d1 j (by omega)
theorem live_tells {t : Tb} (S : LvSnd f t) (C : ∀ i, i < (lst f.code).length → Cl f t i) {i : Nat} (hi : i < (lst f.code).length) (r : Nat) :
    (bit (rowW t.b i) r = true ↔ fromP f [(i : Int)] r) ∧ (bit (rowW t.a i) r = true ↔ fromP f (nextL f i) r) ∧ (bit (rowW t.h i) r = true ↔ fromP f (caughtL f i) r) := by
  have key : ∀ {i : Nat}, i < (lst f.code).length → fromP f [(i : Int)] r → bit (rowW t.b i) r = true := by
    intro i hi ⟨k, hk, hu⟩
    have h0 : bit (rowW t.b k) r = true := (C k hk.lt).b r (.inl hu)
    have back : ∀ {k : Nat}, Rch (lst f.code).length (succR f r) [(i : Int)] k → bit (rowW t.b k) r = true → bit (rowW t.b i) r = true := by
      intro k hk
      induction hk with
      | base hj j0 j1 =>
        rw [List.mem_singleton] at hj
        subst hj
        intro h; simpa using h
      | step hr hj j0 j1 ih =>
        intro h
        refine ih ?_
        have hlt := hr.lt
        rw [succR, List.mem_append] at hj
        rcases hj with hj | hj
        · exact (C _ hlt).b r (.inr (.inl ((C _ hlt).h _ hj r h)))
        · split at hj
          · cases hj
          · rename_i hd
            exact (C _ hlt).b r (.inr (.inr ⟨(C _ hlt).a _ hj r h, hd⟩))
    exact back hk h0
  refine ⟨⟨S.b i hi r, key hi⟩, ⟨S.a i hi r, fun h => ?_⟩, ⟨S.h i hi r, fun h => ?_⟩⟩
  · obtain ⟨a, ha, a0, a1, h'⟩ := (from_some f).1 h
    rw [show a = ((a.toNat : Nat) : Int) by omega] at h'
    exact (C i hi).a a ha r (key (by omega) h')
  · obtain ⟨a, ha, a0, a1, h'⟩ := (from_some f).1 h
    rw [show a = ((a.toNat : Nat) : Int) by omega] at h'
    exact (C i hi).h a ha r (key (by omega) h')
def rowB (R : Nat) (s : Ws) : List Bool := (List.range R).map (bit s)
theorem rowB_get {R : Nat} {s : Ws} {r : Nat} (h : r < R) : (rowB R s)[r]? = some (bit s r) := by simp [rowB, h]
omit w in
theorem rowB_len (R : Nat) (s : Ws) : (rowB R s).length = R := by simp [rowB]
def tabB (R : Nat) (t : Tb) : Tab := t.b.map fun s => some (rowB R s)
def lpot (R : Nat) (t : Tb) : Nat := pot R (tabB R t)
theorem lpot_step {t : Tb} (ok : TbOk (lst f.code).length ((lst f.regs).length / 64 + 1) t) (S : LvSnd f t) {i : Nat} (hi : i < (lst f.code).length) :
    lpot (lst f.regs).length t ≤ lpot (lst f.regs).length (stepT f t i) ∧ (moreT f t i = true → lpot (lst f.regs).length t < lpot (lst f.regs).length (stepT f t i)) := by
  have e1 : (rowW t.b i).length = (befT f t i).length := by rw [ok.bw i hi, bef_len w ok hi]
  have hb : i < t.b.length := by rw [ok.b]; exact hi
  have hg : (tabB (lst f.regs).length t)[i]? = some (some (rowB (lst f.regs).length (rowW t.b i))) := by
    simp [tabB, rowW, List.getD_eq_getElem?_getD, List.getElem?_eq_getElem hb]
  have hs : tabB (lst f.regs).length (stepT f t i) = (tabB (lst f.regs).length t).set i (some (rowB (lst f.regs).length (joinW (rowW t.b i) (befT f t i)))) := by
    simp only [tabB, stepT, List.map_set]
  have hp := pot_set (R := (lst f.regs).length) (y := some (rowB (lst f.regs).length (joinW (rowW t.b i) (befT f t i)))) hg
  rw [← hs] at hp
  simp only [wt] at hp
  have le : LeB (rowB (lst f.regs).length (rowW t.b i)) (rowB (lst f.regs).length (joinW (rowW t.b i) (befT f t i))) := by
    intro r hr
    have hlt : r < (lst f.regs).length := by have := (List.getElem?_eq_some_iff.1 hr).1; rw [rowB_len] at this; exact this
    rw [rowB_get w hlt] at hr ⊢
    injection hr with hr
    rw [bit_join e1, hr, Bool.true_or]
  have hlen : (rowB (lst f.regs).length (joinW (rowW t.b i) (befT f t i))).length = (rowB (lst f.regs).length (rowW t.b i)).length := by rw [rowB_len, rowB_len]
  have strict : moreT f t i = true → (rowB (lst f.regs).length (rowW t.b i)).countP id < (rowB (lst f.regs).length (joinW (rowW t.b i) (befT f t i))).countP id := by
    intro hm
    obtain ⟨q, h1, h2⟩ := (moreW_iff e1).1 hm
    have hq := from_lt w (bef_sound w ok hi S q h1)
    refine count_lt hlen le ⟨q, ?_, ?_⟩
    · rw [rowB_get w hq, bit_join e1, h1, Bool.or_true]
    · rw [rowB_get w hq, h2]
  have weak : (rowB (lst f.regs).length (rowW t.b i)).countP id ≤ (rowB (lst f.regs).length (joinW (rowW t.b i) (befT f t i))).countP id := by
    cases hm : moreT f t i with
    | true => exact Nat.le_of_lt (strict hm)
    | false => rw [join_same e1 hm]; exact Nat.le_refl _
  unfold lpot
  exact ⟨by omega, fun hm => by have := strict hm; omega⟩
theorem lpot_sweep : ∀ (k : Nat) (t : Tb), k ≤ (lst f.code).length → TbOk (lst f.code).length ((lst f.regs).length / 64 + 1) t → LvSnd f t → lpot (lst f.regs).length t ≤ lpot (lst f.regs).length (sweepT f k t).1 ∧ ((sweepT f k t).2 = true → lpot (lst f.regs).length t < lpot (lst f.regs).length (sweepT f k t).1)
  | 0, t, _, _, _ => ⟨Nat.le_refl _, fun h => by cases h⟩
  | k + 1, t, hk, ok, S => by
    obtain ⟨a1, a2⟩ := lpot_step w ok S (i := k) (by omega)
    obtain ⟨b1, b2⟩ := lpot_sweep k (stepT f t k) (by omega) (lstep_ok w ok (i := k) (by omega)) (lstep_snd w ok (i := k) (by omega) S)
    rw [sweepT]
    refine ⟨Nat.le_trans a1 b1, fun h => ?_⟩
    rw [Bool.or_eq_true] at h
    rcases h with h | h
    · exact Nat.lt_of_lt_of_le (a2 h) b1
    · exact Nat.lt_of_le_of_lt a1 (b2 h)
theorem lpot_le {t : Tb} (ok : TbOk (lst f.code).length ((lst f.regs).length / 64 + 1) t) : lpot (lst f.regs).length t ≤ (lst f.code).length * ((lst f.regs).length + 1) := by
  have key : ∀ (R : Nat) (l : List Ws), pot R (l.map fun s => some (rowB R s)) ≤ l.length * (R + 1) := by
    intro R l
    induction l with
    | nil => simp [pot]
    | cons a l ih =>
      have hc : (rowB R a).countP id ≤ (rowB R a).length := List.countP_le_length
      rw [rowB_len] at hc
      simp only [pot, List.map_cons, List.sum_cons, List.length_cons, Nat.add_mul, wt] at ih ⊢
      omega
  have := key (lst f.regs).length t.b
  rw [ok.b] at this
  exact this
theorem liveLoop_ends : ∀ (k : Nat) (t : Tb), TbOk (lst f.code).length ((lst f.regs).length / 64 + 1) t → LvSnd f t → (lst f.code).length * ((lst f.regs).length + 1) < k + lpot (lst f.regs).length t →
    ∃ r, liveLoop f k t = some r ∧ TbOk (lst f.code).length ((lst f.regs).length / 64 + 1) r ∧ LvSnd f r ∧ ∀ i, i < (lst f.code).length → Cl f r i
  | 0, t, ok, _, h => by have := lpot_le w ok; omega
  | k + 1, t, ok, S, h => by
    obtain ⟨o2, s2⟩ := sweep_ok w _ t (Nat.le_refl _) ok S
    obtain ⟨p1, p2⟩ := lpot_sweep w _ t (Nat.le_refl _) ok S
    rw [liveLoop]
    cases hm : (sweepT f (lst f.code).length t).2 with
    | true =>
      rw [if_pos rfl]
      have := p2 hm
      exact liveLoop_ends k _ o2 s2 (by omega)
    | false =>
      rw [if_neg Bool.false_ne_true]
      exact ⟨_, rfl, o2, s2, (sweep_same w _ t (Nat.le_refl _) ok hm).1⟩
def tb0 (f : Fn) : Tb := ⟨List.replicate (lst f.code).length (noneW ((lst f.regs).length / 64 + 1)), List.replicate (lst f.code).length (noneW ((lst f.regs).length / 64 + 1)), List.replicate (lst f.code).length (noneW ((lst f.regs).length / 64 + 1))⟩
omit w in
theorem row_rep {n i W : Nat} (h : i < n) : rowW (List.replicate n (noneW W)) i = noneW W := by
  simp [rowW, List.getD_eq_getElem?_getD, h]
omit w in
theorem tb0_ok : TbOk (lst f.code).length ((lst f.regs).length / 64 + 1) (tb0 f) := by
  refine ⟨by simp [tb0], by simp [tb0], by simp [tb0], fun i hi => ?_, fun i hi => ?_, fun i hi => ?_⟩ <;> (simp only [tb0]; rw [row_rep hi]; simp [noneW])
omit w in
theorem tb0_sound : LvSnd f (tb0 f) := by
  refine ⟨fun i hi r h => ?_, fun i hi r h => ?_, fun i hi r h => ?_⟩ <;> (simp only [tb0] at h; rw [row_rep hi, bit_none] at h; cases h)
end
end Go.Vm
namespace Go.Vm
open Cel
instance : Cel (BitVec 64) := ⟨1, fun w => [.int .u64 w.toNat], fun _ => rfl, fun _ => rfl, fun _ => rfl⟩
@[simp] theorem enc_w (w : BitVec 64) : enc w = [.int .u64 w.toNat] := rfl
@[simp] theorem es_w : es (BitVec 64) = 1 := rfl
abbrev AW (g : Nat) (s : Ws) : AO := ⟨g, .arr false false 1 (s.map enc)⟩
theorem wrap_u64 {n : Nat} (h : n < 18446744073709551616) : IntKind.wrap .u64 (n : Int) = (n : Int) := by
  simp [IntKind.wrap, IntKind.bits, IntKind.signed]; omega
theorem wrap_w (c : BitVec 64) : IntKind.wrap .u64 (c.toNat : Int) = (c.toNat : Int) := wrap_u64 c.isLt
theorem ofInt_w (c : BitVec 64) : BitVec.ofInt 64 (c.toNat : Int) = c := by simp
theorem or_w (a b : BitVec 64) : evBin .or (.int .u64 a.toNat) (.int .u64 b.toNat) = some (.int .u64 (a ||| b).toNat) := by
  show some (AV.int .u64 (IntKind.wrap .u64 ((BitVec.ofInt 64 (a.toNat : Int) ||| BitVec.ofInt 64 (b.toNat : Int)).toNat : Int))) = _
  rw [ofInt_w, ofInt_w, wrap_w]
theorem andNot_w (a b : BitVec 64) : evBin .andNot (.int .u64 a.toNat) (.int .u64 b.toNat) = some (.int .u64 (a &&& ~~~ b).toNat) := by
  show some (AV.int .u64 (IntKind.wrap .u64 ((BitVec.ofInt 64 (a.toNat : Int) &&& ~~~ (BitVec.ofInt 64 (b.toNat : Int))).toNat : Int))) = _
  rw [ofInt_w, ofInt_w, wrap_w]
theorem neq0_w (a : BitVec 64) : evBin .neq (.int .u64 a.toNat) (.int .u64 0) = some (.bool (decide (a ≠ 0))) := by
  rw [evBin_neq]
  have : ((a.toNat : Int) ≠ 0) ↔ a ≠ 0 := by
    constructor
    · intro h e; subst e; exact h rfl
    · intro h e
      exact h (BitVec.eq_of_toNat_eq (by simpa using e))
  rw [decide_eq_decide.2 this]
theorem shl_w {r : Nat} (h : r < 64) : evBin .shl (.int .u64 1) (.int .i64 r) = some (.int .u64 (BitVec.twoPow 64 r).toNat) := by
  have h0 : ¬ (r : Int) < 0 := by omega
  have hm : min r 64 = r := by omega
  have hp : 2 ^ r < 2 ^ 64 := Nat.pow_lt_pow_right (by omega) h
  have e : (BitVec.twoPow 64 r).toNat = 2 ^ r := by rw [BitVec.toNat_twoPow, Nat.mod_eq_of_lt hp]
  rw [e]
  show (if (r : Int) < 0 then none else some (AV.int .u64 (IntKind.wrap .u64 (1 * 2 ^ (min (r : Int).toNat 64))))) = _
  rw [if_neg h0, Int.toNat_natCast, hm, Int.one_mul]
  have e2 : ((2 : Int) ^ r) = ((2 ^ r : Nat) : Int) := by simp
  rw [e2, wrap_u64 hp]
theorem has_w {r : Nat} (h : r < 64) (a : BitVec 64) : ∃ v w, evBin .shr (.int .u64 a.toNat) (.int .i64 r) = some v ∧ evBin .and v (.int .u64 1) = some w ∧ evBin .eql w (.int .u64 1) = some (.bool (a.getLsbD r)) := by
  have h0 : ¬ (r : Int) < 0 := by omega
  have hm : min r 64 = r := by omega
  refine ⟨.int .u64 ((a >>> r).toNat), .int .u64 ((a >>> r) &&& 1#64).toNat, ?_, ?_, ?_⟩
  · show (if (r : Int) < 0 then none else some (AV.int .u64 (Int.fdiv (a.toNat : Int) (2 ^ (min (r : Int).toNat 64))))) = _
    rw [if_neg h0, Int.toNat_natCast, hm]
    have e2 : ((2 : Int) ^ r) = ((2 ^ r : Nat) : Int) := by simp
    rw [e2, BitVec.toNat_ushiftRight, Nat.shiftRight_eq_div_pow, Int.fdiv_eq_ediv_of_nonneg _ (Int.natCast_nonneg _), Int.natCast_ediv]
  · show some (AV.int .u64 (IntKind.wrap .u64 ((BitVec.ofInt 64 (((a >>> r).toNat : Nat) : Int) &&& BitVec.ofInt 64 1).toNat : Int))) = _
    rw [ofInt_w, show BitVec.ofInt 64 1 = 1#64 from rfl, wrap_w]
  · rw [evBin_eql]
    congr 2
    rw [BitVec.toNat_and, BitVec.toNat_ushiftRight, show (1#64).toNat = 1 from rfl, Nat.and_one_is_mod, Nat.shiftRight_eq_div_pow, BitVec.getLsbD, Nat.testBit_eq_decide_div_mod_eq]
    rw [decide_eq_decide]
    omega
theorem quo_rem {r : Nat} (h : r < 9223372036854775808) : evBin .quo (.int .i64 r) (.int .i64 64) = some (.int .i64 ((r / 64 : Nat) : Int)) ∧ evBin .rem (.int .i64 r) (.int .i64 64) = some (.int .i64 ((r % 64 : Nat) : Int)) := by
  constructor
  · show (if (64 : Int) = 0 then none else some (AV.int .i64 (IntKind.wrap .i64 ((r : Int).tdiv 64)))) = _
    rw [if_neg (by omega), Int.tdiv_eq_ediv_of_nonneg (by omega), wrap_i64 (by omega) (by omega)]
    congr 2
  · show (if (64 : Int) = 0 then none else some (AV.int .i64 ((r : Int).tmod 64))) = _
    rw [if_neg (by omega), Int.tmod_eq_emod_of_nonneg (by omega)]
    congr 2
section
variable {H : Heap} {a ga : Nat} {s : Ws} (h : H[a]? = some (AW ga s))
include h
theorem s_add {r : Nat} (hr : r < 9223372036854775808) (hs : r / 64 < s.length) : callAny E (callW E) 0 none false 86 [.ls a ga 1 0 s.length, .int .i64 r] H = some (.tup [], H.set a (AW ga (addW s r))) := by
  have hd : H ++ deadSlots 0 = H := by simp [deadSlots]
  have ecall : callAny E (callW E) 0 none false 86 [.ls a ga 1 0 s.length, .int .i64 r] H = q40_1 H.length (.ls a ga 1 0 s.length) (.int .i64 r) (H ++ deadSlots 0) := by
    rw [callAny, if_neg (by simp), x_q40, if_pos rfl]
  obtain ⟨q1, q2⟩ := quo_rem hr
  have ix := ixAt' (n := s.length) (p := ((r / 64 : Nat) : Int)) (by omega) (by omega) a ga .i64
  rw [Int.toNat_natCast] at ix
  have ld := ld_at (α := BitVec 64) (H := H) (id := a) (g := ga) (i := r / 64) (v := .int .u64 (s.getD (r / 64) 0).toNat) h (by rw [List.getElem?_eq_getElem hs]) (by rw [List.getD_eq_getElem?_getD, List.getElem?_eq_getElem hs]; rfl)
  have st := evSt_at (α := BitVec 64) (H := H) (id := a) (g := ga) (i := r / 64) (L := s) (v := .int .u64 (s.getD (r / 64) 0 ||| BitVec.twoPow 64 (r % 64)).toNat) (y := s.getD (r / 64) 0 ||| BitVec.twoPow 64 (r % 64)) h hs rfl
  simp only [es_w] at st
  rw [ecall, hd]
  simp only [q40_1, q1, q2, ob_some, ix, ld, shl_w (Nat.mod_lt r (by omega : 64 > 0)), or_w, st, oh_some]
  rfl
theorem s_drop {r : Nat} (hr : r < 9223372036854775808) (hs : r / 64 < s.length) : callAny E (callW E) 0 none false 85 [.ls a ga 1 0 s.length, .int .i64 r] H = some (.tup [], H.set a (AW ga (dropW s r))) := by
  have hd : H ++ deadSlots 0 = H := by simp [deadSlots]
  have ecall : callAny E (callW E) 0 none false 85 [.ls a ga 1 0 s.length, .int .i64 r] H = q41_1 H.length (.ls a ga 1 0 s.length) (.int .i64 r) (H ++ deadSlots 0) := by
    rw [callAny, if_neg (by simp), x_q41, if_pos rfl]
  obtain ⟨q1, q2⟩ := quo_rem hr
  have ix := ixAt' (n := s.length) (p := ((r / 64 : Nat) : Int)) (by omega) (by omega) a ga .i64
  rw [Int.toNat_natCast] at ix
  have ld := ld_at (α := BitVec 64) (H := H) (id := a) (g := ga) (i := r / 64) (v := .int .u64 (s.getD (r / 64) 0).toNat) h (by rw [List.getElem?_eq_getElem hs]) (by rw [List.getD_eq_getElem?_getD, List.getElem?_eq_getElem hs]; rfl)
  have st := evSt_at (α := BitVec 64) (H := H) (id := a) (g := ga) (i := r / 64) (L := s) (v := .int .u64 (s.getD (r / 64) 0 &&& ~~~ BitVec.twoPow 64 (r % 64)).toNat) (y := s.getD (r / 64) 0 &&& ~~~ BitVec.twoPow 64 (r % 64)) h hs rfl
  simp only [es_w] at st
  rw [ecall, hd]
  simp only [q41_1, q1, q2, ob_some, ix, ld, shl_w (Nat.mod_lt r (by omega : 64 > 0)), andNot_w, st, oh_some]
  rfl
end
theorem range_setW {α : Type} {n k : Nat} {p q : Nat → α} {v : α} (hq : q k = v) (he : ∀ j, j ≠ k → q j = p j) : ((List.range n).map p).set k v = (List.range n).map q := by
  refine List.ext_getElem (by simp) fun i h1 h2 => ?_
  rw [List.getElem_set]
  simp only [List.getElem_map, List.getElem_range]
  split
  · rename_i e; rw [← e, hq]
  · rename_i e; rw [he i (fun h => e h.symm)]
def joinK (k : Nat) (s t : Ws) : Ws := (List.range s.length).map fun j => if j < k then s.getD j 0 ||| t.getD j 0 else s.getD j 0
def moreK (k : Nat) (s t : Ws) : Bool := (List.range k).any fun j => decide (t.getD j 0 &&& ~~~ s.getD j 0 ≠ 0)
theorem joinK_len (k : Nat) (s t : Ws) : (joinK k s t).length = s.length := by simp [joinK]
theorem joinK_0 (s t : Ws) : joinK 0 s t = s := by
  refine List.ext_getElem (by simp [joinK]) fun i h1 h2 => ?_
  simp [joinK, h2]
theorem joinK_get {k : Nat} {s t : Ws} {j : Nat} (h : j < s.length) : (joinK k s t)[j]? = some (if j < k then s.getD j 0 ||| t.getD j 0 else s.getD j 0) := by simp [joinK, h]
theorem joinK_all {s t : Ws} (h : s.length = t.length) : joinK s.length s t = joinW s t := by
  refine List.ext_getElem (by simp [joinK, joinW, h]) fun i h1 h2 => ?_
  have hi : i < s.length := by simpa [joinK] using h1
  have hi2 : i < t.length := by omega
  simp [joinK, joinW, hi, hi2]
theorem moreK_all {s t : Ws} (h : s.length = t.length) : moreK s.length s t = moreW s t := by
  rw [Bool.eq_iff_iff, moreK, moreW, List.any_eq_true, List.any_eq_true]
  constructor
  · rintro ⟨j, hj, hb⟩
    rw [List.mem_range] at hj
    refine ⟨true, List.mem_of_getElem? (i := j) ?_, rfl⟩
    rw [List.getElem?_zipWith, List.getElem?_eq_getElem hj, List.getElem?_eq_getElem (by omega)]
    simp only [List.getD_eq_getElem?_getD, List.getElem?_eq_getElem hj, List.getElem?_eq_getElem (show j < t.length by omega), Option.getD_some] at hb
    simp only [hb]
  · rintro ⟨b, hb, h1⟩
    obtain ⟨k, hk⟩ := List.getElem?_of_mem hb
    rw [List.getElem?_zipWith] at hk
    by_cases hlt : k < s.length
    · rw [List.getElem?_eq_getElem hlt, List.getElem?_eq_getElem (show k < t.length by omega)] at hk
      simp only [Option.some.injEq] at hk
      refine ⟨k, List.mem_range.2 hlt, ?_⟩
      simp only [List.getD_eq_getElem?_getD, List.getElem?_eq_getElem hlt, List.getElem?_eq_getElem (show k < t.length by omega), Option.getD_some]
      rw [hk]; exact h1
    · rw [List.getElem?_eq_none (by omega)] at hk
      simp at hk
theorem joinK_set (k : Nat) (s t : Ws) : (joinK k s t).set k (s.getD k 0 ||| t.getD k 0) = joinK (k + 1) s t := by
  unfold joinK
  refine range_setW ?_ fun j hj => ?_
  · rw [if_pos (by omega)]
  · by_cases h1 : j < k
    · rw [if_pos (by omega), if_pos h1]
    · rw [if_neg (by omega), if_neg h1]
theorem moreK_succ (k : Nat) (s t : Ws) : moreK (k + 1) s t = (moreK k s t || decide (t.getD k 0 &&& ~~~ s.getD k 0 ≠ 0)) := by
  simp [moreK, List.range_succ]
theorem join_loop (fb : Nat) {a ga b gb : Nat} {s t : Ws} (hl : s.length = t.length) (hn : s.length ≤ 9223372036854775806) (hab : a ≠ b) : ∀ (d k : Nat) (H : Heap), k + d = t.length → H[a]? = some (AW ga (joinK k s t)) → H[b]? = some (AW gb t) →
    q43_L2 fb (.ls a ga 1 0 s.length) (.bool (moreK k s t)) (.ls b gb 1 0 t.length) (.int .i64 t.length) (.int .i64 (k : Int)) H = some (.bool (moreW s t), H.set a (AW ga (joinW s t))) := by
  intro d
  induction d with
  | zero =>
    intro k H hk ha hb
    have hk' : k = t.length := by omega
    subst hk'
    have hc : ¬ ((t.length : Int) < (t.length : Int)) := by omega
    rw [q43_L2_go]
    simp only [q43_6, evBin_lss, ob_some, hc, decide_false, q43_5, cnd_f, q43_1]
    rw [← joinK_all hl, ← moreK_all hl, hl, set_same ha]
  | succ d ih =>
    intro k H hk ha hb
    have hlt : k < t.length := by omega
    have hls : k < s.length := by omega
    have hc : ((k : Int) < (t.length : Int)) := by omega
    have hw := wrap_up hlt (by omega)
    have ixA := ixAt' (n := s.length) (p := (k : Int)) (by omega) (by omega) a ga .i64
    have ixB := ixAt' (n := t.length) (p := (k : Int)) (by omega) (by omega) b gb .i64
    rw [Int.toNat_natCast] at ixA ixB
    have gA := joinK_get (k := k) (t := t) hls
    rw [if_neg (Nat.lt_irrefl _)] at gA
    have lA := ld_at (α := BitVec 64) (H := H) (id := a) (g := ga) (i := k) (v := .int .u64 (s.getD k 0).toNat) ha gA rfl
    have lB := ld_at (α := BitVec 64) (H := H) (id := b) (g := gb) (i := k) (v := .int .u64 (t.getD k 0).toNat) hb (by rw [List.getElem?_eq_getElem hlt]) (by rw [List.getD_eq_getElem?_getD, List.getElem?_eq_getElem hlt]; rfl)
    have st := evSt_at (α := BitVec 64) (H := H) (id := a) (g := ga) (i := k) (L := joinK k s t) (v := .int .u64 (s.getD k 0 ||| t.getD k 0).toNat) (y := s.getD k 0 ||| t.getD k 0) ha (by rw [joinK_len]; exact hls) rfl
    rw [joinK_set] at st
    simp only [es_w] at st
    have ih0 := ih (k + 1) (H.set a (AW ga (joinK (k + 1) s t))) (by omega) (gs_eq (get_lt ha)) (by rw [gs_ne hab]; exact hb)
    rw [List.set_set, moreK_succ] at ih0
    push_cast at ih0
    rw [q43_L2_go]
    cases hm : moreK k s t with
    | true =>
      rw [hm, Bool.true_or] at ih0
      simp only [q43_6, evBin_lss, ob_some, hc, decide_true, q43_5, cnd_t, q43_4, ixB, lB, gb_tf, evPick_t, ixA, lA, or_w, st, oh_some, q43_3, evBin_add, hw, ih0]
    | false =>
      rw [hm, Bool.false_or] at ih0
      simp only [q43_6, evBin_lss, ob_some, hc, decide_true, q43_5, cnd_t, q43_4, ixB, lB, gb_ff, evPick_f, ixA, lA, andNot_w, neq0_w, or_w, st, oh_some, q43_3, evBin_add, hw]
      exact ih0
theorem s_join {H : Heap} {a ga b gb : Nat} {s t : Ws} (ha : H[a]? = some (AW ga s)) (hb : H[b]? = some (AW gb t)) (hl : s.length = t.length) (hn : s.length ≤ 9223372036854775806) (hab : a ≠ b) :
    callAny E (callW E) 0 none false 84 [.ls a ga 1 0 s.length, .ls b gb 1 0 t.length] H = some (.bool (moreW s t), H.set a (AW ga (joinW s t))) := by
  have hd : H ++ deadSlots 0 = H := by simp [deadSlots]
  rw [callAny, if_neg (by simp), x_q43, if_pos rfl, hd]
  have lp := join_loop H.length (ga := ga) (gb := gb) hl hn hab _ 0 H (Nat.zero_add _) (by rw [joinK_0]; exact ha) hb
  simp only [Int.ofNat_zero] at lp
  simp only [q43_11, q43_10, q43_8, evLen_ls, ob_some]
  exact lp
end Go.Vm
namespace Go.Vm
open Cel
attribute [local simp] callAny callP heapOf_nil
@[simp] theorem s_Ends (x : Ins) : (callW E).p 24 [.agg (enc x)] = some ⟨.bool (ends x.op), [], true, [], []⟩ := by
  rw [x_q17, q17_1]
  by_cases h1 : x.op = 27
  · simp [h1, ends]
  by_cases h2 : x.op = 30
  · simp [h2, ends]
  by_cases h3 : x.op = 31 <;> simp [h1, h2, h3, ends]
@[simp] theorem s_Leads (x : Ins) : (callW E).p 22 [.agg (enc x)] = some ⟨.bool (leads x.op), [], true, [], []⟩ := by
  rw [x_q18, q18_1]
  by_cases h1 : x.op = 27
  · simp [h1, leads]
  by_cases h2 : x.op = 28
  · simp [h2, leads]
  by_cases h3 : x.op = 29 <;> simp [h1, h2, h3, leads]
@[simp] theorem s_Calls (x : Ins) : (callW E).p 17 [.agg (enc x)] = some ⟨.bool (calls x.op), [], true, [], []⟩ := by
  rw [x_q13, q13_1]
  by_cases h1 : 23 ≤ x.op
  · by_cases h2 : x.op ≤ 26 <;> simp [h1, h2, calls]
  · simp [h1, calls]
end Go.Vm
namespace Go.Vm
open Cel
attribute [local simp] callAny callP heapOf_nil
@[simp] theorem s_Throws (x : Ins) : (callW E).p 18 [.agg (enc x)] = some ⟨.bool (throws x.op), [], true, [], []⟩ := by
  rw [x_q19]
  rcases op_cases x.op with h|h|h|h|h|h|h|h|h|h|h|h|h|h|h|h|h|h|h|h|h|h|h|h|h|h|h|h|h|h|h|h|h|h|h <;> first | (simp [h, throws, calls, q19_1]; done) | (simp [lo_f h, throws, calls, q19_1]; done) | simp [hi_f h, throws, calls, q19_1]
end Go.Vm
namespace Go.Vm
open Cel
attribute [local simp] callAny callP heapOf_nil
theorem slc_to {α : Type} [Cel α] (o : Option (List α)) (i : Nat) (h : i ≤ (lst o).length) (k : IntKind) : evSlcO (es α) (slA o) none (some (.int k i)) = some (slA (o.map (List.take i))) := by
  have h2 : (0 : Int) ≤ (i : Int) ∧ (i : Int) ≤ ((lst o).length : Int) := by omega
  cases o with
  | none =>
    have : i = 0 := by simpa using h
    subst this
    simp [evSlcO, slA, evSlc, optIxv, asNat]
  | some L =>
    simp only [lst_some] at h2
    simp [evSlcO, slA, evSlc, optIxv, asNat, h2, List.map_take]
theorem Index_loop (o : Option (List Int)) (r : Int) (hl : (lst o).length ≤ 9223372036854775807) (h : Heap) : ∀ (d i : Nat), i + d = (lst o).length →
    ∃ k : Int, q106_L2 (slA o) (.int .i64 r) (.int .i64 (lst o).length) (.int .i64 i) h = some ⟨.int .i64 k, [], true, [], []⟩ ∧ (0 ≤ k ↔ r ∈ (lst o).drop i) := by
  intro d
  induction d with
  | zero =>
    intro i hi
    have e1 : (lst o).drop i = [] := List.drop_eq_nil_of_le (by omega)
    have hn : ¬ ((i : Int) < ((lst o).length : Int)) := by omega
    rw [q106_L2_go, e1]
    exact ⟨-1, by simp [q106_1, q106_3, q106_4, q106_5, q106_6, q106_8, q106_10, hn], by simp⟩
  | succ d ih =>
    intro i hi
    have hlt : i < (lst o).length := by omega
    have hn : ((i : Int) < ((lst o).length : Int)) := by omega
    have k1 := ixs_int (o := o) (i := i) (List.getElem?_eq_getElem hlt) .i64
    have hm : r ∈ (lst o).drop i ↔ r = (lst o)[i] ∨ r ∈ (lst o).drop (i + 1) := by rw [List.drop_eq_getElem_cons hlt, List.mem_cons]
    rw [q106_L2_go, hm]
    by_cases he : r = (lst o)[i]
    · exact ⟨i, by simp [q106_1, q106_3, q106_4, q106_5, q106_6, q106_8, q106_10, hn, k1, he], by simp [he]⟩
    · obtain ⟨k, h1, h2⟩ := ih (i + 1) (by omega)
      push_cast at h1
      refine ⟨k, ?_, ?_⟩
      · simp [q106_1, q106_3, q106_4, q106_5, q106_6, q106_8, q106_10, hn, k1, he, wrap_up hlt hl, h1]
      · rw [h2]; simp [he]
@[simp] theorem s_Contains (o : Option (List Int)) (r : Int) (hl : (lst o).length ≤ 9223372036854775807) : (callW E).p 46 [slA o, .int .i64 r] = some ⟨.bool ((lst o).contains r), [], true, [], []⟩ := by
  obtain ⟨k, h1, h2⟩ := Index_loop o r hl [] (lst o).length 0 (by omega)
  simp only [Int.ofNat_zero, List.drop_zero] at h1 h2
  have hi : (callW E).p 45 [slA o, .int .i64 r] = some ⟨.int .i64 k, [], true, [], []⟩ := by
    rw [x_q106, ← h1]
    simp [q106_1, q106_3, q106_4, q106_5, q106_6, q106_8, q106_10]
  rw [x_q105]
  by_cases h0 : 0 ≤ k
  · have := h2.1 h0
    simp [q105_1, hi, h0, this]
  · have : r ∉ lst o := fun h => h0 (h2.2 h)
    simp [q105_1, hi, h0, this]
end Go.Vm
namespace Go.Vm
open Cel
attribute [local simp] callAny callP heapOf_nil
theorem contains1 (a b : Int) : (callW E).p 46 [.rs 1 [[.int .i64 a]], .int .i64 b] = some ⟨.bool ([a].contains b), [], true, [], []⟩ := by
  have := s_Contains (some [a]) b (by simp)
  exact this
theorem s_Next (f : Fn) (i : Int) (hl : (lst f.code).length ≤ 9223372036854775807) : (callW E).p 81 [.agg (enc f), .int .i64 i] = some (exO (nz (nextL f i))) := by
  rw [x_q6]
  by_cases h0 : i < 0
  · simp [q6_1, q6_2, q6_3, q6_4, q6_5, q6_6, q6_7, h0, nextL, nz]; rfl
  by_cases h1 : ((lst f.code).length : Int) ≤ i
  · simp [q6_1, q6_2, q6_3, q6_4, q6_5, q6_6, q6_7, h0, h1, nextL, nz]; rfl
  have g0 : 0 ≤ i := by omega
  have hx := insAt_lt (f := f) (i := i.toNat) (by omega)
  have k1 := ixs_insI (o := f.code) g0 hx .i64
  have hw := wrap_next g0 (by omega) hl
  have hn : nextL f i = nextI (insAt f i.toNat) i := by rw [nextL, if_neg (by omega)]
  rw [hn]
  generalize insAt f i.toNat = x at *
  have e : q6_7 (.agg (enc f)) (.int .i64 i) [⟨0, .dead⟩, ⟨0, .dead⟩, ⟨0, .dead⟩, ⟨0, .dead⟩, ⟨0, .dead⟩, ⟨0, .dead⟩] = q6_3 (.int .i64 i) (.lp 1 1 0 0) .nils [⟨1, .arr true false 5 [enc f]⟩, ⟨1, .arr true false 9 [enc x]⟩, ⟨0, .dead⟩, ⟨0, .dead⟩, ⟨0, .dead⟩, ⟨0, .dead⟩] := by
    simp [q6_7, q6_6, q6_5, q6_4, h0, h1, k1]
  rw [e, nextI]
  cases he : ends x.op with
  | true =>
    cases hd : leads x.op with
    | false => simp [q6_3, q6_2, q6_1, he, hd, nz]; rfl
    | true =>
      have := s_Contains none x.t (by simp)
      simp [q6_3, q6_2, q6_1, he, hd, nz, slA] at this ⊢
      simp [this, buildSC, fillRows, evApp, addN]
      exact expo1_int1 (by simp)
  | false =>
    cases hd : leads x.op with
    | false =>
      simp [q6_3, q6_2, q6_1, he, hd, hw, buildSC, fillRows, evApp]
      exact expo1_int1 (by simp)
    | true =>
      have hz : fz [⟨1, .arr true false 5 [enc f]⟩, ⟨1, .arr true false 9 [enc x]⟩, ⟨1, .arr false false 1 [[.int .i64 (i + 1)]]⟩, ⟨1, .arr false false 1 [[.int .i64 (i + 1)]]⟩, ⟨0, .dead⟩, ⟨0, .dead⟩] fuelF (.ls 3 1 1 0 1) = some ⟨.rs 1 [[.int .i64 (i + 1)]], true, [3]⟩ := by
        rw [fz_ls]; rfl
      generalize hxt : x.t = t at *
      by_cases hc : i + 1 = t
      · subst hc
        simp [q6_3, q6_2, q6_1, he, hd, hw, buildSC, fillRows, evApp, hz, contains1, addN, hxt]
        exact expo1_int1 (by simp)
      · have hc' : ¬ t = i + 1 := fun h => hc h.symm
        simp [q6_3, q6_2, q6_1, he, hd, hw, buildSC, fillRows, evApp, hz, contains1, hc, hc', addN, hxt]
        exact expo1_int2 (by simp)
theorem Caught_loop (f : Fn) (i : Int) (hl : (lst f.rows).length ≤ 10000000000000) : ∀ (d k g : Nat) (L : List Int) (o1 o2 : AO), k + d = (lst f.rows).length → L.length ≤ k →
    q4_L2 (.int .i64 i) (slotV Int 3 g L) (slA f.rows) (.int .i64 (lst f.rows).length) (.int .i64 k) [⟨1, .arr true false 5 [enc f]⟩, o1, o2, slotO g D0 L] = some (exO (nz (caughtG i ((lst f.rows).drop k) L))) := by
  intro d
  induction d with
  | zero =>
    intro k g L o1 o2 hk _
    have e1 : (lst f.rows).drop k = [] := List.drop_eq_nil_of_le (by omega)
    have hn : ¬ ((k : Int) < ((lst f.rows).length : Int)) := by omega
    have hx := expo1_slotX (H := [⟨1, .arr true false 5 [enc f]⟩, o1, o2, slotO g D0 L]) (j := 3) (g := g) (o := D0) (L := L) rfl
    rw [q4_L2_go, e1]
    simp [q4_11, q4_10, q4_1, hn, caughtG, hx]
  | succ d ih =>
    intro k g L o1 o2 hk hL
    have hlt : k < (lst f.rows).length := by omega
    have hc : ((k : Int) < ((lst f.rows).length : Int)) := by omega
    have k1 := ixs_row (o := f.rows) (i := k) (List.getElem?_eq_getElem hlt) .i64
    rw [q4_L2_go, List.drop_eq_getElem_cons hlt]
    generalize hr : (lst f.rows)[k] = r at *
    have ih0 := fun g L o1 o2 hL => ih (k + 1) g L o1 o2 (by omega) hL
    push_cast at ih0
    have hw := wrap_up hlt (by omega)
    have e11 : q4_11 (.int .i64 i) (slotV Int 3 g L) (slA f.rows) (.int .i64 (lst f.rows).length) (.int .i64 k) [⟨1, .arr true false 5 [enc f]⟩, o1, o2, slotO g D0 L] =
        q4_6 (.int .i64 i) (slotV Int 3 g L) (.lp 1 (o1.gen + 1) 0 0) (slA f.rows) (.int .i64 (lst f.rows).length) (.int .i64 k) [⟨1, .arr true false 5 [enc f]⟩, ⟨o1.gen + 1, .arr true false 4 [enc r]⟩, o2, slotO g D0 L] := by
      simp [q4_11, q4_10, q4_7, hc, k1]
    rw [e11]
    generalize (o1.gen + 1) = g1
    by_cases h1 : i < r.f
    · have : ¬ (r.f ≤ i ∧ i < r.t) := by omega
      simp [q4_6, q4_3, h1, hw, caughtG, this, ih0 g L _ _ (by omega)]
    by_cases h2 : r.t ≤ i
    · have : ¬ (r.f ≤ i ∧ i < r.t) := by omega
      simp [q4_6, q4_3, h1, h2, hw, caughtG, this, ih0 g L _ _ (by omega)]
    have hin : r.f ≤ i ∧ i < r.t := by omega
    rw [caughtG, if_pos hin]
    have hz : ∀ o2, fz [⟨1, .arr true false 5 [enc f]⟩, ⟨g1, .arr true false 4 [enc r]⟩, o2, slotO g D0 L] fuelF (slotV Int 3 g L) = some ⟨slA (nz L), true, ids1 (slotV Int 3 g L)⟩ := fun o2 => fz_slotI rfl
    have hct := s_Contains (nz L) r.at_ (by rw [lst_nz]; omega)
    rw [lst_nz] at hct
    have tail : ∀ g L o2, L.length ≤ k + 1 → q4_4 (.int .i64 i) (slotV Int 3 g L) (.lp 1 g1 0 0) (slA f.rows) (.int .i64 (lst f.rows).length) (.int .i64 k) [⟨1, .arr true false 5 [enc f]⟩, ⟨g1, .arr true false 4 [enc r]⟩, o2, slotO g D0 L] =
        some (exO (nz (if r.c = [] then L else caughtG i ((lst f.rows).drop (k + 1)) L))) := by
      intro g L o2 hL
      have hx := expo1_slotX (H := [⟨1, .arr true false 5 [enc f]⟩, ⟨g1, .arr true false 4 [enc r]⟩, o2, slotO g D0 L]) (j := 3) (g := g) (o := D0) (L := L) rfl
      by_cases hcl : r.c = []
      · simp [q4_4, q4_1, hcl, hx]
      · simp [q4_4, q4_3, hcl, hw, ih0 g L _ _ hL]
    unfold addN
    cases hb : L.contains r.at_ with
    | true =>
      rw [hb] at hct
      rw [if_pos rfl]
      have := tail g L o2 (by omega)
      simp [q4_6, q4_5, h1, h2, hz, hct, this]
    | false =>
      rw [hb] at hct
      rw [if_neg Bool.false_ne_true]
      obtain ⟨g', ha⟩ := app_int (H := [⟨1, .arr true false 5 [enc f]⟩, ⟨g1, .arr true false 4 [enc r]⟩, ⟨o2.gen + 1, .arr false false 1 [[.int .i64 r.at_]]⟩, slotO g D0 L]) (fb := 0) (j := 3) (g := g) (o := D0) (y := .ls 2 (o2.gen + 1) 1 0 1) (L := L) (n := r.at_) (by simp) rfl (by omega)
      have ha' : evApp 0 (some 3) 1 8 (slotV Int 3 g L) (.ls 2 (o2.gen + 1) 1 0 1) [⟨1, .arr true false 5 [enc f]⟩, ⟨g1, .arr true false 4 [enc r]⟩, ⟨o2.gen + 1, .arr false false 1 [[.int .i64 r.at_]]⟩, slotO g D0 L] = some (slotV Int 3 g' (L ++ [r.at_]), [⟨1, .arr true false 5 [enc f]⟩, ⟨g1, .arr true false 4 [enc r]⟩, ⟨o2.gen + 1, .arr false false 1 [[.int .i64 r.at_]]⟩, slotO g' D0 (L ++ [r.at_])]) := ha
      have := tail g' (L ++ [r.at_]) ⟨o2.gen + 1, .arr false false 1 [[.int .i64 r.at_]]⟩ (by simp; omega)
      simp [q4_6, q4_5, h1, h2, hz, hct, buildSC, fillRows, ha', this]
theorem s_Caught (f : Fn) (i : Int) (hl : (lst f.rows).length ≤ 10000000000000) : (callW E).p 79 [.agg (enc f), .int .i64 i] = some (exO (nz (caughtL f i))) := by
  rw [x_q4]
  by_cases h0 : i < 0
  · simp [q4_17, q4_16, h0, caughtL, nz]; rfl
  by_cases h1 : ((lst f.code).length : Int) ≤ i
  · simp [q4_17, q4_16, h0, h1, caughtL, nz]; rfl
  have g0 : 0 ≤ i := by omega
  have hx := insAt_lt (f := f) (i := i.toNat) (by omega)
  have k1 := ixs_insI (o := f.code) g0 hx .i64
  have hn : caughtL f i = if throws (insAt f i.toNat).op then caughtG i (lst f.rows) [] else [] := by rw [caughtL, if_neg (by omega)]
  rw [hn]
  generalize insAt f i.toNat = x at *
  have lp := Caught_loop f i hl _ 0 0 [] D0 D0 (Nat.zero_add _) (Nat.zero_le _)
  simp only [slotV_nil, slotO_nil, List.drop_zero, Int.ofNat_zero] at lp
  cases ht : throws x.op with
  | false => simp [q4_17, q4_16, h0, h1, k1, ht, nz]; rfl
  | true => simp [q4_17, q4_16, q4_15, q4_13, h0, h1, k1, ht, lp]
end Go.Vm
namespace Go.Vm
open Cel
attribute [local simp] callAny callP heapOf_nil
theorem app_fits {n b : Nat} (hb : b ≤ 200) (h : n ≤ 2 ^ 38) : (2 * n + 512) * b ≤ 281474976710656 := by
  have e : (2:Nat)^38 = 274877906944 := by decide
  have h1 : (2 * n + 512) ≤ 549755814400 := by omega
  have : (2 * n + 512) * b ≤ 549755814400 * 200 := Nat.mul_le_mul h1 hb
  omega
@[simp] theorem s_Clone_int (o : Option (List Int)) (h : (lst o).length ≤ 17592186043904) : (callW E).p 39 [slA o] = some (exO o) := by
  rw [x_q104]
  cases o with
  | none => simp [q104_1, q104_2, q104_3]; rfl
  | some L =>
    simp only [lst_some] at h
    have h1 : (2 * L.length + 512) * 8 ≤ 281474976710656 := by omega
    simp [q104_1, q104_2, q104_3, buildSC, fillRows, evApp, h1]
    exact expo1_own (α := Int) (by simp)
end Go.Vm
namespace Go.Vm
open Cel
attribute [local simp] callAny callP heapOf_nil
theorem place_own {α : Type} [Cel α] (fb j : Nat) (L : List α) (h : Heap) {o : AO} (ho : h[fb + j]? = some o) : placeAll fb (some j) [.arr false false (es α) (L.map enc)] [] h =
    some ([(fb + j, o.gen + 1)], h.set (fb + j) ⟨o.gen + 1, .arr false false (es α) (L.map enc)⟩) := by
  simp [placeAll, relocOC, okOC, ho]
theorem uses_1 (x : Ins) (h : x.op = 4 ∨ x.op = 6 ∨ x.op = 7 ∨ x.op = 8 ∨ x.op = 10 ∨ x.op = 12 ∨ x.op = 15 ∨ x.op = 16 ∨ x.op = 19 ∨ x.op = 21 ∨ x.op = 22 ∨ x.op = 31) : (callW E).p 10 [.agg (enc x)] = some (exO (uses x)) := by
  rw [x_q20]
  rcases h with h|h|h|h|h|h|h|h|h|h|h|h <;> (simp [h, uses, calls, reads, q20_1, q20_2, q20_3, q20_4, q20_5, q20_6, q20_7, q20_8, q20_9, q20_10, q20_11, q20_12, q20_13, q20_15, q20_17, buildSC, fillRows]; exact expo1_own (α := Int) (L := [x.a]) (by simp))
theorem uses_2 (x : Ins) (h : x.op = 5 ∨ x.op = 9 ∨ x.op = 11 ∨ x.op = 13 ∨ x.op = 17 ∨ x.op = 28) : (callW E).p 10 [.agg (enc x)] = some (exO (uses x)) := by
  rw [x_q20]
  rcases h with h|h|h|h|h|h <;> (simp [h, uses, calls, reads, q20_1, q20_2, q20_3, q20_4, q20_5, q20_6, q20_7, q20_8, q20_9, q20_10, q20_11, q20_12, q20_13, q20_15, q20_17, buildSC, fillRows]; exact expo1_own (α := Int) (L := [x.a, x.b]) (by simp))
theorem uses_3 (x : Ins) (h : x.op = 14) : (callW E).p 10 [.agg (enc x)] = some (exO (uses x)) := by
  rw [x_q20]
  simp [h, uses, calls, reads, q20_1, q20_2, q20_3, q20_4, q20_5, q20_6, q20_7, q20_8, q20_9, q20_10, q20_11, q20_12, q20_13, q20_15, q20_17, buildSC, fillRows]
  exact expo1_own (α := Int) (L := [x.a, x.b, x.c]) (by simp)
theorem uses_4 (x : Ins) (h : x.op = 23 ∨ x.op = 24 ∨ x.op = 25 ∨ x.op = 26) (hl : (lst x.args).length ≤ 17592186043904) : (callW E).p 10 [.agg (enc x)] = some (exO (uses x)) := by
  rw [x_q20]
  have e : uses x = x.args := by rcases h with h|h|h|h <;> simp [h, uses, calls]
  rw [e]
  have hc := s_Clone_int x.args hl
  cases ha : x.args with
  | none =>
    rw [ha] at hc
    rcases h with h|h|h|h <;> (simp [h, q20_1, q20_2, q20_3, q20_4, q20_5, q20_6, q20_7, q20_8, q20_9, q20_10, q20_11, q20_12, q20_13, q20_15, q20_17, ha, hc, exO, placeAll, reloc, relocAgg, relocLeaf]; done)
  | some L =>
    rw [ha] at hc
    rcases h with h|h|h|h <;> (simp [h, q20_1, q20_2, q20_3, q20_4, q20_5, q20_6, q20_7, q20_8, q20_9, q20_10, q20_11, q20_12, q20_13, q20_15, q20_17, ha, hc, placeAll, relocOC, okOC, reloc, relocAgg, relocLeaf, exO]; exact expo1_own (α := Int) (L := L) (by simp))
theorem uses_5 (x : Ins) (h : x.op = 29) : (callW E).p 10 [.agg (enc x)] = some (exO (uses x)) := by
  rw [x_q20]
  by_cases hb : x.b < 0
  · simp [hb, h, uses, calls, reads, q20_1, q20_2, q20_3, q20_4, q20_5, q20_6, q20_7, q20_8, q20_9, q20_10, q20_11, q20_12, q20_13, q20_15, q20_17, buildSC, fillRows]
    exact expo1_own (α := Int) (L := [x.a]) (by simp)
  · simp [hb, h, uses, calls, reads, q20_1, q20_2, q20_3, q20_4, q20_5, q20_6, q20_7, q20_8, q20_9, q20_10, q20_11, q20_12, q20_13, q20_15, q20_17, buildSC, fillRows]
    exact expo1_own (α := Int) (L := [x.a, x.b]) (by simp)
theorem uses_6 (x : Ins) (h : x.op = 30) : (callW E).p 10 [.agg (enc x)] = some (exO (uses x)) := by
  rw [x_q20]
  by_cases hb : 0 ≤ x.a
  · simp [hb, h, uses, calls, reads, q20_1, q20_2, q20_3, q20_4, q20_5, q20_6, q20_7, q20_8, q20_9, q20_10, q20_11, q20_12, q20_13, q20_15, q20_17, buildSC, fillRows]
    exact expo1_own (α := Int) (L := [x.a]) (by simp)
  · simp [hb, h, uses, calls, reads, q20_1, q20_2, q20_3, q20_4, q20_5, q20_6, q20_7, q20_8, q20_9, q20_10, q20_11, q20_12, q20_13, q20_15, q20_17, buildSC, fillRows, exO]
theorem uses_7 (x : Ins) (h : x.op = 1 ∨ x.op = 2 ∨ x.op = 3 ∨ x.op = 18 ∨ x.op = 20 ∨ x.op = 27 ∨ x.op = 32 ∨ x.op = 33 ∨ x.op < 1 ∨ 33 < x.op) : (callW E).p 10 [.agg (enc x)] = some (exO (uses x)) := by
  rw [x_q20]
  rcases h with h|h|h|h|h|h|h|h|h|h
  all_goals first | (simp [h, uses, calls, reads, q20_1, q20_2, q20_3, q20_4, q20_5, q20_6, q20_7, q20_8, q20_9, q20_10, q20_11, q20_12, q20_13, q20_15, q20_17, exO]; done) | (simp [lo_f h, uses, calls, reads, q20_1, q20_2, q20_3, q20_4, q20_5, q20_6, q20_7, q20_8, q20_9, q20_10, q20_11, q20_12, q20_13, q20_15, q20_17, exO]; done) | simp [hi_f h, uses, calls, reads, q20_1, q20_2, q20_3, q20_4, q20_5, q20_6, q20_7, q20_8, q20_9, q20_10, q20_11, q20_12, q20_13, q20_15, q20_17, exO]
theorem s_Uses (x : Ins) (hl : (lst x.args).length ≤ 17592186043904) : (callW E).p 10 [.agg (enc x)] = some (exO (uses x)) := by
  by_cases h1 : x.op = 4 ∨ x.op = 6 ∨ x.op = 7 ∨ x.op = 8 ∨ x.op = 10 ∨ x.op = 12 ∨ x.op = 15 ∨ x.op = 16 ∨ x.op = 19 ∨ x.op = 21 ∨ x.op = 22 ∨ x.op = 31
  · exact uses_1 x h1
  by_cases h2 : x.op = 5 ∨ x.op = 9 ∨ x.op = 11 ∨ x.op = 13 ∨ x.op = 17 ∨ x.op = 28
  · exact uses_2 x h2
  by_cases h4 : x.op = 23 ∨ x.op = 24 ∨ x.op = 25 ∨ x.op = 26
  · exact uses_4 x h4 hl
  by_cases h5 : x.op = 29
  · exact uses_5 x h5
  by_cases h6 : x.op = 30
  · exact uses_6 x h6
  by_cases h3 : x.op = 14
  · exact uses_3 x h3
  exact uses_7 x (by omega)
end Go.Vm
namespace Go.Vm
open Cel
attribute [local simp] callAny callP heapOf_nil
@[simp] theorem s_Def (x : Ins) : (callW E).p 9 [.agg (enc x)] = some ⟨.int .i64 (defr x), [], true, [], []⟩ := by
  rw [x_q16]
  rcases op_cases x.op with h|h|h|h|h|h|h|h|h|h|h|h|h|h|h|h|h|h|h|h|h|h|h|h|h|h|h|h|h|h|h|h|h|h|h <;> first | (simp [h, defr, writes, calls, q16_1, q16_2, q16_3, q16_4, q16_6, q16_8]; done) | (simp [lo_f h, defr, writes, calls, q16_1, q16_2, q16_3, q16_4, q16_6, q16_8]; done) | simp [hi_f h, defr, writes, calls, q16_1, q16_2, q16_3, q16_4, q16_6, q16_8]
end Go.Vm
namespace Go.Vm
open Cel
def tk (t : Tb) : Nat → List Ws
  | 0 => t.b
  | 1 => t.a
  | _ => t.h
def setk (t : Tb) (k i : Nat) (x : Ws) : Tb := match k with
  | 0 => ⟨t.b.set i x, t.a, t.h⟩
  | 1 => ⟨t.b, t.a.set i x, t.h⟩
  | _ => ⟨t.b, t.a, t.h.set i x⟩
abbrev Plc := Nat → Nat → Nat × Nat
abbrev Arr := Nat → Nat × Nat
def rowsP (P : Plc) (W k n : Nat) : List (List AV) := (List.range n).map fun i => [.ls (P k i).1 (P k i).2 1 0 W]
structure LvRep (f : Fn) (P : Plc) (Q : Arr) (H : Heap) (t : Tb) : Prop where
  box : H[0]? = some (AB f)
  tb : H[1]? = some ⟨1, .arr true false 4 [[.ls (Q 0).1 (Q 0).2 1 0 (lst f.code).length, .ls (Q 1).1 (Q 1).2 1 0 (lst f.code).length, .ls (Q 2).1 (Q 2).2 1 0 (lst f.code).length, .int .i64 (lst f.regs).length]]⟩
  arr : ∀ k, k < 3 → H[(Q k).1]? = some ⟨(Q k).2, .arr false false 1 (rowsP P ((lst f.regs).length / 64 + 1) k (lst f.code).length)⟩
  row : ∀ k, k < 3 → ∀ i, i < (lst f.code).length → H[(P k i).1]? = some (AW (P k i).2 (rowW (tk t k) i))
  inj : ∀ k k' i i', k < 3 → k' < 3 → i < (lst f.code).length → i' < (lst f.code).length → (P k i).1 = (P k' i').1 → k = k' ∧ i = i'
  off : ∀ k k' i, k < 3 → k' < 3 → i < (lst f.code).length → (P k i).1 ≠ (Q k').1
  farP : ∀ k i, k < 3 → i < (lst f.code).length → 3 ≤ (P k i).1
  farQ : ∀ k, k < 3 → 3 ≤ (Q k).1
  injQ : ∀ k k', k < 3 → k' < 3 → (Q k).1 = (Q k').1 → k = k'
  size : 3 ≤ H.length
  ok : TbOk (lst f.code).length ((lst f.regs).length / 64 + 1) t
section
variable {f : Fn} {P : Plc} {Q : Arr} {H : Heap} {t : Tb} (L : LvRep f P Q H t)
include L
theorem LvRep.len {k i : Nat} (hk : k < 3) (hi : i < (lst f.code).length) : (rowW (tk t k) i).length = (lst f.regs).length / 64 + 1 := by
  match k, hk with
  | 0, _ => exact L.ok.bw i hi
  | 1, _ => exact L.ok.aw i hi
  | 2, _ => exact L.ok.hw i hi
theorem LvRep.slot (x : AO) : LvRep f P Q (H.set 2 x) t := by
  refine ⟨?_, ?_, fun k hk => ?_, fun k hk i hi => ?_, L.inj, L.off, L.farP, L.farQ, L.injQ, by rw [List.length_set]; exact L.size, L.ok⟩
  · rw [gs_ne (by omega)]; exact L.box
  · rw [gs_ne (by omega)]; exact L.tb
  · have := L.farQ k hk
    rw [gs_ne (by omega)]; exact L.arr k hk
  · have := L.farP k i hk hi
    rw [gs_ne (by omega)]; exact L.row k hk i hi
theorem LvRep.put {k i : Nat} (hk : k < 3) (hi : i < (lst f.code).length) {x : Ws} (hx : x.length = (lst f.regs).length / 64 + 1) : LvRep f P Q (H.set (P k i).1 (AW (P k i).2 x)) (setk t k i x) := by
  have fp := L.farP k i hk hi
  have hrow : ∀ k' j, k' < 3 → j < (lst f.code).length → rowW (tk (setk t k i x) k') j = if k' = k ∧ j = i then x else rowW (tk t k') j := by
    intro k' j hk' hj
    match k, hk, k', hk' with
    | 0, _, 0, _ => simp only [setk, tk]; rw [row_set (by rw [L.ok.b]; exact hi)]; simp
    | 1, _, 1, _ => simp only [setk, tk]; rw [row_set (by rw [L.ok.a]; exact hi)]; simp
    | 2, _, 2, _ => simp only [setk, tk]; rw [row_set (by rw [L.ok.h]; exact hi)]; simp
    | 0, _, 1, _ => simp [setk, tk]
    | 0, _, 2, _ => simp [setk, tk]
    | 1, _, 0, _ => simp [setk, tk]
    | 1, _, 2, _ => simp [setk, tk]
    | 2, _, 0, _ => simp [setk, tk]
    | 2, _, 1, _ => simp [setk, tk]
  have hlen : ∀ k' j, k' < 3 → j < (lst f.code).length → (rowW (tk (setk t k i x) k') j).length = (lst f.regs).length / 64 + 1 := by
    intro k' j hk' hj
    rw [hrow k' j hk' hj]
    split
    · exact hx
    · exact L.len hk' hj
  refine ⟨?_, ?_, fun k' hk' => ?_, fun k' hk' j hj => ?_, L.inj, L.off, L.farP, L.farQ, L.injQ, by rw [List.length_set]; exact L.size, ?_⟩
  · rw [gs_ne (by omega)]; exact L.box
  · rw [gs_ne (by omega)]; exact L.tb
  · rw [gs_ne (L.off k k' i hk hk' hi)]; exact L.arr k' hk'
  · rw [hrow k' j hk' hj]
    by_cases e : k' = k ∧ j = i
    · obtain ⟨e1, e2⟩ := e
      subst e1; subst e2
      rw [if_pos ⟨rfl, rfl⟩]
      exact gs_eq (get_lt (L.row k' hk j hi))
    · rw [if_neg e, gs_ne (fun h => e (by
        obtain ⟨a, b⟩ := L.inj k k' i j hk hk' hi hj h
        exact ⟨a.symm, b.symm⟩))]
      exact L.row k' hk' j hj
  · refine ⟨?_, ?_, ?_, fun j hj => hlen 0 j (by omega) hj, fun j hj => hlen 1 j (by omega) hj, fun j hj => hlen 2 j (by omega) hj⟩
    · match k, hk with
      | 0, _ => simp only [setk, List.length_set]; exact L.ok.b
      | 1, _ => exact L.ok.b
      | 2, _ => exact L.ok.b
    · match k, hk with
      | 0, _ => exact L.ok.a
      | 1, _ => simp only [setk, List.length_set]; exact L.ok.a
      | 2, _ => exact L.ok.a
    · match k, hk with
      | 0, _ => exact L.ok.h
      | 1, _ => exact L.ok.h
      | 2, _ => simp only [setk, List.length_set]; exact L.ok.h
theorem LvRep.fld {k : Nat} (hk : k < 3) : evLd false 1 (.lp 1 1 0 k) H = some (.ls (Q k).1 (Q k).2 1 0 (lst f.code).length) := by
  have hr : rowsAt H 1 1 = some (false, 4, [[.ls (Q 0).1 (Q 0).2 1 0 (lst f.code).length, .ls (Q 1).1 (Q 1).2 1 0 (lst f.code).length, .ls (Q 2).1 (Q 2).2 1 0 (lst f.code).length, .int .i64 (lst f.regs).length]]) := by simp [rowsAt, objAt, L.tb]
  rw [evLd_lp, hr]
  match k, hk with
  | 0, _ => rfl
  | 1, _ => rfl
  | 2, _ => rfl
theorem LvRep.at {k i : Nat} (hk : k < 3) (hi : i < (lst f.code).length) : evLd false 1 (.lp (Q k).1 (Q k).2 i 0) H = some (.ls (P k i).1 (P k i).2 1 0 ((lst f.regs).length / 64 + 1)) :=
  ld_row (L.arr k hk) (by simp [rowsP, hi])
theorem LvRep.join {k k' i j : Nat} (hk : k < 3) (hi : i < (lst f.code).length) (hk' : k' < 3) (hj : j < (lst f.code).length) (hR : (lst f.regs).length ≤ 20000) (hne : k ≠ k') :
    callAny E (callW E) 0 none false 84 [.ls (P k i).1 (P k i).2 1 0 ((lst f.regs).length / 64 + 1), .ls (P k' j).1 (P k' j).2 1 0 ((lst f.regs).length / 64 + 1)] H =
      some (.bool (moreW (rowW (tk t k) i) (rowW (tk t k') j)), H.set (P k i).1 (AW (P k i).2 (joinW (rowW (tk t k) i) (rowW (tk t k') j)))) := by
  have h1 := L.len hk hi
  have h2 := L.len hk' hj
  have := s_join (L.row k hk i hi) (L.row k' hk' j hj) (by rw [h1, h2]) (by rw [h1]; omega) (fun e => hne (L.inj k k' i j hk hk' hi hj e).1)
  rw [h1, h2] at this
  exact this
end
theorem joins_loop {f : Fn} {P : Plc} {Q : Arr} (hR : (lst f.regs).length ≤ 20000) {k i : Nat} (hk : k < 3) (hk0 : k ≠ 0) (hi : i < (lst f.code).length) {l : List Int} (hl : ∀ to ∈ l, 0 ≤ to ∧ to < ((lst f.code).length : Int)) (G : Nat → Heap → Option (Ex AV))
    (step : ∀ m to H t, l[m]? = some to → LvRep f P Q H t → G m H = oh (callAny E (callW E) 0 none false 84 [.ls (P k i).1 (P k i).2 1 0 ((lst f.regs).length / 64 + 1), .ls (P 0 to.toNat).1 (P 0 to.toNat).2 1 0 ((lst f.regs).length / 64 + 1)] H) fun _ H' => G (m + 1) H') :
    ∀ (d m : Nat) (H : Heap) (t : Tb), m + d = l.length → LvRep f P Q H t →
    ∃ H', G m H = G l.length H' ∧ LvRep f P Q H' (setk t k i (joins t.b (l.drop m) (rowW (tk t k) i))) := by
  intro d
  induction d with
  | zero =>
    intro m H t hm L
    have e : l.drop m = [] := List.drop_eq_nil_of_le (by omega)
    have hm' : m = l.length := by omega
    rw [e, hm']
    refine ⟨H, rfl, ?_⟩
    have : setk t k i (joins t.b [] (rowW (tk t k) i)) = t := by
      have hs : ∀ (l : List Ws), i < l.length → l.set i (rowW l i) = l := fun l h => by
        refine List.ext_getElem (by simp) fun j h1 h2 => ?_
        rw [List.getElem_set]
        split
        · rename_i e; subst e; simp [rowW, List.getD_eq_getElem?_getD, List.getElem?_eq_getElem h]
        · rfl
      match k, hk with
      | 0, _ => simp only [setk, tk, joins, List.foldl_nil]; rw [hs _ (by rw [L.ok.b]; exact hi)]
      | 1, _ => simp only [setk, tk, joins, List.foldl_nil]; rw [hs _ (by rw [L.ok.a]; exact hi)]
      | 2, _ => simp only [setk, tk, joins, List.foldl_nil]; rw [hs _ (by rw [L.ok.h]; exact hi)]
    rw [this]; exact L
  | succ d ih =>
    intro m H t hm L
    have hlt : m < l.length := by omega
    have hto := hl _ (List.getElem_mem hlt)
    have st := step m _ H t (List.getElem?_eq_getElem hlt) L
    rw [List.drop_eq_getElem_cons hlt]
    generalize l[m] = to at *
    have hj : to.toNat < (lst f.code).length := by omega
    have h1 := L.len hk hi
    have h2 := L.len (k := 0) (by omega) hj
    rw [L.join hk hi (by omega) hj hR hk0, oh_some] at st
    have L2 := L.put hk hi (x := joinW (rowW (tk t k) i) (rowW (tk t 0) to.toNat)) (by rw [joinW_len (by rw [h1, h2]), h1])
    obtain ⟨H', e, L3⟩ := ih (m + 1) _ _ (by omega) L2
    refine ⟨H', by rw [st, e], ?_⟩
    have eb : (setk t k i (joinW (rowW (tk t k) i) (rowW (tk t 0) to.toNat))).b = t.b := by
      match k, hk, hk0 with
      | 1, _, _ => rfl
      | 2, _, _ => rfl
    have er : rowW (tk (setk t k i (joinW (rowW (tk t k) i) (rowW (tk t 0) to.toNat))) k) i = joinW (rowW (tk t k) i) (rowW t.b to.toNat) := by
      match k, hk, hk0 with
      | 1, _, _ => simp only [setk, tk]; rw [row_set (by rw [L.ok.a]; exact hi), if_pos rfl]
      | 2, _, _ => simp only [setk, tk]; rw [row_set (by rw [L.ok.h]; exact hi), if_pos rfl]
    have ess : ∀ y x, setk (setk t k i y) k i x = setk t k i x := fun y x => by
      match k, hk with
      | 0, _ => simp [setk]
      | 1, _ => simp [setk]
      | 2, _ => simp [setk]
    rw [eb, er, ess] at L3
    exact L3
end Go.Vm
namespace Go.Vm
open Cel
theorem ld_box1 {f : Fn} {H : Heap} (h : H[0]? = some (AB f)) : evLd true 5 (.lp 0 1 0 0) H = some (.agg (enc f)) := by
  have hr : rowsAt H 0 1 = some (false, 5, [enc f]) := by simp [rowsAt, objAt, h]
  simp [evLd_lp, hr]
theorem ld_code1 {f : Fn} {H : Heap} (h : H[0]? = some (AB f)) : evLd false 1 (.lp 0 1 0 3) H = some (slA f.code) := by
  have hr : rowsAt H 0 1 = some (false, 5, [enc f]) := by simp [rowsAt, objAt, h]
  simp [evLd_lp, hr]
theorem fz_fi1 (f : Fn) (i : Int) (H : Heap) : fzList (fz H fuelF) [.agg (enc f), .int .i64 i] = some ⟨[.agg (enc f), .int .i64 i], scal f && (true && true), []⟩ := by
  rw [fzList_cons, fzList_cons, fz_enc, fz_int', fzList_nil]; rfl
theorem fz_x1 (x : Ins) (H : Heap) : fzList (fz H fuelF) [.agg (enc x)] = some ⟨[.agg (enc x)], scal x && true, []⟩ := by
  rw [fzList_cons, fz_enc, fzList_nil]; rfl
theorem rows_ne {s : Ws} (h : 1 ≤ s.length) : (s.map enc).isEmpty = false := by
  cases s with
  | nil => simp at h
  | cons a s => rfl
theorem app_new {H : Heap} {id g j : Nat} {o : AO} {s : Ws} (h : H[id]? = some (AW g s)) (ho : H[j]? = some o) (h1 : 1 ≤ s.length) (h2 : s.length ≤ 1000000) :
    evApp 0 (some j) 1 8 .nils (.ls id g 1 0 s.length) H = some (.ls j (o.gen + 1) 1 0 s.length, H.set j (AW (o.gen + 1) s)) := by
  have hy := rows_ls (α := BitVec 64) h
  simp only [es_w] at hy
  have hb : s.length * 8 ≤ 2 ^ 48 := by omega
  unfold evApp
  rw [hy]
  simp only [rows_ne h1, List.length_map, hb, if_true, Bool.false_eq_true, if_false, newArr, place, Nat.zero_add, ho]
theorem uses_loop {W : Nat} {o : Option (List Int)} (hl : (lst o).length ≤ 9223372036854775806) (hu : ∀ u ∈ lst o, 0 ≤ u ∧ u < 20000 ∧ u.toNat / 64 < W) (v1 v3 v5 v6 v7 : AV) (g : Nat) : ∀ (d m : Nat) (H : Heap) (s : Ws), m + d = (lst o).length → H[2]? = some (AW g s) → s.length = W →
    q35_L6 v1 v3 v5 v6 v7 (.ls 2 g 1 0 W) (slA o) (.int .i64 (lst o).length) (.int .i64 (m : Int)) H = q35_5 v1 v3 v5 v6 v7 (.ls 2 g 1 0 W) (H.set 2 (AW g (adds ((lst o).drop m) s))) := by
  intro d
  induction d with
  | zero =>
    intro m H s hm hs hW
    have hm' : m = (lst o).length := by omega
    have e : (lst o).drop m = [] := List.drop_eq_nil_of_le (by omega)
    have hc : ¬ ((m : Int) < ((lst o).length : Int)) := by omega
    rw [e, q35_L6_go]
    have ha : adds [] s = s := rfl
    simp only [q35_10, evBin_lss, ob_some, hc, decide_false, q35_9, cnd_f, ha, set_same hs]
  | succ d ih =>
    intro m H s hm hs hW
    have hlt : m < (lst o).length := by omega
    have hc : ((m : Int) < ((lst o).length : Int)) := by omega
    have hw := wrap_up hlt (by omega)
    have kx := ixs_int (List.getElem?_eq_getElem hlt) .i64
    have hu1 := hu _ (List.getElem_mem hlt)
    rw [List.drop_eq_getElem_cons hlt, q35_L6_go]
    generalize (lst o)[m] = u at *
    have lx : ∀ t : Heap, evLd false 1 (.rp [.int .i64 u]) t = some (.int .i64 u) := fun t => by simp
    have eu : ((u.toNat : Nat) : Int) = u := by omega
    have ad := s_add (H := H) hs (r := u.toNat) (by omega) (by omega)
    rw [eu, hW] at ad
    have ih1 := ih (m + 1) (H.set 2 (AW g (addW s u.toNat))) (addW s u.toNat) (by omega) (gs_eq (get_lt hs)) (by rw [addW_len, hW])
    rw [List.set_set] at ih1
    push_cast at ih1
    have ha : adds (u :: (lst o).drop (m + 1)) s = adds ((lst o).drop (m + 1)) (addW s u.toNat) := rfl
    rw [ha]
    simp only [q35_10, evBin_lss, ob_some, hc, decide_true, q35_9, cnd_t, q35_8, kx, lx, ad, oh_some, q35_7, evBin_add, hw, ih1]
section
variable {f : Fn} (w : Wf f) (hr : (lst f.rows).length ≤ 10000000000000) (hx : ∀ x ∈ lst f.code, (lst x.args).length ≤ 17592186043904) {P : Plc} {Q : Arr}
include w hr hx
set_option maxHeartbeats 1000000 in
theorem one_step {i : Nat} (hi : i < (lst f.code).length) (m : Bool) (H : Heap) (t : Tb) (L : LvRep f P Q H t) :
    ∃ H', q35_L3 (.lp 0 1 0 0) (.int .i64 (lst f.code).length) (.lp 1 1 0 0) (.bool m) (.int .i64 (i : Int)) H =
      q35_4 (.lp 0 1 0 0) (.int .i64 (lst f.code).length) (.lp 1 1 0 0) (.bool (moreT f t i || m)) (.int .i64 (i : Int)) H' ∧ LvRep f P Q H' (stepT f t i) := by
  have hn := w.n2
  have hR := w.regs
  have hge : (0 : Int) ≤ (i : Int) := by omega
  have cN : ∀ H, callAny E (callW E) 0 none true 81 [.agg (enc f), .int .i64 (i : Int)] H = some (slA (nz (nextL f i)), H) := fun H => call_reads rfl (fz_fi1 f i H) rfl (s_Next f i (by omega)) ⟨_, exO_fz _, rfl⟩
  have cC : ∀ H, callAny E (callW E) 0 none true 79 [.agg (enc f), .int .i64 (i : Int)] H = some (slA (nz (caughtL f i)), H) := fun H => call_reads rfl (fz_fi1 f i H) rfl (s_Caught f i (by omega)) ⟨_, exO_fz _, rfl⟩
  have cD : ∀ H, callAny E (callW E) 0 none true 9 [.agg (enc (insAt f i))] H = some (.int .i64 (defr (insAt f i)), H) := fun H => call_reads rfl (fz_x1 _ H) rfl (s_Def _) ⟨_, rfl, rfl⟩
  have hxa := hx _ (List.mem_of_getElem? (insAt_lt hi))
  have cU : ∀ H, callAny E (callW E) 0 none true 10 [.agg (enc (insAt f i))] H = some (slA (uses (insAt f i)), H) := fun H => call_reads rfl (fz_x1 _ H) rfl (s_Uses _ hxa) ⟨_, exO_fz _, rfl⟩
  have lN := nextL_len f i
  have lC := w.caught_len i
  have nc : ∀ a b c d, evNilchk (.lp a b c d) = some (.lp a b c d) := fun _ _ _ _ => rfl
  have ixQ : ∀ (k : Nat) (j : Int), 0 ≤ j → j < (lst f.code).length → evIxs 1 (.ls (Q k).1 (Q k).2 1 0 (lst f.code).length) (.int .i64 j) = some (.lp (Q k).1 (Q k).2 j.toNat 0) := fun k j h0 h1 => ixAt' h0 h1 _ _ .i64
  -- behind it
  obtain ⟨H1, e1, L1⟩ := joins_loop (f := f) (P := P) (Q := Q) hR (k := 1) (i := i) (by omega) (by omega) hi (l := nextL f i) (fun to h => w.next hi h)
    (fun q H => q35_L25 (.lp 0 1 0 0) (.int .i64 (lst f.code).length) (.lp 1 1 0 0) (.bool m) (.int .i64 (i : Int)) (slA (nz (nextL f i))) (.int .i64 (nextL f i).length) (.int .i64 (q : Int)) H)
    (fun q to H t hk L => by
      have hlt := (List.getElem?_eq_some_iff.1 hk).1
      have hto := w.next hi (List.mem_of_getElem? hk)
      have hc : ((q : Int) < ((nextL f i).length : Int)) := by omega
      have hw2 := wrap_up hlt (by omega)
      have kx := ixs_int (o := nz (nextL f i)) (i := q) (by rw [lst_nz]; exact hk) .i64
      have lx : ∀ t : Heap, evLd false 1 (.rp [.int .i64 to]) t = some (.int .i64 to) := fun t => by simp
      have a1 := L.fld (k := 1) (by omega)
      have a0 := L.fld (k := 0) (by omega)
      have b1 := L.at (k := 1) (i := i) (by omega) hi
      have b0 := L.at (k := 0) (i := to.toNat) (by omega) (by omega)
      have i1 := ixQ 1 (i : Int) (by omega) (by omega)
      have i0 := ixQ 0 to hto.1 hto.2
      rw [Int.toNat_natCast] at i1
      rw [q35_L25_go]
      simp only [q35_29, evBin_lss, ob_some, hc, decide_true, q35_28, cnd_t, q35_27, kx, lx, nc, evFa_lp, Nat.zero_add, a1, i1, b1, a0, i0, b0, q35_26, evBin_add, hw2]
      rfl)
    _ 0 H t (Nat.zero_add _) L
  rw [List.drop_zero] at L1
  simp only [Int.ofNat_zero] at e1
  -- where it is caught
  obtain ⟨H2, e2, L2⟩ := joins_loop (f := f) (P := P) (Q := Q) hR (k := 2) (i := i) (by omega) (by omega) hi (l := caughtL f i) (fun to h => w.caught h)
    (fun q H => q35_L17 (.lp 0 1 0 0) (.int .i64 (lst f.code).length) (.lp 1 1 0 0) (.bool m) (.int .i64 (i : Int)) (slA (nz (caughtL f i))) (.int .i64 (caughtL f i).length) (.int .i64 (q : Int)) H)
    (fun q to H t hk L => by
      have hlt := (List.getElem?_eq_some_iff.1 hk).1
      have hto := w.caught (List.mem_of_getElem? hk)
      have hc : ((q : Int) < ((caughtL f i).length : Int)) := by omega
      have hw2 := wrap_up hlt (by omega)
      have kx := ixs_int (o := nz (caughtL f i)) (i := q) (by rw [lst_nz]; exact hk) .i64
      have lx : ∀ t : Heap, evLd false 1 (.rp [.int .i64 to]) t = some (.int .i64 to) := fun t => by simp
      have a1 := L.fld (k := 2) (by omega)
      have a0 := L.fld (k := 0) (by omega)
      have b1 := L.at (k := 2) (i := i) (by omega) hi
      have b0 := L.at (k := 0) (i := to.toNat) (by omega) (by omega)
      have i1 := ixQ 2 (i : Int) (by omega) (by omega)
      have i0 := ixQ 0 to hto.1 hto.2
      rw [Int.toNat_natCast] at i1
      rw [q35_L17_go]
      simp only [q35_21, evBin_lss, ob_some, hc, decide_true, q35_20, cnd_t, q35_19, kx, lx, nc, evFa_lp, Nat.zero_add, a1, i1, b1, a0, i0, b0, q35_18, evBin_add, hw2]
      rfl)
    _ 0 H1 _ (Nat.zero_add _) L1
  rw [List.drop_zero] at L2
  simp only [Int.ofNat_zero] at e2
  have eT : setk (setk t 1 i (joins t.b (nextL f i) (rowW (tk t 1) i))) 2 i (joins (setk t 1 i (joins t.b (nextL f i) (rowW (tk t 1) i))).b (caughtL f i) (rowW (tk (setk t 1 i (joins t.b (nextL f i) (rowW (tk t 1) i))) 2) i)) = ⟨t.b, t.a.set i (aftT f t i), t.h.set i (hanT f t i)⟩ := rfl
  rw [eT] at L2
  have rA : rowW (tk (⟨t.b, t.a.set i (aftT f t i), t.h.set i (hanT f t i)⟩ : Tb) 1) i = aftT f t i := by
    simp only [tk]; rw [row_set (by rw [L.ok.a]; exact hi), if_pos rfl]
  have rH : rowW (tk (⟨t.b, t.a.set i (aftT f t i), t.h.set i (hanT f t i)⟩ : Tb) 2) i = hanT f t i := by
    simp only [tk]; rw [row_set (by rw [L.ok.h]; exact hi), if_pos rfl]
  have lenA := aft_len w L.ok hi
  have lenH := han_len w L.ok hi
  have lenB := bef_len w L.ok hi
  -- the copy
  have a1 := L2.fld (k := 1) (by omega)
  have b1 := L2.at (k := 1) (i := i) (by omega) hi
  have i1 := ixQ 1 (i : Int) (by omega) (by omega)
  have i2 := ixQ 2 (i : Int) (by omega) (by omega)
  have i0 := ixQ 0 (i : Int) (by omega) (by omega)
  rw [Int.toNat_natCast] at i1 i2 i0
  have r1 := L2.row 1 (by omega) i hi
  rw [rA] at r1
  obtain ⟨o11, h11⟩ : ∃ o, H2[2]? = some o := ⟨_, List.getElem?_eq_getElem (by have := L2.size; omega)⟩
  have ap := app_new r1 h11 (by omega) (by omega)
  rw [lenA] at ap
  have hl11 := get_lt h11
  generalize o11.gen + 1 = g at *
  -- what is written
  have lx : ∀ t : Heap, evLd true 9 (.rp (enc (insAt f i))) t = some (.agg (enc (insAt f i))) := fun t => by simp
  have k9 := ixs_ins (o := f.code) (insAt_lt hi) .i64
  have eC : q35_15 (.lp 0 1 0 0) (.int .i64 (lst f.code).length) (.lp 1 1 0 0) (.bool m) (.int .i64 (i : Int)) (.ls 2 g 1 0 ((lst f.regs).length / 64 + 1)) (H2.set 2 (AW g (aftT f t i))) =
      q35_14 (.lp 0 1 0 0) (.int .i64 (lst f.code).length) (.lp 1 1 0 0) (.bool m) (.int .i64 (i : Int)) (.ls 2 g 1 0 ((lst f.regs).length / 64 + 1)) (H2.set 2 (AW g (dropD (defr (insAt f i)) (aftT f t i)))) := by
    have lc := ld_code1 (L2.slot (AW g (aftT f t i))).box
    by_cases hd : 0 ≤ defr (insAt f i)
    · have hd2 := w.def hi hd
      have dr := s_drop (H := H2.set 2 (AW g (aftT f t i))) (gs_eq hl11) (r := (defr (insAt f i)).toNat) (by omega) (by rw [lenA]; omega)
      rw [lenA, List.set_set, show (((defr (insAt f i)).toNat : Nat) : Int) = defr (insAt f i) by omega] at dr
      simp only [q35_15, evFa_lp, Nat.zero_add, ob_some, lc, k9, lx, cD, oh_some, evBin_geq, hd, decide_true, cnd_t, dr, dropD, if_true]
    · simp only [q35_15, evFa_lp, Nat.zero_add, ob_some, lc, k9, lx, cD, oh_some, evBin_geq, hd, decide_false, cnd_f, dropD, if_false]
  -- what is caught, what is read
  have L3 := L2.slot (AW g (dropD (defr (insAt f i)) (aftT f t i)))
  have lenD : (dropD (defr (insAt f i)) (aftT f t i)).length = (lst f.regs).length / 64 + 1 := by rw [dropD_len, lenA]
  have c2 := L3.fld (k := 2) (by omega)
  have d2 := L3.at (k := 2) (i := i) (by omega) hi
  have r2 := L3.row 2 (by omega) i hi
  rw [rH] at r2
  have f2 := L3.farP 2 i (by omega) hi
  have jn := s_join (H := H2.set 2 (AW g (dropD (defr (insAt f i)) (aftT f t i)))) (gs_eq hl11) r2 (by rw [lenD, lenH]) (by rw [lenD]; omega) (by omega)
  rw [lenD, lenH, List.set_set] at jn
  have L4 := L2.slot (AW g (joinW (dropD (defr (insAt f i)) (aftT f t i)) (hanT f t i)))
  have lc4 := ld_code1 L4.box
  have hlu : (lst (uses (insAt f i))).length ≤ 9223372036854775806 := by
    have : (lst (uses (insAt f i))).length ≤ (lst (insAt f i).args).length + 3 := by
      unfold uses
      repeat' split
      all_goals simp
    omega
  have us := uses_loop (W := (lst f.regs).length / 64 + 1) (o := uses (insAt f i)) hlu (fun u hu => by
    have := w.uses hi hu
    omega) (.lp 0 1 0 0) (.int .i64 (lst f.code).length) (.lp 1 1 0 0) (.bool m) (.int .i64 (i : Int)) g _ 0 (H2.set 2 (AW g (joinW (dropD (defr (insAt f i)) (aftT f t i)) (hanT f t i)))) _ (Nat.zero_add _) (gs_eq hl11) (by rw [joinW_len (by rw [lenD, lenH]), lenD])
  rw [List.drop_zero, List.set_set] at us
  simp only [Int.ofNat_zero] at us
  have eB : adds (lst (uses (insAt f i))) (joinW (dropD (defr (insAt f i)) (aftT f t i)) (hanT f t i)) = befT f t i := rfl
  rw [eB] at us
  -- ahead of it
  have L5 := L2.slot (AW g (befT f t i))
  have a5 := L5.fld (k := 0) (by omega)
  have b5 := L5.at (k := 0) (i := i) (by omega) hi
  have r5 := L5.row 0 (by omega) i hi
  have f5 := L5.farP 0 i (by omega) hi
  have lb : (rowW t.b i).length = (lst f.regs).length / 64 + 1 := L.ok.bw i hi
  have jb := s_join (H := H2.set 2 (AW g (befT f t i))) r5 (gs_eq hl11) (by rw [lenB]; exact lb) (by rw [show (rowW (tk (⟨t.b, t.a.set i (aftT f t i), t.h.set i (hanT f t i)⟩ : Tb) 0) i).length = (lst f.regs).length / 64 + 1 from lb]; omega) (by omega)
  rw [lenB, show (rowW (tk (⟨t.b, t.a.set i (aftT f t i), t.h.set i (hanT f t i)⟩ : Tb) 0) i).length = (lst f.regs).length / 64 + 1 from lb] at jb
  have L6 := L5.put (k := 0) (i := i) (by omega) hi (x := joinW (rowW t.b i) (befT f t i)) (by rw [joinW_len (by rw [lb, lenB]), lb])
  refine ⟨_, ?_, L6⟩
  have hc1 : ¬ (((nextL f i).length : Int) < ((nextL f i).length : Int)) := by omega
  have hc2 : ¬ (((caughtL f i).length : Int) < ((caughtL f i).length : Int)) := by omega
  have z1 : q35_L3 (.lp 0 1 0 0) (.int .i64 (lst f.code).length) (.lp 1 1 0 0) (.bool m) (.int .i64 (i : Int)) H =
      q35_L25 (.lp 0 1 0 0) (.int .i64 (lst f.code).length) (.lp 1 1 0 0) (.bool m) (.int .i64 (i : Int)) (slA (nz (nextL f i))) (.int .i64 (nextL f i).length) (.int .i64 0) H := by
    rw [q35_L3_go]
    simp only [q35_35, evBin_geq, hge, decide_true, ob_some, cnd_t, q35_31, ld_box1 L.box, cN, oh_some, evLen_sl, lst_nz]
  have z2 : q35_L25 (.lp 0 1 0 0) (.int .i64 (lst f.code).length) (.lp 1 1 0 0) (.bool m) (.int .i64 (i : Int)) (slA (nz (nextL f i))) (.int .i64 (nextL f i).length) (.int .i64 (nextL f i).length) H1 =
      q35_L17 (.lp 0 1 0 0) (.int .i64 (lst f.code).length) (.lp 1 1 0 0) (.bool m) (.int .i64 (i : Int)) (slA (nz (caughtL f i))) (.int .i64 (caughtL f i).length) (.int .i64 0) H1 := by
    rw [q35_L25_go]
    simp only [q35_29, evBin_lss, ob_some, hc1, decide_false, q35_28, cnd_f, q35_23, ld_box1 L1.box, cC, oh_some, evLen_sl, lst_nz]
  have z3 : q35_L17 (.lp 0 1 0 0) (.int .i64 (lst f.code).length) (.lp 1 1 0 0) (.bool m) (.int .i64 (i : Int)) (slA (nz (caughtL f i))) (.int .i64 (caughtL f i).length) (.int .i64 (caughtL f i).length) H2 =
      q35_15 (.lp 0 1 0 0) (.int .i64 (lst f.code).length) (.lp 1 1 0 0) (.bool m) (.int .i64 (i : Int)) (.ls 2 g 1 0 ((lst f.regs).length / 64 + 1)) (H2.set 2 (AW g (aftT f t i))) := by
    rw [q35_L17_go]
    simp only [q35_21, evBin_lss, ob_some, hc2, decide_false, q35_20, cnd_f, q35_16, nc, evFa_lp, Nat.zero_add, a1, i1, b1, ap, oh_some]
  have z4 : q35_14 (.lp 0 1 0 0) (.int .i64 (lst f.code).length) (.lp 1 1 0 0) (.bool m) (.int .i64 (i : Int)) (.ls 2 g 1 0 ((lst f.regs).length / 64 + 1)) (H2.set 2 (AW g (dropD (defr (insAt f i)) (aftT f t i)))) =
      q35_5 (.lp 0 1 0 0) (.int .i64 (lst f.code).length) (.lp 1 1 0 0) (.bool m) (.int .i64 (i : Int)) (.ls 2 g 1 0 ((lst f.regs).length / 64 + 1)) (H2.set 2 (AW g (befT f t i))) := by
    rw [← us]
    simp only [q35_14, nc, ob_some, evFa_lp, Nat.zero_add, c2, i2, d2, jn, oh_some, q35_12, lc4, k9, lx, cU, evLen_sl]
  rw [z1, e1, z2, e2, z3, eC, z4]
  have hmt : moreT f t i = moreW (rowW (tk (⟨t.b, t.a.set i (aftT f t i), t.h.set i (hanT f t i)⟩ : Tb) 0) i) (befT f t i) := rfl
  rw [hmt]
  cases hmm : moreW (rowW (tk (⟨t.b, t.a.set i (aftT f t i), t.h.set i (hanT f t i)⟩ : Tb) 0) i) (befT f t i) with
  | true =>
    rw [hmm] at jb
    simp only [q35_5, nc, ob_some, evFa_lp, Nat.zero_add, a5, i0, b5, jb, oh_some, gb_tf, evPick_t, Bool.true_or]
    rfl
  | false =>
    rw [hmm] at jb
    simp only [q35_5, nc, ob_some, evFa_lp, Nat.zero_add, a5, i0, b5, jb, oh_some, gb_ff, evPick_f, Bool.false_or]
    rfl
end
end Go.Vm
namespace Go.Vm
open Cel
section
variable {f : Fn} (w : Wf f) (hr : (lst f.rows).length ≤ 10000000000000) (hx : ∀ x ∈ lst f.code, (lst x.args).length ≤ 17592186043904) {P : Plc} {Q : Arr}
include w hr hx
theorem sweep_walk : ∀ (k : Nat) (t : Tb) (H : Heap) (m : Bool), k ≤ (lst f.code).length → LvRep f P Q H t →
    ∃ H', q35_L3 (.lp 0 1 0 0) (.int .i64 (lst f.code).length) (.lp 1 1 0 0) (.bool m) (.int .i64 ((k : Int) - 1)) H = q35_L2 (.lp 0 1 0 0) (.int .i64 (lst f.code).length) (.lp 1 1 0 0) (.bool ((sweepT f k t).2 || m)) H' ∧ LvRep f P Q H' (sweepT f k t).1 := by
  have hn := w.n2
  intro k
  induction k with
  | zero =>
    intro t H m _ L
    refine ⟨H, ?_, L⟩
    have hc : ¬ (0 : Int) ≤ ((0 : Nat) : Int) - 1 := by omega
    rw [q35_L3_go]
    simp only [q35_35, evBin_geq, ob_some, hc, decide_false, cnd_f, sweepT, Bool.false_or]
  | succ k ih =>
    intro t H m hk L
    obtain ⟨H1, e1, L1⟩ := one_step w hr hx (i := k) (by omega) m H t L
    obtain ⟨H2, e2, L2⟩ := ih (stepT f t k) H1 (moreT f t k || m) (by omega) L1
    refine ⟨H2, ?_, L2⟩
    have ek : (((k + 1 : Nat) : Int) - 1) = (k : Int) := by omega
    have hw : IntKind.wrap .i64 ((k : Int) - 1) = (k : Int) - 1 := by rw [wrap_i64] <;> omega
    have eb : ((sweepT f (k + 1) t).2 || m) = ((sweepT f k (stepT f t k)).2 || (moreT f t k || m)) := by
      rw [sweepT]
      cases moreT f t k <;> cases (sweepT f k (stepT f t k)).2 <;> cases m <;> rfl
    rw [ek, e1, eb, ← e2]
    simp only [q35_4, evBin_sub, hw, ob_some]
theorem loop_walk : ∀ (q : Nat) (t : Tb) (H : Heap) (r : Tb), LvRep f P Q H t → liveLoop f q t = some r →
    ∃ H', q35_L2 (.lp 0 1 0 0) (.int .i64 (lst f.code).length) (.lp 1 1 0 0) (.bool true) H = q35_1 (.lp 1 1 0 0) H' ∧ LvRep f P Q H' r := by
  have hn := w.n2
  intro q
  induction q with
  | zero => intro t H r _ h; cases h
  | succ q ih =>
    intro t H r L h
    obtain ⟨H1, e1, L1⟩ := sweep_walk w hr hx (lst f.code).length t H false (Nat.le_refl _) L
    have hw : IntKind.wrap .i64 (((lst f.code).length : Int) - 1) = ((lst f.code).length : Int) - 1 := by rw [wrap_i64] <;> omega
    have e2 : q35_L2 (.lp 0 1 0 0) (.int .i64 (lst f.code).length) (.lp 1 1 0 0) (.bool true) H = q35_L2 (.lp 0 1 0 0) (.int .i64 (lst f.code).length) (.lp 1 1 0 0) (.bool ((sweepT f (lst f.code).length t).2 || false)) H1 := by
      rw [← e1, q35_L2_go]
      simp only [q35_40, cnd_t, q35_38, q35_37, evBin_sub, hw, ob_some]
    rw [e2, Bool.or_false]
    rw [liveLoop] at h
    cases hm : (sweepT f (lst f.code).length t).2 with
    | true =>
      rw [hm, if_pos rfl] at h
      exact ih _ H1 r L1 h
    | false =>
      rw [hm, if_neg Bool.false_ne_true] at h
      injection h with h
      subst h
      refine ⟨H1, ?_, L1⟩
      rw [q35_L2_go]
      simp only [q35_40, cnd_f]
end
end Go.Vm
namespace Go.Vm
open Cel
instance : Cel Ws := ⟨1, fun s => [slA (some s)], fun _ => rfl, fun _ => rfl, fun _ => rfl⟩
@[simp] theorem enc_ws (s : Ws) : enc s = [slA (some s)] := rfl
@[simp] theorem es_ws : es Ws = 1 := rfl
theorem fzList_all {β γ : Type} (g : β → Option (Fz γ)) (x : Nat → β) (y : Nat → γ) (id : Nat → Nat) : ∀ (l : List Nat), (∀ i ∈ l, g (x i) = some ⟨y i, true, [id i]⟩) → fzList g (l.map x) = some ⟨l.map y, true, l.map id⟩
  | [], _ => rfl
  | i :: l, h => by
    rw [List.map_cons, fzList_cons, h i (by simp), fzList_all g x y id l (fun j hj => h j (by simp [hj]))]
    rfl
theorem scal_ws (s : Ws) : s.all scal = true := by
  rw [List.all_eq_true]
  intro w _
  rfl
def idsP (P : Plc) (k n : Nat) : List Nat := (List.range n).map fun i => (P k i).1
theorem rows_all {l : List Ws} {n : Nat} (h : l.length = n) : (List.range n).map (fun i => enc (rowW l i)) = l.map enc := by
  refine List.ext_getElem (by simp [h]) fun i h1 h2 => ?_
  have hi : i < l.length := by simpa using h2
  simp [rowW, List.getD_eq_getElem?_getD, hi]
section
variable {f : Fn} {P : Plc} {Q : Arr} {H : Heap} {t : Tb} (L : LvRep f P Q H t)
include L
theorem LvRep.rows {k : Nat} (hk : k < 3) : fzList (fzList (fz H fuelF)) (rowsP P ((lst f.regs).length / 64 + 1) k (lst f.code).length) = some ⟨(tk t k).map enc, true, idsP P k (lst f.code).length⟩ := by
  have hl : (tk t k).length = (lst f.code).length := by
    match k, hk with
    | 0, _ => exact L.ok.b
    | 1, _ => exact L.ok.a
    | 2, _ => exact L.ok.h
  rw [← rows_all hl]
  refine fzList_all _ _ _ _ _ fun i hi => ?_
  rw [List.mem_range] at hi
  have h1 := fz_ls0 (α := BitVec 64) (k := 10) (L.row k hk i hi)
  rw [L.len hk hi, scal_ws] at h1
  have h2 : fz H fuelF (.ls (P k i).1 (P k i).2 1 0 ((lst f.regs).length / 64 + 1)) = some ⟨slA (some (rowW (tk t k) i)), true, [(P k i).1]⟩ := h1
  rw [fzList_cons, h2, fzList_nil]
  rfl
theorem LvRep.ex {k : Nat} (hk : k < 3) (os : List OC) : expo H 11 (.ls (Q k).1 (Q k).2 1 0 (lst f.code).length) os = some ⟨.ls os.length 0 1 0 (lst f.code).length, os ++ [.arr false false 1 ((tk t k).map enc)], true, [(Q k).1], idsP P k (lst f.code).length⟩ := by
  have hr : rowsAt H (Q k).1 (Q k).2 = some (false, 1, rowsP P ((lst f.regs).length / 64 + 1) k (lst f.code).length) := by simp [rowsAt, objAt, L.arr k hk]
  have hl : (rowsP P ((lst f.regs).length / 64 + 1) k (lst f.code).length).length = (lst f.code).length := by simp [rowsP]
  have ht : ((rowsP P ((lst f.regs).length / 64 + 1) k (lst f.code).length).drop 0).take (lst f.code).length = rowsP P ((lst f.regs).length / 64 + 1) k (lst f.code).length := by
    rw [List.drop_zero, List.take_of_length_le (by rw [hl]; exact Nat.le_refl _)]
  rw [expo_ls, hr]
  simp only [hl, Nat.zero_add, Nat.le_refl, and_self, if_true, ht, L.rows hk]
theorem LvRep.reads : ∃ r, q35_1 (.lp 1 1 0 0) H = some r ∧ Reads r (.rp [slA (some t.b), slA (some t.a), slA (some t.h), .int .i64 (lst f.regs).length]) := by
  have e0 := L.ex (k := 0) (by omega)
  have e1 := L.ex (k := 1) (by omega)
  have e2 := L.ex (k := 2) (by omega)
  have e3 : ∀ os, expo H 11 (.int .i64 (lst f.regs).length) os = some ⟨.int .i64 (lst f.regs).length, os, true, [], []⟩ := fun os => expo_p rfl H 10 os
  have hr : rowsAt H 1 1 = some (false, 4, [[.ls (Q 0).1 (Q 0).2 1 0 (lst f.code).length, .ls (Q 1).1 (Q 1).2 1 0 (lst f.code).length, .ls (Q 2).1 (Q 2).2 1 0 (lst f.code).length, .int .i64 (lst f.regs).length]]) := by simp [rowsAt, objAt, L.tb]
  have q0 := L.farQ 0 (by omega)
  have q1 := L.farQ 1 (by omega)
  have q2 := L.farQ 2 (by omega)
  have m : ∀ x, (∀ k i, k < 3 → i < (lst f.code).length → (P k i).1 ≠ x) → (idsP P 0 (lst f.code).length ++ (idsP P 1 (lst f.code).length ++ (idsP P 2 (lst f.code).length ++ []))).contains x = false := by
    intro x hx
    rw [← Bool.not_eq_true, List.contains_iff_mem]
    intro hm
    simp only [List.mem_append, idsP, List.mem_map, List.mem_range, List.not_mem_nil, or_false] at hm
    rcases hm with ⟨i, hi, e⟩ | ⟨i, hi, e⟩ | ⟨i, hi, e⟩
    · exact hx 0 i (by omega) hi e
    · exact hx 1 i (by omega) hi e
    · exact hx 2 i (by omega) hi e
  have m1 := m 1 (fun k i hk hi e => by have := L.farP k i hk hi; omega)
  have mq : ∀ k, k < 3 → _ := fun k hk => m (Q k).1 (fun k' i hk' hi e => L.off k' k i hk' hk hi e)
  have nq : ∀ k k', k < 3 → k' < 3 → k ≠ k' → ¬ (Q k).1 = (Q k').1 := fun k k' h h' hne e => hne (L.injQ k k' h h' e)
  have ap : apartIds [1, (Q 0).1, (Q 1).1, (Q 2).1] (idsP P 0 (lst f.code).length ++ (idsP P 1 (lst f.code).length ++ (idsP P 2 (lst f.code).length ++ []))) = true := by
    have n01 := nq 0 1 (by omega) (by omega) (by omega)
    have n02 := nq 0 2 (by omega) (by omega) (by omega)
    have n12 := nq 1 2 (by omega) (by omega) (by omega)
    have z0 : ¬ 1 = (Q 0).1 := by omega
    have z1 : ¬ 1 = (Q 1).1 := by omega
    have z2 : ¬ 1 = (Q 2).1 := by omega
    simp only [apartIds, m1, mq 0 (by omega), mq 1 (by omega), mq 2 (by omega), Bool.not_false, Bool.and_true]
    simp [n01, n02, n12, z0, z1, z2]
  have ex : expo H fuelF (.lp 1 1 0 0) [] = some ⟨.lp 3 0 0 0, [.arr false false 1 (t.b.map enc), .arr false false 1 (t.a.map enc), .arr false false 1 (t.h.map enc), .arr true false 4 [[.ls 0 0 1 0 (lst f.code).length, .ls 1 0 1 0 (lst f.code).length, .ls 2 0 1 0 (lst f.code).length, .int .i64 (lst f.regs).length]]], true, [1, (Q 0).1, (Q 1).1, (Q 2).1], idsP P 0 (lst f.code).length ++ (idsP P 1 (lst f.code).length ++ (idsP P 2 (lst f.code).length ++ []))⟩ := by
    show expo H (11 + 1) (.lp 1 1 0 0) [] = _
    rw [expo]
    simp only [hr, and_self, if_true, exList, e0, e1, e2, e3, List.nil_append, List.length_nil, List.length_cons, List.cons_append, List.append_nil, tk]
    rfl
  refine ⟨⟨.lp 3 0 0 0, [.arr false false 1 (t.b.map enc), .arr false false 1 (t.a.map enc), .arr false false 1 (t.h.map enc), .arr true false 4 [[.ls 0 0 1 0 (lst f.code).length, .ls 1 0 1 0 (lst f.code).length, .ls 2 0 1 0 (lst f.code).length, .int .i64 (lst f.regs).length]]], true, [], []⟩, by rw [q35_1, expo1, ex]; simp only [ap, if_true], ?_⟩
  have lb := L.ok.b
  have la := L.ok.a
  have lh := L.ok.h
  generalize hX : heapOf [OC.arr false false 1 (t.b.map enc), .arr false false 1 (t.a.map enc), .arr false false 1 (t.h.map enc), .arr true false 4 [[.ls 0 0 1 0 (lst f.code).length, .ls 1 0 1 0 (lst f.code).length, .ls 2 0 1 0 (lst f.code).length, .int .i64 (lst f.regs).length]]] = X
  have y0 : fz X 11 (.ls 0 0 1 0 (lst f.code).length) = some ⟨slA (some t.b), t.b.all scal, [0]⟩ := by
    rw [← lb, ← hX]; exact fz_ls0 (α := Ws) (k := 9) (id := 0) (g := 0) (L := t.b) rfl
  have y1 : fz X 11 (.ls 1 0 1 0 (lst f.code).length) = some ⟨slA (some t.a), t.a.all scal, [1]⟩ := by
    rw [← la, ← hX]; exact fz_ls0 (α := Ws) (k := 9) (id := 1) (g := 0) (L := t.a) rfl
  have y2 : fz X 11 (.ls 2 0 1 0 (lst f.code).length) = some ⟨slA (some t.h), t.h.all scal, [2]⟩ := by
    rw [← lh, ← hX]; exact fz_ls0 (α := Ws) (k := 9) (id := 2) (g := 0) (L := t.h) rfl
  have y3 : fz X 11 (.int .i64 (lst f.regs).length) = some ⟨.int .i64 (lst f.regs).length, true, []⟩ := rfl
  have hr2 : rowsAt X 3 0 = some (false, 4, [[.ls 0 0 1 0 (lst f.code).length, .ls 1 0 1 0 (lst f.code).length, .ls 2 0 1 0 (lst f.code).length, .int .i64 (lst f.regs).length]]) := by
    rw [← hX]; rfl
  refine ⟨⟨.rp [slA (some t.b), slA (some t.a), slA (some t.h), .int .i64 (lst f.regs).length], t.b.all scal && (t.a.all scal && (t.h.all scal && (true && true))), 3 :: ([0] ++ ([1] ++ ([2] ++ ([] ++ []))))⟩, ?_, rfl⟩
  simp only [hX]
  show fz X (11 + 1) (.lp 3 0 0 0) = _
  rw [fz]
  simp only [hr2, List.getElem?_cons_zero, List.drop_zero, fzList_cons, fzList_nil, y0, y1, y2, y3]
end
end Go.Vm
namespace Go.Vm
open Cel
theorem s_sethas (s : Ws) {r : Nat} (hr : r < 9223372036854775808) (hs : r / 64 < s.length) : (callW E).p 83 [slA (some s), .int .i64 r] = some ⟨.bool (bit s r), [], true, [], []⟩ := by
  rw [x_q42]
  obtain ⟨q1, q2⟩ := quo_rem hr
  have kx : evIxs 1 (slA (some s)) (.int .i64 ((r / 64 : Nat) : Int)) = some (.rp [.int .u64 (s.getD (r / 64) 0).toNat]) := by
    have := evIxs_sl (α := BitVec 64) (o := some s) (i := r / 64) (x := s.getD (r / 64) 0) (by rw [lst_some, List.getD_eq_getElem?_getD, List.getElem?_eq_getElem hs]; rfl) .i64
    exact this
  have lx : ∀ t : Heap, evLd false 1 (.rp [.int .u64 (s.getD (r / 64) 0).toNat]) t = some (.int .u64 (s.getD (r / 64) 0).toNat) := fun t => by simp
  obtain ⟨v, w, h1, h2, h3⟩ := has_w (r := r % 64) (Nat.mod_lt r (by omega)) (s.getD (r / 64) 0)
  simp only [q42_1, q1, q2, ob_some, kx, lx, h1, h2, h3, expo1_bool']
  rfl
def tv (t : Tb) (R : Nat) : AV := .rp [slA (some t.b), slA (some t.a), slA (some t.h), .int .i64 R]
def atM (R : Nat) (l : List Ws) (i r : Int) : Bool := decide (0 ≤ i) && decide (i < l.length) && decide (0 ≤ r) && decide (r < R) && bit (rowW l i.toNat) r.toNat
theorem s_at (t : Tb) {R : Nat} (hR : R ≤ 20000) (l : List Ws) (hl : ∀ i, i < l.length → (rowW l i).length = R / 64 + 1) (i r : Int) : (callW E).p 82 [tv t R, slA (some l), .int .i64 i, .int .i64 r] = some ⟨.bool (atM R l i r), [], true, [], []⟩ := by
  rw [x_q39]
  have hE : evEqnB 0 true (tv t R) .nilp = some (.bool true) := rfl
  have nc : evNilchk (tv t R) = some (tv t R) := rfl
  have fa : evFa 3 (tv t R) = some (.rp [.int .i64 R]) := rfl
  have lR : ∀ H : Heap, evLd false 1 (.rp [.int .i64 R]) H = some (.int .i64 R) := fun H => by simp
  have le : ∀ H, evLen 1 (slA (some l)) H = some (.int .i64 l.length) := fun H => evLen_sl (some l) H
  unfold atM
  by_cases h1 : 0 ≤ i
  · by_cases h2 : i < (l.length : Int)
    · by_cases h3 : 0 ≤ r
      · by_cases h4 : r < (R : Int)
        · have hi : i.toNat < l.length := by omega
          have kx : evIxs 1 (slA (some l)) (.int .i64 i) = some (.rp [slA (some (rowW l i.toNat))]) := by
            have := evIxs_slI (α := Ws) (o := some l) (n := i) (x := rowW l i.toNat) h1 (by rw [lst_some, rowW, List.getD_eq_getElem?_getD, List.getElem?_eq_getElem hi]; rfl) .i64
            exact this
          have lx : ∀ (H : Heap) (s : Ws), evLd false 1 (.rp [slA (some s)]) H = some (slA (some s)) := fun H s => rfl
          have hb := s_sethas (rowW l i.toNat) (r := r.toNat) (by omega) (by rw [hl _ hi]; omega)
          rw [show ((r.toNat : Nat) : Int) = r by omega] at hb
          have ha : ∀ H : Heap, fzList (fz H fuelF) [slA (some (rowW l i.toNat)), .int .i64 r] = some ⟨[slA (some (rowW l i.toNat)), .int .i64 r], (lst (some (rowW l i.toNat))).isEmpty && (true && true), []⟩ := fun H => by
            rw [fzList_cons, fzList_cons, fz_sl, fz_int', fzList_nil]; rfl
          have c1 : ∀ H, callAny E (callW E) 0 none true 83 [slA (some (rowW l i.toNat)), .int .i64 r] H = some (.bool (bit (rowW l i.toNat) r.toNat), H) := fun H => call_reads rfl (ha H) rfl hb ⟨_, rfl, rfl⟩
          simp only [q39_1, hE, ob_some, gb_tt, evBin_geq, h1, decide_true, evPick_t, le, evBin_lss, h2, h3, nc, fa, lR, h4, kx, lx, gh_tt, c1, oh_some, expo1_bool', Bool.true_and]
        · simp only [q39_1, hE, ob_some, gb_tt, evBin_geq, h1, decide_true, evPick_t, le, evBin_lss, h2, h3, nc, fa, lR, h4, decide_false, gb_ft, gh_ft, evPick_f, expo1_bool', Bool.and_false, Bool.false_and]
      · simp only [q39_1, hE, ob_some, gb_tt, evBin_geq, h1, decide_true, evPick_t, le, evBin_lss, h2, h3, decide_false, gb_ft, gh_ft, evPick_f, expo1_bool', Bool.and_false, Bool.false_and]
    · simp only [q39_1, hE, ob_some, gb_tt, evBin_geq, h1, decide_true, evPick_t, le, evBin_lss, h2, decide_false, gb_ft, gh_ft, evPick_f, expo1_bool', Bool.and_false, Bool.false_and]
  · simp only [q39_1, hE, ob_some, gb_tt, evBin_geq, h1, decide_false, evPick_t, gb_ft, gh_ft, evPick_f, expo1_bool', Bool.and_false, Bool.false_and]
theorem at_call (t : Tb) {R : Nat} (hR : R ≤ 20000) (l : List Ws) (hl : ∀ i, i < l.length → (rowW l i).length = R / 64 + 1) (i r : Int) (H : Heap) : callAny E (callW E) 0 none true 82 [tv t R, slA (some l), .int .i64 i, .int .i64 r] H = some (.bool (atM R l i r), H) := by
  have ht : fz H fuelF (tv t R) = some ⟨tv t R, scalar1 (tv t R), []⟩ := fz_p (k := 11) rfl H
  have hs : fz H fuelF (slA (some l)) = some ⟨slA (some l), scalar1 (slA (some l)), []⟩ := fz_p (k := 11) (pure1_sl _) H
  have ha : ∃ b, fzList (fz H fuelF) [tv t R, slA (some l), .int .i64 i, .int .i64 r] = some ⟨[tv t R, slA (some l), .int .i64 i, .int .i64 r], b, []⟩ := by
    refine ⟨scalar1 (tv t R) && (scalar1 (slA (some l)) && (true && (true && true))), ?_⟩
    rw [fzList_cons, fzList_cons, fzList_cons, fzList_cons, ht, hs, fz_int', fz_int', fzList_nil]; rfl
  obtain ⟨b, ha⟩ := ha
  exact call_reads rfl ha rfl (s_at t hR l hl i r) ⟨_, rfl, rfl⟩
theorem s_Before (t : Tb) {R : Nat} (hR : R ≤ 20000) (hl : ∀ i, i < t.b.length → (rowW t.b i).length = R / 64 + 1) (i r : Int) : (callW E).p 76 [tv t R, .int .i64 i, .int .i64 r] = some ⟨.bool (atM R t.b i r), [], true, [], []⟩ := by
  rw [x_q38]
  have hE : evEqnB 0 true (tv t R) .nilp = some (.bool true) := rfl
  have nc : evNilchk (tv t R) = some (tv t R) := rfl
  have fa : ∀ H : Heap, evLd false 1 (.rp [slA (some t.b), slA (some t.a), slA (some t.h), .int .i64 R]) H = some (slA (some t.b)) := fun H => rfl
  have f0 : evFa 0 (tv t R) = some (.rp [slA (some t.b), slA (some t.a), slA (some t.h), .int .i64 R]) := rfl
  simp only [q38_1, hE, ob_some, gb_tt, nc, f0, fa, gh_tt, at_call t hR t.b hl, oh_some, evPick_t, expo1_bool']
theorem s_After (t : Tb) {R : Nat} (hR : R ≤ 20000) (hl : ∀ i, i < t.a.length → (rowW t.a i).length = R / 64 + 1) (i r : Int) : (callW E).p 87 [tv t R, .int .i64 i, .int .i64 r] = some ⟨.bool (atM R t.a i r), [], true, [], []⟩ := by
  rw [x_q37]
  have hE : evEqnB 0 true (tv t R) .nilp = some (.bool true) := rfl
  have nc : evNilchk (tv t R) = some (tv t R) := rfl
  have fa : ∀ H : Heap, evLd false 1 (.rp [slA (some t.a), slA (some t.h), .int .i64 R]) H = some (slA (some t.a)) := fun H => rfl
  have f0 : evFa 1 (tv t R) = some (.rp [slA (some t.a), slA (some t.h), .int .i64 R]) := rfl
  simp only [q37_1, hE, ob_some, gb_tt, nc, f0, fa, gh_tt, at_call t hR t.a hl, oh_some, evPick_t, expo1_bool']
end Go.Vm
