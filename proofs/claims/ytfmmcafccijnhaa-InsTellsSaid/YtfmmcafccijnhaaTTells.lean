/- InsTells answers true, whatever it is given. -/
import Derived.Test.YtfmmcafccijnhaaTInts
namespace Go.Vm
attribute [local simp] runBody enumFrom deadSlots exec runCIs stepCI wants evOp tget tput Opd.ev newBox newArr place callAny callP fzList fz_bool fz_int fz_str fz_nils fz_rs heapOf_nil heapOf_cons evFa evLd rowsAt objAt aggOr evLen evBin isShift binInt runDraw runFp leaf1 fpCI fpOf ids1
  pairsOk fpApart meets resList resOf tupOf expo1_int expo1_bool expo1_str expo1_nils expo1_rs pure1 scalar1 cellsOf binStr fillRows fillParts evIxs E_pure fz_ls fz11_int fz11_bool fz11_str fz11_nils fz11_rs expo1_ls_eq evApp rowsOf evEqn isNil evSlc optIx asNat placeAll reloc relocAgg relocLeaf okOC relocOC iRows_len iRows_take fz12_iRows fz11_iRows

theorem holds10 : (callW E).p 4 [] = some ⟨.bool true, [], true, [], []⟩ := lift_p 40 (by kernel_rfl)

attribute [local simp] holds10

theorem body_InsTells {op d a b c n t : Int} {s : List UInt8} {l : AV} {k : Int} (hl : l = .nils ∨ ∃ rows, l = .rs 1 rows ∧ (rows.length : Int) ≤ 10000)
   {x : AV} (hx : x = .agg [.int .i64 op, .int .i64 d, .int .i64 a, .int .i64 b, .int .i64 c, .int .i64 n, .int .i64 t, .str s, l])
   {u1 u2 : Ex AV} {L : List Int} (i1 : Ints u1 L) (i2 : Ints u2 L) (hL : L.length ≤ 2 ^ 62) (h10 : (callW E).p 10 [x] = some u1) (h15 : (callW E).p 15 [x] = some u2)
   (h9 : (callW E).p 9 [x] = some ⟨.int .i64 k, [], true, [], []⟩) (h16 : (callW E).p 16 [x] = some ⟨.int .i64 k, [], true, [], []⟩)
   {c1 c2 c3 c4 c5 : Bool} (h17 : (callW E).p 17 [x] = some ⟨.bool c1, [], true, [], []⟩) (h7 : (callW E).p 7 [.int .i64 op] = some ⟨.bool c1, [], true, [], []⟩)
   (h18 : (callW E).p 18 [x] = some ⟨.bool c2, [], true, [], []⟩) (h19 : (callW E).p 19 [.int .i64 op] = some ⟨.bool c2, [], true, [], []⟩)
   (h20 : (callW E).p 20 [x] = some ⟨.bool c3, [], true, [], []⟩) (h21 : (callW E).p 21 [.int .i64 op] = some ⟨.bool c3, [], true, [], []⟩)
   (h22 : (callW E).p 22 [x] = some ⟨.bool c4, [], true, [], []⟩) (h23 : (callW E).p 23 [.int .i64 op] = some ⟨.bool c4, [], true, [], []⟩)
   (h24 : (callW E).p 24 [x] = some ⟨.bool c5, [], true, [], []⟩) (h25 : (callW E).p 25 [.int .i64 op] = some ⟨.bool c5, [], true, [], []⟩) :
   (callW E).p 26 [x] = some ⟨.bool true, [], true, [], []⟩ := by
  obtain ⟨hp1, v1, f1, g1, j1⟩ := i1.fz
  obtain ⟨hp2, v2, f2, g2, j2⟩ := i2.fz
  have h11 := ints_spec j1 j2 hL
  have hfx : ∀ h, fz h fuelF x = some ⟨x, (cellsOf x).all scalar1, []⟩ := by
    intro h
    subst hx
    apply fz_agg
    rcases hl with rfl | ⟨rows, rfl, _⟩ <;> rfl
  have e1 : ∀ h, fz h fuelF v1.v = some ⟨v1.v, scalar1 v1.v, []⟩ := fz_pv g1
  have e2 : ∀ h, fz h fuelF v2.v = some ⟨v2.v, scalar1 v2.v, []⟩ := fz_pv g2
  rw [call_eq (show E.fn 26 = some c_regletlaw10_InsTells from rfl)]
  have hco : cellsOf x = [.int .i64 op, .int .i64 d, .int .i64 a, .int .i64 b, .int .i64 c, .int .i64 n, .int .i64 t, .str s, l] := by rw [hx]; rfl
  have hagg : AV.agg [.int .i64 op, .int .i64 d, .int .i64 a, .int .i64 b, .int .i64 c, .int .i64 n, .int .i64 t, .str s, l] = x := hx.symm
  rcases hl with rfl | ⟨rows, rfl, hm⟩
  · simp [-cellsOf, c_regletlaw10_InsTells, hco, hfx, e1, e2, hagg, h10, h15, f1, f2, hp1, hp2, h11, h9, h16, h17, h7, h18, h19, h20, h21, h22, h23, h24, h25]
  · have hm' : ¬ 10000 < (rows.length : Int) := by omega
    simp [-cellsOf, c_regletlaw10_InsTells, hco, hfx, e1, e2, hagg, h10, h15, f1, f2, hp1, hp2, h11, h9, h16, h17, h7, h18, h19, h20, h21, h22, h23, h24, h25, hm']

section
variable {op d a b c n t : Int} {s : List UInt8} {l : AV} {L : List Int}

theorem long_InsTells {rows : List (List AV)} (h : 10000 < (rows.length : Int)) : (callW E).p 26 [.agg [.int .i64 op, .int .i64 d, .int .i64 a, .int .i64 b, .int .i64 c, .int .i64 n, .int .i64 t, .str s, .rs 1 rows]] = some ⟨.bool true, [], true, [], []⟩ := by
  rw [call_eq (show E.fn 26 = some c_regletlaw10_InsTells from rfl)]
  simp [c_regletlaw10_InsTells, h]

theorem tells_1 (hl : l = .nils ∨ ∃ rows, l = .rs 1 rows ∧ (rows.length : Int) ≤ 10000) : (callW E).p 26 [.agg [.int .i64 1, .int .i64 d, .int .i64 a, .int .i64 b, .int .i64 c, .int .i64 n, .int .i64 t, .str s, l]] = some ⟨.bool true, [], true, [], []⟩ := by
  have hl0 := hl
  rcases hl with rfl | ⟨rows, rfl, _⟩
  all_goals exact body_InsTells (k := d) (c1 := false) (c2 := false) (c3 := true) (c4 := false) (c5 := false) hl0 rfl .nils .nils (by simp) (lift_p 40 (by kernel_rfl)) (lift_p 40 (by kernel_rfl)) (lift_p 40 (by kernel_rfl)) (lift_p 40 (by kernel_rfl)) (lift_p 40 (by kernel_rfl)) (lift_p 40 (by kernel_rfl)) (lift_p 40 (by kernel_rfl)) (lift_p 40 (by kernel_rfl)) (lift_p 40 (by kernel_rfl)) (lift_p 40 (by kernel_rfl)) (lift_p 40 (by kernel_rfl)) (lift_p 40 (by kernel_rfl)) (lift_p 40 (by kernel_rfl)) (lift_p 40 (by kernel_rfl))

theorem tells_2 (hl : l = .nils ∨ ∃ rows, l = .rs 1 rows ∧ (rows.length : Int) ≤ 10000) : (callW E).p 26 [.agg [.int .i64 2, .int .i64 d, .int .i64 a, .int .i64 b, .int .i64 c, .int .i64 n, .int .i64 t, .str s, l]] = some ⟨.bool true, [], true, [], []⟩ := by
  have hl0 := hl
  rcases hl with rfl | ⟨rows, rfl, _⟩
  all_goals exact body_InsTells (k := d) (c1 := false) (c2 := false) (c3 := true) (c4 := false) (c5 := false) hl0 rfl .nils .nils (by simp) (lift_p 40 (by kernel_rfl)) (lift_p 40 (by kernel_rfl)) (lift_p 40 (by kernel_rfl)) (lift_p 40 (by kernel_rfl)) (lift_p 40 (by kernel_rfl)) (lift_p 40 (by kernel_rfl)) (lift_p 40 (by kernel_rfl)) (lift_p 40 (by kernel_rfl)) (lift_p 40 (by kernel_rfl)) (lift_p 40 (by kernel_rfl)) (lift_p 40 (by kernel_rfl)) (lift_p 40 (by kernel_rfl)) (lift_p 40 (by kernel_rfl)) (lift_p 40 (by kernel_rfl))

theorem tells_3 (hl : l = .nils ∨ ∃ rows, l = .rs 1 rows ∧ (rows.length : Int) ≤ 10000) : (callW E).p 26 [.agg [.int .i64 3, .int .i64 d, .int .i64 a, .int .i64 b, .int .i64 c, .int .i64 n, .int .i64 t, .str s, l]] = some ⟨.bool true, [], true, [], []⟩ := by
  have hl0 := hl
  rcases hl with rfl | ⟨rows, rfl, _⟩
  all_goals exact body_InsTells (k := d) (c1 := false) (c2 := false) (c3 := true) (c4 := false) (c5 := false) hl0 rfl .nils .nils (by simp) (lift_p 40 (by kernel_rfl)) (lift_p 40 (by kernel_rfl)) (lift_p 40 (by kernel_rfl)) (lift_p 40 (by kernel_rfl)) (lift_p 40 (by kernel_rfl)) (lift_p 40 (by kernel_rfl)) (lift_p 40 (by kernel_rfl)) (lift_p 40 (by kernel_rfl)) (lift_p 40 (by kernel_rfl)) (lift_p 40 (by kernel_rfl)) (lift_p 40 (by kernel_rfl)) (lift_p 40 (by kernel_rfl)) (lift_p 40 (by kernel_rfl)) (lift_p 40 (by kernel_rfl))

theorem tells_4 (hl : l = .nils ∨ ∃ rows, l = .rs 1 rows ∧ (rows.length : Int) ≤ 10000) : (callW E).p 26 [.agg [.int .i64 4, .int .i64 d, .int .i64 a, .int .i64 b, .int .i64 c, .int .i64 n, .int .i64 t, .str s, l]] = some ⟨.bool true, [], true, [], []⟩ := by
  have hl0 := hl
  rcases hl with rfl | ⟨rows, rfl, _⟩
  all_goals exact body_InsTells (k := d) (c1 := false) (c2 := false) (c3 := true) (c4 := false) (c5 := false) hl0 rfl (.ls [a]) (.ls [a]) (by simp) (lift_p 40 (by kernel_rfl)) (lift_p 40 (by kernel_rfl)) (lift_p 40 (by kernel_rfl)) (lift_p 40 (by kernel_rfl)) (lift_p 40 (by kernel_rfl)) (lift_p 40 (by kernel_rfl)) (lift_p 40 (by kernel_rfl)) (lift_p 40 (by kernel_rfl)) (lift_p 40 (by kernel_rfl)) (lift_p 40 (by kernel_rfl)) (lift_p 40 (by kernel_rfl)) (lift_p 40 (by kernel_rfl)) (lift_p 40 (by kernel_rfl)) (lift_p 40 (by kernel_rfl))

theorem tells_5 (hl : l = .nils ∨ ∃ rows, l = .rs 1 rows ∧ (rows.length : Int) ≤ 10000) : (callW E).p 26 [.agg [.int .i64 5, .int .i64 d, .int .i64 a, .int .i64 b, .int .i64 c, .int .i64 n, .int .i64 t, .str s, l]] = some ⟨.bool true, [], true, [], []⟩ := by
  have hl0 := hl
  rcases hl with rfl | ⟨rows, rfl, _⟩
  all_goals exact body_InsTells (k := d) (c1 := false) (c2 := false) (c3 := true) (c4 := false) (c5 := false) hl0 rfl (.ls [a, b]) (.ls [a, b]) (by simp) (lift_p 40 (by kernel_rfl)) (lift_p 40 (by kernel_rfl)) (lift_p 40 (by kernel_rfl)) (lift_p 40 (by kernel_rfl)) (lift_p 40 (by kernel_rfl)) (lift_p 40 (by kernel_rfl)) (lift_p 40 (by kernel_rfl)) (lift_p 40 (by kernel_rfl)) (lift_p 40 (by kernel_rfl)) (lift_p 40 (by kernel_rfl)) (lift_p 40 (by kernel_rfl)) (lift_p 40 (by kernel_rfl)) (lift_p 40 (by kernel_rfl)) (lift_p 40 (by kernel_rfl))

theorem tells_6 (hl : l = .nils ∨ ∃ rows, l = .rs 1 rows ∧ (rows.length : Int) ≤ 10000) : (callW E).p 26 [.agg [.int .i64 6, .int .i64 d, .int .i64 a, .int .i64 b, .int .i64 c, .int .i64 n, .int .i64 t, .str s, l]] = some ⟨.bool true, [], true, [], []⟩ := by
  have hl0 := hl
  rcases hl with rfl | ⟨rows, rfl, _⟩
  all_goals exact body_InsTells (k := d) (c1 := false) (c2 := false) (c3 := true) (c4 := false) (c5 := false) hl0 rfl (.ls [a]) (.ls [a]) (by simp) (lift_p 40 (by kernel_rfl)) (lift_p 40 (by kernel_rfl)) (lift_p 40 (by kernel_rfl)) (lift_p 40 (by kernel_rfl)) (lift_p 40 (by kernel_rfl)) (lift_p 40 (by kernel_rfl)) (lift_p 40 (by kernel_rfl)) (lift_p 40 (by kernel_rfl)) (lift_p 40 (by kernel_rfl)) (lift_p 40 (by kernel_rfl)) (lift_p 40 (by kernel_rfl)) (lift_p 40 (by kernel_rfl)) (lift_p 40 (by kernel_rfl)) (lift_p 40 (by kernel_rfl))

theorem tells_7 (hl : l = .nils ∨ ∃ rows, l = .rs 1 rows ∧ (rows.length : Int) ≤ 10000) : (callW E).p 26 [.agg [.int .i64 7, .int .i64 d, .int .i64 a, .int .i64 b, .int .i64 c, .int .i64 n, .int .i64 t, .str s, l]] = some ⟨.bool true, [], true, [], []⟩ := by
  have hl0 := hl
  rcases hl with rfl | ⟨rows, rfl, _⟩
  all_goals exact body_InsTells (k := (-1)) (c1 := false) (c2 := true) (c3 := false) (c4 := false) (c5 := false) hl0 rfl (.ls [a]) (.ls [a]) (by simp) (lift_p 40 (by kernel_rfl)) (lift_p 40 (by kernel_rfl)) (lift_p 40 (by kernel_rfl)) (lift_p 40 (by kernel_rfl)) (lift_p 40 (by kernel_rfl)) (lift_p 40 (by kernel_rfl)) (lift_p 40 (by kernel_rfl)) (lift_p 40 (by kernel_rfl)) (lift_p 40 (by kernel_rfl)) (lift_p 40 (by kernel_rfl)) (lift_p 40 (by kernel_rfl)) (lift_p 40 (by kernel_rfl)) (lift_p 40 (by kernel_rfl)) (lift_p 40 (by kernel_rfl))

theorem tells_8 (hl : l = .nils ∨ ∃ rows, l = .rs 1 rows ∧ (rows.length : Int) ≤ 10000) : (callW E).p 26 [.agg [.int .i64 8, .int .i64 d, .int .i64 a, .int .i64 b, .int .i64 c, .int .i64 n, .int .i64 t, .str s, l]] = some ⟨.bool true, [], true, [], []⟩ := by
  have hl0 := hl
  rcases hl with rfl | ⟨rows, rfl, _⟩
  all_goals exact body_InsTells (k := (-1)) (c1 := false) (c2 := true) (c3 := false) (c4 := false) (c5 := false) hl0 rfl (.ls [a]) (.ls [a]) (by simp) (lift_p 40 (by kernel_rfl)) (lift_p 40 (by kernel_rfl)) (lift_p 40 (by kernel_rfl)) (lift_p 40 (by kernel_rfl)) (lift_p 40 (by kernel_rfl)) (lift_p 40 (by kernel_rfl)) (lift_p 40 (by kernel_rfl)) (lift_p 40 (by kernel_rfl)) (lift_p 40 (by kernel_rfl)) (lift_p 40 (by kernel_rfl)) (lift_p 40 (by kernel_rfl)) (lift_p 40 (by kernel_rfl)) (lift_p 40 (by kernel_rfl)) (lift_p 40 (by kernel_rfl))

theorem tells_9 (hl : l = .nils ∨ ∃ rows, l = .rs 1 rows ∧ (rows.length : Int) ≤ 10000) : (callW E).p 26 [.agg [.int .i64 9, .int .i64 d, .int .i64 a, .int .i64 b, .int .i64 c, .int .i64 n, .int .i64 t, .str s, l]] = some ⟨.bool true, [], true, [], []⟩ := by
  have hl0 := hl
  rcases hl with rfl | ⟨rows, rfl, _⟩
  all_goals exact body_InsTells (k := (-1)) (c1 := false) (c2 := true) (c3 := false) (c4 := false) (c5 := false) hl0 rfl (.ls [a, b]) (.ls [a, b]) (by simp) (lift_p 40 (by kernel_rfl)) (lift_p 40 (by kernel_rfl)) (lift_p 40 (by kernel_rfl)) (lift_p 40 (by kernel_rfl)) (lift_p 40 (by kernel_rfl)) (lift_p 40 (by kernel_rfl)) (lift_p 40 (by kernel_rfl)) (lift_p 40 (by kernel_rfl)) (lift_p 40 (by kernel_rfl)) (lift_p 40 (by kernel_rfl)) (lift_p 40 (by kernel_rfl)) (lift_p 40 (by kernel_rfl)) (lift_p 40 (by kernel_rfl)) (lift_p 40 (by kernel_rfl))

theorem tells_10 (hl : l = .nils ∨ ∃ rows, l = .rs 1 rows ∧ (rows.length : Int) ≤ 10000) : (callW E).p 26 [.agg [.int .i64 10, .int .i64 d, .int .i64 a, .int .i64 b, .int .i64 c, .int .i64 n, .int .i64 t, .str s, l]] = some ⟨.bool true, [], true, [], []⟩ := by
  have hl0 := hl
  rcases hl with rfl | ⟨rows, rfl, _⟩
  all_goals exact body_InsTells (k := (-1)) (c1 := false) (c2 := true) (c3 := false) (c4 := false) (c5 := false) hl0 rfl (.ls [a]) (.ls [a]) (by simp) (lift_p 40 (by kernel_rfl)) (lift_p 40 (by kernel_rfl)) (lift_p 40 (by kernel_rfl)) (lift_p 40 (by kernel_rfl)) (lift_p 40 (by kernel_rfl)) (lift_p 40 (by kernel_rfl)) (lift_p 40 (by kernel_rfl)) (lift_p 40 (by kernel_rfl)) (lift_p 40 (by kernel_rfl)) (lift_p 40 (by kernel_rfl)) (lift_p 40 (by kernel_rfl)) (lift_p 40 (by kernel_rfl)) (lift_p 40 (by kernel_rfl)) (lift_p 40 (by kernel_rfl))

theorem tells_11 (hl : l = .nils ∨ ∃ rows, l = .rs 1 rows ∧ (rows.length : Int) ≤ 10000) : (callW E).p 26 [.agg [.int .i64 11, .int .i64 d, .int .i64 a, .int .i64 b, .int .i64 c, .int .i64 n, .int .i64 t, .str s, l]] = some ⟨.bool true, [], true, [], []⟩ := by
  have hl0 := hl
  rcases hl with rfl | ⟨rows, rfl, _⟩
  all_goals exact body_InsTells (k := (-1)) (c1 := false) (c2 := true) (c3 := false) (c4 := false) (c5 := false) hl0 rfl (.ls [a, b]) (.ls [a, b]) (by simp) (lift_p 40 (by kernel_rfl)) (lift_p 40 (by kernel_rfl)) (lift_p 40 (by kernel_rfl)) (lift_p 40 (by kernel_rfl)) (lift_p 40 (by kernel_rfl)) (lift_p 40 (by kernel_rfl)) (lift_p 40 (by kernel_rfl)) (lift_p 40 (by kernel_rfl)) (lift_p 40 (by kernel_rfl)) (lift_p 40 (by kernel_rfl)) (lift_p 40 (by kernel_rfl)) (lift_p 40 (by kernel_rfl)) (lift_p 40 (by kernel_rfl)) (lift_p 40 (by kernel_rfl))

theorem tells_12 (hl : l = .nils ∨ ∃ rows, l = .rs 1 rows ∧ (rows.length : Int) ≤ 10000) : (callW E).p 26 [.agg [.int .i64 12, .int .i64 d, .int .i64 a, .int .i64 b, .int .i64 c, .int .i64 n, .int .i64 t, .str s, l]] = some ⟨.bool true, [], true, [], []⟩ := by
  have hl0 := hl
  rcases hl with rfl | ⟨rows, rfl, _⟩
  all_goals exact body_InsTells (k := (-1)) (c1 := false) (c2 := true) (c3 := false) (c4 := false) (c5 := false) hl0 rfl (.ls [a]) (.ls [a]) (by simp) (lift_p 40 (by kernel_rfl)) (lift_p 40 (by kernel_rfl)) (lift_p 40 (by kernel_rfl)) (lift_p 40 (by kernel_rfl)) (lift_p 40 (by kernel_rfl)) (lift_p 40 (by kernel_rfl)) (lift_p 40 (by kernel_rfl)) (lift_p 40 (by kernel_rfl)) (lift_p 40 (by kernel_rfl)) (lift_p 40 (by kernel_rfl)) (lift_p 40 (by kernel_rfl)) (lift_p 40 (by kernel_rfl)) (lift_p 40 (by kernel_rfl)) (lift_p 40 (by kernel_rfl))

theorem tells_13 (hl : l = .nils ∨ ∃ rows, l = .rs 1 rows ∧ (rows.length : Int) ≤ 10000) : (callW E).p 26 [.agg [.int .i64 13, .int .i64 d, .int .i64 a, .int .i64 b, .int .i64 c, .int .i64 n, .int .i64 t, .str s, l]] = some ⟨.bool true, [], true, [], []⟩ := by
  have hl0 := hl
  rcases hl with rfl | ⟨rows, rfl, _⟩
  all_goals exact body_InsTells (k := d) (c1 := false) (c2 := false) (c3 := true) (c4 := false) (c5 := false) hl0 rfl (.ls [a, b]) (.ls [a, b]) (by simp) (lift_p 40 (by kernel_rfl)) (lift_p 40 (by kernel_rfl)) (lift_p 40 (by kernel_rfl)) (lift_p 40 (by kernel_rfl)) (lift_p 40 (by kernel_rfl)) (lift_p 40 (by kernel_rfl)) (lift_p 40 (by kernel_rfl)) (lift_p 40 (by kernel_rfl)) (lift_p 40 (by kernel_rfl)) (lift_p 40 (by kernel_rfl)) (lift_p 40 (by kernel_rfl)) (lift_p 40 (by kernel_rfl)) (lift_p 40 (by kernel_rfl)) (lift_p 40 (by kernel_rfl))

theorem tells_14 (hl : l = .nils ∨ ∃ rows, l = .rs 1 rows ∧ (rows.length : Int) ≤ 10000) : (callW E).p 26 [.agg [.int .i64 14, .int .i64 d, .int .i64 a, .int .i64 b, .int .i64 c, .int .i64 n, .int .i64 t, .str s, l]] = some ⟨.bool true, [], true, [], []⟩ := by
  have hl0 := hl
  rcases hl with rfl | ⟨rows, rfl, _⟩
  all_goals exact body_InsTells (k := (-1)) (c1 := false) (c2 := false) (c3 := false) (c4 := false) (c5 := false) hl0 rfl (.ls [a, b, c]) (.ls [a, b, c]) (by simp) (lift_p 40 (by kernel_rfl)) (lift_p 40 (by kernel_rfl)) (lift_p 40 (by kernel_rfl)) (lift_p 40 (by kernel_rfl)) (lift_p 40 (by kernel_rfl)) (lift_p 40 (by kernel_rfl)) (lift_p 40 (by kernel_rfl)) (lift_p 40 (by kernel_rfl)) (lift_p 40 (by kernel_rfl)) (lift_p 40 (by kernel_rfl)) (lift_p 40 (by kernel_rfl)) (lift_p 40 (by kernel_rfl)) (lift_p 40 (by kernel_rfl)) (lift_p 40 (by kernel_rfl))

theorem tells_15 (hl : l = .nils ∨ ∃ rows, l = .rs 1 rows ∧ (rows.length : Int) ≤ 10000) : (callW E).p 26 [.agg [.int .i64 15, .int .i64 d, .int .i64 a, .int .i64 b, .int .i64 c, .int .i64 n, .int .i64 t, .str s, l]] = some ⟨.bool true, [], true, [], []⟩ := by
  have hl0 := hl
  rcases hl with rfl | ⟨rows, rfl, _⟩
  all_goals exact body_InsTells (k := d) (c1 := false) (c2 := false) (c3 := true) (c4 := false) (c5 := false) hl0 rfl (.ls [a]) (.ls [a]) (by simp) (lift_p 40 (by kernel_rfl)) (lift_p 40 (by kernel_rfl)) (lift_p 40 (by kernel_rfl)) (lift_p 40 (by kernel_rfl)) (lift_p 40 (by kernel_rfl)) (lift_p 40 (by kernel_rfl)) (lift_p 40 (by kernel_rfl)) (lift_p 40 (by kernel_rfl)) (lift_p 40 (by kernel_rfl)) (lift_p 40 (by kernel_rfl)) (lift_p 40 (by kernel_rfl)) (lift_p 40 (by kernel_rfl)) (lift_p 40 (by kernel_rfl)) (lift_p 40 (by kernel_rfl))

theorem tells_16 (hl : l = .nils ∨ ∃ rows, l = .rs 1 rows ∧ (rows.length : Int) ≤ 10000) : (callW E).p 26 [.agg [.int .i64 16, .int .i64 d, .int .i64 a, .int .i64 b, .int .i64 c, .int .i64 n, .int .i64 t, .str s, l]] = some ⟨.bool true, [], true, [], []⟩ := by
  have hl0 := hl
  rcases hl with rfl | ⟨rows, rfl, _⟩
  all_goals exact body_InsTells (k := d) (c1 := false) (c2 := false) (c3 := true) (c4 := false) (c5 := false) hl0 rfl (.ls [a]) (.ls [a]) (by simp) (lift_p 40 (by kernel_rfl)) (lift_p 40 (by kernel_rfl)) (lift_p 40 (by kernel_rfl)) (lift_p 40 (by kernel_rfl)) (lift_p 40 (by kernel_rfl)) (lift_p 40 (by kernel_rfl)) (lift_p 40 (by kernel_rfl)) (lift_p 40 (by kernel_rfl)) (lift_p 40 (by kernel_rfl)) (lift_p 40 (by kernel_rfl)) (lift_p 40 (by kernel_rfl)) (lift_p 40 (by kernel_rfl)) (lift_p 40 (by kernel_rfl)) (lift_p 40 (by kernel_rfl))

theorem tells_17 (hl : l = .nils ∨ ∃ rows, l = .rs 1 rows ∧ (rows.length : Int) ≤ 10000) : (callW E).p 26 [.agg [.int .i64 17, .int .i64 d, .int .i64 a, .int .i64 b, .int .i64 c, .int .i64 n, .int .i64 t, .str s, l]] = some ⟨.bool true, [], true, [], []⟩ := by
  have hl0 := hl
  rcases hl with rfl | ⟨rows, rfl, _⟩
  all_goals exact body_InsTells (k := (-1)) (c1 := false) (c2 := false) (c3 := false) (c4 := false) (c5 := false) hl0 rfl (.ls [a, b]) (.ls [a, b]) (by simp) (lift_p 40 (by kernel_rfl)) (lift_p 40 (by kernel_rfl)) (lift_p 40 (by kernel_rfl)) (lift_p 40 (by kernel_rfl)) (lift_p 40 (by kernel_rfl)) (lift_p 40 (by kernel_rfl)) (lift_p 40 (by kernel_rfl)) (lift_p 40 (by kernel_rfl)) (lift_p 40 (by kernel_rfl)) (lift_p 40 (by kernel_rfl)) (lift_p 40 (by kernel_rfl)) (lift_p 40 (by kernel_rfl)) (lift_p 40 (by kernel_rfl)) (lift_p 40 (by kernel_rfl))

theorem tells_18 (hl : l = .nils ∨ ∃ rows, l = .rs 1 rows ∧ (rows.length : Int) ≤ 10000) : (callW E).p 26 [.agg [.int .i64 18, .int .i64 d, .int .i64 a, .int .i64 b, .int .i64 c, .int .i64 n, .int .i64 t, .str s, l]] = some ⟨.bool true, [], true, [], []⟩ := by
  have hl0 := hl
  rcases hl with rfl | ⟨rows, rfl, _⟩
  all_goals exact body_InsTells (k := d) (c1 := false) (c2 := false) (c3 := true) (c4 := false) (c5 := false) hl0 rfl .nils .nils (by simp) (lift_p 40 (by kernel_rfl)) (lift_p 40 (by kernel_rfl)) (lift_p 40 (by kernel_rfl)) (lift_p 40 (by kernel_rfl)) (lift_p 40 (by kernel_rfl)) (lift_p 40 (by kernel_rfl)) (lift_p 40 (by kernel_rfl)) (lift_p 40 (by kernel_rfl)) (lift_p 40 (by kernel_rfl)) (lift_p 40 (by kernel_rfl)) (lift_p 40 (by kernel_rfl)) (lift_p 40 (by kernel_rfl)) (lift_p 40 (by kernel_rfl)) (lift_p 40 (by kernel_rfl))

theorem tells_19 (hl : l = .nils ∨ ∃ rows, l = .rs 1 rows ∧ (rows.length : Int) ≤ 10000) : (callW E).p 26 [.agg [.int .i64 19, .int .i64 d, .int .i64 a, .int .i64 b, .int .i64 c, .int .i64 n, .int .i64 t, .str s, l]] = some ⟨.bool true, [], true, [], []⟩ := by
  have hl0 := hl
  rcases hl with rfl | ⟨rows, rfl, _⟩
  all_goals exact body_InsTells (k := (-1)) (c1 := false) (c2 := false) (c3 := false) (c4 := false) (c5 := false) hl0 rfl (.ls [a]) (.ls [a]) (by simp) (lift_p 40 (by kernel_rfl)) (lift_p 40 (by kernel_rfl)) (lift_p 40 (by kernel_rfl)) (lift_p 40 (by kernel_rfl)) (lift_p 40 (by kernel_rfl)) (lift_p 40 (by kernel_rfl)) (lift_p 40 (by kernel_rfl)) (lift_p 40 (by kernel_rfl)) (lift_p 40 (by kernel_rfl)) (lift_p 40 (by kernel_rfl)) (lift_p 40 (by kernel_rfl)) (lift_p 40 (by kernel_rfl)) (lift_p 40 (by kernel_rfl)) (lift_p 40 (by kernel_rfl))

theorem tells_20 (hl : l = .nils ∨ ∃ rows, l = .rs 1 rows ∧ (rows.length : Int) ≤ 10000) : (callW E).p 26 [.agg [.int .i64 20, .int .i64 d, .int .i64 a, .int .i64 b, .int .i64 c, .int .i64 n, .int .i64 t, .str s, l]] = some ⟨.bool true, [], true, [], []⟩ := by
  have hl0 := hl
  rcases hl with rfl | ⟨rows, rfl, _⟩
  all_goals exact body_InsTells (k := d) (c1 := false) (c2 := true) (c3 := false) (c4 := false) (c5 := false) hl0 rfl .nils .nils (by simp) (lift_p 40 (by kernel_rfl)) (lift_p 40 (by kernel_rfl)) (lift_p 40 (by kernel_rfl)) (lift_p 40 (by kernel_rfl)) (lift_p 40 (by kernel_rfl)) (lift_p 40 (by kernel_rfl)) (lift_p 40 (by kernel_rfl)) (lift_p 40 (by kernel_rfl)) (lift_p 40 (by kernel_rfl)) (lift_p 40 (by kernel_rfl)) (lift_p 40 (by kernel_rfl)) (lift_p 40 (by kernel_rfl)) (lift_p 40 (by kernel_rfl)) (lift_p 40 (by kernel_rfl))

theorem tells_21 (hl : l = .nils ∨ ∃ rows, l = .rs 1 rows ∧ (rows.length : Int) ≤ 10000) : (callW E).p 26 [.agg [.int .i64 21, .int .i64 d, .int .i64 a, .int .i64 b, .int .i64 c, .int .i64 n, .int .i64 t, .str s, l]] = some ⟨.bool true, [], true, [], []⟩ := by
  have hl0 := hl
  rcases hl with rfl | ⟨rows, rfl, _⟩
  all_goals exact body_InsTells (k := d) (c1 := false) (c2 := true) (c3 := false) (c4 := false) (c5 := false) hl0 rfl (.ls [a]) (.ls [a]) (by simp) (lift_p 40 (by kernel_rfl)) (lift_p 40 (by kernel_rfl)) (lift_p 40 (by kernel_rfl)) (lift_p 40 (by kernel_rfl)) (lift_p 40 (by kernel_rfl)) (lift_p 40 (by kernel_rfl)) (lift_p 40 (by kernel_rfl)) (lift_p 40 (by kernel_rfl)) (lift_p 40 (by kernel_rfl)) (lift_p 40 (by kernel_rfl)) (lift_p 40 (by kernel_rfl)) (lift_p 40 (by kernel_rfl)) (lift_p 40 (by kernel_rfl)) (lift_p 40 (by kernel_rfl))

theorem tells_22 (hl : l = .nils ∨ ∃ rows, l = .rs 1 rows ∧ (rows.length : Int) ≤ 10000) : (callW E).p 26 [.agg [.int .i64 22, .int .i64 d, .int .i64 a, .int .i64 b, .int .i64 c, .int .i64 n, .int .i64 t, .str s, l]] = some ⟨.bool true, [], true, [], []⟩ := by
  have hl0 := hl
  rcases hl with rfl | ⟨rows, rfl, _⟩
  all_goals exact body_InsTells (k := d) (c1 := false) (c2 := false) (c3 := true) (c4 := false) (c5 := false) hl0 rfl (.ls [a]) (.ls [a]) (by simp) (lift_p 40 (by kernel_rfl)) (lift_p 40 (by kernel_rfl)) (lift_p 40 (by kernel_rfl)) (lift_p 40 (by kernel_rfl)) (lift_p 40 (by kernel_rfl)) (lift_p 40 (by kernel_rfl)) (lift_p 40 (by kernel_rfl)) (lift_p 40 (by kernel_rfl)) (lift_p 40 (by kernel_rfl)) (lift_p 40 (by kernel_rfl)) (lift_p 40 (by kernel_rfl)) (lift_p 40 (by kernel_rfl)) (lift_p 40 (by kernel_rfl)) (lift_p 40 (by kernel_rfl))

theorem tells_23 (hl : l = .nils ∨ ∃ L : List Int, l = .rs 1 (iRows L) ∧ (L.length : Int) ≤ 10000) : (callW E).p 26 [.agg [.int .i64 23, .int .i64 d, .int .i64 a, .int .i64 b, .int .i64 c, .int .i64 n, .int .i64 t, .str s, l]] = some ⟨.bool true, [], true, [], []⟩ := by
  rcases hl with rfl | ⟨L, rfl, hm⟩
  · exact body_InsTells (k := d) (c1 := true) (c2 := true) (c3 := false) (c4 := false) (c5 := false) (.inl rfl) rfl .nils .nils (by simp) (lift_p 40 (by kernel_rfl)) (lift_p 40 (by kernel_rfl)) (lift_p 40 (by kernel_rfl)) (lift_p 40 (by kernel_rfl)) (lift_p 40 (by kernel_rfl)) (lift_p 40 (by kernel_rfl)) (lift_p 40 (by kernel_rfl)) (lift_p 40 (by kernel_rfl)) (lift_p 40 (by kernel_rfl)) (lift_p 40 (by kernel_rfl)) (lift_p 40 (by kernel_rfl)) (lift_p 40 (by kernel_rfl)) (lift_p 40 (by kernel_rfl)) (lift_p 40 (by kernel_rfl))
  · have hL : L.length ≤ 2 ^ 40 := by
      have : (2:Nat)^40 = 1099511627776 := by decide
      omega
    have hc := clone_spec L hL
    have h8 : L.length * 8 ≤ 281474976710656 := by omega
    have hm2 : ((iRows L).length : Int) ≤ 10000 := by rw [iRows_len]; exact hm
    have hf : ∀ h, fz h fuelF (.agg [.int .i64 23, .int .i64 d, .int .i64 a, .int .i64 b, .int .i64 c, .int .i64 n, .int .i64 t, .str s, .rs 1 (iRows L)]) = _ := fun h => fz_agg h rfl
    have h10 : (callW E).p 10 [.agg [.int .i64 23, .int .i64 d, .int .i64 a, .int .i64 b, .int .i64 c, .int .i64 n, .int .i64 t, .str s, .rs 1 (iRows L)]] = some ⟨.ls 0 0 1 0 L.length, [.arr false false 1 (iRows L)], true, [], []⟩ := by
      rw [call_eq (show E.fn 10 = some c_ins_Uses from rfl)]
      simp [c_ins_Uses, hc]
    have h15 : ∃ u2, (callW E).p 15 [.agg [.int .i64 23, .int .i64 d, .int .i64 a, .int .i64 b, .int .i64 c, .int .i64 n, .int .i64 t, .str s, .rs 1 (iRows L)]] = some u2 ∧ Ints u2 L := by
      rw [call_eq (show E.fn 15 = some c_regletref10_Uses from rfl)]
      have h7 : (callW E).p 7 [.int .i64 23] = some ⟨.bool true, [], true, [], []⟩ := lift_p 40 (by kernel_rfl)
      by_cases hne : L = []
      · subst hne
        refine ⟨⟨.nils, [], true, [], []⟩, ?_, .nils⟩
        simp [c_regletref10_Uses, h7, iRows]
      · refine ⟨_, ?_, .ls L⟩
        have hn1 : iRows L ≠ [] := fun h => hne (iRows_nil.1 h)
        simp [c_regletref10_Uses, h7, hn1, hne, h8, List.isEmpty_eq_false_iff.2 hn1]
    obtain ⟨u2, h15, i2⟩ := h15
    exact body_InsTells (k := d) (c1 := true) (c2 := true) (c3 := false) (c4 := false) (c5 := false) (.inr ⟨_, rfl, hm2⟩) rfl (.ls L) i2 (Nat.le_trans hL (by decide)) h10 h15 (lift_p 40 (by kernel_rfl)) (lift_p 40 (by kernel_rfl)) (lift_p 40 (by kernel_rfl)) (lift_p 40 (by kernel_rfl)) (lift_p 40 (by kernel_rfl)) (lift_p 40 (by kernel_rfl)) (lift_p 40 (by kernel_rfl)) (lift_p 40 (by kernel_rfl)) (lift_p 40 (by kernel_rfl)) (lift_p 40 (by kernel_rfl)) (lift_p 40 (by kernel_rfl)) (lift_p 40 (by kernel_rfl))

theorem tells_24 (hl : l = .nils ∨ ∃ L : List Int, l = .rs 1 (iRows L) ∧ (L.length : Int) ≤ 10000) : (callW E).p 26 [.agg [.int .i64 24, .int .i64 d, .int .i64 a, .int .i64 b, .int .i64 c, .int .i64 n, .int .i64 t, .str s, l]] = some ⟨.bool true, [], true, [], []⟩ := by
  rcases hl with rfl | ⟨L, rfl, hm⟩
  · exact body_InsTells (k := d) (c1 := true) (c2 := true) (c3 := false) (c4 := false) (c5 := false) (.inl rfl) rfl .nils .nils (by simp) (lift_p 40 (by kernel_rfl)) (lift_p 40 (by kernel_rfl)) (lift_p 40 (by kernel_rfl)) (lift_p 40 (by kernel_rfl)) (lift_p 40 (by kernel_rfl)) (lift_p 40 (by kernel_rfl)) (lift_p 40 (by kernel_rfl)) (lift_p 40 (by kernel_rfl)) (lift_p 40 (by kernel_rfl)) (lift_p 40 (by kernel_rfl)) (lift_p 40 (by kernel_rfl)) (lift_p 40 (by kernel_rfl)) (lift_p 40 (by kernel_rfl)) (lift_p 40 (by kernel_rfl))
  · have hL : L.length ≤ 2 ^ 40 := by
      have : (2:Nat)^40 = 1099511627776 := by decide
      omega
    have hc := clone_spec L hL
    have h8 : L.length * 8 ≤ 281474976710656 := by omega
    have hm2 : ((iRows L).length : Int) ≤ 10000 := by rw [iRows_len]; exact hm
    have hf : ∀ h, fz h fuelF (.agg [.int .i64 24, .int .i64 d, .int .i64 a, .int .i64 b, .int .i64 c, .int .i64 n, .int .i64 t, .str s, .rs 1 (iRows L)]) = _ := fun h => fz_agg h rfl
    have h10 : (callW E).p 10 [.agg [.int .i64 24, .int .i64 d, .int .i64 a, .int .i64 b, .int .i64 c, .int .i64 n, .int .i64 t, .str s, .rs 1 (iRows L)]] = some ⟨.ls 0 0 1 0 L.length, [.arr false false 1 (iRows L)], true, [], []⟩ := by
      rw [call_eq (show E.fn 10 = some c_ins_Uses from rfl)]
      simp [c_ins_Uses, hc]
    have h15 : ∃ u2, (callW E).p 15 [.agg [.int .i64 24, .int .i64 d, .int .i64 a, .int .i64 b, .int .i64 c, .int .i64 n, .int .i64 t, .str s, .rs 1 (iRows L)]] = some u2 ∧ Ints u2 L := by
      rw [call_eq (show E.fn 15 = some c_regletref10_Uses from rfl)]
      have h7 : (callW E).p 7 [.int .i64 24] = some ⟨.bool true, [], true, [], []⟩ := lift_p 40 (by kernel_rfl)
      by_cases hne : L = []
      · subst hne
        refine ⟨⟨.nils, [], true, [], []⟩, ?_, .nils⟩
        simp [c_regletref10_Uses, h7, iRows]
      · refine ⟨_, ?_, .ls L⟩
        have hn1 : iRows L ≠ [] := fun h => hne (iRows_nil.1 h)
        simp [c_regletref10_Uses, h7, hn1, hne, h8, List.isEmpty_eq_false_iff.2 hn1]
    obtain ⟨u2, h15, i2⟩ := h15
    exact body_InsTells (k := d) (c1 := true) (c2 := true) (c3 := false) (c4 := false) (c5 := false) (.inr ⟨_, rfl, hm2⟩) rfl (.ls L) i2 (Nat.le_trans hL (by decide)) h10 h15 (lift_p 40 (by kernel_rfl)) (lift_p 40 (by kernel_rfl)) (lift_p 40 (by kernel_rfl)) (lift_p 40 (by kernel_rfl)) (lift_p 40 (by kernel_rfl)) (lift_p 40 (by kernel_rfl)) (lift_p 40 (by kernel_rfl)) (lift_p 40 (by kernel_rfl)) (lift_p 40 (by kernel_rfl)) (lift_p 40 (by kernel_rfl)) (lift_p 40 (by kernel_rfl)) (lift_p 40 (by kernel_rfl))

theorem tells_25 (hl : l = .nils ∨ ∃ L : List Int, l = .rs 1 (iRows L) ∧ (L.length : Int) ≤ 10000) : (callW E).p 26 [.agg [.int .i64 25, .int .i64 d, .int .i64 a, .int .i64 b, .int .i64 c, .int .i64 n, .int .i64 t, .str s, l]] = some ⟨.bool true, [], true, [], []⟩ := by
  rcases hl with rfl | ⟨L, rfl, hm⟩
  · exact body_InsTells (k := d) (c1 := true) (c2 := true) (c3 := false) (c4 := false) (c5 := false) (.inl rfl) rfl .nils .nils (by simp) (lift_p 40 (by kernel_rfl)) (lift_p 40 (by kernel_rfl)) (lift_p 40 (by kernel_rfl)) (lift_p 40 (by kernel_rfl)) (lift_p 40 (by kernel_rfl)) (lift_p 40 (by kernel_rfl)) (lift_p 40 (by kernel_rfl)) (lift_p 40 (by kernel_rfl)) (lift_p 40 (by kernel_rfl)) (lift_p 40 (by kernel_rfl)) (lift_p 40 (by kernel_rfl)) (lift_p 40 (by kernel_rfl)) (lift_p 40 (by kernel_rfl)) (lift_p 40 (by kernel_rfl))
  · have hL : L.length ≤ 2 ^ 40 := by
      have : (2:Nat)^40 = 1099511627776 := by decide
      omega
    have hc := clone_spec L hL
    have h8 : L.length * 8 ≤ 281474976710656 := by omega
    have hm2 : ((iRows L).length : Int) ≤ 10000 := by rw [iRows_len]; exact hm
    have hf : ∀ h, fz h fuelF (.agg [.int .i64 25, .int .i64 d, .int .i64 a, .int .i64 b, .int .i64 c, .int .i64 n, .int .i64 t, .str s, .rs 1 (iRows L)]) = _ := fun h => fz_agg h rfl
    have h10 : (callW E).p 10 [.agg [.int .i64 25, .int .i64 d, .int .i64 a, .int .i64 b, .int .i64 c, .int .i64 n, .int .i64 t, .str s, .rs 1 (iRows L)]] = some ⟨.ls 0 0 1 0 L.length, [.arr false false 1 (iRows L)], true, [], []⟩ := by
      rw [call_eq (show E.fn 10 = some c_ins_Uses from rfl)]
      simp [c_ins_Uses, hc]
    have h15 : ∃ u2, (callW E).p 15 [.agg [.int .i64 25, .int .i64 d, .int .i64 a, .int .i64 b, .int .i64 c, .int .i64 n, .int .i64 t, .str s, .rs 1 (iRows L)]] = some u2 ∧ Ints u2 L := by
      rw [call_eq (show E.fn 15 = some c_regletref10_Uses from rfl)]
      have h7 : (callW E).p 7 [.int .i64 25] = some ⟨.bool true, [], true, [], []⟩ := lift_p 40 (by kernel_rfl)
      by_cases hne : L = []
      · subst hne
        refine ⟨⟨.nils, [], true, [], []⟩, ?_, .nils⟩
        simp [c_regletref10_Uses, h7, iRows]
      · refine ⟨_, ?_, .ls L⟩
        have hn1 : iRows L ≠ [] := fun h => hne (iRows_nil.1 h)
        simp [c_regletref10_Uses, h7, hn1, hne, h8, List.isEmpty_eq_false_iff.2 hn1]
    obtain ⟨u2, h15, i2⟩ := h15
    exact body_InsTells (k := d) (c1 := true) (c2 := true) (c3 := false) (c4 := false) (c5 := false) (.inr ⟨_, rfl, hm2⟩) rfl (.ls L) i2 (Nat.le_trans hL (by decide)) h10 h15 (lift_p 40 (by kernel_rfl)) (lift_p 40 (by kernel_rfl)) (lift_p 40 (by kernel_rfl)) (lift_p 40 (by kernel_rfl)) (lift_p 40 (by kernel_rfl)) (lift_p 40 (by kernel_rfl)) (lift_p 40 (by kernel_rfl)) (lift_p 40 (by kernel_rfl)) (lift_p 40 (by kernel_rfl)) (lift_p 40 (by kernel_rfl)) (lift_p 40 (by kernel_rfl)) (lift_p 40 (by kernel_rfl))

theorem tells_26 (hl : l = .nils ∨ ∃ L : List Int, l = .rs 1 (iRows L) ∧ (L.length : Int) ≤ 10000) : (callW E).p 26 [.agg [.int .i64 26, .int .i64 d, .int .i64 a, .int .i64 b, .int .i64 c, .int .i64 n, .int .i64 t, .str s, l]] = some ⟨.bool true, [], true, [], []⟩ := by
  rcases hl with rfl | ⟨L, rfl, hm⟩
  · exact body_InsTells (k := d) (c1 := true) (c2 := true) (c3 := false) (c4 := false) (c5 := false) (.inl rfl) rfl .nils .nils (by simp) (lift_p 40 (by kernel_rfl)) (lift_p 40 (by kernel_rfl)) (lift_p 40 (by kernel_rfl)) (lift_p 40 (by kernel_rfl)) (lift_p 40 (by kernel_rfl)) (lift_p 40 (by kernel_rfl)) (lift_p 40 (by kernel_rfl)) (lift_p 40 (by kernel_rfl)) (lift_p 40 (by kernel_rfl)) (lift_p 40 (by kernel_rfl)) (lift_p 40 (by kernel_rfl)) (lift_p 40 (by kernel_rfl)) (lift_p 40 (by kernel_rfl)) (lift_p 40 (by kernel_rfl))
  · have hL : L.length ≤ 2 ^ 40 := by
      have : (2:Nat)^40 = 1099511627776 := by decide
      omega
    have hc := clone_spec L hL
    have h8 : L.length * 8 ≤ 281474976710656 := by omega
    have hm2 : ((iRows L).length : Int) ≤ 10000 := by rw [iRows_len]; exact hm
    have hf : ∀ h, fz h fuelF (.agg [.int .i64 26, .int .i64 d, .int .i64 a, .int .i64 b, .int .i64 c, .int .i64 n, .int .i64 t, .str s, .rs 1 (iRows L)]) = _ := fun h => fz_agg h rfl
    have h10 : (callW E).p 10 [.agg [.int .i64 26, .int .i64 d, .int .i64 a, .int .i64 b, .int .i64 c, .int .i64 n, .int .i64 t, .str s, .rs 1 (iRows L)]] = some ⟨.ls 0 0 1 0 L.length, [.arr false false 1 (iRows L)], true, [], []⟩ := by
      rw [call_eq (show E.fn 10 = some c_ins_Uses from rfl)]
      simp [c_ins_Uses, hc]
    have h15 : ∃ u2, (callW E).p 15 [.agg [.int .i64 26, .int .i64 d, .int .i64 a, .int .i64 b, .int .i64 c, .int .i64 n, .int .i64 t, .str s, .rs 1 (iRows L)]] = some u2 ∧ Ints u2 L := by
      rw [call_eq (show E.fn 15 = some c_regletref10_Uses from rfl)]
      have h7 : (callW E).p 7 [.int .i64 26] = some ⟨.bool true, [], true, [], []⟩ := lift_p 40 (by kernel_rfl)
      by_cases hne : L = []
      · subst hne
        refine ⟨⟨.nils, [], true, [], []⟩, ?_, .nils⟩
        simp [c_regletref10_Uses, h7, iRows]
      · refine ⟨_, ?_, .ls L⟩
        have hn1 : iRows L ≠ [] := fun h => hne (iRows_nil.1 h)
        simp [c_regletref10_Uses, h7, hn1, hne, h8, List.isEmpty_eq_false_iff.2 hn1]
    obtain ⟨u2, h15, i2⟩ := h15
    exact body_InsTells (k := d) (c1 := true) (c2 := true) (c3 := false) (c4 := false) (c5 := false) (.inr ⟨_, rfl, hm2⟩) rfl (.ls L) i2 (Nat.le_trans hL (by decide)) h10 h15 (lift_p 40 (by kernel_rfl)) (lift_p 40 (by kernel_rfl)) (lift_p 40 (by kernel_rfl)) (lift_p 40 (by kernel_rfl)) (lift_p 40 (by kernel_rfl)) (lift_p 40 (by kernel_rfl)) (lift_p 40 (by kernel_rfl)) (lift_p 40 (by kernel_rfl)) (lift_p 40 (by kernel_rfl)) (lift_p 40 (by kernel_rfl)) (lift_p 40 (by kernel_rfl)) (lift_p 40 (by kernel_rfl))

theorem tells_27 (hl : l = .nils ∨ ∃ rows, l = .rs 1 rows ∧ (rows.length : Int) ≤ 10000) : (callW E).p 26 [.agg [.int .i64 27, .int .i64 d, .int .i64 a, .int .i64 b, .int .i64 c, .int .i64 n, .int .i64 t, .str s, l]] = some ⟨.bool true, [], true, [], []⟩ := by
  have hl0 := hl
  rcases hl with rfl | ⟨rows, rfl, _⟩
  all_goals exact body_InsTells (k := (-1)) (c1 := false) (c2 := false) (c3 := false) (c4 := true) (c5 := true) hl0 rfl .nils .nils (by simp) (lift_p 40 (by kernel_rfl)) (lift_p 40 (by kernel_rfl)) (lift_p 40 (by kernel_rfl)) (lift_p 40 (by kernel_rfl)) (lift_p 40 (by kernel_rfl)) (lift_p 40 (by kernel_rfl)) (lift_p 40 (by kernel_rfl)) (lift_p 40 (by kernel_rfl)) (lift_p 40 (by kernel_rfl)) (lift_p 40 (by kernel_rfl)) (lift_p 40 (by kernel_rfl)) (lift_p 40 (by kernel_rfl)) (lift_p 40 (by kernel_rfl)) (lift_p 40 (by kernel_rfl))

theorem tells_28 (hl : l = .nils ∨ ∃ rows, l = .rs 1 rows ∧ (rows.length : Int) ≤ 10000) : (callW E).p 26 [.agg [.int .i64 28, .int .i64 d, .int .i64 a, .int .i64 b, .int .i64 c, .int .i64 n, .int .i64 t, .str s, l]] = some ⟨.bool true, [], true, [], []⟩ := by
  have hl0 := hl
  rcases hl with rfl | ⟨rows, rfl, _⟩
  all_goals exact body_InsTells (k := (-1)) (c1 := false) (c2 := false) (c3 := false) (c4 := true) (c5 := false) hl0 rfl (.ls [a, b]) (.ls [a, b]) (by simp) (lift_p 40 (by kernel_rfl)) (lift_p 40 (by kernel_rfl)) (lift_p 40 (by kernel_rfl)) (lift_p 40 (by kernel_rfl)) (lift_p 40 (by kernel_rfl)) (lift_p 40 (by kernel_rfl)) (lift_p 40 (by kernel_rfl)) (lift_p 40 (by kernel_rfl)) (lift_p 40 (by kernel_rfl)) (lift_p 40 (by kernel_rfl)) (lift_p 40 (by kernel_rfl)) (lift_p 40 (by kernel_rfl)) (lift_p 40 (by kernel_rfl)) (lift_p 40 (by kernel_rfl))

theorem tells_29 (hl : l = .nils ∨ ∃ rows, l = .rs 1 rows ∧ (rows.length : Int) ≤ 10000) : (callW E).p 26 [.agg [.int .i64 29, .int .i64 d, .int .i64 a, .int .i64 b, .int .i64 c, .int .i64 n, .int .i64 t, .str s, l]] = some ⟨.bool true, [], true, [], []⟩ := by
  have hl0 := hl
  rcases hl with rfl | ⟨rows, rfl, _⟩
  all_goals
    cases b with
    | ofNat m => exact body_InsTells (k := (-1)) (c1 := false) (c2 := false) (c3 := false) (c4 := true) (c5 := false) hl0 rfl (.ls [a, Int.ofNat m]) (.ls [a, Int.ofNat m]) (by simp) (lift_p 40 (by kernel_rfl)) (lift_p 40 (by kernel_rfl)) (lift_p 40 (by kernel_rfl)) (lift_p 40 (by kernel_rfl)) (lift_p 40 (by kernel_rfl)) (lift_p 40 (by kernel_rfl)) (lift_p 40 (by kernel_rfl)) (lift_p 40 (by kernel_rfl)) (lift_p 40 (by kernel_rfl)) (lift_p 40 (by kernel_rfl)) (lift_p 40 (by kernel_rfl)) (lift_p 40 (by kernel_rfl)) (lift_p 40 (by kernel_rfl)) (lift_p 40 (by kernel_rfl))
    | negSucc m => cases m with
      | zero => exact body_InsTells (k := (-1)) (c1 := false) (c2 := false) (c3 := false) (c4 := true) (c5 := false) hl0 rfl (.ls [a]) (.ls [a]) (by simp) (lift_p 40 (by kernel_rfl)) (lift_p 40 (by kernel_rfl)) (lift_p 40 (by kernel_rfl)) (lift_p 40 (by kernel_rfl)) (lift_p 40 (by kernel_rfl)) (lift_p 40 (by kernel_rfl)) (lift_p 40 (by kernel_rfl)) (lift_p 40 (by kernel_rfl)) (lift_p 40 (by kernel_rfl)) (lift_p 40 (by kernel_rfl)) (lift_p 40 (by kernel_rfl)) (lift_p 40 (by kernel_rfl)) (lift_p 40 (by kernel_rfl)) (lift_p 40 (by kernel_rfl))
      | succ m => exact body_InsTells (k := (-1)) (c1 := false) (c2 := false) (c3 := false) (c4 := true) (c5 := false) hl0 rfl (.ls [a]) (.ls [a]) (by simp) (lift_p 40 (by kernel_rfl)) (lift_p 40 (by kernel_rfl)) (lift_p 40 (by kernel_rfl)) (lift_p 40 (by kernel_rfl)) (lift_p 40 (by kernel_rfl)) (lift_p 40 (by kernel_rfl)) (lift_p 40 (by kernel_rfl)) (lift_p 40 (by kernel_rfl)) (lift_p 40 (by kernel_rfl)) (lift_p 40 (by kernel_rfl)) (lift_p 40 (by kernel_rfl)) (lift_p 40 (by kernel_rfl)) (lift_p 40 (by kernel_rfl)) (lift_p 40 (by kernel_rfl))

theorem tells_30 (hl : l = .nils ∨ ∃ rows, l = .rs 1 rows ∧ (rows.length : Int) ≤ 10000) : (callW E).p 26 [.agg [.int .i64 30, .int .i64 d, .int .i64 a, .int .i64 b, .int .i64 c, .int .i64 n, .int .i64 t, .str s, l]] = some ⟨.bool true, [], true, [], []⟩ := by
  have hl0 := hl
  rcases hl with rfl | ⟨rows, rfl, _⟩
  all_goals
    cases a with
    | ofNat m => exact body_InsTells (k := (-1)) (c1 := false) (c2 := false) (c3 := false) (c4 := false) (c5 := true) hl0 rfl (.ls [Int.ofNat m]) (.ls [Int.ofNat m]) (by simp) (lift_p 40 (by kernel_rfl)) (lift_p 40 (by kernel_rfl)) (lift_p 40 (by kernel_rfl)) (lift_p 40 (by kernel_rfl)) (lift_p 40 (by kernel_rfl)) (lift_p 40 (by kernel_rfl)) (lift_p 40 (by kernel_rfl)) (lift_p 40 (by kernel_rfl)) (lift_p 40 (by kernel_rfl)) (lift_p 40 (by kernel_rfl)) (lift_p 40 (by kernel_rfl)) (lift_p 40 (by kernel_rfl)) (lift_p 40 (by kernel_rfl)) (lift_p 40 (by kernel_rfl))
    | negSucc m => exact body_InsTells (k := (-1)) (c1 := false) (c2 := false) (c3 := false) (c4 := false) (c5 := true) hl0 rfl .nils .nils (by simp) (lift_p 40 (by kernel_rfl)) (lift_p 40 (by kernel_rfl)) (lift_p 40 (by kernel_rfl)) (lift_p 40 (by kernel_rfl)) (lift_p 40 (by kernel_rfl)) (lift_p 40 (by kernel_rfl)) (lift_p 40 (by kernel_rfl)) (lift_p 40 (by kernel_rfl)) (lift_p 40 (by kernel_rfl)) (lift_p 40 (by kernel_rfl)) (lift_p 40 (by kernel_rfl)) (lift_p 40 (by kernel_rfl)) (lift_p 40 (by kernel_rfl)) (lift_p 40 (by kernel_rfl))

theorem tells_31 (hl : l = .nils ∨ ∃ rows, l = .rs 1 rows ∧ (rows.length : Int) ≤ 10000) : (callW E).p 26 [.agg [.int .i64 31, .int .i64 d, .int .i64 a, .int .i64 b, .int .i64 c, .int .i64 n, .int .i64 t, .str s, l]] = some ⟨.bool true, [], true, [], []⟩ := by
  have hl0 := hl
  rcases hl with rfl | ⟨rows, rfl, _⟩
  all_goals exact body_InsTells (k := (-1)) (c1 := false) (c2 := true) (c3 := false) (c4 := false) (c5 := true) hl0 rfl (.ls [a]) (.ls [a]) (by simp) (lift_p 40 (by kernel_rfl)) (lift_p 40 (by kernel_rfl)) (lift_p 40 (by kernel_rfl)) (lift_p 40 (by kernel_rfl)) (lift_p 40 (by kernel_rfl)) (lift_p 40 (by kernel_rfl)) (lift_p 40 (by kernel_rfl)) (lift_p 40 (by kernel_rfl)) (lift_p 40 (by kernel_rfl)) (lift_p 40 (by kernel_rfl)) (lift_p 40 (by kernel_rfl)) (lift_p 40 (by kernel_rfl)) (lift_p 40 (by kernel_rfl)) (lift_p 40 (by kernel_rfl))

theorem tells_32 (hl : l = .nils ∨ ∃ rows, l = .rs 1 rows ∧ (rows.length : Int) ≤ 10000) : (callW E).p 26 [.agg [.int .i64 32, .int .i64 d, .int .i64 a, .int .i64 b, .int .i64 c, .int .i64 n, .int .i64 t, .str s, l]] = some ⟨.bool true, [], true, [], []⟩ := by
  have hl0 := hl
  rcases hl with rfl | ⟨rows, rfl, _⟩
  all_goals exact body_InsTells (k := d) (c1 := false) (c2 := false) (c3 := false) (c4 := false) (c5 := false) hl0 rfl .nils .nils (by simp) (lift_p 40 (by kernel_rfl)) (lift_p 40 (by kernel_rfl)) (lift_p 40 (by kernel_rfl)) (lift_p 40 (by kernel_rfl)) (lift_p 40 (by kernel_rfl)) (lift_p 40 (by kernel_rfl)) (lift_p 40 (by kernel_rfl)) (lift_p 40 (by kernel_rfl)) (lift_p 40 (by kernel_rfl)) (lift_p 40 (by kernel_rfl)) (lift_p 40 (by kernel_rfl)) (lift_p 40 (by kernel_rfl)) (lift_p 40 (by kernel_rfl)) (lift_p 40 (by kernel_rfl))

theorem tells_33 (hl : l = .nils ∨ ∃ rows, l = .rs 1 rows ∧ (rows.length : Int) ≤ 10000) : (callW E).p 26 [.agg [.int .i64 33, .int .i64 d, .int .i64 a, .int .i64 b, .int .i64 c, .int .i64 n, .int .i64 t, .str s, l]] = some ⟨.bool true, [], true, [], []⟩ := by
  have hl0 := hl
  rcases hl with rfl | ⟨rows, rfl, _⟩
  all_goals exact body_InsTells (k := (-1)) (c1 := false) (c2 := false) (c3 := false) (c4 := false) (c5 := false) hl0 rfl .nils .nils (by simp) (lift_p 40 (by kernel_rfl)) (lift_p 40 (by kernel_rfl)) (lift_p 40 (by kernel_rfl)) (lift_p 40 (by kernel_rfl)) (lift_p 40 (by kernel_rfl)) (lift_p 40 (by kernel_rfl)) (lift_p 40 (by kernel_rfl)) (lift_p 40 (by kernel_rfl)) (lift_p 40 (by kernel_rfl)) (lift_p 40 (by kernel_rfl)) (lift_p 40 (by kernel_rfl)) (lift_p 40 (by kernel_rfl)) (lift_p 40 (by kernel_rfl)) (lift_p 40 (by kernel_rfl))

theorem tells_lo (ho : op < 1) (hl : l = .nils ∨ ∃ rows, l = .rs 1 rows ∧ (rows.length : Int) ≤ 10000) : (callW E).p 26 [.agg [.int .i64 op, .int .i64 d, .int .i64 a, .int .i64 b, .int .i64 c, .int .i64 n, .int .i64 t, .str s, l]] = some ⟨.bool true, [], true, [], []⟩ := by
  have hl' : l = .nils ∨ ∃ rows, l = .rs 1 rows := by
    rcases hl with h | ⟨r, h, _⟩
    · exact .inl h
    · exact .inr ⟨r, h⟩
  exact body_InsTells hl rfl .nils .nils (by simp) (o10_lo ho hl') (o15_lo ho hl') (o9_lo ho hl') (o16_lo ho hl') (o17_lo ho hl') (o7_lo ho) (o18_lo ho hl') (o19_lo ho) (o20_lo ho hl') (o21_lo ho) (o22_lo ho hl') (o23_lo ho) (o24_lo ho hl') (o25_lo ho)

theorem tells_hi (ho : 33 < op) (hl : l = .nils ∨ ∃ rows, l = .rs 1 rows ∧ (rows.length : Int) ≤ 10000) : (callW E).p 26 [.agg [.int .i64 op, .int .i64 d, .int .i64 a, .int .i64 b, .int .i64 c, .int .i64 n, .int .i64 t, .str s, l]] = some ⟨.bool true, [], true, [], []⟩ := by
  have hl' : l = .nils ∨ ∃ rows, l = .rs 1 rows := by
    rcases hl with h | ⟨r, h, _⟩
    · exact .inl h
    · exact .inr ⟨r, h⟩
  exact body_InsTells hl rfl .nils .nils (by simp) (o10_hi ho hl') (o15_hi ho hl') (o9_hi ho hl') (o16_hi ho hl') (o17_hi ho hl') (o7_hi ho) (o18_hi ho hl') (o19_hi ho) (o20_hi ho hl') (o21_hi ho) (o22_hi ho hl') (o23_hi ho) (o24_hi ho hl') (o25_hi ho)

theorem tells_all (hl : l = .nils ∨ ∃ L : List Int, l = .rs 1 (iRows L)) : (callW E).p 26 [.agg [.int .i64 op, .int .i64 d, .int .i64 a, .int .i64 b, .int .i64 c, .int .i64 n, .int .i64 t, .str s, l]] = some ⟨.bool true, [], true, [], []⟩ := by
  have hl2 : (∃ rows, l = .rs 1 rows ∧ 10000 < (rows.length : Int)) ∨ l = .nils ∨ ∃ L : List Int, l = .rs 1 (iRows L) ∧ (L.length : Int) ≤ 10000 := by
    rcases hl with h | ⟨L, h⟩
    · exact .inr (.inl h)
    · by_cases hm : (L.length : Int) ≤ 10000
      · exact .inr (.inr ⟨L, h, hm⟩)
      · exact .inl ⟨_, h, by rw [iRows_len]; omega⟩
  rcases hl2 with ⟨rows, rfl, h⟩ | hl2
  · exact long_InsTells h
  have hl3 : l = .nils ∨ ∃ rows, l = .rs 1 rows ∧ (rows.length : Int) ≤ 10000 := by
    rcases hl2 with h | ⟨L, h, hm⟩
    · exact .inl h
    · exact .inr ⟨_, h, by rw [iRows_len]; exact hm⟩
  have hop : op < 1 ∨ 33 < op ∨ op = 1 ∨ op = 2 ∨ op = 3 ∨ op = 4 ∨ op = 5 ∨ op = 6 ∨ op = 7 ∨ op = 8 ∨ op = 9 ∨ op = 10 ∨ op = 11 ∨ op = 12 ∨ op = 13 ∨ op = 14 ∨ op = 15 ∨ op = 16 ∨ op = 17 ∨ op = 18 ∨ op = 19 ∨ op = 20 ∨ op = 21 ∨ op = 22 ∨ op = 23 ∨ op = 24 ∨ op = 25 ∨ op = 26 ∨ op = 27 ∨ op = 28 ∨ op = 29 ∨ op = 30 ∨ op = 31 ∨ op = 32 ∨ op = 33 := by omega
  rcases hop with ho | ho | rfl | rfl | rfl | rfl | rfl | rfl | rfl | rfl | rfl | rfl | rfl | rfl | rfl | rfl | rfl | rfl | rfl | rfl | rfl | rfl | rfl | rfl | rfl | rfl | rfl | rfl | rfl | rfl | rfl | rfl | rfl | rfl | rfl
  · exact tells_lo ho hl3
  · exact tells_hi ho hl3

  · exact tells_1 hl3
  · exact tells_2 hl3
  · exact tells_3 hl3
  · exact tells_4 hl3
  · exact tells_5 hl3
  · exact tells_6 hl3
  · exact tells_7 hl3
  · exact tells_8 hl3
  · exact tells_9 hl3
  · exact tells_10 hl3
  · exact tells_11 hl3
  · exact tells_12 hl3
  · exact tells_13 hl3
  · exact tells_14 hl3
  · exact tells_15 hl3
  · exact tells_16 hl3
  · exact tells_17 hl3
  · exact tells_18 hl3
  · exact tells_19 hl3
  · exact tells_20 hl3
  · exact tells_21 hl3
  · exact tells_22 hl3
  · exact tells_23 hl2
  · exact tells_24 hl2
  · exact tells_25 hl2
  · exact tells_26 hl2
  · exact tells_27 hl3
  · exact tells_28 hl3
  · exact tells_29 hl3
  · exact tells_30 hl3
  · exact tells_31 hl3
  · exact tells_32 hl3
  · exact tells_33 hl3

end
end Go.Vm