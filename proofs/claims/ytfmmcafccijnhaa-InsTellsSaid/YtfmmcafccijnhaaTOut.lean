/- What instructions that are none answer. -/
import Derived.Test.YtfmmcafccijnhaaTLoops
namespace Go.Vm
attribute [local simp] runBody enumFrom deadSlots exec runCIs stepCI wants evOp tget tput Opd.ev newBox newArr place callAny callP fzList fz_bool fz_int fz_str fz_nils fz_rs heapOf_nil evFa evLd rowsAt objAt aggOr evLen evBin isShift binInt runDraw runFp leaf1 fpCI fpOf ids1
  pairsOk fpApart meets resList resOf tupOf expo1_int expo1_bool expo1_str expo1_nils expo1_rs pure1 scalar1 cellsOf binStr fillRows fillParts evIxs E_pure fz_ls fz11_int fz11_bool fz11_str fz11_nils fz11_rs expo1_ls_eq

theorem ne_lo {op : Int} (h : op < 1) (k : Int) (hk : 1 ≤ k) : (op == k) = false ∧ (k == op) = false ∧ decide (k ≤ op) = false ∧ decide (op ≤ k) = true ∧ decide (op < k) = true ∧ decide (k < op) = false ∧ (k = op) = False ∧ (op = k) = False := by
  refine ⟨?_, ?_, ?_, ?_, ?_, ?_, ?_, ?_⟩ <;> simp <;> omega

theorem ne_hi {op : Int} (h : 33 < op) (k : Int) (hk : k ≤ 33) : (op == k) = false ∧ (k == op) = false ∧ decide (k ≤ op) = true ∧ decide (op ≤ k) = false ∧ decide (op < k) = false ∧ decide (k < op) = true ∧ (k = op) = False ∧ (op = k) = False := by
  refine ⟨?_, ?_, ?_, ?_, ?_, ?_, ?_, ?_⟩ <;> simp <;> omega

theorem lo_all {op : Int} (h : op < 1) : ((op == 1) = false ∧ (1 == op) = false ∧ decide (1 ≤ op) = false ∧ decide (op ≤ 1) = true ∧ decide (op < 1) = true ∧ decide (1 < op) = false ∧ (1 = op) = False ∧ (op = 1) = False) ∧ ((op == 2) = false ∧ (2 == op) = false ∧ decide (2 ≤ op) = false ∧ decide (op ≤ 2) = true ∧ decide (op < 2) = true ∧ decide (2 < op) = false ∧ (2 = op) = False ∧ (op = 2) = False) ∧ ((op == 3) = false ∧ (3 == op) = false ∧ decide (3 ≤ op) = false ∧ decide (op ≤ 3) = true ∧ decide (op < 3) = true ∧ decide (3 < op) = false ∧ (3 = op) = False ∧ (op = 3) = False) ∧ ((op == 4) = false ∧ (4 == op) = false ∧ decide (4 ≤ op) = false ∧ decide (op ≤ 4) = true ∧ decide (op < 4) = true ∧ decide (4 < op) = false ∧ (4 = op) = False ∧ (op = 4) = False) ∧ ((op == 5) = false ∧ (5 == op) = false ∧ decide (5 ≤ op) = false ∧ decide (op ≤ 5) = true ∧ decide (op < 5) = true ∧ decide (5 < op) = false ∧ (5 = op) = False ∧ (op = 5) = False) ∧ ((op == 6) = false ∧ (6 == op) = false ∧ decide (6 ≤ op) = false ∧ decide (op ≤ 6) = true ∧ decide (op < 6) = true ∧ decide (6 < op) = false ∧ (6 = op) = False ∧ (op = 6) = False) ∧ ((op == 7) = false ∧ (7 == op) = false ∧ decide (7 ≤ op) = false ∧ decide (op ≤ 7) = true ∧ decide (op < 7) = true ∧ decide (7 < op) = false ∧ (7 = op) = False ∧ (op = 7) = False) ∧ ((op == 8) = false ∧ (8 == op) = false ∧ decide (8 ≤ op) = false ∧ decide (op ≤ 8) = true ∧ decide (op < 8) = true ∧ decide (8 < op) = false ∧ (8 = op) = False ∧ (op = 8) = False) ∧ ((op == 9) = false ∧ (9 == op) = false ∧ decide (9 ≤ op) = false ∧ decide (op ≤ 9) = true ∧ decide (op < 9) = true ∧ decide (9 < op) = false ∧ (9 = op) = False ∧ (op = 9) = False) ∧ ((op == 10) = false ∧ (10 == op) = false ∧ decide (10 ≤ op) = false ∧ decide (op ≤ 10) = true ∧ decide (op < 10) = true ∧ decide (10 < op) = false ∧ (10 = op) = False ∧ (op = 10) = False) ∧ ((op == 11) = false ∧ (11 == op) = false ∧ decide (11 ≤ op) = false ∧ decide (op ≤ 11) = true ∧ decide (op < 11) = true ∧ decide (11 < op) = false ∧ (11 = op) = False ∧ (op = 11) = False) ∧ ((op == 12) = false ∧ (12 == op) = false ∧ decide (12 ≤ op) = false ∧ decide (op ≤ 12) = true ∧ decide (op < 12) = true ∧ decide (12 < op) = false ∧ (12 = op) = False ∧ (op = 12) = False) ∧ ((op == 13) = false ∧ (13 == op) = false ∧ decide (13 ≤ op) = false ∧ decide (op ≤ 13) = true ∧ decide (op < 13) = true ∧ decide (13 < op) = false ∧ (13 = op) = False ∧ (op = 13) = False) ∧ ((op == 14) = false ∧ (14 == op) = false ∧ decide (14 ≤ op) = false ∧ decide (op ≤ 14) = true ∧ decide (op < 14) = true ∧ decide (14 < op) = false ∧ (14 = op) = False ∧ (op = 14) = False) ∧ ((op == 15) = false ∧ (15 == op) = false ∧ decide (15 ≤ op) = false ∧ decide (op ≤ 15) = true ∧ decide (op < 15) = true ∧ decide (15 < op) = false ∧ (15 = op) = False ∧ (op = 15) = False) ∧ ((op == 16) = false ∧ (16 == op) = false ∧ decide (16 ≤ op) = false ∧ decide (op ≤ 16) = true ∧ decide (op < 16) = true ∧ decide (16 < op) = false ∧ (16 = op) = False ∧ (op = 16) = False) ∧ ((op == 17) = false ∧ (17 == op) = false ∧ decide (17 ≤ op) = false ∧ decide (op ≤ 17) = true ∧ decide (op < 17) = true ∧ decide (17 < op) = false ∧ (17 = op) = False ∧ (op = 17) = False) ∧ ((op == 18) = false ∧ (18 == op) = false ∧ decide (18 ≤ op) = false ∧ decide (op ≤ 18) = true ∧ decide (op < 18) = true ∧ decide (18 < op) = false ∧ (18 = op) = False ∧ (op = 18) = False) ∧ ((op == 19) = false ∧ (19 == op) = false ∧ decide (19 ≤ op) = false ∧ decide (op ≤ 19) = true ∧ decide (op < 19) = true ∧ decide (19 < op) = false ∧ (19 = op) = False ∧ (op = 19) = False) ∧ ((op == 20) = false ∧ (20 == op) = false ∧ decide (20 ≤ op) = false ∧ decide (op ≤ 20) = true ∧ decide (op < 20) = true ∧ decide (20 < op) = false ∧ (20 = op) = False ∧ (op = 20) = False) ∧ ((op == 21) = false ∧ (21 == op) = false ∧ decide (21 ≤ op) = false ∧ decide (op ≤ 21) = true ∧ decide (op < 21) = true ∧ decide (21 < op) = false ∧ (21 = op) = False ∧ (op = 21) = False) ∧ ((op == 22) = false ∧ (22 == op) = false ∧ decide (22 ≤ op) = false ∧ decide (op ≤ 22) = true ∧ decide (op < 22) = true ∧ decide (22 < op) = false ∧ (22 = op) = False ∧ (op = 22) = False) ∧ ((op == 23) = false ∧ (23 == op) = false ∧ decide (23 ≤ op) = false ∧ decide (op ≤ 23) = true ∧ decide (op < 23) = true ∧ decide (23 < op) = false ∧ (23 = op) = False ∧ (op = 23) = False) ∧ ((op == 24) = false ∧ (24 == op) = false ∧ decide (24 ≤ op) = false ∧ decide (op ≤ 24) = true ∧ decide (op < 24) = true ∧ decide (24 < op) = false ∧ (24 = op) = False ∧ (op = 24) = False) ∧ ((op == 25) = false ∧ (25 == op) = false ∧ decide (25 ≤ op) = false ∧ decide (op ≤ 25) = true ∧ decide (op < 25) = true ∧ decide (25 < op) = false ∧ (25 = op) = False ∧ (op = 25) = False) ∧ ((op == 26) = false ∧ (26 == op) = false ∧ decide (26 ≤ op) = false ∧ decide (op ≤ 26) = true ∧ decide (op < 26) = true ∧ decide (26 < op) = false ∧ (26 = op) = False ∧ (op = 26) = False) ∧ ((op == 27) = false ∧ (27 == op) = false ∧ decide (27 ≤ op) = false ∧ decide (op ≤ 27) = true ∧ decide (op < 27) = true ∧ decide (27 < op) = false ∧ (27 = op) = False ∧ (op = 27) = False) ∧ ((op == 28) = false ∧ (28 == op) = false ∧ decide (28 ≤ op) = false ∧ decide (op ≤ 28) = true ∧ decide (op < 28) = true ∧ decide (28 < op) = false ∧ (28 = op) = False ∧ (op = 28) = False) ∧ ((op == 29) = false ∧ (29 == op) = false ∧ decide (29 ≤ op) = false ∧ decide (op ≤ 29) = true ∧ decide (op < 29) = true ∧ decide (29 < op) = false ∧ (29 = op) = False ∧ (op = 29) = False) ∧ ((op == 30) = false ∧ (30 == op) = false ∧ decide (30 ≤ op) = false ∧ decide (op ≤ 30) = true ∧ decide (op < 30) = true ∧ decide (30 < op) = false ∧ (30 = op) = False ∧ (op = 30) = False) ∧ ((op == 31) = false ∧ (31 == op) = false ∧ decide (31 ≤ op) = false ∧ decide (op ≤ 31) = true ∧ decide (op < 31) = true ∧ decide (31 < op) = false ∧ (31 = op) = False ∧ (op = 31) = False) ∧ ((op == 32) = false ∧ (32 == op) = false ∧ decide (32 ≤ op) = false ∧ decide (op ≤ 32) = true ∧ decide (op < 32) = true ∧ decide (32 < op) = false ∧ (32 = op) = False ∧ (op = 32) = False) ∧ ((op == 33) = false ∧ (33 == op) = false ∧ decide (33 ≤ op) = false ∧ decide (op ≤ 33) = true ∧ decide (op < 33) = true ∧ decide (33 < op) = false ∧ (33 = op) = False ∧ (op = 33) = False) ∧ ((op == 34) = false ∧ (34 == op) = false ∧ decide (34 ≤ op) = false ∧ decide (op ≤ 34) = true ∧ decide (op < 34) = true ∧ decide (34 < op) = false ∧ (34 = op) = False ∧ (op = 34) = False) := And.intro (ne_lo h 1 (by decide)) (And.intro (ne_lo h 2 (by decide)) (And.intro (ne_lo h 3 (by decide)) (And.intro (ne_lo h 4 (by decide)) (And.intro (ne_lo h 5 (by decide)) (And.intro (ne_lo h 6 (by decide)) (And.intro (ne_lo h 7 (by decide)) (And.intro (ne_lo h 8 (by decide)) (And.intro (ne_lo h 9 (by decide)) (And.intro (ne_lo h 10 (by decide)) (And.intro (ne_lo h 11 (by decide)) (And.intro (ne_lo h 12 (by decide)) (And.intro (ne_lo h 13 (by decide)) (And.intro (ne_lo h 14 (by decide)) (And.intro (ne_lo h 15 (by decide)) (And.intro (ne_lo h 16 (by decide)) (And.intro (ne_lo h 17 (by decide)) (And.intro (ne_lo h 18 (by decide)) (And.intro (ne_lo h 19 (by decide)) (And.intro (ne_lo h 20 (by decide)) (And.intro (ne_lo h 21 (by decide)) (And.intro (ne_lo h 22 (by decide)) (And.intro (ne_lo h 23 (by decide)) (And.intro (ne_lo h 24 (by decide)) (And.intro (ne_lo h 25 (by decide)) (And.intro (ne_lo h 26 (by decide)) (And.intro (ne_lo h 27 (by decide)) (And.intro (ne_lo h 28 (by decide)) (And.intro (ne_lo h 29 (by decide)) (And.intro (ne_lo h 30 (by decide)) (And.intro (ne_lo h 31 (by decide)) (And.intro (ne_lo h 32 (by decide)) (And.intro (ne_lo h 33 (by decide)) (ne_lo h 34 (by decide))))))))))))))))))))))))))))))))))

theorem hi_all {op : Int} (h : 33 < op) : ((op == 0) = false ∧ (0 == op) = false ∧ decide (0 ≤ op) = true ∧ decide (op ≤ 0) = false ∧ decide (op < 0) = false ∧ decide (0 < op) = true ∧ (0 = op) = False ∧ (op = 0) = False) ∧ ((op == 1) = false ∧ (1 == op) = false ∧ decide (1 ≤ op) = true ∧ decide (op ≤ 1) = false ∧ decide (op < 1) = false ∧ decide (1 < op) = true ∧ (1 = op) = False ∧ (op = 1) = False) ∧ ((op == 2) = false ∧ (2 == op) = false ∧ decide (2 ≤ op) = true ∧ decide (op ≤ 2) = false ∧ decide (op < 2) = false ∧ decide (2 < op) = true ∧ (2 = op) = False ∧ (op = 2) = False) ∧ ((op == 3) = false ∧ (3 == op) = false ∧ decide (3 ≤ op) = true ∧ decide (op ≤ 3) = false ∧ decide (op < 3) = false ∧ decide (3 < op) = true ∧ (3 = op) = False ∧ (op = 3) = False) ∧ ((op == 4) = false ∧ (4 == op) = false ∧ decide (4 ≤ op) = true ∧ decide (op ≤ 4) = false ∧ decide (op < 4) = false ∧ decide (4 < op) = true ∧ (4 = op) = False ∧ (op = 4) = False) ∧ ((op == 5) = false ∧ (5 == op) = false ∧ decide (5 ≤ op) = true ∧ decide (op ≤ 5) = false ∧ decide (op < 5) = false ∧ decide (5 < op) = true ∧ (5 = op) = False ∧ (op = 5) = False) ∧ ((op == 6) = false ∧ (6 == op) = false ∧ decide (6 ≤ op) = true ∧ decide (op ≤ 6) = false ∧ decide (op < 6) = false ∧ decide (6 < op) = true ∧ (6 = op) = False ∧ (op = 6) = False) ∧ ((op == 7) = false ∧ (7 == op) = false ∧ decide (7 ≤ op) = true ∧ decide (op ≤ 7) = false ∧ decide (op < 7) = false ∧ decide (7 < op) = true ∧ (7 = op) = False ∧ (op = 7) = False) ∧ ((op == 8) = false ∧ (8 == op) = false ∧ decide (8 ≤ op) = true ∧ decide (op ≤ 8) = false ∧ decide (op < 8) = false ∧ decide (8 < op) = true ∧ (8 = op) = False ∧ (op = 8) = False) ∧ ((op == 9) = false ∧ (9 == op) = false ∧ decide (9 ≤ op) = true ∧ decide (op ≤ 9) = false ∧ decide (op < 9) = false ∧ decide (9 < op) = true ∧ (9 = op) = False ∧ (op = 9) = False) ∧ ((op == 10) = false ∧ (10 == op) = false ∧ decide (10 ≤ op) = true ∧ decide (op ≤ 10) = false ∧ decide (op < 10) = false ∧ decide (10 < op) = true ∧ (10 = op) = False ∧ (op = 10) = False) ∧ ((op == 11) = false ∧ (11 == op) = false ∧ decide (11 ≤ op) = true ∧ decide (op ≤ 11) = false ∧ decide (op < 11) = false ∧ decide (11 < op) = true ∧ (11 = op) = False ∧ (op = 11) = False) ∧ ((op == 12) = false ∧ (12 == op) = false ∧ decide (12 ≤ op) = true ∧ decide (op ≤ 12) = false ∧ decide (op < 12) = false ∧ decide (12 < op) = true ∧ (12 = op) = False ∧ (op = 12) = False) ∧ ((op == 13) = false ∧ (13 == op) = false ∧ decide (13 ≤ op) = true ∧ decide (op ≤ 13) = false ∧ decide (op < 13) = false ∧ decide (13 < op) = true ∧ (13 = op) = False ∧ (op = 13) = False) ∧ ((op == 14) = false ∧ (14 == op) = false ∧ decide (14 ≤ op) = true ∧ decide (op ≤ 14) = false ∧ decide (op < 14) = false ∧ decide (14 < op) = true ∧ (14 = op) = False ∧ (op = 14) = False) ∧ ((op == 15) = false ∧ (15 == op) = false ∧ decide (15 ≤ op) = true ∧ decide (op ≤ 15) = false ∧ decide (op < 15) = false ∧ decide (15 < op) = true ∧ (15 = op) = False ∧ (op = 15) = False) ∧ ((op == 16) = false ∧ (16 == op) = false ∧ decide (16 ≤ op) = true ∧ decide (op ≤ 16) = false ∧ decide (op < 16) = false ∧ decide (16 < op) = true ∧ (16 = op) = False ∧ (op = 16) = False) ∧ ((op == 17) = false ∧ (17 == op) = false ∧ decide (17 ≤ op) = true ∧ decide (op ≤ 17) = false ∧ decide (op < 17) = false ∧ decide (17 < op) = true ∧ (17 = op) = False ∧ (op = 17) = False) ∧ ((op == 18) = false ∧ (18 == op) = false ∧ decide (18 ≤ op) = true ∧ decide (op ≤ 18) = false ∧ decide (op < 18) = false ∧ decide (18 < op) = true ∧ (18 = op) = False ∧ (op = 18) = False) ∧ ((op == 19) = false ∧ (19 == op) = false ∧ decide (19 ≤ op) = true ∧ decide (op ≤ 19) = false ∧ decide (op < 19) = false ∧ decide (19 < op) = true ∧ (19 = op) = False ∧ (op = 19) = False) ∧ ((op == 20) = false ∧ (20 == op) = false ∧ decide (20 ≤ op) = true ∧ decide (op ≤ 20) = false ∧ decide (op < 20) = false ∧ decide (20 < op) = true ∧ (20 = op) = False ∧ (op = 20) = False) ∧ ((op == 21) = false ∧ (21 == op) = false ∧ decide (21 ≤ op) = true ∧ decide (op ≤ 21) = false ∧ decide (op < 21) = false ∧ decide (21 < op) = true ∧ (21 = op) = False ∧ (op = 21) = False) ∧ ((op == 22) = false ∧ (22 == op) = false ∧ decide (22 ≤ op) = true ∧ decide (op ≤ 22) = false ∧ decide (op < 22) = false ∧ decide (22 < op) = true ∧ (22 = op) = False ∧ (op = 22) = False) ∧ ((op == 23) = false ∧ (23 == op) = false ∧ decide (23 ≤ op) = true ∧ decide (op ≤ 23) = false ∧ decide (op < 23) = false ∧ decide (23 < op) = true ∧ (23 = op) = False ∧ (op = 23) = False) ∧ ((op == 24) = false ∧ (24 == op) = false ∧ decide (24 ≤ op) = true ∧ decide (op ≤ 24) = false ∧ decide (op < 24) = false ∧ decide (24 < op) = true ∧ (24 = op) = False ∧ (op = 24) = False) ∧ ((op == 25) = false ∧ (25 == op) = false ∧ decide (25 ≤ op) = true ∧ decide (op ≤ 25) = false ∧ decide (op < 25) = false ∧ decide (25 < op) = true ∧ (25 = op) = False ∧ (op = 25) = False) ∧ ((op == 26) = false ∧ (26 == op) = false ∧ decide (26 ≤ op) = true ∧ decide (op ≤ 26) = false ∧ decide (op < 26) = false ∧ decide (26 < op) = true ∧ (26 = op) = False ∧ (op = 26) = False) ∧ ((op == 27) = false ∧ (27 == op) = false ∧ decide (27 ≤ op) = true ∧ decide (op ≤ 27) = false ∧ decide (op < 27) = false ∧ decide (27 < op) = true ∧ (27 = op) = False ∧ (op = 27) = False) ∧ ((op == 28) = false ∧ (28 == op) = false ∧ decide (28 ≤ op) = true ∧ decide (op ≤ 28) = false ∧ decide (op < 28) = false ∧ decide (28 < op) = true ∧ (28 = op) = False ∧ (op = 28) = False) ∧ ((op == 29) = false ∧ (29 == op) = false ∧ decide (29 ≤ op) = true ∧ decide (op ≤ 29) = false ∧ decide (op < 29) = false ∧ decide (29 < op) = true ∧ (29 = op) = False ∧ (op = 29) = False) ∧ ((op == 30) = false ∧ (30 == op) = false ∧ decide (30 ≤ op) = true ∧ decide (op ≤ 30) = false ∧ decide (op < 30) = false ∧ decide (30 < op) = true ∧ (30 = op) = False ∧ (op = 30) = False) ∧ ((op == 31) = false ∧ (31 == op) = false ∧ decide (31 ≤ op) = true ∧ decide (op ≤ 31) = false ∧ decide (op < 31) = false ∧ decide (31 < op) = true ∧ (31 = op) = False ∧ (op = 31) = False) ∧ ((op == 32) = false ∧ (32 == op) = false ∧ decide (32 ≤ op) = true ∧ decide (op ≤ 32) = false ∧ decide (op < 32) = false ∧ decide (32 < op) = true ∧ (32 = op) = False ∧ (op = 32) = False) ∧ ((op == 33) = false ∧ (33 == op) = false ∧ decide (33 ≤ op) = true ∧ decide (op ≤ 33) = false ∧ decide (op < 33) = false ∧ decide (33 < op) = true ∧ (33 = op) = False ∧ (op = 33) = False) ∧ decide ((34 : Int) ≤ op) = true ∧ decide (op < 34) = false := And.intro (ne_hi h 0 (by decide)) (And.intro (ne_hi h 1 (by decide)) (And.intro (ne_hi h 2 (by decide)) (And.intro (ne_hi h 3 (by decide)) (And.intro (ne_hi h 4 (by decide)) (And.intro (ne_hi h 5 (by decide)) (And.intro (ne_hi h 6 (by decide)) (And.intro (ne_hi h 7 (by decide)) (And.intro (ne_hi h 8 (by decide)) (And.intro (ne_hi h 9 (by decide)) (And.intro (ne_hi h 10 (by decide)) (And.intro (ne_hi h 11 (by decide)) (And.intro (ne_hi h 12 (by decide)) (And.intro (ne_hi h 13 (by decide)) (And.intro (ne_hi h 14 (by decide)) (And.intro (ne_hi h 15 (by decide)) (And.intro (ne_hi h 16 (by decide)) (And.intro (ne_hi h 17 (by decide)) (And.intro (ne_hi h 18 (by decide)) (And.intro (ne_hi h 19 (by decide)) (And.intro (ne_hi h 20 (by decide)) (And.intro (ne_hi h 21 (by decide)) (And.intro (ne_hi h 22 (by decide)) (And.intro (ne_hi h 23 (by decide)) (And.intro (ne_hi h 24 (by decide)) (And.intro (ne_hi h 25 (by decide)) (And.intro (ne_hi h 26 (by decide)) (And.intro (ne_hi h 27 (by decide)) (And.intro (ne_hi h 28 (by decide)) (And.intro (ne_hi h 29 (by decide)) (And.intro (ne_hi h 30 (by decide)) (And.intro (ne_hi h 31 (by decide)) (And.intro (ne_hi h 32 (by decide)) (And.intro (ne_hi h 33 (by decide)) (And.intro (by simp; omega) (by simp; omega)))))))))))))))))))))))))))))))))))

section
variable {op d a b c n t : Int} {s : List UInt8} {l : AV}

theorem o38_lo (ho : op < 1) : (callW E).p 38 [.int .i64 op] = some ⟨.str [], [], true, [], []⟩ := by
  rw [call_eq (show E.fn 38 = some c_regletref10_row from rfl)]
  simp [c_regletref10_row, lo_all ho]

theorem o38_hi (ho : 33 < op) : (callW E).p 38 [.int .i64 op] = some ⟨.str [], [], true, [], []⟩ := by
  rw [call_eq (show E.fn 38 = some c_regletref10_row from rfl)]
  simp [c_regletref10_row, hi_all ho]

theorem o7_lo (ho : op < 1) : (callW E).p 7 [.int .i64 op] = some ⟨.bool false, [], true, [], []⟩ := by
  rw [call_eq (show E.fn 7 = some c_regletref10_Calls from rfl)]
  simp [c_regletref10_Calls, lo_all ho]

theorem o7_hi (ho : 33 < op) : (callW E).p 7 [.int .i64 op] = some ⟨.bool false, [], true, [], []⟩ := by
  rw [call_eq (show E.fn 7 = some c_regletref10_Calls from rfl)]
  simp [c_regletref10_Calls, hi_all ho]

theorem o17_lo (ho : op < 1) (hl : l = .nils ∨ ∃ rows, l = .rs 1 rows) : (callW E).p 17 [.agg [.int .i64 op, .int .i64 d, .int .i64 a, .int .i64 b, .int .i64 c, .int .i64 n, .int .i64 t, .str s, l]] = some ⟨.bool false, [], true, [], []⟩ := by
  rw [call_eq (show E.fn 17 = some c_ins_Calls from rfl)]
  rcases hl with rfl | ⟨rows, rfl⟩ <;> simp [c_ins_Calls, lo_all ho]

theorem o17_hi (ho : 33 < op) (hl : l = .nils ∨ ∃ rows, l = .rs 1 rows) : (callW E).p 17 [.agg [.int .i64 op, .int .i64 d, .int .i64 a, .int .i64 b, .int .i64 c, .int .i64 n, .int .i64 t, .str s, l]] = some ⟨.bool false, [], true, [], []⟩ := by
  rw [call_eq (show E.fn 17 = some c_ins_Calls from rfl)]
  rcases hl with rfl | ⟨rows, rfl⟩ <;> simp [c_ins_Calls, hi_all ho]

theorem o22_lo (ho : op < 1) (hl : l = .nils ∨ ∃ rows, l = .rs 1 rows) : (callW E).p 22 [.agg [.int .i64 op, .int .i64 d, .int .i64 a, .int .i64 b, .int .i64 c, .int .i64 n, .int .i64 t, .str s, l]] = some ⟨.bool false, [], true, [], []⟩ := by
  rw [call_eq (show E.fn 22 = some c_ins_Leads from rfl)]
  rcases hl with rfl | ⟨rows, rfl⟩ <;> simp [c_ins_Leads, lo_all ho]

theorem o22_hi (ho : 33 < op) (hl : l = .nils ∨ ∃ rows, l = .rs 1 rows) : (callW E).p 22 [.agg [.int .i64 op, .int .i64 d, .int .i64 a, .int .i64 b, .int .i64 c, .int .i64 n, .int .i64 t, .str s, l]] = some ⟨.bool false, [], true, [], []⟩ := by
  rw [call_eq (show E.fn 22 = some c_ins_Leads from rfl)]
  rcases hl with rfl | ⟨rows, rfl⟩ <;> simp [c_ins_Leads, hi_all ho]

theorem o24_lo (ho : op < 1) (hl : l = .nils ∨ ∃ rows, l = .rs 1 rows) : (callW E).p 24 [.agg [.int .i64 op, .int .i64 d, .int .i64 a, .int .i64 b, .int .i64 c, .int .i64 n, .int .i64 t, .str s, l]] = some ⟨.bool false, [], true, [], []⟩ := by
  rw [call_eq (show E.fn 24 = some c_ins_Ends from rfl)]
  rcases hl with rfl | ⟨rows, rfl⟩ <;> simp [c_ins_Ends, lo_all ho]

theorem o24_hi (ho : 33 < op) (hl : l = .nils ∨ ∃ rows, l = .rs 1 rows) : (callW E).p 24 [.agg [.int .i64 op, .int .i64 d, .int .i64 a, .int .i64 b, .int .i64 c, .int .i64 n, .int .i64 t, .str s, l]] = some ⟨.bool false, [], true, [], []⟩ := by
  rw [call_eq (show E.fn 24 = some c_ins_Ends from rfl)]
  rcases hl with rfl | ⟨rows, rfl⟩ <;> simp [c_ins_Ends, hi_all ho]

theorem o20_lo (ho : op < 1) (hl : l = .nils ∨ ∃ rows, l = .rs 1 rows) : (callW E).p 20 [.agg [.int .i64 op, .int .i64 d, .int .i64 a, .int .i64 b, .int .i64 c, .int .i64 n, .int .i64 t, .str s, l]] = some ⟨.bool false, [], true, [], []⟩ := by
  rw [call_eq (show E.fn 20 = some c_ins_Pure from rfl)]
  rcases hl with rfl | ⟨rows, rfl⟩ <;> simp [c_ins_Pure, lo_all ho]

theorem o20_hi (ho : 33 < op) (hl : l = .nils ∨ ∃ rows, l = .rs 1 rows) : (callW E).p 20 [.agg [.int .i64 op, .int .i64 d, .int .i64 a, .int .i64 b, .int .i64 c, .int .i64 n, .int .i64 t, .str s, l]] = some ⟨.bool false, [], true, [], []⟩ := by
  rw [call_eq (show E.fn 20 = some c_ins_Pure from rfl)]
  rcases hl with rfl | ⟨rows, rfl⟩ <;> simp [c_ins_Pure, hi_all ho]

theorem o10_lo (ho : op < 1) (hl : l = .nils ∨ ∃ rows, l = .rs 1 rows) : (callW E).p 10 [.agg [.int .i64 op, .int .i64 d, .int .i64 a, .int .i64 b, .int .i64 c, .int .i64 n, .int .i64 t, .str s, l]] = some ⟨.nils, [], true, [], []⟩ := by
  rw [call_eq (show E.fn 10 = some c_ins_Uses from rfl)]
  rcases hl with rfl | ⟨rows, rfl⟩ <;> simp [c_ins_Uses, lo_all ho]

theorem o10_hi (ho : 33 < op) (hl : l = .nils ∨ ∃ rows, l = .rs 1 rows) : (callW E).p 10 [.agg [.int .i64 op, .int .i64 d, .int .i64 a, .int .i64 b, .int .i64 c, .int .i64 n, .int .i64 t, .str s, l]] = some ⟨.nils, [], true, [], []⟩ := by
  rw [call_eq (show E.fn 10 = some c_ins_Uses from rfl)]
  rcases hl with rfl | ⟨rows, rfl⟩ <;> simp [c_ins_Uses, hi_all ho]

theorem o19_lo (ho : op < 1) : (callW E).p 19 [.int .i64 op] = some ⟨.bool false, [], true, [], []⟩ := by
  rw [call_eq (show E.fn 19 = some c_regletref10_Throws from rfl)]
  have hin := in_spec op [20, 21, 31] (by decide)
  simp [lo_all ho] at hin
  simp [c_regletref10_Throws, o7_lo ho, hin, lo_all ho]

theorem o19_hi (ho : 33 < op) : (callW E).p 19 [.int .i64 op] = some ⟨.bool false, [], true, [], []⟩ := by
  rw [call_eq (show E.fn 19 = some c_regletref10_Throws from rfl)]
  have hin := in_spec op [20, 21, 31] (by decide)
  simp [hi_all ho] at hin
  simp [c_regletref10_Throws, o7_hi ho, hin, hi_all ho]

theorem o21_lo (ho : op < 1) : (callW E).p 21 [.int .i64 op] = some ⟨.bool false, [], true, [], []⟩ := by
  rw [call_eq (show E.fn 21 = some c_regletref10_Pure from rfl)]
  have hin := in_spec op [1, 2, 3, 4, 5, 6, 13, 15, 16, 18, 22] (by decide)
  simp [lo_all ho] at hin
  simp [c_regletref10_Pure, hin, lo_all ho]

theorem o21_hi (ho : 33 < op) : (callW E).p 21 [.int .i64 op] = some ⟨.bool false, [], true, [], []⟩ := by
  rw [call_eq (show E.fn 21 = some c_regletref10_Pure from rfl)]
  have hin := in_spec op [1, 2, 3, 4, 5, 6, 13, 15, 16, 18, 22] (by decide)
  simp [hi_all ho] at hin
  simp [c_regletref10_Pure, hin, hi_all ho]

theorem o23_lo (ho : op < 1) : (callW E).p 23 [.int .i64 op] = some ⟨.bool false, [], true, [], []⟩ := by
  rw [call_eq (show E.fn 23 = some c_regletref10_Leads from rfl)]
  have hin := in_spec op [27, 28, 29] (by decide)
  simp [lo_all ho] at hin
  simp [c_regletref10_Leads, hin, lo_all ho]

theorem o23_hi (ho : 33 < op) : (callW E).p 23 [.int .i64 op] = some ⟨.bool false, [], true, [], []⟩ := by
  rw [call_eq (show E.fn 23 = some c_regletref10_Leads from rfl)]
  have hin := in_spec op [27, 28, 29] (by decide)
  simp [hi_all ho] at hin
  simp [c_regletref10_Leads, hin, hi_all ho]

theorem o25_lo (ho : op < 1) : (callW E).p 25 [.int .i64 op] = some ⟨.bool false, [], true, [], []⟩ := by
  rw [call_eq (show E.fn 25 = some c_regletref10_Ends from rfl)]
  have hin := in_spec op [27, 30, 31] (by decide)
  simp [lo_all ho] at hin
  simp [c_regletref10_Ends, hin, lo_all ho]

theorem o25_hi (ho : 33 < op) : (callW E).p 25 [.int .i64 op] = some ⟨.bool false, [], true, [], []⟩ := by
  rw [call_eq (show E.fn 25 = some c_regletref10_Ends from rfl)]
  have hin := in_spec op [27, 30, 31] (by decide)
  simp [hi_all ho] at hin
  simp [c_regletref10_Ends, hin, hi_all ho]

theorem o9_lo (ho : op < 1) (hl : l = .nils ∨ ∃ rows, l = .rs 1 rows) : (callW E).p 9 [.agg [.int .i64 op, .int .i64 d, .int .i64 a, .int .i64 b, .int .i64 c, .int .i64 n, .int .i64 t, .str s, l]] = some ⟨.int .i64 (-1), [], true, [], []⟩ := by
  rw [call_eq (show E.fn 9 = some c_ins_Def from rfl)]
  rcases hl with rfl | ⟨rows, rfl⟩
  · have hf := fun h => fz_agg h (show List.all [AV.int .i64 op, .int .i64 d, .int .i64 a, .int .i64 b, .int .i64 c, .int .i64 n, .int .i64 t, .str s, .nils] pure1 = true from rfl)
    simp [c_ins_Def, hf, o17_lo ho (l := .nils) (.inl rfl), lo_all ho]
  · have hf := fun h => fz_agg h (show List.all [AV.int .i64 op, .int .i64 d, .int .i64 a, .int .i64 b, .int .i64 c, .int .i64 n, .int .i64 t, .str s, .rs 1 rows] pure1 = true from rfl)
    simp [c_ins_Def, hf, o17_lo ho (l := .rs 1 rows) (.inr ⟨_, rfl⟩), lo_all ho]

theorem o9_hi (ho : 33 < op) (hl : l = .nils ∨ ∃ rows, l = .rs 1 rows) : (callW E).p 9 [.agg [.int .i64 op, .int .i64 d, .int .i64 a, .int .i64 b, .int .i64 c, .int .i64 n, .int .i64 t, .str s, l]] = some ⟨.int .i64 (-1), [], true, [], []⟩ := by
  rw [call_eq (show E.fn 9 = some c_ins_Def from rfl)]
  rcases hl with rfl | ⟨rows, rfl⟩
  · have hf := fun h => fz_agg h (show List.all [AV.int .i64 op, .int .i64 d, .int .i64 a, .int .i64 b, .int .i64 c, .int .i64 n, .int .i64 t, .str s, .nils] pure1 = true from rfl)
    simp [c_ins_Def, hf, o17_hi ho (l := .nils) (.inl rfl), hi_all ho]
  · have hf := fun h => fz_agg h (show List.all [AV.int .i64 op, .int .i64 d, .int .i64 a, .int .i64 b, .int .i64 c, .int .i64 n, .int .i64 t, .str s, .rs 1 rows] pure1 = true from rfl)
    simp [c_ins_Def, hf, o17_hi ho (l := .rs 1 rows) (.inr ⟨_, rfl⟩), hi_all ho]

theorem o18_lo (ho : op < 1) (hl : l = .nils ∨ ∃ rows, l = .rs 1 rows) : (callW E).p 18 [.agg [.int .i64 op, .int .i64 d, .int .i64 a, .int .i64 b, .int .i64 c, .int .i64 n, .int .i64 t, .str s, l]] = some ⟨.bool false, [], true, [], []⟩ := by
  rw [call_eq (show E.fn 18 = some c_ins_Throws from rfl)]
  rcases hl with rfl | ⟨rows, rfl⟩
  · have hf := fun h => fz_agg h (show List.all [AV.int .i64 op, .int .i64 d, .int .i64 a, .int .i64 b, .int .i64 c, .int .i64 n, .int .i64 t, .str s, .nils] pure1 = true from rfl)
    simp [c_ins_Throws, hf, o17_lo ho (l := .nils) (.inl rfl), lo_all ho]
  · have hf := fun h => fz_agg h (show List.all [AV.int .i64 op, .int .i64 d, .int .i64 a, .int .i64 b, .int .i64 c, .int .i64 n, .int .i64 t, .str s, .rs 1 rows] pure1 = true from rfl)
    simp [c_ins_Throws, hf, o17_lo ho (l := .rs 1 rows) (.inr ⟨_, rfl⟩), lo_all ho]

theorem o18_hi (ho : 33 < op) (hl : l = .nils ∨ ∃ rows, l = .rs 1 rows) : (callW E).p 18 [.agg [.int .i64 op, .int .i64 d, .int .i64 a, .int .i64 b, .int .i64 c, .int .i64 n, .int .i64 t, .str s, l]] = some ⟨.bool false, [], true, [], []⟩ := by
  rw [call_eq (show E.fn 18 = some c_ins_Throws from rfl)]
  rcases hl with rfl | ⟨rows, rfl⟩
  · have hf := fun h => fz_agg h (show List.all [AV.int .i64 op, .int .i64 d, .int .i64 a, .int .i64 b, .int .i64 c, .int .i64 n, .int .i64 t, .str s, .nils] pure1 = true from rfl)
    simp [c_ins_Throws, hf, o17_hi ho (l := .nils) (.inl rfl), hi_all ho]
  · have hf := fun h => fz_agg h (show List.all [AV.int .i64 op, .int .i64 d, .int .i64 a, .int .i64 b, .int .i64 c, .int .i64 n, .int .i64 t, .str s, .rs 1 rows] pure1 = true from rfl)
    simp [c_ins_Throws, hf, o17_hi ho (l := .rs 1 rows) (.inr ⟨_, rfl⟩), hi_all ho]

theorem o16_lo (ho : op < 1) (hl : l = .nils ∨ ∃ rows, l = .rs 1 rows) : (callW E).p 16 [.agg [.int .i64 op, .int .i64 d, .int .i64 a, .int .i64 b, .int .i64 c, .int .i64 n, .int .i64 t, .str s, l]] = some ⟨.int .i64 (-1), [], true, [], []⟩ := by
  rw [call_eq (show E.fn 16 = some c_regletref10_Def from rfl)]
  rcases hl with rfl | ⟨rows, rfl⟩
  · have hf := fun h => fz_agg h (show List.all [AV.int .i64 op, .int .i64 d, .int .i64 a, .int .i64 b, .int .i64 c, .int .i64 n, .int .i64 t, .str s, .nils] pure1 = true from rfl)
    simp [c_regletref10_Def, hf, o38_lo ho, lo_all ho]
  · have hf := fun h => fz_agg h (show List.all [AV.int .i64 op, .int .i64 d, .int .i64 a, .int .i64 b, .int .i64 c, .int .i64 n, .int .i64 t, .str s, .rs 1 rows] pure1 = true from rfl)
    simp [c_regletref10_Def, hf, o38_lo ho, lo_all ho]

theorem o16_hi (ho : 33 < op) (hl : l = .nils ∨ ∃ rows, l = .rs 1 rows) : (callW E).p 16 [.agg [.int .i64 op, .int .i64 d, .int .i64 a, .int .i64 b, .int .i64 c, .int .i64 n, .int .i64 t, .str s, l]] = some ⟨.int .i64 (-1), [], true, [], []⟩ := by
  rw [call_eq (show E.fn 16 = some c_regletref10_Def from rfl)]
  rcases hl with rfl | ⟨rows, rfl⟩
  · have hf := fun h => fz_agg h (show List.all [AV.int .i64 op, .int .i64 d, .int .i64 a, .int .i64 b, .int .i64 c, .int .i64 n, .int .i64 t, .str s, .nils] pure1 = true from rfl)
    simp [c_regletref10_Def, hf, o38_hi ho, hi_all ho]
  · have hf := fun h => fz_agg h (show List.all [AV.int .i64 op, .int .i64 d, .int .i64 a, .int .i64 b, .int .i64 c, .int .i64 n, .int .i64 t, .str s, .rs 1 rows] pure1 = true from rfl)
    simp [c_regletref10_Def, hf, o38_hi ho, hi_all ho]

theorem o15_lo (ho : op < 1) (hl : l = .nils ∨ ∃ rows, l = .rs 1 rows) : (callW E).p 15 [.agg [.int .i64 op, .int .i64 d, .int .i64 a, .int .i64 b, .int .i64 c, .int .i64 n, .int .i64 t, .str s, l]] = some ⟨.nils, [], true, [], []⟩ := by
  rw [call_eq (show E.fn 15 = some c_regletref10_Uses from rfl)]
  rcases hl with rfl | ⟨rows, rfl⟩
  · have hf := fun h => fz_agg h (show List.all [AV.int .i64 op, .int .i64 d, .int .i64 a, .int .i64 b, .int .i64 c, .int .i64 n, .int .i64 t, .str s, .nils] pure1 = true from rfl)
    simp [c_regletref10_Uses, hf, o38_lo ho, o7_lo ho, loopW_eq, runLoop, restrict, lo_all ho]
  · have hf := fun h => fz_agg h (show List.all [AV.int .i64 op, .int .i64 d, .int .i64 a, .int .i64 b, .int .i64 c, .int .i64 n, .int .i64 t, .str s, .rs 1 rows] pure1 = true from rfl)
    simp [c_regletref10_Uses, hf, o38_lo ho, o7_lo ho, loopW_eq, runLoop, restrict, lo_all ho]

theorem o15_hi (ho : 33 < op) (hl : l = .nils ∨ ∃ rows, l = .rs 1 rows) : (callW E).p 15 [.agg [.int .i64 op, .int .i64 d, .int .i64 a, .int .i64 b, .int .i64 c, .int .i64 n, .int .i64 t, .str s, l]] = some ⟨.nils, [], true, [], []⟩ := by
  rw [call_eq (show E.fn 15 = some c_regletref10_Uses from rfl)]
  rcases hl with rfl | ⟨rows, rfl⟩
  · have hf := fun h => fz_agg h (show List.all [AV.int .i64 op, .int .i64 d, .int .i64 a, .int .i64 b, .int .i64 c, .int .i64 n, .int .i64 t, .str s, .nils] pure1 = true from rfl)
    simp [c_regletref10_Uses, hf, o38_hi ho, o7_hi ho, loopW_eq, runLoop, restrict, hi_all ho]
  · have hf := fun h => fz_agg h (show List.all [AV.int .i64 op, .int .i64 d, .int .i64 a, .int .i64 b, .int .i64 c, .int .i64 n, .int .i64 t, .str s, .rs 1 rows] pure1 = true from rfl)
    simp [c_regletref10_Uses, hf, o38_hi ho, o7_hi ho, loopW_eq, runLoop, restrict, hi_all ho]

end
end Go.Vm
