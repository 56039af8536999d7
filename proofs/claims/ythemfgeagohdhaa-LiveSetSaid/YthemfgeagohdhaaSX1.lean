/- Functions of the machine as plain functions that go on with what follows. -/
import Derived.Test.YthemfgeagohdhaaSEnv
set_option linter.unusedSimpArgs false
set_option linter.unusedVariables false
set_option linter.unusedSectionVars false
namespace Go.Vm
noncomputable def q74_1 (v0 v3 : AV) (h : Heap) : OX :=
ob (evIxs 1 v3 v0) fun v15 =>
ob (evLd false 1 v15 h) fun v16 =>
(expo1 h v16)
noncomputable def q74_1k (s : St) : OX := q74_1 (s 0) (s 3) s.h
theorem q74_1_eq (s : St) : W E 0 c_q74_1 s (finP [.t 2]) xN (finP [.t 2]) = q74_1k s :=
  by kernel_rfl
noncomputable def q74_2 (v0 v3 : AV) (h : Heap) : OX :=
ob (evBin .lss v0 (AV.int .i64 1)) fun v6 =>
gb v6 false (some v0) fun v8 =>
gb v6 false (some v3) fun v9 =>
gb v6 false (evLen 1 v9 h) fun v10 =>
gb v6 false (evBin .geq v8 v10) fun v11 =>
ob (evPick v6 (AV.bool true) v11) fun v12 =>
cnd v12
 ((expo1 h (AV.str [])))
 ((q74_1 v0 v3 h))
noncomputable def q74_2k (s : St) : OX := q74_2 (s 0) (s 3) s.h
theorem q74_2_eq (s : St) : W E 0 c_q74_2 s (finP [.t 2]) xN (finP [.t 2]) = q74_2k s :=
  (W_seq (k := q74_1k) (fun s => q74_1_eq s)).trans (by kernel_rfl)
noncomputable def q74_3 (v0 : AV) (h : Heap) : OX :=
oh (buildSC 0 (some 0) 1 34 [(.str [])] [(0, (AV.str [])), (1, (AV.str [110, 45, 45, 45])), (2, (AV.str [51, 45, 45, 45])), (3, (AV.str [51, 45, 45, 45])), (4, (AV.str [42, 61, 45, 45])), (5, (AV.str [63, 63, 63, 63])), (6, (AV.str [63, 63, 63, 63])), (7, (AV.str [45, 110, 45, 45])), (8, (AV.str [45, 51, 45, 45])), (9, (AV.str [45, 51, 49, 45])), (10, (AV.str [45, 49, 45, 45])), (11, (AV.str [45, 51, 51, 45])), (12, (AV.str [45, 51, 45, 45])), (13, (AV.str [42, 51, 49, 45])), (14, (AV.str [45, 51, 49, 42])), (15, (AV.str [49, 51, 45, 45])), (16, (AV.str [42, 51, 45, 45])), (17, (AV.str [45, 51, 42, 45])), (18, (AV.str [42, 45, 45, 45])), (19, (AV.str [45, 42, 45, 45])), (20, (AV.str [51, 45, 45, 45])), (21, (AV.str [51, 49, 45, 45])), (22, (AV.str [49, 51, 45, 45])), (23, (AV.str [63, 63, 63, 63])), (24, (AV.str [63, 63, 63, 63])), (25, (AV.str [63, 63, 63, 63])), (26, (AV.str [63, 63, 63, 63])), (27, (AV.str [45, 45, 45, 45])), (28, (AV.str [45, 49, 49, 45])), (29, (AV.str [45, 51, 63, 45])), (30, (AV.str [45, 63, 45, 45])), (31, (AV.str [45, 51, 45, 45])), (32, (AV.str [51, 45, 45, 45])), (33, (AV.str [45, 45, 45, 45]))] h) fun v4 h1 =>
(q74_2 v0 v4 h1)
noncomputable def q74_3k (s : St) : OX := q74_3 (s 0) s.h
theorem q74_3_eq (s : St) : W E 0 c_q74_3 s (finP [.t 2]) xN (finP [.t 2]) = q74_3k s :=
  (W_seq (k := q74_2k) (fun s => q74_2_eq s)).trans (by kernel_rfl)
noncomputable def q74_4 (v0 : AV) (h : Heap) : OX :=
(q74_3 v0 h)
noncomputable def q74_4k (s : St) : OX := q74_4 (s 0) s.h
theorem q74_4_eq (s : St) : W E 0 c_q74_4 s (finP [.t 2]) xN (finP [.t 2]) = q74_4k s :=
  (W_seq (k := q74_3k) (fun s => q74_3_eq s)).trans (by kernel_rfl)
@[simp] theorem pure_38 : E.pure 38 = true := rfl
theorem x_q74 (v0 : AV) : (callW E).p 38 [v0] = q74_4 v0 [⟨0, .dead⟩] :=
  (callP_W (cf := c_q74) (by kernel_rfl) rfl).trans ((q74_4_eq _).trans (by kernel_rfl))
noncomputable def q103_1 (v0 : AV) (h : Heap) : OX :=
oh (buildSC 0 (some 0) 1 0 [(.bool false)] [] h) fun v5 h1 =>
oh (evApp 0 (some 1) 1 1 v5 v0 h1) fun v7 h2 =>
(expo1 h2 v7)
noncomputable def q103_1k (s : St) : OX := q103_1 (s 0) s.h
theorem q103_1_eq (s : St) : W E 0 c_q103_1 s (finP [.t 2]) xN (finP [.t 2]) = q103_1k s :=
  by kernel_rfl
noncomputable def q103_2 (v0 : AV) (h : Heap) : OX :=
ob (evEqnB 1 false v0 AV.nils) fun v4 =>
cnd v4
 ((expo1 h AV.nils))
 ((q103_1 v0 h))
noncomputable def q103_2k (s : St) : OX := q103_2 (s 0) s.h
theorem q103_2_eq (s : St) : W E 0 c_q103_2 s (finP [.t 2]) xN (finP [.t 2]) = q103_2k s :=
  (W_seq (k := q103_1k) (fun s => q103_1_eq s)).trans (by kernel_rfl)
noncomputable def q103_3 (v0 : AV) (h : Heap) : OX :=
(q103_2 v0 h)
noncomputable def q103_3k (s : St) : OX := q103_3 (s 0) s.h
theorem q103_3_eq (s : St) : W E 0 c_q103_3 s (finP [.t 2]) xN (finP [.t 2]) = q103_3k s :=
  (W_seq (k := q103_2k) (fun s => q103_2_eq s)).trans (by kernel_rfl)
@[simp] theorem pure_78 : E.pure 78 = true := rfl
theorem x_q103 (v0 : AV) : (callW E).p 78 [v0] = q103_3 v0 [⟨0, .dead⟩, ⟨0, .dead⟩] :=
  (callP_W (cf := c_q103) (by kernel_rfl) rfl).trans ((q103_3_eq _).trans (by kernel_rfl))
noncomputable def q10_1 (fb : Nat) (v3 : AV) (h : Heap) : Option (AV × Heap) :=
(some (v3, h))
noncomputable def q10_1k (fb : Nat) (s : St) : Option (AV × Heap) := q10_1 fb (s 3) s.h
theorem q10_1_eq (fb : Nat) (s : St) : W E fb c_q10_1 s (finI [.t 8]) xN (finI [.t 8]) = q10_1k fb s :=
  by kernel_rfl
noncomputable def q10_2 (fb : Nat) (v1 v3 v9 : AV) (h : Heap) : Option (AV × Heap) :=
cnd v9
 (oh (buildSC fb (some 3) 1 1 [(.int .i64 0)] [(0, v1)] h) fun v54 h1 =>
oh (evApp fb (some 4) 1 8 v3 v54 h1) fun v55 h2 =>
(q10_1 fb v55 h2))
 ((q10_1 fb v3 h))
noncomputable def q10_2k (fb : Nat) (s : St) : Option (AV × Heap) := q10_2 fb (s 1) (s 3) (s 9) s.h
theorem q10_2_eq (fb : Nat) (s : St) : W E fb c_q10_2 s (finI [.t 8]) xN (finI [.t 8]) = q10_2k fb s :=
  (W_seq (k := (q10_1k fb)) (fun s => q10_1_eq fb s)).trans (by kernel_rfl)
noncomputable def q10_L3 (fb : Nat) (v0 v1 v2 v3 v9 v29 v30 v31 : AV) (h : Heap) : Option (AV × Heap) :=
  W E fb c_q10_L3 ⟨[(0, v0), (1, v1), (2, v2), (3, v3), (9, v9), (29, v29), (30, v30), (31, v31)], h⟩ (q10_2k fb) (exitTo 0 (q10_2k fb) xN) (finI [.t 8])
noncomputable def q10_L3k (fb : Nat) (s : St) : Option (AV × Heap) := q10_L3 fb (s 0) (s 1) (s 2) (s 3) (s 9) (s 29) (s 30) (s 31) s.h
theorem q10_L3_eq (fb : Nat) (s : St) : W E fb c_q10_L3 s (q10_2k fb) (exitTo 0 (q10_2k fb) xN) (finI [.t 8]) = q10_L3k fb s := W_loop_live.trans (by kernel_rfl)
noncomputable def q10_4 (fb : Nat) (v0 v1 v2 v3 v9 v29 v30 v31 : AV) (h : Heap) : Option (AV × Heap) :=
ob (evBin .add v31 (AV.int .i64 1)) fun v50 =>
(q10_L3 fb v0 v1 v2 v3 v9 v29 v30 v50 h)
noncomputable def q10_4k (fb : Nat) (s : St) : Option (AV × Heap) := q10_4 fb (s 0) (s 1) (s 2) (s 3) (s 9) (s 29) (s 30) (s 31) s.h
theorem q10_4_eq (fb : Nat) (s : St) : W E fb c_q10_4 s (q10_L3k fb) (exitTo 0 (q10_2k fb) xN) (finI [.t 8]) = q10_4k fb s :=
  by kernel_rfl
noncomputable def q10_5 (fb : Nat) (v0 v1 v2 v3 v9 v29 v30 v31 : AV) (h : Heap) : Option (AV × Heap) :=
ob (evIxs 1 v29 v31) fun v34 =>
ob (evLd false 1 v34 h) fun v35 =>
gb v35 true (some v2) fun v38 =>
gb v35 true (some v31) fun v39 =>
gb v35 true (evIxs 1 v38 v39) fun v40 =>
gb v35 true (evLd false 1 v40 h) fun v41 =>
gb v35 true (evUn .not v41) fun v42 =>
ob (evPick v35 v42 (AV.bool false)) fun v43 =>
cnd v43
 (ob (evIxs 1 v0 v1) fun v46 =>
ob (evLd false 1 v46 h) fun v47 =>
ob (evIxs 1 v47 v31) fun v49 =>
oh (evSt 1 v49 (AV.bool false) h) fun _ h3 =>
(q10_4 fb v0 v1 v2 v3 (AV.bool true) v29 v30 v31 h3))
 ((q10_4 fb v0 v1 v2 v3 v9 v29 v30 v31 h))
noncomputable def q10_5k (fb : Nat) (s : St) : Option (AV × Heap) := q10_5 fb (s 0) (s 1) (s 2) (s 3) (s 9) (s 29) (s 30) (s 31) s.h
theorem q10_5_eq (fb : Nat) (s : St) : W E fb c_q10_5 s (q10_L3k fb) (exitTo 0 (q10_2k fb) xN) (finI [.t 8]) = q10_5k fb s :=
  (W_seq (k := (q10_4k fb)) (fun s => q10_4_eq fb s)).trans (by kernel_rfl)
noncomputable def q10_6 (fb : Nat) (v0 v1 v2 v3 v9 v29 v30 v31 v32 : AV) (h : Heap) : Option (AV × Heap) :=
cnd v32
 ((q10_5 fb v0 v1 v2 v3 v9 v29 v30 v31 h))
 ((q10_2 fb v1 v3 v9 h))
noncomputable def q10_6k (fb : Nat) (s : St) : Option (AV × Heap) := q10_6 fb (s 0) (s 1) (s 2) (s 3) (s 9) (s 29) (s 30) (s 31) (s 32) s.h
theorem q10_6_eq (fb : Nat) (s : St) : W E fb c_q10_6 s (q10_L3k fb) (exitTo 0 (q10_2k fb) xN) (finI [.t 8]) = q10_6k fb s :=
  (W_seq (k := (q10_5k fb)) (fun s => q10_5_eq fb s)).trans (by kernel_rfl)
noncomputable def q10_7 (fb : Nat) (v0 v1 v2 v3 v9 v29 v30 v31 : AV) (h : Heap) : Option (AV × Heap) :=
ob (evBin .lss v31 v30) fun v32 =>
(q10_6 fb v0 v1 v2 v3 v9 v29 v30 v31 v32 h)
noncomputable def q10_7k (fb : Nat) (s : St) : Option (AV × Heap) := q10_7 fb (s 0) (s 1) (s 2) (s 3) (s 9) (s 29) (s 30) (s 31) s.h
theorem q10_7_eq (fb : Nat) (s : St) : W E fb c_q10_7 s (q10_L3k fb) (exitTo 0 (q10_2k fb) xN) (finI [.t 8]) = q10_7k fb s :=
  (W_seq (k := (q10_6k fb)) (fun s => q10_6_eq fb s)).trans (by kernel_rfl)
theorem q10_L3_go (fb : Nat) (v0 v1 v2 v3 v9 v29 v30 v31 : AV) (h : Heap) : q10_L3 fb v0 v1 v2 v3 v9 v29 v30 v31 h = (q10_7 fb v0 v1 v2 v3 v9 v29 v30 v31 h) :=
  W_loop.trans ((W_congr _ _ _ (n' := (q10_L3k fb)) (fun s => q10_L3_eq fb s)).trans ((q10_7_eq fb _).trans (by kernel_rfl)))
theorem q10_8_eq (fb : Nat) (s : St) : W E fb c_q10_8 s (q10_2k fb) xN (finI [.t 8]) = q10_L3k fb s :=
  W_block.trans (q10_L3_eq fb s)
noncomputable def q10_9 (fb : Nat) (v0 v1 v2 v3 v9 : AV) (h : Heap) : Option (AV × Heap) :=
ob (evIxs 1 v0 v1) fun v28 =>
ob (evLd false 1 v28 h) fun v29 =>
ob (evLen 1 v29 h) fun v30 =>
(q10_L3 fb v0 v1 v2 v3 v9 v29 v30 (AV.int .i64 0) h)
noncomputable def q10_9k (fb : Nat) (s : St) : Option (AV × Heap) := q10_9 fb (s 0) (s 1) (s 2) (s 3) (s 9) s.h
theorem q10_9_eq (fb : Nat) (s : St) : W E fb c_q10_9 s (q10_2k fb) xN (finI [.t 8]) = q10_9k fb s :=
  (W_seq (k := (q10_L3k fb)) (fun s => q10_8_eq fb s)).trans (by kernel_rfl)
theorem q10_10_eq (fb : Nat) (s : St) : W E fb c_q10_10 s (finI [.t 8]) xN (finI [.t 8]) = q10_9k fb s :=
  (W_seq (k := (q10_2k fb)) (fun s => q10_2_eq fb s)).trans (q10_9_eq fb s)
noncomputable def q10_11 (fb : Nat) (v0 v1 v2 v3 : AV) (h : Heap) : Option (AV × Heap) :=
(q10_9 fb v0 v1 v2 v3 (AV.bool false) h)
noncomputable def q10_11k (fb : Nat) (s : St) : Option (AV × Heap) := q10_11 fb (s 0) (s 1) (s 2) (s 3) s.h
theorem q10_11_eq (fb : Nat) (s : St) : W E fb c_q10_11 s (finI [.t 8]) xN (finI [.t 8]) = q10_11k fb s :=
  (W_seq (k := (q10_9k fb)) (fun s => q10_10_eq fb s)).trans (by kernel_rfl)
noncomputable def q10_12 (fb : Nat) (v0 v1 v2 v3 : AV) (h : Heap) : Option (AV × Heap) :=
ob (evIxs 1 v0 v1) fun v14 =>
ob (evLd false 1 v14 h) fun v15 =>
ob (evEqnB 1 false v15 AV.nils) fun v16 =>
cnd v16
 (oh (callAny E (callW E) fb (some 0) false 78 [v2] h) fun v20 h4 =>
ob (evIxs 1 v0 v1) fun v21 =>
oh (evSt 1 v21 v20 h4) fun _ h5 =>
oh (buildSC fb (some 1) 1 1 [(.int .i64 0)] [(0, v1)] h5) fun v24 h6 =>
oh (evApp fb (some 2) 1 8 v3 v24 h6) fun v25 h7 =>
(some (v25, h7)))
 ((q10_11 fb v0 v1 v2 v3 h))
noncomputable def q10_12k (fb : Nat) (s : St) : Option (AV × Heap) := q10_12 fb (s 0) (s 1) (s 2) (s 3) s.h
theorem q10_12_eq (fb : Nat) (s : St) : W E fb c_q10_12 s (finI [.t 8]) xN (finI [.t 8]) = q10_12k fb s :=
  (W_seq (k := (q10_11k fb)) (fun s => q10_11_eq fb s)).trans (by kernel_rfl)
noncomputable def q10_13 (fb : Nat) (v0 v1 v2 v3 : AV) (h : Heap) : Option (AV × Heap) :=
(q10_12 fb v0 v1 v2 v3 h)
noncomputable def q10_13k (fb : Nat) (s : St) : Option (AV × Heap) := q10_13 fb (s 0) (s 1) (s 2) (s 3) s.h
theorem q10_13_eq (fb : Nat) (s : St) : W E fb c_q10_13 s (finI [.t 8]) xN (finI [.t 8]) = q10_13k fb s :=
  (W_seq (k := (q10_12k fb)) (fun s => q10_12_eq fb s)).trans (by kernel_rfl)
@[simp] theorem pure_80 : E.pure 80 = false := rfl
theorem x_q10 (fb : Nat) (v0 v1 v2 v3 : AV) (h : Heap) : (callW E).i 80 [v0, v1, v2, v3] fb h = q10_13 fb v0 v1 v2 v3 (if fb = h.length then h ++ deadSlots 5 else h) :=
  (callI_W (cf := c_q10) (by kernel_rfl) rfl).trans ((q10_13_eq fb _).trans (by kernel_rfl))
noncomputable def q106_1 (h : Heap) : OX :=
(expo1 h (AV.int .i64 (-1)))
noncomputable def q106_1k (s : St) : OX := q106_1 s.h
theorem q106_1_eq (s : St) : W E 0 c_q106_1 s (finP [.t 4]) xN (finP [.t 4]) = q106_1k s :=
  by kernel_rfl
noncomputable def q106_L2 (v0 v1 v7 v8 : AV) (h : Heap) : OX :=
  W E 0 c_q106_L2 ⟨[(0, v0), (1, v1), (7, v7), (8, v8)], h⟩ q106_1k (exitTo 0 q106_1k xN) (finP [.t 4])
noncomputable def q106_L2k (s : St) : OX := q106_L2 (s 0) (s 1) (s 7) (s 8) s.h
theorem q106_L2_eq (s : St) : W E 0 c_q106_L2 s q106_1k (exitTo 0 q106_1k xN) (finP [.t 4]) = q106_L2k s := W_loop_live.trans (by kernel_rfl)
noncomputable def q106_3 (v0 v1 v7 v8 : AV) (h : Heap) : OX :=
ob (evBin .add v8 (AV.int .i64 1)) fun v18 =>
(q106_L2 v0 v1 v7 v18 h)
noncomputable def q106_3k (s : St) : OX := q106_3 (s 0) (s 1) (s 7) (s 8) s.h
theorem q106_3_eq (s : St) : W E 0 c_q106_3 s q106_L2k (exitTo 0 q106_1k xN) (finP [.t 4]) = q106_3k s :=
  by kernel_rfl
noncomputable def q106_4 (v0 v1 v7 v8 : AV) (h : Heap) : OX :=
ob (evIxs 1 v0 v8) fun v14 =>
ob (evLd false 1 v14 h) fun v15 =>
ob (evBin .eql v1 v15) fun v16 =>
cnd v16
 ((expo1 h v8))
 ((q106_3 v0 v1 v7 v8 h))
noncomputable def q106_4k (s : St) : OX := q106_4 (s 0) (s 1) (s 7) (s 8) s.h
theorem q106_4_eq (s : St) : W E 0 c_q106_4 s q106_L2k (exitTo 0 q106_1k xN) (finP [.t 4]) = q106_4k s :=
  (W_seq (k := q106_3k) (fun s => q106_3_eq s)).trans (by kernel_rfl)
noncomputable def q106_5 (v0 v1 v7 v8 v9 : AV) (h : Heap) : OX :=
cnd v9
 ((q106_4 v0 v1 v7 v8 h))
 ((q106_1 h))
noncomputable def q106_5k (s : St) : OX := q106_5 (s 0) (s 1) (s 7) (s 8) (s 9) s.h
theorem q106_5_eq (s : St) : W E 0 c_q106_5 s q106_L2k (exitTo 0 q106_1k xN) (finP [.t 4]) = q106_5k s :=
  (W_seq (k := q106_4k) (fun s => q106_4_eq s)).trans (by kernel_rfl)
noncomputable def q106_6 (v0 v1 v7 v8 : AV) (h : Heap) : OX :=
ob (evBin .lss v8 v7) fun v9 =>
(q106_5 v0 v1 v7 v8 v9 h)
noncomputable def q106_6k (s : St) : OX := q106_6 (s 0) (s 1) (s 7) (s 8) s.h
theorem q106_6_eq (s : St) : W E 0 c_q106_6 s q106_L2k (exitTo 0 q106_1k xN) (finP [.t 4]) = q106_6k s :=
  (W_seq (k := q106_5k) (fun s => q106_5_eq s)).trans (by kernel_rfl)
theorem q106_L2_go (v0 v1 v7 v8 : AV) (h : Heap) : q106_L2 v0 v1 v7 v8 h = (q106_6 v0 v1 v7 v8 h) :=
  W_loop.trans ((W_congr _ _ _ (n' := q106_L2k) (fun s => q106_L2_eq s)).trans ((q106_6_eq _).trans (by kernel_rfl)))
theorem q106_7_eq (s : St) : W E 0 c_q106_7 s q106_1k xN (finP [.t 4]) = q106_L2k s :=
  W_block.trans (q106_L2_eq s)
noncomputable def q106_8 (v0 v1 : AV) (h : Heap) : OX :=
ob (evLen 1 v0 h) fun v7 =>
(q106_L2 v0 v1 v7 (AV.int .i64 0) h)
noncomputable def q106_8k (s : St) : OX := q106_8 (s 0) (s 1) s.h
theorem q106_8_eq (s : St) : W E 0 c_q106_8 s q106_1k xN (finP [.t 4]) = q106_8k s :=
  (W_seq (k := q106_L2k) (fun s => q106_7_eq s)).trans (by kernel_rfl)
theorem q106_9_eq (s : St) : W E 0 c_q106_9 s (finP [.t 4]) xN (finP [.t 4]) = q106_8k s :=
  (W_seq (k := q106_1k) (fun s => q106_1_eq s)).trans (q106_8_eq s)
noncomputable def q106_10 (v0 v1 : AV) (h : Heap) : OX :=
(q106_8 v0 v1 h)
noncomputable def q106_10k (s : St) : OX := q106_10 (s 0) (s 1) s.h
theorem q106_10_eq (s : St) : W E 0 c_q106_10 s (finP [.t 4]) xN (finP [.t 4]) = q106_10k s :=
  (W_seq (k := q106_8k) (fun s => q106_9_eq s)).trans (by kernel_rfl)
@[simp] theorem pure_45 : E.pure 45 = true := rfl
theorem x_q106 (v0 v1 : AV) : (callW E).p 45 [v0, v1] = q106_10 v0 v1 [] :=
  (callP_W (cf := c_q106) (by kernel_rfl) rfl).trans ((q106_10_eq _).trans (by kernel_rfl))
noncomputable def q13_1 (v0 : AV) (h : Heap) : OX :=
oh (newC 0 (some 0) (cellsOf v0) h) fun v1 h1 =>
ob (evFa 0 v1) fun v3 =>
ob (evLd false 1 v3 h1) fun v4 =>
ob (evBin .geq v4 (AV.int .i64 23)) fun v5 =>
gb v5 true (evFa 0 v1) fun v7 =>
gb v5 true (evLd false 1 v7 h1) fun v8 =>
gb v5 true (evBin .leq v8 (AV.int .i64 26)) fun v9 =>
ob (evPick v5 v9 (AV.bool false)) fun v10 =>
(expo1 h1 v10)
noncomputable def q13_1k (s : St) : OX := q13_1 (s 0) s.h
theorem q13_1_eq (s : St) : W E 0 c_q13_1 s (finP [.t 2]) xN (finP [.t 2]) = q13_1k s :=
  by kernel_rfl
@[simp] theorem pure_17 : E.pure 17 = true := rfl
theorem x_q13 (v0 : AV) : (callW E).p 17 [v0] = q13_1 v0 [⟨0, .dead⟩] :=
  (callP_W (cf := c_q13) (by kernel_rfl) rfl).trans ((q13_1_eq _).trans (by kernel_rfl))
noncomputable def q104_1 (v0 : AV) (h : Heap) : OX :=
oh (buildSC 0 (some 0) 1 0 [(.int .i64 0)] [] h) fun v5 h1 =>
oh (evApp 0 (some 1) 1 8 v5 v0 h1) fun v7 h2 =>
(expo1 h2 v7)
noncomputable def q104_1k (s : St) : OX := q104_1 (s 0) s.h
theorem q104_1_eq (s : St) : W E 0 c_q104_1 s (finP [.t 2]) xN (finP [.t 2]) = q104_1k s :=
  by kernel_rfl
noncomputable def q104_2 (v0 : AV) (h : Heap) : OX :=
ob (evEqnB 1 false v0 AV.nils) fun v4 =>
cnd v4
 ((expo1 h AV.nils))
 ((q104_1 v0 h))
noncomputable def q104_2k (s : St) : OX := q104_2 (s 0) s.h
theorem q104_2_eq (s : St) : W E 0 c_q104_2 s (finP [.t 2]) xN (finP [.t 2]) = q104_2k s :=
  (W_seq (k := q104_1k) (fun s => q104_1_eq s)).trans (by kernel_rfl)
noncomputable def q104_3 (v0 : AV) (h : Heap) : OX :=
(q104_2 v0 h)
noncomputable def q104_3k (s : St) : OX := q104_3 (s 0) s.h
theorem q104_3_eq (s : St) : W E 0 c_q104_3 s (finP [.t 2]) xN (finP [.t 2]) = q104_3k s :=
  (W_seq (k := q104_2k) (fun s => q104_2_eq s)).trans (by kernel_rfl)
@[simp] theorem pure_39 : E.pure 39 = true := rfl
theorem x_q104 (v0 : AV) : (callW E).p 39 [v0] = q104_3 v0 [⟨0, .dead⟩, ⟨0, .dead⟩] :=
  (callP_W (cf := c_q104) (by kernel_rfl) rfl).trans ((q104_3_eq _).trans (by kernel_rfl))
noncomputable def q23_1 (v2 v3 : AV) (h : Heap) : OX :=
ob (evLd true 9 v3 h) fun v183 =>
oh (callAny E (callW E) 0 none true 22 [v183] h) fun v184 h1 =>
ob (evUn .not v184) fun v185 =>
gb v185 false (evFa 6 v3) fun v187 =>
gb v185 false (evLd false 1 v187 h1) fun v188 =>
gb v185 false (evBin .geq v188 (AV.int .i64 0)) fun v189 =>
gb v185 false (some v189) fun v190 =>
gb v190 true (evFa 6 v3) fun v191 =>
gb v190 true (evLd false 1 v191 h1) fun v192 =>
gb v190 true (evFa 3 v2) fun v193 =>
gb v190 true (evLd false 1 v193 h1) fun v194 =>
gb v190 true (evLen 1 v194 h1) fun v195 =>
gb v190 true (evBin .lss v192 v195) fun v196 =>
gb v185 false (evPick v190 v196 (AV.bool false)) fun v197 =>
ob (evPick v185 (AV.bool true) v197) fun v198 =>
(expo1 h1 v198)
noncomputable def q23_1k (s : St) : OX := q23_1 (s 2) (s 3) s.h
theorem q23_1_eq (s : St) : W E 0 c_q23_1 s (finP [.t 4]) xN (finP [.t 4]) = q23_1k s :=
  by kernel_rfl
noncomputable def q23_2 (v2 v3 : AV) (h : Heap) : OX :=
ob (evFa 0 v3) fun v105 =>
ob (evLd false 1 v105 h) fun v106 =>
ob (evBin .eql v106 (AV.int .i64 1)) fun v108 =>
cnd v108
 (ob (evFa 0 v2) fun v109 =>
ob (evLd false 1 v109 h) fun v110 =>
ob (evFa 1 v3) fun v111 =>
ob (evLd false 1 v111 h) fun v112 =>
ob (evIxs 1 v110 v112) fun v113 =>
ob (evLd false 1 v113 h) fun v114 =>
ob (evBin .neq v114 (AV.int .i64 3)) fun v115 =>
gb v115 true (evFa 0 v2) fun v117 =>
gb v115 true (evLd false 1 v117 h) fun v118 =>
gb v115 true (evFa 1 v3) fun v119 =>
gb v115 true (evLd false 1 v119 h) fun v120 =>
gb v115 true (evIxs 1 v118 v120) fun v121 =>
gb v115 true (evLd false 1 v121 h) fun v122 =>
gb v115 true (evBin .eql v122 (AV.int .i64 2)) fun v123 =>
gb v115 true (some v123) fun v124 =>
gb v124 false (evFa 5 v3) fun v125 =>
gb v124 false (evLd false 1 v125 h) fun v126 =>
gb v124 false (evFa 5 v3) fun v127 =>
gb v124 false (evLd false 1 v127 h) fun v128 =>
gb v124 false (evCvi .i32 v128) fun v129 =>
gb v124 false (evCvi .i64 v129) fun v130 =>
gb v124 false (evBin .eql v126 v130) fun v131 =>
gb v115 true (evPick v124 (AV.bool true) v131) fun v132 =>
ob (evPick v115 v132 (AV.bool false)) fun v133 =>
(expo1 h v133))
 (ob (evBin .eql v106 (AV.int .i64 4)) fun v135 =>
cnd v135
 (ob (evFa 0 v2) fun v136 =>
ob (evLd false 1 v136 h) fun v137 =>
ob (evFa 1 v3) fun v138 =>
ob (evLd false 1 v138 h) fun v139 =>
ob (evIxs 1 v137 v139) fun v140 =>
ob (evLd false 1 v140 h) fun v141 =>
ob (evFa 0 v2) fun v142 =>
ob (evLd false 1 v142 h) fun v143 =>
ob (evFa 2 v3) fun v144 =>
ob (evLd false 1 v144 h) fun v145 =>
ob (evIxs 1 v143 v145) fun v146 =>
ob (evLd false 1 v146 h) fun v147 =>
ob (evBin .eql v141 v147) fun v148 =>
(expo1 h v148))
 (ob (evBin .eql v106 (AV.int .i64 7)) fun v150 =>
cnd v150
 (ob (evFa 0 v2) fun v151 =>
ob (evLd false 1 v151 h) fun v152 =>
ob (evFa 2 v3) fun v153 =>
ob (evLd false 1 v153 h) fun v154 =>
ob (evIxs 1 v152 v154) fun v155 =>
ob (evLd false 1 v155 h) fun v156 =>
ob (evBin .neq v156 (AV.int .i64 3)) fun v157 =>
(expo1 h v157))
 (ob (evBin .eql v106 (AV.int .i64 30)) fun v159 =>
cnd v159
 (ob (evFa 2 v3) fun v160 =>
ob (evLd false 1 v160 h) fun v161 =>
ob (evBin .eql v161 (AV.int .i64 (-1))) fun v162 =>
ob (evFa 2 v2) fun v163 =>
ob (evLd false 1 v163 h) fun v164 =>
ob (evBin .eql v164 (AV.int .i64 0)) fun v165 =>
ob (evEqb false v162 v165) fun v166 =>
gb v166 true (evFa 2 v3) fun v168 =>
gb v166 true (evLd false 1 v168 h) fun v169 =>
gb v166 true (evBin .eql v169 (AV.int .i64 (-1))) fun v170 =>
gb v166 true (some v170) fun v171 =>
gb v171 false (evFa 0 v2) fun v172 =>
gb v171 false (evLd false 1 v172 h) fun v173 =>
gb v171 false (evFa 2 v3) fun v174 =>
gb v171 false (evLd false 1 v174 h) fun v175 =>
gb v171 false (evIxs 1 v173 v175) fun v176 =>
gb v171 false (evLd false 1 v176 h) fun v177 =>
gb v171 false (evFa 2 v2) fun v178 =>
gb v171 false (evLd false 1 v178 h) fun v179 =>
gb v171 false (evBin .eql v177 v179) fun v180 =>
gb v166 true (evPick v171 (AV.bool true) v180) fun v181 =>
ob (evPick v166 v181 (AV.bool false)) fun v182 =>
(expo1 h v182))
 ((q23_1 v2 v3 h)))))
noncomputable def q23_2k (s : St) : OX := q23_2 (s 2) (s 3) s.h
theorem q23_2_eq (s : St) : W E 0 c_q23_2 s (finP [.t 4]) xN (finP [.t 4]) = q23_2k s :=
  (W_seq (k := q23_1k) (fun s => q23_1_eq s)).trans (by kernel_rfl)
noncomputable def q23_L3 (v2 v3 v63 v64 v65 : AV) (h : Heap) : OX :=
  W E 0 c_q23_L3 ⟨[(2, v2), (3, v3), (63, v63), (64, v64), (65, v65)], h⟩ q23_2k (exitTo 2 q23_2k xN) (finP [.t 4])
noncomputable def q23_L3k (s : St) : OX := q23_L3 (s 2) (s 3) (s 63) (s 64) (s 65) s.h
theorem q23_L3_eq (s : St) : W E 0 c_q23_L3 s q23_2k (exitTo 2 q23_2k xN) (finP [.t 4]) = q23_L3k s := W_loop_live.trans (by kernel_rfl)
noncomputable def q23_4 (v2 v3 v63 v64 v65 : AV) (h : Heap) : OX :=
ob (evBin .add v65 (AV.int .i64 1)) fun v104 =>
(q23_L3 v2 v3 v63 v64 v104 h)
noncomputable def q23_4k (s : St) : OX := q23_4 (s 2) (s 3) (s 63) (s 64) (s 65) s.h
theorem q23_4_eq (s : St) : W E 0 c_q23_4 s q23_L3k (exitTo 2 q23_2k xN) (finP [.t 4]) = q23_4k s :=
  by kernel_rfl
noncomputable def q23_5 (v2 v3 v9 v10 v63 v64 v65 : AV) (h : Heap) : OX :=
ob (evBin .lss v10 (AV.int .i64 0)) fun v74 =>
gb v74 false (some v10) fun v76 =>
gb v74 false (evFa 0 v2) fun v77 =>
gb v74 false (evLd false 1 v77 h) fun v78 =>
gb v74 false (evLen 1 v78 h) fun v79 =>
gb v74 false (evBin .geq v76 v79) fun v80 =>
ob (evPick v74 (AV.bool true) v80) fun v81 =>
gb v81 false (some v9) fun v83 =>
gb v81 false (evBin .eql v83 (AV.int .i64 0)) fun v84 =>
gb v81 false (some v84) fun v85 =>
gb v85 true (evFa 0 v3) fun v86 =>
gb v85 true (evLd false 1 v86 h) fun v87 =>
gb v85 true (evBin .eql v87 (AV.int .i64 24)) fun v88 =>
gb v85 true (some v88) fun v89 =>
gb v89 false (evFa 0 v3) fun v90 =>
gb v89 false (evLd false 1 v90 h) fun v91 =>
gb v89 false (evBin .eql v91 (AV.int .i64 25)) fun v92 =>
gb v85 true (evPick v89 (AV.bool true) v92) fun v93 =>
gb v81 false (evPick v85 v93 (AV.bool false)) fun v94 =>
gb v81 false (some v94) fun v95 =>
gb v95 true (evFa 0 v2) fun v96 =>
gb v95 true (evLd false 1 v96 h) fun v97 =>
gb v95 true (some v10) fun v98 =>
gb v95 true (evIxs 1 v97 v98) fun v99 =>
gb v95 true (evLd false 1 v99 h) fun v100 =>
gb v95 true (evBin .neq v100 (AV.int .i64 3)) fun v101 =>
gb v81 false (evPick v95 v101 (AV.bool false)) fun v102 =>
ob (evPick v81 (AV.bool true) v102) fun v103 =>
cnd v103
 ((expo1 h (AV.bool false)))
 ((q23_4 v2 v3 v63 v64 v65 h))
noncomputable def q23_5k (s : St) : OX := q23_5 (s 2) (s 3) (s 9) (s 10) (s 63) (s 64) (s 65) s.h
theorem q23_5_eq (s : St) : W E 0 c_q23_5 s q23_4k (exitTo 3 q23_4k (exitTo 2 q23_2k xN)) (finP [.t 4]) = q23_5k s :=
  by kernel_rfl
noncomputable def q23_6 (v2 v3 v9 v10 v63 v64 v65 : AV) (h : Heap) : OX :=
ob (evLd true 9 v3 h) fun v70 =>
oh (callAny E (callW E) 0 none true 17 [v70] h) fun v71 h2 =>
ob (evUn .not v71) fun v72 =>
cnd v72
 ((q23_2 v2 v3 h2))
 ((q23_5 v2 v3 v9 v10 v63 v64 v65 h2))
noncomputable def q23_6k (s : St) : OX := q23_6 (s 2) (s 3) (s 9) (s 10) (s 63) (s 64) (s 65) s.h
theorem q23_6_eq (s : St) : W E 0 c_q23_6 s q23_4k (exitTo 3 q23_4k (exitTo 2 q23_2k xN)) (finP [.t 4]) = q23_6k s :=
  (W_seq (k := q23_5k) (fun s => q23_5_eq s)).trans (by kernel_rfl)
noncomputable def q23_7 (v2 v3 v63 v64 v65 : AV) (h : Heap) : OX :=
ob (evIxs 1 v63 v65) fun v68 =>
ob (evLd false 1 v68 h) fun v69 =>
(q23_6 v2 v3 v65 v69 v63 v64 v65 h)
noncomputable def q23_7k (s : St) : OX := q23_7 (s 2) (s 3) (s 63) (s 64) (s 65) s.h
theorem q23_7_eq (s : St) : W E 0 c_q23_7 s q23_4k (exitTo 3 q23_4k (exitTo 2 q23_2k xN)) (finP [.t 4]) = q23_7k s :=
  (W_seq (k := q23_6k) (fun s => q23_6_eq s)).trans (by kernel_rfl)
theorem q23_8_eq (s : St) : W E 0 c_q23_8 s q23_4k (exitTo 2 q23_2k xN) (finP [.t 4]) = q23_7k s :=
  W_block.trans (q23_7_eq s)
theorem q23_9_eq (s : St) : W E 0 c_q23_9 s q23_L3k (exitTo 2 q23_2k xN) (finP [.t 4]) = q23_7k s :=
  (W_seq (k := q23_4k) (fun s => q23_4_eq s)).trans (q23_8_eq s)
noncomputable def q23_10 (v2 v3 v63 v64 v65 v66 : AV) (h : Heap) : OX :=
cnd v66
 ((q23_7 v2 v3 v63 v64 v65 h))
 ((q23_2 v2 v3 h))
noncomputable def q23_10k (s : St) : OX := q23_10 (s 2) (s 3) (s 63) (s 64) (s 65) (s 66) s.h
theorem q23_10_eq (s : St) : W E 0 c_q23_10 s q23_L3k (exitTo 2 q23_2k xN) (finP [.t 4]) = q23_10k s :=
  (W_seq (k := q23_7k) (fun s => q23_9_eq s)).trans (by kernel_rfl)
noncomputable def q23_11 (v2 v3 v63 v64 v65 : AV) (h : Heap) : OX :=
ob (evBin .lss v65 v64) fun v66 =>
(q23_10 v2 v3 v63 v64 v65 v66 h)
noncomputable def q23_11k (s : St) : OX := q23_11 (s 2) (s 3) (s 63) (s 64) (s 65) s.h
theorem q23_11_eq (s : St) : W E 0 c_q23_11 s q23_L3k (exitTo 2 q23_2k xN) (finP [.t 4]) = q23_11k s :=
  (W_seq (k := q23_10k) (fun s => q23_10_eq s)).trans (by kernel_rfl)
theorem q23_L3_go (v2 v3 v63 v64 v65 : AV) (h : Heap) : q23_L3 v2 v3 v63 v64 v65 h = (q23_11 v2 v3 v63 v64 v65 h) :=
  W_loop.trans ((W_congr _ _ _ (n' := q23_L3k) (fun s => q23_L3_eq s)).trans ((q23_11_eq _).trans (by kernel_rfl)))
theorem q23_12_eq (s : St) : W E 0 c_q23_12 s q23_2k xN (finP [.t 4]) = q23_L3k s :=
  W_block.trans (q23_L3_eq s)
noncomputable def q23_13 (v2 v3 : AV) (h : Heap) : OX :=
ob (evFa 8 v3) fun v62 =>
ob (evLd false 1 v62 h) fun v63 =>
ob (evLen 1 v63 h) fun v64 =>
(q23_L3 v2 v3 v63 v64 (AV.int .i64 0) h)
noncomputable def q23_13k (s : St) : OX := q23_13 (s 2) (s 3) s.h
theorem q23_13_eq (s : St) : W E 0 c_q23_13 s q23_2k xN (finP [.t 4]) = q23_13k s :=
  (W_seq (k := q23_L3k) (fun s => q23_12_eq s)).trans (by kernel_rfl)
theorem q23_14_eq (s : St) : W E 0 c_q23_14 s (finP [.t 4]) xN (finP [.t 4]) = q23_13k s :=
  (W_seq (k := q23_2k) (fun s => q23_2_eq s)).trans (q23_13_eq s)
noncomputable def q23_L15 (v2 v3 v5 v26 v27 : AV) (h : Heap) : OX :=
  W E 0 c_q23_L15 ⟨[(2, v2), (3, v3), (5, v5), (26, v26), (27, v27)], h⟩ q23_13k (exitTo 0 q23_13k xN) (finP [.t 4])
noncomputable def q23_L15k (s : St) : OX := q23_L15 (s 2) (s 3) (s 5) (s 26) (s 27) s.h
theorem q23_L15_eq (s : St) : W E 0 c_q23_L15 s q23_13k (exitTo 0 q23_13k xN) (finP [.t 4]) = q23_L15k s := W_loop_live.trans (by kernel_rfl)
noncomputable def q23_16 (v2 v3 v5 v26 v27 : AV) (h : Heap) : OX :=
ob (evBin .add v27 (AV.int .i64 1)) fun v61 =>
(q23_L15 v2 v3 v5 v26 v61 h)
noncomputable def q23_16k (s : St) : OX := q23_16 (s 2) (s 3) (s 5) (s 26) (s 27) s.h
theorem q23_16_eq (s : St) : W E 0 c_q23_16 s q23_L15k (exitTo 0 q23_13k xN) (finP [.t 4]) = q23_16k s :=
  by kernel_rfl
noncomputable def q23_17 (v2 v3 v5 v7 v8 v26 v27 : AV) (h : Heap) : OX :=
ob (evBin .lss v8 (AV.int .i64 0)) fun v36 =>
gb v36 false (some v8) fun v38 =>
gb v36 false (evFa 0 v2) fun v39 =>
gb v36 false (evLd false 1 v39 h) fun v40 =>
gb v36 false (evLen 1 v40 h) fun v41 =>
gb v36 false (evBin .geq v38 v41) fun v42 =>
ob (evPick v36 (AV.bool true) v42) fun v43 =>
gb v43 false (some v7) fun v45 =>
gb v43 false (evIxa 4 1 v5 v45) fun v46 =>
gb v43 false (evLd false 1 v46 h) fun v47 =>
gb v43 false (evBin .gtr v47 (AV.int .i64 0)) fun v48 =>
gb v43 false (some v48) fun v49 =>
gb v49 true (evFa 0 v2) fun v50 =>
gb v49 true (evLd false 1 v50 h) fun v51 =>
gb v49 true (some v8) fun v52 =>
gb v49 true (evIxs 1 v51 v52) fun v53 =>
gb v49 true (evLd false 1 v53 h) fun v54 =>
gb v49 true (some v7) fun v55 =>
gb v49 true (evIxa 4 1 v5 v55) fun v56 =>
gb v49 true (evLd false 1 v56 h) fun v57 =>
gb v49 true (evBin .neq v54 v57) fun v58 =>
gb v43 false (evPick v49 v58 (AV.bool false)) fun v59 =>
ob (evPick v43 (AV.bool true) v59) fun v60 =>
cnd v60
 ((expo1 h (AV.bool false)))
 ((q23_16 v2 v3 v5 v26 v27 h))
noncomputable def q23_17k (s : St) : OX := q23_17 (s 2) (s 3) (s 5) (s 7) (s 8) (s 26) (s 27) s.h
theorem q23_17_eq (s : St) : W E 0 c_q23_17 s q23_16k (exitTo 1 q23_16k (exitTo 0 q23_13k xN)) (finP [.t 4]) = q23_17k s :=
  by kernel_rfl
noncomputable def q23_18 (v2 v3 v5 v7 v8 v26 v27 : AV) (h : Heap) : OX :=
ob (evIxa 4 1 v5 v7) fun v32 =>
ob (evLd false 1 v32 h) fun v33 =>
ob (evBin .lss v33 (AV.int .i64 0)) fun v34 =>
cnd v34
 ((q23_16 v2 v3 v5 v26 v27 h))
 ((q23_17 v2 v3 v5 v7 v8 v26 v27 h))
noncomputable def q23_18k (s : St) : OX := q23_18 (s 2) (s 3) (s 5) (s 7) (s 8) (s 26) (s 27) s.h
theorem q23_18_eq (s : St) : W E 0 c_q23_18 s q23_16k (exitTo 1 q23_16k (exitTo 0 q23_13k xN)) (finP [.t 4]) = q23_18k s :=
  (W_seq (k := q23_17k) (fun s => q23_17_eq s)).trans (by kernel_rfl)
noncomputable def q23_19 (v2 v3 v5 v26 v27 : AV) (h : Heap) : OX :=
ob (evIxv false 4 1 v26 v27) fun v30 =>
(q23_18 v2 v3 v5 v27 v30 v26 v27 h)
noncomputable def q23_19k (s : St) : OX := q23_19 (s 2) (s 3) (s 5) (s 26) (s 27) s.h
theorem q23_19_eq (s : St) : W E 0 c_q23_19 s q23_16k (exitTo 1 q23_16k (exitTo 0 q23_13k xN)) (finP [.t 4]) = q23_19k s :=
  (W_seq (k := q23_18k) (fun s => q23_18_eq s)).trans (by kernel_rfl)
theorem q23_20_eq (s : St) : W E 0 c_q23_20 s q23_16k (exitTo 0 q23_13k xN) (finP [.t 4]) = q23_19k s :=
  W_block.trans (q23_19_eq s)
theorem q23_21_eq (s : St) : W E 0 c_q23_21 s q23_L15k (exitTo 0 q23_13k xN) (finP [.t 4]) = q23_19k s :=
  (W_seq (k := q23_16k) (fun s => q23_16_eq s)).trans (q23_20_eq s)
noncomputable def q23_22 (v2 v3 v5 v26 v27 v28 : AV) (h : Heap) : OX :=
cnd v28
 ((q23_19 v2 v3 v5 v26 v27 h))
 ((q23_13 v2 v3 h))
noncomputable def q23_22k (s : St) : OX := q23_22 (s 2) (s 3) (s 5) (s 26) (s 27) (s 28) s.h
theorem q23_22_eq (s : St) : W E 0 c_q23_22 s q23_L15k (exitTo 0 q23_13k xN) (finP [.t 4]) = q23_22k s :=
  (W_seq (k := q23_19k) (fun s => q23_21_eq s)).trans (by kernel_rfl)
noncomputable def q23_23 (v2 v3 v5 v26 v27 : AV) (h : Heap) : OX :=
ob (evBin .lss v27 (AV.int .i64 4)) fun v28 =>
(q23_22 v2 v3 v5 v26 v27 v28 h)
noncomputable def q23_23k (s : St) : OX := q23_23 (s 2) (s 3) (s 5) (s 26) (s 27) s.h
theorem q23_23_eq (s : St) : W E 0 c_q23_23 s q23_L15k (exitTo 0 q23_13k xN) (finP [.t 4]) = q23_23k s :=
  (W_seq (k := q23_22k) (fun s => q23_22_eq s)).trans (by kernel_rfl)
theorem q23_L15_go (v2 v3 v5 v26 v27 : AV) (h : Heap) : q23_L15 v2 v3 v5 v26 v27 h = (q23_23 v2 v3 v5 v26 v27 h) :=
  W_loop.trans ((W_congr _ _ _ (n' := q23_L15k) (fun s => q23_L15_eq s)).trans ((q23_23_eq _).trans (by kernel_rfl)))
theorem q23_24_eq (s : St) : W E 0 c_q23_24 s q23_13k xN (finP [.t 4]) = q23_L15k s :=
  W_block.trans (q23_L15_eq s)
noncomputable def q23_25 (v2 v3 v5 : AV) (h : Heap) : OX :=
ob (evFa 1 v3) fun v18 =>
ob (evLd false 1 v18 h) fun v19 =>
ob (evFa 2 v3) fun v20 =>
ob (evLd false 1 v20 h) fun v21 =>
ob (evFa 3 v3) fun v22 =>
ob (evLd false 1 v22 h) fun v23 =>
ob (evFa 4 v3) fun v24 =>
ob (evLd false 1 v24 h) fun v25 =>
ob (evBuild [(.int .i64 0), (.int .i64 0), (.int .i64 0), (.int .i64 0)] [(0, 1, v19), (1, 1, v21), (2, 1, v23), (3, 1, v25)]) fun v26 =>
(q23_L15 v2 v3 v5 v26 (AV.int .i64 0) h)
noncomputable def q23_25k (s : St) : OX := q23_25 (s 2) (s 3) (s 5) s.h
theorem q23_25_eq (s : St) : W E 0 c_q23_25 s q23_13k xN (finP [.t 4]) = q23_25k s :=
  (W_seq (k := q23_L15k) (fun s => q23_24_eq s)).trans (by kernel_rfl)
theorem q23_26_eq (s : St) : W E 0 c_q23_26 s (finP [.t 4]) xN (finP [.t 4]) = q23_25k s :=
  (W_seq (k := q23_13k) (fun s => q23_14_eq s)).trans (q23_25_eq s)
noncomputable def q23_27 (v2 v3 v5 v6 : AV) (h : Heap) : OX :=
ob (evUn .not v6) fun v17 =>
cnd v17
 ((expo1 h (AV.bool false)))
 ((q23_25 v2 v3 v5 h))
noncomputable def q23_27k (s : St) : OX := q23_27 (s 2) (s 3) (s 5) (s 6) s.h
theorem q23_27_eq (s : St) : W E 0 c_q23_27 s (finP [.t 4]) xN (finP [.t 4]) = q23_27k s :=
  (W_seq (k := q23_25k) (fun s => q23_26_eq s)).trans (by kernel_rfl)
noncomputable def q23_28 (v2 v3 : AV) (h : Heap) : OX :=
ob (evLd true 9 v3 h) fun v12 =>
oh (callAny E (callW E) 0 none true 47 [v12] h) fun v13 h3 =>
ob (evExt 0 v13) fun v14 =>
ob (evExt 1 v13) fun v15 =>
oh (newC 0 (some 2) [(.int .i64 0), (.int .i64 0), (.int .i64 0), (.int .i64 0)] h3) fun v5 h4 =>
oh (evSt 4 v5 v14 h4) fun _ h5 =>
(q23_27 v2 v3 v5 v15 h5)
noncomputable def q23_28k (s : St) : OX := q23_28 (s 2) (s 3) s.h
theorem q23_28_eq (s : St) : W E 0 c_q23_28 s (finP [.t 4]) xN (finP [.t 4]) = q23_28k s :=
  (W_seq (k := q23_27k) (fun s => q23_27_eq s)).trans (by kernel_rfl)
noncomputable def q23_29 (v0 v1 : AV) (h : Heap) : OX :=
oh (newC 0 (some 0) (cellsOf v0) h) fun v2 h6 =>
oh (newC 0 (some 1) (cellsOf v1) h6) fun v3 h7 =>
(q23_28 v2 v3 h7)
noncomputable def q23_29k (s : St) : OX := q23_29 (s 0) (s 1) s.h
theorem q23_29_eq (s : St) : W E 0 c_q23_29 s (finP [.t 4]) xN (finP [.t 4]) = q23_29k s :=
  (W_seq (k := q23_28k) (fun s => q23_28_eq s)).trans (by kernel_rfl)
@[simp] theorem pure_63 : E.pure 63 = true := rfl
theorem x_q23 (v0 v1 : AV) : (callW E).p 63 [v0, v1] = q23_29 v0 v1 [⟨0, .dead⟩, ⟨0, .dead⟩, ⟨0, .dead⟩] :=
  (callP_W (cf := c_q23) (by kernel_rfl) rfl).trans ((q23_29_eq _).trans (by kernel_rfl))
noncomputable def q75_1 (v2 v7 : AV) (h : Heap) : OX :=
ob (evBin .sub v2 (AV.int .u8 48)) fun v30 =>
ob (evCvi .i64 v30) fun v31 =>
ob (evBin .eql v7 v31) fun v32 =>
(expo1 h v32)
noncomputable def q75_1k (s : St) : OX := q75_1 (s 2) (s 7) s.h
theorem q75_1_eq (s : St) : W E 0 c_q75_1 s (finP [.t 6]) xN (finP [.t 6]) = q75_1k s :=
  by kernel_rfl
noncomputable def q75_2 (v2 v7 v11 v15 : AV) (h : Heap) : OX :=
cnd v15
 (ob (evBin .gtr v7 (AV.int .i64 0)) fun v19 =>
(expo1 h v19))
 (ob (evBin .eql v11 (AV.int .u8 110)) fun v21 =>
cnd v21
 (ob (evBin .eql v7 (AV.int .i64 1)) fun v23 =>
gb v23 false (some v7) fun v25 =>
gb v23 false (evBin .eql v25 (AV.int .i64 2)) fun v26 =>
ob (evPick v23 (AV.bool true) v26) fun v27 =>
(expo1 h v27))
 ((q75_1 v2 v7 h)))
noncomputable def q75_2k (s : St) : OX := q75_2 (s 2) (s 7) (s 11) (s 15) s.h
theorem q75_2_eq (s : St) : W E 0 c_q75_2 s q75_1k (exitTo 0 q75_1k xN) (finP [.t 6]) = q75_2k s :=
  by kernel_rfl
noncomputable def q75_3 (v2 v7 v11 : AV) (h : Heap) : OX :=
ob (evBin .eql v11 (AV.int .u8 42)) fun v16 =>
cnd v16
 ((q75_2 v2 v7 v11 v16 h))
 (ob (evBin .eql v11 (AV.int .u8 61)) fun v17 =>
(q75_2 v2 v7 v11 v17 h))
noncomputable def q75_3k (s : St) : OX := q75_3 (s 2) (s 7) (s 11) s.h
theorem q75_3_eq (s : St) : W E 0 c_q75_3 s q75_1k (exitTo 0 q75_1k xN) (finP [.t 6]) = q75_3k s :=
  (W_seq (k := q75_2k) (fun s => q75_2_eq s)).trans (by kernel_rfl)
noncomputable def q75_4 (v2 v7 v11 v12 : AV) (h : Heap) : OX :=
cnd v12
 ((expo1 h (AV.bool true)))
 ((q75_3 v2 v7 v11 h))
noncomputable def q75_4k (s : St) : OX := q75_4 (s 2) (s 7) (s 11) (s 12) s.h
theorem q75_4_eq (s : St) : W E 0 c_q75_4 s q75_1k (exitTo 0 q75_1k xN) (finP [.t 6]) = q75_4k s :=
  (W_cond rfl (q75_3_eq s)).trans (by kernel_rfl)
noncomputable def q75_5 (v2 v7 v11 : AV) (h : Heap) : OX :=
ob (evBin .eql v11 (AV.int .u8 45)) fun v13 =>
cnd v13
 ((q75_4 v2 v7 v11 v13 h))
 (ob (evBin .eql v11 (AV.int .u8 63)) fun v14 =>
(q75_4 v2 v7 v11 v14 h))
noncomputable def q75_5k (s : St) : OX := q75_5 (s 2) (s 7) (s 11) s.h
theorem q75_5_eq (s : St) : W E 0 c_q75_5 s q75_1k (exitTo 0 q75_1k xN) (finP [.t 6]) = q75_5k s :=
  (W_seq (k := q75_4k) (fun s => q75_4_eq s)).trans (by kernel_rfl)
theorem q75_6_eq (s : St) : W E 0 c_q75_6 s q75_1k xN (finP [.t 6]) = q75_5k s :=
  W_block.trans (q75_5_eq s)
noncomputable def q75_7 (v2 v7 : AV) (h : Heap) : OX :=
(q75_5 v2 v7 v2 h)
noncomputable def q75_7k (s : St) : OX := q75_7 (s 2) (s 7) s.h
theorem q75_7_eq (s : St) : W E 0 c_q75_7 s q75_1k xN (finP [.t 6]) = q75_7k s :=
  (W_seq (k := q75_5k) (fun s => q75_6_eq s)).trans (by kernel_rfl)
theorem q75_8_eq (s : St) : W E 0 c_q75_8 s (finP [.t 6]) xN (finP [.t 6]) = q75_7k s :=
  (W_seq (k := q75_1k) (fun s => q75_1_eq s)).trans (q75_7_eq s)
noncomputable def q75_9 (v1 v2 v3 : AV) (h : Heap) : OX :=
ob (evLd true 5 v3 h) fun v8 =>
oh (callAny E (callW E) 0 none true 48 [v8, v1] h) fun v10 h1 =>
(q75_7 v2 v10 h1)
noncomputable def q75_9k (s : St) : OX := q75_9 (s 1) (s 2) (s 3) s.h
theorem q75_9_eq (s : St) : W E 0 c_q75_9 s (finP [.t 6]) xN (finP [.t 6]) = q75_9k s :=
  (W_seq (k := q75_7k) (fun s => q75_8_eq s)).trans (by kernel_rfl)
noncomputable def q75_10 (v0 v1 v2 : AV) (h : Heap) : OX :=
oh (newC 0 (some 0) (cellsOf v0) h) fun v3 h2 =>
(q75_9 v1 v2 v3 h2)
noncomputable def q75_10k (s : St) : OX := q75_10 (s 0) (s 1) (s 2) s.h
theorem q75_10_eq (s : St) : W E 0 c_q75_10 s (finP [.t 6]) xN (finP [.t 6]) = q75_10k s :=
  (W_seq (k := q75_9k) (fun s => q75_9_eq s)).trans (by kernel_rfl)
@[simp] theorem pure_65 : E.pure 65 = true := rfl
theorem x_q75 (v0 v1 v2 : AV) : (callW E).p 65 [v0, v1, v2] = q75_10 v0 v1 v2 [⟨0, .dead⟩] :=
  (callP_W (cf := c_q75) (by kernel_rfl) rfl).trans ((q75_10_eq _).trans (by kernel_rfl))
noncomputable def q56_1 (h : Heap) : OX :=
(expo1 h (.tup [(AV.int .i64 0), (AV.int .i64 0), (AV.int .i64 0)]))
noncomputable def q56_1k (s : St) : OX := q56_1 s.h
theorem q56_1_eq (s : St) : W E 0 c_q56_1 s (finP [.t 2, .t 3, .t 4]) xN (finP [.t 2, .t 3, .t 4]) = q56_1k s :=
  by kernel_rfl
noncomputable def q56_2 (v0 v5 : AV) (h : Heap) : OX :=
gb v5 true (some v0) fun v28 =>
gb v5 true (evBin .rem v28 (AV.int .i64 2)) fun v29 =>
gb v5 true (evBin .eql v29 (AV.int .i64 0)) fun v30 =>
ob (evPick v5 v30 (AV.bool false)) fun v31 =>
cnd v31
 ((expo1 h (.tup [(AV.int .i64 1), (AV.int .i64 1), (AV.int .i64 1)])))
 (ob (evBin .eql v0 (AV.int .i64 121)) fun v34 =>
gb v34 false (some v0) fun v36 =>
gb v34 false (evBin .eql v36 (AV.int .i64 123)) fun v37 =>
ob (evPick v34 (AV.bool true) v37) fun v38 =>
gb v38 false (some v0) fun v40 =>
gb v38 false (evBin .eql v40 (AV.int .i64 125)) fun v41 =>
ob (evPick v38 (AV.bool true) v41) fun v42 =>
cnd v42
 ((expo1 h (.tup [(AV.int .i64 2), (AV.int .i64 1), (AV.int .i64 2)])))
 (cnd v5
 ((expo1 h (.tup [(AV.int .i64 2), (AV.int .i64 2), (AV.int .i64 2)])))
 (ob (evBin .eql v0 (AV.int .i64 148)) fun v47 =>
cnd v47
 ((expo1 h (.tup [(AV.int .i64 2), (AV.int .i64 2), (AV.int .i64 1)])))
 (ob (evBin .eql v0 (AV.int .i64 116)) fun v50 =>
gb v50 false (some v0) fun v52 =>
gb v50 false (evBin .geq v52 (AV.int .i64 145)) fun v53 =>
gb v50 false (some v53) fun v54 =>
gb v54 true (some v0) fun v55 =>
gb v54 true (evBin .leq v55 (AV.int .i64 147)) fun v56 =>
gb v50 false (evPick v54 v56 (AV.bool false)) fun v57 =>
ob (evPick v50 (AV.bool true) v57) fun v58 =>
cnd v58
 ((expo1 h (.tup [(AV.int .i64 1), (AV.int .i64 0), (AV.int .i64 1)])))
 (ob (evBin .eql v0 (AV.int .i64 117)) fun v61 =>
cnd v61
 ((expo1 h (.tup [(AV.int .i64 2), (AV.int .i64 0), (AV.int .i64 2)])))
 (ob (evBin .eql v0 (AV.int .i64 133)) fun v64 =>
cnd v64
 ((expo1 h (.tup [(AV.int .i64 1), (AV.int .i64 0), (AV.int .i64 2)])))
 (ob (evBin .eql v0 (AV.int .i64 136)) fun v67 =>
cnd v67
 ((expo1 h (.tup [(AV.int .i64 2), (AV.int .i64 0), (AV.int .i64 1)])))
 ((q56_1 h)))))))))
noncomputable def q56_2k (s : St) : OX := q56_2 (s 0) (s 5) s.h
theorem q56_2_eq (s : St) : W E 0 c_q56_2 s (finP [.t 2, .t 3, .t 4]) xN (finP [.t 2, .t 3, .t 4]) = q56_2k s :=
  (W_seq (k := q56_1k) (fun s => q56_1_eq s)).trans (by kernel_rfl)
noncomputable def q56_3 (v0 : AV) (h : Heap) : OX :=
ob (evBin .geq v0 (AV.int .i64 96)) fun v7 =>
gb v7 true (some v0) fun v9 =>
gb v7 true (evBin .leq v9 (AV.int .i64 113)) fun v10 =>
ob (evPick v7 v10 (AV.bool false)) fun v11 =>
gb v11 true (some v0) fun v13 =>
gb v11 true (evBin .rem v13 (AV.int .i64 4)) fun v14 =>
gb v11 true (evBin .lss v14 (AV.int .i64 2)) fun v15 =>
ob (evPick v11 v15 (AV.bool false)) fun v16 =>
gb v16 false (some v0) fun v18 =>
gb v16 false (evBin .geq v18 (AV.int .i64 120)) fun v19 =>
gb v16 false (some v19) fun v20 =>
gb v20 true (some v0) fun v21 =>
gb v20 true (evBin .leq v21 (AV.int .i64 131)) fun v22 =>
gb v16 false (evPick v20 v22 (AV.bool false)) fun v23 =>
ob (evPick v16 (AV.bool true) v23) fun v24 =>
(q56_2 v0 v24 h)
noncomputable def q56_3k (s : St) : OX := q56_3 (s 0) s.h
theorem q56_3_eq (s : St) : W E 0 c_q56_3 s (finP [.t 2, .t 3, .t 4]) xN (finP [.t 2, .t 3, .t 4]) = q56_3k s :=
  (W_seq (k := q56_2k) (fun s => q56_2_eq s)).trans (by kernel_rfl)
noncomputable def q56_4 (v0 : AV) (h : Heap) : OX :=
(q56_3 v0 h)
noncomputable def q56_4k (s : St) : OX := q56_4 (s 0) s.h
theorem q56_4_eq (s : St) : W E 0 c_q56_4 s (finP [.t 2, .t 3, .t 4]) xN (finP [.t 2, .t 3, .t 4]) = q56_4k s :=
  (W_seq (k := q56_3k) (fun s => q56_3_eq s)).trans (by kernel_rfl)
@[simp] theorem pure_66 : E.pure 66 = true := rfl
theorem x_q56 (v0 : AV) : (callW E).p 66 [v0] = q56_4 v0 [] :=
  (callP_W (cf := c_q56) (by kernel_rfl) rfl).trans ((q56_4_eq _).trans (by kernel_rfl))
noncomputable def q58_1 (v0 : AV) (h : Heap) : OX :=
ob (evLen 0 v0 h) fun v28 =>
ob (evBin .gtr v28 (AV.int .i64 2)) fun v29 =>
gb v29 true (some v0) fun v31 =>
gb v29 true (evIxstr v31 (AV.int .i64 0)) fun v32 =>
gb v29 true (evBin .eql v32 (AV.int .u8 76)) fun v33 =>
ob (evPick v29 v33 (AV.bool false)) fun v34 =>
gb v34 true (some v0) fun v36 =>
gb v34 true (some v0) fun v37 =>
gb v34 true (evLen 0 v37 h) fun v38 =>
gb v34 true (evBin .sub v38 (AV.int .i64 1)) fun v39 =>
gb v34 true (evIxstr v36 v39) fun v40 =>
gb v34 true (evBin .eql v40 (AV.int .u8 59)) fun v41 =>
ob (evPick v34 v41 (AV.bool false)) fun v42 =>
gb v42 true (some v0) fun v44 =>
gb v42 true (some v0) fun v45 =>
gb v42 true (evLen 0 v45 h) fun v46 =>
gb v42 true (evBin .sub v46 (AV.int .i64 1)) fun v47 =>
gb v42 true (evSls v44 (some (AV.int .i64 1)) (some v47)) fun v48 =>
gh v42 true (callAny E (callW E) 0 none true 69 [v48, (AV.bool false)] h) h fun v49 h1 =>
ob (evPick v42 v49 (AV.bool false)) fun v50 =>
(expo1 h1 v50)
noncomputable def q58_1k (s : St) : OX := q58_1 (s 0) s.h
theorem q58_1_eq (s : St) : W E 0 c_q58_1 s (finP [.t 2]) xN (finP [.t 2]) = q58_1k s :=
  by kernel_rfl
noncomputable def q58_2 (v0 : AV) (h : Heap) : OX :=
ob (evBin .eql v0 (AV.str [73])) fun v22 =>
gb v22 false (some v0) fun v24 =>
gb v22 false (evBin .eql v24 (AV.str [74])) fun v25 =>
ob (evPick v22 (AV.bool true) v25) fun v26 =>
cnd v26
 ((expo1 h (AV.bool true)))
 ((q58_1 v0 h))
noncomputable def q58_2k (s : St) : OX := q58_2 (s 0) s.h
theorem q58_2_eq (s : St) : W E 0 c_q58_2 s (finP [.t 2]) xN (finP [.t 2]) = q58_2k s :=
  (W_seq (k := q58_1k) (fun s => q58_1_eq s)).trans (by kernel_rfl)
noncomputable def q58_3 (v0 v3 : AV) (h : Heap) : OX :=
ob (evBin .gtr v3 (AV.int .i64 8)) fun v20 =>
cnd v20
 ((expo1 h (AV.bool false)))
 ((q58_2 v0 h))
noncomputable def q58_3k (s : St) : OX := q58_3 (s 0) (s 3) s.h
theorem q58_3_eq (s : St) : W E 0 c_q58_3 s (finP [.t 2]) xN (finP [.t 2]) = q58_3k s :=
  (W_seq (k := q58_2k) (fun s => q58_2_eq s)).trans (by kernel_rfl)
noncomputable def q58_4 (v0 v3 : AV) (h : Heap) : OX :=
ob (evSls v0 (some v3) none) fun v18 =>
(q58_3 v18 v3 h)
noncomputable def q58_4k (s : St) : OX := q58_4 (s 0) (s 3) s.h
theorem q58_4_eq (s : St) : W E 0 c_q58_4 s (finP [.t 2]) xN (finP [.t 2]) = q58_4k s :=
  (W_seq (k := q58_3k) (fun s => q58_3_eq s)).trans (by kernel_rfl)
noncomputable def q58_L5 (v0 v3 : AV) (h : Heap) : OX :=
  W E 0 c_q58_L5 ⟨[(0, v0), (3, v3)], h⟩ q58_4k (exitTo 0 q58_4k xN) (finP [.t 2])
noncomputable def q58_L5k (s : St) : OX := q58_L5 (s 0) (s 3) s.h
theorem q58_L5_eq (s : St) : W E 0 c_q58_L5 s q58_4k (exitTo 0 q58_4k xN) (finP [.t 2]) = q58_L5k s := W_loop_live.trans (by kernel_rfl)
noncomputable def q58_6 (v0 v3 : AV) (h : Heap) : OX :=
ob (evBin .add v3 (AV.int .i64 1)) fun v15 =>
(q58_L5 v0 v15 h)
noncomputable def q58_6k (s : St) : OX := q58_6 (s 0) (s 3) s.h
theorem q58_6_eq (s : St) : W E 0 c_q58_6 s q58_L5k (exitTo 0 q58_4k xN) (finP [.t 2]) = q58_6k s :=
  by kernel_rfl
noncomputable def q58_7 (v0 v3 : AV) (h : Heap) : OX :=
ob (evLen 0 v0 h) fun v6 =>
ob (evBin .lss v3 v6) fun v7 =>
gb v7 true (some v0) fun v9 =>
gb v7 true (some v3) fun v10 =>
gb v7 true (evIxstr v9 v10) fun v11 =>
gb v7 true (evBin .eql v11 (AV.int .u8 91)) fun v12 =>
ob (evPick v7 v12 (AV.bool false)) fun v13 =>
cnd v13
 ((q58_6 v0 v3 h))
 ((q58_4 v0 v3 h))
noncomputable def q58_7k (s : St) : OX := q58_7 (s 0) (s 3) s.h
theorem q58_7_eq (s : St) : W E 0 c_q58_7 s q58_L5k (exitTo 0 q58_4k xN) (finP [.t 2]) = q58_7k s :=
  (W_seq (k := q58_6k) (fun s => q58_6_eq s)).trans (by kernel_rfl)
theorem q58_L5_go (v0 v3 : AV) (h : Heap) : q58_L5 v0 v3 h = (q58_7 v0 v3 h) :=
  W_loop.trans ((W_congr _ _ _ (n' := q58_L5k) (fun s => q58_L5_eq s)).trans ((q58_7_eq _).trans (by kernel_rfl)))
theorem q58_8_eq (s : St) : W E 0 c_q58_8 s q58_4k xN (finP [.t 2]) = q58_L5k s :=
  W_block.trans (q58_L5_eq s)
theorem q58_9_eq (s : St) : W E 0 c_q58_9 s (finP [.t 2]) xN (finP [.t 2]) = q58_L5k s :=
  (W_seq (k := q58_4k) (fun s => q58_4_eq s)).trans (q58_8_eq s)
noncomputable def q58_10 (v0 : AV) (h : Heap) : OX :=
(q58_L5 v0 (AV.int .i64 0) h)
noncomputable def q58_10k (s : St) : OX := q58_10 (s 0) s.h
theorem q58_10_eq (s : St) : W E 0 c_q58_10 s (finP [.t 2]) xN (finP [.t 2]) = q58_10k s :=
  (W_seq (k := q58_L5k) (fun s => q58_9_eq s)).trans (by kernel_rfl)
noncomputable def q58_11 (v0 : AV) (h : Heap) : OX :=
(q58_10 v0 h)
noncomputable def q58_11k (s : St) : OX := q58_11 (s 0) s.h
theorem q58_11_eq (s : St) : W E 0 c_q58_11 s (finP [.t 2]) xN (finP [.t 2]) = q58_11k s :=
  (W_seq (k := q58_10k) (fun s => q58_10_eq s)).trans (by kernel_rfl)
@[simp] theorem pure_67 : E.pure 67 = true := rfl
theorem x_q58 (v0 : AV) : (callW E).p 67 [v0] = q58_11 v0 [] :=
  (callP_W (cf := c_q58) (by kernel_rfl) rfl).trans ((q58_11_eq _).trans (by kernel_rfl))
noncomputable def q69_1 (v2 v3 : AV) (h : Heap) : OX :=
ob (evFa 0 v3) fun v47 =>
ob (evLd false 1 v47 h) fun v48 =>
ob (evBin .neq v48 (AV.int .i64 24)) fun v49 =>
gb v49 true (evFa 0 v3) fun v51 =>
gb v49 true (evLd false 1 v51 h) fun v52 =>
gb v49 true (evBin .neq v52 (AV.int .i64 25)) fun v53 =>
ob (evPick v49 v53 (AV.bool false)) fun v54 =>
gb v54 false (evFa 8 v3) fun v56 =>
gb v54 false (evLd false 1 v56 h) fun v57 =>
gb v54 false (evLen 1 v57 h) fun v58 =>
gb v54 false (evBin .gtr v58 (AV.int .i64 0)) fun v59 =>
gb v54 false (some v59) fun v60 =>
gb v60 true (evLd true 5 v2 h) fun v61 =>
gb v60 true (evFa 8 v3) fun v62 =>
gb v60 true (evLd false 1 v62 h) fun v63 =>
gb v60 true (evIxs 1 v63 (AV.int .i64 0)) fun v64 =>
gb v60 true (evLd false 1 v64 h) fun v65 =>
gh v60 true (callAny E (callW E) 0 none true 48 [v61, v65] h) h fun v66 h1 =>
gb v60 true (evBin .eql v66 (AV.int .i64 3)) fun v67 =>
gb v54 false (evPick v60 v67 (AV.bool false)) fun v68 =>
ob (evPick v54 (AV.bool true) v68) fun v69 =>
(expo1 h1 v69)
noncomputable def q69_1k (s : St) : OX := q69_1 (s 2) (s 3) s.h
theorem q69_1_eq (s : St) : W E 0 c_q69_1 s (finP [.t 4]) xN (finP [.t 4]) = q69_1k s :=
  by kernel_rfl
noncomputable def q69_L2 (v2 v3 v5 : AV) (h : Heap) : OX :=
  W E 0 c_q69_L2 ⟨[(2, v2), (3, v3), (5, v5)], h⟩ q69_1k (exitTo 0 q69_1k xN) (finP [.t 4])
noncomputable def q69_L2k (s : St) : OX := q69_L2 (s 2) (s 3) (s 5) s.h
theorem q69_L2_eq (s : St) : W E 0 c_q69_L2 s q69_1k (exitTo 0 q69_1k xN) (finP [.t 4]) = q69_L2k s := W_loop_live.trans (by kernel_rfl)
noncomputable def q69_3 (v2 v3 v5 : AV) (h : Heap) : OX :=
ob (evBin .add v5 (AV.int .i64 1)) fun v38 =>
(q69_L2 v2 v3 v38 h)
noncomputable def q69_3k (s : St) : OX := q69_3 (s 2) (s 3) (s 5) s.h
theorem q69_3_eq (s : St) : W E 0 c_q69_3 s q69_L2k (exitTo 0 q69_1k xN) (finP [.t 4]) = q69_3k s :=
  by kernel_rfl
noncomputable def q69_4 (v2 v3 v5 : AV) (h : Heap) : OX :=
ob (evLd true 5 v2 h) fun v39 =>
ob (evFa 8 v3) fun v40 =>
ob (evLd false 1 v40 h) fun v41 =>
ob (evIxs 1 v41 v5) fun v43 =>
ob (evLd false 1 v43 h) fun v44 =>
oh (callAny E (callW E) 0 none true 48 [v39, v44] h) fun v45 h2 =>
ob (evBin .eql v45 (AV.int .i64 0)) fun v46 =>
cnd v46
 ((expo1 h2 (AV.bool false)))
 ((q69_3 v2 v3 v5 h2))
noncomputable def q69_4k (s : St) : OX := q69_4 (s 2) (s 3) (s 5) s.h
theorem q69_4_eq (s : St) : W E 0 c_q69_4 s q69_L2k (exitTo 0 q69_1k xN) (finP [.t 4]) = q69_4k s :=
  (W_seq (k := q69_3k) (fun s => q69_3_eq s)).trans (by kernel_rfl)
noncomputable def q69_5 (v2 v3 v5 : AV) (h : Heap) : OX :=
ob (evFa 8 v3) fun v33 =>
ob (evLd false 1 v33 h) fun v34 =>
ob (evLen 1 v34 h) fun v35 =>
ob (evBin .lss v5 v35) fun v36 =>
cnd v36
 ((q69_4 v2 v3 v5 h))
 ((q69_1 v2 v3 h))
noncomputable def q69_5k (s : St) : OX := q69_5 (s 2) (s 3) (s 5) s.h
theorem q69_5_eq (s : St) : W E 0 c_q69_5 s q69_L2k (exitTo 0 q69_1k xN) (finP [.t 4]) = q69_5k s :=
  (W_seq (k := q69_4k) (fun s => q69_4_eq s)).trans (by kernel_rfl)
theorem q69_L2_go (v2 v3 v5 : AV) (h : Heap) : q69_L2 v2 v3 v5 h = (q69_5 v2 v3 v5 h) :=
  W_loop.trans ((W_congr _ _ _ (n' := q69_L2k) (fun s => q69_L2_eq s)).trans ((q69_5_eq _).trans (by kernel_rfl)))
theorem q69_6_eq (s : St) : W E 0 c_q69_6 s q69_1k xN (finP [.t 4]) = q69_L2k s :=
  W_block.trans (q69_L2_eq s)
noncomputable def q69_7 (v2 v3 : AV) (h : Heap) : OX :=
(q69_L2 v2 v3 (AV.int .i64 0) h)
noncomputable def q69_7k (s : St) : OX := q69_7 (s 2) (s 3) s.h
theorem q69_7_eq (s : St) : W E 0 c_q69_7 s q69_1k xN (finP [.t 4]) = q69_7k s :=
  (W_seq (k := q69_L2k) (fun s => q69_6_eq s)).trans (by kernel_rfl)
theorem q69_8_eq (s : St) : W E 0 c_q69_8 s (finP [.t 4]) xN (finP [.t 4]) = q69_7k s :=
  (W_seq (k := q69_1k) (fun s => q69_1_eq s)).trans (q69_7_eq s)
noncomputable def q69_9 (v2 v3 : AV) (h : Heap) : OX :=
ob (evFa 5 v3) fun v6 =>
ob (evLd false 1 v6 h) fun v7 =>
ob (evBin .lss v7 (AV.int .i64 0)) fun v8 =>
gb v8 true (evFa 0 v3) fun v10 =>
gb v8 true (evLd false 1 v10 h) fun v11 =>
gb v8 true (evBin .neq v11 (AV.int .i64 25)) fun v12 =>
ob (evPick v8 v12 (AV.bool false)) fun v13 =>
gb v13 false (evFa 8 v3) fun v15 =>
gb v13 false (evLd false 1 v15 h) fun v16 =>
gb v13 false (evLen 1 v16 h) fun v17 =>
gb v13 false (evBin .gtr v17 (AV.int .i64 21)) fun v18 =>
ob (evPick v13 (AV.bool true) v18) fun v19 =>
gb v19 false (evFa 1 v3) fun v21 =>
gb v19 false (evLd false 1 v21 h) fun v22 =>
gb v19 false (evBin .neq v22 (AV.int .i64 (-1))) fun v23 =>
gb v19 false (some v23) fun v24 =>
gb v24 true (evLd true 5 v2 h) fun v25 =>
gb v24 true (evFa 1 v3) fun v26 =>
gb v24 true (evLd false 1 v26 h) fun v27 =>
gh v24 true (callAny E (callW E) 0 none true 48 [v25, v27] h) h fun v28 h3 =>
gb v24 true (evBin .eql v28 (AV.int .i64 0)) fun v29 =>
gb v19 false (evPick v24 v29 (AV.bool false)) fun v30 =>
ob (evPick v19 (AV.bool true) v30) fun v31 =>
cnd v31
 ((expo1 h3 (AV.bool false)))
 ((q69_7 v2 v3 h3))
noncomputable def q69_9k (s : St) : OX := q69_9 (s 2) (s 3) s.h
theorem q69_9_eq (s : St) : W E 0 c_q69_9 s (finP [.t 4]) xN (finP [.t 4]) = q69_9k s :=
  (W_seq (k := q69_7k) (fun s => q69_8_eq s)).trans (by kernel_rfl)
noncomputable def q69_10 (v0 v1 : AV) (h : Heap) : OX :=
oh (newC 0 (some 0) (cellsOf v0) h) fun v2 h4 =>
oh (newC 0 (some 1) (cellsOf v1) h4) fun v3 h5 =>
(q69_9 v2 v3 h5)
noncomputable def q69_10k (s : St) : OX := q69_10 (s 0) (s 1) s.h
theorem q69_10_eq (s : St) : W E 0 c_q69_10 s (finP [.t 4]) xN (finP [.t 4]) = q69_10k s :=
  (W_seq (k := q69_9k) (fun s => q69_9_eq s)).trans (by kernel_rfl)
@[simp] theorem pure_68 : E.pure 68 = true := rfl
theorem x_q69 (v0 v1 : AV) : (callW E).p 68 [v0, v1] = q69_10 v0 v1 [⟨0, .dead⟩, ⟨0, .dead⟩] :=
  (callP_W (cf := c_q69) (by kernel_rfl) rfl).trans ((q69_10_eq _).trans (by kernel_rfl))
noncomputable def q42_1 (v0 v1 : AV) (h : Heap) : OX :=
ob (evBin .quo v1 (AV.int .i64 64)) fun v7 =>
ob (evIxs 1 v0 v7) fun v8 =>
ob (evLd false 1 v8 h) fun v9 =>
ob (evBin .rem v1 (AV.int .i64 64)) fun v11 =>
ob (evBin .shr v9 v11) fun v12 =>
ob (evBin .and v12 (AV.int .u64 1)) fun v13 =>
ob (evBin .eql v13 (AV.int .u64 1)) fun v14 =>
(expo1 h v14)
noncomputable def q42_1k (s : St) : OX := q42_1 (s 0) (s 1) s.h
theorem q42_1_eq (s : St) : W E 0 c_q42_1 s (finP [.t 4]) xN (finP [.t 4]) = q42_1k s :=
  by kernel_rfl
@[simp] theorem pure_83 : E.pure 83 = true := rfl
theorem x_q42 (v0 v1 : AV) : (callW E).p 83 [v0, v1] = q42_1 v0 v1 [] :=
  (callP_W (cf := c_q42) (by kernel_rfl) rfl).trans ((q42_1_eq _).trans (by kernel_rfl))
noncomputable def q21_1 (v1 v2 : AV) (h : Heap) : OX :=
ob (evLd true 9 v1 h) fun v138 =>
oh (callAny E (callW E) 0 none true 51 [v138] h) fun v139 h1 =>
ob (evExt 0 v139) fun v140 =>
ob (evExt 1 v139) fun v141 =>
oh (evSt 4 v2 v140 h1) fun _ h2 =>
(ob (evLd true 4 v2 h2) fun r0 =>
  expo1 h2 (.tup [r0, v141]))
noncomputable def q21_1k (s : St) : OX := q21_1 (s 1) (s 2) s.h
theorem q21_1_eq (s : St) : W E 0 c_q21_1 s (finP [.cell 2 true 4, .t 3]) xN (finP [.cell 2 true 4, .t 3]) = q21_1k s :=
  by kernel_rfl
noncomputable def q21_2 (v1 v2 v134 : AV) (h : Heap) : OX :=
cnd v134
 (ob (evBuild [(.int .i64 0), (.int .i64 0), (.int .i64 0), (.int .i64 0)] [(0, 1, (AV.int .i64 (-1))), (1, 1, (AV.int .i64 (-1))), (2, 1, (AV.int .i64 (-1))), (3, 1, (AV.int .i64 (-1)))]) fun v137 =>
oh (evSt 4 v2 v137 h) fun _ h3 =>
(ob (evLd true 4 v2 h3) fun r0 =>
  expo1 h3 (.tup [r0, (AV.bool true)])))
 ((q21_1 v1 v2 h))
noncomputable def q21_2k (s : St) : OX := q21_2 (s 1) (s 2) (s 134) s.h
theorem q21_2_eq (s : St) : W E 0 c_q21_2 s q21_1k (exitTo 0 q21_1k xN) (finP [.cell 2 true 4, .t 3]) = q21_2k s :=
  by kernel_rfl
noncomputable def q21_3 (v1 v2 v11 : AV) (h : Heap) : OX :=
ob (evBin .eql v11 (AV.int .i64 27)) fun v135 =>
cnd v135
 ((q21_2 v1 v2 v135 h))
 (ob (evBin .eql v11 (AV.int .i64 33)) fun v136 =>
(q21_2 v1 v2 v136 h))
noncomputable def q21_3k (s : St) : OX := q21_3 (s 1) (s 2) (s 11) s.h
theorem q21_3_eq (s : St) : W E 0 c_q21_3 s q21_1k (exitTo 0 q21_1k xN) (finP [.cell 2 true 4, .t 3]) = q21_3k s :=
  (W_seq (k := q21_2k) (fun s => q21_2_eq s)).trans (by kernel_rfl)
noncomputable def q21_4 (v1 v2 v11 v123 : AV) (h : Heap) : OX :=
cnd v123
 (ob (evBuild [(.int .i64 0), (.int .i64 0), (.int .i64 0), (.int .i64 0)] [(0, 1, (AV.int .i64 (-1))), (1, 1, (AV.int .i64 1)), (2, 1, (AV.int .i64 1)), (3, 1, (AV.int .i64 (-1)))]) fun v125 =>
ob (evFa 5 v1) fun v126 =>
ob (evLd false 1 v126 h) fun v127 =>
ob (evBin .geq v127 (AV.int .i64 0)) fun v128 =>
ofp (fgd v128 true (some ([], []))) fun f5 =>
gb v128 true (evFa 5 v1) fun v130 =>
ofp (fgd v128 true (some (ids1 v130, []))) fun f6 =>
gb v128 true (evLd false 1 v130 h) fun v131 =>
ofp (fgd v128 true (some ([], []))) fun f7 =>
gb v128 true (evBin .leq v131 (AV.int .i64 5)) fun v132 =>
ob (evPick v128 v132 (AV.bool false)) fun v133 =>
oh (evSt 4 v2 v125 h) fun _ h4 =>
okK (pairsOk [([], []), ([], []), (ids1 v126, []), ([], []), ([], []), f5, f6, f7, ([], []), ([], ids1 v2), ([], [])] [(6, 9)]) <|
(ob (evLd true 4 v2 h4) fun r0 =>
  expo1 h4 (.tup [r0, v133])))
 ((q21_3 v1 v2 v11 h))
noncomputable def q21_4k (s : St) : OX := q21_4 (s 1) (s 2) (s 11) (s 123) s.h
theorem q21_4_eq (s : St) : W E 0 c_q21_4 s q21_1k (exitTo 0 q21_1k xN) (finP [.cell 2 true 4, .t 3]) = q21_4k s :=
  (W_cond rfl (q21_3_eq s)).trans (by kernel_rfl)
noncomputable def q21_5 (v1 v2 v11 : AV) (h : Heap) : OX :=
ob (evBin .eql v11 (AV.int .i64 28)) fun v124 =>
(q21_4 v1 v2 v11 v124 h)
noncomputable def q21_5k (s : St) : OX := q21_5 (s 1) (s 2) (s 11) s.h
theorem q21_5_eq (s : St) : W E 0 c_q21_5 s q21_1k (exitTo 0 q21_1k xN) (finP [.cell 2 true 4, .t 3]) = q21_5k s :=
  (W_seq (k := q21_4k) (fun s => q21_4_eq s)).trans (by kernel_rfl)
noncomputable def q21_6 (v1 v2 v11 v117 : AV) (h : Heap) : OX :=
cnd v117
 (ob (evBuild [(.int .i64 0), (.int .i64 0), (.int .i64 0), (.int .i64 0)] [(0, 1, (AV.int .i64 3)), (1, 1, (AV.int .i64 1)), (2, 1, (AV.int .i64 (-1))), (3, 1, (AV.int .i64 (-1)))]) fun v119 =>
ob (evFa 7 v1) fun v120 =>
ob (evLd false 1 v120 h) fun v121 =>
oh (callAny E (callW E) 0 none true 37 [v121] h) fun v122 h5 =>
oh (evSt 4 v2 v119 h5) fun _ h6 =>
(ob (evLd true 4 v2 h6) fun r0 =>
  expo1 h6 (.tup [r0, v122])))
 ((q21_5 v1 v2 v11 h))
noncomputable def q21_6k (s : St) : OX := q21_6 (s 1) (s 2) (s 11) (s 117) s.h
theorem q21_6_eq (s : St) : W E 0 c_q21_6 s q21_1k (exitTo 0 q21_1k xN) (finP [.cell 2 true 4, .t 3]) = q21_6k s :=
  (W_cond rfl (q21_5_eq s)).trans (by kernel_rfl)
noncomputable def q21_7 (v1 v2 v11 : AV) (h : Heap) : OX :=
ob (evBin .eql v11 (AV.int .i64 21)) fun v118 =>
(q21_6 v1 v2 v11 v118 h)
noncomputable def q21_7k (s : St) : OX := q21_7 (s 1) (s 2) (s 11) s.h
theorem q21_7_eq (s : St) : W E 0 c_q21_7 s q21_1k (exitTo 0 q21_1k xN) (finP [.cell 2 true 4, .t 3]) = q21_7k s :=
  (W_seq (k := q21_6k) (fun s => q21_6_eq s)).trans (by kernel_rfl)
noncomputable def q21_8 (v1 v2 v11 v114 : AV) (h : Heap) : OX :=
cnd v114
 (ob (evBuild [(.int .i64 0), (.int .i64 0), (.int .i64 0), (.int .i64 0)] [(0, 1, (AV.int .i64 (-1))), (1, 1, (AV.int .i64 0)), (2, 1, (AV.int .i64 (-1))), (3, 1, (AV.int .i64 (-1)))]) fun v116 =>
oh (evSt 4 v2 v116 h) fun _ h7 =>
(ob (evLd true 4 v2 h7) fun r0 =>
  expo1 h7 (.tup [r0, (AV.bool true)])))
 ((q21_7 v1 v2 v11 h))
noncomputable def q21_8k (s : St) : OX := q21_8 (s 1) (s 2) (s 11) (s 114) s.h
theorem q21_8_eq (s : St) : W E 0 c_q21_8 s q21_1k (exitTo 0 q21_1k xN) (finP [.cell 2 true 4, .t 3]) = q21_8k s :=
  (W_cond rfl (q21_7_eq s)).trans (by kernel_rfl)
noncomputable def q21_9 (v1 v2 v11 : AV) (h : Heap) : OX :=
ob (evBin .eql v11 (AV.int .i64 19)) fun v115 =>
(q21_8 v1 v2 v11 v115 h)
noncomputable def q21_9k (s : St) : OX := q21_9 (s 1) (s 2) (s 11) s.h
theorem q21_9_eq (s : St) : W E 0 c_q21_9 s q21_1k (exitTo 0 q21_1k xN) (finP [.cell 2 true 4, .t 3]) = q21_9k s :=
  (W_seq (k := q21_8k) (fun s => q21_8_eq s)).trans (by kernel_rfl)
noncomputable def q21_10 (v1 v2 v11 v108 : AV) (h : Heap) : OX :=
cnd v108
 (ob (evBuild [(.int .i64 0), (.int .i64 0), (.int .i64 0), (.int .i64 0)] [(0, 1, (AV.int .i64 (-1))), (1, 1, (AV.int .i64 3)), (2, 1, (AV.int .i64 0)), (3, 1, (AV.int .i64 (-1)))]) fun v110 =>
ob (evFa 5 v1) fun v111 =>
ob (evLd false 1 v111 h) fun v112 =>
ob (evBin .geq v112 (AV.int .i64 0)) fun v113 =>
oh (evSt 4 v2 v110 h) fun _ h8 =>
okK (pairsOk [([], []), ([], []), (ids1 v111, []), ([], []), ([], ids1 v2), ([], [])] [(2, 4)]) <|
(ob (evLd true 4 v2 h8) fun r0 =>
  expo1 h8 (.tup [r0, v113])))
 ((q21_9 v1 v2 v11 h))
noncomputable def q21_10k (s : St) : OX := q21_10 (s 1) (s 2) (s 11) (s 108) s.h
theorem q21_10_eq (s : St) : W E 0 c_q21_10 s q21_1k (exitTo 0 q21_1k xN) (finP [.cell 2 true 4, .t 3]) = q21_10k s :=
  (W_cond rfl (q21_9_eq s)).trans (by kernel_rfl)
noncomputable def q21_11 (v1 v2 v11 : AV) (h : Heap) : OX :=
ob (evBin .eql v11 (AV.int .i64 17)) fun v109 =>
(q21_10 v1 v2 v11 v109 h)
noncomputable def q21_11k (s : St) : OX := q21_11 (s 1) (s 2) (s 11) s.h
theorem q21_11_eq (s : St) : W E 0 c_q21_11 s q21_1k (exitTo 0 q21_1k xN) (finP [.cell 2 true 4, .t 3]) = q21_11k s :=
  (W_seq (k := q21_10k) (fun s => q21_10_eq s)).trans (by kernel_rfl)
noncomputable def q21_12 (v1 v2 v11 v102 : AV) (h : Heap) : OX :=
cnd v102
 (ob (evBuild [(.int .i64 0), (.int .i64 0), (.int .i64 0), (.int .i64 0)] [(0, 1, (AV.int .i64 0)), (1, 1, (AV.int .i64 3)), (2, 1, (AV.int .i64 (-1))), (3, 1, (AV.int .i64 (-1)))]) fun v104 =>
ob (evFa 5 v1) fun v105 =>
ob (evLd false 1 v105 h) fun v106 =>
ob (evBin .geq v106 (AV.int .i64 0)) fun v107 =>
oh (evSt 4 v2 v104 h) fun _ h9 =>
okK (pairsOk [([], []), ([], []), (ids1 v105, []), ([], []), ([], ids1 v2), ([], [])] [(2, 4)]) <|
(ob (evLd true 4 v2 h9) fun r0 =>
  expo1 h9 (.tup [r0, v107])))
 ((q21_11 v1 v2 v11 h))
noncomputable def q21_12k (s : St) : OX := q21_12 (s 1) (s 2) (s 11) (s 102) s.h
theorem q21_12_eq (s : St) : W E 0 c_q21_12 s q21_1k (exitTo 0 q21_1k xN) (finP [.cell 2 true 4, .t 3]) = q21_12k s :=
  (W_cond rfl (q21_11_eq s)).trans (by kernel_rfl)
noncomputable def q21_13 (v1 v2 v11 : AV) (h : Heap) : OX :=
ob (evBin .eql v11 (AV.int .i64 16)) fun v103 =>
(q21_12 v1 v2 v11 v103 h)
noncomputable def q21_13k (s : St) : OX := q21_13 (s 1) (s 2) (s 11) s.h
theorem q21_13_eq (s : St) : W E 0 c_q21_13 s q21_1k (exitTo 0 q21_1k xN) (finP [.cell 2 true 4, .t 3]) = q21_13k s :=
  (W_seq (k := q21_12k) (fun s => q21_12_eq s)).trans (by kernel_rfl)
noncomputable def q21_14 (v1 v2 v11 v99 : AV) (h : Heap) : OX :=
cnd v99
 (ob (evBuild [(.int .i64 0), (.int .i64 0), (.int .i64 0), (.int .i64 0)] [(0, 1, (AV.int .i64 1)), (1, 1, (AV.int .i64 3)), (2, 1, (AV.int .i64 (-1))), (3, 1, (AV.int .i64 (-1)))]) fun v101 =>
oh (evSt 4 v2 v101 h) fun _ h10 =>
(ob (evLd true 4 v2 h10) fun r0 =>
  expo1 h10 (.tup [r0, (AV.bool true)])))
 ((q21_13 v1 v2 v11 h))
noncomputable def q21_14k (s : St) : OX := q21_14 (s 1) (s 2) (s 11) (s 99) s.h
theorem q21_14_eq (s : St) : W E 0 c_q21_14 s q21_1k (exitTo 0 q21_1k xN) (finP [.cell 2 true 4, .t 3]) = q21_14k s :=
  (W_cond rfl (q21_13_eq s)).trans (by kernel_rfl)
noncomputable def q21_15 (v1 v2 v11 : AV) (h : Heap) : OX :=
ob (evBin .eql v11 (AV.int .i64 15)) fun v100 =>
(q21_14 v1 v2 v11 v100 h)
noncomputable def q21_15k (s : St) : OX := q21_15 (s 1) (s 2) (s 11) s.h
theorem q21_15_eq (s : St) : W E 0 c_q21_15 s q21_1k (exitTo 0 q21_1k xN) (finP [.cell 2 true 4, .t 3]) = q21_15k s :=
  (W_seq (k := q21_14k) (fun s => q21_14_eq s)).trans (by kernel_rfl)
noncomputable def q21_16 (v1 v2 v11 v96 : AV) (h : Heap) : OX :=
cnd v96
 (ob (evBuild [(.int .i64 0), (.int .i64 0), (.int .i64 0), (.int .i64 0)] [(0, 1, (AV.int .i64 (-1))), (1, 1, (AV.int .i64 3)), (2, 1, (AV.int .i64 1)), (3, 1, (AV.int .i64 0))]) fun v98 =>
oh (evSt 4 v2 v98 h) fun _ h11 =>
(ob (evLd true 4 v2 h11) fun r0 =>
  expo1 h11 (.tup [r0, (AV.bool true)])))
 ((q21_15 v1 v2 v11 h))
noncomputable def q21_16k (s : St) : OX := q21_16 (s 1) (s 2) (s 11) (s 96) s.h
theorem q21_16_eq (s : St) : W E 0 c_q21_16 s q21_1k (exitTo 0 q21_1k xN) (finP [.cell 2 true 4, .t 3]) = q21_16k s :=
  (W_cond rfl (q21_15_eq s)).trans (by kernel_rfl)
noncomputable def q21_17 (v1 v2 v11 : AV) (h : Heap) : OX :=
ob (evBin .eql v11 (AV.int .i64 14)) fun v97 =>
(q21_16 v1 v2 v11 v97 h)
noncomputable def q21_17k (s : St) : OX := q21_17 (s 1) (s 2) (s 11) s.h
theorem q21_17_eq (s : St) : W E 0 c_q21_17 s q21_1k (exitTo 0 q21_1k xN) (finP [.cell 2 true 4, .t 3]) = q21_17k s :=
  (W_seq (k := q21_16k) (fun s => q21_16_eq s)).trans (by kernel_rfl)
noncomputable def q21_18 (v1 v2 v11 v93 : AV) (h : Heap) : OX :=
cnd v93
 (ob (evBuild [(.int .i64 0), (.int .i64 0), (.int .i64 0), (.int .i64 0)] [(0, 1, (AV.int .i64 0)), (1, 1, (AV.int .i64 3)), (2, 1, (AV.int .i64 1)), (3, 1, (AV.int .i64 (-1)))]) fun v95 =>
oh (evSt 4 v2 v95 h) fun _ h12 =>
(ob (evLd true 4 v2 h12) fun r0 =>
  expo1 h12 (.tup [r0, (AV.bool true)])))
 ((q21_17 v1 v2 v11 h))
noncomputable def q21_18k (s : St) : OX := q21_18 (s 1) (s 2) (s 11) (s 93) s.h
theorem q21_18_eq (s : St) : W E 0 c_q21_18 s q21_1k (exitTo 0 q21_1k xN) (finP [.cell 2 true 4, .t 3]) = q21_18k s :=
  (W_cond rfl (q21_17_eq s)).trans (by kernel_rfl)
noncomputable def q21_19 (v1 v2 v11 : AV) (h : Heap) : OX :=
ob (evBin .eql v11 (AV.int .i64 13)) fun v94 =>
(q21_18 v1 v2 v11 v94 h)
noncomputable def q21_19k (s : St) : OX := q21_19 (s 1) (s 2) (s 11) s.h
theorem q21_19_eq (s : St) : W E 0 c_q21_19 s q21_1k (exitTo 0 q21_1k xN) (finP [.cell 2 true 4, .t 3]) = q21_19k s :=
  (W_seq (k := q21_18k) (fun s => q21_18_eq s)).trans (by kernel_rfl)
noncomputable def q21_20 (v1 v2 v11 v90 : AV) (h : Heap) : OX :=
cnd v90
 (ob (evBuild [(.int .i64 0), (.int .i64 0), (.int .i64 0), (.int .i64 0)] [(0, 1, (AV.int .i64 (-1))), (1, 1, (AV.int .i64 3)), (2, 1, (AV.int .i64 3)), (3, 1, (AV.int .i64 (-1)))]) fun v92 =>
oh (evSt 4 v2 v92 h) fun _ h13 =>
(ob (evLd true 4 v2 h13) fun r0 =>
  expo1 h13 (.tup [r0, (AV.bool true)])))
 ((q21_19 v1 v2 v11 h))
noncomputable def q21_20k (s : St) : OX := q21_20 (s 1) (s 2) (s 11) (s 90) s.h
theorem q21_20_eq (s : St) : W E 0 c_q21_20 s q21_1k (exitTo 0 q21_1k xN) (finP [.cell 2 true 4, .t 3]) = q21_20k s :=
  (W_cond rfl (q21_19_eq s)).trans (by kernel_rfl)
noncomputable def q21_21 (v1 v2 v11 : AV) (h : Heap) : OX :=
ob (evBin .eql v11 (AV.int .i64 11)) fun v91 =>
(q21_20 v1 v2 v11 v91 h)
noncomputable def q21_21k (s : St) : OX := q21_21 (s 1) (s 2) (s 11) s.h
theorem q21_21_eq (s : St) : W E 0 c_q21_21 s q21_1k (exitTo 0 q21_1k xN) (finP [.cell 2 true 4, .t 3]) = q21_21k s :=
  (W_seq (k := q21_20k) (fun s => q21_20_eq s)).trans (by kernel_rfl)
noncomputable def q21_22 (v1 v2 v11 v87 : AV) (h : Heap) : OX :=
cnd v87
 (ob (evBuild [(.int .i64 0), (.int .i64 0), (.int .i64 0), (.int .i64 0)] [(0, 1, (AV.int .i64 (-1))), (1, 1, (AV.int .i64 1)), (2, 1, (AV.int .i64 (-1))), (3, 1, (AV.int .i64 (-1)))]) fun v89 =>
oh (evSt 4 v2 v89 h) fun _ h14 =>
(ob (evLd true 4 v2 h14) fun r0 =>
  expo1 h14 (.tup [r0, (AV.bool true)])))
 ((q21_21 v1 v2 v11 h))
noncomputable def q21_22k (s : St) : OX := q21_22 (s 1) (s 2) (s 11) (s 87) s.h
theorem q21_22_eq (s : St) : W E 0 c_q21_22 s q21_1k (exitTo 0 q21_1k xN) (finP [.cell 2 true 4, .t 3]) = q21_22k s :=
  (W_cond rfl (q21_21_eq s)).trans (by kernel_rfl)
noncomputable def q21_23 (v1 v2 v11 : AV) (h : Heap) : OX :=
ob (evBin .eql v11 (AV.int .i64 10)) fun v88 =>
(q21_22 v1 v2 v11 v88 h)
noncomputable def q21_23k (s : St) : OX := q21_23 (s 1) (s 2) (s 11) s.h
theorem q21_23_eq (s : St) : W E 0 c_q21_23 s q21_1k (exitTo 0 q21_1k xN) (finP [.cell 2 true 4, .t 3]) = q21_23k s :=
  (W_seq (k := q21_22k) (fun s => q21_22_eq s)).trans (by kernel_rfl)
noncomputable def q21_24 (v1 v2 v11 v84 : AV) (h : Heap) : OX :=
cnd v84
 (ob (evBuild [(.int .i64 0), (.int .i64 0), (.int .i64 0), (.int .i64 0)] [(0, 1, (AV.int .i64 (-1))), (1, 1, (AV.int .i64 3)), (2, 1, (AV.int .i64 1)), (3, 1, (AV.int .i64 (-1)))]) fun v86 =>
oh (evSt 4 v2 v86 h) fun _ h15 =>
(ob (evLd true 4 v2 h15) fun r0 =>
  expo1 h15 (.tup [r0, (AV.bool true)])))
 ((q21_23 v1 v2 v11 h))
noncomputable def q21_24k (s : St) : OX := q21_24 (s 1) (s 2) (s 11) (s 84) s.h
theorem q21_24_eq (s : St) : W E 0 c_q21_24 s q21_1k (exitTo 0 q21_1k xN) (finP [.cell 2 true 4, .t 3]) = q21_24k s :=
  (W_cond rfl (q21_23_eq s)).trans (by kernel_rfl)
noncomputable def q21_25 (v1 v2 v11 : AV) (h : Heap) : OX :=
ob (evBin .eql v11 (AV.int .i64 9)) fun v85 =>
(q21_24 v1 v2 v11 v85 h)
noncomputable def q21_25k (s : St) : OX := q21_25 (s 1) (s 2) (s 11) s.h
theorem q21_25_eq (s : St) : W E 0 c_q21_25 s q21_1k (exitTo 0 q21_1k xN) (finP [.cell 2 true 4, .t 3]) = q21_25k s :=
  (W_seq (k := q21_24k) (fun s => q21_24_eq s)).trans (by kernel_rfl)
noncomputable def q21_26 (v1 v2 v11 v78 : AV) (h : Heap) : OX :=
cnd v78
 (ob (evBuild [(.int .i64 0), (.int .i64 0), (.int .i64 0), (.int .i64 0)] [(0, 1, (AV.int .i64 1)), (1, 1, (AV.int .i64 3)), (2, 1, (AV.int .i64 (-1))), (3, 1, (AV.int .i64 (-1)))]) fun v80 =>
ob (evFa 7 v1) fun v81 =>
ob (evLd false 1 v81 h) fun v82 =>
oh (callAny E (callW E) 0 none true 37 [v82] h) fun v83 h16 =>
oh (evSt 4 v2 v80 h16) fun _ h17 =>
(ob (evLd true 4 v2 h17) fun r0 =>
  expo1 h17 (.tup [r0, v83])))
 ((q21_25 v1 v2 v11 h))
noncomputable def q21_26k (s : St) : OX := q21_26 (s 1) (s 2) (s 11) (s 78) s.h
theorem q21_26_eq (s : St) : W E 0 c_q21_26 s q21_1k (exitTo 0 q21_1k xN) (finP [.cell 2 true 4, .t 3]) = q21_26k s :=
  (W_cond rfl (q21_25_eq s)).trans (by kernel_rfl)
noncomputable def q21_27 (v1 v2 v11 : AV) (h : Heap) : OX :=
ob (evBin .eql v11 (AV.int .i64 22)) fun v79 =>
(q21_26 v1 v2 v11 v79 h)
noncomputable def q21_27k (s : St) : OX := q21_27 (s 1) (s 2) (s 11) s.h
theorem q21_27_eq (s : St) : W E 0 c_q21_27 s q21_1k (exitTo 0 q21_1k xN) (finP [.cell 2 true 4, .t 3]) = q21_27k s :=
  (W_seq (k := q21_26k) (fun s => q21_26_eq s)).trans (by kernel_rfl)
noncomputable def q21_28 (v1 v2 v11 v72 : AV) (h : Heap) : OX :=
cnd v72
 (ob (evBuild [(.int .i64 0), (.int .i64 0), (.int .i64 0), (.int .i64 0)] [(0, 1, (AV.int .i64 (-1))), (1, 1, (AV.int .i64 3)), (2, 1, (AV.int .i64 (-1))), (3, 1, (AV.int .i64 (-1)))]) fun v74 =>
ob (evFa 7 v1) fun v75 =>
ob (evLd false 1 v75 h) fun v76 =>
oh (callAny E (callW E) 0 none true 37 [v76] h) fun v77 h18 =>
oh (evSt 4 v2 v74 h18) fun _ h19 =>
(ob (evLd true 4 v2 h19) fun r0 =>
  expo1 h19 (.tup [r0, v77])))
 ((q21_27 v1 v2 v11 h))
noncomputable def q21_28k (s : St) : OX := q21_28 (s 1) (s 2) (s 11) (s 72) s.h
theorem q21_28_eq (s : St) : W E 0 c_q21_28 s q21_1k (exitTo 0 q21_1k xN) (finP [.cell 2 true 4, .t 3]) = q21_28k s :=
  (W_cond rfl (q21_27_eq s)).trans (by kernel_rfl)
noncomputable def q21_29 (v1 v2 v11 : AV) (h : Heap) : OX :=
ob (evBin .eql v11 (AV.int .i64 12)) fun v73 =>
(q21_28 v1 v2 v11 v73 h)
noncomputable def q21_29k (s : St) : OX := q21_29 (s 1) (s 2) (s 11) s.h
theorem q21_29_eq (s : St) : W E 0 c_q21_29 s q21_1k (exitTo 0 q21_1k xN) (finP [.cell 2 true 4, .t 3]) = q21_29k s :=
  (W_seq (k := q21_28k) (fun s => q21_28_eq s)).trans (by kernel_rfl)
noncomputable def q21_30 (v1 v2 v11 v68 : AV) (h : Heap) : OX :=
cnd v68
 (ob (evBuild [(.int .i64 0), (.int .i64 0), (.int .i64 0), (.int .i64 0)] [(0, 1, (AV.int .i64 (-1))), (1, 1, (AV.int .i64 3)), (2, 1, (AV.int .i64 (-1))), (3, 1, (AV.int .i64 (-1)))]) fun v71 =>
oh (evSt 4 v2 v71 h) fun _ h20 =>
(ob (evLd true 4 v2 h20) fun r0 =>
  expo1 h20 (.tup [r0, (AV.bool true)])))
 ((q21_29 v1 v2 v11 h))
noncomputable def q21_30k (s : St) : OX := q21_30 (s 1) (s 2) (s 11) (s 68) s.h
theorem q21_30_eq (s : St) : W E 0 c_q21_30 s q21_1k (exitTo 0 q21_1k xN) (finP [.cell 2 true 4, .t 3]) = q21_30k s :=
  (W_cond rfl (q21_29_eq s)).trans (by kernel_rfl)
noncomputable def q21_31 (v1 v2 v11 : AV) (h : Heap) : OX :=
ob (evBin .eql v11 (AV.int .i64 8)) fun v69 =>
cnd v69
 ((q21_30 v1 v2 v11 v69 h))
 (ob (evBin .eql v11 (AV.int .i64 31)) fun v70 =>
(q21_30 v1 v2 v11 v70 h))
noncomputable def q21_31k (s : St) : OX := q21_31 (s 1) (s 2) (s 11) s.h
theorem q21_31_eq (s : St) : W E 0 c_q21_31 s q21_1k (exitTo 0 q21_1k xN) (finP [.cell 2 true 4, .t 3]) = q21_31k s :=
  (W_seq (k := q21_30k) (fun s => q21_30_eq s)).trans (by kernel_rfl)
noncomputable def q21_32 (v1 v2 v11 v65 : AV) (h : Heap) : OX :=
cnd v65
 (ob (evBuild [(.int .i64 0), (.int .i64 0), (.int .i64 0), (.int .i64 0)] [(0, 1, (AV.int .i64 (-1))), (1, 1, (AV.int .i64 0)), (2, 1, (AV.int .i64 (-1))), (3, 1, (AV.int .i64 (-1)))]) fun v67 =>
oh (evSt 4 v2 v67 h) fun _ h21 =>
(ob (evLd true 4 v2 h21) fun r0 =>
  expo1 h21 (.tup [r0, (AV.bool true)])))
 ((q21_31 v1 v2 v11 h))
noncomputable def q21_32k (s : St) : OX := q21_32 (s 1) (s 2) (s 11) (s 65) s.h
theorem q21_32_eq (s : St) : W E 0 c_q21_32 s q21_1k (exitTo 0 q21_1k xN) (finP [.cell 2 true 4, .t 3]) = q21_32k s :=
  (W_cond rfl (q21_31_eq s)).trans (by kernel_rfl)
noncomputable def q21_33 (v1 v2 v11 : AV) (h : Heap) : OX :=
ob (evBin .eql v11 (AV.int .i64 7)) fun v66 =>
(q21_32 v1 v2 v11 v66 h)
noncomputable def q21_33k (s : St) : OX := q21_33 (s 1) (s 2) (s 11) s.h
theorem q21_33_eq (s : St) : W E 0 c_q21_33 s q21_1k (exitTo 0 q21_1k xN) (finP [.cell 2 true 4, .t 3]) = q21_33k s :=
  (W_seq (k := q21_32k) (fun s => q21_32_eq s)).trans (by kernel_rfl)
noncomputable def q21_34 (v1 v2 v11 v47 : AV) (h : Heap) : OX :=
cnd v47
 (ob (evFa 5 v1) fun v50 =>
ob (evLd false 1 v50 h) fun v51 =>
oh (callAny E (callW E) 0 none true 50 [v51] h) fun v52 h22 =>
ob (evExt 0 v52) fun v53 =>
ob (evExt 1 v52) fun v54 =>
ob (evExt 2 v52) fun v55 =>
ob (evBuild [(.int .i64 0), (.int .i64 0), (.int .i64 0), (.int .i64 0)] [(0, 1, v55), (1, 1, v53), (2, 1, (AV.int .i64 (-1))), (3, 1, (AV.int .i64 (-1)))]) fun v58 =>
ob (evBin .neq v53 (AV.int .i64 0)) fun v60 =>
gb v60 true (some v54) fun v62 =>
gb v60 true (evBin .eql v62 (AV.int .i64 0)) fun v63 =>
ob (evPick v60 v63 (AV.bool false)) fun v64 =>
oh (evSt 4 v2 v58 h22) fun _ h23 =>
(ob (evLd true 4 v2 h23) fun r0 =>
  expo1 h23 (.tup [r0, v64])))
 ((q21_33 v1 v2 v11 h))
noncomputable def q21_34k (s : St) : OX := q21_34 (s 1) (s 2) (s 11) (s 47) s.h
theorem q21_34_eq (s : St) : W E 0 c_q21_34 s q21_1k (exitTo 0 q21_1k xN) (finP [.cell 2 true 4, .t 3]) = q21_34k s :=
  (W_cond rfl (q21_33_eq s)).trans (by kernel_rfl)
noncomputable def q21_35 (v1 v2 v11 : AV) (h : Heap) : OX :=
ob (evBin .eql v11 (AV.int .i64 6)) fun v48 =>
(q21_34 v1 v2 v11 v48 h)
noncomputable def q21_35k (s : St) : OX := q21_35 (s 1) (s 2) (s 11) s.h
theorem q21_35_eq (s : St) : W E 0 c_q21_35 s q21_1k (exitTo 0 q21_1k xN) (finP [.cell 2 true 4, .t 3]) = q21_35k s :=
  (W_seq (k := q21_34k) (fun s => q21_34_eq s)).trans (by kernel_rfl)
noncomputable def q21_36 (v1 v2 v11 v25 : AV) (h : Heap) : OX :=
cnd v25
 (ob (evFa 5 v1) fun v28 =>
ob (evLd false 1 v28 h) fun v29 =>
oh (callAny E (callW E) 0 none true 50 [v29] h) fun v30 h24 =>
ob (evExt 0 v30) fun v31 =>
ob (evExt 1 v30) fun v32 =>
ob (evExt 2 v30) fun v33 =>
ob (evBuild [(.int .i64 0), (.int .i64 0), (.int .i64 0), (.int .i64 0)] [(0, 1, v33), (1, 1, v31), (2, 1, v32), (3, 1, (AV.int .i64 (-1)))]) fun v37 =>
ob (evFa 5 v1) fun v38 =>
ob (evLd false 1 v38 h24) fun v39 =>
ob (evFa 5 v1) fun v40 =>
ob (evLd false 1 v40 h24) fun v41 =>
ob (evBin .eql v39 v41) fun v42 =>
gb v42 true (some v32) fun v44 =>
gb v42 true (evBin .neq v44 (AV.int .i64 0)) fun v45 =>
ob (evPick v42 v45 (AV.bool false)) fun v46 =>
oh (evSt 4 v2 v37 h24) fun _ h25 =>
(ob (evLd true 4 v2 h25) fun r0 =>
  expo1 h25 (.tup [r0, v46])))
 ((q21_35 v1 v2 v11 h))
noncomputable def q21_36k (s : St) : OX := q21_36 (s 1) (s 2) (s 11) (s 25) s.h
theorem q21_36_eq (s : St) : W E 0 c_q21_36 s q21_1k (exitTo 0 q21_1k xN) (finP [.cell 2 true 4, .t 3]) = q21_36k s :=
  (W_cond rfl (q21_35_eq s)).trans (by kernel_rfl)
noncomputable def q21_37 (v1 v2 v11 : AV) (h : Heap) : OX :=
ob (evBin .eql v11 (AV.int .i64 5)) fun v26 =>
(q21_36 v1 v2 v11 v26 h)
noncomputable def q21_37k (s : St) : OX := q21_37 (s 1) (s 2) (s 11) s.h
theorem q21_37_eq (s : St) : W E 0 c_q21_37 s q21_1k (exitTo 0 q21_1k xN) (finP [.cell 2 true 4, .t 3]) = q21_37k s :=
  (W_seq (k := q21_36k) (fun s => q21_36_eq s)).trans (by kernel_rfl)
noncomputable def q21_38 (v1 v2 v11 v22 : AV) (h : Heap) : OX :=
cnd v22
 (ob (evBuild [(.int .i64 0), (.int .i64 0), (.int .i64 0), (.int .i64 0)] [(0, 1, (AV.int .i64 0)), (1, 1, (AV.int .i64 0)), (2, 1, (AV.int .i64 (-1))), (3, 1, (AV.int .i64 (-1)))]) fun v24 =>
oh (evSt 4 v2 v24 h) fun _ h26 =>
(ob (evLd true 4 v2 h26) fun r0 =>
  expo1 h26 (.tup [r0, (AV.bool true)])))
 ((q21_37 v1 v2 v11 h))
noncomputable def q21_38k (s : St) : OX := q21_38 (s 1) (s 2) (s 11) (s 22) s.h
theorem q21_38_eq (s : St) : W E 0 c_q21_38 s q21_1k (exitTo 0 q21_1k xN) (finP [.cell 2 true 4, .t 3]) = q21_38k s :=
  (W_cond rfl (q21_37_eq s)).trans (by kernel_rfl)
noncomputable def q21_39 (v1 v2 v11 : AV) (h : Heap) : OX :=
ob (evBin .eql v11 (AV.int .i64 4)) fun v23 =>
(q21_38 v1 v2 v11 v23 h)
noncomputable def q21_39k (s : St) : OX := q21_39 (s 1) (s 2) (s 11) s.h
theorem q21_39_eq (s : St) : W E 0 c_q21_39 s q21_1k (exitTo 0 q21_1k xN) (finP [.cell 2 true 4, .t 3]) = q21_39k s :=
  (W_seq (k := q21_38k) (fun s => q21_38_eq s)).trans (by kernel_rfl)
noncomputable def q21_40 (v1 v2 v11 v16 : AV) (h : Heap) : OX :=
cnd v16
 (ob (evBuild [(.int .i64 0), (.int .i64 0), (.int .i64 0), (.int .i64 0)] [(0, 1, (AV.int .i64 3)), (1, 1, (AV.int .i64 (-1))), (2, 1, (AV.int .i64 (-1))), (3, 1, (AV.int .i64 (-1)))]) fun v21 =>
oh (evSt 4 v2 v21 h) fun _ h27 =>
(ob (evLd true 4 v2 h27) fun r0 =>
  expo1 h27 (.tup [r0, (AV.bool true)])))
 ((q21_39 v1 v2 v11 h))
noncomputable def q21_40k (s : St) : OX := q21_40 (s 1) (s 2) (s 11) (s 16) s.h
theorem q21_40_eq (s : St) : W E 0 c_q21_40 s q21_1k (exitTo 0 q21_1k xN) (finP [.cell 2 true 4, .t 3]) = q21_40k s :=
  (W_cond rfl (q21_39_eq s)).trans (by kernel_rfl)
noncomputable def q21_41 (v1 v2 v11 : AV) (h : Heap) : OX :=
ob (evBin .eql v11 (AV.int .i64 2)) fun v17 =>
cnd v17
 ((q21_40 v1 v2 v11 v17 h))
 (ob (evBin .eql v11 (AV.int .i64 3)) fun v18 =>
cnd v18
 ((q21_40 v1 v2 v11 v18 h))
 (ob (evBin .eql v11 (AV.int .i64 20)) fun v19 =>
cnd v19
 ((q21_40 v1 v2 v11 v19 h))
 (ob (evBin .eql v11 (AV.int .i64 32)) fun v20 =>
(q21_40 v1 v2 v11 v20 h))))
noncomputable def q21_41k (s : St) : OX := q21_41 (s 1) (s 2) (s 11) s.h
theorem q21_41_eq (s : St) : W E 0 c_q21_41 s q21_1k (exitTo 0 q21_1k xN) (finP [.cell 2 true 4, .t 3]) = q21_41k s :=
  (W_seq (k := q21_40k) (fun s => q21_40_eq s)).trans (by kernel_rfl)
noncomputable def q21_42 (v1 v2 v11 v12 : AV) (h : Heap) : OX :=
cnd v12
 (ob (evBuild [(.int .i64 0), (.int .i64 0), (.int .i64 0), (.int .i64 0)] [(0, 1, (AV.int .i64 0)), (1, 1, (AV.int .i64 (-1))), (2, 1, (AV.int .i64 (-1))), (3, 1, (AV.int .i64 (-1)))]) fun v15 =>
oh (evSt 4 v2 v15 h) fun _ h28 =>
(ob (evLd true 4 v2 h28) fun r0 =>
  expo1 h28 (.tup [r0, (AV.bool true)])))
 ((q21_41 v1 v2 v11 h))
noncomputable def q21_42k (s : St) : OX := q21_42 (s 1) (s 2) (s 11) (s 12) s.h
theorem q21_42_eq (s : St) : W E 0 c_q21_42 s q21_1k (exitTo 0 q21_1k xN) (finP [.cell 2 true 4, .t 3]) = q21_42k s :=
  (W_cond rfl (q21_41_eq s)).trans (by kernel_rfl)
noncomputable def q21_43 (v1 v2 v11 : AV) (h : Heap) : OX :=
ob (evBin .eql v11 (AV.int .i64 1)) fun v13 =>
cnd v13
 ((q21_42 v1 v2 v11 v13 h))
 (ob (evBin .eql v11 (AV.int .i64 18)) fun v14 =>
(q21_42 v1 v2 v11 v14 h))
noncomputable def q21_43k (s : St) : OX := q21_43 (s 1) (s 2) (s 11) s.h
theorem q21_43_eq (s : St) : W E 0 c_q21_43 s q21_1k (exitTo 0 q21_1k xN) (finP [.cell 2 true 4, .t 3]) = q21_43k s :=
  (W_seq (k := q21_42k) (fun s => q21_42_eq s)).trans (by kernel_rfl)
theorem q21_44_eq (s : St) : W E 0 c_q21_44 s q21_1k xN (finP [.cell 2 true 4, .t 3]) = q21_43k s :=
  W_block.trans (q21_43_eq s)
noncomputable def q21_45 (v1 v2 : AV) (h : Heap) : OX :=
ob (evFa 0 v1) fun v10 =>
ob (evLd false 1 v10 h) fun v11 =>
(q21_43 v1 v2 v11 h)
noncomputable def q21_45k (s : St) : OX := q21_45 (s 1) (s 2) s.h
theorem q21_45_eq (s : St) : W E 0 c_q21_45 s q21_1k xN (finP [.cell 2 true 4, .t 3]) = q21_45k s :=
  (W_seq (k := q21_43k) (fun s => q21_44_eq s)).trans (by kernel_rfl)
theorem q21_46_eq (s : St) : W E 0 c_q21_46 s (finP [.cell 2 true 4, .t 3]) xN (finP [.cell 2 true 4, .t 3]) = q21_45k s :=
  (W_seq (k := q21_1k) (fun s => q21_1_eq s)).trans (q21_45_eq s)
noncomputable def q21_47 (v0 : AV) (h : Heap) : OX :=
oh (newC 0 (some 0) (cellsOf v0) h) fun v1 h29 =>
oh (newC 0 (some 1) [(.int .i64 0), (.int .i64 0), (.int .i64 0), (.int .i64 0)] h29) fun v2 h30 =>
(q21_45 v1 v2 h30)
noncomputable def q21_47k (s : St) : OX := q21_47 (s 0) s.h
theorem q21_47_eq (s : St) : W E 0 c_q21_47 s (finP [.cell 2 true 4, .t 3]) xN (finP [.cell 2 true 4, .t 3]) = q21_47k s :=
  (W_seq (k := q21_45k) (fun s => q21_46_eq s)).trans (by kernel_rfl)
@[simp] theorem pure_47 : E.pure 47 = true := rfl
theorem x_q21 (v0 : AV) : (callW E).p 47 [v0] = q21_47 v0 [⟨0, .dead⟩, ⟨0, .dead⟩] :=
  (callP_W (cf := c_q21) (by kernel_rfl) rfl).trans ((q21_47_eq _).trans (by kernel_rfl))
noncomputable def q57_1 (v0 : AV) (h : Heap) : OX :=
ob (evBin .neq v0 (AV.str [])) fun v25 =>
gb v25 true (some v0) fun v27 =>
gb v25 true (evLen 0 v27 h) fun v28 =>
gb v25 true (evBin .leq v28 (AV.int .i64 60)) fun v29 =>
ob (evPick v25 v29 (AV.bool false)) fun v30 =>
(expo1 h v30)
noncomputable def q57_1k (s : St) : OX := q57_1 (s 0) s.h
theorem q57_1_eq (s : St) : W E 0 c_q57_1 s (finP [.t 4]) xN (finP [.t 4]) = q57_1k s :=
  by kernel_rfl
noncomputable def q57_L2 (v0 v5 v6 : AV) (h : Heap) : OX :=
  W E 0 c_q57_L2 ⟨[(0, v0), (5, v5), (6, v6)], h⟩ q57_1k (exitTo 0 q57_1k xN) (finP [.t 4])
noncomputable def q57_L2k (s : St) : OX := q57_L2 (s 0) (s 5) (s 6) s.h
theorem q57_L2_eq (s : St) : W E 0 c_q57_L2 s q57_1k (exitTo 0 q57_1k xN) (finP [.t 4]) = q57_L2k s := W_loop_live.trans (by kernel_rfl)
noncomputable def q57_3 (v0 v5 v6 : AV) (h : Heap) : OX :=
ob (evBin .add v6 (AV.int .i64 1)) fun v15 =>
(q57_L2 v0 v5 v15 h)
noncomputable def q57_3k (s : St) : OX := q57_3 (s 0) (s 5) (s 6) s.h
theorem q57_3_eq (s : St) : W E 0 c_q57_3 s q57_L2k (exitTo 0 q57_1k xN) (finP [.t 4]) = q57_3k s :=
  by kernel_rfl
noncomputable def q57_4 (v0 v5 v6 : AV) (h : Heap) : OX :=
ob (evBin .add v6 (AV.int .i64 1)) fun v20 =>
ob (evSls v0 (some v6) (some v20)) fun v21 =>
oh (callAny E (callW E) 0 none true 53 [v5, v21] h) fun v22 h1 =>
ob (evUn .not v22) fun v23 =>
cnd v23
 ((expo1 h1 (AV.bool false)))
 ((q57_3 v0 v5 v6 h1))
noncomputable def q57_4k (s : St) : OX := q57_4 (s 0) (s 5) (s 6) s.h
theorem q57_4_eq (s : St) : W E 0 c_q57_4 s q57_L2k (exitTo 0 q57_1k xN) (finP [.t 4]) = q57_4k s :=
  (W_seq (k := q57_3k) (fun s => q57_3_eq s)).trans (by kernel_rfl)
noncomputable def q57_5 (v0 v5 v6 : AV) (h : Heap) : OX :=
ob (evLen 0 v0 h) fun v12 =>
ob (evBin .lss v6 v12) fun v13 =>
cnd v13
 ((q57_4 v0 v5 v6 h))
 ((q57_1 v0 h))
noncomputable def q57_5k (s : St) : OX := q57_5 (s 0) (s 5) (s 6) s.h
theorem q57_5_eq (s : St) : W E 0 c_q57_5 s q57_L2k (exitTo 0 q57_1k xN) (finP [.t 4]) = q57_5k s :=
  (W_seq (k := q57_4k) (fun s => q57_4_eq s)).trans (by kernel_rfl)
theorem q57_L2_go (v0 v5 v6 : AV) (h : Heap) : q57_L2 v0 v5 v6 h = (q57_5 v0 v5 v6 h) :=
  W_loop.trans ((W_congr _ _ _ (n' := q57_L2k) (fun s => q57_L2_eq s)).trans ((q57_5_eq _).trans (by kernel_rfl)))
theorem q57_6_eq (s : St) : W E 0 c_q57_6 s q57_1k xN (finP [.t 4]) = q57_L2k s :=
  W_block.trans (q57_L2_eq s)
noncomputable def q57_7 (v0 v5 : AV) (h : Heap) : OX :=
(q57_L2 v0 v5 (AV.int .i64 0) h)
noncomputable def q57_7k (s : St) : OX := q57_7 (s 0) (s 5) s.h
theorem q57_7_eq (s : St) : W E 0 c_q57_7 s q57_1k xN (finP [.t 4]) = q57_7k s :=
  (W_seq (k := q57_L2k) (fun s => q57_6_eq s)).trans (by kernel_rfl)
theorem q57_8_eq (s : St) : W E 0 c_q57_8 s (finP [.t 4]) xN (finP [.t 4]) = q57_7k s :=
  (W_seq (k := q57_1k) (fun s => q57_1_eq s)).trans (q57_7_eq s)
noncomputable def q57_9 (v0 v1 v5 : AV) (h : Heap) : OX :=
cnd v1
 (ob (evBin .add v5 (AV.str [60, 62])) fun v9 =>
(q57_7 v0 v9 h))
 ((q57_7 v0 v5 h))
noncomputable def q57_9k (s : St) : OX := q57_9 (s 0) (s 1) (s 5) s.h
theorem q57_9_eq (s : St) : W E 0 c_q57_9 s (finP [.t 4]) xN (finP [.t 4]) = q57_9k s :=
  (W_seq (k := q57_7k) (fun s => q57_8_eq s)).trans (by kernel_rfl)
noncomputable def q57_10 (v0 v1 : AV) (h : Heap) : OX :=
(q57_9 v0 v1 (AV.str [97, 98, 99, 100, 101, 102, 103, 104, 105, 106, 107, 108, 109, 110, 111, 112, 113, 114, 115, 116, 117, 118, 119, 120, 121, 122, 65, 66, 67, 68, 69, 70, 71, 72, 73, 74, 75, 76, 77, 78, 79, 80, 81, 82, 83, 84, 85, 86, 87, 88, 89, 90, 48, 49, 50, 51, 52, 53, 54, 55, 56, 57, 95, 36, 47]) h)
noncomputable def q57_10k (s : St) : OX := q57_10 (s 0) (s 1) s.h
theorem q57_10_eq (s : St) : W E 0 c_q57_10 s (finP [.t 4]) xN (finP [.t 4]) = q57_10k s :=
  (W_seq (k := q57_9k) (fun s => q57_9_eq s)).trans (by kernel_rfl)
noncomputable def q57_11 (v0 v1 : AV) (h : Heap) : OX :=
(q57_10 v0 v1 h)
noncomputable def q57_11k (s : St) : OX := q57_11 (s 0) (s 1) s.h
theorem q57_11_eq (s : St) : W E 0 c_q57_11 s (finP [.t 4]) xN (finP [.t 4]) = q57_11k s :=
  (W_seq (k := q57_10k) (fun s => q57_10_eq s)).trans (by kernel_rfl)
@[simp] theorem pure_69 : E.pure 69 = true := rfl
theorem x_q57 (v0 v1 : AV) : (callW E).p 69 [v0, v1] = q57_11 v0 v1 [] :=
  (callP_W (cf := c_q57) (by kernel_rfl) rfl).trans ((q57_11_eq _).trans (by kernel_rfl))
noncomputable def q45_1 (h : Heap) : OX :=
(expo1 h (.tup [(AV.int .i64 0), (AV.int .i64 0), (AV.int .i64 0)]))
noncomputable def q45_1k (s : St) : OX := q45_1 s.h
theorem q45_1_eq (s : St) : W E 0 c_q45_1 s (finP [.t 2, .t 3, .t 4]) xN (finP [.t 2, .t 3, .t 4]) = q45_1k s :=
  by kernel_rfl
noncomputable def q45_2 (v5 v33 : AV) (h : Heap) : OX :=
cnd v33
 ((expo1 h (.tup [(AV.int .i64 1), (AV.int .i64 0), (AV.int .i64 1)])))
 (ob (evBin .eql v5 (AV.int .i64 117)) fun v39 =>
cnd v39
 ((expo1 h (.tup [(AV.int .i64 2), (AV.int .i64 0), (AV.int .i64 2)])))
 (ob (evBin .eql v5 (AV.int .i64 133)) fun v41 =>
cnd v41
 ((expo1 h (.tup [(AV.int .i64 1), (AV.int .i64 0), (AV.int .i64 2)])))
 (ob (evBin .eql v5 (AV.int .i64 136)) fun v43 =>
cnd v43
 ((expo1 h (.tup [(AV.int .i64 2), (AV.int .i64 0), (AV.int .i64 1)])))
 ((q45_1 h)))))
noncomputable def q45_2k (s : St) : OX := q45_2 (s 5) (s 33) s.h
theorem q45_2_eq (s : St) : W E 0 c_q45_2 s q45_1k (exitTo 0 q45_1k xN) (finP [.t 2, .t 3, .t 4]) = q45_2k s :=
  by kernel_rfl
noncomputable def q45_3 (v5 : AV) (h : Heap) : OX :=
ob (evBin .eql v5 (AV.int .i64 116)) fun v34 =>
cnd v34
 ((q45_2 v5 v34 h))
 (ob (evBin .eql v5 (AV.int .i64 145)) fun v35 =>
cnd v35
 ((q45_2 v5 v35 h))
 (ob (evBin .eql v5 (AV.int .i64 146)) fun v36 =>
cnd v36
 ((q45_2 v5 v36 h))
 (ob (evBin .eql v5 (AV.int .i64 147)) fun v37 =>
(q45_2 v5 v37 h))))
noncomputable def q45_3k (s : St) : OX := q45_3 (s 5) s.h
theorem q45_3_eq (s : St) : W E 0 c_q45_3 s q45_1k (exitTo 0 q45_1k xN) (finP [.t 2, .t 3, .t 4]) = q45_3k s :=
  (W_seq (k := q45_2k) (fun s => q45_2_eq s)).trans (by kernel_rfl)
noncomputable def q45_4 (v5 v31 : AV) (h : Heap) : OX :=
cnd v31
 ((expo1 h (.tup [(AV.int .i64 2), (AV.int .i64 2), (AV.int .i64 1)])))
 ((q45_3 v5 h))
noncomputable def q45_4k (s : St) : OX := q45_4 (s 5) (s 31) s.h
theorem q45_4_eq (s : St) : W E 0 c_q45_4 s q45_1k (exitTo 0 q45_1k xN) (finP [.t 2, .t 3, .t 4]) = q45_4k s :=
  (W_cond rfl (q45_3_eq s)).trans (by kernel_rfl)
noncomputable def q45_5 (v5 : AV) (h : Heap) : OX :=
ob (evBin .eql v5 (AV.int .i64 148)) fun v32 =>
(q45_4 v5 v32 h)
noncomputable def q45_5k (s : St) : OX := q45_5 (s 5) s.h
theorem q45_5_eq (s : St) : W E 0 c_q45_5 s q45_1k (exitTo 0 q45_1k xN) (finP [.t 2, .t 3, .t 4]) = q45_5k s :=
  (W_seq (k := q45_4k) (fun s => q45_4_eq s)).trans (by kernel_rfl)
noncomputable def q45_6 (v5 v27 : AV) (h : Heap) : OX :=
cnd v27
 ((expo1 h (.tup [(AV.int .i64 2), (AV.int .i64 1), (AV.int .i64 2)])))
 ((q45_5 v5 h))
noncomputable def q45_6k (s : St) : OX := q45_6 (s 5) (s 27) s.h
theorem q45_6_eq (s : St) : W E 0 c_q45_6 s q45_1k (exitTo 0 q45_1k xN) (finP [.t 2, .t 3, .t 4]) = q45_6k s :=
  (W_cond rfl (q45_5_eq s)).trans (by kernel_rfl)
noncomputable def q45_7 (v5 : AV) (h : Heap) : OX :=
ob (evBin .eql v5 (AV.int .i64 121)) fun v28 =>
cnd v28
 ((q45_6 v5 v28 h))
 (ob (evBin .eql v5 (AV.int .i64 123)) fun v29 =>
cnd v29
 ((q45_6 v5 v29 h))
 (ob (evBin .eql v5 (AV.int .i64 125)) fun v30 =>
(q45_6 v5 v30 h)))
noncomputable def q45_7k (s : St) : OX := q45_7 (s 5) s.h
theorem q45_7_eq (s : St) : W E 0 c_q45_7 s q45_1k (exitTo 0 q45_1k xN) (finP [.t 2, .t 3, .t 4]) = q45_7k s :=
  (W_seq (k := q45_6k) (fun s => q45_6_eq s)).trans (by kernel_rfl)
noncomputable def q45_8 (v5 v18 : AV) (h : Heap) : OX :=
cnd v18
 ((expo1 h (.tup [(AV.int .i64 2), (AV.int .i64 2), (AV.int .i64 2)])))
 ((q45_7 v5 h))
noncomputable def q45_8k (s : St) : OX := q45_8 (s 5) (s 18) s.h
theorem q45_8_eq (s : St) : W E 0 c_q45_8 s q45_1k (exitTo 0 q45_1k xN) (finP [.t 2, .t 3, .t 4]) = q45_8k s :=
  (W_cond rfl (q45_7_eq s)).trans (by kernel_rfl)
noncomputable def q45_9 (v5 : AV) (h : Heap) : OX :=
ob (evBin .eql v5 (AV.int .i64 97)) fun v19 =>
cnd v19
 ((q45_8 v5 v19 h))
 (ob (evBin .eql v5 (AV.int .i64 101)) fun v20 =>
cnd v20
 ((q45_8 v5 v20 h))
 (ob (evBin .eql v5 (AV.int .i64 105)) fun v21 =>
cnd v21
 ((q45_8 v5 v21 h))
 (ob (evBin .eql v5 (AV.int .i64 109)) fun v22 =>
cnd v22
 ((q45_8 v5 v22 h))
 (ob (evBin .eql v5 (AV.int .i64 113)) fun v23 =>
cnd v23
 ((q45_8 v5 v23 h))
 (ob (evBin .eql v5 (AV.int .i64 127)) fun v24 =>
cnd v24
 ((q45_8 v5 v24 h))
 (ob (evBin .eql v5 (AV.int .i64 129)) fun v25 =>
cnd v25
 ((q45_8 v5 v25 h))
 (ob (evBin .eql v5 (AV.int .i64 131)) fun v26 =>
(q45_8 v5 v26 h))))))))
noncomputable def q45_9k (s : St) : OX := q45_9 (s 5) s.h
theorem q45_9_eq (s : St) : W E 0 c_q45_9 s q45_1k (exitTo 0 q45_1k xN) (finP [.t 2, .t 3, .t 4]) = q45_9k s :=
  (W_seq (k := q45_8k) (fun s => q45_8_eq s)).trans (by kernel_rfl)
noncomputable def q45_10 (v5 v6 : AV) (h : Heap) : OX :=
cnd v6
 ((expo1 h (.tup [(AV.int .i64 1), (AV.int .i64 1), (AV.int .i64 1)])))
 ((q45_9 v5 h))
noncomputable def q45_10k (s : St) : OX := q45_10 (s 5) (s 6) s.h
theorem q45_10_eq (s : St) : W E 0 c_q45_10 s q45_1k (exitTo 0 q45_1k xN) (finP [.t 2, .t 3, .t 4]) = q45_10k s :=
  (W_cond rfl (q45_9_eq s)).trans (by kernel_rfl)
noncomputable def q45_11 (v5 : AV) (h : Heap) : OX :=
ob (evBin .eql v5 (AV.int .i64 96)) fun v7 =>
cnd v7
 ((q45_10 v5 v7 h))
 (ob (evBin .eql v5 (AV.int .i64 100)) fun v8 =>
cnd v8
 ((q45_10 v5 v8 h))
 (ob (evBin .eql v5 (AV.int .i64 104)) fun v9 =>
cnd v9
 ((q45_10 v5 v9 h))
 (ob (evBin .eql v5 (AV.int .i64 108)) fun v10 =>
cnd v10
 ((q45_10 v5 v10 h))
 (ob (evBin .eql v5 (AV.int .i64 112)) fun v11 =>
cnd v11
 ((q45_10 v5 v11 h))
 (ob (evBin .eql v5 (AV.int .i64 120)) fun v12 =>
cnd v12
 ((q45_10 v5 v12 h))
 (ob (evBin .eql v5 (AV.int .i64 122)) fun v13 =>
cnd v13
 ((q45_10 v5 v13 h))
 (ob (evBin .eql v5 (AV.int .i64 124)) fun v14 =>
cnd v14
 ((q45_10 v5 v14 h))
 (ob (evBin .eql v5 (AV.int .i64 126)) fun v15 =>
cnd v15
 ((q45_10 v5 v15 h))
 (ob (evBin .eql v5 (AV.int .i64 128)) fun v16 =>
cnd v16
 ((q45_10 v5 v16 h))
 (ob (evBin .eql v5 (AV.int .i64 130)) fun v17 =>
(q45_10 v5 v17 h)))))))))))
noncomputable def q45_11k (s : St) : OX := q45_11 (s 5) s.h
theorem q45_11_eq (s : St) : W E 0 c_q45_11 s q45_1k (exitTo 0 q45_1k xN) (finP [.t 2, .t 3, .t 4]) = q45_11k s :=
  (W_seq (k := q45_10k) (fun s => q45_10_eq s)).trans (by kernel_rfl)
theorem q45_12_eq (s : St) : W E 0 c_q45_12 s q45_1k xN (finP [.t 2, .t 3, .t 4]) = q45_11k s :=
  W_block.trans (q45_11_eq s)
noncomputable def q45_13 (v0 : AV) (h : Heap) : OX :=
(q45_11 v0 h)
noncomputable def q45_13k (s : St) : OX := q45_13 (s 0) s.h
theorem q45_13_eq (s : St) : W E 0 c_q45_13 s q45_1k xN (finP [.t 2, .t 3, .t 4]) = q45_13k s :=
  (W_seq (k := q45_11k) (fun s => q45_12_eq s)).trans (by kernel_rfl)
theorem q45_14_eq (s : St) : W E 0 c_q45_14 s (finP [.t 2, .t 3, .t 4]) xN (finP [.t 2, .t 3, .t 4]) = q45_13k s :=
  (W_seq (k := q45_1k) (fun s => q45_1_eq s)).trans (q45_13_eq s)
noncomputable def q45_15 (v0 : AV) (h : Heap) : OX :=
(q45_13 v0 h)
noncomputable def q45_15k (s : St) : OX := q45_15 (s 0) s.h
theorem q45_15_eq (s : St) : W E 0 c_q45_15 s (finP [.t 2, .t 3, .t 4]) xN (finP [.t 2, .t 3, .t 4]) = q45_15k s :=
  (W_seq (k := q45_13k) (fun s => q45_14_eq s)).trans (by kernel_rfl)
@[simp] theorem pure_50 : E.pure 50 = true := rfl
theorem x_q45 (v0 : AV) : (callW E).p 50 [v0] = q45_15 v0 [] :=
  (callP_W (cf := c_q45) (by kernel_rfl) rfl).trans ((q45_15_eq _).trans (by kernel_rfl))
noncomputable def q2_1 (v0 : AV) (h : Heap) : OX :=
ob (evBin .neq v0 (AV.str [])) fun v4 =>
gb v4 true (some v0) fun v6 =>
gh v4 true (callAny E (callW E) 0 none true 44 [v6] h) h fun v7 h1 =>
gb v4 true (some v0) fun v8 =>
gb v4 true (evLen 0 v8 h1) fun v9 =>
gb v4 true (evBin .eql v7 v9) fun v10 =>
ob (evPick v4 v10 (AV.bool false)) fun v11 =>
(expo1 h1 v11)
noncomputable def q2_1k (s : St) : OX := q2_1 (s 0) s.h
theorem q2_1_eq (s : St) : W E 0 c_q2_1 s (finP [.t 2]) xN (finP [.t 2]) = q2_1k s :=
  by kernel_rfl
@[simp] theorem pure_37 : E.pure 37 = true := rfl
theorem x_q2 (v0 : AV) : (callW E).p 37 [v0] = q2_1 v0 [] :=
  (callP_W (cf := c_q2) (by kernel_rfl) rfl).trans ((q2_1_eq _).trans (by kernel_rfl))
noncomputable def q22_1 (v2 : AV) (h : Heap) : OX :=
ob (evBuild [(.int .i64 0), (.int .i64 0), (.int .i64 0), (.int .i64 0)] []) fun v73 =>
oh (evSt 4 v2 v73 h) fun _ h1 =>
(ob (evLd true 4 v2 h1) fun r0 =>
  expo1 h1 (.tup [r0, (AV.bool false)]))
noncomputable def q22_1k (s : St) : OX := q22_1 (s 2) s.h
theorem q22_1_eq (s : St) : W E 0 c_q22_1 s (finP [.cell 2 true 4, .t 3]) xN (finP [.cell 2 true 4, .t 3]) = q22_1k s :=
  by kernel_rfl
noncomputable def q22_2 (v1 v2 v4 : AV) (h : Heap) : OX :=
ob (evBuild [(.int .i64 0), (.int .i64 0), (.int .i64 0), (.int .i64 0)] [(0, 1, (AV.int .i64 (-1))), (1, 1, (AV.int .i64 3)), (2, 1, v4), (3, 1, (AV.int .i64 (-1)))]) fun v16 =>
ob (evFa 5 v1) fun v17 =>
ob (evLd false 1 v17 h) fun v18 =>
ob (evBin .eql v18 (AV.int .i64 0)) fun v19 =>
ofp (fgd v19 false (some ([], []))) fun f6 =>
gb v19 false (evFa 5 v1) fun v21 =>
ofp (fgd v19 false (some (ids1 v21, []))) fun f7 =>
gb v19 false (evLd false 1 v21 h) fun v22 =>
ofp (fgd v19 false (some ([], []))) fun f8 =>
gb v19 false (evBin .eql v22 (AV.int .i64 1)) fun v23 =>
ob (evPick v19 (AV.bool true) v23) fun v24 =>
oh (evSt 4 v2 v16 h) fun _ h2 =>
okK (pairsOk [([], []), ([], []), ([], []), (ids1 v17, []), ([], []), ([], []), f6, f7, f8, ([], []), ([], ids1 v2), ([], [])] [(7, 10)]) <|
(ob (evLd true 4 v2 h2) fun r0 =>
  expo1 h2 (.tup [r0, v24]))
noncomputable def q22_2k (s : St) : OX := q22_2 (s 1) (s 2) (s 4) s.h
theorem q22_2_eq (s : St) : W E 0 c_q22_2 s q22_1k (exitTo 0 q22_1k xN) (finP [.cell 2 true 4, .t 3]) = q22_2k s :=
  by kernel_rfl
noncomputable def q22_3 (v1 v2 v4 : AV) (h : Heap) : OX :=
ob (evFa 3 v1) fun v12 =>
ob (evLd false 1 v12 h) fun v13 =>
ob (evBin .neq v13 (AV.int .i64 (-1))) fun v14 =>
cnd v14
 ((q22_2 v1 v2 (AV.int .i64 3) h))
 ((q22_2 v1 v2 v4 h))
noncomputable def q22_3k (s : St) : OX := q22_3 (s 1) (s 2) (s 4) s.h
theorem q22_3_eq (s : St) : W E 0 c_q22_3 s q22_1k (exitTo 0 q22_1k xN) (finP [.cell 2 true 4, .t 3]) = q22_3k s :=
  (W_seq (k := q22_2k) (fun s => q22_2_eq s)).trans (by kernel_rfl)
noncomputable def q22_4 (v1 v2 : AV) (h : Heap) : OX :=
(q22_3 v1 v2 (AV.int .i64 (-1)) h)
noncomputable def q22_4k (s : St) : OX := q22_4 (s 1) (s 2) s.h
theorem q22_4_eq (s : St) : W E 0 c_q22_4 s q22_1k (exitTo 0 q22_1k xN) (finP [.cell 2 true 4, .t 3]) = q22_4k s :=
  (W_seq (k := q22_3k) (fun s => q22_3_eq s)).trans (by kernel_rfl)
noncomputable def q22_5 (v2 v5 : AV) (h : Heap) : OX :=
ob (evBuild [(.int .i64 0), (.int .i64 0), (.int .i64 0), (.int .i64 0)] [(0, 1, (AV.int .i64 (-1))), (1, 1, v5), (2, 1, (AV.int .i64 (-1))), (3, 1, (AV.int .i64 (-1)))]) fun v31 =>
oh (evSt 4 v2 v31 h) fun _ h3 =>
(ob (evLd true 4 v2 h3) fun r0 =>
  expo1 h3 (.tup [r0, (AV.bool true)]))
noncomputable def q22_5k (s : St) : OX := q22_5 (s 2) (s 5) s.h
theorem q22_5_eq (s : St) : W E 0 c_q22_5 s q22_1k (exitTo 0 q22_1k xN) (finP [.cell 2 true 4, .t 3]) = q22_5k s :=
  by kernel_rfl
noncomputable def q22_6 (v1 v2 v5 : AV) (h : Heap) : OX :=
ob (evFa 2 v1) fun v27 =>
ob (evLd false 1 v27 h) fun v28 =>
ob (evBin .neq v28 (AV.int .i64 (-1))) fun v29 =>
cnd v29
 ((q22_5 v2 (AV.int .i64 0) h))
 ((q22_5 v2 v5 h))
noncomputable def q22_6k (s : St) : OX := q22_6 (s 1) (s 2) (s 5) s.h
theorem q22_6_eq (s : St) : W E 0 c_q22_6 s q22_1k (exitTo 0 q22_1k xN) (finP [.cell 2 true 4, .t 3]) = q22_6k s :=
  (W_seq (k := q22_5k) (fun s => q22_5_eq s)).trans (by kernel_rfl)
noncomputable def q22_7 (v1 v2 : AV) (h : Heap) : OX :=
(q22_6 v1 v2 (AV.int .i64 (-1)) h)
noncomputable def q22_7k (s : St) : OX := q22_7 (s 1) (s 2) s.h
theorem q22_7_eq (s : St) : W E 0 c_q22_7 s q22_1k (exitTo 0 q22_1k xN) (finP [.cell 2 true 4, .t 3]) = q22_7k s :=
  (W_seq (k := q22_6k) (fun s => q22_6_eq s)).trans (by kernel_rfl)
noncomputable def q22_8 (v1 v2 v6 : AV) (h : Heap) : OX :=
ob (evFa 0 v1) fun v40 =>
ob (evLd false 1 v40 h) fun v41 =>
ob (evBin .eql v41 (AV.int .i64 23)) fun v42 =>
gb v42 false (evFa 0 v1) fun v44 =>
gb v42 false (evLd false 1 v44 h) fun v45 =>
gb v42 false (evBin .eql v45 (AV.int .i64 26)) fun v46 =>
ob (evPick v42 (AV.bool true) v46) fun v47 =>
gb v47 false (evFa 8 v1) fun v49 =>
gb v47 false (evLd false 1 v49 h) fun v50 =>
gb v47 false (evLen 1 v50 h) fun v51 =>
gb v47 false (evBin .gtr v51 (AV.int .i64 0)) fun v52 =>
ob (evPick v47 (AV.bool true) v52) fun v53 =>
ob (evBuild [(.int .i64 0), (.int .i64 0), (.int .i64 0), (.int .i64 0)] [(0, 1, v6), (1, 1, (AV.int .i64 (-1))), (2, 1, (AV.int .i64 (-1))), (3, 1, (AV.int .i64 (-1)))]) fun v55 =>
ofp (fgd v53 true (some ([], []))) fun f4 =>
gb v53 true (evFa 5 v1) fun v58 =>
ofp (fgd v53 true (some (ids1 v58, []))) fun f5 =>
gb v53 true (evLd false 1 v58 h) fun v59 =>
ofp (fgd v53 true (some ([], []))) fun f6 =>
gb v53 true (evBin .geq v59 (AV.int .i64 0)) fun v60 =>
ofp (fgd v53 true (some ([], []))) fun f7 =>
gb v53 true (some v60) fun v61 =>
ofp (fgd v61 false (some ([], []))) fun f8 =>
gb v61 false (evFa 0 v1) fun v62 =>
ofp (fgd v61 false (some (ids1 v62, []))) fun f9 =>
gb v61 false (evLd false 1 v62 h) fun v63 =>
ofp (fgd v61 false (some ([], []))) fun f10 =>
gb v61 false (evBin .eql v63 (AV.int .i64 25)) fun v64 =>
ofp (fgd v53 true (some ([], []))) fun f11 =>
gb v53 true (evPick v61 (AV.bool true) v64) fun v65 =>
ob (evPick v53 v65 (AV.bool false)) fun v66 =>
ofp (fgd v66 true (some ([], []))) fun f14 =>
gb v66 true (evFa 8 v1) fun v68 =>
ofp (fgd v66 true (some (ids1 v68, []))) fun f15 =>
gb v66 true (evLd false 1 v68 h) fun v69 =>
ofp (fgd v66 true (some (ids1 v69, []))) fun f16 =>
gb v66 true (evLen 1 v69 h) fun v70 =>
ofp (fgd v66 true (some ([], []))) fun f17 =>
gb v66 true (evBin .leq v70 (AV.int .i64 21)) fun v71 =>
ob (evPick v66 v71 (AV.bool false)) fun v72 =>
oh (evSt 4 v2 v55 h) fun _ h4 =>
okK (pairsOk [([], []), ([], []), ([], []), ([], []), f4, f5, f6, f7, f8, f9, f10, f11, ([], []), ([], []), f14, f15, f16, f17, ([], []), ([], ids1 v2), ([], [])] [(15, 19), (16, 19)]) <|
(ob (evLd true 4 v2 h4) fun r0 =>
  expo1 h4 (.tup [r0, v72]))
noncomputable def q22_8k (s : St) : OX := q22_8 (s 1) (s 2) (s 6) s.h
theorem q22_8_eq (s : St) : W E 0 c_q22_8 s q22_1k (exitTo 0 q22_1k xN) (finP [.cell 2 true 4, .t 3]) = q22_8k s :=
  by kernel_rfl
noncomputable def q22_9 (v1 v2 v6 : AV) (h : Heap) : OX :=
ob (evFa 1 v1) fun v37 =>
ob (evLd false 1 v37 h) fun v38 =>
ob (evBin .neq v38 (AV.int .i64 (-1))) fun v39 =>
cnd v39
 ((q22_8 v1 v2 (AV.int .i64 0) h))
 ((q22_8 v1 v2 v6 h))
noncomputable def q22_9k (s : St) : OX := q22_9 (s 1) (s 2) (s 6) s.h
theorem q22_9_eq (s : St) : W E 0 c_q22_9 s q22_1k (exitTo 0 q22_1k xN) (finP [.cell 2 true 4, .t 3]) = q22_9k s :=
  (W_seq (k := q22_8k) (fun s => q22_8_eq s)).trans (by kernel_rfl)
noncomputable def q22_10 (v1 v2 : AV) (h : Heap) : OX :=
(q22_9 v1 v2 (AV.int .i64 (-1)) h)
noncomputable def q22_10k (s : St) : OX := q22_10 (s 1) (s 2) s.h
theorem q22_10_eq (s : St) : W E 0 c_q22_10 s q22_1k (exitTo 0 q22_1k xN) (finP [.cell 2 true 4, .t 3]) = q22_10k s :=
  (W_seq (k := q22_9k) (fun s => q22_9_eq s)).trans (by kernel_rfl)
noncomputable def q22_11 (v1 v2 v32 : AV) (h : Heap) : OX :=
cnd v32
 ((q22_10 v1 v2 h))
 ((q22_1 v2 h))
noncomputable def q22_11k (s : St) : OX := q22_11 (s 1) (s 2) (s 32) s.h
theorem q22_11_eq (s : St) : W E 0 c_q22_11 s q22_1k (exitTo 0 q22_1k xN) (finP [.cell 2 true 4, .t 3]) = q22_11k s :=
  (W_cond (q22_10_eq s) rfl).trans (by kernel_rfl)
noncomputable def q22_12 (v1 v2 v9 : AV) (h : Heap) : OX :=
ob (evBin .eql v9 (AV.int .i64 23)) fun v33 =>
cnd v33
 ((q22_11 v1 v2 v33 h))
 (ob (evBin .eql v9 (AV.int .i64 24)) fun v34 =>
cnd v34
 ((q22_11 v1 v2 v34 h))
 (ob (evBin .eql v9 (AV.int .i64 25)) fun v35 =>
cnd v35
 ((q22_11 v1 v2 v35 h))
 (ob (evBin .eql v9 (AV.int .i64 26)) fun v36 =>
(q22_11 v1 v2 v36 h))))
noncomputable def q22_12k (s : St) : OX := q22_12 (s 1) (s 2) (s 9) s.h
theorem q22_12_eq (s : St) : W E 0 c_q22_12 s q22_1k (exitTo 0 q22_1k xN) (finP [.cell 2 true 4, .t 3]) = q22_12k s :=
  (W_seq (k := q22_11k) (fun s => q22_11_eq s)).trans (by kernel_rfl)
noncomputable def q22_13 (v1 v2 v9 v25 : AV) (h : Heap) : OX :=
cnd v25
 ((q22_7 v1 v2 h))
 ((q22_12 v1 v2 v9 h))
noncomputable def q22_13k (s : St) : OX := q22_13 (s 1) (s 2) (s 9) (s 25) s.h
theorem q22_13_eq (s : St) : W E 0 c_q22_13 s q22_1k (exitTo 0 q22_1k xN) (finP [.cell 2 true 4, .t 3]) = q22_13k s :=
  (W_cond (q22_7_eq s) (q22_12_eq s)).trans (by kernel_rfl)
noncomputable def q22_14 (v1 v2 v9 : AV) (h : Heap) : OX :=
ob (evBin .eql v9 (AV.int .i64 30)) fun v26 =>
(q22_13 v1 v2 v9 v26 h)
noncomputable def q22_14k (s : St) : OX := q22_14 (s 1) (s 2) (s 9) s.h
theorem q22_14_eq (s : St) : W E 0 c_q22_14 s q22_1k (exitTo 0 q22_1k xN) (finP [.cell 2 true 4, .t 3]) = q22_14k s :=
  (W_seq (k := q22_13k) (fun s => q22_13_eq s)).trans (by kernel_rfl)
noncomputable def q22_15 (v1 v2 v9 v10 : AV) (h : Heap) : OX :=
cnd v10
 ((q22_4 v1 v2 h))
 ((q22_14 v1 v2 v9 h))
noncomputable def q22_15k (s : St) : OX := q22_15 (s 1) (s 2) (s 9) (s 10) s.h
theorem q22_15_eq (s : St) : W E 0 c_q22_15 s q22_1k (exitTo 0 q22_1k xN) (finP [.cell 2 true 4, .t 3]) = q22_15k s :=
  (W_cond (q22_4_eq s) (q22_14_eq s)).trans (by kernel_rfl)
noncomputable def q22_16 (v1 v2 v9 : AV) (h : Heap) : OX :=
ob (evBin .eql v9 (AV.int .i64 29)) fun v11 =>
(q22_15 v1 v2 v9 v11 h)
noncomputable def q22_16k (s : St) : OX := q22_16 (s 1) (s 2) (s 9) s.h
theorem q22_16_eq (s : St) : W E 0 c_q22_16 s q22_1k (exitTo 0 q22_1k xN) (finP [.cell 2 true 4, .t 3]) = q22_16k s :=
  (W_seq (k := q22_15k) (fun s => q22_15_eq s)).trans (by kernel_rfl)
theorem q22_17_eq (s : St) : W E 0 c_q22_17 s q22_1k xN (finP [.cell 2 true 4, .t 3]) = q22_16k s :=
  W_block.trans (q22_16_eq s)
noncomputable def q22_18 (v1 v2 : AV) (h : Heap) : OX :=
ob (evFa 0 v1) fun v8 =>
ob (evLd false 1 v8 h) fun v9 =>
(q22_16 v1 v2 v9 h)
noncomputable def q22_18k (s : St) : OX := q22_18 (s 1) (s 2) s.h
theorem q22_18_eq (s : St) : W E 0 c_q22_18 s q22_1k xN (finP [.cell 2 true 4, .t 3]) = q22_18k s :=
  (W_seq (k := q22_16k) (fun s => q22_17_eq s)).trans (by kernel_rfl)
theorem q22_19_eq (s : St) : W E 0 c_q22_19 s (finP [.cell 2 true 4, .t 3]) xN (finP [.cell 2 true 4, .t 3]) = q22_18k s :=
  (W_seq (k := q22_1k) (fun s => q22_1_eq s)).trans (q22_18_eq s)
noncomputable def q22_20 (v0 : AV) (h : Heap) : OX :=
oh (newC 0 (some 0) (cellsOf v0) h) fun v1 h5 =>
oh (newC 0 (some 1) [(.int .i64 0), (.int .i64 0), (.int .i64 0), (.int .i64 0)] h5) fun v2 h6 =>
(q22_18 v1 v2 h6)
noncomputable def q22_20k (s : St) : OX := q22_20 (s 0) s.h
theorem q22_20_eq (s : St) : W E 0 c_q22_20 s (finP [.cell 2 true 4, .t 3]) xN (finP [.cell 2 true 4, .t 3]) = q22_20k s :=
  (W_seq (k := q22_18k) (fun s => q22_19_eq s)).trans (by kernel_rfl)
@[simp] theorem pure_51 : E.pure 51 = true := rfl
theorem x_q22 (v0 : AV) : (callW E).p 51 [v0] = q22_20 v0 [⟨0, .dead⟩, ⟨0, .dead⟩] :=
  (callP_W (cf := c_q22) (by kernel_rfl) rfl).trans ((q22_20_eq _).trans (by kernel_rfl))
noncomputable def q3_1 (h : Heap) : OX :=
(expo1 h (AV.int .i64 0))
noncomputable def q3_1k (s : St) : OX := q3_1 s.h
theorem q3_1_eq (s : St) : W E 0 c_q3_1 s (finP [.t 2]) xN (finP [.t 2]) = q3_1k s :=
  by kernel_rfl
noncomputable def q3_L2 (v0 v3 v4 : AV) (h : Heap) : OX :=
  W E 0 c_q3_L2 ⟨[(0, v0), (3, v3), (4, v4)], h⟩ q3_1k (exitTo 3 q3_1k (exitTo 2 q3_1k xN)) (finP [.t 2])
noncomputable def q3_L2k (s : St) : OX := q3_L2 (s 0) (s 3) (s 4) s.h
theorem q3_L2_eq (s : St) : W E 0 c_q3_L2 s q3_1k (exitTo 3 q3_1k (exitTo 2 q3_1k xN)) (finP [.t 2]) = q3_L2k s := W_loop_live.trans (by kernel_rfl)
noncomputable def q3_3 (v0 v3 v4 : AV) (h : Heap) : OX :=
ob (evBin .add v4 (AV.int .i64 1)) fun v42 =>
(q3_L2 v0 v3 v42 h)
noncomputable def q3_3k (s : St) : OX := q3_3 (s 0) (s 3) (s 4) s.h
theorem q3_3_eq (s : St) : W E 0 c_q3_3 s q3_L2k (exitTo 3 q3_1k (exitTo 2 q3_1k xN)) (finP [.t 2]) = q3_3k s :=
  by kernel_rfl
noncomputable def q3_4 (h : Heap) : OX :=
(expo1 h (AV.int .i64 0))
noncomputable def q3_4k (s : St) : OX := q3_4 s.h
theorem q3_4_eq (s : St) : W E 0 c_q3_4 s q3_3k (exitTo 4 q3_3k (exitTo 3 q3_1k (exitTo 2 q3_1k xN))) (finP [.t 2]) = q3_4k s :=
  by kernel_rfl
noncomputable def q3_5 (v0 v3 v4 : AV) (h : Heap) : OX :=
ob (evBin .add v3 (AV.int .i64 1)) fun v49 =>
ob (evSls v0 (some v49) (some v4)) fun v51 =>
oh (callAny E (callW E) 0 none true 60 [v51, (AV.bool false)] h) fun v52 h1 =>
cnd v52
 (ob (evBin .add v4 (AV.int .i64 1)) fun v54 =>
(expo1 h1 v54))
 ((q3_4 h1))
noncomputable def q3_5k (s : St) : OX := q3_5 (s 0) (s 3) (s 4) s.h
theorem q3_5_eq (s : St) : W E 0 c_q3_5 s q3_3k (exitTo 4 q3_3k (exitTo 3 q3_1k (exitTo 2 q3_1k xN))) (finP [.t 2]) = q3_5k s :=
  (W_seq (k := q3_4k) (fun s => q3_4_eq s)).trans (by kernel_rfl)
noncomputable def q3_6 (v0 v3 v4 v46 : AV) (h : Heap) : OX :=
cnd v46
 ((q3_5 v0 v3 v4 h))
 ((q3_3 v0 v3 v4 h))
noncomputable def q3_6k (s : St) : OX := q3_6 (s 0) (s 3) (s 4) (s 46) s.h
theorem q3_6_eq (s : St) : W E 0 c_q3_6 s q3_3k (exitTo 4 q3_3k (exitTo 3 q3_1k (exitTo 2 q3_1k xN))) (finP [.t 2]) = q3_6k s :=
  (W_cond (q3_5_eq s) rfl).trans (by kernel_rfl)
noncomputable def q3_7 (v0 v3 v4 : AV) (h : Heap) : OX :=
ob (evIxstr v0 v4) fun v45 =>
ob (evBin .eql v45 (AV.int .u8 59)) fun v46 =>
(q3_6 v0 v3 v4 v46 h)
noncomputable def q3_7k (s : St) : OX := q3_7 (s 0) (s 3) (s 4) s.h
theorem q3_7_eq (s : St) : W E 0 c_q3_7 s q3_3k (exitTo 4 q3_3k (exitTo 3 q3_1k (exitTo 2 q3_1k xN))) (finP [.t 2]) = q3_7k s :=
  (W_seq (k := q3_6k) (fun s => q3_6_eq s)).trans (by kernel_rfl)
theorem q3_8_eq (s : St) : W E 0 c_q3_8 s q3_3k (exitTo 3 q3_1k (exitTo 2 q3_1k xN)) (finP [.t 2]) = q3_7k s :=
  W_block.trans (q3_7_eq s)
theorem q3_9_eq (s : St) : W E 0 c_q3_9 s q3_L2k (exitTo 3 q3_1k (exitTo 2 q3_1k xN)) (finP [.t 2]) = q3_7k s :=
  (W_seq (k := q3_3k) (fun s => q3_3_eq s)).trans (q3_8_eq s)
noncomputable def q3_10 (v0 v3 v4 : AV) (h : Heap) : OX :=
ob (evLen 0 v0 h) fun v39 =>
ob (evBin .lss v4 v39) fun v40 =>
cnd v40
 ((q3_7 v0 v3 v4 h))
 ((q3_1 h))
noncomputable def q3_10k (s : St) : OX := q3_10 (s 0) (s 3) (s 4) s.h
theorem q3_10_eq (s : St) : W E 0 c_q3_10 s q3_L2k (exitTo 3 q3_1k (exitTo 2 q3_1k xN)) (finP [.t 2]) = q3_10k s :=
  (W_seq (k := q3_7k) (fun s => q3_9_eq s)).trans (by kernel_rfl)
theorem q3_L2_go (v0 v3 v4 : AV) (h : Heap) : q3_L2 v0 v3 v4 h = (q3_10 v0 v3 v4 h) :=
  W_loop.trans ((W_congr _ _ _ (n' := q3_L2k) (fun s => q3_L2_eq s)).trans ((q3_10_eq _).trans (by kernel_rfl)))
theorem q3_11_eq (s : St) : W E 0 c_q3_11 s q3_1k (exitTo 2 q3_1k xN) (finP [.t 2]) = q3_L2k s :=
  W_block.trans (q3_L2_eq s)
noncomputable def q3_12 (v0 v3 : AV) (h : Heap) : OX :=
ob (evBin .add v3 (AV.int .i64 1)) fun v36 =>
(q3_L2 v0 v3 v36 h)
noncomputable def q3_12k (s : St) : OX := q3_12 (s 0) (s 3) s.h
theorem q3_12_eq (s : St) : W E 0 c_q3_12 s q3_1k (exitTo 2 q3_1k xN) (finP [.t 2]) = q3_12k s :=
  (W_seq (k := q3_L2k) (fun s => q3_11_eq s)).trans (by kernel_rfl)
noncomputable def q3_13 (v0 v3 v33 : AV) (h : Heap) : OX :=
cnd v33
 ((q3_12 v0 v3 h))
 ((q3_1 h))
noncomputable def q3_13k (s : St) : OX := q3_13 (s 0) (s 3) (s 33) s.h
theorem q3_13_eq (s : St) : W E 0 c_q3_13 s q3_1k (exitTo 2 q3_1k xN) (finP [.t 2]) = q3_13k s :=
  (W_cond (q3_12_eq s) rfl).trans (by kernel_rfl)
noncomputable def q3_14 (v0 v3 v27 : AV) (h : Heap) : OX :=
ob (evBin .eql v27 (AV.int .u8 76)) fun v34 =>
(q3_13 v0 v3 v34 h)
noncomputable def q3_14k (s : St) : OX := q3_14 (s 0) (s 3) (s 27) s.h
theorem q3_14_eq (s : St) : W E 0 c_q3_14 s q3_1k (exitTo 2 q3_1k xN) (finP [.t 2]) = q3_14k s :=
  (W_seq (k := q3_13k) (fun s => q3_13_eq s)).trans (by kernel_rfl)
noncomputable def q3_15 (v0 v3 v27 v28 : AV) (h : Heap) : OX :=
cnd v28
 (ob (evBin .add v3 (AV.int .i64 1)) fun v32 =>
(expo1 h v32))
 ((q3_14 v0 v3 v27 h))
noncomputable def q3_15k (s : St) : OX := q3_15 (s 0) (s 3) (s 27) (s 28) s.h
theorem q3_15_eq (s : St) : W E 0 c_q3_15 s q3_1k (exitTo 2 q3_1k xN) (finP [.t 2]) = q3_15k s :=
  (W_cond rfl (q3_14_eq s)).trans (by kernel_rfl)
noncomputable def q3_16 (v0 v3 v27 : AV) (h : Heap) : OX :=
ob (evBin .eql v27 (AV.int .u8 73)) fun v29 =>
cnd v29
 ((q3_15 v0 v3 v27 v29 h))
 (ob (evBin .eql v27 (AV.int .u8 74)) fun v30 =>
(q3_15 v0 v3 v27 v30 h))
noncomputable def q3_16k (s : St) : OX := q3_16 (s 0) (s 3) (s 27) s.h
theorem q3_16_eq (s : St) : W E 0 c_q3_16 s q3_1k (exitTo 2 q3_1k xN) (finP [.t 2]) = q3_16k s :=
  (W_seq (k := q3_15k) (fun s => q3_15_eq s)).trans (by kernel_rfl)
theorem q3_17_eq (s : St) : W E 0 c_q3_17 s q3_1k xN (finP [.t 2]) = q3_16k s :=
  W_block.trans (q3_16_eq s)
noncomputable def q3_18 (v0 v3 : AV) (h : Heap) : OX :=
ob (evIxstr v0 v3) fun v27 =>
(q3_16 v0 v3 v27 h)
noncomputable def q3_18k (s : St) : OX := q3_18 (s 0) (s 3) s.h
theorem q3_18_eq (s : St) : W E 0 c_q3_18 s q3_1k xN (finP [.t 2]) = q3_18k s :=
  (W_seq (k := q3_16k) (fun s => q3_17_eq s)).trans (by kernel_rfl)
theorem q3_19_eq (s : St) : W E 0 c_q3_19 s (finP [.t 2]) xN (finP [.t 2]) = q3_18k s :=
  (W_seq (k := q3_1k) (fun s => q3_1_eq s)).trans (q3_18_eq s)
noncomputable def q3_20 (v0 v3 : AV) (h : Heap) : OX :=
ob (evBin .gtr v3 (AV.int .i64 8)) fun v18 =>
gb v18 false (some v3) fun v20 =>
gb v18 false (some v0) fun v21 =>
gb v18 false (evLen 0 v21 h) fun v22 =>
gb v18 false (evBin .eql v20 v22) fun v23 =>
ob (evPick v18 (AV.bool true) v23) fun v24 =>
cnd v24
 ((expo1 h (AV.int .i64 0)))
 ((q3_18 v0 v3 h))
noncomputable def q3_20k (s : St) : OX := q3_20 (s 0) (s 3) s.h
theorem q3_20_eq (s : St) : W E 0 c_q3_20 s (finP [.t 2]) xN (finP [.t 2]) = q3_20k s :=
  (W_seq (k := q3_18k) (fun s => q3_19_eq s)).trans (by kernel_rfl)
noncomputable def q3_L21 (v0 v3 : AV) (h : Heap) : OX :=
  W E 0 c_q3_L21 ⟨[(0, v0), (3, v3)], h⟩ q3_20k (exitTo 0 q3_20k xN) (finP [.t 2])
noncomputable def q3_L21k (s : St) : OX := q3_L21 (s 0) (s 3) s.h
theorem q3_L21_eq (s : St) : W E 0 c_q3_L21 s q3_20k (exitTo 0 q3_20k xN) (finP [.t 2]) = q3_L21k s := W_loop_live.trans (by kernel_rfl)
noncomputable def q3_22 (v0 v3 : AV) (h : Heap) : OX :=
ob (evBin .add v3 (AV.int .i64 1)) fun v16 =>
(q3_L21 v0 v16 h)
noncomputable def q3_22k (s : St) : OX := q3_22 (s 0) (s 3) s.h
theorem q3_22_eq (s : St) : W E 0 c_q3_22 s q3_L21k (exitTo 0 q3_20k xN) (finP [.t 2]) = q3_22k s :=
  by kernel_rfl
noncomputable def q3_23 (v0 v3 : AV) (h : Heap) : OX :=
ob (evLen 0 v0 h) fun v7 =>
ob (evBin .lss v3 v7) fun v8 =>
gb v8 true (some v0) fun v10 =>
gb v8 true (some v3) fun v11 =>
gb v8 true (evIxstr v10 v11) fun v12 =>
gb v8 true (evBin .eql v12 (AV.int .u8 91)) fun v13 =>
ob (evPick v8 v13 (AV.bool false)) fun v14 =>
cnd v14
 ((q3_22 v0 v3 h))
 ((q3_20 v0 v3 h))
noncomputable def q3_23k (s : St) : OX := q3_23 (s 0) (s 3) s.h
theorem q3_23_eq (s : St) : W E 0 c_q3_23 s q3_L21k (exitTo 0 q3_20k xN) (finP [.t 2]) = q3_23k s :=
  (W_seq (k := q3_22k) (fun s => q3_22_eq s)).trans (by kernel_rfl)
theorem q3_L21_go (v0 v3 : AV) (h : Heap) : q3_L21 v0 v3 h = (q3_23 v0 v3 h) :=
  W_loop.trans ((W_congr _ _ _ (n' := q3_L21k) (fun s => q3_L21_eq s)).trans ((q3_23_eq _).trans (by kernel_rfl)))
theorem q3_24_eq (s : St) : W E 0 c_q3_24 s q3_20k xN (finP [.t 2]) = q3_L21k s :=
  W_block.trans (q3_L21_eq s)
theorem q3_25_eq (s : St) : W E 0 c_q3_25 s (finP [.t 2]) xN (finP [.t 2]) = q3_L21k s :=
  (W_seq (k := q3_20k) (fun s => q3_20_eq s)).trans (q3_24_eq s)
noncomputable def q3_26 (v0 : AV) (h : Heap) : OX :=
(q3_L21 v0 (AV.int .i64 0) h)
noncomputable def q3_26k (s : St) : OX := q3_26 (s 0) s.h
theorem q3_26_eq (s : St) : W E 0 c_q3_26 s (finP [.t 2]) xN (finP [.t 2]) = q3_26k s :=
  (W_seq (k := q3_L21k) (fun s => q3_25_eq s)).trans (by kernel_rfl)
noncomputable def q3_27 (v0 : AV) (h : Heap) : OX :=
(q3_26 v0 h)
noncomputable def q3_27k (s : St) : OX := q3_27 (s 0) s.h
theorem q3_27_eq (s : St) : W E 0 c_q3_27 s (finP [.t 2]) xN (finP [.t 2]) = q3_27k s :=
  (W_seq (k := q3_26k) (fun s => q3_26_eq s)).trans (by kernel_rfl)
@[simp] theorem pure_44 : E.pure 44 = true := rfl
theorem x_q3 (v0 : AV) : (callW E).p 44 [v0] = q3_27 v0 [] :=
  (callP_W (cf := c_q3) (by kernel_rfl) rfl).trans ((q3_27_eq _).trans (by kernel_rfl))
noncomputable def q1_1 (h : Heap) : OX :=
(expo1 h (AV.bool true))
noncomputable def q1_1k (s : St) : OX := q1_1 s.h
theorem q1_1_eq (s : St) : W E 0 c_q1_1 s (finP [.t 4]) xN (finP [.t 4]) = q1_1k s :=
  by kernel_rfl
noncomputable def q1_L2 (v1 v17 v18 v19 : AV) (h : Heap) : OX :=
  W E 0 c_q1_L2 ⟨[(1, v1), (17, v17), (18, v18), (19, v19)], h⟩ q1_1k (exitTo 0 q1_1k xN) (finP [.t 4])
noncomputable def q1_L2k (s : St) : OX := q1_L2 (s 1) (s 17) (s 18) (s 19) s.h
theorem q1_L2_eq (s : St) : W E 0 c_q1_L2 s q1_1k (exitTo 0 q1_1k xN) (finP [.t 4]) = q1_L2k s := W_loop_live.trans (by kernel_rfl)
noncomputable def q1_3 (v1 v17 v18 v19 : AV) (h : Heap) : OX :=
ob (evBin .add v19 (AV.int .i64 1)) fun v71 =>
(q1_L2 v1 v17 v18 v71 h)
noncomputable def q1_3k (s : St) : OX := q1_3 (s 1) (s 17) (s 18) (s 19) s.h
theorem q1_3_eq (s : St) : W E 0 c_q1_3 s q1_L2k (exitTo 0 q1_1k xN) (finP [.t 4]) = q1_3k s :=
  by kernel_rfl
noncomputable def q1_4 (v1 v17 v18 v19 : AV) (h : Heap) : OX :=
ob (evIxs 1 v17 v19) fun v21 =>
ob (evLd false 1 v21 h) fun v22 =>
ob (evBin .geq v22 (AV.int .u8 97)) fun v24 =>
gb v24 true (some v22) fun v26 =>
gb v24 true (evBin .leq v26 (AV.int .u8 122)) fun v27 =>
ob (evPick v24 v27 (AV.bool false)) fun v28 =>
gb v28 false (some v22) fun v30 =>
gb v28 false (evBin .geq v30 (AV.int .u8 65)) fun v31 =>
gb v28 false (some v31) fun v32 =>
gb v32 true (some v22) fun v33 =>
gb v32 true (evBin .leq v33 (AV.int .u8 90)) fun v34 =>
gb v28 false (evPick v32 v34 (AV.bool false)) fun v35 =>
ob (evPick v28 (AV.bool true) v35) fun v36 =>
gb v36 false (some v22) fun v38 =>
gb v36 false (evBin .geq v38 (AV.int .u8 48)) fun v39 =>
gb v36 false (some v39) fun v40 =>
gb v40 true (some v22) fun v41 =>
gb v40 true (evBin .leq v41 (AV.int .u8 57)) fun v42 =>
gb v36 false (evPick v40 v42 (AV.bool false)) fun v43 =>
ob (evPick v36 (AV.bool true) v43) fun v44 =>
gb v44 false (some v22) fun v46 =>
gb v44 false (evBin .eql v46 (AV.int .u8 95)) fun v47 =>
ob (evPick v44 (AV.bool true) v47) fun v48 =>
gb v48 false (some v22) fun v50 =>
gb v48 false (evBin .eql v50 (AV.int .u8 36)) fun v51 =>
ob (evPick v48 (AV.bool true) v51) fun v52 =>
gb v52 false (some v22) fun v54 =>
gb v52 false (evBin .eql v54 (AV.int .u8 47)) fun v55 =>
ob (evPick v52 (AV.bool true) v55) fun v56 =>
ob (evUn .not v56) fun v58 =>
gb v58 true (some v1) fun v60 =>
gb v58 true (some v60) fun v61 =>
gb v61 true (some v22) fun v62 =>
gb v61 true (evBin .eql v62 (AV.int .u8 60)) fun v63 =>
gb v61 true (some v63) fun v64 =>
gb v64 false (some v22) fun v65 =>
gb v64 false (evBin .eql v65 (AV.int .u8 62)) fun v66 =>
gb v61 true (evPick v64 (AV.bool true) v66) fun v67 =>
gb v58 true (evPick v61 v67 (AV.bool false)) fun v68 =>
gb v58 true (evUn .not v68) fun v69 =>
ob (evPick v58 v69 (AV.bool false)) fun v70 =>
cnd v70
 ((expo1 h (AV.bool false)))
 ((q1_3 v1 v17 v18 v19 h))
noncomputable def q1_4k (s : St) : OX := q1_4 (s 1) (s 17) (s 18) (s 19) s.h
theorem q1_4_eq (s : St) : W E 0 c_q1_4 s q1_L2k (exitTo 0 q1_1k xN) (finP [.t 4]) = q1_4k s :=
  (W_seq (k := q1_3k) (fun s => q1_3_eq s)).trans (by kernel_rfl)
noncomputable def q1_5 (v1 v17 v18 v19 v20 : AV) (h : Heap) : OX :=
cnd v20
 ((q1_4 v1 v17 v18 v19 h))
 ((q1_1 h))
noncomputable def q1_5k (s : St) : OX := q1_5 (s 1) (s 17) (s 18) (s 19) (s 20) s.h
theorem q1_5_eq (s : St) : W E 0 c_q1_5 s q1_L2k (exitTo 0 q1_1k xN) (finP [.t 4]) = q1_5k s :=
  (W_seq (k := q1_4k) (fun s => q1_4_eq s)).trans (by kernel_rfl)
noncomputable def q1_6 (v1 v17 v18 v19 : AV) (h : Heap) : OX :=
ob (evBin .lss v19 v18) fun v20 =>
(q1_5 v1 v17 v18 v19 v20 h)
noncomputable def q1_6k (s : St) : OX := q1_6 (s 1) (s 17) (s 18) (s 19) s.h
theorem q1_6_eq (s : St) : W E 0 c_q1_6 s q1_L2k (exitTo 0 q1_1k xN) (finP [.t 4]) = q1_6k s :=
  (W_seq (k := q1_5k) (fun s => q1_5_eq s)).trans (by kernel_rfl)
theorem q1_L2_go (v1 v17 v18 v19 : AV) (h : Heap) : q1_L2 v1 v17 v18 v19 h = (q1_6 v1 v17 v18 v19 h) :=
  W_loop.trans ((W_congr _ _ _ (n' := q1_L2k) (fun s => q1_L2_eq s)).trans ((q1_6_eq _).trans (by kernel_rfl)))
theorem q1_7_eq (s : St) : W E 0 c_q1_7 s q1_1k xN (finP [.t 4]) = q1_L2k s :=
  W_block.trans (q1_L2_eq s)
noncomputable def q1_8 (v0 v1 : AV) (h : Heap) : OX :=
oh (s2bC 0 (some 0) v0 h) fun v17 h1 =>
ob (evLen 1 v17 h1) fun v18 =>
(q1_L2 v1 v17 v18 (AV.int .i64 0) h1)
noncomputable def q1_8k (s : St) : OX := q1_8 (s 0) (s 1) s.h
theorem q1_8_eq (s : St) : W E 0 c_q1_8 s q1_1k xN (finP [.t 4]) = q1_8k s :=
  (W_seq (k := q1_L2k) (fun s => q1_7_eq s)).trans (by kernel_rfl)
theorem q1_9_eq (s : St) : W E 0 c_q1_9 s (finP [.t 4]) xN (finP [.t 4]) = q1_8k s :=
  (W_seq (k := q1_1k) (fun s => q1_1_eq s)).trans (q1_8_eq s)
noncomputable def q1_10 (v0 v1 : AV) (h : Heap) : OX :=
ob (evLen 0 v0 h) fun v9 =>
ob (evBin .lss v9 (AV.int .i64 1)) fun v10 =>
gb v10 false (some v0) fun v12 =>
gb v10 false (evLen 0 v12 h) fun v13 =>
gb v10 false (evBin .gtr v13 (AV.int .i64 60)) fun v14 =>
ob (evPick v10 (AV.bool true) v14) fun v15 =>
cnd v15
 ((expo1 h (AV.bool false)))
 ((q1_8 v0 v1 h))
noncomputable def q1_10k (s : St) : OX := q1_10 (s 0) (s 1) s.h
theorem q1_10_eq (s : St) : W E 0 c_q1_10 s (finP [.t 4]) xN (finP [.t 4]) = q1_10k s :=
  (W_seq (k := q1_8k) (fun s => q1_9_eq s)).trans (by kernel_rfl)
noncomputable def q1_11 (v0 v1 : AV) (h : Heap) : OX :=
(q1_10 v0 v1 h)
noncomputable def q1_11k (s : St) : OX := q1_11 (s 0) (s 1) s.h
theorem q1_11_eq (s : St) : W E 0 c_q1_11 s (finP [.t 4]) xN (finP [.t 4]) = q1_11k s :=
  (W_seq (k := q1_10k) (fun s => q1_10_eq s)).trans (by kernel_rfl)
@[simp] theorem pure_60 : E.pure 60 = true := rfl
theorem x_q1 (v0 v1 : AV) : (callW E).p 60 [v0, v1] = q1_11 v0 v1 [⟨0, .dead⟩] :=
  (callP_W (cf := c_q1) (by kernel_rfl) rfl).trans ((q1_11_eq _).trans (by kernel_rfl))
end Go.Vm
