/- Functions of the machine as plain functions that go on with what follows. -/
import Derived.Test.YthemfgeagohdhaaSEnv
set_option linter.unusedSimpArgs false
set_option linter.unusedVariables false
set_option linter.unusedSectionVars false
namespace Go.Vm
noncomputable def q53_1 (v1 v7 : AV) (h : Heap) : OX :=
ob (evLd true 5 v1 h) fun v60 =>
oh (callAny E (callW E) 0 none true 77 [v60] h) fun v61 h1 =>
ob (evEqb false v7 v61) fun v62 =>
(expo1 h1 v62)
noncomputable def q53_1k (s : St) : OX := q53_1 (s 1) (s 7) s.h
theorem q53_1_eq (s : St) : W E 0 c_q53_1 s (finP [.t 2]) xN (finP [.t 2]) = q53_1k s :=
  by kernel_rfl
noncomputable def q53_L2 (v1 v3 v4 v7 v41 v42 : AV) (h : Heap) : OX :=
  W E 0 c_q53_L2 ⟨[(1, v1), (3, v3), (4, v4), (7, v7), (41, v41), (42, v42)], h⟩ q53_1k (exitTo 2 q53_1k xN) (finP [.t 2])
noncomputable def q53_L2k (s : St) : OX := q53_L2 (s 1) (s 3) (s 4) (s 7) (s 41) (s 42) s.h
theorem q53_L2_eq (s : St) : W E 0 c_q53_L2 s q53_1k (exitTo 2 q53_1k xN) (finP [.t 2]) = q53_L2k s := W_loop_live.trans (by kernel_rfl)
noncomputable def q53_3 (v1 v3 v4 v7 v41 v42 : AV) (h : Heap) : OX :=
ob (evBin .add v42 (AV.int .i64 1)) fun v58 =>
(q53_L2 v1 v3 v4 v7 v41 v58 h)
noncomputable def q53_3k (s : St) : OX := q53_3 (s 1) (s 3) (s 4) (s 7) (s 41) (s 42) s.h
theorem q53_3_eq (s : St) : W E 0 c_q53_3 s q53_L2k (exitTo 2 q53_1k xN) (finP [.t 2]) = q53_3k s :=
  by kernel_rfl
noncomputable def q53_4 (v1 v3 v4 v7 v41 v42 : AV) (h : Heap) : OX :=
gb v7 true (some v4) fun v47 =>
gb v7 true (some v42) fun v48 =>
gb v7 true (evMget false [0] (.int .i64 0) false v47 v48 h) fun v49 =>
gb v7 true (evBin .eql v49 (AV.int .i64 1)) fun v50 =>
gb v7 true (some v50) fun v51 =>
gb v51 false (some v3) fun v52 =>
gb v51 false (some v42) fun v53 =>
gh v51 false (callAny E (callW E) 0 none true 76 [v52, (AV.int .i64 0), v53] h) h fun v54 h2 =>
gb v51 false (evUn .not v54) fun v55 =>
gb v7 true (evPick v51 (AV.bool true) v55) fun v56 =>
ob (evPick v7 v56 (AV.bool false)) fun v57 =>
(q53_3 v1 v3 v4 v57 v41 v42 h2)
noncomputable def q53_4k (s : St) : OX := q53_4 (s 1) (s 3) (s 4) (s 7) (s 41) (s 42) s.h
theorem q53_4_eq (s : St) : W E 0 c_q53_4 s q53_L2k (exitTo 2 q53_1k xN) (finP [.t 2]) = q53_4k s :=
  (W_seq (k := q53_3k) (fun s => q53_3_eq s)).trans (by kernel_rfl)
noncomputable def q53_5 (v1 v3 v4 v7 v41 v42 v43 : AV) (h : Heap) : OX :=
cnd v43
 ((q53_4 v1 v3 v4 v7 v41 v42 h))
 ((q53_1 v1 v7 h))
noncomputable def q53_5k (s : St) : OX := q53_5 (s 1) (s 3) (s 4) (s 7) (s 41) (s 42) (s 43) s.h
theorem q53_5_eq (s : St) : W E 0 c_q53_5 s q53_L2k (exitTo 2 q53_1k xN) (finP [.t 2]) = q53_5k s :=
  (W_seq (k := q53_4k) (fun s => q53_4_eq s)).trans (by kernel_rfl)
noncomputable def q53_6 (v1 v3 v4 v7 v41 v42 : AV) (h : Heap) : OX :=
ob (evBin .lss v42 v41) fun v43 =>
(q53_5 v1 v3 v4 v7 v41 v42 v43 h)
noncomputable def q53_6k (s : St) : OX := q53_6 (s 1) (s 3) (s 4) (s 7) (s 41) (s 42) s.h
theorem q53_6_eq (s : St) : W E 0 c_q53_6 s q53_L2k (exitTo 2 q53_1k xN) (finP [.t 2]) = q53_6k s :=
  (W_seq (k := q53_5k) (fun s => q53_5_eq s)).trans (by kernel_rfl)
theorem q53_L2_go (v1 v3 v4 v7 v41 v42 : AV) (h : Heap) : q53_L2 v1 v3 v4 v7 v41 v42 h = (q53_6 v1 v3 v4 v7 v41 v42 h) :=
  W_loop.trans ((W_congr _ _ _ (n' := q53_L2k) (fun s => q53_L2_eq s)).trans ((q53_6_eq _).trans (by kernel_rfl)))
theorem q53_7_eq (s : St) : W E 0 c_q53_7 s q53_1k xN (finP [.t 2]) = q53_L2k s :=
  W_block.trans (q53_L2_eq s)
noncomputable def q53_8 (v1 v3 v4 v7 : AV) (h : Heap) : OX :=
ob (evFa 0 v1) fun v39 =>
ob (evLd false 1 v39 h) fun v40 =>
ob (evLen 1 v40 h) fun v41 =>
(q53_L2 v1 v3 v4 v7 v41 (AV.int .i64 0) h)
noncomputable def q53_8k (s : St) : OX := q53_8 (s 1) (s 3) (s 4) (s 7) s.h
theorem q53_8_eq (s : St) : W E 0 c_q53_8 s q53_1k xN (finP [.t 2]) = q53_8k s :=
  (W_seq (k := q53_L2k) (fun s => q53_7_eq s)).trans (by kernel_rfl)
theorem q53_9_eq (s : St) : W E 0 c_q53_9 s (finP [.t 2]) xN (finP [.t 2]) = q53_8k s :=
  (W_seq (k := q53_1k) (fun s => q53_1_eq s)).trans (q53_8_eq s)
noncomputable def q53_10 (v1 v3 v4 : AV) (h : Heap) : OX :=
(q53_8 v1 v3 v4 (AV.bool true) h)
noncomputable def q53_10k (s : St) : OX := q53_10 (s 1) (s 3) (s 4) s.h
theorem q53_10_eq (s : St) : W E 0 c_q53_10 s (finP [.t 2]) xN (finP [.t 2]) = q53_10k s :=
  (W_seq (k := q53_8k) (fun s => q53_9_eq s)).trans (by kernel_rfl)
noncomputable def q53_L11 (v1 v3 v4 v30 v31 v32 : AV) (h : Heap) : OX :=
  W E 0 c_q53_L11 ⟨[(1, v1), (3, v3), (4, v4), (30, v30), (31, v31), (32, v32)], h⟩ q53_10k (exitTo 0 q53_10k xN) (finP [.t 2])
noncomputable def q53_L11k (s : St) : OX := q53_L11 (s 1) (s 3) (s 4) (s 30) (s 31) (s 32) s.h
theorem q53_L11_eq (s : St) : W E 0 c_q53_L11 s q53_10k (exitTo 0 q53_10k xN) (finP [.t 2]) = q53_L11k s := W_loop_live.trans (by kernel_rfl)
noncomputable def q53_12 (v1 v3 v4 v30 v31 v32 : AV) (h : Heap) : OX :=
ob (evBin .add v32 (AV.int .i64 1)) fun v38 =>
(q53_L11 v1 v3 v4 v30 v31 v38 h)
noncomputable def q53_12k (s : St) : OX := q53_12 (s 1) (s 3) (s 4) (s 30) (s 31) (s 32) s.h
theorem q53_12_eq (s : St) : W E 0 c_q53_12 s q53_L11k (exitTo 0 q53_10k xN) (finP [.t 2]) = q53_12k s :=
  by kernel_rfl
noncomputable def q53_13 (v1 v3 v4 v30 v31 v32 : AV) (h : Heap) : OX :=
ob (evIxs 1 v30 v32) fun v34 =>
ob (evLd false 1 v34 h) fun v35 =>
oh (evMput false [0] v4 v35 (AV.int .i64 1) h) fun _ h3 =>
(q53_12 v1 v3 v4 v30 v31 v32 h3)
noncomputable def q53_13k (s : St) : OX := q53_13 (s 1) (s 3) (s 4) (s 30) (s 31) (s 32) s.h
theorem q53_13_eq (s : St) : W E 0 c_q53_13 s q53_L11k (exitTo 0 q53_10k xN) (finP [.t 2]) = q53_13k s :=
  (W_seq (k := q53_12k) (fun s => q53_12_eq s)).trans (by kernel_rfl)
noncomputable def q53_14 (v1 v3 v4 v30 v31 v32 v33 : AV) (h : Heap) : OX :=
cnd v33
 ((q53_13 v1 v3 v4 v30 v31 v32 h))
 ((q53_10 v1 v3 v4 h))
noncomputable def q53_14k (s : St) : OX := q53_14 (s 1) (s 3) (s 4) (s 30) (s 31) (s 32) (s 33) s.h
theorem q53_14_eq (s : St) : W E 0 c_q53_14 s q53_L11k (exitTo 0 q53_10k xN) (finP [.t 2]) = q53_14k s :=
  (W_seq (k := q53_13k) (fun s => q53_13_eq s)).trans (by kernel_rfl)
noncomputable def q53_15 (v1 v3 v4 v30 v31 v32 : AV) (h : Heap) : OX :=
ob (evBin .lss v32 v31) fun v33 =>
(q53_14 v1 v3 v4 v30 v31 v32 v33 h)
noncomputable def q53_15k (s : St) : OX := q53_15 (s 1) (s 3) (s 4) (s 30) (s 31) (s 32) s.h
theorem q53_15_eq (s : St) : W E 0 c_q53_15 s q53_L11k (exitTo 0 q53_10k xN) (finP [.t 2]) = q53_15k s :=
  (W_seq (k := q53_14k) (fun s => q53_14_eq s)).trans (by kernel_rfl)
theorem q53_L11_go (v1 v3 v4 v30 v31 v32 : AV) (h : Heap) : q53_L11 v1 v3 v4 v30 v31 v32 h = (q53_15 v1 v3 v4 v30 v31 v32 h) :=
  W_loop.trans ((W_congr _ _ _ (n' := q53_L11k) (fun s => q53_L11_eq s)).trans ((q53_15_eq _).trans (by kernel_rfl)))
theorem q53_16_eq (s : St) : W E 0 c_q53_16 s q53_10k xN (finP [.t 2]) = q53_L11k s :=
  W_block.trans (q53_L11_eq s)
noncomputable def q53_17 (v1 v3 v4 : AV) (h : Heap) : OX :=
ob (evFa 1 v1) fun v29 =>
ob (evLd false 1 v29 h) fun v30 =>
ob (evLen 1 v30 h) fun v31 =>
(q53_L11 v1 v3 v4 v30 v31 (AV.int .i64 0) h)
noncomputable def q53_17k (s : St) : OX := q53_17 (s 1) (s 3) (s 4) s.h
theorem q53_17_eq (s : St) : W E 0 c_q53_17 s q53_10k xN (finP [.t 2]) = q53_17k s :=
  (W_seq (k := q53_L11k) (fun s => q53_16_eq s)).trans (by kernel_rfl)
theorem q53_18_eq (s : St) : W E 0 c_q53_18 s (finP [.t 2]) xN (finP [.t 2]) = q53_17k s :=
  (W_seq (k := q53_10k) (fun s => q53_10_eq s)).trans (q53_17_eq s)
noncomputable def q53_19 (v1 v3 : AV) (h : Heap) : OX :=
oh (mkmC 0 (some 1) h) fun v28 h4 =>
(q53_17 v1 v3 v28 h4)
noncomputable def q53_19k (s : St) : OX := q53_19 (s 1) (s 3) s.h
theorem q53_19_eq (s : St) : W E 0 c_q53_19 s (finP [.t 2]) xN (finP [.t 2]) = q53_19k s :=
  (W_seq (k := q53_17k) (fun s => q53_18_eq s)).trans (by kernel_rfl)
noncomputable def q53_20 (v1 : AV) (h : Heap) : OX :=
ob (evLd true 5 v1 h) fun v26 =>
oh (callAny E (callW E) 0 none true 75 [v26] h) fun v27 h5 =>
(q53_19 v1 v27 h5)
noncomputable def q53_20k (s : St) : OX := q53_20 (s 1) s.h
theorem q53_20_eq (s : St) : W E 0 c_q53_20 s (finP [.t 2]) xN (finP [.t 2]) = q53_20k s :=
  (W_seq (k := q53_19k) (fun s => q53_19_eq s)).trans (by kernel_rfl)
noncomputable def q53_21 (v1 : AV) (h : Heap) : OX :=
ob (evFa 3 v1) fun v11 =>
ob (evLd false 1 v11 h) fun v12 =>
ob (evLen 1 v12 h) fun v13 =>
ob (evBin .gtr v13 (AV.int .i64 400)) fun v14 =>
gb v14 false (evFa 0 v1) fun v16 =>
gb v14 false (evLd false 1 v16 h) fun v17 =>
gb v14 false (evLen 1 v17 h) fun v18 =>
gb v14 false (evBin .gtr v18 (AV.int .i64 60)) fun v19 =>
ob (evPick v14 (AV.bool true) v19) fun v20 =>
gb v20 false (evLd true 5 v1 h) fun v22 =>
gh v20 false (callAny E (callW E) 0 none true 29 [v22] h) h fun v23 h6 =>
gb v20 false (evBin .neq v23 (AV.int .i64 0)) fun v24 =>
ob (evPick v20 (AV.bool true) v24) fun v25 =>
cnd v25
 ((expo1 h6 (AV.bool true)))
 ((q53_20 v1 h6))
noncomputable def q53_21k (s : St) : OX := q53_21 (s 1) s.h
theorem q53_21_eq (s : St) : W E 0 c_q53_21 s (finP [.t 2]) xN (finP [.t 2]) = q53_21k s :=
  (W_seq (k := q53_20k) (fun s => q53_20_eq s)).trans (by kernel_rfl)
noncomputable def q53_22 (v1 : AV) (h : Heap) : OX :=
oh (callAny E (callW E) 0 none true 74 [] h) fun v9 h7 =>
ob (evUn .not v9) fun v10 =>
cnd v10
 ((expo1 h7 (AV.bool false)))
 ((q53_21 v1 h7))
noncomputable def q53_22k (s : St) : OX := q53_22 (s 1) s.h
theorem q53_22_eq (s : St) : W E 0 c_q53_22 s (finP [.t 2]) xN (finP [.t 2]) = q53_22k s :=
  (W_seq (k := q53_21k) (fun s => q53_21_eq s)).trans (by kernel_rfl)
noncomputable def q53_23 (v0 : AV) (h : Heap) : OX :=
oh (newC 0 (some 0) (cellsOf v0) h) fun v1 h8 =>
(q53_22 v1 h8)
noncomputable def q53_23k (s : St) : OX := q53_23 (s 0) s.h
theorem q53_23_eq (s : St) : W E 0 c_q53_23 s (finP [.t 2]) xN (finP [.t 2]) = q53_23k s :=
  (W_seq (k := q53_22k) (fun s => q53_22_eq s)).trans (by kernel_rfl)
@[simp] theorem pure_113 : E.pure 113 = true := rfl
theorem x_q53 (v0 : AV) : (callW E).p 113 [v0] = q53_23 v0 [⟨0, .dead⟩, ⟨0, .dead⟩] :=
  (callP_W (cf := c_q53) (by kernel_rfl) rfl).trans ((q53_23_eq _).trans (by kernel_rfl))
noncomputable def q6_1 (v6 : AV) (h : Heap) : OX :=
(expo1 h v6)
noncomputable def q6_1k (s : St) : OX := q6_1 (s 6) s.h
theorem q6_1_eq (s : St) : W E 0 c_q6_1 s (finP [.t 4]) xN (finP [.t 4]) = q6_1k s :=
  by kernel_rfl
noncomputable def q6_2 (v5 v6 : AV) (h : Heap) : OX :=
ob (evLd true 9 v5 h) fun v29 =>
oh (callAny E (callW E) 0 none true 22 [v29] h) fun v30 h1 =>
gb v30 true (some v6) fun v32 =>
gb v30 true (evFa 6 v5) fun v33 =>
gb v30 true (evLd false 1 v33 h1) fun v34 =>
gh v30 true (callAny E (callW E) 0 none true 46 [v32, v34] h1) h1 fun v35 h2 =>
gb v30 true (evUn .not v35) fun v36 =>
ob (evPick v30 v36 (AV.bool false)) fun v37 =>
cnd v37
 (ob (evFa 6 v5) fun v39 =>
ob (evLd false 1 v39 h2) fun v40 =>
oh (buildSC 0 (some 4) 1 1 [(.int .i64 0)] [(0, v40)] h2) fun v41 h3 =>
oh (evApp 0 (some 5) 1 8 v6 v41 h3) fun v42 h4 =>
(q6_1 v42 h4))
 ((q6_1 v6 h2))
noncomputable def q6_2k (s : St) : OX := q6_2 (s 5) (s 6) s.h
theorem q6_2_eq (s : St) : W E 0 c_q6_2 s (finP [.t 4]) xN (finP [.t 4]) = q6_2k s :=
  (W_seq (k := q6_1k) (fun s => q6_1_eq s)).trans (by kernel_rfl)
noncomputable def q6_3 (v1 v5 v6 : AV) (h : Heap) : OX :=
ob (evLd true 9 v5 h) fun v21 =>
oh (callAny E (callW E) 0 none true 24 [v21] h) fun v22 h5 =>
ob (evUn .not v22) fun v23 =>
cnd v23
 (ob (evBin .add v1 (AV.int .i64 1)) fun v26 =>
oh (buildSC 0 (some 2) 1 1 [(.int .i64 0)] [(0, v26)] h5) fun v27 h6 =>
oh (evApp 0 (some 3) 1 8 v6 v27 h6) fun v28 h7 =>
(q6_2 v5 v28 h7))
 ((q6_2 v5 v6 h5))
noncomputable def q6_3k (s : St) : OX := q6_3 (s 1) (s 5) (s 6) s.h
theorem q6_3_eq (s : St) : W E 0 c_q6_3 s (finP [.t 4]) xN (finP [.t 4]) = q6_3k s :=
  (W_seq (k := q6_2k) (fun s => q6_2_eq s)).trans (by kernel_rfl)
noncomputable def q6_4 (v1 v5 : AV) (h : Heap) : OX :=
(q6_3 v1 v5 AV.nils h)
noncomputable def q6_4k (s : St) : OX := q6_4 (s 1) (s 5) s.h
theorem q6_4_eq (s : St) : W E 0 c_q6_4 s (finP [.t 4]) xN (finP [.t 4]) = q6_4k s :=
  (W_seq (k := q6_3k) (fun s => q6_3_eq s)).trans (by kernel_rfl)
noncomputable def q6_5 (v1 v2 : AV) (h : Heap) : OX :=
ob (evFa 3 v2) fun v16 =>
ob (evLd false 1 v16 h) fun v17 =>
ob (evIxs 9 v17 v1) fun v19 =>
ob (evLd true 9 v19 h) fun v20 =>
oh (newC 0 (some 1) [(.int .i64 0), (.int .i64 0), (.int .i64 0), (.int .i64 0), (.int .i64 0), (.int .i64 0), (.int .i64 0), (.str []), .nils] h) fun v5 h8 =>
oh (evSt 9 v5 v20 h8) fun _ h9 =>
(q6_4 v1 v5 h9)
noncomputable def q6_5k (s : St) : OX := q6_5 (s 1) (s 2) s.h
theorem q6_5_eq (s : St) : W E 0 c_q6_5 s (finP [.t 4]) xN (finP [.t 4]) = q6_5k s :=
  (W_seq (k := q6_4k) (fun s => q6_4_eq s)).trans (by kernel_rfl)
noncomputable def q6_6 (v1 v2 : AV) (h : Heap) : OX :=
ob (evBin .lss v1 (AV.int .i64 0)) fun v8 =>
gb v8 false (some v1) fun v10 =>
gb v8 false (evFa 3 v2) fun v11 =>
gb v8 false (evLd false 1 v11 h) fun v12 =>
gb v8 false (evLen 1 v12 h) fun v13 =>
gb v8 false (evBin .geq v10 v13) fun v14 =>
ob (evPick v8 (AV.bool true) v14) fun v15 =>
cnd v15
 ((expo1 h AV.nils))
 ((q6_5 v1 v2 h))
noncomputable def q6_6k (s : St) : OX := q6_6 (s 1) (s 2) s.h
theorem q6_6_eq (s : St) : W E 0 c_q6_6 s (finP [.t 4]) xN (finP [.t 4]) = q6_6k s :=
  (W_seq (k := q6_5k) (fun s => q6_5_eq s)).trans (by kernel_rfl)
noncomputable def q6_7 (v0 v1 : AV) (h : Heap) : OX :=
oh (newC 0 (some 0) (cellsOf v0) h) fun v2 h10 =>
(q6_6 v1 v2 h10)
noncomputable def q6_7k (s : St) : OX := q6_7 (s 0) (s 1) s.h
theorem q6_7_eq (s : St) : W E 0 c_q6_7 s (finP [.t 4]) xN (finP [.t 4]) = q6_7k s :=
  (W_seq (k := q6_6k) (fun s => q6_6_eq s)).trans (by kernel_rfl)
@[simp] theorem pure_81 : E.pure 81 = true := rfl
theorem x_q6 (v0 v1 : AV) : (callW E).p 81 [v0, v1] = q6_7 v0 v1 [⟨0, .dead⟩, ⟨0, .dead⟩, ⟨0, .dead⟩, ⟨0, .dead⟩, ⟨0, .dead⟩, ⟨0, .dead⟩] :=
  (callP_W (cf := c_q6) (by kernel_rfl) rfl).trans ((q6_7_eq _).trans (by kernel_rfl))
@[simp] theorem pure_95 : E.pure 95 = true := rfl
noncomputable def q4_1 (v5 : AV) (h : Heap) : OX :=
(expo1 h v5)
noncomputable def q4_1k (s : St) : OX := q4_1 (s 5) s.h
theorem q4_1_eq (s : St) : W E 0 c_q4_1 s (finP [.t 4]) xN (finP [.t 4]) = q4_1k s :=
  by kernel_rfl
noncomputable def q4_L2 (v1 v5 v27 v28 v29 : AV) (h : Heap) : OX :=
  W E 0 c_q4_L2 ⟨[(1, v1), (5, v5), (27, v27), (28, v28), (29, v29)], h⟩ q4_1k (exitTo 0 q4_1k xN) (finP [.t 4])
noncomputable def q4_L2k (s : St) : OX := q4_L2 (s 1) (s 5) (s 27) (s 28) (s 29) s.h
theorem q4_L2_eq (s : St) : W E 0 c_q4_L2 s q4_1k (exitTo 0 q4_1k xN) (finP [.t 4]) = q4_L2k s := W_loop_live.trans (by kernel_rfl)
noncomputable def q4_3 (v1 v5 v27 v28 v29 : AV) (h : Heap) : OX :=
ob (evBin .add v29 (AV.int .i64 1)) fun v56 =>
(q4_L2 v1 v5 v27 v28 v56 h)
noncomputable def q4_3k (s : St) : OX := q4_3 (s 1) (s 5) (s 27) (s 28) (s 29) s.h
theorem q4_3_eq (s : St) : W E 0 c_q4_3 s q4_L2k (exitTo 0 q4_1k xN) (finP [.t 4]) = q4_3k s :=
  by kernel_rfl
noncomputable def q4_4 (v1 v5 v7 v27 v28 v29 : AV) (h : Heap) : OX :=
ob (evFa 3 v7) fun v53 =>
ob (evLd false 1 v53 h) fun v54 =>
ob (evBin .eql v54 (AV.str [])) fun v55 =>
cnd v55
 ((q4_1 v5 h))
 ((q4_3 v1 v5 v27 v28 v29 h))
noncomputable def q4_4k (s : St) : OX := q4_4 (s 1) (s 5) (s 7) (s 27) (s 28) (s 29) s.h
theorem q4_4_eq (s : St) : W E 0 c_q4_4 s q4_3k (exitTo 1 q4_3k (exitTo 0 q4_1k xN)) (finP [.t 4]) = q4_4k s :=
  by kernel_rfl
noncomputable def q4_5 (v1 v5 v7 v27 v28 v29 : AV) (h : Heap) : OX :=
ob (evFa 2 v7) fun v44 =>
ob (evLd false 1 v44 h) fun v45 =>
oh (callAny E (callW E) 0 none true 46 [v5, v45] h) fun v46 h1 =>
ob (evUn .not v46) fun v47 =>
cnd v47
 (ob (evFa 2 v7) fun v49 =>
ob (evLd false 1 v49 h1) fun v50 =>
oh (buildSC 0 (some 2) 1 1 [(.int .i64 0)] [(0, v50)] h1) fun v51 h2 =>
oh (evApp 0 (some 3) 1 8 v5 v51 h2) fun v52 h3 =>
(q4_4 v1 v52 v7 v27 v28 v29 h3))
 ((q4_4 v1 v5 v7 v27 v28 v29 h1))
noncomputable def q4_5k (s : St) : OX := q4_5 (s 1) (s 5) (s 7) (s 27) (s 28) (s 29) s.h
theorem q4_5_eq (s : St) : W E 0 c_q4_5 s q4_3k (exitTo 1 q4_3k (exitTo 0 q4_1k xN)) (finP [.t 4]) = q4_5k s :=
  (W_seq (k := q4_4k) (fun s => q4_4_eq s)).trans (by kernel_rfl)
noncomputable def q4_6 (v1 v5 v7 v27 v28 v29 : AV) (h : Heap) : OX :=
ob (evFa 0 v7) fun v34 =>
ob (evLd false 1 v34 h) fun v35 =>
ob (evBin .lss v1 v35) fun v36 =>
gb v36 false (some v1) fun v38 =>
gb v36 false (evFa 1 v7) fun v39 =>
gb v36 false (evLd false 1 v39 h) fun v40 =>
gb v36 false (evBin .geq v38 v40) fun v41 =>
ob (evPick v36 (AV.bool true) v41) fun v42 =>
cnd v42
 ((q4_3 v1 v5 v27 v28 v29 h))
 ((q4_5 v1 v5 v7 v27 v28 v29 h))
noncomputable def q4_6k (s : St) : OX := q4_6 (s 1) (s 5) (s 7) (s 27) (s 28) (s 29) s.h
theorem q4_6_eq (s : St) : W E 0 c_q4_6 s q4_3k (exitTo 1 q4_3k (exitTo 0 q4_1k xN)) (finP [.t 4]) = q4_6k s :=
  (W_seq (k := q4_5k) (fun s => q4_5_eq s)).trans (by kernel_rfl)
noncomputable def q4_7 (v1 v5 v27 v28 v29 : AV) (h : Heap) : OX :=
ob (evIxs 4 v27 v29) fun v31 =>
ob (evLd true 4 v31 h) fun v32 =>
oh (newC 0 (some 1) [(.int .i64 0), (.int .i64 0), (.int .i64 0), (.str [])] h) fun v7 h4 =>
oh (evSt 4 v7 v32 h4) fun _ h5 =>
(q4_6 v1 v5 v7 v27 v28 v29 h5)
noncomputable def q4_7k (s : St) : OX := q4_7 (s 1) (s 5) (s 27) (s 28) (s 29) s.h
theorem q4_7_eq (s : St) : W E 0 c_q4_7 s q4_3k (exitTo 1 q4_3k (exitTo 0 q4_1k xN)) (finP [.t 4]) = q4_7k s :=
  (W_seq (k := q4_6k) (fun s => q4_6_eq s)).trans (by kernel_rfl)
theorem q4_8_eq (s : St) : W E 0 c_q4_8 s q4_3k (exitTo 0 q4_1k xN) (finP [.t 4]) = q4_7k s :=
  W_block.trans (q4_7_eq s)
theorem q4_9_eq (s : St) : W E 0 c_q4_9 s q4_L2k (exitTo 0 q4_1k xN) (finP [.t 4]) = q4_7k s :=
  (W_seq (k := q4_3k) (fun s => q4_3_eq s)).trans (q4_8_eq s)
noncomputable def q4_10 (v1 v5 v27 v28 v29 v30 : AV) (h : Heap) : OX :=
cnd v30
 ((q4_7 v1 v5 v27 v28 v29 h))
 ((q4_1 v5 h))
noncomputable def q4_10k (s : St) : OX := q4_10 (s 1) (s 5) (s 27) (s 28) (s 29) (s 30) s.h
theorem q4_10_eq (s : St) : W E 0 c_q4_10 s q4_L2k (exitTo 0 q4_1k xN) (finP [.t 4]) = q4_10k s :=
  (W_seq (k := q4_7k) (fun s => q4_9_eq s)).trans (by kernel_rfl)
noncomputable def q4_11 (v1 v5 v27 v28 v29 : AV) (h : Heap) : OX :=
ob (evBin .lss v29 v28) fun v30 =>
(q4_10 v1 v5 v27 v28 v29 v30 h)
noncomputable def q4_11k (s : St) : OX := q4_11 (s 1) (s 5) (s 27) (s 28) (s 29) s.h
theorem q4_11_eq (s : St) : W E 0 c_q4_11 s q4_L2k (exitTo 0 q4_1k xN) (finP [.t 4]) = q4_11k s :=
  (W_seq (k := q4_10k) (fun s => q4_10_eq s)).trans (by kernel_rfl)
theorem q4_L2_go (v1 v5 v27 v28 v29 : AV) (h : Heap) : q4_L2 v1 v5 v27 v28 v29 h = (q4_11 v1 v5 v27 v28 v29 h) :=
  W_loop.trans ((W_congr _ _ _ (n' := q4_L2k) (fun s => q4_L2_eq s)).trans ((q4_11_eq _).trans (by kernel_rfl)))
theorem q4_12_eq (s : St) : W E 0 c_q4_12 s q4_1k xN (finP [.t 4]) = q4_L2k s :=
  W_block.trans (q4_L2_eq s)
noncomputable def q4_13 (v1 v2 v5 : AV) (h : Heap) : OX :=
ob (evFa 4 v2) fun v26 =>
ob (evLd false 1 v26 h) fun v27 =>
ob (evLen 1 v27 h) fun v28 =>
(q4_L2 v1 v5 v27 v28 (AV.int .i64 0) h)
noncomputable def q4_13k (s : St) : OX := q4_13 (s 1) (s 2) (s 5) s.h
theorem q4_13_eq (s : St) : W E 0 c_q4_13 s q4_1k xN (finP [.t 4]) = q4_13k s :=
  (W_seq (k := q4_L2k) (fun s => q4_12_eq s)).trans (by kernel_rfl)
theorem q4_14_eq (s : St) : W E 0 c_q4_14 s (finP [.t 4]) xN (finP [.t 4]) = q4_13k s :=
  (W_seq (k := q4_1k) (fun s => q4_1_eq s)).trans (q4_13_eq s)
noncomputable def q4_15 (v1 v2 : AV) (h : Heap) : OX :=
(q4_13 v1 v2 AV.nils h)
noncomputable def q4_15k (s : St) : OX := q4_15 (s 1) (s 2) s.h
theorem q4_15_eq (s : St) : W E 0 c_q4_15 s (finP [.t 4]) xN (finP [.t 4]) = q4_15k s :=
  (W_seq (k := q4_13k) (fun s => q4_14_eq s)).trans (by kernel_rfl)
noncomputable def q4_16 (v1 v2 : AV) (h : Heap) : OX :=
ob (evBin .lss v1 (AV.int .i64 0)) fun v9 =>
gb v9 false (some v1) fun v11 =>
gb v9 false (evFa 3 v2) fun v12 =>
gb v9 false (evLd false 1 v12 h) fun v13 =>
gb v9 false (evLen 1 v13 h) fun v14 =>
gb v9 false (evBin .geq v11 v14) fun v15 =>
ob (evPick v9 (AV.bool true) v15) fun v16 =>
gb v16 false (evFa 3 v2) fun v18 =>
gb v16 false (evLd false 1 v18 h) fun v19 =>
gb v16 false (some v1) fun v20 =>
gb v16 false (evIxs 9 v19 v20) fun v21 =>
gb v16 false (evLd true 9 v21 h) fun v22 =>
gh v16 false (callAny E (callW E) 0 none true 18 [v22] h) h fun v23 h6 =>
gb v16 false (evUn .not v23) fun v24 =>
ob (evPick v16 (AV.bool true) v24) fun v25 =>
cnd v25
 ((expo1 h6 AV.nils))
 ((q4_15 v1 v2 h6))
noncomputable def q4_16k (s : St) : OX := q4_16 (s 1) (s 2) s.h
theorem q4_16_eq (s : St) : W E 0 c_q4_16 s (finP [.t 4]) xN (finP [.t 4]) = q4_16k s :=
  (W_seq (k := q4_15k) (fun s => q4_15_eq s)).trans (by kernel_rfl)
noncomputable def q4_17 (v0 v1 : AV) (h : Heap) : OX :=
oh (newC 0 (some 0) (cellsOf v0) h) fun v2 h7 =>
(q4_16 v1 v2 h7)
noncomputable def q4_17k (s : St) : OX := q4_17 (s 0) (s 1) s.h
theorem q4_17_eq (s : St) : W E 0 c_q4_17 s (finP [.t 4]) xN (finP [.t 4]) = q4_17k s :=
  (W_seq (k := q4_16k) (fun s => q4_16_eq s)).trans (by kernel_rfl)
@[simp] theorem pure_79 : E.pure 79 = true := rfl
theorem x_q4 (v0 v1 : AV) : (callW E).p 79 [v0, v1] = q4_17 v0 v1 [⟨0, .dead⟩, ⟨0, .dead⟩, ⟨0, .dead⟩, ⟨0, .dead⟩] :=
  (callP_W (cf := c_q4) (by kernel_rfl) rfl).trans ((q4_17_eq _).trans (by kernel_rfl))
@[simp] theorem pure_92 : E.pure 92 = true := rfl
@[simp] theorem pure_74 : E.pure 74 = true := rfl
noncomputable def q35_1 (v5 : AV) (h : Heap) : OX :=
(expo1 h v5)
noncomputable def q35_1k (s : St) : OX := q35_1 (s 5) s.h
theorem q35_1_eq (s : St) : W E 0 c_q35_1 s (finP [.t 2]) xN (finP [.t 2]) = q35_1k s :=
  by kernel_rfl
noncomputable def q35_L2 (v1 v3 v5 v6 : AV) (h : Heap) : OX :=
  W E 0 c_q35_L2 ⟨[(1, v1), (3, v3), (5, v5), (6, v6)], h⟩ q35_1k (exitTo 2 q35_1k xN) (finP [.t 2])
noncomputable def q35_L2k (s : St) : OX := q35_L2 (s 1) (s 3) (s 5) (s 6) s.h
theorem q35_L2_eq (s : St) : W E 0 c_q35_L2 s q35_1k (exitTo 2 q35_1k xN) (finP [.t 2]) = q35_L2k s := W_loop_live.trans (by kernel_rfl)
noncomputable def q35_L3 (v1 v3 v5 v6 v7 : AV) (h : Heap) : OX :=
  W E 0 c_q35_L3 ⟨[(1, v1), (3, v3), (5, v5), (6, v6), (7, v7)], h⟩ q35_L2k (exitTo 4 q35_L2k (exitTo 3 q35_L2k (exitTo 2 q35_1k xN))) (finP [.t 2])
noncomputable def q35_L3k (s : St) : OX := q35_L3 (s 1) (s 3) (s 5) (s 6) (s 7) s.h
theorem q35_L3_eq (s : St) : W E 0 c_q35_L3 s q35_L2k (exitTo 4 q35_L2k (exitTo 3 q35_L2k (exitTo 2 q35_1k xN))) (finP [.t 2]) = q35_L3k s := W_loop_live.trans (by kernel_rfl)
noncomputable def q35_4 (v1 v3 v5 v6 v7 : AV) (h : Heap) : OX :=
ob (evBin .sub v7 (AV.int .i64 1)) fun v75 =>
(q35_L3 v1 v3 v5 v6 v75 h)
noncomputable def q35_4k (s : St) : OX := q35_4 (s 1) (s 3) (s 5) (s 6) (s 7) s.h
theorem q35_4_eq (s : St) : W E 0 c_q35_4 s q35_L3k (exitTo 4 q35_L2k (exitTo 3 q35_L2k (exitTo 2 q35_1k xN))) (finP [.t 2]) = q35_4k s :=
  by kernel_rfl
noncomputable def q35_5 (v1 v3 v5 v6 v7 v12 : AV) (h : Heap) : OX :=
ob (evNilchk v5) fun v168 =>
ob (evFa 0 v168) fun v169 =>
ob (evLd false 1 v169 h) fun v170 =>
ob (evIxs 1 v170 v7) fun v172 =>
ob (evLd false 1 v172 h) fun v173 =>
oh (callAny E (callW E) 0 none false 84 [v173, v12] h) fun v175 h1 =>
gb v175 false (some v6) fun v177 =>
ob (evPick v175 (AV.bool true) v177) fun v178 =>
(q35_4 v1 v3 v5 v178 v7 h1)
noncomputable def q35_5k (s : St) : OX := q35_5 (s 1) (s 3) (s 5) (s 6) (s 7) (s 12) s.h
theorem q35_5_eq (s : St) : W E 0 c_q35_5 s q35_4k (exitTo 5 q35_4k (exitTo 4 q35_L2k (exitTo 3 q35_L2k (exitTo 2 q35_1k xN)))) (finP [.t 2]) = q35_5k s :=
  by kernel_rfl
noncomputable def q35_L6 (v1 v3 v5 v6 v7 v12 v157 v158 v159 : AV) (h : Heap) : OX :=
  W E 0 c_q35_L6 ⟨[(1, v1), (3, v3), (5, v5), (6, v6), (7, v7), (12, v12), (157, v157), (158, v158), (159, v159)], h⟩ q35_5k (exitTo 10 q35_5k (exitTo 5 q35_4k (exitTo 4 q35_L2k (exitTo 3 q35_L2k (exitTo 2 q35_1k xN))))) (finP [.t 2])
noncomputable def q35_L6k (s : St) : OX := q35_L6 (s 1) (s 3) (s 5) (s 6) (s 7) (s 12) (s 157) (s 158) (s 159) s.h
theorem q35_L6_eq (s : St) : W E 0 c_q35_L6 s q35_5k (exitTo 10 q35_5k (exitTo 5 q35_4k (exitTo 4 q35_L2k (exitTo 3 q35_L2k (exitTo 2 q35_1k xN))))) (finP [.t 2]) = q35_L6k s := W_loop_live.trans (by kernel_rfl)
noncomputable def q35_7 (v1 v3 v5 v6 v7 v12 v157 v158 v159 : AV) (h : Heap) : OX :=
ob (evBin .add v159 (AV.int .i64 1)) fun v166 =>
(q35_L6 v1 v3 v5 v6 v7 v12 v157 v158 v166 h)
noncomputable def q35_7k (s : St) : OX := q35_7 (s 1) (s 3) (s 5) (s 6) (s 7) (s 12) (s 157) (s 158) (s 159) s.h
theorem q35_7_eq (s : St) : W E 0 c_q35_7 s q35_L6k (exitTo 10 q35_5k (exitTo 5 q35_4k (exitTo 4 q35_L2k (exitTo 3 q35_L2k (exitTo 2 q35_1k xN))))) (finP [.t 2]) = q35_7k s :=
  by kernel_rfl
noncomputable def q35_8 (v1 v3 v5 v6 v7 v12 v157 v158 v159 : AV) (h : Heap) : OX :=
ob (evIxs 1 v157 v159) fun v161 =>
ob (evLd false 1 v161 h) fun v162 =>
oh (callAny E (callW E) 0 none false 86 [v12, v162] h) fun v165 h2 =>
(q35_7 v1 v3 v5 v6 v7 v12 v157 v158 v159 h2)
noncomputable def q35_8k (s : St) : OX := q35_8 (s 1) (s 3) (s 5) (s 6) (s 7) (s 12) (s 157) (s 158) (s 159) s.h
theorem q35_8_eq (s : St) : W E 0 c_q35_8 s q35_L6k (exitTo 10 q35_5k (exitTo 5 q35_4k (exitTo 4 q35_L2k (exitTo 3 q35_L2k (exitTo 2 q35_1k xN))))) (finP [.t 2]) = q35_8k s :=
  (W_seq (k := q35_7k) (fun s => q35_7_eq s)).trans (by kernel_rfl)
noncomputable def q35_9 (v1 v3 v5 v6 v7 v12 v157 v158 v159 v160 : AV) (h : Heap) : OX :=
cnd v160
 ((q35_8 v1 v3 v5 v6 v7 v12 v157 v158 v159 h))
 ((q35_5 v1 v3 v5 v6 v7 v12 h))
noncomputable def q35_9k (s : St) : OX := q35_9 (s 1) (s 3) (s 5) (s 6) (s 7) (s 12) (s 157) (s 158) (s 159) (s 160) s.h
theorem q35_9_eq (s : St) : W E 0 c_q35_9 s q35_L6k (exitTo 10 q35_5k (exitTo 5 q35_4k (exitTo 4 q35_L2k (exitTo 3 q35_L2k (exitTo 2 q35_1k xN))))) (finP [.t 2]) = q35_9k s :=
  (W_seq (k := q35_8k) (fun s => q35_8_eq s)).trans (by kernel_rfl)
noncomputable def q35_10 (v1 v3 v5 v6 v7 v12 v157 v158 v159 : AV) (h : Heap) : OX :=
ob (evBin .lss v159 v158) fun v160 =>
(q35_9 v1 v3 v5 v6 v7 v12 v157 v158 v159 v160 h)
noncomputable def q35_10k (s : St) : OX := q35_10 (s 1) (s 3) (s 5) (s 6) (s 7) (s 12) (s 157) (s 158) (s 159) s.h
theorem q35_10_eq (s : St) : W E 0 c_q35_10 s q35_L6k (exitTo 10 q35_5k (exitTo 5 q35_4k (exitTo 4 q35_L2k (exitTo 3 q35_L2k (exitTo 2 q35_1k xN))))) (finP [.t 2]) = q35_10k s :=
  (W_seq (k := q35_9k) (fun s => q35_9_eq s)).trans (by kernel_rfl)
theorem q35_L6_go (v1 v3 v5 v6 v7 v12 v157 v158 v159 : AV) (h : Heap) : q35_L6 v1 v3 v5 v6 v7 v12 v157 v158 v159 h = (q35_10 v1 v3 v5 v6 v7 v12 v157 v158 v159 h) :=
  W_loop.trans ((W_congr _ _ _ (n' := q35_L6k) (fun s => q35_L6_eq s)).trans ((q35_10_eq _).trans (by kernel_rfl)))
theorem q35_11_eq (s : St) : W E 0 c_q35_11 s q35_5k (exitTo 5 q35_4k (exitTo 4 q35_L2k (exitTo 3 q35_L2k (exitTo 2 q35_1k xN)))) (finP [.t 2]) = q35_L6k s :=
  W_block.trans (q35_L6_eq s)
noncomputable def q35_12 (v1 v3 v5 v6 v7 v12 : AV) (h : Heap) : OX :=
ob (evFa 3 v1) fun v152 =>
ob (evLd false 1 v152 h) fun v153 =>
ob (evIxs 9 v153 v7) fun v155 =>
ob (evLd true 9 v155 h) fun v156 =>
oh (callAny E (callW E) 0 none true 10 [v156] h) fun v157 h3 =>
ob (evLen 1 v157 h3) fun v158 =>
(q35_L6 v1 v3 v5 v6 v7 v12 v157 v158 (AV.int .i64 0) h3)
noncomputable def q35_12k (s : St) : OX := q35_12 (s 1) (s 3) (s 5) (s 6) (s 7) (s 12) s.h
theorem q35_12_eq (s : St) : W E 0 c_q35_12 s q35_5k (exitTo 5 q35_4k (exitTo 4 q35_L2k (exitTo 3 q35_L2k (exitTo 2 q35_1k xN)))) (finP [.t 2]) = q35_12k s :=
  (W_seq (k := q35_L6k) (fun s => q35_11_eq s)).trans (by kernel_rfl)
theorem q35_13_eq (s : St) : W E 0 c_q35_13 s q35_4k (exitTo 5 q35_4k (exitTo 4 q35_L2k (exitTo 3 q35_L2k (exitTo 2 q35_1k xN)))) (finP [.t 2]) = q35_12k s :=
  (W_seq (k := q35_5k) (fun s => q35_5_eq s)).trans (q35_12_eq s)
noncomputable def q35_14 (v1 v3 v5 v6 v7 v12 : AV) (h : Heap) : OX :=
ob (evNilchk v5) fun v145 =>
ob (evFa 2 v145) fun v146 =>
ob (evLd false 1 v146 h) fun v147 =>
ob (evIxs 1 v147 v7) fun v149 =>
ob (evLd false 1 v149 h) fun v150 =>
oh (callAny E (callW E) 0 none false 84 [v12, v150] h) fun v151 h4 =>
(q35_12 v1 v3 v5 v6 v7 v12 h4)
noncomputable def q35_14k (s : St) : OX := q35_14 (s 1) (s 3) (s 5) (s 6) (s 7) (s 12) s.h
theorem q35_14_eq (s : St) : W E 0 c_q35_14 s q35_4k (exitTo 5 q35_4k (exitTo 4 q35_L2k (exitTo 3 q35_L2k (exitTo 2 q35_1k xN)))) (finP [.t 2]) = q35_14k s :=
  (W_seq (k := q35_12k) (fun s => q35_13_eq s)).trans (by kernel_rfl)
noncomputable def q35_15 (v1 v3 v5 v6 v7 v12 : AV) (h : Heap) : OX :=
ob (evFa 3 v1) fun v132 =>
ob (evLd false 1 v132 h) fun v133 =>
ob (evIxs 9 v133 v7) fun v135 =>
ob (evLd true 9 v135 h) fun v136 =>
oh (callAny E (callW E) 0 none true 9 [v136] h) fun v137 h5 =>
ob (evBin .geq v137 (AV.int .i64 0)) fun v139 =>
cnd v139
 (oh (callAny E (callW E) 0 none false 85 [v12, v137] h5) fun v142 h6 =>
(q35_14 v1 v3 v5 v6 v7 v12 h6))
 ((q35_14 v1 v3 v5 v6 v7 v12 h5))
noncomputable def q35_15k (s : St) : OX := q35_15 (s 1) (s 3) (s 5) (s 6) (s 7) (s 12) s.h
theorem q35_15_eq (s : St) : W E 0 c_q35_15 s q35_4k (exitTo 5 q35_4k (exitTo 4 q35_L2k (exitTo 3 q35_L2k (exitTo 2 q35_1k xN)))) (finP [.t 2]) = q35_15k s :=
  (W_seq (k := q35_14k) (fun s => q35_14_eq s)).trans (by kernel_rfl)
noncomputable def q35_16 (v1 v3 v5 v6 v7 : AV) (h : Heap) : OX :=
ob (evNilchk v5) fun v125 =>
ob (evFa 1 v125) fun v126 =>
ob (evLd false 1 v126 h) fun v127 =>
ob (evIxs 1 v127 v7) fun v129 =>
ob (evLd false 1 v129 h) fun v130 =>
oh (evApp 0 (some 2) 1 8 AV.nils v130 h) fun v131 h7 =>
(q35_15 v1 v3 v5 v6 v7 v131 h7)
noncomputable def q35_16k (s : St) : OX := q35_16 (s 1) (s 3) (s 5) (s 6) (s 7) s.h
theorem q35_16_eq (s : St) : W E 0 c_q35_16 s q35_4k (exitTo 5 q35_4k (exitTo 4 q35_L2k (exitTo 3 q35_L2k (exitTo 2 q35_1k xN)))) (finP [.t 2]) = q35_16k s :=
  (W_seq (k := q35_15k) (fun s => q35_15_eq s)).trans (by kernel_rfl)
noncomputable def q35_L17 (v1 v3 v5 v6 v7 v102 v103 v104 : AV) (h : Heap) : OX :=
  W E 0 c_q35_L17 ⟨[(1, v1), (3, v3), (5, v5), (6, v6), (7, v7), (102, v102), (103, v103), (104, v104)], h⟩ q35_16k (exitTo 8 q35_16k (exitTo 5 q35_4k (exitTo 4 q35_L2k (exitTo 3 q35_L2k (exitTo 2 q35_1k xN))))) (finP [.t 2])
noncomputable def q35_L17k (s : St) : OX := q35_L17 (s 1) (s 3) (s 5) (s 6) (s 7) (s 102) (s 103) (s 104) s.h
theorem q35_L17_eq (s : St) : W E 0 c_q35_L17 s q35_16k (exitTo 8 q35_16k (exitTo 5 q35_4k (exitTo 4 q35_L2k (exitTo 3 q35_L2k (exitTo 2 q35_1k xN))))) (finP [.t 2]) = q35_L17k s := W_loop_live.trans (by kernel_rfl)
noncomputable def q35_18 (v1 v3 v5 v6 v7 v102 v103 v104 : AV) (h : Heap) : OX :=
ob (evBin .add v104 (AV.int .i64 1)) fun v123 =>
(q35_L17 v1 v3 v5 v6 v7 v102 v103 v123 h)
noncomputable def q35_18k (s : St) : OX := q35_18 (s 1) (s 3) (s 5) (s 6) (s 7) (s 102) (s 103) (s 104) s.h
theorem q35_18_eq (s : St) : W E 0 c_q35_18 s q35_L17k (exitTo 8 q35_16k (exitTo 5 q35_4k (exitTo 4 q35_L2k (exitTo 3 q35_L2k (exitTo 2 q35_1k xN))))) (finP [.t 2]) = q35_18k s :=
  by kernel_rfl
noncomputable def q35_19 (v1 v3 v5 v6 v7 v102 v103 v104 : AV) (h : Heap) : OX :=
ob (evIxs 1 v102 v104) fun v106 =>
ob (evLd false 1 v106 h) fun v107 =>
ob (evNilchk v5) fun v109 =>
ob (evFa 2 v109) fun v110 =>
ob (evLd false 1 v110 h) fun v111 =>
ob (evIxs 1 v111 v7) fun v113 =>
ob (evLd false 1 v113 h) fun v114 =>
ob (evNilchk v5) fun v116 =>
ob (evFa 0 v116) fun v117 =>
ob (evLd false 1 v117 h) fun v118 =>
ob (evIxs 1 v118 v107) fun v120 =>
ob (evLd false 1 v120 h) fun v121 =>
oh (callAny E (callW E) 0 none false 84 [v114, v121] h) fun v122 h8 =>
(q35_18 v1 v3 v5 v6 v7 v102 v103 v104 h8)
noncomputable def q35_19k (s : St) : OX := q35_19 (s 1) (s 3) (s 5) (s 6) (s 7) (s 102) (s 103) (s 104) s.h
theorem q35_19_eq (s : St) : W E 0 c_q35_19 s q35_L17k (exitTo 8 q35_16k (exitTo 5 q35_4k (exitTo 4 q35_L2k (exitTo 3 q35_L2k (exitTo 2 q35_1k xN))))) (finP [.t 2]) = q35_19k s :=
  (W_seq (k := q35_18k) (fun s => q35_18_eq s)).trans (by kernel_rfl)
noncomputable def q35_20 (v1 v3 v5 v6 v7 v102 v103 v104 v105 : AV) (h : Heap) : OX :=
cnd v105
 ((q35_19 v1 v3 v5 v6 v7 v102 v103 v104 h))
 ((q35_16 v1 v3 v5 v6 v7 h))
noncomputable def q35_20k (s : St) : OX := q35_20 (s 1) (s 3) (s 5) (s 6) (s 7) (s 102) (s 103) (s 104) (s 105) s.h
theorem q35_20_eq (s : St) : W E 0 c_q35_20 s q35_L17k (exitTo 8 q35_16k (exitTo 5 q35_4k (exitTo 4 q35_L2k (exitTo 3 q35_L2k (exitTo 2 q35_1k xN))))) (finP [.t 2]) = q35_20k s :=
  (W_seq (k := q35_19k) (fun s => q35_19_eq s)).trans (by kernel_rfl)
noncomputable def q35_21 (v1 v3 v5 v6 v7 v102 v103 v104 : AV) (h : Heap) : OX :=
ob (evBin .lss v104 v103) fun v105 =>
(q35_20 v1 v3 v5 v6 v7 v102 v103 v104 v105 h)
noncomputable def q35_21k (s : St) : OX := q35_21 (s 1) (s 3) (s 5) (s 6) (s 7) (s 102) (s 103) (s 104) s.h
theorem q35_21_eq (s : St) : W E 0 c_q35_21 s q35_L17k (exitTo 8 q35_16k (exitTo 5 q35_4k (exitTo 4 q35_L2k (exitTo 3 q35_L2k (exitTo 2 q35_1k xN))))) (finP [.t 2]) = q35_21k s :=
  (W_seq (k := q35_20k) (fun s => q35_20_eq s)).trans (by kernel_rfl)
theorem q35_L17_go (v1 v3 v5 v6 v7 v102 v103 v104 : AV) (h : Heap) : q35_L17 v1 v3 v5 v6 v7 v102 v103 v104 h = (q35_21 v1 v3 v5 v6 v7 v102 v103 v104 h) :=
  W_loop.trans ((W_congr _ _ _ (n' := q35_L17k) (fun s => q35_L17_eq s)).trans ((q35_21_eq _).trans (by kernel_rfl)))
theorem q35_22_eq (s : St) : W E 0 c_q35_22 s q35_16k (exitTo 5 q35_4k (exitTo 4 q35_L2k (exitTo 3 q35_L2k (exitTo 2 q35_1k xN)))) (finP [.t 2]) = q35_L17k s :=
  W_block.trans (q35_L17_eq s)
noncomputable def q35_23 (v1 v3 v5 v6 v7 : AV) (h : Heap) : OX :=
ob (evLd true 5 v1 h) fun v100 =>
oh (callAny E (callW E) 0 none true 79 [v100, v7] h) fun v102 h9 =>
ob (evLen 1 v102 h9) fun v103 =>
(q35_L17 v1 v3 v5 v6 v7 v102 v103 (AV.int .i64 0) h9)
noncomputable def q35_23k (s : St) : OX := q35_23 (s 1) (s 3) (s 5) (s 6) (s 7) s.h
theorem q35_23_eq (s : St) : W E 0 c_q35_23 s q35_16k (exitTo 5 q35_4k (exitTo 4 q35_L2k (exitTo 3 q35_L2k (exitTo 2 q35_1k xN)))) (finP [.t 2]) = q35_23k s :=
  (W_seq (k := q35_L17k) (fun s => q35_22_eq s)).trans (by kernel_rfl)
theorem q35_24_eq (s : St) : W E 0 c_q35_24 s q35_4k (exitTo 5 q35_4k (exitTo 4 q35_L2k (exitTo 3 q35_L2k (exitTo 2 q35_1k xN)))) (finP [.t 2]) = q35_23k s :=
  (W_seq (k := q35_16k) (fun s => q35_16_eq s)).trans (q35_23_eq s)
noncomputable def q35_L25 (v1 v3 v5 v6 v7 v78 v79 v80 : AV) (h : Heap) : OX :=
  W E 0 c_q35_L25 ⟨[(1, v1), (3, v3), (5, v5), (6, v6), (7, v7), (78, v78), (79, v79), (80, v80)], h⟩ q35_23k (exitTo 6 q35_23k (exitTo 5 q35_4k (exitTo 4 q35_L2k (exitTo 3 q35_L2k (exitTo 2 q35_1k xN))))) (finP [.t 2])
noncomputable def q35_L25k (s : St) : OX := q35_L25 (s 1) (s 3) (s 5) (s 6) (s 7) (s 78) (s 79) (s 80) s.h
theorem q35_L25_eq (s : St) : W E 0 c_q35_L25 s q35_23k (exitTo 6 q35_23k (exitTo 5 q35_4k (exitTo 4 q35_L2k (exitTo 3 q35_L2k (exitTo 2 q35_1k xN))))) (finP [.t 2]) = q35_L25k s := W_loop_live.trans (by kernel_rfl)
noncomputable def q35_26 (v1 v3 v5 v6 v7 v78 v79 v80 : AV) (h : Heap) : OX :=
ob (evBin .add v80 (AV.int .i64 1)) fun v99 =>
(q35_L25 v1 v3 v5 v6 v7 v78 v79 v99 h)
noncomputable def q35_26k (s : St) : OX := q35_26 (s 1) (s 3) (s 5) (s 6) (s 7) (s 78) (s 79) (s 80) s.h
theorem q35_26_eq (s : St) : W E 0 c_q35_26 s q35_L25k (exitTo 6 q35_23k (exitTo 5 q35_4k (exitTo 4 q35_L2k (exitTo 3 q35_L2k (exitTo 2 q35_1k xN))))) (finP [.t 2]) = q35_26k s :=
  by kernel_rfl
noncomputable def q35_27 (v1 v3 v5 v6 v7 v78 v79 v80 : AV) (h : Heap) : OX :=
ob (evIxs 1 v78 v80) fun v82 =>
ob (evLd false 1 v82 h) fun v83 =>
ob (evNilchk v5) fun v85 =>
ob (evFa 1 v85) fun v86 =>
ob (evLd false 1 v86 h) fun v87 =>
ob (evIxs 1 v87 v7) fun v89 =>
ob (evLd false 1 v89 h) fun v90 =>
ob (evNilchk v5) fun v92 =>
ob (evFa 0 v92) fun v93 =>
ob (evLd false 1 v93 h) fun v94 =>
ob (evIxs 1 v94 v83) fun v96 =>
ob (evLd false 1 v96 h) fun v97 =>
oh (callAny E (callW E) 0 none false 84 [v90, v97] h) fun v98 h10 =>
(q35_26 v1 v3 v5 v6 v7 v78 v79 v80 h10)
noncomputable def q35_27k (s : St) : OX := q35_27 (s 1) (s 3) (s 5) (s 6) (s 7) (s 78) (s 79) (s 80) s.h
theorem q35_27_eq (s : St) : W E 0 c_q35_27 s q35_L25k (exitTo 6 q35_23k (exitTo 5 q35_4k (exitTo 4 q35_L2k (exitTo 3 q35_L2k (exitTo 2 q35_1k xN))))) (finP [.t 2]) = q35_27k s :=
  (W_seq (k := q35_26k) (fun s => q35_26_eq s)).trans (by kernel_rfl)
noncomputable def q35_28 (v1 v3 v5 v6 v7 v78 v79 v80 v81 : AV) (h : Heap) : OX :=
cnd v81
 ((q35_27 v1 v3 v5 v6 v7 v78 v79 v80 h))
 ((q35_23 v1 v3 v5 v6 v7 h))
noncomputable def q35_28k (s : St) : OX := q35_28 (s 1) (s 3) (s 5) (s 6) (s 7) (s 78) (s 79) (s 80) (s 81) s.h
theorem q35_28_eq (s : St) : W E 0 c_q35_28 s q35_L25k (exitTo 6 q35_23k (exitTo 5 q35_4k (exitTo 4 q35_L2k (exitTo 3 q35_L2k (exitTo 2 q35_1k xN))))) (finP [.t 2]) = q35_28k s :=
  (W_seq (k := q35_27k) (fun s => q35_27_eq s)).trans (by kernel_rfl)
noncomputable def q35_29 (v1 v3 v5 v6 v7 v78 v79 v80 : AV) (h : Heap) : OX :=
ob (evBin .lss v80 v79) fun v81 =>
(q35_28 v1 v3 v5 v6 v7 v78 v79 v80 v81 h)
noncomputable def q35_29k (s : St) : OX := q35_29 (s 1) (s 3) (s 5) (s 6) (s 7) (s 78) (s 79) (s 80) s.h
theorem q35_29_eq (s : St) : W E 0 c_q35_29 s q35_L25k (exitTo 6 q35_23k (exitTo 5 q35_4k (exitTo 4 q35_L2k (exitTo 3 q35_L2k (exitTo 2 q35_1k xN))))) (finP [.t 2]) = q35_29k s :=
  (W_seq (k := q35_28k) (fun s => q35_28_eq s)).trans (by kernel_rfl)
theorem q35_L25_go (v1 v3 v5 v6 v7 v78 v79 v80 : AV) (h : Heap) : q35_L25 v1 v3 v5 v6 v7 v78 v79 v80 h = (q35_29 v1 v3 v5 v6 v7 v78 v79 v80 h) :=
  W_loop.trans ((W_congr _ _ _ (n' := q35_L25k) (fun s => q35_L25_eq s)).trans ((q35_29_eq _).trans (by kernel_rfl)))
theorem q35_30_eq (s : St) : W E 0 c_q35_30 s q35_23k (exitTo 5 q35_4k (exitTo 4 q35_L2k (exitTo 3 q35_L2k (exitTo 2 q35_1k xN)))) (finP [.t 2]) = q35_L25k s :=
  W_block.trans (q35_L25_eq s)
noncomputable def q35_31 (v1 v3 v5 v6 v7 : AV) (h : Heap) : OX :=
ob (evLd true 5 v1 h) fun v76 =>
oh (callAny E (callW E) 0 none true 81 [v76, v7] h) fun v78 h11 =>
ob (evLen 1 v78 h11) fun v79 =>
(q35_L25 v1 v3 v5 v6 v7 v78 v79 (AV.int .i64 0) h11)
noncomputable def q35_31k (s : St) : OX := q35_31 (s 1) (s 3) (s 5) (s 6) (s 7) s.h
theorem q35_31_eq (s : St) : W E 0 c_q35_31 s q35_23k (exitTo 5 q35_4k (exitTo 4 q35_L2k (exitTo 3 q35_L2k (exitTo 2 q35_1k xN)))) (finP [.t 2]) = q35_31k s :=
  (W_seq (k := q35_L25k) (fun s => q35_30_eq s)).trans (by kernel_rfl)
theorem q35_32_eq (s : St) : W E 0 c_q35_32 s q35_4k (exitTo 5 q35_4k (exitTo 4 q35_L2k (exitTo 3 q35_L2k (exitTo 2 q35_1k xN)))) (finP [.t 2]) = q35_31k s :=
  (W_seq (k := q35_23k) (fun s => q35_24_eq s)).trans (q35_31_eq s)
theorem q35_33_eq (s : St) : W E 0 c_q35_33 s q35_4k (exitTo 4 q35_L2k (exitTo 3 q35_L2k (exitTo 2 q35_1k xN))) (finP [.t 2]) = q35_31k s :=
  W_block.trans (q35_32_eq s)
theorem q35_34_eq (s : St) : W E 0 c_q35_34 s q35_L3k (exitTo 4 q35_L2k (exitTo 3 q35_L2k (exitTo 2 q35_1k xN))) (finP [.t 2]) = q35_31k s :=
  (W_seq (k := q35_4k) (fun s => q35_4_eq s)).trans (q35_33_eq s)
noncomputable def q35_35 (v1 v3 v5 v6 v7 : AV) (h : Heap) : OX :=
ob (evBin .geq v7 (AV.int .i64 0)) fun v73 =>
cnd v73
 ((q35_31 v1 v3 v5 v6 v7 h))
 ((q35_L2 v1 v3 v5 v6 h))
noncomputable def q35_35k (s : St) : OX := q35_35 (s 1) (s 3) (s 5) (s 6) (s 7) s.h
theorem q35_35_eq (s : St) : W E 0 c_q35_35 s q35_L3k (exitTo 4 q35_L2k (exitTo 3 q35_L2k (exitTo 2 q35_1k xN))) (finP [.t 2]) = q35_35k s :=
  (W_seq (k := q35_31k) (fun s => q35_34_eq s)).trans (by kernel_rfl)
theorem q35_L3_go (v1 v3 v5 v6 v7 : AV) (h : Heap) : q35_L3 v1 v3 v5 v6 v7 h = (q35_35 v1 v3 v5 v6 v7 h) :=
  W_loop.trans ((W_congr _ _ _ (n' := q35_L3k) (fun s => q35_L3_eq s)).trans ((q35_35_eq _).trans (by kernel_rfl)))
theorem q35_36_eq (s : St) : W E 0 c_q35_36 s q35_L2k (exitTo 3 q35_L2k (exitTo 2 q35_1k xN)) (finP [.t 2]) = q35_L3k s :=
  W_block.trans (q35_L3_eq s)
noncomputable def q35_37 (v1 v3 v5 v6 : AV) (h : Heap) : OX :=
ob (evBin .sub v3 (AV.int .i64 1)) fun v71 =>
(q35_L3 v1 v3 v5 v6 v71 h)
noncomputable def q35_37k (s : St) : OX := q35_37 (s 1) (s 3) (s 5) (s 6) s.h
theorem q35_37_eq (s : St) : W E 0 c_q35_37 s q35_L2k (exitTo 3 q35_L2k (exitTo 2 q35_1k xN)) (finP [.t 2]) = q35_37k s :=
  (W_seq (k := q35_L3k) (fun s => q35_36_eq s)).trans (by kernel_rfl)
noncomputable def q35_38 (v1 v3 v5 : AV) (h : Heap) : OX :=
(q35_37 v1 v3 v5 (AV.bool false) h)
noncomputable def q35_38k (s : St) : OX := q35_38 (s 1) (s 3) (s 5) s.h
theorem q35_38_eq (s : St) : W E 0 c_q35_38 s q35_L2k (exitTo 3 q35_L2k (exitTo 2 q35_1k xN)) (finP [.t 2]) = q35_38k s :=
  (W_seq (k := q35_37k) (fun s => q35_37_eq s)).trans (by kernel_rfl)
theorem q35_39_eq (s : St) : W E 0 c_q35_39 s q35_L2k (exitTo 2 q35_1k xN) (finP [.t 2]) = q35_38k s :=
  W_block.trans (q35_38_eq s)
noncomputable def q35_40 (v1 v3 v5 v6 : AV) (h : Heap) : OX :=
cnd v6
 ((q35_38 v1 v3 v5 h))
 ((q35_1 v5 h))
noncomputable def q35_40k (s : St) : OX := q35_40 (s 1) (s 3) (s 5) (s 6) s.h
theorem q35_40_eq (s : St) : W E 0 c_q35_40 s q35_L2k (exitTo 2 q35_1k xN) (finP [.t 2]) = q35_40k s :=
  (W_seq (k := q35_38k) (fun s => q35_39_eq s)).trans (by kernel_rfl)
theorem q35_L2_go (v1 v3 v5 v6 : AV) (h : Heap) : q35_L2 v1 v3 v5 v6 h = (q35_40 v1 v3 v5 v6 h) :=
  W_loop.trans ((W_congr _ _ _ (n' := q35_L2k) (fun s => q35_L2_eq s)).trans ((q35_40_eq _).trans (by kernel_rfl)))
theorem q35_41_eq (s : St) : W E 0 c_q35_41 s q35_1k xN (finP [.t 2]) = q35_L2k s :=
  W_block.trans (q35_L2_eq s)
noncomputable def q35_42 (v1 v3 v5 : AV) (h : Heap) : OX :=
(q35_L2 v1 v3 v5 (AV.bool true) h)
noncomputable def q35_42k (s : St) : OX := q35_42 (s 1) (s 3) (s 5) s.h
theorem q35_42_eq (s : St) : W E 0 c_q35_42 s q35_1k xN (finP [.t 2]) = q35_42k s :=
  (W_seq (k := q35_L2k) (fun s => q35_41_eq s)).trans (by kernel_rfl)
theorem q35_43_eq (s : St) : W E 0 c_q35_43 s (finP [.t 2]) xN (finP [.t 2]) = q35_42k s :=
  (W_seq (k := q35_1k) (fun s => q35_1_eq s)).trans (q35_42_eq s)
noncomputable def q35_L44 (v1 v3 v4 v5 v32 v33 : AV) (h : Heap) : OX :=
  W E 0 c_q35_L44 ⟨[(1, v1), (3, v3), (4, v4), (5, v5), (32, v32), (33, v33)], h⟩ q35_42k (exitTo 0 q35_42k xN) (finP [.t 2])
noncomputable def q35_L44k (s : St) : OX := q35_L44 (s 1) (s 3) (s 4) (s 5) (s 32) (s 33) s.h
theorem q35_L44_eq (s : St) : W E 0 c_q35_L44 s q35_42k (exitTo 0 q35_42k xN) (finP [.t 2]) = q35_L44k s := W_loop_live.trans (by kernel_rfl)
noncomputable def q35_45 (v1 v3 v4 v5 v32 v33 : AV) (h : Heap) : OX :=
ob (evBin .add v33 (AV.int .i64 1)) fun v68 =>
(q35_L44 v1 v3 v4 v5 v32 v68 h)
noncomputable def q35_45k (s : St) : OX := q35_45 (s 1) (s 3) (s 4) (s 5) (s 32) (s 33) s.h
theorem q35_45_eq (s : St) : W E 0 c_q35_45 s q35_L44k (exitTo 0 q35_42k xN) (finP [.t 2]) = q35_45k s :=
  by kernel_rfl
noncomputable def q35_46 (v1 v3 v4 v5 v32 v33 : AV) (h : Heap) : OX :=
ob (evNilchk v5) fun v39 =>
ob (evFa 0 v39) fun v40 =>
ob (evLd false 1 v40 (h ++ deadSlots 9)) fun v41 =>
oh (mkSC h.length (some 0) 1 8 [(.int .u64 0)] v4 v4 (h ++ deadSlots 9)) fun v43 h12 =>
oh (buildSC h.length (some 1) 1 1 [.nils] [(0, v43)] h12) fun v44 h13 =>
oh (evApp h.length (some 2) 1 24 v41 v44 h13) fun v45 h14 =>
ob (evNilchk v5) fun v47 =>
ob (evFa 1 v47) fun v48 =>
ob (evLd false 1 v48 h14) fun v49 =>
oh (mkSC h.length (some 3) 1 8 [(.int .u64 0)] v4 v4 h14) fun v51 h15 =>
oh (buildSC h.length (some 4) 1 1 [.nils] [(0, v51)] h15) fun v52 h16 =>
oh (evApp h.length (some 5) 1 24 v49 v52 h16) fun v53 h17 =>
ob (evNilchk v5) fun v55 =>
ob (evFa 2 v55) fun v56 =>
ob (evLd false 1 v56 h17) fun v57 =>
oh (mkSC h.length (some 6) 1 8 [(.int .u64 0)] v4 v4 h17) fun v59 h18 =>
oh (buildSC h.length (some 7) 1 1 [.nils] [(0, v59)] h18) fun v60 h19 =>
oh (evApp h.length (some 8) 1 24 v57 v60 h19) fun v61 h20 =>
ob (evNilchk v5) fun v62 =>
ob (evFa 0 v62) fun v63 =>
oh (evSt 1 v63 v45 h20) fun _ h21 =>
ob (evNilchk v5) fun v64 =>
ob (evFa 1 v64) fun v65 =>
oh (evSt 1 v65 v53 h21) fun _ h22 =>
ob (evNilchk v5) fun v66 =>
ob (evFa 2 v66) fun v67 =>
oh (evSt 1 v67 v61 h22) fun _ h23 =>
okK (pairsOk [([], []), ([], []), ([], []), ([], []), ([], []), ([], []), (ids1 v40, []), ([], []), ([], [h.length + 0]), ([], [h.length + 1]), (ids1 v44, ids1 v41 ++ [h.length + 2]), ([], []), ([], []), ([], []), (ids1 v48, []), ([], []), ([], [h.length + 3]), ([], [h.length + 4]), (ids1 v52, ids1 v49 ++ [h.length + 5]), ([], []), ([], []), ([], []), (ids1 v56, []), ([], []), ([], [h.length + 6]), ([], [h.length + 7]), (ids1 v60, ids1 v57 ++ [h.length + 8]), ([], []), ([], []), ([], ids1 v63), ([], []), ([], []), ([], ids1 v65), ([], []), ([], []), ([], ids1 v67)] [(6, 8), (6, 9), (8, 14), (9, 14), (10, 14), (6, 16), (8, 16), (9, 16), (10, 16), (14, 16), (6, 17), (8, 17), (9, 17), (10, 17), (14, 17), (8, 22), (9, 22), (10, 22), (16, 22), (17, 22), (18, 22), (6, 24), (8, 24), (9, 24), (10, 24), (14, 24), (16, 24), (17, 24), (18, 24), (22, 24), (6, 25), (8, 25), (9, 25), (10, 25), (14, 25), (16, 25), (17, 25), (18, 25), (22, 25)]) <|
(q35_45 v1 v3 v4 v5 v32 v33 h23)
noncomputable def q35_46k (s : St) : OX := q35_46 (s 1) (s 3) (s 4) (s 5) (s 32) (s 33) s.h
theorem q35_46_eq (s : St) : W E 0 c_q35_46 s q35_L44k (exitTo 0 q35_42k xN) (finP [.t 2]) = q35_46k s :=
  (W_seq (k := q35_45k) (fun s => q35_45_eq s)).trans (by kernel_rfl)
noncomputable def q35_47 (v1 v3 v4 v5 v32 v33 v34 : AV) (h : Heap) : OX :=
cnd v34
 ((q35_46 v1 v3 v4 v5 v32 v33 h))
 ((q35_42 v1 v3 v5 h))
noncomputable def q35_47k (s : St) : OX := q35_47 (s 1) (s 3) (s 4) (s 5) (s 32) (s 33) (s 34) s.h
theorem q35_47_eq (s : St) : W E 0 c_q35_47 s q35_L44k (exitTo 0 q35_42k xN) (finP [.t 2]) = q35_47k s :=
  (W_seq (k := q35_46k) (fun s => q35_46_eq s)).trans (by kernel_rfl)
noncomputable def q35_48 (v1 v3 v4 v5 v32 v33 : AV) (h : Heap) : OX :=
ob (evBin .lss v33 v32) fun v34 =>
(q35_47 v1 v3 v4 v5 v32 v33 v34 h)
noncomputable def q35_48k (s : St) : OX := q35_48 (s 1) (s 3) (s 4) (s 5) (s 32) (s 33) s.h
theorem q35_48_eq (s : St) : W E 0 c_q35_48 s q35_L44k (exitTo 0 q35_42k xN) (finP [.t 2]) = q35_48k s :=
  (W_seq (k := q35_47k) (fun s => q35_47_eq s)).trans (by kernel_rfl)
theorem q35_L44_go (v1 v3 v4 v5 v32 v33 : AV) (h : Heap) : q35_L44 v1 v3 v4 v5 v32 v33 h = (q35_48 v1 v3 v4 v5 v32 v33 h) :=
  W_loop.trans ((W_congr _ _ _ (n' := q35_L44k) (fun s => q35_L44_eq s)).trans ((q35_48_eq _).trans (by kernel_rfl)))
theorem q35_49_eq (s : St) : W E 0 c_q35_49 s q35_42k xN (finP [.t 2]) = q35_L44k s :=
  W_block.trans (q35_L44_eq s)
noncomputable def q35_50 (v1 v3 v4 v5 : AV) (h : Heap) : OX :=
(q35_L44 v1 v3 v4 v5 v3 (AV.int .i64 0) h)
noncomputable def q35_50k (s : St) : OX := q35_50 (s 1) (s 3) (s 4) (s 5) s.h
theorem q35_50_eq (s : St) : W E 0 c_q35_50 s q35_42k xN (finP [.t 2]) = q35_50k s :=
  (W_seq (k := q35_L44k) (fun s => q35_49_eq s)).trans (by kernel_rfl)
theorem q35_51_eq (s : St) : W E 0 c_q35_51 s (finP [.t 2]) xN (finP [.t 2]) = q35_50k s :=
  (W_seq (k := q35_42k) (fun s => q35_43_eq s)).trans (q35_50_eq s)
noncomputable def q35_52 (v1 v3 v4 : AV) (h : Heap) : OX :=
ob (evFa 0 v1) fun v27 =>
ob (evLd false 1 v27 h) fun v28 =>
ob (evLen 1 v28 h) fun v29 =>
ob (evBuild [.nils, .nils, .nils, (.int .i64 0)] [(3, 1, v29)]) fun v30 =>
oh (newC 0 (some 1) (cellsOf v30) h) fun v31 h24 =>
(q35_50 v1 v3 v4 v31 h24)
noncomputable def q35_52k (s : St) : OX := q35_52 (s 1) (s 3) (s 4) s.h
theorem q35_52_eq (s : St) : W E 0 c_q35_52 s (finP [.t 2]) xN (finP [.t 2]) = q35_52k s :=
  (W_seq (k := q35_50k) (fun s => q35_51_eq s)).trans (by kernel_rfl)
noncomputable def q35_53 (v1 : AV) (h : Heap) : OX :=
ob (evFa 3 v1) fun v19 =>
ob (evLd false 1 v19 h) fun v20 =>
ob (evLen 1 v20 h) fun v21 =>
ob (evFa 0 v1) fun v22 =>
ob (evLd false 1 v22 h) fun v23 =>
ob (evLen 1 v23 h) fun v24 =>
ob (evBin .quo v24 (AV.int .i64 64)) fun v25 =>
ob (evBin .add v25 (AV.int .i64 1)) fun v26 =>
(q35_52 v1 v21 v26 h)
noncomputable def q35_53k (s : St) : OX := q35_53 (s 1) s.h
theorem q35_53_eq (s : St) : W E 0 c_q35_53 s (finP [.t 2]) xN (finP [.t 2]) = q35_53k s :=
  (W_seq (k := q35_52k) (fun s => q35_52_eq s)).trans (by kernel_rfl)
noncomputable def q35_54 (v1 : AV) (h : Heap) : OX :=
ob (evLd true 5 v1 h) fun v16 =>
oh (callAny E (callW E) 0 none true 8 [v16] h) fun v17 h25 =>
ob (evBin .neq v17 (AV.int .i64 0)) fun v18 =>
cnd v18
 ((expo1 h25 AV.nilp))
 ((q35_53 v1 h25))
noncomputable def q35_54k (s : St) : OX := q35_54 (s 1) s.h
theorem q35_54_eq (s : St) : W E 0 c_q35_54 s (finP [.t 2]) xN (finP [.t 2]) = q35_54k s :=
  (W_seq (k := q35_53k) (fun s => q35_53_eq s)).trans (by kernel_rfl)
noncomputable def q35_55 (v0 : AV) (h : Heap) : OX :=
oh (newC 0 (some 0) (cellsOf v0) h) fun v1 h26 =>
(q35_54 v1 h26)
noncomputable def q35_55k (s : St) : OX := q35_55 (s 0) s.h
theorem q35_55_eq (s : St) : W E 0 c_q35_55 s (finP [.t 2]) xN (finP [.t 2]) = q35_55k s :=
  (W_seq (k := q35_54k) (fun s => q35_54_eq s)).trans (by kernel_rfl)
@[simp] theorem pure_75 : E.pure 75 = true := rfl
theorem x_q35 (v0 : AV) : (callW E).p 75 [v0] = q35_55 v0 [⟨0, .dead⟩, ⟨0, .dead⟩, ⟨0, .dead⟩] :=
  (callP_W (cf := c_q35) (by kernel_rfl) rfl).trans ((q35_55_eq _).trans (by kernel_rfl))
noncomputable def q60_1 (h : Heap) : OX :=
(expo1 h (AV.int .i64 0))
noncomputable def q60_1k (s : St) : OX := q60_1 s.h
theorem q60_1_eq (s : St) : W E 0 c_q60_1 s (finP [.t 2]) xN (finP [.t 2]) = q60_1k s :=
  by kernel_rfl
noncomputable def q60_L2 (v1 v3 v8 : AV) (h : Heap) : OX :=
  W E 0 c_q60_L2 ⟨[(1, v1), (3, v3), (8, v8)], h⟩ q60_1k (exitTo 6 q60_1k xN) (finP [.t 2])
noncomputable def q60_L2k (s : St) : OX := q60_L2 (s 1) (s 3) (s 8) s.h
theorem q60_L2_eq (s : St) : W E 0 c_q60_L2 s q60_1k (exitTo 6 q60_1k xN) (finP [.t 2]) = q60_L2k s := W_loop_live.trans (by kernel_rfl)
noncomputable def q60_3 (v1 v3 v8 : AV) (h : Heap) : OX :=
ob (evBin .add v8 (AV.int .i64 1)) fun v155 =>
(q60_L2 v1 v3 v155 h)
noncomputable def q60_3k (s : St) : OX := q60_3 (s 1) (s 3) (s 8) s.h
theorem q60_3_eq (s : St) : W E 0 c_q60_3 s q60_L2k (exitTo 6 q60_1k xN) (finP [.t 2]) = q60_3k s :=
  by kernel_rfl
noncomputable def q60_4 (v1 v3 v8 : AV) (h : Heap) : OX :=
ob (evFa 4 v1) fun v156 =>
ob (evLd false 1 v156 h) fun v157 =>
ob (evIxs 4 v157 v8) fun v159 =>
ob (evLd true 4 v159 h) fun v160 =>
oh (newC 0 (some 2) [(.int .i64 0), (.int .i64 0), (.int .i64 0), (.str [])] h) fun v9 h1 =>
oh (evSt 4 v9 v160 h1) fun _ h2 =>
ob (evFa 0 v9) fun v161 =>
ob (evLd false 1 v161 h2) fun v162 =>
ob (evBin .lss v162 (AV.int .i64 0)) fun v163 =>
gb v163 false (evFa 0 v9) fun v165 =>
gb v163 false (evLd false 1 v165 h2) fun v166 =>
gb v163 false (evFa 1 v9) fun v167 =>
gb v163 false (evLd false 1 v167 h2) fun v168 =>
gb v163 false (evBin .geq v166 v168) fun v169 =>
ob (evPick v163 (AV.bool true) v169) fun v170 =>
gb v170 false (evFa 1 v9) fun v172 =>
gb v170 false (evLd false 1 v172 h2) fun v173 =>
gb v170 false (some v3) fun v174 =>
gb v170 false (evBin .gtr v173 v174) fun v175 =>
ob (evPick v170 (AV.bool true) v175) fun v176 =>
gb v176 false (evLd true 5 v1 h2) fun v178 =>
gb v176 false (evFa 2 v9) fun v179 =>
gb v176 false (evLd false 1 v179 h2) fun v180 =>
gh v176 false (callAny E (callW E) 0 none true 49 [v178, v180] h2) h2 fun v181 h3 =>
gb v176 false (evUn .not v181) fun v182 =>
ob (evPick v176 (AV.bool true) v182) fun v183 =>
gb v183 false (evFa 3 v1) fun v185 =>
gb v183 false (evLd false 1 v185 h3) fun v186 =>
gb v183 false (evFa 2 v9) fun v187 =>
gb v183 false (evLd false 1 v187 h3) fun v188 =>
gb v183 false (evIxs 9 v186 v188) fun v189 =>
gb v183 false (evFa 0 v189) fun v190 =>
gb v183 false (evLd false 1 v190 h3) fun v191 =>
gb v183 false (evBin .neq v191 (AV.int .i64 32)) fun v192 =>
ob (evPick v183 (AV.bool true) v192) fun v193 =>
cnd v193
 ((expo1 h3 (AV.int .i64 80)))
 ((q60_3 v1 v3 v8 h3))
noncomputable def q60_4k (s : St) : OX := q60_4 (s 1) (s 3) (s 8) s.h
theorem q60_4_eq (s : St) : W E 0 c_q60_4 s q60_L2k (exitTo 6 q60_1k xN) (finP [.t 2]) = q60_4k s :=
  (W_seq (k := q60_3k) (fun s => q60_3_eq s)).trans (by kernel_rfl)
noncomputable def q60_5 (v1 v3 v8 : AV) (h : Heap) : OX :=
ob (evFa 4 v1) fun v150 =>
ob (evLd false 1 v150 h) fun v151 =>
ob (evLen 1 v151 h) fun v152 =>
ob (evBin .lss v8 v152) fun v153 =>
cnd v153
 ((q60_4 v1 v3 v8 h))
 ((q60_1 h))
noncomputable def q60_5k (s : St) : OX := q60_5 (s 1) (s 3) (s 8) s.h
theorem q60_5_eq (s : St) : W E 0 c_q60_5 s q60_L2k (exitTo 6 q60_1k xN) (finP [.t 2]) = q60_5k s :=
  (W_seq (k := q60_4k) (fun s => q60_4_eq s)).trans (by kernel_rfl)
theorem q60_L2_go (v1 v3 v8 : AV) (h : Heap) : q60_L2 v1 v3 v8 h = (q60_5 v1 v3 v8 h) :=
  W_loop.trans ((W_congr _ _ _ (n' := q60_L2k) (fun s => q60_L2_eq s)).trans ((q60_5_eq _).trans (by kernel_rfl)))
theorem q60_6_eq (s : St) : W E 0 c_q60_6 s q60_1k xN (finP [.t 2]) = q60_L2k s :=
  W_block.trans (q60_L2_eq s)
noncomputable def q60_7 (v1 v3 : AV) (h : Heap) : OX :=
(q60_L2 v1 v3 (AV.int .i64 0) h)
noncomputable def q60_7k (s : St) : OX := q60_7 (s 1) (s 3) s.h
theorem q60_7_eq (s : St) : W E 0 c_q60_7 s q60_1k xN (finP [.t 2]) = q60_7k s :=
  (W_seq (k := q60_L2k) (fun s => q60_6_eq s)).trans (by kernel_rfl)
theorem q60_8_eq (s : St) : W E 0 c_q60_8 s (finP [.t 2]) xN (finP [.t 2]) = q60_7k s :=
  (W_seq (k := q60_1k) (fun s => q60_1_eq s)).trans (q60_7_eq s)
noncomputable def q60_L9 (v1 v3 v6 : AV) (h : Heap) : OX :=
  W E 0 c_q60_L9 ⟨[(1, v1), (3, v3), (6, v6)], h⟩ q60_7k (exitTo 4 q60_7k xN) (finP [.t 2])
noncomputable def q60_L9k (s : St) : OX := q60_L9 (s 1) (s 3) (s 6) s.h
theorem q60_L9_eq (s : St) : W E 0 c_q60_L9 s q60_7k (exitTo 4 q60_7k xN) (finP [.t 2]) = q60_L9k s := W_loop_live.trans (by kernel_rfl)
noncomputable def q60_10 (v1 v3 v6 : AV) (h : Heap) : OX :=
ob (evBin .add v6 (AV.int .i64 1)) fun v104 =>
(q60_L9 v1 v3 v104 h)
noncomputable def q60_10k (s : St) : OX := q60_10 (s 1) (s 3) (s 6) s.h
theorem q60_10_eq (s : St) : W E 0 c_q60_10 s q60_L9k (exitTo 4 q60_7k xN) (finP [.t 2]) = q60_10k s :=
  by kernel_rfl
noncomputable def q60_11 (v1 v3 v6 : AV) (h : Heap) : OX :=
ob (evFa 3 v1) fun v105 =>
ob (evLd false 1 v105 h) fun v106 =>
ob (evIxs 9 v106 v6) fun v108 =>
ob (evLd true 9 v108 h) fun v109 =>
oh (newC 0 (some 1) [(.int .i64 0), (.int .i64 0), (.int .i64 0), (.int .i64 0), (.int .i64 0), (.int .i64 0), (.int .i64 0), (.str []), .nils] h) fun v7 h4 =>
oh (evSt 9 v7 v109 h4) fun _ h5 =>
ob (evLd true 5 v1 h5) fun v110 =>
ob (evLd true 9 v7 h5) fun v111 =>
oh (callAny E (callW E) 0 none true 64 [v110, v111] h5) fun v112 h6 =>
ob (evUn .not v112) fun v113 =>
gb v113 false (evFa 0 v7) fun v115 =>
gb v113 false (evLd false 1 v115 h6) fun v116 =>
gb v113 false (evBin .eql v116 (AV.int .i64 32)) fun v117 =>
gb v113 false (some v117) fun v118 =>
gb v118 true (some v6) fun v119 =>
gb v118 true (evBin .eql v119 (AV.int .i64 0)) fun v120 =>
gb v118 true (some v120) fun v121 =>
gb v121 false (evFa 3 v1) fun v122 =>
gb v121 false (evLd false 1 v122 h6) fun v123 =>
gb v121 false (some v6) fun v124 =>
gb v121 false (evBin .sub v124 (AV.int .i64 1)) fun v125 =>
gb v121 false (evIxs 9 v123 v125) fun v126 =>
gb v121 false (evFa 0 v126) fun v127 =>
gb v121 false (evLd false 1 v127 h6) fun v128 =>
gh v121 false (callAny E (callW E) 0 none true 25 [v128] h6) h6 fun v129 h7 =>
gb v121 false (evUn .not v129) fun v130 =>
gb v118 true (evPick v121 (AV.bool true) v130) fun v131 =>
gb v113 false (evPick v118 v131 (AV.bool false)) fun v132 =>
ob (evPick v113 (AV.bool true) v132) fun v133 =>
gb v133 false (evFa 0 v7) fun v135 =>
gb v133 false (evLd false 1 v135 h7) fun v136 =>
gh v133 false (callAny E (callW E) 0 none true 23 [v136] h7) h7 fun v137 h8 =>
gb v133 false (some v137) fun v138 =>
gb v138 true (evFa 3 v1) fun v139 =>
gb v138 true (evLd false 1 v139 h8) fun v140 =>
gb v138 true (evFa 6 v7) fun v141 =>
gb v138 true (evLd false 1 v141 h8) fun v142 =>
gb v138 true (evIxs 9 v140 v142) fun v143 =>
gb v138 true (evFa 0 v143) fun v144 =>
gb v138 true (evLd false 1 v144 h8) fun v145 =>
gb v138 true (evBin .eql v145 (AV.int .i64 32)) fun v146 =>
gb v133 false (evPick v138 v146 (AV.bool false)) fun v147 =>
ob (evPick v133 (AV.bool true) v147) fun v148 =>
cnd v148
 ((expo1 h8 (AV.int .i64 80)))
 ((q60_10 v1 v3 v6 h8))
noncomputable def q60_11k (s : St) : OX := q60_11 (s 1) (s 3) (s 6) s.h
theorem q60_11_eq (s : St) : W E 0 c_q60_11 s q60_L9k (exitTo 4 q60_7k xN) (finP [.t 2]) = q60_11k s :=
  (W_seq (k := q60_10k) (fun s => q60_10_eq s)).trans (by kernel_rfl)
noncomputable def q60_12 (v1 v3 v6 : AV) (h : Heap) : OX :=
ob (evBin .lss v6 v3) fun v102 =>
cnd v102
 ((q60_11 v1 v3 v6 h))
 ((q60_7 v1 v3 h))
noncomputable def q60_12k (s : St) : OX := q60_12 (s 1) (s 3) (s 6) s.h
theorem q60_12_eq (s : St) : W E 0 c_q60_12 s q60_L9k (exitTo 4 q60_7k xN) (finP [.t 2]) = q60_12k s :=
  (W_seq (k := q60_11k) (fun s => q60_11_eq s)).trans (by kernel_rfl)
theorem q60_L9_go (v1 v3 v6 : AV) (h : Heap) : q60_L9 v1 v3 v6 h = (q60_12 v1 v3 v6 h) :=
  W_loop.trans ((W_congr _ _ _ (n' := q60_L9k) (fun s => q60_L9_eq s)).trans ((q60_12_eq _).trans (by kernel_rfl)))
theorem q60_13_eq (s : St) : W E 0 c_q60_13 s q60_7k xN (finP [.t 2]) = q60_L9k s :=
  W_block.trans (q60_L9_eq s)
noncomputable def q60_14 (v1 v3 : AV) (h : Heap) : OX :=
(q60_L9 v1 v3 (AV.int .i64 0) h)
noncomputable def q60_14k (s : St) : OX := q60_14 (s 1) (s 3) s.h
theorem q60_14_eq (s : St) : W E 0 c_q60_14 s q60_7k xN (finP [.t 2]) = q60_14k s :=
  (W_seq (k := q60_L9k) (fun s => q60_13_eq s)).trans (by kernel_rfl)
theorem q60_15_eq (s : St) : W E 0 c_q60_15 s (finP [.t 2]) xN (finP [.t 2]) = q60_14k s :=
  (W_seq (k := q60_7k) (fun s => q60_8_eq s)).trans (q60_14_eq s)
noncomputable def q60_L16 (v1 v3 v5 : AV) (h : Heap) : OX :=
  W E 0 c_q60_L16 ⟨[(1, v1), (3, v3), (5, v5)], h⟩ q60_14k (exitTo 2 q60_14k xN) (finP [.t 2])
noncomputable def q60_L16k (s : St) : OX := q60_L16 (s 1) (s 3) (s 5) s.h
theorem q60_L16_eq (s : St) : W E 0 c_q60_L16 s q60_14k (exitTo 2 q60_14k xN) (finP [.t 2]) = q60_L16k s := W_loop_live.trans (by kernel_rfl)
noncomputable def q60_17 (v1 v3 v5 : AV) (h : Heap) : OX :=
ob (evBin .add v5 (AV.int .i64 1)) fun v79 =>
(q60_L16 v1 v3 v79 h)
noncomputable def q60_17k (s : St) : OX := q60_17 (s 1) (s 3) (s 5) s.h
theorem q60_17_eq (s : St) : W E 0 c_q60_17 s q60_L16k (exitTo 2 q60_14k xN) (finP [.t 2]) = q60_17k s :=
  by kernel_rfl
noncomputable def q60_18 (v1 v3 v5 : AV) (h : Heap) : OX :=
ob (evLd true 5 v1 h) fun v80 =>
ob (evFa 1 v1) fun v81 =>
ob (evLd false 1 v81 h) fun v82 =>
ob (evIxs 1 v82 v5) fun v84 =>
ob (evLd false 1 v84 h) fun v85 =>
oh (callAny E (callW E) 0 none true 48 [v80, v85] h) fun v86 h9 =>
ob (evBin .eql v86 (AV.int .i64 0)) fun v87 =>
gb v87 false (evFa 1 v1) fun v89 =>
gb v87 false (evLd false 1 v89 h9) fun v90 =>
gb v87 false (some v5) fun v91 =>
gb v87 false (evIxs 1 v90 v91) fun v92 =>
gb v87 false (evLd false 1 v92 h9) fun v93 =>
gb v87 false (evFa 1 v1) fun v94 =>
gb v87 false (evLd false 1 v94 h9) fun v95 =>
gb v87 false (some v5) fun v96 =>
gb v87 false (evSlcO 1 v95 none (some v96)) fun v97 =>
gh v87 false (callAny E (callW E) 0 none true 42 [v93, v97] h9) h9 fun v98 h10 =>
ob (evPick v87 (AV.bool true) v98) fun v99 =>
cnd v99
 ((expo1 h10 (AV.int .i64 80)))
 ((q60_17 v1 v3 v5 h10))
noncomputable def q60_18k (s : St) : OX := q60_18 (s 1) (s 3) (s 5) s.h
theorem q60_18_eq (s : St) : W E 0 c_q60_18 s q60_L16k (exitTo 2 q60_14k xN) (finP [.t 2]) = q60_18k s :=
  (W_seq (k := q60_17k) (fun s => q60_17_eq s)).trans (by kernel_rfl)
noncomputable def q60_19 (v1 v3 v5 : AV) (h : Heap) : OX :=
ob (evFa 1 v1) fun v74 =>
ob (evLd false 1 v74 h) fun v75 =>
ob (evLen 1 v75 h) fun v76 =>
ob (evBin .lss v5 v76) fun v77 =>
cnd v77
 ((q60_18 v1 v3 v5 h))
 ((q60_14 v1 v3 h))
noncomputable def q60_19k (s : St) : OX := q60_19 (s 1) (s 3) (s 5) s.h
theorem q60_19_eq (s : St) : W E 0 c_q60_19 s q60_L16k (exitTo 2 q60_14k xN) (finP [.t 2]) = q60_19k s :=
  (W_seq (k := q60_18k) (fun s => q60_18_eq s)).trans (by kernel_rfl)
theorem q60_L16_go (v1 v3 v5 : AV) (h : Heap) : q60_L16 v1 v3 v5 h = (q60_19 v1 v3 v5 h) :=
  W_loop.trans ((W_congr _ _ _ (n' := q60_L16k) (fun s => q60_L16_eq s)).trans ((q60_19_eq _).trans (by kernel_rfl)))
theorem q60_20_eq (s : St) : W E 0 c_q60_20 s q60_14k xN (finP [.t 2]) = q60_L16k s :=
  W_block.trans (q60_L16_eq s)
noncomputable def q60_21 (v1 v3 : AV) (h : Heap) : OX :=
(q60_L16 v1 v3 (AV.int .i64 0) h)
noncomputable def q60_21k (s : St) : OX := q60_21 (s 1) (s 3) s.h
theorem q60_21_eq (s : St) : W E 0 c_q60_21 s q60_14k xN (finP [.t 2]) = q60_21k s :=
  (W_seq (k := q60_L16k) (fun s => q60_20_eq s)).trans (by kernel_rfl)
theorem q60_22_eq (s : St) : W E 0 c_q60_22 s (finP [.t 2]) xN (finP [.t 2]) = q60_21k s :=
  (W_seq (k := q60_14k) (fun s => q60_15_eq s)).trans (q60_21_eq s)
noncomputable def q60_L23 (v1 v3 v4 : AV) (h : Heap) : OX :=
  W E 0 c_q60_L23 ⟨[(1, v1), (3, v3), (4, v4)], h⟩ q60_21k (exitTo 0 q60_21k xN) (finP [.t 2])
noncomputable def q60_L23k (s : St) : OX := q60_L23 (s 1) (s 3) (s 4) s.h
theorem q60_L23_eq (s : St) : W E 0 c_q60_L23 s q60_21k (exitTo 0 q60_21k xN) (finP [.t 2]) = q60_L23k s := W_loop_live.trans (by kernel_rfl)
noncomputable def q60_24 (v1 v3 v4 : AV) (h : Heap) : OX :=
ob (evBin .add v4 (AV.int .i64 1)) fun v58 =>
(q60_L23 v1 v3 v58 h)
noncomputable def q60_24k (s : St) : OX := q60_24 (s 1) (s 3) (s 4) s.h
theorem q60_24_eq (s : St) : W E 0 c_q60_24 s q60_L23k (exitTo 0 q60_21k xN) (finP [.t 2]) = q60_24k s :=
  by kernel_rfl
noncomputable def q60_25 (v1 v3 v4 : AV) (h : Heap) : OX :=
ob (evFa 0 v1) fun v59 =>
ob (evLd false 1 v59 h) fun v60 =>
ob (evIxs 1 v60 v4) fun v62 =>
ob (evLd false 1 v62 h) fun v63 =>
ob (evBin .lss v63 (AV.int .i64 1)) fun v64 =>
gb v64 false (evFa 0 v1) fun v66 =>
gb v64 false (evLd false 1 v66 h) fun v67 =>
gb v64 false (some v4) fun v68 =>
gb v64 false (evIxs 1 v67 v68) fun v69 =>
gb v64 false (evLd false 1 v69 h) fun v70 =>
gb v64 false (evBin .gtr v70 (AV.int .i64 3)) fun v71 =>
ob (evPick v64 (AV.bool true) v71) fun v72 =>
cnd v72
 ((expo1 h (AV.int .i64 80)))
 ((q60_24 v1 v3 v4 h))
noncomputable def q60_25k (s : St) : OX := q60_25 (s 1) (s 3) (s 4) s.h
theorem q60_25_eq (s : St) : W E 0 c_q60_25 s q60_L23k (exitTo 0 q60_21k xN) (finP [.t 2]) = q60_25k s :=
  (W_seq (k := q60_24k) (fun s => q60_24_eq s)).trans (by kernel_rfl)
noncomputable def q60_26 (v1 v3 v4 : AV) (h : Heap) : OX :=
ob (evFa 0 v1) fun v53 =>
ob (evLd false 1 v53 h) fun v54 =>
ob (evLen 1 v54 h) fun v55 =>
ob (evBin .lss v4 v55) fun v56 =>
cnd v56
 ((q60_25 v1 v3 v4 h))
 ((q60_21 v1 v3 h))
noncomputable def q60_26k (s : St) : OX := q60_26 (s 1) (s 3) (s 4) s.h
theorem q60_26_eq (s : St) : W E 0 c_q60_26 s q60_L23k (exitTo 0 q60_21k xN) (finP [.t 2]) = q60_26k s :=
  (W_seq (k := q60_25k) (fun s => q60_25_eq s)).trans (by kernel_rfl)
theorem q60_L23_go (v1 v3 v4 : AV) (h : Heap) : q60_L23 v1 v3 v4 h = (q60_26 v1 v3 v4 h) :=
  W_loop.trans ((W_congr _ _ _ (n' := q60_L23k) (fun s => q60_L23_eq s)).trans ((q60_26_eq _).trans (by kernel_rfl)))
theorem q60_27_eq (s : St) : W E 0 c_q60_27 s q60_21k xN (finP [.t 2]) = q60_L23k s :=
  W_block.trans (q60_L23_eq s)
noncomputable def q60_28 (v1 v3 : AV) (h : Heap) : OX :=
(q60_L23 v1 v3 (AV.int .i64 0) h)
noncomputable def q60_28k (s : St) : OX := q60_28 (s 1) (s 3) s.h
theorem q60_28_eq (s : St) : W E 0 c_q60_28 s q60_21k xN (finP [.t 2]) = q60_28k s :=
  (W_seq (k := q60_L23k) (fun s => q60_27_eq s)).trans (by kernel_rfl)
theorem q60_29_eq (s : St) : W E 0 c_q60_29 s (finP [.t 2]) xN (finP [.t 2]) = q60_28k s :=
  (W_seq (k := q60_21k) (fun s => q60_22_eq s)).trans (q60_28_eq s)
noncomputable def q60_30 (v1 v3 : AV) (h : Heap) : OX :=
ob (evBin .eql v3 (AV.int .i64 0)) fun v14 =>
gb v14 false (some v3) fun v16 =>
gb v14 false (evBin .gtr v16 (AV.int .i64 20000)) fun v17 =>
ob (evPick v14 (AV.bool true) v17) fun v18 =>
gb v18 false (evFa 0 v1) fun v20 =>
gb v18 false (evLd false 1 v20 h) fun v21 =>
gb v18 false (evLen 1 v21 h) fun v22 =>
gb v18 false (evBin .gtr v22 (AV.int .i64 20000)) fun v23 =>
ob (evPick v18 (AV.bool true) v23) fun v24 =>
gb v24 false (evFa 1 v1) fun v26 =>
gb v24 false (evLd false 1 v26 h) fun v27 =>
gb v24 false (evLen 1 v27 h) fun v28 =>
gb v24 false (evBin .gtr v28 (AV.int .i64 21)) fun v29 =>
ob (evPick v24 (AV.bool true) v29) fun v30 =>
gb v30 false (evFa 2 v1) fun v32 =>
gb v30 false (evLd false 1 v32 h) fun v33 =>
gb v30 false (evBin .lss v33 (AV.int .i64 0)) fun v34 =>
ob (evPick v30 (AV.bool true) v34) fun v35 =>
gb v35 false (evFa 2 v1) fun v37 =>
gb v35 false (evLd false 1 v37 h) fun v38 =>
gb v35 false (evBin .gtr v38 (AV.int .i64 3)) fun v39 =>
ob (evPick v35 (AV.bool true) v39) fun v40 =>
gb v40 false (evFa 3 v1) fun v42 =>
gb v40 false (evLd false 1 v42 h) fun v43 =>
gb v40 false (some v3) fun v44 =>
gb v40 false (evBin .sub v44 (AV.int .i64 1)) fun v45 =>
gb v40 false (evIxs 9 v43 v45) fun v46 =>
gb v40 false (evFa 0 v46) fun v47 =>
gb v40 false (evLd false 1 v47 h) fun v48 =>
gh v40 false (callAny E (callW E) 0 none true 25 [v48] h) h fun v49 h11 =>
gb v40 false (evUn .not v49) fun v50 =>
ob (evPick v40 (AV.bool true) v50) fun v51 =>
cnd v51
 ((expo1 h11 (AV.int .i64 80)))
 ((q60_28 v1 v3 h11))
noncomputable def q60_30k (s : St) : OX := q60_30 (s 1) (s 3) s.h
theorem q60_30_eq (s : St) : W E 0 c_q60_30 s (finP [.t 2]) xN (finP [.t 2]) = q60_30k s :=
  (W_seq (k := q60_28k) (fun s => q60_29_eq s)).trans (by kernel_rfl)
noncomputable def q60_31 (v1 : AV) (h : Heap) : OX :=
ob (evFa 3 v1) fun v10 =>
ob (evLd false 1 v10 h) fun v11 =>
ob (evLen 1 v11 h) fun v12 =>
(q60_30 v1 v12 h)
noncomputable def q60_31k (s : St) : OX := q60_31 (s 1) s.h
theorem q60_31_eq (s : St) : W E 0 c_q60_31 s (finP [.t 2]) xN (finP [.t 2]) = q60_31k s :=
  (W_seq (k := q60_30k) (fun s => q60_30_eq s)).trans (by kernel_rfl)
noncomputable def q60_32 (v0 : AV) (h : Heap) : OX :=
oh (newC 0 (some 0) (cellsOf v0) h) fun v1 h12 =>
(q60_31 v1 h12)
noncomputable def q60_32k (s : St) : OX := q60_32 (s 0) s.h
theorem q60_32_eq (s : St) : W E 0 c_q60_32 s (finP [.t 2]) xN (finP [.t 2]) = q60_32k s :=
  (W_seq (k := q60_31k) (fun s => q60_31_eq s)).trans (by kernel_rfl)
@[simp] theorem pure_29 : E.pure 29 = true := rfl
theorem x_q60 (v0 : AV) : (callW E).p 29 [v0] = q60_32 v0 [⟨0, .dead⟩, ⟨0, .dead⟩, ⟨0, .dead⟩] :=
  (callP_W (cf := c_q60) (by kernel_rfl) rfl).trans ((q60_32_eq _).trans (by kernel_rfl))
noncomputable def q38_1 (v0 v1 v2 : AV) (h : Heap) : OX :=
ob (evEqnB 0 true v0 AV.nilp) fun v8 =>
gb v8 true (some v0) fun v10 =>
gb v8 true (some v0) fun v11 =>
gb v8 true (evNilchk v11) fun v12 =>
gb v8 true (evFa 0 v12) fun v13 =>
gb v8 true (evLd false 1 v13 h) fun v14 =>
gb v8 true (some v1) fun v15 =>
gb v8 true (some v2) fun v16 =>
gh v8 true (callAny E (callW E) 0 none true 82 [v10, v14, v15, v16] h) h fun v17 h1 =>
ob (evPick v8 v17 (AV.bool false)) fun v18 =>
(expo1 h1 v18)
noncomputable def q38_1k (s : St) : OX := q38_1 (s 0) (s 1) (s 2) s.h
theorem q38_1_eq (s : St) : W E 0 c_q38_1 s (finP [.t 6]) xN (finP [.t 6]) = q38_1k s :=
  by kernel_rfl
@[simp] theorem pure_76 : E.pure 76 = true := rfl
theorem x_q38 (v0 v1 v2 : AV) : (callW E).p 76 [v0, v1, v2] = q38_1 v0 v1 v2 [] :=
  (callP_W (cf := c_q38) (by kernel_rfl) rfl).trans ((q38_1_eq _).trans (by kernel_rfl))
@[simp] theorem pure_87 : E.pure 87 = true := rfl
@[simp] theorem pure_88 : E.pure 88 = true := rfl
@[simp] theorem pure_15 : E.pure 15 = true := rfl
@[simp] theorem pure_16 : E.pure 16 = true := rfl
noncomputable def q67_1 (v0 : AV) (h : Heap) : OX :=
ob (evBin .geq v0 (AV.int .i64 7)) fun v4 =>
gb v4 true (some v0) fun v6 =>
gb v4 true (evBin .leq v6 (AV.int .i64 12)) fun v7 =>
ob (evPick v4 v7 (AV.bool false)) fun v8 =>
gb v8 false (some v0) fun v10 =>
gh v8 false (buildSC 0 (some 0) 1 3 [(.int .i64 0)] [(0, (AV.int .i64 20)), (1, (AV.int .i64 21)), (2, (AV.int .i64 31))] h) h fun v11 h1 =>
gh v8 false (callAny E (callW E) 0 none true 42 [v10, v11] h1) h1 fun v12 h2 =>
ob (evPick v8 (AV.bool true) v12) fun v13 =>
gb v13 false (some v0) fun v15 =>
gh v13 false (callAny E (callW E) 0 none true 7 [v15] h2) h2 fun v16 h3 =>
ob (evPick v13 (AV.bool true) v16) fun v17 =>
(expo1 h3 v17)
noncomputable def q67_1k (s : St) : OX := q67_1 (s 0) s.h
theorem q67_1_eq (s : St) : W E 0 c_q67_1 s (finP [.t 2]) xN (finP [.t 2]) = q67_1k s :=
  by kernel_rfl
@[simp] theorem pure_19 : E.pure 19 = true := rfl
theorem x_q67 (v0 : AV) : (callW E).p 19 [v0] = q67_1 v0 [⟨0, .dead⟩] :=
  (callP_W (cf := c_q67) (by kernel_rfl) rfl).trans ((q67_1_eq _).trans (by kernel_rfl))
noncomputable def q64_1 (v0 : AV) (h : Heap) : OX :=
oh (buildSC 0 (some 0) 1 3 [(.int .i64 0)] [(0, (AV.int .i64 27)), (1, (AV.int .i64 28)), (2, (AV.int .i64 29))] h) fun v4 h1 =>
oh (callAny E (callW E) 0 none true 42 [v0, v4] h1) fun v5 h2 =>
(expo1 h2 v5)
noncomputable def q64_1k (s : St) : OX := q64_1 (s 0) s.h
theorem q64_1_eq (s : St) : W E 0 c_q64_1 s (finP [.t 2]) xN (finP [.t 2]) = q64_1k s :=
  by kernel_rfl
@[simp] theorem pure_23 : E.pure 23 = true := rfl
theorem x_q64 (v0 : AV) : (callW E).p 23 [v0] = q64_1 v0 [⟨0, .dead⟩] :=
  (callP_W (cf := c_q64) (by kernel_rfl) rfl).trans ((q64_1_eq _).trans (by kernel_rfl))
noncomputable def q62_1 (v0 : AV) (h : Heap) : OX :=
oh (buildSC 0 (some 0) 1 3 [(.int .i64 0)] [(0, (AV.int .i64 27)), (1, (AV.int .i64 30)), (2, (AV.int .i64 31))] h) fun v4 h1 =>
oh (callAny E (callW E) 0 none true 42 [v0, v4] h1) fun v5 h2 =>
(expo1 h2 v5)
noncomputable def q62_1k (s : St) : OX := q62_1 (s 0) s.h
theorem q62_1_eq (s : St) : W E 0 c_q62_1 s (finP [.t 2]) xN (finP [.t 2]) = q62_1k s :=
  by kernel_rfl
@[simp] theorem pure_25 : E.pure 25 = true := rfl
theorem x_q62 (v0 : AV) : (callW E).p 25 [v0] = q62_1 v0 [⟨0, .dead⟩] :=
  (callP_W (cf := c_q62) (by kernel_rfl) rfl).trans ((q62_1_eq _).trans (by kernel_rfl))
noncomputable def q8_1 (h : Heap) : OX :=
(expo1 h (AV.bool true))
noncomputable def q8_1k (s : St) : OX := q8_1 s.h
theorem q8_1_eq (s : St) : W E 0 c_q8_1 s (finP [.t 2]) xN (finP [.t 2]) = q8_1k s :=
  by kernel_rfl
noncomputable def q8_L2 (v3 v104 v105 v106 : AV) (h : Heap) : OX :=
  W E 0 c_q8_L2 ⟨[(3, v3), (104, v104), (105, v105), (106, v106)], h⟩ q8_1k (exitTo 8 q8_1k xN) (finP [.t 2])
noncomputable def q8_L2k (s : St) : OX := q8_L2 (s 3) (s 104) (s 105) (s 106) s.h
theorem q8_L2_eq (s : St) : W E 0 c_q8_L2 s q8_1k (exitTo 8 q8_1k xN) (finP [.t 2]) = q8_L2k s := W_loop_live.trans (by kernel_rfl)
noncomputable def q8_3 (v3 v104 v105 v106 : AV) (h : Heap) : OX :=
ob (evBin .add v106 (AV.int .i64 1)) fun v134 =>
(q8_L2 v3 v104 v105 v134 h)
noncomputable def q8_3k (s : St) : OX := q8_3 (s 3) (s 104) (s 105) (s 106) s.h
theorem q8_3_eq (s : St) : W E 0 c_q8_3 s q8_L2k (exitTo 8 q8_1k xN) (finP [.t 2]) = q8_3k s :=
  by kernel_rfl
noncomputable def q8_L4 (v3 v15 v104 v105 v106 v112 v113 v114 : AV) (h : Heap) : OX :=
  W E 0 c_q8_L4 ⟨[(3, v3), (15, v15), (104, v104), (105, v105), (106, v106), (112, v112), (113, v113), (114, v114)], h⟩ q8_3k (exitTo 10 q8_3k (exitTo 9 q8_3k (exitTo 8 q8_1k xN))) (finP [.t 2])
noncomputable def q8_L4k (s : St) : OX := q8_L4 (s 3) (s 15) (s 104) (s 105) (s 106) (s 112) (s 113) (s 114) s.h
theorem q8_L4_eq (s : St) : W E 0 c_q8_L4 s q8_3k (exitTo 10 q8_3k (exitTo 9 q8_3k (exitTo 8 q8_1k xN))) (finP [.t 2]) = q8_L4k s := W_loop_live.trans (by kernel_rfl)
noncomputable def q8_5 (v3 v15 v104 v105 v106 v112 v113 v114 : AV) (h : Heap) : OX :=
ob (evBin .add v114 (AV.int .i64 1)) fun v133 =>
(q8_L4 v3 v15 v104 v105 v106 v112 v113 v133 h)
noncomputable def q8_5k (s : St) : OX := q8_5 (s 3) (s 15) (s 104) (s 105) (s 106) (s 112) (s 113) (s 114) s.h
theorem q8_5_eq (s : St) : W E 0 c_q8_5 s q8_L4k (exitTo 10 q8_3k (exitTo 9 q8_3k (exitTo 8 q8_1k xN))) (finP [.t 2]) = q8_5k s :=
  by kernel_rfl
noncomputable def q8_6 (v3 v15 v104 v105 v106 v112 v113 v114 : AV) (h : Heap) : OX :=
ob (evIxs 1 v112 v114) fun v116 =>
ob (evLd false 1 v116 h) fun v117 =>
ob (evIxs 1 v3 v15) fun v120 =>
ob (evLd false 1 v120 h) fun v121 =>
ob (evEqnB 1 true v121 AV.nils) fun v122 =>
gb v122 true (some v3) fun v124 =>
gb v122 true (some v15) fun v125 =>
gb v122 true (evIxs 1 v124 v125) fun v126 =>
gb v122 true (evLd false 1 v126 h) fun v127 =>
gb v122 true (some v117) fun v128 =>
gb v122 true (evIxs 1 v127 v128) fun v129 =>
gb v122 true (evLd false 1 v129 h) fun v130 =>
gb v122 true (evUn .not v130) fun v131 =>
ob (evPick v122 v131 (AV.bool false)) fun v132 =>
cnd v132
 ((expo1 h (AV.bool false)))
 ((q8_5 v3 v15 v104 v105 v106 v112 v113 v114 h))
noncomputable def q8_6k (s : St) : OX := q8_6 (s 3) (s 15) (s 104) (s 105) (s 106) (s 112) (s 113) (s 114) s.h
theorem q8_6_eq (s : St) : W E 0 c_q8_6 s q8_L4k (exitTo 10 q8_3k (exitTo 9 q8_3k (exitTo 8 q8_1k xN))) (finP [.t 2]) = q8_6k s :=
  (W_seq (k := q8_5k) (fun s => q8_5_eq s)).trans (by kernel_rfl)
noncomputable def q8_7 (v3 v15 v104 v105 v106 v112 v113 v114 v115 : AV) (h : Heap) : OX :=
cnd v115
 ((q8_6 v3 v15 v104 v105 v106 v112 v113 v114 h))
 ((q8_3 v3 v104 v105 v106 h))
noncomputable def q8_7k (s : St) : OX := q8_7 (s 3) (s 15) (s 104) (s 105) (s 106) (s 112) (s 113) (s 114) (s 115) s.h
theorem q8_7_eq (s : St) : W E 0 c_q8_7 s q8_L4k (exitTo 10 q8_3k (exitTo 9 q8_3k (exitTo 8 q8_1k xN))) (finP [.t 2]) = q8_7k s :=
  (W_seq (k := q8_6k) (fun s => q8_6_eq s)).trans (by kernel_rfl)
noncomputable def q8_8 (v3 v15 v104 v105 v106 v112 v113 v114 : AV) (h : Heap) : OX :=
ob (evBin .lss v114 v113) fun v115 =>
(q8_7 v3 v15 v104 v105 v106 v112 v113 v114 v115 h)
noncomputable def q8_8k (s : St) : OX := q8_8 (s 3) (s 15) (s 104) (s 105) (s 106) (s 112) (s 113) (s 114) s.h
theorem q8_8_eq (s : St) : W E 0 c_q8_8 s q8_L4k (exitTo 10 q8_3k (exitTo 9 q8_3k (exitTo 8 q8_1k xN))) (finP [.t 2]) = q8_8k s :=
  (W_seq (k := q8_7k) (fun s => q8_7_eq s)).trans (by kernel_rfl)
theorem q8_L4_go (v3 v15 v104 v105 v106 v112 v113 v114 : AV) (h : Heap) : q8_L4 v3 v15 v104 v105 v106 v112 v113 v114 h = (q8_8 v3 v15 v104 v105 v106 v112 v113 v114 h) :=
  W_loop.trans ((W_congr _ _ _ (n' := q8_L4k) (fun s => q8_L4_eq s)).trans ((q8_8_eq _).trans (by kernel_rfl)))
theorem q8_9_eq (s : St) : W E 0 c_q8_9 s q8_3k (exitTo 9 q8_3k (exitTo 8 q8_1k xN)) (finP [.t 2]) = q8_L4k s :=
  W_block.trans (q8_L4_eq s)
noncomputable def q8_10 (v3 v15 v16 v104 v105 v106 : AV) (h : Heap) : OX :=
ob (evLd true 9 v16 h) fun v111 =>
oh (callAny E (callW E) 0 none true 10 [v111] h) fun v112 h1 =>
ob (evLen 1 v112 h1) fun v113 =>
(q8_L4 v3 v15 v104 v105 v106 v112 v113 (AV.int .i64 0) h1)
noncomputable def q8_10k (s : St) : OX := q8_10 (s 3) (s 15) (s 16) (s 104) (s 105) (s 106) s.h
theorem q8_10_eq (s : St) : W E 0 c_q8_10 s q8_3k (exitTo 9 q8_3k (exitTo 8 q8_1k xN)) (finP [.t 2]) = q8_10k s :=
  (W_seq (k := q8_L4k) (fun s => q8_9_eq s)).trans (by kernel_rfl)
noncomputable def q8_11 (v3 v104 v105 v106 : AV) (h : Heap) : OX :=
ob (evIxs 9 v104 v106) fun v109 =>
ob (evLd true 9 v109 h) fun v110 =>
oh (newC 0 (some 5) [(.int .i64 0), (.int .i64 0), (.int .i64 0), (.int .i64 0), (.int .i64 0), (.int .i64 0), (.int .i64 0), (.str []), .nils] h) fun v16 h2 =>
oh (evSt 9 v16 v110 h2) fun _ h3 =>
(q8_10 v3 v106 v16 v104 v105 v106 h3)
noncomputable def q8_11k (s : St) : OX := q8_11 (s 3) (s 104) (s 105) (s 106) s.h
theorem q8_11_eq (s : St) : W E 0 c_q8_11 s q8_3k (exitTo 9 q8_3k (exitTo 8 q8_1k xN)) (finP [.t 2]) = q8_11k s :=
  (W_seq (k := q8_10k) (fun s => q8_10_eq s)).trans (by kernel_rfl)
theorem q8_12_eq (s : St) : W E 0 c_q8_12 s q8_3k (exitTo 8 q8_1k xN) (finP [.t 2]) = q8_11k s :=
  W_block.trans (q8_11_eq s)
theorem q8_13_eq (s : St) : W E 0 c_q8_13 s q8_L2k (exitTo 8 q8_1k xN) (finP [.t 2]) = q8_11k s :=
  (W_seq (k := q8_3k) (fun s => q8_3_eq s)).trans (q8_12_eq s)
noncomputable def q8_14 (v3 v104 v105 v106 v107 : AV) (h : Heap) : OX :=
cnd v107
 ((q8_11 v3 v104 v105 v106 h))
 ((q8_1 h))
noncomputable def q8_14k (s : St) : OX := q8_14 (s 3) (s 104) (s 105) (s 106) (s 107) s.h
theorem q8_14_eq (s : St) : W E 0 c_q8_14 s q8_L2k (exitTo 8 q8_1k xN) (finP [.t 2]) = q8_14k s :=
  (W_seq (k := q8_11k) (fun s => q8_13_eq s)).trans (by kernel_rfl)
noncomputable def q8_15 (v3 v104 v105 v106 : AV) (h : Heap) : OX :=
ob (evBin .lss v106 v105) fun v107 =>
(q8_14 v3 v104 v105 v106 v107 h)
noncomputable def q8_15k (s : St) : OX := q8_15 (s 3) (s 104) (s 105) (s 106) s.h
theorem q8_15_eq (s : St) : W E 0 c_q8_15 s q8_L2k (exitTo 8 q8_1k xN) (finP [.t 2]) = q8_15k s :=
  (W_seq (k := q8_14k) (fun s => q8_14_eq s)).trans (by kernel_rfl)
theorem q8_L2_go (v3 v104 v105 v106 : AV) (h : Heap) : q8_L2 v3 v104 v105 v106 h = (q8_15 v3 v104 v105 v106 h) :=
  W_loop.trans ((W_congr _ _ _ (n' := q8_L2k) (fun s => q8_L2_eq s)).trans ((q8_15_eq _).trans (by kernel_rfl)))
theorem q8_16_eq (s : St) : W E 0 c_q8_16 s q8_1k xN (finP [.t 2]) = q8_L2k s :=
  W_block.trans (q8_L2_eq s)
noncomputable def q8_17 (v1 v3 : AV) (h : Heap) : OX :=
ob (evFa 3 v1) fun v103 =>
ob (evLd false 1 v103 h) fun v104 =>
ob (evLen 1 v104 h) fun v105 =>
(q8_L2 v3 v104 v105 (AV.int .i64 0) h)
noncomputable def q8_17k (s : St) : OX := q8_17 (s 1) (s 3) s.h
theorem q8_17_eq (s : St) : W E 0 c_q8_17 s q8_1k xN (finP [.t 2]) = q8_17k s :=
  (W_seq (k := q8_L2k) (fun s => q8_16_eq s)).trans (by kernel_rfl)
theorem q8_18_eq (s : St) : W E 0 c_q8_18 s (finP [.t 2]) xN (finP [.t 2]) = q8_17k s :=
  (W_seq (k := q8_1k) (fun s => q8_1_eq s)).trans (q8_17_eq s)
noncomputable def q8_L19 (v1 v3 v7 : AV) (h : Heap) : OX :=
  W E 0 c_q8_L19 ⟨[(1, v1), (3, v3), (7, v7)], h⟩ q8_17k (exitTo 2 q8_17k xN) (finP [.t 2])
noncomputable def q8_L19k (s : St) : OX := q8_L19 (s 1) (s 3) (s 7) s.h
theorem q8_L19_eq (s : St) : W E 0 c_q8_L19 s q8_17k (exitTo 2 q8_17k xN) (finP [.t 2]) = q8_L19k s := W_loop_live.trans (by kernel_rfl)
noncomputable def q8_L20 (v1 v3 v7 v9 v91 v92 v93 : AV) (h : Heap) : OX :=
  W E 0 c_q8_L20 ⟨[(1, v1), (3, v3), (7, v7), (9, v9), (91, v91), (92, v92), (93, v93)], h⟩ q8_L19k (exitTo 6 q8_L19k (exitTo 3 q8_L19k (exitTo 2 q8_17k xN))) (finP [.t 2])
noncomputable def q8_L20k (s : St) : OX := q8_L20 (s 1) (s 3) (s 7) (s 9) (s 91) (s 92) (s 93) s.h
theorem q8_L20_eq (s : St) : W E 0 c_q8_L20 s q8_L19k (exitTo 6 q8_L19k (exitTo 3 q8_L19k (exitTo 2 q8_17k xN))) (finP [.t 2]) = q8_L20k s := W_loop_live.trans (by kernel_rfl)
noncomputable def q8_21 (v1 v3 v7 v9 v91 v92 v93 : AV) (h : Heap) : OX :=
ob (evBin .add v93 (AV.int .i64 1)) fun v102 =>
(q8_L20 v1 v3 v7 v9 v91 v92 v102 h)
noncomputable def q8_21k (s : St) : OX := q8_21 (s 1) (s 3) (s 7) (s 9) (s 91) (s 92) (s 93) s.h
theorem q8_21_eq (s : St) : W E 0 c_q8_21 s q8_L20k (exitTo 6 q8_L19k (exitTo 3 q8_L19k (exitTo 2 q8_17k xN))) (finP [.t 2]) = q8_21k s :=
  by kernel_rfl
noncomputable def q8_22 (v1 v3 v7 v9 v91 v92 v93 : AV) (h : Heap) : OX :=
ob (evIxs 1 v91 v93) fun v95 =>
ob (evLd false 1 v95 h) fun v96 =>
oh (callAny E (callW E) 0 none false 80 [v3, v96, v9, v7] h) fun v101 h4 =>
(q8_21 v1 v3 v101 v9 v91 v92 v93 h4)
noncomputable def q8_22k (s : St) : OX := q8_22 (s 1) (s 3) (s 7) (s 9) (s 91) (s 92) (s 93) s.h
theorem q8_22_eq (s : St) : W E 0 c_q8_22 s q8_L20k (exitTo 6 q8_L19k (exitTo 3 q8_L19k (exitTo 2 q8_17k xN))) (finP [.t 2]) = q8_22k s :=
  (W_seq (k := q8_21k) (fun s => q8_21_eq s)).trans (by kernel_rfl)
noncomputable def q8_23 (v1 v3 v7 v9 v91 v92 v93 v94 : AV) (h : Heap) : OX :=
cnd v94
 ((q8_22 v1 v3 v7 v9 v91 v92 v93 h))
 ((q8_L19 v1 v3 v7 h))
noncomputable def q8_23k (s : St) : OX := q8_23 (s 1) (s 3) (s 7) (s 9) (s 91) (s 92) (s 93) (s 94) s.h
theorem q8_23_eq (s : St) : W E 0 c_q8_23 s q8_L20k (exitTo 6 q8_L19k (exitTo 3 q8_L19k (exitTo 2 q8_17k xN))) (finP [.t 2]) = q8_23k s :=
  (W_seq (k := q8_22k) (fun s => q8_22_eq s)).trans (by kernel_rfl)
noncomputable def q8_24 (v1 v3 v7 v9 v91 v92 v93 : AV) (h : Heap) : OX :=
ob (evBin .lss v93 v92) fun v94 =>
(q8_23 v1 v3 v7 v9 v91 v92 v93 v94 h)
noncomputable def q8_24k (s : St) : OX := q8_24 (s 1) (s 3) (s 7) (s 9) (s 91) (s 92) (s 93) s.h
theorem q8_24_eq (s : St) : W E 0 c_q8_24 s q8_L20k (exitTo 6 q8_L19k (exitTo 3 q8_L19k (exitTo 2 q8_17k xN))) (finP [.t 2]) = q8_24k s :=
  (W_seq (k := q8_23k) (fun s => q8_23_eq s)).trans (by kernel_rfl)
theorem q8_L20_go (v1 v3 v7 v9 v91 v92 v93 : AV) (h : Heap) : q8_L20 v1 v3 v7 v9 v91 v92 v93 h = (q8_24 v1 v3 v7 v9 v91 v92 v93 h) :=
  W_loop.trans ((W_congr _ _ _ (n' := q8_L20k) (fun s => q8_L20_eq s)).trans ((q8_24_eq _).trans (by kernel_rfl)))
theorem q8_25_eq (s : St) : W E 0 c_q8_25 s q8_L19k (exitTo 3 q8_L19k (exitTo 2 q8_17k xN)) (finP [.t 2]) = q8_L20k s :=
  W_block.trans (q8_L20_eq s)
noncomputable def q8_26 (v1 v3 v7 v8 v9 : AV) (h : Heap) : OX :=
ob (evLd true 5 v1 h) fun v89 =>
oh (callAny E (callW E) 0 none true 81 [v89, v8] h) fun v91 h5 =>
ob (evLen 1 v91 h5) fun v92 =>
(q8_L20 v1 v3 v7 v9 v91 v92 (AV.int .i64 0) h5)
noncomputable def q8_26k (s : St) : OX := q8_26 (s 1) (s 3) (s 7) (s 8) (s 9) s.h
theorem q8_26_eq (s : St) : W E 0 c_q8_26 s q8_L19k (exitTo 3 q8_L19k (exitTo 2 q8_17k xN)) (finP [.t 2]) = q8_26k s :=
  (W_seq (k := q8_L20k) (fun s => q8_25_eq s)).trans (by kernel_rfl)
noncomputable def q8_27 (v1 v3 v7 v8 v9 : AV) (h : Heap) : OX :=
ob (evFa 3 v1) fun v78 =>
ob (evLd false 1 v78 h) fun v79 =>
ob (evIxs 9 v79 v8) fun v81 =>
ob (evLd true 9 v81 h) fun v82 =>
oh (callAny E (callW E) 0 none true 9 [v82] h) fun v83 h6 =>
ob (evBin .geq v83 (AV.int .i64 0)) fun v85 =>
cnd v85
 (ob (evIxs 1 v9 v83) fun v88 =>
oh (evSt 1 v88 (AV.bool true) h6) fun _ h7 =>
(q8_26 v1 v3 v7 v8 v9 h7))
 ((q8_26 v1 v3 v7 v8 v9 h6))
noncomputable def q8_27k (s : St) : OX := q8_27 (s 1) (s 3) (s 7) (s 8) (s 9) s.h
theorem q8_27_eq (s : St) : W E 0 c_q8_27 s q8_L19k (exitTo 3 q8_L19k (exitTo 2 q8_17k xN)) (finP [.t 2]) = q8_27k s :=
  (W_seq (k := q8_26k) (fun s => q8_26_eq s)).trans (by kernel_rfl)
noncomputable def q8_L28 (v1 v3 v7 v8 v9 v66 v67 v68 : AV) (h : Heap) : OX :=
  W E 0 c_q8_L28 ⟨[(1, v1), (3, v3), (7, v7), (8, v8), (9, v9), (66, v66), (67, v67), (68, v68)], h⟩ q8_27k (exitTo 4 q8_27k (exitTo 3 q8_L19k (exitTo 2 q8_17k xN))) (finP [.t 2])
noncomputable def q8_L28k (s : St) : OX := q8_L28 (s 1) (s 3) (s 7) (s 8) (s 9) (s 66) (s 67) (s 68) s.h
theorem q8_L28_eq (s : St) : W E 0 c_q8_L28 s q8_27k (exitTo 4 q8_27k (exitTo 3 q8_L19k (exitTo 2 q8_17k xN))) (finP [.t 2]) = q8_L28k s := W_loop_live.trans (by kernel_rfl)
noncomputable def q8_29 (v1 v3 v7 v8 v9 v66 v67 v68 : AV) (h : Heap) : OX :=
ob (evBin .add v68 (AV.int .i64 1)) fun v77 =>
(q8_L28 v1 v3 v7 v8 v9 v66 v67 v77 h)
noncomputable def q8_29k (s : St) : OX := q8_29 (s 1) (s 3) (s 7) (s 8) (s 9) (s 66) (s 67) (s 68) s.h
theorem q8_29_eq (s : St) : W E 0 c_q8_29 s q8_L28k (exitTo 4 q8_27k (exitTo 3 q8_L19k (exitTo 2 q8_17k xN))) (finP [.t 2]) = q8_29k s :=
  by kernel_rfl
noncomputable def q8_30 (v1 v3 v7 v8 v9 v66 v67 v68 : AV) (h : Heap) : OX :=
ob (evIxs 1 v66 v68) fun v70 =>
ob (evLd false 1 v70 h) fun v71 =>
oh (callAny E (callW E) 0 none false 80 [v3, v71, v9, v7] h) fun v76 h8 =>
(q8_29 v1 v3 v76 v8 v9 v66 v67 v68 h8)
noncomputable def q8_30k (s : St) : OX := q8_30 (s 1) (s 3) (s 7) (s 8) (s 9) (s 66) (s 67) (s 68) s.h
theorem q8_30_eq (s : St) : W E 0 c_q8_30 s q8_L28k (exitTo 4 q8_27k (exitTo 3 q8_L19k (exitTo 2 q8_17k xN))) (finP [.t 2]) = q8_30k s :=
  (W_seq (k := q8_29k) (fun s => q8_29_eq s)).trans (by kernel_rfl)
noncomputable def q8_31 (v1 v3 v7 v8 v9 v66 v67 v68 v69 : AV) (h : Heap) : OX :=
cnd v69
 ((q8_30 v1 v3 v7 v8 v9 v66 v67 v68 h))
 ((q8_27 v1 v3 v7 v8 v9 h))
noncomputable def q8_31k (s : St) : OX := q8_31 (s 1) (s 3) (s 7) (s 8) (s 9) (s 66) (s 67) (s 68) (s 69) s.h
theorem q8_31_eq (s : St) : W E 0 c_q8_31 s q8_L28k (exitTo 4 q8_27k (exitTo 3 q8_L19k (exitTo 2 q8_17k xN))) (finP [.t 2]) = q8_31k s :=
  (W_seq (k := q8_30k) (fun s => q8_30_eq s)).trans (by kernel_rfl)
noncomputable def q8_32 (v1 v3 v7 v8 v9 v66 v67 v68 : AV) (h : Heap) : OX :=
ob (evBin .lss v68 v67) fun v69 =>
(q8_31 v1 v3 v7 v8 v9 v66 v67 v68 v69 h)
noncomputable def q8_32k (s : St) : OX := q8_32 (s 1) (s 3) (s 7) (s 8) (s 9) (s 66) (s 67) (s 68) s.h
theorem q8_32_eq (s : St) : W E 0 c_q8_32 s q8_L28k (exitTo 4 q8_27k (exitTo 3 q8_L19k (exitTo 2 q8_17k xN))) (finP [.t 2]) = q8_32k s :=
  (W_seq (k := q8_31k) (fun s => q8_31_eq s)).trans (by kernel_rfl)
theorem q8_L28_go (v1 v3 v7 v8 v9 v66 v67 v68 : AV) (h : Heap) : q8_L28 v1 v3 v7 v8 v9 v66 v67 v68 h = (q8_32 v1 v3 v7 v8 v9 v66 v67 v68 h) :=
  W_loop.trans ((W_congr _ _ _ (n' := q8_L28k) (fun s => q8_L28_eq s)).trans ((q8_32_eq _).trans (by kernel_rfl)))
theorem q8_33_eq (s : St) : W E 0 c_q8_33 s q8_27k (exitTo 3 q8_L19k (exitTo 2 q8_17k xN)) (finP [.t 2]) = q8_L28k s :=
  W_block.trans (q8_L28_eq s)
noncomputable def q8_34 (v1 v3 v7 v8 v9 : AV) (h : Heap) : OX :=
ob (evLd true 5 v1 h) fun v64 =>
oh (callAny E (callW E) 0 none true 79 [v64, v8] h) fun v66 h9 =>
ob (evLen 1 v66 h9) fun v67 =>
(q8_L28 v1 v3 v7 v8 v9 v66 v67 (AV.int .i64 0) h9)
noncomputable def q8_34k (s : St) : OX := q8_34 (s 1) (s 3) (s 7) (s 8) (s 9) s.h
theorem q8_34_eq (s : St) : W E 0 c_q8_34 s q8_27k (exitTo 3 q8_L19k (exitTo 2 q8_17k xN)) (finP [.t 2]) = q8_34k s :=
  (W_seq (k := q8_L28k) (fun s => q8_33_eq s)).trans (by kernel_rfl)
theorem q8_35_eq (s : St) : W E 0 c_q8_35 s q8_L19k (exitTo 3 q8_L19k (exitTo 2 q8_17k xN)) (finP [.t 2]) = q8_34k s :=
  (W_seq (k := q8_27k) (fun s => q8_27_eq s)).trans (q8_34_eq s)
noncomputable def q8_36 (v1 v3 v7 v8 : AV) (h : Heap) : OX :=
ob (evIxs 1 v3 v8) fun v61 =>
ob (evLd false 1 v61 h) fun v62 =>
oh (callAny E (callW E) 0 (some 4) false 78 [v62] h) fun v63 h10 =>
(q8_34 v1 v3 v7 v8 v63 h10)
noncomputable def q8_36k (s : St) : OX := q8_36 (s 1) (s 3) (s 7) (s 8) s.h
theorem q8_36_eq (s : St) : W E 0 c_q8_36 s q8_L19k (exitTo 3 q8_L19k (exitTo 2 q8_17k xN)) (finP [.t 2]) = q8_36k s :=
  (W_seq (k := q8_34k) (fun s => q8_35_eq s)).trans (by kernel_rfl)
noncomputable def q8_37 (v1 v3 v7 v8 : AV) (h : Heap) : OX :=
ob (evLen 1 v7 h) fun v56 =>
ob (evBin .sub v56 (AV.int .i64 1)) fun v57 =>
ob (evSlcO 1 v7 none (some v57)) fun v58 =>
(q8_36 v1 v3 v58 v8 h)
noncomputable def q8_37k (s : St) : OX := q8_37 (s 1) (s 3) (s 7) (s 8) s.h
theorem q8_37_eq (s : St) : W E 0 c_q8_37 s q8_L19k (exitTo 3 q8_L19k (exitTo 2 q8_17k xN)) (finP [.t 2]) = q8_37k s :=
  (W_seq (k := q8_36k) (fun s => q8_36_eq s)).trans (by kernel_rfl)
noncomputable def q8_38 (v1 v3 v7 : AV) (h : Heap) : OX :=
ob (evLen 1 v7 h) fun v50 =>
ob (evBin .sub v50 (AV.int .i64 1)) fun v51 =>
ob (evIxs 1 v7 v51) fun v52 =>
ob (evLd false 1 v52 h) fun v53 =>
(q8_37 v1 v3 v7 v53 h)
noncomputable def q8_38k (s : St) : OX := q8_38 (s 1) (s 3) (s 7) s.h
theorem q8_38_eq (s : St) : W E 0 c_q8_38 s q8_L19k (exitTo 3 q8_L19k (exitTo 2 q8_17k xN)) (finP [.t 2]) = q8_38k s :=
  (W_seq (k := q8_37k) (fun s => q8_37_eq s)).trans (by kernel_rfl)
theorem q8_39_eq (s : St) : W E 0 c_q8_39 s q8_L19k (exitTo 2 q8_17k xN) (finP [.t 2]) = q8_38k s :=
  W_block.trans (q8_38_eq s)
noncomputable def q8_40 (v1 v3 v7 : AV) (h : Heap) : OX :=
ob (evLen 1 v7 h) fun v46 =>
ob (evBin .gtr v46 (AV.int .i64 0)) fun v47 =>
cnd v47
 ((q8_38 v1 v3 v7 h))
 ((q8_17 v1 v3 h))
noncomputable def q8_40k (s : St) : OX := q8_40 (s 1) (s 3) (s 7) s.h
theorem q8_40_eq (s : St) : W E 0 c_q8_40 s q8_L19k (exitTo 2 q8_17k xN) (finP [.t 2]) = q8_40k s :=
  (W_seq (k := q8_38k) (fun s => q8_39_eq s)).trans (by kernel_rfl)
theorem q8_L19_go (v1 v3 v7 : AV) (h : Heap) : q8_L19 v1 v3 v7 h = (q8_40 v1 v3 v7 h) :=
  W_loop.trans ((W_congr _ _ _ (n' := q8_L19k) (fun s => q8_L19_eq s)).trans ((q8_40_eq _).trans (by kernel_rfl)))
theorem q8_41_eq (s : St) : W E 0 c_q8_41 s q8_17k xN (finP [.t 2]) = q8_L19k s :=
  W_block.trans (q8_L19_eq s)
theorem q8_42_eq (s : St) : W E 0 c_q8_42 s (finP [.t 2]) xN (finP [.t 2]) = q8_L19k s :=
  (W_seq (k := q8_17k) (fun s => q8_18_eq s)).trans (q8_41_eq s)
noncomputable def q8_43 (v1 v3 v4 v7 : AV) (h : Heap) : OX :=
ob (evIxs 1 v3 (AV.int .i64 0)) fun v44 =>
oh (evSt 1 v44 v4 h) fun _ h11 =>
(q8_L19 v1 v3 v7 h11)
noncomputable def q8_43k (s : St) : OX := q8_43 (s 1) (s 3) (s 4) (s 7) s.h
theorem q8_43_eq (s : St) : W E 0 c_q8_43 s (finP [.t 2]) xN (finP [.t 2]) = q8_43k s :=
  (W_seq (k := q8_L19k) (fun s => q8_42_eq s)).trans (by kernel_rfl)
noncomputable def q8_44 (v1 v3 v4 : AV) (h : Heap) : OX :=
oh (buildSC 0 (some 3) 1 1 [(.int .i64 0)] [(0, (AV.int .i64 0))] h) fun v41 h12 =>
(q8_43 v1 v3 v4 v41 h12)
noncomputable def q8_44k (s : St) : OX := q8_44 (s 1) (s 3) (s 4) s.h
theorem q8_44_eq (s : St) : W E 0 c_q8_44 s (finP [.t 2]) xN (finP [.t 2]) = q8_44k s :=
  (W_seq (k := q8_43k) (fun s => q8_43_eq s)).trans (by kernel_rfl)
noncomputable def q8_L45 (v1 v3 v4 v31 v32 v33 : AV) (h : Heap) : OX :=
  W E 0 c_q8_L45 ⟨[(1, v1), (3, v3), (4, v4), (31, v31), (32, v32), (33, v33)], h⟩ q8_44k (exitTo 0 q8_44k xN) (finP [.t 2])
noncomputable def q8_L45k (s : St) : OX := q8_L45 (s 1) (s 3) (s 4) (s 31) (s 32) (s 33) s.h
theorem q8_L45_eq (s : St) : W E 0 c_q8_L45 s q8_44k (exitTo 0 q8_44k xN) (finP [.t 2]) = q8_L45k s := W_loop_live.trans (by kernel_rfl)
noncomputable def q8_46 (v1 v3 v4 v31 v32 v33 : AV) (h : Heap) : OX :=
ob (evBin .add v33 (AV.int .i64 1)) fun v40 =>
(q8_L45 v1 v3 v4 v31 v32 v40 h)
noncomputable def q8_46k (s : St) : OX := q8_46 (s 1) (s 3) (s 4) (s 31) (s 32) (s 33) s.h
theorem q8_46_eq (s : St) : W E 0 c_q8_46 s q8_L45k (exitTo 0 q8_44k xN) (finP [.t 2]) = q8_46k s :=
  by kernel_rfl
noncomputable def q8_47 (v1 v3 v4 v31 v32 v33 : AV) (h : Heap) : OX :=
ob (evIxs 1 v31 v33) fun v35 =>
ob (evLd false 1 v35 h) fun v36 =>
ob (evIxs 1 v4 v36) fun v39 =>
oh (evSt 1 v39 (AV.bool true) h) fun _ h13 =>
(q8_46 v1 v3 v4 v31 v32 v33 h13)
noncomputable def q8_47k (s : St) : OX := q8_47 (s 1) (s 3) (s 4) (s 31) (s 32) (s 33) s.h
theorem q8_47_eq (s : St) : W E 0 c_q8_47 s q8_L45k (exitTo 0 q8_44k xN) (finP [.t 2]) = q8_47k s :=
  (W_seq (k := q8_46k) (fun s => q8_46_eq s)).trans (by kernel_rfl)
noncomputable def q8_48 (v1 v3 v4 v31 v32 v33 v34 : AV) (h : Heap) : OX :=
cnd v34
 ((q8_47 v1 v3 v4 v31 v32 v33 h))
 ((q8_44 v1 v3 v4 h))
noncomputable def q8_48k (s : St) : OX := q8_48 (s 1) (s 3) (s 4) (s 31) (s 32) (s 33) (s 34) s.h
theorem q8_48_eq (s : St) : W E 0 c_q8_48 s q8_L45k (exitTo 0 q8_44k xN) (finP [.t 2]) = q8_48k s :=
  (W_seq (k := q8_47k) (fun s => q8_47_eq s)).trans (by kernel_rfl)
noncomputable def q8_49 (v1 v3 v4 v31 v32 v33 : AV) (h : Heap) : OX :=
ob (evBin .lss v33 v32) fun v34 =>
(q8_48 v1 v3 v4 v31 v32 v33 v34 h)
noncomputable def q8_49k (s : St) : OX := q8_49 (s 1) (s 3) (s 4) (s 31) (s 32) (s 33) s.h
theorem q8_49_eq (s : St) : W E 0 c_q8_49 s q8_L45k (exitTo 0 q8_44k xN) (finP [.t 2]) = q8_49k s :=
  (W_seq (k := q8_48k) (fun s => q8_48_eq s)).trans (by kernel_rfl)
theorem q8_L45_go (v1 v3 v4 v31 v32 v33 : AV) (h : Heap) : q8_L45 v1 v3 v4 v31 v32 v33 h = (q8_49 v1 v3 v4 v31 v32 v33 h) :=
  W_loop.trans ((W_congr _ _ _ (n' := q8_L45k) (fun s => q8_L45_eq s)).trans ((q8_49_eq _).trans (by kernel_rfl)))
theorem q8_50_eq (s : St) : W E 0 c_q8_50 s q8_44k xN (finP [.t 2]) = q8_L45k s :=
  W_block.trans (q8_L45_eq s)
noncomputable def q8_51 (v1 v3 v4 : AV) (h : Heap) : OX :=
ob (evFa 1 v1) fun v30 =>
ob (evLd false 1 v30 h) fun v31 =>
ob (evLen 1 v31 h) fun v32 =>
(q8_L45 v1 v3 v4 v31 v32 (AV.int .i64 0) h)
noncomputable def q8_51k (s : St) : OX := q8_51 (s 1) (s 3) (s 4) s.h
theorem q8_51_eq (s : St) : W E 0 c_q8_51 s q8_44k xN (finP [.t 2]) = q8_51k s :=
  (W_seq (k := q8_L45k) (fun s => q8_50_eq s)).trans (by kernel_rfl)
theorem q8_52_eq (s : St) : W E 0 c_q8_52 s (finP [.t 2]) xN (finP [.t 2]) = q8_51k s :=
  (W_seq (k := q8_44k) (fun s => q8_44_eq s)).trans (q8_51_eq s)
noncomputable def q8_53 (v1 v3 : AV) (h : Heap) : OX :=
ob (evFa 0 v1) fun v26 =>
ob (evLd false 1 v26 h) fun v27 =>
ob (evLen 1 v27 h) fun v28 =>
oh (mkSC 0 (some 2) 1 1 [(.bool false)] v28 v28 h) fun v29 h14 =>
(q8_51 v1 v3 v29 h14)
noncomputable def q8_53k (s : St) : OX := q8_53 (s 1) (s 3) s.h
theorem q8_53_eq (s : St) : W E 0 c_q8_53 s (finP [.t 2]) xN (finP [.t 2]) = q8_53k s :=
  (W_seq (k := q8_51k) (fun s => q8_52_eq s)).trans (by kernel_rfl)
noncomputable def q8_54 (v1 : AV) (h : Heap) : OX :=
ob (evFa 3 v1) fun v22 =>
ob (evLd false 1 v22 h) fun v23 =>
ob (evLen 1 v23 h) fun v24 =>
oh (mkSC 0 (some 1) 1 24 [.nils] v24 v24 h) fun v25 h15 =>
(q8_53 v1 v25 h15)
noncomputable def q8_54k (s : St) : OX := q8_54 (s 1) s.h
theorem q8_54_eq (s : St) : W E 0 c_q8_54 s (finP [.t 2]) xN (finP [.t 2]) = q8_54k s :=
  (W_seq (k := q8_53k) (fun s => q8_53_eq s)).trans (by kernel_rfl)
noncomputable def q8_55 (v1 : AV) (h : Heap) : OX :=
ob (evLd true 5 v1 h) fun v19 =>
oh (callAny E (callW E) 0 none true 8 [v19] h) fun v20 h16 =>
ob (evBin .neq v20 (AV.int .i64 0)) fun v21 =>
cnd v21
 ((expo1 h16 (AV.bool false)))
 ((q8_54 v1 h16))
noncomputable def q8_55k (s : St) : OX := q8_55 (s 1) s.h
theorem q8_55_eq (s : St) : W E 0 c_q8_55 s (finP [.t 2]) xN (finP [.t 2]) = q8_55k s :=
  (W_seq (k := q8_54k) (fun s => q8_54_eq s)).trans (by kernel_rfl)
noncomputable def q8_56 (v0 : AV) (h : Heap) : OX :=
oh (newC 0 (some 0) (cellsOf v0) h) fun v1 h17 =>
(q8_55 v1 h17)
noncomputable def q8_56k (s : St) : OX := q8_56 (s 0) s.h
theorem q8_56_eq (s : St) : W E 0 c_q8_56 s (finP [.t 2]) xN (finP [.t 2]) = q8_56k s :=
  (W_seq (k := q8_55k) (fun s => q8_55_eq s)).trans (by kernel_rfl)
@[simp] theorem pure_77 : E.pure 77 = true := rfl
theorem x_q8 (v0 : AV) : (callW E).p 77 [v0] = q8_56 v0 [⟨0, .dead⟩, ⟨0, .dead⟩, ⟨0, .dead⟩, ⟨0, .dead⟩, ⟨0, .dead⟩, ⟨0, .dead⟩] :=
  (callP_W (cf := c_q8) (by kernel_rfl) rfl).trans ((q8_56_eq _).trans (by kernel_rfl))
noncomputable def q17_1 (v0 : AV) (h : Heap) : OX :=
oh (newC 0 (some 0) (cellsOf v0) h) fun v1 h1 =>
ob (evFa 0 v1) fun v3 =>
ob (evLd false 1 v3 h1) fun v4 =>
ob (evBin .eql v4 (AV.int .i64 27)) fun v5 =>
gb v5 false (evFa 0 v1) fun v7 =>
gb v5 false (evLd false 1 v7 h1) fun v8 =>
gb v5 false (evBin .eql v8 (AV.int .i64 30)) fun v9 =>
ob (evPick v5 (AV.bool true) v9) fun v10 =>
gb v10 false (evFa 0 v1) fun v12 =>
gb v10 false (evLd false 1 v12 h1) fun v13 =>
gb v10 false (evBin .eql v13 (AV.int .i64 31)) fun v14 =>
ob (evPick v10 (AV.bool true) v14) fun v15 =>
(expo1 h1 v15)
noncomputable def q17_1k (s : St) : OX := q17_1 (s 0) s.h
theorem q17_1_eq (s : St) : W E 0 c_q17_1 s (finP [.t 2]) xN (finP [.t 2]) = q17_1k s :=
  by kernel_rfl
@[simp] theorem pure_24 : E.pure 24 = true := rfl
theorem x_q17 (v0 : AV) : (callW E).p 24 [v0] = q17_1 v0 [⟨0, .dead⟩] :=
  (callP_W (cf := c_q17) (by kernel_rfl) rfl).trans ((q17_1_eq _).trans (by kernel_rfl))
noncomputable def q18_1 (v0 : AV) (h : Heap) : OX :=
oh (newC 0 (some 0) (cellsOf v0) h) fun v1 h1 =>
ob (evFa 0 v1) fun v3 =>
ob (evLd false 1 v3 h1) fun v4 =>
ob (evBin .eql v4 (AV.int .i64 27)) fun v5 =>
gb v5 false (evFa 0 v1) fun v7 =>
gb v5 false (evLd false 1 v7 h1) fun v8 =>
gb v5 false (evBin .eql v8 (AV.int .i64 28)) fun v9 =>
ob (evPick v5 (AV.bool true) v9) fun v10 =>
gb v10 false (evFa 0 v1) fun v12 =>
gb v10 false (evLd false 1 v12 h1) fun v13 =>
gb v10 false (evBin .eql v13 (AV.int .i64 29)) fun v14 =>
ob (evPick v10 (AV.bool true) v14) fun v15 =>
(expo1 h1 v15)
noncomputable def q18_1k (s : St) : OX := q18_1 (s 0) s.h
theorem q18_1_eq (s : St) : W E 0 c_q18_1 s (finP [.t 2]) xN (finP [.t 2]) = q18_1k s :=
  by kernel_rfl
@[simp] theorem pure_22 : E.pure 22 = true := rfl
theorem x_q18 (v0 : AV) : (callW E).p 22 [v0] = q18_1 v0 [⟨0, .dead⟩] :=
  (callP_W (cf := c_q18) (by kernel_rfl) rfl).trans ((q18_1_eq _).trans (by kernel_rfl))
noncomputable def q105_1 (v0 v1 : AV) (h : Heap) : OX :=
oh (callAny E (callW E) 0 none true 45 [v0, v1] h) fun v7 h1 =>
ob (evBin .geq v7 (AV.int .i64 0)) fun v8 =>
(expo1 h1 v8)
noncomputable def q105_1k (s : St) : OX := q105_1 (s 0) (s 1) s.h
theorem q105_1_eq (s : St) : W E 0 c_q105_1 s (finP [.t 4]) xN (finP [.t 4]) = q105_1k s :=
  by kernel_rfl
@[simp] theorem pure_46 : E.pure 46 = true := rfl
theorem x_q105 (v0 v1 : AV) : (callW E).p 46 [v0, v1] = q105_1 v0 v1 [] :=
  (callP_W (cf := c_q105) (by kernel_rfl) rfl).trans ((q105_1_eq _).trans (by kernel_rfl))
@[simp] theorem pure_96 : E.pure 96 = true := rfl
noncomputable def q19_1 (v0 : AV) (h : Heap) : OX :=
oh (newC 0 (some 0) (cellsOf v0) h) fun v1 h1 =>
ob (evFa 0 v1) fun v3 =>
ob (evLd false 1 v3 h1) fun v4 =>
ob (evBin .geq v4 (AV.int .i64 7)) fun v5 =>
gb v5 true (evFa 0 v1) fun v7 =>
gb v5 true (evLd false 1 v7 h1) fun v8 =>
gb v5 true (evBin .leq v8 (AV.int .i64 12)) fun v9 =>
ob (evPick v5 v9 (AV.bool false)) fun v10 =>
gb v10 false (evFa 0 v1) fun v12 =>
gb v10 false (evLd false 1 v12 h1) fun v13 =>
gb v10 false (evBin .eql v13 (AV.int .i64 20)) fun v14 =>
ob (evPick v10 (AV.bool true) v14) fun v15 =>
gb v15 false (evFa 0 v1) fun v17 =>
gb v15 false (evLd false 1 v17 h1) fun v18 =>
gb v15 false (evBin .eql v18 (AV.int .i64 21)) fun v19 =>
ob (evPick v15 (AV.bool true) v19) fun v20 =>
gb v20 false (evFa 0 v1) fun v22 =>
gb v20 false (evLd false 1 v22 h1) fun v23 =>
gb v20 false (evBin .eql v23 (AV.int .i64 31)) fun v24 =>
ob (evPick v20 (AV.bool true) v24) fun v25 =>
gb v25 false (evLd true 9 v1 h1) fun v27 =>
gh v25 false (callAny E (callW E) 0 none true 17 [v27] h1) h1 fun v28 h2 =>
ob (evPick v25 (AV.bool true) v28) fun v29 =>
(expo1 h2 v29)
noncomputable def q19_1k (s : St) : OX := q19_1 (s 0) s.h
theorem q19_1_eq (s : St) : W E 0 c_q19_1 s (finP [.t 2]) xN (finP [.t 2]) = q19_1k s :=
  by kernel_rfl
@[simp] theorem pure_18 : E.pure 18 = true := rfl
theorem x_q19 (v0 : AV) : (callW E).p 18 [v0] = q19_1 v0 [⟨0, .dead⟩] :=
  (callP_W (cf := c_q19) (by kernel_rfl) rfl).trans ((q19_1_eq _).trans (by kernel_rfl))
noncomputable def q14_1 (h : Heap) : OX :=
(expo1 h (AV.int .i64 0))
noncomputable def q14_1k (s : St) : OX := q14_1 s.h
theorem q14_1_eq (s : St) : W E 0 c_q14_1 s (finP [.t 2]) xN (finP [.t 2]) = q14_1k s :=
  by kernel_rfl
noncomputable def q14_L2 (v1 v3 v136 v137 v138 : AV) (h : Heap) : OX :=
  W E 0 c_q14_L2 ⟨[(1, v1), (3, v3), (136, v136), (137, v137), (138, v138)], h⟩ q14_1k (exitTo 6 q14_1k xN) (finP [.t 2])
noncomputable def q14_L2k (s : St) : OX := q14_L2 (s 1) (s 3) (s 136) (s 137) (s 138) s.h
theorem q14_L2_eq (s : St) : W E 0 c_q14_L2 s q14_1k (exitTo 6 q14_1k xN) (finP [.t 2]) = q14_L2k s := W_loop_live.trans (by kernel_rfl)
noncomputable def q14_3 (v1 v3 v136 v137 v138 : AV) (h : Heap) : OX :=
ob (evBin .add v138 (AV.int .i64 1)) fun v179 =>
(q14_L2 v1 v3 v136 v137 v179 h)
noncomputable def q14_3k (s : St) : OX := q14_3 (s 1) (s 3) (s 136) (s 137) (s 138) s.h
theorem q14_3_eq (s : St) : W E 0 c_q14_3 s q14_L2k (exitTo 6 q14_1k xN) (finP [.t 2]) = q14_3k s :=
  by kernel_rfl
noncomputable def q14_4 (v1 v3 v136 v137 v138 : AV) (h : Heap) : OX :=
ob (evIxs 4 v136 v138) fun v140 =>
ob (evLd true 4 v140 h) fun v141 =>
oh (newC 0 (some 2) [(.int .i64 0), (.int .i64 0), (.int .i64 0), (.str [])] h) fun v11 h1 =>
oh (evSt 4 v11 v141 h1) fun _ h2 =>
ob (evFa 0 v11) fun v142 =>
ob (evLd false 1 v142 h2) fun v143 =>
ob (evBin .lss v143 (AV.int .i64 0)) fun v144 =>
gb v144 false (evFa 0 v11) fun v146 =>
gb v144 false (evLd false 1 v146 h2) fun v147 =>
gb v144 false (evFa 1 v11) fun v148 =>
gb v144 false (evLd false 1 v148 h2) fun v149 =>
gb v144 false (evBin .geq v147 v149) fun v150 =>
ob (evPick v144 (AV.bool true) v150) fun v151 =>
gb v151 false (evFa 1 v11) fun v153 =>
gb v151 false (evLd false 1 v153 h2) fun v154 =>
gb v151 false (some v3) fun v155 =>
gb v151 false (evBin .gtr v154 v155) fun v156 =>
ob (evPick v151 (AV.bool true) v156) fun v157 =>
gb v157 false (evFa 2 v11) fun v159 =>
gb v157 false (evLd false 1 v159 h2) fun v160 =>
gb v157 false (evBin .lss v160 (AV.int .i64 0)) fun v161 =>
ob (evPick v157 (AV.bool true) v161) fun v162 =>
gb v162 false (evFa 2 v11) fun v164 =>
gb v162 false (evLd false 1 v164 h2) fun v165 =>
gb v162 false (some v3) fun v166 =>
gb v162 false (evBin .geq v165 v166) fun v167 =>
ob (evPick v162 (AV.bool true) v167) fun v168 =>
gb v168 false (evFa 3 v1) fun v170 =>
gb v168 false (evLd false 1 v170 h2) fun v171 =>
gb v168 false (evFa 2 v11) fun v172 =>
gb v168 false (evLd false 1 v172 h2) fun v173 =>
gb v168 false (evIxs 9 v171 v173) fun v174 =>
gb v168 false (evFa 0 v174) fun v175 =>
gb v168 false (evLd false 1 v175 h2) fun v176 =>
gb v168 false (evBin .neq v176 (AV.int .i64 32)) fun v177 =>
ob (evPick v168 (AV.bool true) v177) fun v178 =>
cnd v178
 ((expo1 h2 (AV.int .i64 80)))
 ((q14_3 v1 v3 v136 v137 v138 h2))
noncomputable def q14_4k (s : St) : OX := q14_4 (s 1) (s 3) (s 136) (s 137) (s 138) s.h
theorem q14_4_eq (s : St) : W E 0 c_q14_4 s q14_L2k (exitTo 6 q14_1k xN) (finP [.t 2]) = q14_4k s :=
  (W_seq (k := q14_3k) (fun s => q14_3_eq s)).trans (by kernel_rfl)
noncomputable def q14_5 (v1 v3 v136 v137 v138 v139 : AV) (h : Heap) : OX :=
cnd v139
 ((q14_4 v1 v3 v136 v137 v138 h))
 ((q14_1 h))
noncomputable def q14_5k (s : St) : OX := q14_5 (s 1) (s 3) (s 136) (s 137) (s 138) (s 139) s.h
theorem q14_5_eq (s : St) : W E 0 c_q14_5 s q14_L2k (exitTo 6 q14_1k xN) (finP [.t 2]) = q14_5k s :=
  (W_seq (k := q14_4k) (fun s => q14_4_eq s)).trans (by kernel_rfl)
noncomputable def q14_6 (v1 v3 v136 v137 v138 : AV) (h : Heap) : OX :=
ob (evBin .lss v138 v137) fun v139 =>
(q14_5 v1 v3 v136 v137 v138 v139 h)
noncomputable def q14_6k (s : St) : OX := q14_6 (s 1) (s 3) (s 136) (s 137) (s 138) s.h
theorem q14_6_eq (s : St) : W E 0 c_q14_6 s q14_L2k (exitTo 6 q14_1k xN) (finP [.t 2]) = q14_6k s :=
  (W_seq (k := q14_5k) (fun s => q14_5_eq s)).trans (by kernel_rfl)
theorem q14_L2_go (v1 v3 v136 v137 v138 : AV) (h : Heap) : q14_L2 v1 v3 v136 v137 v138 h = (q14_6 v1 v3 v136 v137 v138 h) :=
  W_loop.trans ((W_congr _ _ _ (n' := q14_L2k) (fun s => q14_L2_eq s)).trans ((q14_6_eq _).trans (by kernel_rfl)))
theorem q14_7_eq (s : St) : W E 0 c_q14_7 s q14_1k xN (finP [.t 2]) = q14_L2k s :=
  W_block.trans (q14_L2_eq s)
noncomputable def q14_8 (v1 v3 : AV) (h : Heap) : OX :=
ob (evFa 4 v1) fun v135 =>
ob (evLd false 1 v135 h) fun v136 =>
ob (evLen 1 v136 h) fun v137 =>
(q14_L2 v1 v3 v136 v137 (AV.int .i64 0) h)
noncomputable def q14_8k (s : St) : OX := q14_8 (s 1) (s 3) s.h
theorem q14_8_eq (s : St) : W E 0 c_q14_8 s q14_1k xN (finP [.t 2]) = q14_8k s :=
  (W_seq (k := q14_L2k) (fun s => q14_7_eq s)).trans (by kernel_rfl)
theorem q14_9_eq (s : St) : W E 0 c_q14_9 s (finP [.t 2]) xN (finP [.t 2]) = q14_8k s :=
  (W_seq (k := q14_1k) (fun s => q14_1_eq s)).trans (q14_8_eq s)
noncomputable def q14_L10 (v1 v3 v92 v93 v94 : AV) (h : Heap) : OX :=
  W E 0 c_q14_L10 ⟨[(1, v1), (3, v3), (92, v92), (93, v93), (94, v94)], h⟩ q14_8k (exitTo 4 q14_8k xN) (finP [.t 2])
noncomputable def q14_L10k (s : St) : OX := q14_L10 (s 1) (s 3) (s 92) (s 93) (s 94) s.h
theorem q14_L10_eq (s : St) : W E 0 c_q14_L10 s q14_8k (exitTo 4 q14_8k xN) (finP [.t 2]) = q14_L10k s := W_loop_live.trans (by kernel_rfl)
noncomputable def q14_11 (v1 v3 v92 v93 v94 : AV) (h : Heap) : OX :=
ob (evBin .add v94 (AV.int .i64 1)) fun v134 =>
(q14_L10 v1 v3 v92 v93 v134 h)
noncomputable def q14_11k (s : St) : OX := q14_11 (s 1) (s 3) (s 92) (s 93) (s 94) s.h
theorem q14_11_eq (s : St) : W E 0 c_q14_11 s q14_L10k (exitTo 4 q14_8k xN) (finP [.t 2]) = q14_11k s :=
  by kernel_rfl
noncomputable def q14_12 (v1 v3 v8 v9 v92 v93 v94 : AV) (h : Heap) : OX :=
ob (evFa 0 v9) fun v103 =>
ob (evLd false 1 v103 h) fun v104 =>
ob (evBin .eql v104 (AV.int .i64 32)) fun v105 =>
gb v105 true (some v8) fun v107 =>
gb v105 true (evBin .eql v107 (AV.int .i64 0)) fun v108 =>
gb v105 true (some v108) fun v109 =>
gb v109 false (evFa 3 v1) fun v110 =>
gb v109 false (evLd false 1 v110 h) fun v111 =>
gb v109 false (some v8) fun v112 =>
gb v109 false (evBin .sub v112 (AV.int .i64 1)) fun v113 =>
gb v109 false (evIxs 9 v111 v113) fun v114 =>
gb v109 false (evLd true 9 v114 h) fun v115 =>
gh v109 false (callAny E (callW E) 0 none true 24 [v115] h) h fun v116 h3 =>
gb v109 false (evUn .not v116) fun v117 =>
gb v105 true (evPick v109 (AV.bool true) v117) fun v118 =>
ob (evPick v105 v118 (AV.bool false)) fun v119 =>
gb v119 false (evLd true 9 v9 h3) fun v121 =>
gh v119 false (callAny E (callW E) 0 none true 22 [v121] h3) h3 fun v122 h4 =>
gb v119 false (some v122) fun v123 =>
gb v123 true (evFa 3 v1) fun v124 =>
gb v123 true (evLd false 1 v124 h4) fun v125 =>
gb v123 true (evFa 6 v9) fun v126 =>
gb v123 true (evLd false 1 v126 h4) fun v127 =>
gb v123 true (evIxs 9 v125 v127) fun v128 =>
gb v123 true (evFa 0 v128) fun v129 =>
gb v123 true (evLd false 1 v129 h4) fun v130 =>
gb v123 true (evBin .eql v130 (AV.int .i64 32)) fun v131 =>
gb v119 false (evPick v123 v131 (AV.bool false)) fun v132 =>
ob (evPick v119 (AV.bool true) v132) fun v133 =>
cnd v133
 ((expo1 h4 (AV.int .i64 80)))
 ((q14_11 v1 v3 v92 v93 v94 h4))
noncomputable def q14_12k (s : St) : OX := q14_12 (s 1) (s 3) (s 8) (s 9) (s 92) (s 93) (s 94) s.h
theorem q14_12_eq (s : St) : W E 0 c_q14_12 s q14_11k (exitTo 5 q14_11k (exitTo 4 q14_8k xN)) (finP [.t 2]) = q14_12k s :=
  by kernel_rfl
noncomputable def q14_13 (v1 v3 v8 v9 v92 v93 v94 : AV) (h : Heap) : OX :=
ob (evLd true 5 v1 h) fun v99 =>
ob (evLd true 9 v9 h) fun v100 =>
oh (callAny E (callW E) 0 none true 63 [v99, v100] h) fun v101 h5 =>
ob (evUn .not v101) fun v102 =>
cnd v102
 ((expo1 h5 (AV.int .i64 80)))
 ((q14_12 v1 v3 v8 v9 v92 v93 v94 h5))
noncomputable def q14_13k (s : St) : OX := q14_13 (s 1) (s 3) (s 8) (s 9) (s 92) (s 93) (s 94) s.h
theorem q14_13_eq (s : St) : W E 0 c_q14_13 s q14_11k (exitTo 5 q14_11k (exitTo 4 q14_8k xN)) (finP [.t 2]) = q14_13k s :=
  (W_seq (k := q14_12k) (fun s => q14_12_eq s)).trans (by kernel_rfl)
noncomputable def q14_14 (v1 v3 v92 v93 v94 : AV) (h : Heap) : OX :=
ob (evIxs 9 v92 v94) fun v97 =>
ob (evLd true 9 v97 h) fun v98 =>
oh (newC 0 (some 1) [(.int .i64 0), (.int .i64 0), (.int .i64 0), (.int .i64 0), (.int .i64 0), (.int .i64 0), (.int .i64 0), (.str []), .nils] h) fun v9 h6 =>
oh (evSt 9 v9 v98 h6) fun _ h7 =>
(q14_13 v1 v3 v94 v9 v92 v93 v94 h7)
noncomputable def q14_14k (s : St) : OX := q14_14 (s 1) (s 3) (s 92) (s 93) (s 94) s.h
theorem q14_14_eq (s : St) : W E 0 c_q14_14 s q14_11k (exitTo 5 q14_11k (exitTo 4 q14_8k xN)) (finP [.t 2]) = q14_14k s :=
  (W_seq (k := q14_13k) (fun s => q14_13_eq s)).trans (by kernel_rfl)
theorem q14_15_eq (s : St) : W E 0 c_q14_15 s q14_11k (exitTo 4 q14_8k xN) (finP [.t 2]) = q14_14k s :=
  W_block.trans (q14_14_eq s)
theorem q14_16_eq (s : St) : W E 0 c_q14_16 s q14_L10k (exitTo 4 q14_8k xN) (finP [.t 2]) = q14_14k s :=
  (W_seq (k := q14_11k) (fun s => q14_11_eq s)).trans (q14_15_eq s)
noncomputable def q14_17 (v1 v3 v92 v93 v94 v95 : AV) (h : Heap) : OX :=
cnd v95
 ((q14_14 v1 v3 v92 v93 v94 h))
 ((q14_8 v1 v3 h))
noncomputable def q14_17k (s : St) : OX := q14_17 (s 1) (s 3) (s 92) (s 93) (s 94) (s 95) s.h
theorem q14_17_eq (s : St) : W E 0 c_q14_17 s q14_L10k (exitTo 4 q14_8k xN) (finP [.t 2]) = q14_17k s :=
  (W_seq (k := q14_14k) (fun s => q14_16_eq s)).trans (by kernel_rfl)
noncomputable def q14_18 (v1 v3 v92 v93 v94 : AV) (h : Heap) : OX :=
ob (evBin .lss v94 v93) fun v95 =>
(q14_17 v1 v3 v92 v93 v94 v95 h)
noncomputable def q14_18k (s : St) : OX := q14_18 (s 1) (s 3) (s 92) (s 93) (s 94) s.h
theorem q14_18_eq (s : St) : W E 0 c_q14_18 s q14_L10k (exitTo 4 q14_8k xN) (finP [.t 2]) = q14_18k s :=
  (W_seq (k := q14_17k) (fun s => q14_17_eq s)).trans (by kernel_rfl)
theorem q14_L10_go (v1 v3 v92 v93 v94 : AV) (h : Heap) : q14_L10 v1 v3 v92 v93 v94 h = (q14_18 v1 v3 v92 v93 v94 h) :=
  W_loop.trans ((W_congr _ _ _ (n' := q14_L10k) (fun s => q14_L10_eq s)).trans ((q14_18_eq _).trans (by kernel_rfl)))
theorem q14_19_eq (s : St) : W E 0 c_q14_19 s q14_8k xN (finP [.t 2]) = q14_L10k s :=
  W_block.trans (q14_L10_eq s)
noncomputable def q14_20 (v1 v3 : AV) (h : Heap) : OX :=
ob (evFa 3 v1) fun v91 =>
ob (evLd false 1 v91 h) fun v92 =>
ob (evLen 1 v92 h) fun v93 =>
(q14_L10 v1 v3 v92 v93 (AV.int .i64 0) h)
noncomputable def q14_20k (s : St) : OX := q14_20 (s 1) (s 3) s.h
theorem q14_20_eq (s : St) : W E 0 c_q14_20 s q14_8k xN (finP [.t 2]) = q14_20k s :=
  (W_seq (k := q14_L10k) (fun s => q14_19_eq s)).trans (by kernel_rfl)
theorem q14_21_eq (s : St) : W E 0 c_q14_21 s (finP [.t 2]) xN (finP [.t 2]) = q14_20k s :=
  (W_seq (k := q14_8k) (fun s => q14_9_eq s)).trans (q14_20_eq s)
noncomputable def q14_L22 (v1 v3 v62 v63 v64 : AV) (h : Heap) : OX :=
  W E 0 c_q14_L22 ⟨[(1, v1), (3, v3), (62, v62), (63, v63), (64, v64)], h⟩ q14_20k (exitTo 2 q14_20k xN) (finP [.t 2])
noncomputable def q14_L22k (s : St) : OX := q14_L22 (s 1) (s 3) (s 62) (s 63) (s 64) s.h
theorem q14_L22_eq (s : St) : W E 0 c_q14_L22 s q14_20k (exitTo 2 q14_20k xN) (finP [.t 2]) = q14_L22k s := W_loop_live.trans (by kernel_rfl)
noncomputable def q14_23 (v1 v3 v62 v63 v64 : AV) (h : Heap) : OX :=
ob (evBin .add v64 (AV.int .i64 1)) fun v90 =>
(q14_L22 v1 v3 v62 v63 v90 h)
noncomputable def q14_23k (s : St) : OX := q14_23 (s 1) (s 3) (s 62) (s 63) (s 64) s.h
theorem q14_23_eq (s : St) : W E 0 c_q14_23 s q14_L22k (exitTo 2 q14_20k xN) (finP [.t 2]) = q14_23k s :=
  by kernel_rfl
noncomputable def q14_24 (v1 v3 v62 v63 v64 : AV) (h : Heap) : OX :=
ob (evIxs 1 v62 v64) fun v67 =>
ob (evLd false 1 v67 h) fun v68 =>
ob (evBin .lss v68 (AV.int .i64 0)) fun v70 =>
gb v70 false (some v68) fun v72 =>
gb v70 false (evFa 0 v1) fun v73 =>
gb v70 false (evLd false 1 v73 h) fun v74 =>
gb v70 false (evLen 1 v74 h) fun v75 =>
gb v70 false (evBin .geq v72 v75) fun v76 =>
ob (evPick v70 (AV.bool true) v76) fun v77 =>
gb v77 false (evFa 1 v1) fun v79 =>
gb v77 false (evLd false 1 v79 h) fun v80 =>
gb v77 false (some v64) fun v81 =>
gb v77 false (evSlcO 1 v80 none (some v81)) fun v82 =>
gb v77 false (some v68) fun v83 =>
gh v77 false (callAny E (callW E) 0 none true 46 [v82, v83] h) h fun v84 h8 =>
ob (evPick v77 (AV.bool true) v84) fun v85 =>
gb v85 false (some v64) fun v87 =>
gb v85 false (evBin .gtr v87 (AV.int .i64 20)) fun v88 =>
ob (evPick v85 (AV.bool true) v88) fun v89 =>
cnd v89
 ((expo1 h8 (AV.int .i64 80)))
 ((q14_23 v1 v3 v62 v63 v64 h8))
noncomputable def q14_24k (s : St) : OX := q14_24 (s 1) (s 3) (s 62) (s 63) (s 64) s.h
theorem q14_24_eq (s : St) : W E 0 c_q14_24 s q14_L22k (exitTo 2 q14_20k xN) (finP [.t 2]) = q14_24k s :=
  (W_seq (k := q14_23k) (fun s => q14_23_eq s)).trans (by kernel_rfl)
noncomputable def q14_25 (v1 v3 v62 v63 v64 v65 : AV) (h : Heap) : OX :=
cnd v65
 ((q14_24 v1 v3 v62 v63 v64 h))
 ((q14_20 v1 v3 h))
noncomputable def q14_25k (s : St) : OX := q14_25 (s 1) (s 3) (s 62) (s 63) (s 64) (s 65) s.h
theorem q14_25_eq (s : St) : W E 0 c_q14_25 s q14_L22k (exitTo 2 q14_20k xN) (finP [.t 2]) = q14_25k s :=
  (W_seq (k := q14_24k) (fun s => q14_24_eq s)).trans (by kernel_rfl)
noncomputable def q14_26 (v1 v3 v62 v63 v64 : AV) (h : Heap) : OX :=
ob (evBin .lss v64 v63) fun v65 =>
(q14_25 v1 v3 v62 v63 v64 v65 h)
noncomputable def q14_26k (s : St) : OX := q14_26 (s 1) (s 3) (s 62) (s 63) (s 64) s.h
theorem q14_26_eq (s : St) : W E 0 c_q14_26 s q14_L22k (exitTo 2 q14_20k xN) (finP [.t 2]) = q14_26k s :=
  (W_seq (k := q14_25k) (fun s => q14_25_eq s)).trans (by kernel_rfl)
theorem q14_L22_go (v1 v3 v62 v63 v64 : AV) (h : Heap) : q14_L22 v1 v3 v62 v63 v64 h = (q14_26 v1 v3 v62 v63 v64 h) :=
  W_loop.trans ((W_congr _ _ _ (n' := q14_L22k) (fun s => q14_L22_eq s)).trans ((q14_26_eq _).trans (by kernel_rfl)))
theorem q14_27_eq (s : St) : W E 0 c_q14_27 s q14_20k xN (finP [.t 2]) = q14_L22k s :=
  W_block.trans (q14_L22_eq s)
noncomputable def q14_28 (v1 v3 : AV) (h : Heap) : OX :=
ob (evFa 1 v1) fun v61 =>
ob (evLd false 1 v61 h) fun v62 =>
ob (evLen 1 v62 h) fun v63 =>
(q14_L22 v1 v3 v62 v63 (AV.int .i64 0) h)
noncomputable def q14_28k (s : St) : OX := q14_28 (s 1) (s 3) s.h
theorem q14_28_eq (s : St) : W E 0 c_q14_28 s q14_20k xN (finP [.t 2]) = q14_28k s :=
  (W_seq (k := q14_L22k) (fun s => q14_27_eq s)).trans (by kernel_rfl)
theorem q14_29_eq (s : St) : W E 0 c_q14_29 s (finP [.t 2]) xN (finP [.t 2]) = q14_28k s :=
  (W_seq (k := q14_20k) (fun s => q14_21_eq s)).trans (q14_28_eq s)
noncomputable def q14_L30 (v1 v3 v48 v49 v50 : AV) (h : Heap) : OX :=
  W E 0 c_q14_L30 ⟨[(1, v1), (3, v3), (48, v48), (49, v49), (50, v50)], h⟩ q14_28k (exitTo 0 q14_28k xN) (finP [.t 2])
noncomputable def q14_L30k (s : St) : OX := q14_L30 (s 1) (s 3) (s 48) (s 49) (s 50) s.h
theorem q14_L30_eq (s : St) : W E 0 c_q14_L30 s q14_28k (exitTo 0 q14_28k xN) (finP [.t 2]) = q14_L30k s := W_loop_live.trans (by kernel_rfl)
noncomputable def q14_31 (v1 v3 v48 v49 v50 : AV) (h : Heap) : OX :=
ob (evBin .add v50 (AV.int .i64 1)) fun v60 =>
(q14_L30 v1 v3 v48 v49 v60 h)
noncomputable def q14_31k (s : St) : OX := q14_31 (s 1) (s 3) (s 48) (s 49) (s 50) s.h
theorem q14_31_eq (s : St) : W E 0 c_q14_31 s q14_L30k (exitTo 0 q14_28k xN) (finP [.t 2]) = q14_31k s :=
  by kernel_rfl
noncomputable def q14_32 (v1 v3 v48 v49 v50 : AV) (h : Heap) : OX :=
ob (evIxs 1 v48 v50) fun v52 =>
ob (evLd false 1 v52 h) fun v53 =>
ob (evBin .lss v53 (AV.int .i64 1)) fun v55 =>
gb v55 false (some v53) fun v57 =>
gb v55 false (evBin .gtr v57 (AV.int .i64 3)) fun v58 =>
ob (evPick v55 (AV.bool true) v58) fun v59 =>
cnd v59
 ((expo1 h (AV.int .i64 80)))
 ((q14_31 v1 v3 v48 v49 v50 h))
noncomputable def q14_32k (s : St) : OX := q14_32 (s 1) (s 3) (s 48) (s 49) (s 50) s.h
theorem q14_32_eq (s : St) : W E 0 c_q14_32 s q14_L30k (exitTo 0 q14_28k xN) (finP [.t 2]) = q14_32k s :=
  (W_seq (k := q14_31k) (fun s => q14_31_eq s)).trans (by kernel_rfl)
noncomputable def q14_33 (v1 v3 v48 v49 v50 v51 : AV) (h : Heap) : OX :=
cnd v51
 ((q14_32 v1 v3 v48 v49 v50 h))
 ((q14_28 v1 v3 h))
noncomputable def q14_33k (s : St) : OX := q14_33 (s 1) (s 3) (s 48) (s 49) (s 50) (s 51) s.h
theorem q14_33_eq (s : St) : W E 0 c_q14_33 s q14_L30k (exitTo 0 q14_28k xN) (finP [.t 2]) = q14_33k s :=
  (W_seq (k := q14_32k) (fun s => q14_32_eq s)).trans (by kernel_rfl)
noncomputable def q14_34 (v1 v3 v48 v49 v50 : AV) (h : Heap) : OX :=
ob (evBin .lss v50 v49) fun v51 =>
(q14_33 v1 v3 v48 v49 v50 v51 h)
noncomputable def q14_34k (s : St) : OX := q14_34 (s 1) (s 3) (s 48) (s 49) (s 50) s.h
theorem q14_34_eq (s : St) : W E 0 c_q14_34 s q14_L30k (exitTo 0 q14_28k xN) (finP [.t 2]) = q14_34k s :=
  (W_seq (k := q14_33k) (fun s => q14_33_eq s)).trans (by kernel_rfl)
theorem q14_L30_go (v1 v3 v48 v49 v50 : AV) (h : Heap) : q14_L30 v1 v3 v48 v49 v50 h = (q14_34 v1 v3 v48 v49 v50 h) :=
  W_loop.trans ((W_congr _ _ _ (n' := q14_L30k) (fun s => q14_L30_eq s)).trans ((q14_34_eq _).trans (by kernel_rfl)))
theorem q14_35_eq (s : St) : W E 0 c_q14_35 s q14_28k xN (finP [.t 2]) = q14_L30k s :=
  W_block.trans (q14_L30_eq s)
noncomputable def q14_36 (v1 v3 : AV) (h : Heap) : OX :=
ob (evFa 0 v1) fun v47 =>
ob (evLd false 1 v47 h) fun v48 =>
ob (evLen 1 v48 h) fun v49 =>
(q14_L30 v1 v3 v48 v49 (AV.int .i64 0) h)
noncomputable def q14_36k (s : St) : OX := q14_36 (s 1) (s 3) s.h
theorem q14_36_eq (s : St) : W E 0 c_q14_36 s q14_28k xN (finP [.t 2]) = q14_36k s :=
  (W_seq (k := q14_L30k) (fun s => q14_35_eq s)).trans (by kernel_rfl)
theorem q14_37_eq (s : St) : W E 0 c_q14_37 s (finP [.t 2]) xN (finP [.t 2]) = q14_36k s :=
  (W_seq (k := q14_28k) (fun s => q14_29_eq s)).trans (q14_36_eq s)
noncomputable def q14_38 (v1 v3 : AV) (h : Heap) : OX :=
ob (evBin .lss v3 (AV.int .i64 1)) fun v16 =>
gb v16 false (some v3) fun v18 =>
gb v16 false (evBin .gtr v18 (AV.int .i64 20000)) fun v19 =>
ob (evPick v16 (AV.bool true) v19) fun v20 =>
gb v20 false (evFa 0 v1) fun v22 =>
gb v20 false (evLd false 1 v22 h) fun v23 =>
gb v20 false (evLen 1 v23 h) fun v24 =>
gb v20 false (evBin .gtr v24 (AV.int .i64 20000)) fun v25 =>
ob (evPick v20 (AV.bool true) v25) fun v26 =>
gb v26 false (evFa 2 v1) fun v28 =>
gb v26 false (evLd false 1 v28 h) fun v29 =>
gb v26 false (evBin .lss v29 (AV.int .i64 0)) fun v30 =>
ob (evPick v26 (AV.bool true) v30) fun v31 =>
gb v31 false (evFa 2 v1) fun v33 =>
gb v31 false (evLd false 1 v33 h) fun v34 =>
gb v31 false (evBin .gtr v34 (AV.int .i64 3)) fun v35 =>
ob (evPick v31 (AV.bool true) v35) fun v36 =>
gb v36 false (evFa 3 v1) fun v38 =>
gb v36 false (evLd false 1 v38 h) fun v39 =>
gb v36 false (some v3) fun v40 =>
gb v36 false (evBin .sub v40 (AV.int .i64 1)) fun v41 =>
gb v36 false (evIxs 9 v39 v41) fun v42 =>
gb v36 false (evLd true 9 v42 h) fun v43 =>
gh v36 false (callAny E (callW E) 0 none true 24 [v43] h) h fun v44 h9 =>
gb v36 false (evUn .not v44) fun v45 =>
ob (evPick v36 (AV.bool true) v45) fun v46 =>
cnd v46
 ((expo1 h9 (AV.int .i64 80)))
 ((q14_36 v1 v3 h9))
noncomputable def q14_38k (s : St) : OX := q14_38 (s 1) (s 3) s.h
theorem q14_38_eq (s : St) : W E 0 c_q14_38 s (finP [.t 2]) xN (finP [.t 2]) = q14_38k s :=
  (W_seq (k := q14_36k) (fun s => q14_37_eq s)).trans (by kernel_rfl)
noncomputable def q14_39 (v1 : AV) (h : Heap) : OX :=
ob (evFa 3 v1) fun v12 =>
ob (evLd false 1 v12 h) fun v13 =>
ob (evLen 1 v13 h) fun v14 =>
(q14_38 v1 v14 h)
noncomputable def q14_39k (s : St) : OX := q14_39 (s 1) s.h
theorem q14_39_eq (s : St) : W E 0 c_q14_39 s (finP [.t 2]) xN (finP [.t 2]) = q14_39k s :=
  (W_seq (k := q14_38k) (fun s => q14_38_eq s)).trans (by kernel_rfl)
noncomputable def q14_40 (v0 : AV) (h : Heap) : OX :=
oh (newC 0 (some 0) (cellsOf v0) h) fun v1 h10 =>
(q14_39 v1 h10)
noncomputable def q14_40k (s : St) : OX := q14_40 (s 0) s.h
theorem q14_40_eq (s : St) : W E 0 c_q14_40 s (finP [.t 2]) xN (finP [.t 2]) = q14_40k s :=
  (W_seq (k := q14_39k) (fun s => q14_39_eq s)).trans (by kernel_rfl)
@[simp] theorem pure_8 : E.pure 8 = true := rfl
theorem x_q14 (v0 : AV) : (callW E).p 8 [v0] = q14_40 v0 [⟨0, .dead⟩, ⟨0, .dead⟩, ⟨0, .dead⟩] :=
  (callP_W (cf := c_q14) (by kernel_rfl) rfl).trans ((q14_40_eq _).trans (by kernel_rfl))
noncomputable def q43_1 (fb : Nat) (v5 : AV) (h : Heap) : Option (AV × Heap) :=
(some (v5, h))
noncomputable def q43_1k (fb : Nat) (s : St) : Option (AV × Heap) := q43_1 fb (s 5) s.h
theorem q43_1_eq (fb : Nat) (s : St) : W E fb c_q43_1 s (finI [.t 4]) xN (finI [.t 4]) = q43_1k fb s :=
  by kernel_rfl
noncomputable def q43_L2 (fb : Nat) (v0 v5 v8 v9 v10 : AV) (h : Heap) : Option (AV × Heap) :=
  W E fb c_q43_L2 ⟨[(0, v0), (5, v5), (8, v8), (9, v9), (10, v10)], h⟩ (q43_1k fb) (exitTo 0 (q43_1k fb) xN) (finI [.t 4])
noncomputable def q43_L2k (fb : Nat) (s : St) : Option (AV × Heap) := q43_L2 fb (s 0) (s 5) (s 8) (s 9) (s 10) s.h
theorem q43_L2_eq (fb : Nat) (s : St) : W E fb c_q43_L2 s (q43_1k fb) (exitTo 0 (q43_1k fb) xN) (finI [.t 4]) = q43_L2k fb s := W_loop_live.trans (by kernel_rfl)
noncomputable def q43_3 (fb : Nat) (v0 v5 v8 v9 v10 : AV) (h : Heap) : Option (AV × Heap) :=
ob (evBin .add v10 (AV.int .i64 1)) fun v32 =>
(q43_L2 fb v0 v5 v8 v9 v32 h)
noncomputable def q43_3k (fb : Nat) (s : St) : Option (AV × Heap) := q43_3 fb (s 0) (s 5) (s 8) (s 9) (s 10) s.h
theorem q43_3_eq (fb : Nat) (s : St) : W E fb c_q43_3 s (q43_L2k fb) (exitTo 0 (q43_1k fb) xN) (finI [.t 4]) = q43_3k fb s :=
  by kernel_rfl
noncomputable def q43_4 (fb : Nat) (v0 v5 v8 v9 v10 : AV) (h : Heap) : Option (AV × Heap) :=
ob (evIxs 1 v8 v10) fun v13 =>
ob (evLd false 1 v13 h) fun v14 =>
gb v5 false (some v14) fun v17 =>
gb v5 false (some v0) fun v18 =>
gb v5 false (some v10) fun v19 =>
gb v5 false (evIxs 1 v18 v19) fun v20 =>
gb v5 false (evLd false 1 v20 h) fun v21 =>
gb v5 false (evBin .andNot v17 v21) fun v22 =>
gb v5 false (evBin .neq v22 (AV.int .u64 0)) fun v23 =>
ob (evPick v5 (AV.bool true) v23) fun v24 =>
ob (evIxs 1 v0 v10) fun v27 =>
ob (evLd false 1 v27 h) fun v28 =>
ob (evBin .or v28 v14) fun v30 =>
ob (evIxs 1 v0 v10) fun v31 =>
oh (evSt 1 v31 v30 h) fun _ h1 =>
(q43_3 fb v0 v24 v8 v9 v10 h1)
noncomputable def q43_4k (fb : Nat) (s : St) : Option (AV × Heap) := q43_4 fb (s 0) (s 5) (s 8) (s 9) (s 10) s.h
theorem q43_4_eq (fb : Nat) (s : St) : W E fb c_q43_4 s (q43_L2k fb) (exitTo 0 (q43_1k fb) xN) (finI [.t 4]) = q43_4k fb s :=
  (W_seq (k := (q43_3k fb)) (fun s => q43_3_eq fb s)).trans (by kernel_rfl)
noncomputable def q43_5 (fb : Nat) (v0 v5 v8 v9 v10 v11 : AV) (h : Heap) : Option (AV × Heap) :=
cnd v11
 ((q43_4 fb v0 v5 v8 v9 v10 h))
 ((q43_1 fb v5 h))
noncomputable def q43_5k (fb : Nat) (s : St) : Option (AV × Heap) := q43_5 fb (s 0) (s 5) (s 8) (s 9) (s 10) (s 11) s.h
theorem q43_5_eq (fb : Nat) (s : St) : W E fb c_q43_5 s (q43_L2k fb) (exitTo 0 (q43_1k fb) xN) (finI [.t 4]) = q43_5k fb s :=
  (W_seq (k := (q43_4k fb)) (fun s => q43_4_eq fb s)).trans (by kernel_rfl)
noncomputable def q43_6 (fb : Nat) (v0 v5 v8 v9 v10 : AV) (h : Heap) : Option (AV × Heap) :=
ob (evBin .lss v10 v9) fun v11 =>
(q43_5 fb v0 v5 v8 v9 v10 v11 h)
noncomputable def q43_6k (fb : Nat) (s : St) : Option (AV × Heap) := q43_6 fb (s 0) (s 5) (s 8) (s 9) (s 10) s.h
theorem q43_6_eq (fb : Nat) (s : St) : W E fb c_q43_6 s (q43_L2k fb) (exitTo 0 (q43_1k fb) xN) (finI [.t 4]) = q43_6k fb s :=
  (W_seq (k := (q43_5k fb)) (fun s => q43_5_eq fb s)).trans (by kernel_rfl)
theorem q43_L2_go (fb : Nat) (v0 v5 v8 v9 v10 : AV) (h : Heap) : q43_L2 fb v0 v5 v8 v9 v10 h = (q43_6 fb v0 v5 v8 v9 v10 h) :=
  W_loop.trans ((W_congr _ _ _ (n' := (q43_L2k fb)) (fun s => q43_L2_eq fb s)).trans ((q43_6_eq fb _).trans (by kernel_rfl)))
theorem q43_7_eq (fb : Nat) (s : St) : W E fb c_q43_7 s (q43_1k fb) xN (finI [.t 4]) = q43_L2k fb s :=
  W_block.trans (q43_L2_eq fb s)
noncomputable def q43_8 (fb : Nat) (v0 v1 v5 : AV) (h : Heap) : Option (AV × Heap) :=
ob (evLen 1 v1 h) fun v9 =>
(q43_L2 fb v0 v5 v1 v9 (AV.int .i64 0) h)
noncomputable def q43_8k (fb : Nat) (s : St) : Option (AV × Heap) := q43_8 fb (s 0) (s 1) (s 5) s.h
theorem q43_8_eq (fb : Nat) (s : St) : W E fb c_q43_8 s (q43_1k fb) xN (finI [.t 4]) = q43_8k fb s :=
  (W_seq (k := (q43_L2k fb)) (fun s => q43_7_eq fb s)).trans (by kernel_rfl)
theorem q43_9_eq (fb : Nat) (s : St) : W E fb c_q43_9 s (finI [.t 4]) xN (finI [.t 4]) = q43_8k fb s :=
  (W_seq (k := (q43_1k fb)) (fun s => q43_1_eq fb s)).trans (q43_8_eq fb s)
noncomputable def q43_10 (fb : Nat) (v0 v1 : AV) (h : Heap) : Option (AV × Heap) :=
(q43_8 fb v0 v1 (AV.bool false) h)
noncomputable def q43_10k (fb : Nat) (s : St) : Option (AV × Heap) := q43_10 fb (s 0) (s 1) s.h
theorem q43_10_eq (fb : Nat) (s : St) : W E fb c_q43_10 s (finI [.t 4]) xN (finI [.t 4]) = q43_10k fb s :=
  (W_seq (k := (q43_8k fb)) (fun s => q43_9_eq fb s)).trans (by kernel_rfl)
noncomputable def q43_11 (fb : Nat) (v0 v1 : AV) (h : Heap) : Option (AV × Heap) :=
(q43_10 fb v0 v1 h)
noncomputable def q43_11k (fb : Nat) (s : St) : Option (AV × Heap) := q43_11 fb (s 0) (s 1) s.h
theorem q43_11_eq (fb : Nat) (s : St) : W E fb c_q43_11 s (finI [.t 4]) xN (finI [.t 4]) = q43_11k fb s :=
  (W_seq (k := (q43_10k fb)) (fun s => q43_10_eq fb s)).trans (by kernel_rfl)
@[simp] theorem pure_84 : E.pure 84 = false := rfl
theorem x_q43 (fb : Nat) (v0 v1 : AV) (h : Heap) : (callW E).i 84 [v0, v1] fb h = q43_11 fb v0 v1 (if fb = h.length then h ++ deadSlots 0 else h) :=
  (callI_W (cf := c_q43) (by kernel_rfl) rfl).trans ((q43_11_eq fb _).trans (by kernel_rfl))
noncomputable def q16_1 (h : Heap) : OX :=
(expo1 h (AV.int .i64 (-1)))
noncomputable def q16_1k (s : St) : OX := q16_1 s.h
theorem q16_1_eq (s : St) : W E 0 c_q16_1 s (finP [.t 2]) xN (finP [.t 2]) = q16_1k s :=
  by kernel_rfl
noncomputable def q16_2 (v1 : AV) (h : Heap) : OX :=
ob (evLd true 9 v1 h) fun v22 =>
oh (callAny E (callW E) 0 none true 17 [v22] h) fun v23 h1 =>
cnd v23
 (ob (evFa 1 v1) fun v24 =>
ob (evLd false 1 v24 h1) fun v25 =>
(expo1 h1 v25))
 ((q16_1 h1))
noncomputable def q16_2k (s : St) : OX := q16_2 (s 1) s.h
theorem q16_2_eq (s : St) : W E 0 c_q16_2 s (finP [.t 2]) xN (finP [.t 2]) = q16_2k s :=
  (W_seq (k := q16_1k) (fun s => q16_1_eq s)).trans (by kernel_rfl)
noncomputable def q16_3 (v1 v5 : AV) (h : Heap) : OX :=
cnd v5
 (ob (evFa 1 v1) fun v20 =>
ob (evLd false 1 v20 h) fun v21 =>
(expo1 h v21))
 ((q16_2 v1 h))
noncomputable def q16_3k (s : St) : OX := q16_3 (s 1) (s 5) s.h
theorem q16_3_eq (s : St) : W E 0 c_q16_3 s q16_2k (exitTo 0 q16_2k xN) (finP [.t 2]) = q16_3k s :=
  by kernel_rfl
noncomputable def q16_4 (v1 v4 : AV) (h : Heap) : OX :=
ob (evBin .eql v4 (AV.int .i64 1)) fun v6 =>
cnd v6
 ((q16_3 v1 v6 h))
 (ob (evBin .eql v4 (AV.int .i64 2)) fun v7 =>
cnd v7
 ((q16_3 v1 v7 h))
 (ob (evBin .eql v4 (AV.int .i64 3)) fun v8 =>
cnd v8
 ((q16_3 v1 v8 h))
 (ob (evBin .eql v4 (AV.int .i64 4)) fun v9 =>
cnd v9
 ((q16_3 v1 v9 h))
 (ob (evBin .eql v4 (AV.int .i64 5)) fun v10 =>
cnd v10
 ((q16_3 v1 v10 h))
 (ob (evBin .eql v4 (AV.int .i64 6)) fun v11 =>
cnd v11
 ((q16_3 v1 v11 h))
 (ob (evBin .eql v4 (AV.int .i64 13)) fun v12 =>
cnd v12
 ((q16_3 v1 v12 h))
 (ob (evBin .eql v4 (AV.int .i64 15)) fun v13 =>
cnd v13
 ((q16_3 v1 v13 h))
 (ob (evBin .eql v4 (AV.int .i64 16)) fun v14 =>
cnd v14
 ((q16_3 v1 v14 h))
 (ob (evBin .eql v4 (AV.int .i64 18)) fun v15 =>
cnd v15
 ((q16_3 v1 v15 h))
 (ob (evBin .eql v4 (AV.int .i64 20)) fun v16 =>
cnd v16
 ((q16_3 v1 v16 h))
 (ob (evBin .eql v4 (AV.int .i64 21)) fun v17 =>
cnd v17
 ((q16_3 v1 v17 h))
 (ob (evBin .eql v4 (AV.int .i64 22)) fun v18 =>
cnd v18
 ((q16_3 v1 v18 h))
 (ob (evBin .eql v4 (AV.int .i64 32)) fun v19 =>
(q16_3 v1 v19 h))))))))))))))
noncomputable def q16_4k (s : St) : OX := q16_4 (s 1) (s 4) s.h
theorem q16_4_eq (s : St) : W E 0 c_q16_4 s q16_2k (exitTo 0 q16_2k xN) (finP [.t 2]) = q16_4k s :=
  (W_seq (k := q16_3k) (fun s => q16_3_eq s)).trans (by kernel_rfl)
theorem q16_5_eq (s : St) : W E 0 c_q16_5 s q16_2k xN (finP [.t 2]) = q16_4k s :=
  W_block.trans (q16_4_eq s)
noncomputable def q16_6 (v1 : AV) (h : Heap) : OX :=
ob (evFa 0 v1) fun v3 =>
ob (evLd false 1 v3 h) fun v4 =>
(q16_4 v1 v4 h)
noncomputable def q16_6k (s : St) : OX := q16_6 (s 1) s.h
theorem q16_6_eq (s : St) : W E 0 c_q16_6 s q16_2k xN (finP [.t 2]) = q16_6k s :=
  (W_seq (k := q16_4k) (fun s => q16_5_eq s)).trans (by kernel_rfl)
theorem q16_7_eq (s : St) : W E 0 c_q16_7 s (finP [.t 2]) xN (finP [.t 2]) = q16_6k s :=
  (W_seq (k := q16_2k) (fun s => q16_2_eq s)).trans (q16_6_eq s)
noncomputable def q16_8 (v0 : AV) (h : Heap) : OX :=
oh (newC 0 (some 0) (cellsOf v0) h) fun v1 h2 =>
(q16_6 v1 h2)
noncomputable def q16_8k (s : St) : OX := q16_8 (s 0) s.h
theorem q16_8_eq (s : St) : W E 0 c_q16_8 s (finP [.t 2]) xN (finP [.t 2]) = q16_8k s :=
  (W_seq (k := q16_6k) (fun s => q16_7_eq s)).trans (by kernel_rfl)
@[simp] theorem pure_9 : E.pure 9 = true := rfl
theorem x_q16 (v0 : AV) : (callW E).p 9 [v0] = q16_8 v0 [⟨0, .dead⟩] :=
  (callP_W (cf := c_q16) (by kernel_rfl) rfl).trans ((q16_8_eq _).trans (by kernel_rfl))
noncomputable def q41_1 (fb : Nat) (v0 v1 : AV) (h : Heap) : Option (AV × Heap) :=
ob (evBin .quo v1 (AV.int .i64 64)) fun v6 =>
ob (evIxs 1 v0 v6) fun v7 =>
ob (evLd false 1 v7 h) fun v8 =>
ob (evBin .rem v1 (AV.int .i64 64)) fun v10 =>
ob (evBin .shl (AV.int .u64 1) v10) fun v11 =>
ob (evBin .andNot v8 v11) fun v12 =>
ob (evIxs 1 v0 v6) fun v13 =>
oh (evSt 1 v13 v12 h) fun _ h1 =>
(some ((.tup []), h1))
noncomputable def q41_1k (fb : Nat) (s : St) : Option (AV × Heap) := q41_1 fb (s 0) (s 1) s.h
theorem q41_1_eq (fb : Nat) (s : St) : W E fb c_q41_1 s (finI []) xN (finI []) = q41_1k fb s :=
  by kernel_rfl
@[simp] theorem pure_85 : E.pure 85 = false := rfl
theorem x_q41 (fb : Nat) (v0 v1 : AV) (h : Heap) : (callW E).i 85 [v0, v1] fb h = q41_1 fb v0 v1 (if fb = h.length then h ++ deadSlots 0 else h) :=
  (callI_W (cf := c_q41) (by kernel_rfl) rfl).trans ((q41_1_eq fb _).trans (by kernel_rfl))
noncomputable def q20_1 (h : Heap) : OX :=
(expo1 h AV.nils)
noncomputable def q20_1k (s : St) : OX := q20_1 s.h
theorem q20_1_eq (s : St) : W E 0 c_q20_1 s (finP [.t 2]) xN (finP [.t 2]) = q20_1k s :=
  by kernel_rfl
noncomputable def q20_2 (v1 : AV) (h : Heap) : OX :=
ob (evFa 2 v1) fun v58 =>
ob (evLd false 1 v58 h) fun v59 =>
ob (evFa 3 v1) fun v60 =>
ob (evLd false 1 v60 h) fun v61 =>
oh (buildSC 0 (some 6) 1 2 [(.int .i64 0)] [(0, v59), (1, v61)] h) fun v62 h1 =>
(expo1 h1 v62)
noncomputable def q20_2k (s : St) : OX := q20_2 (s 1) s.h
theorem q20_2_eq (s : St) : W E 0 c_q20_2 s q20_1k (exitTo 0 q20_1k xN) (finP [.t 2]) = q20_2k s :=
  by kernel_rfl
noncomputable def q20_3 (v1 : AV) (h : Heap) : OX :=
ob (evFa 3 v1) fun v52 =>
ob (evLd false 1 v52 h) fun v53 =>
ob (evBin .lss v53 (AV.int .i64 0)) fun v54 =>
cnd v54
 (ob (evFa 2 v1) fun v55 =>
ob (evLd false 1 v55 h) fun v56 =>
oh (buildSC 0 (some 5) 1 1 [(.int .i64 0)] [(0, v56)] h) fun v57 h2 =>
(expo1 h2 v57))
 ((q20_2 v1 h))
noncomputable def q20_3k (s : St) : OX := q20_3 (s 1) s.h
theorem q20_3_eq (s : St) : W E 0 c_q20_3 s q20_1k (exitTo 0 q20_1k xN) (finP [.t 2]) = q20_3k s :=
  (W_seq (k := q20_2k) (fun s => q20_2_eq s)).trans (by kernel_rfl)
noncomputable def q20_4 (v1 v4 v50 : AV) (h : Heap) : OX :=
cnd v50
 ((q20_3 v1 h))
 (ob (evBin .eql v4 (AV.int .i64 30)) fun v64 =>
cnd v64
 (ob (evFa 2 v1) fun v65 =>
ob (evLd false 1 v65 h) fun v66 =>
ob (evBin .geq v66 (AV.int .i64 0)) fun v67 =>
cnd v67
 (ob (evFa 2 v1) fun v68 =>
ob (evLd false 1 v68 h) fun v69 =>
oh (buildSC 0 (some 7) 1 1 [(.int .i64 0)] [(0, v69)] h) fun v70 h3 =>
(expo1 h3 v70))
 ((q20_1 h)))
 ((q20_1 h)))
noncomputable def q20_4k (s : St) : OX := q20_4 (s 1) (s 4) (s 50) s.h
theorem q20_4_eq (s : St) : W E 0 c_q20_4 s q20_1k (exitTo 0 q20_1k xN) (finP [.t 2]) = q20_4k s :=
  (W_cond (q20_3_eq s) rfl).trans (by kernel_rfl)
noncomputable def q20_5 (v1 v4 : AV) (h : Heap) : OX :=
ob (evBin .eql v4 (AV.int .i64 29)) fun v51 =>
(q20_4 v1 v4 v51 h)
noncomputable def q20_5k (s : St) : OX := q20_5 (s 1) (s 4) s.h
theorem q20_5_eq (s : St) : W E 0 c_q20_5 s q20_1k (exitTo 0 q20_1k xN) (finP [.t 2]) = q20_5k s :=
  (W_seq (k := q20_4k) (fun s => q20_4_eq s)).trans (by kernel_rfl)
noncomputable def q20_6 (v1 v4 v42 : AV) (h : Heap) : OX :=
cnd v42
 (ob (evFa 8 v1) fun v47 =>
ob (evLd false 1 v47 h) fun v48 =>
oh (callAny E (callW E) 0 (some 4) false 39 [v48] h) fun v49 h4 =>
(expo1 h4 v49))
 ((q20_5 v1 v4 h))
noncomputable def q20_6k (s : St) : OX := q20_6 (s 1) (s 4) (s 42) s.h
theorem q20_6_eq (s : St) : W E 0 c_q20_6 s q20_1k (exitTo 0 q20_1k xN) (finP [.t 2]) = q20_6k s :=
  (W_cond rfl (q20_5_eq s)).trans (by kernel_rfl)
noncomputable def q20_7 (v1 v4 : AV) (h : Heap) : OX :=
ob (evBin .eql v4 (AV.int .i64 23)) fun v43 =>
cnd v43
 ((q20_6 v1 v4 v43 h))
 (ob (evBin .eql v4 (AV.int .i64 24)) fun v44 =>
cnd v44
 ((q20_6 v1 v4 v44 h))
 (ob (evBin .eql v4 (AV.int .i64 25)) fun v45 =>
cnd v45
 ((q20_6 v1 v4 v45 h))
 (ob (evBin .eql v4 (AV.int .i64 26)) fun v46 =>
(q20_6 v1 v4 v46 h))))
noncomputable def q20_7k (s : St) : OX := q20_7 (s 1) (s 4) s.h
theorem q20_7_eq (s : St) : W E 0 c_q20_7 s q20_1k (exitTo 0 q20_1k xN) (finP [.t 2]) = q20_7k s :=
  (W_seq (k := q20_6k) (fun s => q20_6_eq s)).trans (by kernel_rfl)
noncomputable def q20_8 (v1 v4 v33 : AV) (h : Heap) : OX :=
cnd v33
 (ob (evFa 2 v1) fun v35 =>
ob (evLd false 1 v35 h) fun v36 =>
ob (evFa 3 v1) fun v37 =>
ob (evLd false 1 v37 h) fun v38 =>
ob (evFa 4 v1) fun v39 =>
ob (evLd false 1 v39 h) fun v40 =>
oh (buildSC 0 (some 3) 1 3 [(.int .i64 0)] [(0, v36), (1, v38), (2, v40)] h) fun v41 h5 =>
(expo1 h5 v41))
 ((q20_7 v1 v4 h))
noncomputable def q20_8k (s : St) : OX := q20_8 (s 1) (s 4) (s 33) s.h
theorem q20_8_eq (s : St) : W E 0 c_q20_8 s q20_1k (exitTo 0 q20_1k xN) (finP [.t 2]) = q20_8k s :=
  (W_cond rfl (q20_7_eq s)).trans (by kernel_rfl)
noncomputable def q20_9 (v1 v4 : AV) (h : Heap) : OX :=
ob (evBin .eql v4 (AV.int .i64 14)) fun v34 =>
(q20_8 v1 v4 v34 h)
noncomputable def q20_9k (s : St) : OX := q20_9 (s 1) (s 4) s.h
theorem q20_9_eq (s : St) : W E 0 c_q20_9 s q20_1k (exitTo 0 q20_1k xN) (finP [.t 2]) = q20_9k s :=
  (W_seq (k := q20_8k) (fun s => q20_8_eq s)).trans (by kernel_rfl)
noncomputable def q20_10 (v1 v4 v21 : AV) (h : Heap) : OX :=
cnd v21
 (ob (evFa 2 v1) fun v28 =>
ob (evLd false 1 v28 h) fun v29 =>
ob (evFa 3 v1) fun v30 =>
ob (evLd false 1 v30 h) fun v31 =>
oh (buildSC 0 (some 2) 1 2 [(.int .i64 0)] [(0, v29), (1, v31)] h) fun v32 h6 =>
(expo1 h6 v32))
 ((q20_9 v1 v4 h))
noncomputable def q20_10k (s : St) : OX := q20_10 (s 1) (s 4) (s 21) s.h
theorem q20_10_eq (s : St) : W E 0 c_q20_10 s q20_1k (exitTo 0 q20_1k xN) (finP [.t 2]) = q20_10k s :=
  (W_cond rfl (q20_9_eq s)).trans (by kernel_rfl)
noncomputable def q20_11 (v1 v4 : AV) (h : Heap) : OX :=
ob (evBin .eql v4 (AV.int .i64 5)) fun v22 =>
cnd v22
 ((q20_10 v1 v4 v22 h))
 (ob (evBin .eql v4 (AV.int .i64 9)) fun v23 =>
cnd v23
 ((q20_10 v1 v4 v23 h))
 (ob (evBin .eql v4 (AV.int .i64 11)) fun v24 =>
cnd v24
 ((q20_10 v1 v4 v24 h))
 (ob (evBin .eql v4 (AV.int .i64 13)) fun v25 =>
cnd v25
 ((q20_10 v1 v4 v25 h))
 (ob (evBin .eql v4 (AV.int .i64 17)) fun v26 =>
cnd v26
 ((q20_10 v1 v4 v26 h))
 (ob (evBin .eql v4 (AV.int .i64 28)) fun v27 =>
(q20_10 v1 v4 v27 h))))))
noncomputable def q20_11k (s : St) : OX := q20_11 (s 1) (s 4) s.h
theorem q20_11_eq (s : St) : W E 0 c_q20_11 s q20_1k (exitTo 0 q20_1k xN) (finP [.t 2]) = q20_11k s :=
  (W_seq (k := q20_10k) (fun s => q20_10_eq s)).trans (by kernel_rfl)
noncomputable def q20_12 (v1 v4 v5 : AV) (h : Heap) : OX :=
cnd v5
 (ob (evFa 2 v1) fun v18 =>
ob (evLd false 1 v18 h) fun v19 =>
oh (buildSC 0 (some 1) 1 1 [(.int .i64 0)] [(0, v19)] h) fun v20 h7 =>
(expo1 h7 v20))
 ((q20_11 v1 v4 h))
noncomputable def q20_12k (s : St) : OX := q20_12 (s 1) (s 4) (s 5) s.h
theorem q20_12_eq (s : St) : W E 0 c_q20_12 s q20_1k (exitTo 0 q20_1k xN) (finP [.t 2]) = q20_12k s :=
  (W_cond rfl (q20_11_eq s)).trans (by kernel_rfl)
noncomputable def q20_13 (v1 v4 : AV) (h : Heap) : OX :=
ob (evBin .eql v4 (AV.int .i64 4)) fun v6 =>
cnd v6
 ((q20_12 v1 v4 v6 h))
 (ob (evBin .eql v4 (AV.int .i64 6)) fun v7 =>
cnd v7
 ((q20_12 v1 v4 v7 h))
 (ob (evBin .eql v4 (AV.int .i64 7)) fun v8 =>
cnd v8
 ((q20_12 v1 v4 v8 h))
 (ob (evBin .eql v4 (AV.int .i64 8)) fun v9 =>
cnd v9
 ((q20_12 v1 v4 v9 h))
 (ob (evBin .eql v4 (AV.int .i64 10)) fun v10 =>
cnd v10
 ((q20_12 v1 v4 v10 h))
 (ob (evBin .eql v4 (AV.int .i64 12)) fun v11 =>
cnd v11
 ((q20_12 v1 v4 v11 h))
 (ob (evBin .eql v4 (AV.int .i64 15)) fun v12 =>
cnd v12
 ((q20_12 v1 v4 v12 h))
 (ob (evBin .eql v4 (AV.int .i64 16)) fun v13 =>
cnd v13
 ((q20_12 v1 v4 v13 h))
 (ob (evBin .eql v4 (AV.int .i64 19)) fun v14 =>
cnd v14
 ((q20_12 v1 v4 v14 h))
 (ob (evBin .eql v4 (AV.int .i64 21)) fun v15 =>
cnd v15
 ((q20_12 v1 v4 v15 h))
 (ob (evBin .eql v4 (AV.int .i64 22)) fun v16 =>
cnd v16
 ((q20_12 v1 v4 v16 h))
 (ob (evBin .eql v4 (AV.int .i64 31)) fun v17 =>
(q20_12 v1 v4 v17 h))))))))))))
noncomputable def q20_13k (s : St) : OX := q20_13 (s 1) (s 4) s.h
theorem q20_13_eq (s : St) : W E 0 c_q20_13 s q20_1k (exitTo 0 q20_1k xN) (finP [.t 2]) = q20_13k s :=
  (W_seq (k := q20_12k) (fun s => q20_12_eq s)).trans (by kernel_rfl)
theorem q20_14_eq (s : St) : W E 0 c_q20_14 s q20_1k xN (finP [.t 2]) = q20_13k s :=
  W_block.trans (q20_13_eq s)
noncomputable def q20_15 (v1 : AV) (h : Heap) : OX :=
ob (evFa 0 v1) fun v3 =>
ob (evLd false 1 v3 h) fun v4 =>
(q20_13 v1 v4 h)
noncomputable def q20_15k (s : St) : OX := q20_15 (s 1) s.h
theorem q20_15_eq (s : St) : W E 0 c_q20_15 s q20_1k xN (finP [.t 2]) = q20_15k s :=
  (W_seq (k := q20_13k) (fun s => q20_14_eq s)).trans (by kernel_rfl)
theorem q20_16_eq (s : St) : W E 0 c_q20_16 s (finP [.t 2]) xN (finP [.t 2]) = q20_15k s :=
  (W_seq (k := q20_1k) (fun s => q20_1_eq s)).trans (q20_15_eq s)
noncomputable def q20_17 (v0 : AV) (h : Heap) : OX :=
oh (newC 0 (some 0) (cellsOf v0) h) fun v1 h8 =>
(q20_15 v1 h8)
noncomputable def q20_17k (s : St) : OX := q20_17 (s 0) s.h
theorem q20_17_eq (s : St) : W E 0 c_q20_17 s (finP [.t 2]) xN (finP [.t 2]) = q20_17k s :=
  (W_seq (k := q20_15k) (fun s => q20_16_eq s)).trans (by kernel_rfl)
@[simp] theorem pure_10 : E.pure 10 = true := rfl
theorem x_q20 (v0 : AV) : (callW E).p 10 [v0] = q20_17 v0 [⟨0, .dead⟩, ⟨0, .dead⟩, ⟨0, .dead⟩, ⟨0, .dead⟩, ⟨0, .dead⟩, ⟨0, .dead⟩, ⟨0, .dead⟩, ⟨0, .dead⟩] :=
  (callP_W (cf := c_q20) (by kernel_rfl) rfl).trans ((q20_17_eq _).trans (by kernel_rfl))
noncomputable def q40_1 (fb : Nat) (v0 v1 : AV) (h : Heap) : Option (AV × Heap) :=
ob (evBin .quo v1 (AV.int .i64 64)) fun v6 =>
ob (evIxs 1 v0 v6) fun v7 =>
ob (evLd false 1 v7 h) fun v8 =>
ob (evBin .rem v1 (AV.int .i64 64)) fun v10 =>
ob (evBin .shl (AV.int .u64 1) v10) fun v11 =>
ob (evBin .or v8 v11) fun v12 =>
ob (evIxs 1 v0 v6) fun v13 =>
oh (evSt 1 v13 v12 h) fun _ h1 =>
(some ((.tup []), h1))
noncomputable def q40_1k (fb : Nat) (s : St) : Option (AV × Heap) := q40_1 fb (s 0) (s 1) s.h
theorem q40_1_eq (fb : Nat) (s : St) : W E fb c_q40_1 s (finI []) xN (finI []) = q40_1k fb s :=
  by kernel_rfl
@[simp] theorem pure_86 : E.pure 86 = false := rfl
theorem x_q40 (fb : Nat) (v0 v1 : AV) (h : Heap) : (callW E).i 86 [v0, v1] fb h = q40_1 fb v0 v1 (if fb = h.length then h ++ deadSlots 0 else h) :=
  (callI_W (cf := c_q40) (by kernel_rfl) rfl).trans ((q40_1_eq fb _).trans (by kernel_rfl))
noncomputable def q71_1 (v1 v2 : AV) (h : Heap) : OX :=
ob (evFa 0 v2) fun v14 =>
ob (evLd false 1 v14 h) fun v15 =>
ob (evIxs 1 v15 v1) fun v17 =>
ob (evLd false 1 v17 h) fun v18 =>
(expo1 h v18)
noncomputable def q71_1k (s : St) : OX := q71_1 (s 1) (s 2) s.h
theorem q71_1_eq (s : St) : W E 0 c_q71_1 s (finP [.t 4]) xN (finP [.t 4]) = q71_1k s :=
  by kernel_rfl
noncomputable def q71_2 (v1 v2 : AV) (h : Heap) : OX :=
ob (evBin .lss v1 (AV.int .i64 0)) fun v6 =>
gb v6 false (some v1) fun v8 =>
gb v6 false (evFa 0 v2) fun v9 =>
gb v6 false (evLd false 1 v9 h) fun v10 =>
gb v6 false (evLen 1 v10 h) fun v11 =>
gb v6 false (evBin .geq v8 v11) fun v12 =>
ob (evPick v6 (AV.bool true) v12) fun v13 =>
cnd v13
 ((expo1 h (AV.int .i64 0)))
 ((q71_1 v1 v2 h))
noncomputable def q71_2k (s : St) : OX := q71_2 (s 1) (s 2) s.h
theorem q71_2_eq (s : St) : W E 0 c_q71_2 s (finP [.t 4]) xN (finP [.t 4]) = q71_2k s :=
  (W_seq (k := q71_1k) (fun s => q71_1_eq s)).trans (by kernel_rfl)
noncomputable def q71_3 (v0 v1 : AV) (h : Heap) : OX :=
oh (newC 0 (some 0) (cellsOf v0) h) fun v2 h1 =>
(q71_2 v1 v2 h1)
noncomputable def q71_3k (s : St) : OX := q71_3 (s 0) (s 1) s.h
theorem q71_3_eq (s : St) : W E 0 c_q71_3 s (finP [.t 4]) xN (finP [.t 4]) = q71_3k s :=
  (W_seq (k := q71_2k) (fun s => q71_2_eq s)).trans (by kernel_rfl)
@[simp] theorem pure_48 : E.pure 48 = true := rfl
theorem x_q71 (v0 v1 : AV) : (callW E).p 48 [v0, v1] = q71_3 v0 v1 [⟨0, .dead⟩] :=
  (callP_W (cf := c_q71) (by kernel_rfl) rfl).trans ((q71_3_eq _).trans (by kernel_rfl))
noncomputable def q70_1 (h : Heap) : OX :=
(expo1 h (AV.bool false))
noncomputable def q70_1k (s : St) : OX := q70_1 s.h
theorem q70_1_eq (s : St) : W E 0 c_q70_1 s (finP [.t 4]) xN (finP [.t 4]) = q70_1k s :=
  by kernel_rfl
noncomputable def q70_L2 (v0 v1 v5 : AV) (h : Heap) : OX :=
  W E 0 c_q70_L2 ⟨[(0, v0), (1, v1), (5, v5)], h⟩ q70_1k (exitTo 0 q70_1k xN) (finP [.t 4])
noncomputable def q70_L2k (s : St) : OX := q70_L2 (s 0) (s 1) (s 5) s.h
theorem q70_L2_eq (s : St) : W E 0 c_q70_L2 s q70_1k (exitTo 0 q70_1k xN) (finP [.t 4]) = q70_L2k s := W_loop_live.trans (by kernel_rfl)
noncomputable def q70_3 (v0 v1 v5 : AV) (h : Heap) : OX :=
ob (evBin .add v5 (AV.int .i64 1)) fun v11 =>
(q70_L2 v0 v1 v11 h)
noncomputable def q70_3k (s : St) : OX := q70_3 (s 0) (s 1) (s 5) s.h
theorem q70_3_eq (s : St) : W E 0 c_q70_3 s q70_L2k (exitTo 0 q70_1k xN) (finP [.t 4]) = q70_3k s :=
  by kernel_rfl
noncomputable def q70_4 (v0 v1 v5 : AV) (h : Heap) : OX :=
ob (evIxs 1 v1 v5) fun v14 =>
ob (evLd false 1 v14 h) fun v15 =>
ob (evBin .eql v15 v0) fun v17 =>
cnd v17
 ((expo1 h (AV.bool true)))
 ((q70_3 v0 v1 v5 h))
noncomputable def q70_4k (s : St) : OX := q70_4 (s 0) (s 1) (s 5) s.h
theorem q70_4_eq (s : St) : W E 0 c_q70_4 s q70_L2k (exitTo 0 q70_1k xN) (finP [.t 4]) = q70_4k s :=
  (W_seq (k := q70_3k) (fun s => q70_3_eq s)).trans (by kernel_rfl)
noncomputable def q70_5 (v0 v1 v5 : AV) (h : Heap) : OX :=
ob (evLen 1 v1 h) fun v8 =>
ob (evBin .lss v5 v8) fun v9 =>
cnd v9
 ((q70_4 v0 v1 v5 h))
 ((q70_1 h))
noncomputable def q70_5k (s : St) : OX := q70_5 (s 0) (s 1) (s 5) s.h
theorem q70_5_eq (s : St) : W E 0 c_q70_5 s q70_L2k (exitTo 0 q70_1k xN) (finP [.t 4]) = q70_5k s :=
  (W_seq (k := q70_4k) (fun s => q70_4_eq s)).trans (by kernel_rfl)
theorem q70_L2_go (v0 v1 v5 : AV) (h : Heap) : q70_L2 v0 v1 v5 h = (q70_5 v0 v1 v5 h) :=
  W_loop.trans ((W_congr _ _ _ (n' := q70_L2k) (fun s => q70_L2_eq s)).trans ((q70_5_eq _).trans (by kernel_rfl)))
theorem q70_6_eq (s : St) : W E 0 c_q70_6 s q70_1k xN (finP [.t 4]) = q70_L2k s :=
  W_block.trans (q70_L2_eq s)
noncomputable def q70_7 (v0 v1 : AV) (h : Heap) : OX :=
(q70_L2 v0 v1 (AV.int .i64 0) h)
noncomputable def q70_7k (s : St) : OX := q70_7 (s 0) (s 1) s.h
theorem q70_7_eq (s : St) : W E 0 c_q70_7 s q70_1k xN (finP [.t 4]) = q70_7k s :=
  (W_seq (k := q70_L2k) (fun s => q70_6_eq s)).trans (by kernel_rfl)
theorem q70_8_eq (s : St) : W E 0 c_q70_8 s (finP [.t 4]) xN (finP [.t 4]) = q70_7k s :=
  (W_seq (k := q70_1k) (fun s => q70_1_eq s)).trans (q70_7_eq s)
noncomputable def q70_9 (v0 v1 : AV) (h : Heap) : OX :=
(q70_7 v0 v1 h)
noncomputable def q70_9k (s : St) : OX := q70_9 (s 0) (s 1) s.h
theorem q70_9_eq (s : St) : W E 0 c_q70_9 s (finP [.t 4]) xN (finP [.t 4]) = q70_9k s :=
  (W_seq (k := q70_7k) (fun s => q70_8_eq s)).trans (by kernel_rfl)
@[simp] theorem pure_42 : E.pure 42 = true := rfl
theorem x_q70 (v0 v1 : AV) : (callW E).p 42 [v0, v1] = q70_9 v0 v1 [] :=
  (callP_W (cf := c_q70) (by kernel_rfl) rfl).trans ((q70_9_eq _).trans (by kernel_rfl))
noncomputable def q72_1 (h : Heap) : OX :=
(expo1 h (AV.bool true))
noncomputable def q72_1k (s : St) : OX := q72_1 s.h
theorem q72_1_eq (s : St) : W E 0 c_q72_1 s (finP [.t 4]) xN (finP [.t 4]) = q72_1k s :=
  by kernel_rfl
noncomputable def q72_2 (v2 v3 : AV) (h : Heap) : OX :=
ob (evFa 2 v3) fun v215 =>
ob (evLd false 1 v215 h) fun v216 =>
ob (evBin .neq v216 (AV.int .i64 (-1))) fun v217 =>
ofp (fgd v217 true (some (ids1 v2, []))) fun f4 =>
gb v217 true (evLd true 5 v2 h) fun v219 =>
ofp (fgd v217 true (some ([], []))) fun f5 =>
gb v217 true (evFa 2 v3) fun v220 =>
ofp (fgd v217 true (some (ids1 v220, []))) fun f6 =>
gb v217 true (evLd false 1 v220 h) fun v221 =>
ofp (fgd v217 true (fpCall E (callW E) 0 none true 48 [v219, v221] h)) fun f7 =>
gh v217 true (callAny E (callW E) 0 none true 48 [v219, v221] h) h fun v222 h1 =>
ofp (fgd v217 true (some ([], []))) fun f8 =>
gb v217 true (evFa 2 v2) fun v223 =>
ofp (fgd v217 true (some (ids1 v223, []))) fun f9 =>
gb v217 true (evLd false 1 v223 h1) fun v224 =>
ofp (fgd v217 true (some ([], []))) fun f10 =>
gb v217 true (evBin .eql v222 v224) fun v225 =>
ob (evPick v217 v225 (AV.bool false)) fun v226 =>
okK (pairsOk [([], []), (ids1 v215, []), ([], []), ([], []), f4, f5, f6, f7, f8, f9, f10, ([], []), ([], [])] [(7, 9)]) <|
(expo1 h1 v226)
noncomputable def q72_2k (s : St) : OX := q72_2 (s 2) (s 3) s.h
theorem q72_2_eq (s : St) : W E 0 c_q72_2 s q72_1k (exitTo 2 q72_1k xN) (finP [.t 4]) = q72_2k s :=
  by kernel_rfl
noncomputable def q72_3 (v2 v3 : AV) (h : Heap) : OX :=
ob (evFa 2 v2) fun v209 =>
ob (evLd false 1 v209 h) fun v210 =>
ob (evBin .eql v210 (AV.int .i64 0)) fun v211 =>
cnd v211
 (ob (evFa 2 v3) fun v212 =>
ob (evLd false 1 v212 h) fun v213 =>
ob (evBin .eql v213 (AV.int .i64 (-1))) fun v214 =>
(expo1 h v214))
 ((q72_2 v2 v3 h))
noncomputable def q72_3k (s : St) : OX := q72_3 (s 2) (s 3) s.h
theorem q72_3_eq (s : St) : W E 0 c_q72_3 s q72_1k (exitTo 2 q72_1k xN) (finP [.t 4]) = q72_3k s :=
  (W_seq (k := q72_2k) (fun s => q72_2_eq s)).trans (by kernel_rfl)
noncomputable def q72_4 (v2 v3 v207 : AV) (h : Heap) : OX :=
cnd v207
 ((q72_3 v2 v3 h))
 ((q72_1 h))
noncomputable def q72_4k (s : St) : OX := q72_4 (s 2) (s 3) (s 207) s.h
theorem q72_4_eq (s : St) : W E 0 c_q72_4 s q72_1k (exitTo 2 q72_1k xN) (finP [.t 4]) = q72_4k s :=
  (W_cond (q72_3_eq s) rfl).trans (by kernel_rfl)
noncomputable def q72_5 (v2 v3 v55 : AV) (h : Heap) : OX :=
ob (evBin .eql v55 (AV.int .i64 30)) fun v208 =>
(q72_4 v2 v3 v208 h)
noncomputable def q72_5k (s : St) : OX := q72_5 (s 2) (s 3) (s 55) s.h
theorem q72_5_eq (s : St) : W E 0 c_q72_5 s q72_1k (exitTo 2 q72_1k xN) (finP [.t 4]) = q72_5k s :=
  (W_seq (k := q72_4k) (fun s => q72_4_eq s)).trans (by kernel_rfl)
noncomputable def q72_6 (v2 v3 v55 v179 : AV) (h : Heap) : OX :=
cnd v179
 (ob (evFa 5 v3) fun v181 =>
ob (evLd false 1 v181 h) fun v182 =>
ob (evBin .eql v182 (AV.int .i64 0)) fun v183 =>
gb v183 false (evFa 5 v3) fun v185 =>
gb v183 false (evLd false 1 v185 h) fun v186 =>
gb v183 false (evBin .eql v186 (AV.int .i64 1)) fun v187 =>
ob (evPick v183 (AV.bool true) v187) fun v188 =>
gb v188 true (evFa 3 v3) fun v190 =>
gb v188 true (evLd false 1 v190 h) fun v191 =>
gb v188 true (evBin .eql v191 (AV.int .i64 (-1))) fun v192 =>
gb v188 true (some v192) fun v193 =>
gb v193 false (evLd true 5 v2 h) fun v194 =>
gb v193 false (evFa 3 v3) fun v195 =>
gb v193 false (evLd false 1 v195 h) fun v196 =>
gh v193 false (callAny E (callW E) 0 none true 48 [v194, v196] h) h fun v197 h2 =>
gb v193 false (evBin .eql v197 (AV.int .i64 3)) fun v198 =>
gb v188 true (evPick v193 (AV.bool true) v198) fun v199 =>
ob (evPick v188 v199 (AV.bool false)) fun v200 =>
gb v200 true (evLd true 5 v2 h2) fun v202 =>
gb v200 true (evFa 6 v3) fun v203 =>
gb v200 true (evLd false 1 v203 h2) fun v204 =>
gh v200 true (callAny E (callW E) 0 none true 49 [v202, v204] h2) h2 fun v205 h3 =>
ob (evPick v200 v205 (AV.bool false)) fun v206 =>
(expo1 h3 v206))
 ((q72_5 v2 v3 v55 h))
noncomputable def q72_6k (s : St) : OX := q72_6 (s 2) (s 3) (s 55) (s 179) s.h
theorem q72_6_eq (s : St) : W E 0 c_q72_6 s q72_1k (exitTo 2 q72_1k xN) (finP [.t 4]) = q72_6k s :=
  (W_cond rfl (q72_5_eq s)).trans (by kernel_rfl)
noncomputable def q72_7 (v2 v3 v55 : AV) (h : Heap) : OX :=
ob (evBin .eql v55 (AV.int .i64 29)) fun v180 =>
(q72_6 v2 v3 v55 v180 h)
noncomputable def q72_7k (s : St) : OX := q72_7 (s 2) (s 3) (s 55) s.h
theorem q72_7_eq (s : St) : W E 0 c_q72_7 s q72_1k (exitTo 2 q72_1k xN) (finP [.t 4]) = q72_7k s :=
  (W_seq (k := q72_6k) (fun s => q72_6_eq s)).trans (by kernel_rfl)
noncomputable def q72_8 (v2 v3 v55 v173 : AV) (h : Heap) : OX :=
cnd v173
 (ob (evLd true 5 v2 h) fun v175 =>
ob (evFa 6 v3) fun v176 =>
ob (evLd false 1 v176 h) fun v177 =>
oh (callAny E (callW E) 0 none true 49 [v175, v177] h) fun v178 h4 =>
(expo1 h4 v178))
 ((q72_7 v2 v3 v55 h))
noncomputable def q72_8k (s : St) : OX := q72_8 (s 2) (s 3) (s 55) (s 173) s.h
theorem q72_8_eq (s : St) : W E 0 c_q72_8 s q72_1k (exitTo 2 q72_1k xN) (finP [.t 4]) = q72_8k s :=
  (W_cond rfl (q72_7_eq s)).trans (by kernel_rfl)
noncomputable def q72_9 (v2 v3 v55 : AV) (h : Heap) : OX :=
ob (evBin .eql v55 (AV.int .i64 27)) fun v174 =>
(q72_8 v2 v3 v55 v174 h)
noncomputable def q72_9k (s : St) : OX := q72_9 (s 2) (s 3) (s 55) s.h
theorem q72_9_eq (s : St) : W E 0 c_q72_9 s q72_1k (exitTo 2 q72_1k xN) (finP [.t 4]) = q72_9k s :=
  (W_seq (k := q72_8k) (fun s => q72_8_eq s)).trans (by kernel_rfl)
noncomputable def q72_10 (v2 v3 v55 v157 : AV) (h : Heap) : OX :=
cnd v157
 (ob (evFa 5 v3) fun v159 =>
ob (evLd false 1 v159 h) fun v160 =>
ob (evBin .geq v160 (AV.int .i64 0)) fun v161 =>
gb v161 true (evFa 5 v3) fun v163 =>
gb v161 true (evLd false 1 v163 h) fun v164 =>
gb v161 true (evBin .leq v164 (AV.int .i64 5)) fun v165 =>
ob (evPick v161 v165 (AV.bool false)) fun v166 =>
gb v166 true (evLd true 5 v2 h) fun v168 =>
gb v166 true (evFa 6 v3) fun v169 =>
gb v166 true (evLd false 1 v169 h) fun v170 =>
gh v166 true (callAny E (callW E) 0 none true 49 [v168, v170] h) h fun v171 h5 =>
ob (evPick v166 v171 (AV.bool false)) fun v172 =>
(expo1 h5 v172))
 ((q72_9 v2 v3 v55 h))
noncomputable def q72_10k (s : St) : OX := q72_10 (s 2) (s 3) (s 55) (s 157) s.h
theorem q72_10_eq (s : St) : W E 0 c_q72_10 s q72_1k (exitTo 2 q72_1k xN) (finP [.t 4]) = q72_10k s :=
  (W_cond rfl (q72_9_eq s)).trans (by kernel_rfl)
noncomputable def q72_11 (v2 v3 v55 : AV) (h : Heap) : OX :=
ob (evBin .eql v55 (AV.int .i64 28)) fun v158 =>
(q72_10 v2 v3 v55 v158 h)
noncomputable def q72_11k (s : St) : OX := q72_11 (s 2) (s 3) (s 55) s.h
theorem q72_11_eq (s : St) : W E 0 c_q72_11 s q72_1k (exitTo 2 q72_1k xN) (finP [.t 4]) = q72_11k s :=
  (W_seq (k := q72_10k) (fun s => q72_10_eq s)).trans (by kernel_rfl)
noncomputable def q72_12 (v2 v3 v55 v149 : AV) (h : Heap) : OX :=
cnd v149
 (ob (evLd true 5 v2 h) fun v154 =>
ob (evLd true 9 v3 h) fun v155 =>
oh (callAny E (callW E) 0 none true 68 [v154, v155] h) fun v156 h6 =>
(expo1 h6 v156))
 ((q72_11 v2 v3 v55 h))
noncomputable def q72_12k (s : St) : OX := q72_12 (s 2) (s 3) (s 55) (s 149) s.h
theorem q72_12_eq (s : St) : W E 0 c_q72_12 s q72_1k (exitTo 2 q72_1k xN) (finP [.t 4]) = q72_12k s :=
  (W_cond rfl (q72_11_eq s)).trans (by kernel_rfl)
noncomputable def q72_13 (v2 v3 v55 : AV) (h : Heap) : OX :=
ob (evBin .eql v55 (AV.int .i64 23)) fun v150 =>
cnd v150
 ((q72_12 v2 v3 v55 v150 h))
 (ob (evBin .eql v55 (AV.int .i64 24)) fun v151 =>
cnd v151
 ((q72_12 v2 v3 v55 v151 h))
 (ob (evBin .eql v55 (AV.int .i64 25)) fun v152 =>
cnd v152
 ((q72_12 v2 v3 v55 v152 h))
 (ob (evBin .eql v55 (AV.int .i64 26)) fun v153 =>
(q72_12 v2 v3 v55 v153 h))))
noncomputable def q72_13k (s : St) : OX := q72_13 (s 2) (s 3) (s 55) s.h
theorem q72_13_eq (s : St) : W E 0 c_q72_13 s q72_1k (exitTo 2 q72_1k xN) (finP [.t 4]) = q72_13k s :=
  (W_seq (k := q72_12k) (fun s => q72_12_eq s)).trans (by kernel_rfl)
noncomputable def q72_14 (v2 v3 v55 v143 : AV) (h : Heap) : OX :=
cnd v143
 (ob (evFa 5 v3) fun v146 =>
ob (evLd false 1 v146 h) fun v147 =>
ob (evBin .geq v147 (AV.int .i64 0)) fun v148 =>
(expo1 h v148))
 ((q72_13 v2 v3 v55 h))
noncomputable def q72_14k (s : St) : OX := q72_14 (s 2) (s 3) (s 55) (s 143) s.h
theorem q72_14_eq (s : St) : W E 0 c_q72_14 s q72_1k (exitTo 2 q72_1k xN) (finP [.t 4]) = q72_14k s :=
  (W_cond rfl (q72_13_eq s)).trans (by kernel_rfl)
noncomputable def q72_15 (v2 v3 v55 : AV) (h : Heap) : OX :=
ob (evBin .eql v55 (AV.int .i64 16)) fun v144 =>
cnd v144
 ((q72_14 v2 v3 v55 v144 h))
 (ob (evBin .eql v55 (AV.int .i64 17)) fun v145 =>
(q72_14 v2 v3 v55 v145 h))
noncomputable def q72_15k (s : St) : OX := q72_15 (s 2) (s 3) (s 55) s.h
theorem q72_15_eq (s : St) : W E 0 c_q72_15 s q72_1k (exitTo 2 q72_1k xN) (finP [.t 4]) = q72_15k s :=
  (W_seq (k := q72_14k) (fun s => q72_14_eq s)).trans (by kernel_rfl)
noncomputable def q72_16 (v2 v3 v55 v136 : AV) (h : Heap) : OX :=
cnd v136
 (ob (evFa 7 v3) fun v140 =>
ob (evLd false 1 v140 h) fun v141 =>
oh (callAny E (callW E) 0 none true 67 [v141] h) fun v142 h7 =>
(expo1 h7 v142))
 ((q72_15 v2 v3 v55 h))
noncomputable def q72_16k (s : St) : OX := q72_16 (s 2) (s 3) (s 55) (s 136) s.h
theorem q72_16_eq (s : St) : W E 0 c_q72_16 s q72_1k (exitTo 2 q72_1k xN) (finP [.t 4]) = q72_16k s :=
  (W_cond rfl (q72_15_eq s)).trans (by kernel_rfl)
noncomputable def q72_17 (v2 v3 v55 : AV) (h : Heap) : OX :=
ob (evBin .eql v55 (AV.int .i64 12)) fun v137 =>
cnd v137
 ((q72_16 v2 v3 v55 v137 h))
 (ob (evBin .eql v55 (AV.int .i64 21)) fun v138 =>
cnd v138
 ((q72_16 v2 v3 v55 v138 h))
 (ob (evBin .eql v55 (AV.int .i64 22)) fun v139 =>
(q72_16 v2 v3 v55 v139 h)))
noncomputable def q72_17k (s : St) : OX := q72_17 (s 2) (s 3) (s 55) s.h
theorem q72_17_eq (s : St) : W E 0 c_q72_17 s q72_1k (exitTo 2 q72_1k xN) (finP [.t 4]) = q72_17k s :=
  (W_seq (k := q72_16k) (fun s => q72_16_eq s)).trans (by kernel_rfl)
noncomputable def q72_18 (v2 v3 v8 v9 v10 v55 v112 : AV) (h : Heap) : OX :=
cnd v112
 (ob (evBin .gtr v8 (AV.int .i64 0)) fun v115 =>
gb v115 true (some v9) fun v117 =>
gb v115 true (evBin .eql v117 (AV.int .i64 0)) fun v118 =>
ob (evPick v115 v118 (AV.bool false)) fun v119 =>
gb v119 true (evLd true 5 v2 h) fun v121 =>
gb v119 true (evFa 1 v3) fun v122 =>
gb v119 true (evLd false 1 v122 h) fun v123 =>
gh v119 true (callAny E (callW E) 0 none true 48 [v121, v123] h) h fun v124 h8 =>
gb v119 true (some v10) fun v125 =>
gb v119 true (evBin .eql v124 v125) fun v126 =>
ob (evPick v119 v126 (AV.bool false)) fun v127 =>
gb v127 true (evLd true 5 v2 h8) fun v129 =>
gb v127 true (evFa 2 v3) fun v130 =>
gb v127 true (evLd false 1 v130 h8) fun v131 =>
gh v127 true (callAny E (callW E) 0 none true 48 [v129, v131] h8) h8 fun v132 h9 =>
gb v127 true (some v8) fun v133 =>
gb v127 true (evBin .eql v132 v133) fun v134 =>
ob (evPick v127 v134 (AV.bool false)) fun v135 =>
(expo1 h9 v135))
 ((q72_17 v2 v3 v55 h))
noncomputable def q72_18k (s : St) : OX := q72_18 (s 2) (s 3) (s 8) (s 9) (s 10) (s 55) (s 112) s.h
theorem q72_18_eq (s : St) : W E 0 c_q72_18 s q72_1k (exitTo 2 q72_1k xN) (finP [.t 4]) = q72_18k s :=
  (W_cond rfl (q72_17_eq s)).trans (by kernel_rfl)
noncomputable def q72_19 (v2 v3 v8 v9 v10 v55 : AV) (h : Heap) : OX :=
ob (evBin .eql v55 (AV.int .i64 6)) fun v113 =>
(q72_18 v2 v3 v8 v9 v10 v55 v113 h)
noncomputable def q72_19k (s : St) : OX := q72_19 (s 2) (s 3) (s 8) (s 9) (s 10) (s 55) s.h
theorem q72_19_eq (s : St) : W E 0 c_q72_19 s q72_1k (exitTo 2 q72_1k xN) (finP [.t 4]) = q72_19k s :=
  (W_seq (k := q72_18k) (fun s => q72_18_eq s)).trans (by kernel_rfl)
noncomputable def q72_20 (v2 v3 v8 v9 v10 v55 v84 : AV) (h : Heap) : OX :=
cnd v84
 (ob (evBin .gtr v9 (AV.int .i64 0)) fun v87 =>
gb v87 true (evLd true 5 v2 h) fun v89 =>
gb v87 true (evFa 1 v3) fun v90 =>
gb v87 true (evLd false 1 v90 h) fun v91 =>
gh v87 true (callAny E (callW E) 0 none true 48 [v89, v91] h) h fun v92 h10 =>
gb v87 true (some v10) fun v93 =>
gb v87 true (evBin .eql v92 v93) fun v94 =>
ob (evPick v87 v94 (AV.bool false)) fun v95 =>
gb v95 true (evLd true 5 v2 h10) fun v97 =>
gb v95 true (evFa 2 v3) fun v98 =>
gb v95 true (evLd false 1 v98 h10) fun v99 =>
gh v95 true (callAny E (callW E) 0 none true 48 [v97, v99] h10) h10 fun v100 h11 =>
gb v95 true (some v8) fun v101 =>
gb v95 true (evBin .eql v100 v101) fun v102 =>
ob (evPick v95 v102 (AV.bool false)) fun v103 =>
gb v103 true (evLd true 5 v2 h11) fun v105 =>
gb v103 true (evFa 3 v3) fun v106 =>
gb v103 true (evLd false 1 v106 h11) fun v107 =>
gh v103 true (callAny E (callW E) 0 none true 48 [v105, v107] h11) h11 fun v108 h12 =>
gb v103 true (some v9) fun v109 =>
gb v103 true (evBin .eql v108 v109) fun v110 =>
ob (evPick v103 v110 (AV.bool false)) fun v111 =>
(expo1 h12 v111))
 ((q72_19 v2 v3 v8 v9 v10 v55 h))
noncomputable def q72_20k (s : St) : OX := q72_20 (s 2) (s 3) (s 8) (s 9) (s 10) (s 55) (s 84) s.h
theorem q72_20_eq (s : St) : W E 0 c_q72_20 s q72_1k (exitTo 2 q72_1k xN) (finP [.t 4]) = q72_20k s :=
  (W_cond rfl (q72_19_eq s)).trans (by kernel_rfl)
noncomputable def q72_21 (v2 v3 v8 v9 v10 v55 : AV) (h : Heap) : OX :=
ob (evBin .eql v55 (AV.int .i64 5)) fun v85 =>
(q72_20 v2 v3 v8 v9 v10 v55 v85 h)
noncomputable def q72_21k (s : St) : OX := q72_21 (s 2) (s 3) (s 8) (s 9) (s 10) (s 55) s.h
theorem q72_21_eq (s : St) : W E 0 c_q72_21 s q72_1k (exitTo 2 q72_1k xN) (finP [.t 4]) = q72_21k s :=
  (W_seq (k := q72_20k) (fun s => q72_20_eq s)).trans (by kernel_rfl)
noncomputable def q72_22 (v2 v3 v8 v9 v10 v55 v73 : AV) (h : Heap) : OX :=
cnd v73
 (ob (evLd true 5 v2 h) fun v75 =>
ob (evFa 1 v3) fun v76 =>
ob (evLd false 1 v76 h) fun v77 =>
ofp (fpCall E (callW E) 0 none true 48 [v75, v77] h) fun f3 =>
oh (callAny E (callW E) 0 none true 48 [v75, v77] h) fun v78 h13 =>
ob (evLd true 5 v2 h13) fun v79 =>
ob (evFa 2 v3) fun v80 =>
ob (evLd false 1 v80 h13) fun v81 =>
ofp (fpCall E (callW E) 0 none true 48 [v79, v81] h13) fun f7 =>
oh (callAny E (callW E) 0 none true 48 [v79, v81] h13) fun v82 h14 =>
ob (evBin .eql v78 v82) fun v83 =>
okK (pairsOk [(ids1 v2, []), ([], []), (ids1 v76, []), f3, (ids1 v2, []), ([], []), (ids1 v80, []), f7, ([], []), ([], [])] [(3, 4), (3, 6)]) <|
(expo1 h14 v83))
 ((q72_21 v2 v3 v8 v9 v10 v55 h))
noncomputable def q72_22k (s : St) : OX := q72_22 (s 2) (s 3) (s 8) (s 9) (s 10) (s 55) (s 73) s.h
theorem q72_22_eq (s : St) : W E 0 c_q72_22 s q72_1k (exitTo 2 q72_1k xN) (finP [.t 4]) = q72_22k s :=
  (W_cond rfl (q72_21_eq s)).trans (by kernel_rfl)
noncomputable def q72_23 (v2 v3 v8 v9 v10 v55 : AV) (h : Heap) : OX :=
ob (evBin .eql v55 (AV.int .i64 4)) fun v74 =>
(q72_22 v2 v3 v8 v9 v10 v55 v74 h)
noncomputable def q72_23k (s : St) : OX := q72_23 (s 2) (s 3) (s 8) (s 9) (s 10) (s 55) s.h
theorem q72_23_eq (s : St) : W E 0 c_q72_23 s q72_1k (exitTo 2 q72_1k xN) (finP [.t 4]) = q72_23k s :=
  (W_seq (k := q72_22k) (fun s => q72_22_eq s)).trans (by kernel_rfl)
noncomputable def q72_24 (v2 v3 v8 v9 v10 v55 v56 : AV) (h : Heap) : OX :=
cnd v56
 (ob (evLd true 5 v2 h) fun v58 =>
ob (evFa 1 v3) fun v59 =>
ob (evLd false 1 v59 h) fun v60 =>
oh (callAny E (callW E) 0 none true 48 [v58, v60] h) fun v61 h15 =>
ob (evBin .eql v61 (AV.int .i64 2)) fun v62 =>
gb v62 false (evFa 5 v3) fun v64 =>
gb v62 false (evLd false 1 v64 h15) fun v65 =>
gb v62 false (evBin .geq v65 (AV.int .i64 (-2147483648))) fun v66 =>
gb v62 false (some v66) fun v67 =>
gb v67 true (evFa 5 v3) fun v68 =>
gb v67 true (evLd false 1 v68 h15) fun v69 =>
gb v67 true (evBin .lss v69 (AV.int .i64 2147483648)) fun v70 =>
gb v62 false (evPick v67 v70 (AV.bool false)) fun v71 =>
ob (evPick v62 (AV.bool true) v71) fun v72 =>
(expo1 h15 v72))
 ((q72_23 v2 v3 v8 v9 v10 v55 h))
noncomputable def q72_24k (s : St) : OX := q72_24 (s 2) (s 3) (s 8) (s 9) (s 10) (s 55) (s 56) s.h
theorem q72_24_eq (s : St) : W E 0 c_q72_24 s q72_1k (exitTo 2 q72_1k xN) (finP [.t 4]) = q72_24k s :=
  (W_cond rfl (q72_23_eq s)).trans (by kernel_rfl)
noncomputable def q72_25 (v2 v3 v8 v9 v10 v55 : AV) (h : Heap) : OX :=
ob (evBin .eql v55 (AV.int .i64 1)) fun v57 =>
(q72_24 v2 v3 v8 v9 v10 v55 v57 h)
noncomputable def q72_25k (s : St) : OX := q72_25 (s 2) (s 3) (s 8) (s 9) (s 10) (s 55) s.h
theorem q72_25_eq (s : St) : W E 0 c_q72_25 s q72_1k (exitTo 2 q72_1k xN) (finP [.t 4]) = q72_25k s :=
  (W_seq (k := q72_24k) (fun s => q72_24_eq s)).trans (by kernel_rfl)
theorem q72_26_eq (s : St) : W E 0 c_q72_26 s q72_1k xN (finP [.t 4]) = q72_25k s :=
  W_block.trans (q72_25_eq s)
noncomputable def q72_27 (v2 v3 v8 v9 v10 : AV) (h : Heap) : OX :=
ob (evFa 0 v3) fun v54 =>
ob (evLd false 1 v54 h) fun v55 =>
(q72_25 v2 v3 v8 v9 v10 v55 h)
noncomputable def q72_27k (s : St) : OX := q72_27 (s 2) (s 3) (s 8) (s 9) (s 10) s.h
theorem q72_27_eq (s : St) : W E 0 c_q72_27 s q72_1k xN (finP [.t 4]) = q72_27k s :=
  (W_seq (k := q72_25k) (fun s => q72_26_eq s)).trans (by kernel_rfl)
theorem q72_28_eq (s : St) : W E 0 c_q72_28 s (finP [.t 4]) xN (finP [.t 4]) = q72_27k s :=
  (W_seq (k := q72_1k) (fun s => q72_1_eq s)).trans (q72_27_eq s)
noncomputable def q72_29 (v2 v3 v8 v9 v10 : AV) (h : Heap) : OX :=
ob (evFa 5 v3) fun v39 =>
ob (evLd false 1 v39 h) fun v40 =>
ob (evBin .geq v40 (AV.int .i64 0)) fun v41 =>
gb v41 true (evFa 5 v3) fun v43 =>
gb v41 true (evLd false 1 v43 h) fun v44 =>
gb v41 true (evBin .lss v44 (AV.int .i64 1000)) fun v45 =>
ob (evPick v41 v45 (AV.bool false)) fun v46 =>
cnd v46
 (ob (evFa 5 v3) fun v48 =>
ob (evLd false 1 v48 h) fun v49 =>
oh (callAny E (callW E) 0 none true 66 [v49] h) fun v50 h16 =>
ob (evExt 0 v50) fun v51 =>
ob (evExt 1 v50) fun v52 =>
ob (evExt 2 v50) fun v53 =>
(q72_27 v2 v3 v51 v52 v53 h16))
 ((q72_27 v2 v3 v8 v9 v10 h))
noncomputable def q72_29k (s : St) : OX := q72_29 (s 2) (s 3) (s 8) (s 9) (s 10) s.h
theorem q72_29_eq (s : St) : W E 0 c_q72_29 s (finP [.t 4]) xN (finP [.t 4]) = q72_29k s :=
  (W_seq (k := q72_27k) (fun s => q72_28_eq s)).trans (by kernel_rfl)
noncomputable def q72_30 (v2 v3 : AV) (h : Heap) : OX :=
(q72_29 v2 v3 (AV.int .i64 0) (AV.int .i64 0) (AV.int .i64 0) h)
noncomputable def q72_30k (s : St) : OX := q72_30 (s 2) (s 3) s.h
theorem q72_30_eq (s : St) : W E 0 c_q72_30 s (finP [.t 4]) xN (finP [.t 4]) = q72_30k s :=
  (W_seq (k := q72_29k) (fun s => q72_29_eq s)).trans (by kernel_rfl)
noncomputable def q72_L31 (v2 v3 v5 v6 v7 : AV) (h : Heap) : OX :=
  W E 0 c_q72_L31 ⟨[(2, v2), (3, v3), (5, v5), (6, v6), (7, v7)], h⟩ q72_30k (exitTo 0 q72_30k xN) (finP [.t 4])
noncomputable def q72_L31k (s : St) : OX := q72_L31 (s 2) (s 3) (s 5) (s 6) (s 7) s.h
theorem q72_L31_eq (s : St) : W E 0 c_q72_L31 s q72_30k (exitTo 0 q72_30k xN) (finP [.t 4]) = q72_L31k s := W_loop_live.trans (by kernel_rfl)
noncomputable def q72_32 (v2 v3 v5 v6 v7 : AV) (h : Heap) : OX :=
ob (evBin .add v7 (AV.int .i64 1)) fun v28 =>
(q72_L31 v2 v3 v5 v6 v28 h)
noncomputable def q72_32k (s : St) : OX := q72_32 (s 2) (s 3) (s 5) (s 6) (s 7) s.h
theorem q72_32_eq (s : St) : W E 0 c_q72_32 s q72_L31k (exitTo 0 q72_30k xN) (finP [.t 4]) = q72_32k s :=
  by kernel_rfl
noncomputable def q72_33 (v2 v3 v5 v6 v7 : AV) (h : Heap) : OX :=
ob (evLd true 5 v2 h) fun v29 =>
ob (evIxs 1 v6 v7) fun v32 =>
ob (evLd false 1 v32 h) fun v33 =>
ob (evIxstr v5 v7) fun v36 =>
oh (callAny E (callW E) 0 none true 65 [v29, v33, v36] h) fun v37 h17 =>
ob (evUn .not v37) fun v38 =>
cnd v38
 ((expo1 h17 (AV.bool false)))
 ((q72_32 v2 v3 v5 v6 v7 h17))
noncomputable def q72_33k (s : St) : OX := q72_33 (s 2) (s 3) (s 5) (s 6) (s 7) s.h
theorem q72_33_eq (s : St) : W E 0 c_q72_33 s q72_L31k (exitTo 0 q72_30k xN) (finP [.t 4]) = q72_33k s :=
  (W_seq (k := q72_32k) (fun s => q72_32_eq s)).trans (by kernel_rfl)
noncomputable def q72_34 (v2 v3 v5 v6 v7 : AV) (h : Heap) : OX :=
ob (evBin .lss v7 (AV.int .i64 4)) fun v26 =>
cnd v26
 ((q72_33 v2 v3 v5 v6 v7 h))
 ((q72_30 v2 v3 h))
noncomputable def q72_34k (s : St) : OX := q72_34 (s 2) (s 3) (s 5) (s 6) (s 7) s.h
theorem q72_34_eq (s : St) : W E 0 c_q72_34 s q72_L31k (exitTo 0 q72_30k xN) (finP [.t 4]) = q72_34k s :=
  (W_seq (k := q72_33k) (fun s => q72_33_eq s)).trans (by kernel_rfl)
theorem q72_L31_go (v2 v3 v5 v6 v7 : AV) (h : Heap) : q72_L31 v2 v3 v5 v6 v7 h = (q72_34 v2 v3 v5 v6 v7 h) :=
  W_loop.trans ((W_congr _ _ _ (n' := q72_L31k) (fun s => q72_L31_eq s)).trans ((q72_34_eq _).trans (by kernel_rfl)))
theorem q72_35_eq (s : St) : W E 0 c_q72_35 s q72_30k xN (finP [.t 4]) = q72_L31k s :=
  W_block.trans (q72_L31_eq s)
noncomputable def q72_36 (v2 v3 v5 v6 : AV) (h : Heap) : OX :=
(q72_L31 v2 v3 v5 v6 (AV.int .i64 0) h)
noncomputable def q72_36k (s : St) : OX := q72_36 (s 2) (s 3) (s 5) (s 6) s.h
theorem q72_36_eq (s : St) : W E 0 c_q72_36 s q72_30k xN (finP [.t 4]) = q72_36k s :=
  (W_seq (k := q72_L31k) (fun s => q72_35_eq s)).trans (by kernel_rfl)
theorem q72_37_eq (s : St) : W E 0 c_q72_37 s (finP [.t 4]) xN (finP [.t 4]) = q72_36k s :=
  (W_seq (k := q72_30k) (fun s => q72_30_eq s)).trans (q72_36_eq s)
noncomputable def q72_38 (v2 v3 v5 : AV) (h : Heap) : OX :=
ob (evFa 1 v3) fun v16 =>
ob (evLd false 1 v16 h) fun v17 =>
ob (evFa 2 v3) fun v18 =>
ob (evLd false 1 v18 h) fun v19 =>
ob (evFa 3 v3) fun v20 =>
ob (evLd false 1 v20 h) fun v21 =>
ob (evFa 4 v3) fun v22 =>
ob (evLd false 1 v22 h) fun v23 =>
oh (buildSC 0 (some 2) 1 4 [(.int .i64 0)] [(0, v17), (1, v19), (2, v21), (3, v23)] h) fun v24 h18 =>
(q72_36 v2 v3 v5 v24 h18)
noncomputable def q72_38k (s : St) : OX := q72_38 (s 2) (s 3) (s 5) s.h
theorem q72_38_eq (s : St) : W E 0 c_q72_38 s (finP [.t 4]) xN (finP [.t 4]) = q72_38k s :=
  (W_seq (k := q72_36k) (fun s => q72_37_eq s)).trans (by kernel_rfl)
noncomputable def q72_39 (v2 v3 v5 : AV) (h : Heap) : OX :=
ob (evBin .eql v5 (AV.str [])) fun v15 =>
cnd v15
 ((expo1 h (AV.bool false)))
 ((q72_38 v2 v3 v5 h))
noncomputable def q72_39k (s : St) : OX := q72_39 (s 2) (s 3) (s 5) s.h
theorem q72_39_eq (s : St) : W E 0 c_q72_39 s (finP [.t 4]) xN (finP [.t 4]) = q72_39k s :=
  (W_seq (k := q72_38k) (fun s => q72_38_eq s)).trans (by kernel_rfl)
noncomputable def q72_40 (v2 v3 : AV) (h : Heap) : OX :=
ob (evFa 0 v3) fun v11 =>
ob (evLd false 1 v11 h) fun v12 =>
oh (callAny E (callW E) 0 none true 38 [v12] h) fun v13 h19 =>
(q72_39 v2 v3 v13 h19)
noncomputable def q72_40k (s : St) : OX := q72_40 (s 2) (s 3) s.h
theorem q72_40_eq (s : St) : W E 0 c_q72_40 s (finP [.t 4]) xN (finP [.t 4]) = q72_40k s :=
  (W_seq (k := q72_39k) (fun s => q72_39_eq s)).trans (by kernel_rfl)
noncomputable def q72_41 (v0 v1 : AV) (h : Heap) : OX :=
oh (newC 0 (some 0) (cellsOf v0) h) fun v2 h20 =>
oh (newC 0 (some 1) (cellsOf v1) h20) fun v3 h21 =>
(q72_40 v2 v3 h21)
noncomputable def q72_41k (s : St) : OX := q72_41 (s 0) (s 1) s.h
theorem q72_41_eq (s : St) : W E 0 c_q72_41 s (finP [.t 4]) xN (finP [.t 4]) = q72_41k s :=
  (W_seq (k := q72_40k) (fun s => q72_40_eq s)).trans (by kernel_rfl)
@[simp] theorem pure_64 : E.pure 64 = true := rfl
theorem x_q72 (v0 v1 : AV) : (callW E).p 64 [v0, v1] = q72_41 v0 v1 [⟨0, .dead⟩, ⟨0, .dead⟩, ⟨0, .dead⟩] :=
  (callP_W (cf := c_q72) (by kernel_rfl) rfl).trans ((q72_41_eq _).trans (by kernel_rfl))
noncomputable def q73_1 (v0 v1 : AV) (h : Heap) : OX :=
oh (newC 0 (some 0) (cellsOf v0) h) fun v2 h1 =>
ob (evBin .geq v1 (AV.int .i64 0)) fun v6 =>
gb v6 true (some v1) fun v8 =>
gb v6 true (evFa 3 v2) fun v9 =>
gb v6 true (evLd false 1 v9 h1) fun v10 =>
gb v6 true (evLen 1 v10 h1) fun v11 =>
gb v6 true (evBin .lss v8 v11) fun v12 =>
ob (evPick v6 v12 (AV.bool false)) fun v13 =>
(expo1 h1 v13)
noncomputable def q73_1k (s : St) : OX := q73_1 (s 0) (s 1) s.h
theorem q73_1_eq (s : St) : W E 0 c_q73_1 s (finP [.t 4]) xN (finP [.t 4]) = q73_1k s :=
  by kernel_rfl
@[simp] theorem pure_49 : E.pure 49 = true := rfl
theorem x_q73 (v0 v1 : AV) : (callW E).p 49 [v0, v1] = q73_1 v0 v1 [⟨0, .dead⟩] :=
  (callP_W (cf := c_q73) (by kernel_rfl) rfl).trans ((q73_1_eq _).trans (by kernel_rfl))
noncomputable def q39_1 (v0 v1 v2 v3 : AV) (h : Heap) : OX :=
ob (evEqnB 0 true v0 AV.nilp) fun v10 =>
gb v10 true (some v2) fun v12 =>
gb v10 true (evBin .geq v12 (AV.int .i64 0)) fun v13 =>
ob (evPick v10 v13 (AV.bool false)) fun v14 =>
gb v14 true (some v2) fun v16 =>
gb v14 true (some v1) fun v17 =>
gb v14 true (evLen 1 v17 h) fun v18 =>
gb v14 true (evBin .lss v16 v18) fun v19 =>
ob (evPick v14 v19 (AV.bool false)) fun v20 =>
gb v20 true (some v3) fun v22 =>
gb v20 true (evBin .geq v22 (AV.int .i64 0)) fun v23 =>
ob (evPick v20 v23 (AV.bool false)) fun v24 =>
gb v24 true (some v3) fun v26 =>
gb v24 true (some v0) fun v27 =>
gb v24 true (evNilchk v27) fun v28 =>
gb v24 true (evFa 3 v28) fun v29 =>
gb v24 true (evLd false 1 v29 h) fun v30 =>
gb v24 true (evBin .lss v26 v30) fun v31 =>
ob (evPick v24 v31 (AV.bool false)) fun v32 =>
gb v32 true (some v1) fun v34 =>
gb v32 true (some v2) fun v35 =>
gb v32 true (evIxs 1 v34 v35) fun v36 =>
gb v32 true (evLd false 1 v36 h) fun v37 =>
gb v32 true (some v3) fun v38 =>
gh v32 true (callAny E (callW E) 0 none true 83 [v37, v38] h) h fun v39 h1 =>
ob (evPick v32 v39 (AV.bool false)) fun v40 =>
(expo1 h1 v40)
noncomputable def q39_1k (s : St) : OX := q39_1 (s 0) (s 1) (s 2) (s 3) s.h
theorem q39_1_eq (s : St) : W E 0 c_q39_1 s (finP [.t 8]) xN (finP [.t 8]) = q39_1k s :=
  by kernel_rfl
@[simp] theorem pure_82 : E.pure 82 = true := rfl
theorem x_q39 (v0 v1 v2 v3 : AV) : (callW E).p 82 [v0, v1, v2, v3] = q39_1 v0 v1 v2 v3 [] :=
  (callP_W (cf := c_q39) (by kernel_rfl) rfl).trans ((q39_1_eq _).trans (by kernel_rfl))
noncomputable def q59_1 (v0 : AV) (h : Heap) : OX :=
ob (evBin .geq v0 (AV.int .i64 23)) fun v4 =>
gb v4 true (some v0) fun v6 =>
gb v4 true (evBin .leq v6 (AV.int .i64 26)) fun v7 =>
ob (evPick v4 v7 (AV.bool false)) fun v8 =>
(expo1 h v8)
noncomputable def q59_1k (s : St) : OX := q59_1 (s 0) s.h
theorem q59_1_eq (s : St) : W E 0 c_q59_1 s (finP [.t 2]) xN (finP [.t 2]) = q59_1k s :=
  by kernel_rfl
@[simp] theorem pure_7 : E.pure 7 = true := rfl
theorem x_q59 (v0 : AV) : (callW E).p 7 [v0] = q59_1 v0 [] :=
  (callP_W (cf := c_q59) (by kernel_rfl) rfl).trans ((q59_1_eq _).trans (by kernel_rfl))
end Go.Vm
