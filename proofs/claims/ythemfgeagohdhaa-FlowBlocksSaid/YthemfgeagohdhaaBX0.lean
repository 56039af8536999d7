/- Functions of the machine as plain functions that go on with what follows. -/
import Derived.Test.YthemfgeagohdhaaBEnv
set_option linter.unusedSimpArgs false
set_option linter.unusedVariables false
set_option linter.unusedSectionVars false
namespace Go.Vm
noncomputable def q46_1 (v3 : AV) (h : Heap) : OX :=
ob (evLen 1 v3 h) fun v101 =>
ob (evBin .gtr v101 (AV.int .i64 0)) fun v102 =>
gb v102 true (some v3) fun v104 =>
gb v102 true (evIxs 1 v104 (AV.int .i64 0)) fun v105 =>
gb v102 true (evLd false 1 v105 h) fun v106 =>
gb v102 true (evBin .eql v106 (AV.int .i64 0)) fun v107 =>
ob (evPick v102 v107 (AV.bool false)) fun v108 =>
(expo1 h v108)
noncomputable def q46_1k (s : St) : OX := q46_1 (s 3) s.h
theorem q46_1_eq (s : St) : W E 0 c_q46_1 s (finP [.t 2]) xN (finP [.t 2]) = q46_1k s :=
  by kernel_rfl
noncomputable def q46_L2 (v1 v3 v4 v46 v47 v48 : AV) (h : Heap) : OX :=
  W E 0 c_q46_L2 ⟨[(1, v1), (3, v3), (4, v4), (46, v46), (47, v47), (48, v48)], h⟩ q46_1k (exitTo 2 q46_1k xN) (finP [.t 2])
noncomputable def q46_L2k (s : St) : OX := q46_L2 (s 1) (s 3) (s 4) (s 46) (s 47) (s 48) s.h
theorem q46_L2_eq (s : St) : W E 0 c_q46_L2 s q46_1k (exitTo 2 q46_1k xN) (finP [.t 2]) = q46_L2k s := W_loop_live.trans (by kernel_rfl)
noncomputable def q46_3 (v1 v3 v4 v46 v47 v48 : AV) (h : Heap) : OX :=
ob (evBin .add v48 (AV.int .i64 1)) fun v99 =>
(q46_L2 v1 v3 v4 v46 v47 v99 h)
noncomputable def q46_3k (s : St) : OX := q46_3 (s 1) (s 3) (s 4) (s 46) (s 47) (s 48) s.h
theorem q46_3_eq (s : St) : W E 0 c_q46_3 s q46_L2k (exitTo 2 q46_1k xN) (finP [.t 2]) = q46_3k s :=
  by kernel_rfl
noncomputable def q46_L4 (v1 v3 v4 v7 v46 v47 v48 v82 v83 v84 : AV) (h : Heap) : OX :=
  W E 0 c_q46_L4 ⟨[(1, v1), (3, v3), (4, v4), (7, v7), (46, v46), (47, v47), (48, v48), (82, v82), (83, v83), (84, v84)], h⟩ q46_3k (exitTo 4 q46_3k (exitTo 3 q46_3k (exitTo 2 q46_1k xN))) (finP [.t 2])
noncomputable def q46_L4k (s : St) : OX := q46_L4 (s 1) (s 3) (s 4) (s 7) (s 46) (s 47) (s 48) (s 82) (s 83) (s 84) s.h
theorem q46_L4_eq (s : St) : W E 0 c_q46_L4 s q46_3k (exitTo 4 q46_3k (exitTo 3 q46_3k (exitTo 2 q46_1k xN))) (finP [.t 2]) = q46_L4k s := W_loop_live.trans (by kernel_rfl)
noncomputable def q46_5 (v1 v3 v4 v7 v46 v47 v48 v82 v83 v84 : AV) (h : Heap) : OX :=
ob (evBin .add v84 (AV.int .i64 1)) fun v98 =>
(q46_L4 v1 v3 v4 v7 v46 v47 v48 v82 v83 v98 h)
noncomputable def q46_5k (s : St) : OX := q46_5 (s 1) (s 3) (s 4) (s 7) (s 46) (s 47) (s 48) (s 82) (s 83) (s 84) s.h
theorem q46_5_eq (s : St) : W E 0 c_q46_5 s q46_L4k (exitTo 4 q46_3k (exitTo 3 q46_3k (exitTo 2 q46_1k xN))) (finP [.t 2]) = q46_5k s :=
  by kernel_rfl
noncomputable def q46_6 (v1 v3 v4 v7 v46 v47 v48 v82 v83 v84 : AV) (h : Heap) : OX :=
ob (evIxs 1 v82 v84) fun v86 =>
ob (evLd false 1 v86 h) fun v87 =>
ob (evBin .add v7 (AV.int .i64 1)) fun v90 =>
ob (evBin .neq v87 v90) fun v91 =>
gb v91 true (some v4) fun v93 =>
gb v91 true (some v87) fun v94 =>
gb v91 true (evMget false [0] (.int .i64 0) false v93 v94 h) fun v95 =>
gb v91 true (evBin .eql v95 (AV.int .i64 0)) fun v96 =>
ob (evPick v91 v96 (AV.bool false)) fun v97 =>
cnd v97
 ((expo1 h (AV.bool false)))
 ((q46_5 v1 v3 v4 v7 v46 v47 v48 v82 v83 v84 h))
noncomputable def q46_6k (s : St) : OX := q46_6 (s 1) (s 3) (s 4) (s 7) (s 46) (s 47) (s 48) (s 82) (s 83) (s 84) s.h
theorem q46_6_eq (s : St) : W E 0 c_q46_6 s q46_L4k (exitTo 4 q46_3k (exitTo 3 q46_3k (exitTo 2 q46_1k xN))) (finP [.t 2]) = q46_6k s :=
  (W_seq (k := q46_5k) (fun s => q46_5_eq s)).trans (by kernel_rfl)
noncomputable def q46_7 (v1 v3 v4 v7 v46 v47 v48 v82 v83 v84 v85 : AV) (h : Heap) : OX :=
cnd v85
 ((q46_6 v1 v3 v4 v7 v46 v47 v48 v82 v83 v84 h))
 ((q46_3 v1 v3 v4 v46 v47 v48 h))
noncomputable def q46_7k (s : St) : OX := q46_7 (s 1) (s 3) (s 4) (s 7) (s 46) (s 47) (s 48) (s 82) (s 83) (s 84) (s 85) s.h
theorem q46_7_eq (s : St) : W E 0 c_q46_7 s q46_L4k (exitTo 4 q46_3k (exitTo 3 q46_3k (exitTo 2 q46_1k xN))) (finP [.t 2]) = q46_7k s :=
  (W_seq (k := q46_6k) (fun s => q46_6_eq s)).trans (by kernel_rfl)
noncomputable def q46_8 (v1 v3 v4 v7 v46 v47 v48 v82 v83 v84 : AV) (h : Heap) : OX :=
ob (evBin .lss v84 v83) fun v85 =>
(q46_7 v1 v3 v4 v7 v46 v47 v48 v82 v83 v84 v85 h)
noncomputable def q46_8k (s : St) : OX := q46_8 (s 1) (s 3) (s 4) (s 7) (s 46) (s 47) (s 48) (s 82) (s 83) (s 84) s.h
theorem q46_8_eq (s : St) : W E 0 c_q46_8 s q46_L4k (exitTo 4 q46_3k (exitTo 3 q46_3k (exitTo 2 q46_1k xN))) (finP [.t 2]) = q46_8k s :=
  (W_seq (k := q46_7k) (fun s => q46_7_eq s)).trans (by kernel_rfl)
theorem q46_L4_go (v1 v3 v4 v7 v46 v47 v48 v82 v83 v84 : AV) (h : Heap) : q46_L4 v1 v3 v4 v7 v46 v47 v48 v82 v83 v84 h = (q46_8 v1 v3 v4 v7 v46 v47 v48 v82 v83 v84 h) :=
  W_loop.trans ((W_congr _ _ _ (n' := q46_L4k) (fun s => q46_L4_eq s)).trans ((q46_8_eq _).trans (by kernel_rfl)))
theorem q46_9_eq (s : St) : W E 0 c_q46_9 s q46_3k (exitTo 3 q46_3k (exitTo 2 q46_1k xN)) (finP [.t 2]) = q46_L4k s :=
  W_block.trans (q46_L4_eq s)
noncomputable def q46_10 (v1 v3 v4 v7 v46 v47 v48 : AV) (h : Heap) : OX :=
ob (evLd true 5 v1 h) fun v76 =>
ofp (fpCall E (callW E) 0 (some 3) false 81 [v76, v7] h) fun f2 =>
oh (callAny E (callW E) 0 (some 3) false 81 [v76, v7] h) fun v78 h1 =>
ob (evLd true 5 v1 h1) fun v79 =>
ofp (fpCall E (callW E) 0 none true 79 [v79, v7] h1) fun f5 =>
oh (callAny E (callW E) 0 none true 79 [v79, v7] h1) fun v81 h2 =>
oh (evApp 0 (some 4) 1 8 v78 v81 h2) fun v82 h3 =>
ob (evLen 1 v82 h3) fun v83 =>
okK (pairsOk [(ids1 v1, []), ([], []), f2, (ids1 v1, []), ([], []), f5, (ids1 v81, ids1 v78 ++ [0 + 4]), (ids1 v82, []), ([], [])] [(2, 3)]) <|
(q46_L4 v1 v3 v4 v7 v46 v47 v48 v82 v83 (AV.int .i64 0) h3)
noncomputable def q46_10k (s : St) : OX := q46_10 (s 1) (s 3) (s 4) (s 7) (s 46) (s 47) (s 48) s.h
theorem q46_10_eq (s : St) : W E 0 c_q46_10 s q46_3k (exitTo 3 q46_3k (exitTo 2 q46_1k xN)) (finP [.t 2]) = q46_10k s :=
  (W_seq (k := q46_L4k) (fun s => q46_9_eq s)).trans (by kernel_rfl)
noncomputable def q46_11 (v1 v3 v4 v7 v8 v46 v47 v48 : AV) (h : Heap) : OX :=
ob (evFa 0 v8) fun v53 =>
ob (evLd false 1 v53 h) fun v54 =>
oh (callAny E (callW E) 0 none true 23 [v54] h) fun v55 h4 =>
gb v55 false (evFa 0 v8) fun v57 =>
gb v55 false (evLd false 1 v57 h4) fun v58 =>
gh v55 false (callAny E (callW E) 0 none true 25 [v58] h4) h4 fun v59 h5 =>
ob (evPick v55 (AV.bool true) v59) fun v60 =>
gb v60 true (some v7) fun v62 =>
gb v60 true (evBin .add v62 (AV.int .i64 1)) fun v63 =>
gb v60 true (evFa 3 v1) fun v64 =>
gb v60 true (evLd false 1 v64 h5) fun v65 =>
gb v60 true (evLen 1 v65 h5) fun v66 =>
gb v60 true (evBin .lss v63 v66) fun v67 =>
ob (evPick v60 v67 (AV.bool false)) fun v68 =>
gb v68 true (some v4) fun v70 =>
gb v68 true (some v7) fun v71 =>
gb v68 true (evBin .add v71 (AV.int .i64 1)) fun v72 =>
gb v68 true (evMget false [0] (.int .i64 0) false v70 v72 h5) fun v73 =>
gb v68 true (evBin .eql v73 (AV.int .i64 0)) fun v74 =>
ob (evPick v68 v74 (AV.bool false)) fun v75 =>
cnd v75
 ((expo1 h5 (AV.bool false)))
 ((q46_10 v1 v3 v4 v7 v46 v47 v48 h5))
noncomputable def q46_11k (s : St) : OX := q46_11 (s 1) (s 3) (s 4) (s 7) (s 8) (s 46) (s 47) (s 48) s.h
theorem q46_11_eq (s : St) : W E 0 c_q46_11 s q46_3k (exitTo 3 q46_3k (exitTo 2 q46_1k xN)) (finP [.t 2]) = q46_11k s :=
  (W_seq (k := q46_10k) (fun s => q46_10_eq s)).trans (by kernel_rfl)
noncomputable def q46_12 (v1 v3 v4 v46 v47 v48 : AV) (h : Heap) : OX :=
ob (evIxs 9 v46 v48) fun v51 =>
ob (evLd true 9 v51 h) fun v52 =>
oh (newC 0 (some 2) [(.int .i64 0), (.int .i64 0), (.int .i64 0), (.int .i64 0), (.int .i64 0), (.int .i64 0), (.int .i64 0), (.str []), .nils] h) fun v8 h6 =>
oh (evSt 9 v8 v52 h6) fun _ h7 =>
(q46_11 v1 v3 v4 v48 v8 v46 v47 v48 h7)
noncomputable def q46_12k (s : St) : OX := q46_12 (s 1) (s 3) (s 4) (s 46) (s 47) (s 48) s.h
theorem q46_12_eq (s : St) : W E 0 c_q46_12 s q46_3k (exitTo 3 q46_3k (exitTo 2 q46_1k xN)) (finP [.t 2]) = q46_12k s :=
  (W_seq (k := q46_11k) (fun s => q46_11_eq s)).trans (by kernel_rfl)
theorem q46_13_eq (s : St) : W E 0 c_q46_13 s q46_3k (exitTo 2 q46_1k xN) (finP [.t 2]) = q46_12k s :=
  W_block.trans (q46_12_eq s)
theorem q46_14_eq (s : St) : W E 0 c_q46_14 s q46_L2k (exitTo 2 q46_1k xN) (finP [.t 2]) = q46_12k s :=
  (W_seq (k := q46_3k) (fun s => q46_3_eq s)).trans (q46_13_eq s)
noncomputable def q46_15 (v1 v3 v4 v46 v47 v48 v49 : AV) (h : Heap) : OX :=
cnd v49
 ((q46_12 v1 v3 v4 v46 v47 v48 h))
 ((q46_1 v3 h))
noncomputable def q46_15k (s : St) : OX := q46_15 (s 1) (s 3) (s 4) (s 46) (s 47) (s 48) (s 49) s.h
theorem q46_15_eq (s : St) : W E 0 c_q46_15 s q46_L2k (exitTo 2 q46_1k xN) (finP [.t 2]) = q46_15k s :=
  (W_seq (k := q46_12k) (fun s => q46_14_eq s)).trans (by kernel_rfl)
noncomputable def q46_16 (v1 v3 v4 v46 v47 v48 : AV) (h : Heap) : OX :=
ob (evBin .lss v48 v47) fun v49 =>
(q46_15 v1 v3 v4 v46 v47 v48 v49 h)
noncomputable def q46_16k (s : St) : OX := q46_16 (s 1) (s 3) (s 4) (s 46) (s 47) (s 48) s.h
theorem q46_16_eq (s : St) : W E 0 c_q46_16 s q46_L2k (exitTo 2 q46_1k xN) (finP [.t 2]) = q46_16k s :=
  (W_seq (k := q46_15k) (fun s => q46_15_eq s)).trans (by kernel_rfl)
theorem q46_L2_go (v1 v3 v4 v46 v47 v48 : AV) (h : Heap) : q46_L2 v1 v3 v4 v46 v47 v48 h = (q46_16 v1 v3 v4 v46 v47 v48 h) :=
  W_loop.trans ((W_congr _ _ _ (n' := q46_L2k) (fun s => q46_L2_eq s)).trans ((q46_16_eq _).trans (by kernel_rfl)))
theorem q46_17_eq (s : St) : W E 0 c_q46_17 s q46_1k xN (finP [.t 2]) = q46_L2k s :=
  W_block.trans (q46_L2_eq s)
noncomputable def q46_18 (v1 v3 v4 : AV) (h : Heap) : OX :=
ob (evFa 3 v1) fun v45 =>
ob (evLd false 1 v45 h) fun v46 =>
ob (evLen 1 v46 h) fun v47 =>
(q46_L2 v1 v3 v4 v46 v47 (AV.int .i64 0) h)
noncomputable def q46_18k (s : St) : OX := q46_18 (s 1) (s 3) (s 4) s.h
theorem q46_18_eq (s : St) : W E 0 c_q46_18 s q46_1k xN (finP [.t 2]) = q46_18k s :=
  (W_seq (k := q46_L2k) (fun s => q46_17_eq s)).trans (by kernel_rfl)
theorem q46_19_eq (s : St) : W E 0 c_q46_19 s (finP [.t 2]) xN (finP [.t 2]) = q46_18k s :=
  (W_seq (k := q46_1k) (fun s => q46_1_eq s)).trans (q46_18_eq s)
noncomputable def q46_L20 (v1 v3 v4 v24 v25 v26 : AV) (h : Heap) : OX :=
  W E 0 c_q46_L20 ⟨[(1, v1), (3, v3), (4, v4), (24, v24), (25, v25), (26, v26)], h⟩ q46_18k (exitTo 0 q46_18k xN) (finP [.t 2])
noncomputable def q46_L20k (s : St) : OX := q46_L20 (s 1) (s 3) (s 4) (s 24) (s 25) (s 26) s.h
theorem q46_L20_eq (s : St) : W E 0 c_q46_L20 s q46_18k (exitTo 0 q46_18k xN) (finP [.t 2]) = q46_L20k s := W_loop_live.trans (by kernel_rfl)
noncomputable def q46_21 (v1 v3 v4 v24 v25 v26 : AV) (h : Heap) : OX :=
ob (evBin .add v26 (AV.int .i64 1)) fun v44 =>
(q46_L20 v1 v3 v4 v24 v25 v44 h)
noncomputable def q46_21k (s : St) : OX := q46_21 (s 1) (s 3) (s 4) (s 24) (s 25) (s 26) s.h
theorem q46_21_eq (s : St) : W E 0 c_q46_21 s q46_L20k (exitTo 0 q46_18k xN) (finP [.t 2]) = q46_21k s :=
  by kernel_rfl
noncomputable def q46_22 (v1 v3 v4 v24 v25 v26 : AV) (h : Heap) : OX :=
ob (evIxs 1 v24 v26) fun v29 =>
ob (evLd false 1 v29 h) fun v30 =>
oh (evMput false [0] v4 v30 (AV.int .i64 1) h) fun _ h8 =>
ob (evBin .gtr v26 (AV.int .i64 0)) fun v34 =>
gb v34 true (some v3) fun v36 =>
gb v34 true (some v26) fun v37 =>
gb v34 true (evBin .sub v37 (AV.int .i64 1)) fun v38 =>
gb v34 true (evIxs 1 v36 v38) fun v39 =>
gb v34 true (evLd false 1 v39 h8) fun v40 =>
gb v34 true (some v30) fun v41 =>
gb v34 true (evBin .geq v40 v41) fun v42 =>
ob (evPick v34 v42 (AV.bool false)) fun v43 =>
cnd v43
 ((expo1 h8 (AV.bool false)))
 ((q46_21 v1 v3 v4 v24 v25 v26 h8))
noncomputable def q46_22k (s : St) : OX := q46_22 (s 1) (s 3) (s 4) (s 24) (s 25) (s 26) s.h
theorem q46_22_eq (s : St) : W E 0 c_q46_22 s q46_L20k (exitTo 0 q46_18k xN) (finP [.t 2]) = q46_22k s :=
  (W_seq (k := q46_21k) (fun s => q46_21_eq s)).trans (by kernel_rfl)
noncomputable def q46_23 (v1 v3 v4 v24 v25 v26 v27 : AV) (h : Heap) : OX :=
cnd v27
 ((q46_22 v1 v3 v4 v24 v25 v26 h))
 ((q46_18 v1 v3 v4 h))
noncomputable def q46_23k (s : St) : OX := q46_23 (s 1) (s 3) (s 4) (s 24) (s 25) (s 26) (s 27) s.h
theorem q46_23_eq (s : St) : W E 0 c_q46_23 s q46_L20k (exitTo 0 q46_18k xN) (finP [.t 2]) = q46_23k s :=
  (W_seq (k := q46_22k) (fun s => q46_22_eq s)).trans (by kernel_rfl)
noncomputable def q46_24 (v1 v3 v4 v24 v25 v26 : AV) (h : Heap) : OX :=
ob (evBin .lss v26 v25) fun v27 =>
(q46_23 v1 v3 v4 v24 v25 v26 v27 h)
noncomputable def q46_24k (s : St) : OX := q46_24 (s 1) (s 3) (s 4) (s 24) (s 25) (s 26) s.h
theorem q46_24_eq (s : St) : W E 0 c_q46_24 s q46_L20k (exitTo 0 q46_18k xN) (finP [.t 2]) = q46_24k s :=
  (W_seq (k := q46_23k) (fun s => q46_23_eq s)).trans (by kernel_rfl)
theorem q46_L20_go (v1 v3 v4 v24 v25 v26 : AV) (h : Heap) : q46_L20 v1 v3 v4 v24 v25 v26 h = (q46_24 v1 v3 v4 v24 v25 v26 h) :=
  W_loop.trans ((W_congr _ _ _ (n' := q46_L20k) (fun s => q46_L20_eq s)).trans ((q46_24_eq _).trans (by kernel_rfl)))
theorem q46_25_eq (s : St) : W E 0 c_q46_25 s q46_18k xN (finP [.t 2]) = q46_L20k s :=
  W_block.trans (q46_L20_eq s)
noncomputable def q46_26 (v1 v3 v4 : AV) (h : Heap) : OX :=
ob (evLen 1 v3 h) fun v25 =>
(q46_L20 v1 v3 v4 v3 v25 (AV.int .i64 0) h)
noncomputable def q46_26k (s : St) : OX := q46_26 (s 1) (s 3) (s 4) s.h
theorem q46_26_eq (s : St) : W E 0 c_q46_26 s q46_18k xN (finP [.t 2]) = q46_26k s :=
  (W_seq (k := q46_L20k) (fun s => q46_25_eq s)).trans (by kernel_rfl)
theorem q46_27_eq (s : St) : W E 0 c_q46_27 s (finP [.t 2]) xN (finP [.t 2]) = q46_26k s :=
  (W_seq (k := q46_18k) (fun s => q46_19_eq s)).trans (q46_26_eq s)
noncomputable def q46_28 (v1 v3 : AV) (h : Heap) : OX :=
oh (mkmC 0 (some 1) h) fun v23 h9 =>
(q46_26 v1 v3 v23 h9)
noncomputable def q46_28k (s : St) : OX := q46_28 (s 1) (s 3) s.h
theorem q46_28_eq (s : St) : W E 0 c_q46_28 s (finP [.t 2]) xN (finP [.t 2]) = q46_28k s :=
  (W_seq (k := q46_26k) (fun s => q46_27_eq s)).trans (by kernel_rfl)
noncomputable def q46_29 (v1 : AV) (h : Heap) : OX :=
ob (evLd true 5 v1 h) fun v21 =>
oh (callAny E (callW E) 0 none true 102 [v21] h) fun v22 h10 =>
(q46_28 v1 v22 h10)
noncomputable def q46_29k (s : St) : OX := q46_29 (s 1) s.h
theorem q46_29_eq (s : St) : W E 0 c_q46_29 s (finP [.t 2]) xN (finP [.t 2]) = q46_29k s :=
  (W_seq (k := q46_28k) (fun s => q46_28_eq s)).trans (by kernel_rfl)
noncomputable def q46_30 (v1 : AV) (h : Heap) : OX :=
ob (evLd true 5 v1 h) fun v13 =>
oh (callAny E (callW E) 0 none true 98 [v13] h) fun v14 h11 =>
ob (evUn .not v14) fun v15 =>
gb v15 false (evLd true 5 v1 h11) fun v17 =>
gh v15 false (callAny E (callW E) 0 none true 29 [v17] h11) h11 fun v18 h12 =>
gb v15 false (evBin .neq v18 (AV.int .i64 0)) fun v19 =>
ob (evPick v15 (AV.bool true) v19) fun v20 =>
cnd v20
 ((expo1 h12 (AV.bool true)))
 ((q46_29 v1 h12))
noncomputable def q46_30k (s : St) : OX := q46_30 (s 1) s.h
theorem q46_30_eq (s : St) : W E 0 c_q46_30 s (finP [.t 2]) xN (finP [.t 2]) = q46_30k s :=
  (W_seq (k := q46_29k) (fun s => q46_29_eq s)).trans (by kernel_rfl)
noncomputable def q46_31 (v1 : AV) (h : Heap) : OX :=
oh (callAny E (callW E) 0 none true 97 [] h) fun v11 h13 =>
ob (evUn .not v11) fun v12 =>
cnd v12
 ((expo1 h13 (AV.bool false)))
 ((q46_30 v1 h13))
noncomputable def q46_31k (s : St) : OX := q46_31 (s 1) s.h
theorem q46_31_eq (s : St) : W E 0 c_q46_31 s (finP [.t 2]) xN (finP [.t 2]) = q46_31k s :=
  (W_seq (k := q46_30k) (fun s => q46_30_eq s)).trans (by kernel_rfl)
noncomputable def q46_32 (v0 : AV) (h : Heap) : OX :=
oh (newC 0 (some 0) (cellsOf v0) h) fun v1 h14 =>
(q46_31 v1 h14)
noncomputable def q46_32k (s : St) : OX := q46_32 (s 0) s.h
theorem q46_32_eq (s : St) : W E 0 c_q46_32 s (finP [.t 2]) xN (finP [.t 2]) = q46_32k s :=
  (W_seq (k := q46_31k) (fun s => q46_31_eq s)).trans (by kernel_rfl)
@[simp] theorem pure_109 : E.pure 109 = true := rfl
theorem x_q46 (v0 : AV) : (callW E).p 109 [v0] = q46_32 v0 [⟨0, .dead⟩, ⟨0, .dead⟩, ⟨0, .dead⟩, ⟨0, .dead⟩, ⟨0, .dead⟩] :=
  (callP_W (cf := c_q46) (by kernel_rfl) rfl).trans ((q46_32_eq _).trans (by kernel_rfl))
@[simp] theorem pure_97 : E.pure 97 = true := rfl
noncomputable def q51_1 (v0 : AV) (h : Heap) : OX :=
oh (newC 0 (some 0) (cellsOf v0) h) fun v1 h1 =>
ob (evFa 3 v1) fun v3 =>
ob (evLd false 1 v3 h1) fun v4 =>
ob (evLen 1 v4 h1) fun v5 =>
ob (evBin .leq v5 (AV.int .i64 400)) fun v6 =>
gb v6 true (evFa 0 v1) fun v8 =>
gb v6 true (evLd false 1 v8 h1) fun v9 =>
gb v6 true (evLen 1 v9 h1) fun v10 =>
gb v6 true (evBin .leq v10 (AV.int .i64 100)) fun v11 =>
ob (evPick v6 v11 (AV.bool false)) fun v12 =>
gb v12 true (evFa 4 v1) fun v14 =>
gb v12 true (evLd false 1 v14 h1) fun v15 =>
gb v12 true (evLen 1 v15 h1) fun v16 =>
gb v12 true (evBin .leq v16 (AV.int .i64 100)) fun v17 =>
ob (evPick v12 v17 (AV.bool false)) fun v18 =>
(expo1 h1 v18)
noncomputable def q51_1k (s : St) : OX := q51_1 (s 0) s.h
theorem q51_1_eq (s : St) : W E 0 c_q51_1 s (finP [.t 2]) xN (finP [.t 2]) = q51_1k s :=
  by kernel_rfl
@[simp] theorem pure_98 : E.pure 98 = true := rfl
theorem x_q51 (v0 : AV) : (callW E).p 98 [v0] = q51_1 v0 [⟨0, .dead⟩] :=
  (callP_W (cf := c_q51) (by kernel_rfl) rfl).trans ((q51_1_eq _).trans (by kernel_rfl))
noncomputable def q6_1 (v6 : AV) (h : Heap) : OX :=
(expo1 h v6)
noncomputable def q6_1k (s : St) : OX := q6_1 (s 6) s.h
theorem q6_1_eq (s : St) : W E 0 c_q6_1 s (finP [.t 4]) xN (finP [.t 4]) = q6_1k s :=
  by kernel_rfl
noncomputable def q6_2 (v5 v6 : AV) (h : Heap) : OX :=
ob (evLd true 9 v5 h) fun v29 =>
oh (callAny E (callW E) 0 none true 22 [v29] h) fun v30 h1 =>
gb v30 true (some v6) fun v32 =>
gb v30 true (evFa 6 v5) fun v33 =>
gb v30 true (evLd false 1 v33 h1) fun v34 =>
gh v30 true (callAny E (callW E) 0 none true 46 [v32, v34] h1) h1 fun v35 h2 =>
gb v30 true (evUn .not v35) fun v36 =>
ob (evPick v30 v36 (AV.bool false)) fun v37 =>
cnd v37
 (ob (evFa 6 v5) fun v39 =>
ob (evLd false 1 v39 h2) fun v40 =>
oh (buildSC 0 (some 4) 1 1 [(.int .i64 0)] [(0, v40)] h2) fun v41 h3 =>
oh (evApp 0 (some 5) 1 8 v6 v41 h3) fun v42 h4 =>
(q6_1 v42 h4))
 ((q6_1 v6 h2))
noncomputable def q6_2k (s : St) : OX := q6_2 (s 5) (s 6) s.h
theorem q6_2_eq (s : St) : W E 0 c_q6_2 s (finP [.t 4]) xN (finP [.t 4]) = q6_2k s :=
  (W_seq (k := q6_1k) (fun s => q6_1_eq s)).trans (by kernel_rfl)
noncomputable def q6_3 (v1 v5 v6 : AV) (h : Heap) : OX :=
ob (evLd true 9 v5 h) fun v21 =>
oh (callAny E (callW E) 0 none true 24 [v21] h) fun v22 h5 =>
ob (evUn .not v22) fun v23 =>
cnd v23
 (ob (evBin .add v1 (AV.int .i64 1)) fun v26 =>
oh (buildSC 0 (some 2) 1 1 [(.int .i64 0)] [(0, v26)] h5) fun v27 h6 =>
oh (evApp 0 (some 3) 1 8 v6 v27 h6) fun v28 h7 =>
(q6_2 v5 v28 h7))
 ((q6_2 v5 v6 h5))
noncomputable def q6_3k (s : St) : OX := q6_3 (s 1) (s 5) (s 6) s.h
theorem q6_3_eq (s : St) : W E 0 c_q6_3 s (finP [.t 4]) xN (finP [.t 4]) = q6_3k s :=
  (W_seq (k := q6_2k) (fun s => q6_2_eq s)).trans (by kernel_rfl)
noncomputable def q6_4 (v1 v5 : AV) (h : Heap) : OX :=
(q6_3 v1 v5 AV.nils h)
noncomputable def q6_4k (s : St) : OX := q6_4 (s 1) (s 5) s.h
theorem q6_4_eq (s : St) : W E 0 c_q6_4 s (finP [.t 4]) xN (finP [.t 4]) = q6_4k s :=
  (W_seq (k := q6_3k) (fun s => q6_3_eq s)).trans (by kernel_rfl)
noncomputable def q6_5 (v1 v2 : AV) (h : Heap) : OX :=
ob (evFa 3 v2) fun v16 =>
ob (evLd false 1 v16 h) fun v17 =>
ob (evIxs 9 v17 v1) fun v19 =>
ob (evLd true 9 v19 h) fun v20 =>
oh (newC 0 (some 1) [(.int .i64 0), (.int .i64 0), (.int .i64 0), (.int .i64 0), (.int .i64 0), (.int .i64 0), (.int .i64 0), (.str []), .nils] h) fun v5 h8 =>
oh (evSt 9 v5 v20 h8) fun _ h9 =>
(q6_4 v1 v5 h9)
noncomputable def q6_5k (s : St) : OX := q6_5 (s 1) (s 2) s.h
theorem q6_5_eq (s : St) : W E 0 c_q6_5 s (finP [.t 4]) xN (finP [.t 4]) = q6_5k s :=
  (W_seq (k := q6_4k) (fun s => q6_4_eq s)).trans (by kernel_rfl)
noncomputable def q6_6 (v1 v2 : AV) (h : Heap) : OX :=
ob (evBin .lss v1 (AV.int .i64 0)) fun v8 =>
gb v8 false (some v1) fun v10 =>
gb v8 false (evFa 3 v2) fun v11 =>
gb v8 false (evLd false 1 v11 h) fun v12 =>
gb v8 false (evLen 1 v12 h) fun v13 =>
gb v8 false (evBin .geq v10 v13) fun v14 =>
ob (evPick v8 (AV.bool true) v14) fun v15 =>
cnd v15
 ((expo1 h AV.nils))
 ((q6_5 v1 v2 h))
noncomputable def q6_6k (s : St) : OX := q6_6 (s 1) (s 2) s.h
theorem q6_6_eq (s : St) : W E 0 c_q6_6 s (finP [.t 4]) xN (finP [.t 4]) = q6_6k s :=
  (W_seq (k := q6_5k) (fun s => q6_5_eq s)).trans (by kernel_rfl)
noncomputable def q6_7 (v0 v1 : AV) (h : Heap) : OX :=
oh (newC 0 (some 0) (cellsOf v0) h) fun v2 h10 =>
(q6_6 v1 v2 h10)
noncomputable def q6_7k (s : St) : OX := q6_7 (s 0) (s 1) s.h
theorem q6_7_eq (s : St) : W E 0 c_q6_7 s (finP [.t 4]) xN (finP [.t 4]) = q6_7k s :=
  (W_seq (k := q6_6k) (fun s => q6_6_eq s)).trans (by kernel_rfl)
@[simp] theorem pure_81 : E.pure 81 = true := rfl
theorem x_q6 (v0 v1 : AV) : (callW E).p 81 [v0, v1] = q6_7 v0 v1 [⟨0, .dead⟩, ⟨0, .dead⟩, ⟨0, .dead⟩, ⟨0, .dead⟩, ⟨0, .dead⟩, ⟨0, .dead⟩] :=
  (callP_W (cf := c_q6) (by kernel_rfl) rfl).trans ((q6_7_eq _).trans (by kernel_rfl))
noncomputable def q4_1 (v5 : AV) (h : Heap) : OX :=
(expo1 h v5)
noncomputable def q4_1k (s : St) : OX := q4_1 (s 5) s.h
theorem q4_1_eq (s : St) : W E 0 c_q4_1 s (finP [.t 4]) xN (finP [.t 4]) = q4_1k s :=
  by kernel_rfl
noncomputable def q4_L2 (v1 v5 v27 v28 v29 : AV) (h : Heap) : OX :=
  W E 0 c_q4_L2 ⟨[(1, v1), (5, v5), (27, v27), (28, v28), (29, v29)], h⟩ q4_1k (exitTo 0 q4_1k xN) (finP [.t 4])
noncomputable def q4_L2k (s : St) : OX := q4_L2 (s 1) (s 5) (s 27) (s 28) (s 29) s.h
theorem q4_L2_eq (s : St) : W E 0 c_q4_L2 s q4_1k (exitTo 0 q4_1k xN) (finP [.t 4]) = q4_L2k s := W_loop_live.trans (by kernel_rfl)
noncomputable def q4_3 (v1 v5 v27 v28 v29 : AV) (h : Heap) : OX :=
ob (evBin .add v29 (AV.int .i64 1)) fun v56 =>
(q4_L2 v1 v5 v27 v28 v56 h)
noncomputable def q4_3k (s : St) : OX := q4_3 (s 1) (s 5) (s 27) (s 28) (s 29) s.h
theorem q4_3_eq (s : St) : W E 0 c_q4_3 s q4_L2k (exitTo 0 q4_1k xN) (finP [.t 4]) = q4_3k s :=
  by kernel_rfl
noncomputable def q4_4 (v1 v5 v7 v27 v28 v29 : AV) (h : Heap) : OX :=
ob (evFa 3 v7) fun v53 =>
ob (evLd false 1 v53 h) fun v54 =>
ob (evBin .eql v54 (AV.str [])) fun v55 =>
cnd v55
 ((q4_1 v5 h))
 ((q4_3 v1 v5 v27 v28 v29 h))
noncomputable def q4_4k (s : St) : OX := q4_4 (s 1) (s 5) (s 7) (s 27) (s 28) (s 29) s.h
theorem q4_4_eq (s : St) : W E 0 c_q4_4 s q4_3k (exitTo 1 q4_3k (exitTo 0 q4_1k xN)) (finP [.t 4]) = q4_4k s :=
  by kernel_rfl
noncomputable def q4_5 (v1 v5 v7 v27 v28 v29 : AV) (h : Heap) : OX :=
ob (evFa 2 v7) fun v44 =>
ob (evLd false 1 v44 h) fun v45 =>
oh (callAny E (callW E) 0 none true 46 [v5, v45] h) fun v46 h1 =>
ob (evUn .not v46) fun v47 =>
cnd v47
 (ob (evFa 2 v7) fun v49 =>
ob (evLd false 1 v49 h1) fun v50 =>
oh (buildSC 0 (some 2) 1 1 [(.int .i64 0)] [(0, v50)] h1) fun v51 h2 =>
oh (evApp 0 (some 3) 1 8 v5 v51 h2) fun v52 h3 =>
(q4_4 v1 v52 v7 v27 v28 v29 h3))
 ((q4_4 v1 v5 v7 v27 v28 v29 h1))
noncomputable def q4_5k (s : St) : OX := q4_5 (s 1) (s 5) (s 7) (s 27) (s 28) (s 29) s.h
theorem q4_5_eq (s : St) : W E 0 c_q4_5 s q4_3k (exitTo 1 q4_3k (exitTo 0 q4_1k xN)) (finP [.t 4]) = q4_5k s :=
  (W_seq (k := q4_4k) (fun s => q4_4_eq s)).trans (by kernel_rfl)
noncomputable def q4_6 (v1 v5 v7 v27 v28 v29 : AV) (h : Heap) : OX :=
ob (evFa 0 v7) fun v34 =>
ob (evLd false 1 v34 h) fun v35 =>
ob (evBin .lss v1 v35) fun v36 =>
gb v36 false (some v1) fun v38 =>
gb v36 false (evFa 1 v7) fun v39 =>
gb v36 false (evLd false 1 v39 h) fun v40 =>
gb v36 false (evBin .geq v38 v40) fun v41 =>
ob (evPick v36 (AV.bool true) v41) fun v42 =>
cnd v42
 ((q4_3 v1 v5 v27 v28 v29 h))
 ((q4_5 v1 v5 v7 v27 v28 v29 h))
noncomputable def q4_6k (s : St) : OX := q4_6 (s 1) (s 5) (s 7) (s 27) (s 28) (s 29) s.h
theorem q4_6_eq (s : St) : W E 0 c_q4_6 s q4_3k (exitTo 1 q4_3k (exitTo 0 q4_1k xN)) (finP [.t 4]) = q4_6k s :=
  (W_seq (k := q4_5k) (fun s => q4_5_eq s)).trans (by kernel_rfl)
noncomputable def q4_7 (v1 v5 v27 v28 v29 : AV) (h : Heap) : OX :=
ob (evIxs 4 v27 v29) fun v31 =>
ob (evLd true 4 v31 h) fun v32 =>
oh (newC 0 (some 1) [(.int .i64 0), (.int .i64 0), (.int .i64 0), (.str [])] h) fun v7 h4 =>
oh (evSt 4 v7 v32 h4) fun _ h5 =>
(q4_6 v1 v5 v7 v27 v28 v29 h5)
noncomputable def q4_7k (s : St) : OX := q4_7 (s 1) (s 5) (s 27) (s 28) (s 29) s.h
theorem q4_7_eq (s : St) : W E 0 c_q4_7 s q4_3k (exitTo 1 q4_3k (exitTo 0 q4_1k xN)) (finP [.t 4]) = q4_7k s :=
  (W_seq (k := q4_6k) (fun s => q4_6_eq s)).trans (by kernel_rfl)
theorem q4_8_eq (s : St) : W E 0 c_q4_8 s q4_3k (exitTo 0 q4_1k xN) (finP [.t 4]) = q4_7k s :=
  W_block.trans (q4_7_eq s)
theorem q4_9_eq (s : St) : W E 0 c_q4_9 s q4_L2k (exitTo 0 q4_1k xN) (finP [.t 4]) = q4_7k s :=
  (W_seq (k := q4_3k) (fun s => q4_3_eq s)).trans (q4_8_eq s)
noncomputable def q4_10 (v1 v5 v27 v28 v29 v30 : AV) (h : Heap) : OX :=
cnd v30
 ((q4_7 v1 v5 v27 v28 v29 h))
 ((q4_1 v5 h))
noncomputable def q4_10k (s : St) : OX := q4_10 (s 1) (s 5) (s 27) (s 28) (s 29) (s 30) s.h
theorem q4_10_eq (s : St) : W E 0 c_q4_10 s q4_L2k (exitTo 0 q4_1k xN) (finP [.t 4]) = q4_10k s :=
  (W_seq (k := q4_7k) (fun s => q4_9_eq s)).trans (by kernel_rfl)
noncomputable def q4_11 (v1 v5 v27 v28 v29 : AV) (h : Heap) : OX :=
ob (evBin .lss v29 v28) fun v30 =>
(q4_10 v1 v5 v27 v28 v29 v30 h)
noncomputable def q4_11k (s : St) : OX := q4_11 (s 1) (s 5) (s 27) (s 28) (s 29) s.h
theorem q4_11_eq (s : St) : W E 0 c_q4_11 s q4_L2k (exitTo 0 q4_1k xN) (finP [.t 4]) = q4_11k s :=
  (W_seq (k := q4_10k) (fun s => q4_10_eq s)).trans (by kernel_rfl)
theorem q4_L2_go (v1 v5 v27 v28 v29 : AV) (h : Heap) : q4_L2 v1 v5 v27 v28 v29 h = (q4_11 v1 v5 v27 v28 v29 h) :=
  W_loop.trans ((W_congr _ _ _ (n' := q4_L2k) (fun s => q4_L2_eq s)).trans ((q4_11_eq _).trans (by kernel_rfl)))
theorem q4_12_eq (s : St) : W E 0 c_q4_12 s q4_1k xN (finP [.t 4]) = q4_L2k s :=
  W_block.trans (q4_L2_eq s)
noncomputable def q4_13 (v1 v2 v5 : AV) (h : Heap) : OX :=
ob (evFa 4 v2) fun v26 =>
ob (evLd false 1 v26 h) fun v27 =>
ob (evLen 1 v27 h) fun v28 =>
(q4_L2 v1 v5 v27 v28 (AV.int .i64 0) h)
noncomputable def q4_13k (s : St) : OX := q4_13 (s 1) (s 2) (s 5) s.h
theorem q4_13_eq (s : St) : W E 0 c_q4_13 s q4_1k xN (finP [.t 4]) = q4_13k s :=
  (W_seq (k := q4_L2k) (fun s => q4_12_eq s)).trans (by kernel_rfl)
theorem q4_14_eq (s : St) : W E 0 c_q4_14 s (finP [.t 4]) xN (finP [.t 4]) = q4_13k s :=
  (W_seq (k := q4_1k) (fun s => q4_1_eq s)).trans (q4_13_eq s)
noncomputable def q4_15 (v1 v2 : AV) (h : Heap) : OX :=
(q4_13 v1 v2 AV.nils h)
noncomputable def q4_15k (s : St) : OX := q4_15 (s 1) (s 2) s.h
theorem q4_15_eq (s : St) : W E 0 c_q4_15 s (finP [.t 4]) xN (finP [.t 4]) = q4_15k s :=
  (W_seq (k := q4_13k) (fun s => q4_14_eq s)).trans (by kernel_rfl)
noncomputable def q4_16 (v1 v2 : AV) (h : Heap) : OX :=
ob (evBin .lss v1 (AV.int .i64 0)) fun v9 =>
gb v9 false (some v1) fun v11 =>
gb v9 false (evFa 3 v2) fun v12 =>
gb v9 false (evLd false 1 v12 h) fun v13 =>
gb v9 false (evLen 1 v13 h) fun v14 =>
gb v9 false (evBin .geq v11 v14) fun v15 =>
ob (evPick v9 (AV.bool true) v15) fun v16 =>
gb v16 false (evFa 3 v2) fun v18 =>
gb v16 false (evLd false 1 v18 h) fun v19 =>
gb v16 false (some v1) fun v20 =>
gb v16 false (evIxs 9 v19 v20) fun v21 =>
gb v16 false (evLd true 9 v21 h) fun v22 =>
gh v16 false (callAny E (callW E) 0 none true 18 [v22] h) h fun v23 h6 =>
gb v16 false (evUn .not v23) fun v24 =>
ob (evPick v16 (AV.bool true) v24) fun v25 =>
cnd v25
 ((expo1 h6 AV.nils))
 ((q4_15 v1 v2 h6))
noncomputable def q4_16k (s : St) : OX := q4_16 (s 1) (s 2) s.h
theorem q4_16_eq (s : St) : W E 0 c_q4_16 s (finP [.t 4]) xN (finP [.t 4]) = q4_16k s :=
  (W_seq (k := q4_15k) (fun s => q4_15_eq s)).trans (by kernel_rfl)
noncomputable def q4_17 (v0 v1 : AV) (h : Heap) : OX :=
oh (newC 0 (some 0) (cellsOf v0) h) fun v2 h7 =>
(q4_16 v1 v2 h7)
noncomputable def q4_17k (s : St) : OX := q4_17 (s 0) (s 1) s.h
theorem q4_17_eq (s : St) : W E 0 c_q4_17 s (finP [.t 4]) xN (finP [.t 4]) = q4_17k s :=
  (W_seq (k := q4_16k) (fun s => q4_16_eq s)).trans (by kernel_rfl)
@[simp] theorem pure_79 : E.pure 79 = true := rfl
theorem x_q4 (v0 v1 : AV) : (callW E).p 79 [v0, v1] = q4_17 v0 v1 [⟨0, .dead⟩, ⟨0, .dead⟩, ⟨0, .dead⟩, ⟨0, .dead⟩] :=
  (callP_W (cf := c_q4) (by kernel_rfl) rfl).trans ((q4_17_eq _).trans (by kernel_rfl))
@[simp] theorem pure_101 : E.pure 101 = true := rfl
noncomputable def q5_1 (v10 : AV) (h : Heap) : OX :=
(expo1 h v10)
noncomputable def q5_1k (s : St) : OX := q5_1 (s 10) s.h
theorem q5_1_eq (s : St) : W E 0 c_q5_1 s (finP [.t 2]) xN (finP [.t 2]) = q5_1k s :=
  by kernel_rfl
noncomputable def q5_L2 (v3 v10 v96 v97 : AV) (h : Heap) : OX :=
  W E 0 c_q5_L2 ⟨[(3, v3), (10, v10), (96, v96), (97, v97)], h⟩ q5_1k (exitTo 6 q5_1k xN) (finP [.t 2])
noncomputable def q5_L2k (s : St) : OX := q5_L2 (s 3) (s 10) (s 96) (s 97) s.h
theorem q5_L2_eq (s : St) : W E 0 c_q5_L2 s q5_1k (exitTo 6 q5_1k xN) (finP [.t 2]) = q5_L2k s := W_loop_live.trans (by kernel_rfl)
noncomputable def q5_3 (v3 v10 v96 v97 : AV) (h : Heap) : OX :=
ob (evBin .add v97 (AV.int .i64 1)) fun v108 =>
(q5_L2 v3 v10 v96 v108 h)
noncomputable def q5_3k (s : St) : OX := q5_3 (s 3) (s 10) (s 96) (s 97) s.h
theorem q5_3_eq (s : St) : W E 0 c_q5_3 s q5_L2k (exitTo 6 q5_1k xN) (finP [.t 2]) = q5_3k s :=
  by kernel_rfl
noncomputable def q5_4 (v3 v10 v96 v97 : AV) (h : Heap) : OX :=
ob (evIxs 1 v3 v97) fun v102 =>
ob (evLd false 1 v102 h) fun v103 =>
cnd v103
 (oh (buildSC 0 (some 5) 1 1 [(.int .i64 0)] [(0, v97)] h) fun v106 h1 =>
oh (evApp 0 (some 6) 1 8 v10 v106 h1) fun v107 h2 =>
(q5_3 v3 v107 v96 v97 h2))
 ((q5_3 v3 v10 v96 v97 h))
noncomputable def q5_4k (s : St) : OX := q5_4 (s 3) (s 10) (s 96) (s 97) s.h
theorem q5_4_eq (s : St) : W E 0 c_q5_4 s q5_L2k (exitTo 6 q5_1k xN) (finP [.t 2]) = q5_4k s :=
  (W_seq (k := q5_3k) (fun s => q5_3_eq s)).trans (by kernel_rfl)
noncomputable def q5_5 (v3 v10 v96 v97 v98 : AV) (h : Heap) : OX :=
cnd v98
 ((q5_4 v3 v10 v96 v97 h))
 ((q5_1 v10 h))
noncomputable def q5_5k (s : St) : OX := q5_5 (s 3) (s 10) (s 96) (s 97) (s 98) s.h
theorem q5_5_eq (s : St) : W E 0 c_q5_5 s q5_L2k (exitTo 6 q5_1k xN) (finP [.t 2]) = q5_5k s :=
  (W_seq (k := q5_4k) (fun s => q5_4_eq s)).trans (by kernel_rfl)
noncomputable def q5_6 (v3 v10 v96 v97 : AV) (h : Heap) : OX :=
ob (evBin .lss v97 v96) fun v98 =>
(q5_5 v3 v10 v96 v97 v98 h)
noncomputable def q5_6k (s : St) : OX := q5_6 (s 3) (s 10) (s 96) (s 97) s.h
theorem q5_6_eq (s : St) : W E 0 c_q5_6 s q5_L2k (exitTo 6 q5_1k xN) (finP [.t 2]) = q5_6k s :=
  (W_seq (k := q5_5k) (fun s => q5_5_eq s)).trans (by kernel_rfl)
theorem q5_L2_go (v3 v10 v96 v97 : AV) (h : Heap) : q5_L2 v3 v10 v96 v97 h = (q5_6 v3 v10 v96 v97 h) :=
  W_loop.trans ((W_congr _ _ _ (n' := q5_L2k) (fun s => q5_L2_eq s)).trans ((q5_6_eq _).trans (by kernel_rfl)))
theorem q5_7_eq (s : St) : W E 0 c_q5_7 s q5_1k xN (finP [.t 2]) = q5_L2k s :=
  W_block.trans (q5_L2_eq s)
noncomputable def q5_8 (v1 v3 v10 : AV) (h : Heap) : OX :=
ob (evFa 3 v1) fun v94 =>
ob (evLd false 1 v94 h) fun v95 =>
ob (evLen 1 v95 h) fun v96 =>
(q5_L2 v3 v10 v96 (AV.int .i64 0) h)
noncomputable def q5_8k (s : St) : OX := q5_8 (s 1) (s 3) (s 10) s.h
theorem q5_8_eq (s : St) : W E 0 c_q5_8 s q5_1k xN (finP [.t 2]) = q5_8k s :=
  (W_seq (k := q5_L2k) (fun s => q5_7_eq s)).trans (by kernel_rfl)
theorem q5_9_eq (s : St) : W E 0 c_q5_9 s (finP [.t 2]) xN (finP [.t 2]) = q5_8k s :=
  (W_seq (k := q5_1k) (fun s => q5_1_eq s)).trans (q5_8_eq s)
noncomputable def q5_10 (v1 v3 : AV) (h : Heap) : OX :=
(q5_8 v1 v3 AV.nils h)
noncomputable def q5_10k (s : St) : OX := q5_10 (s 1) (s 3) s.h
theorem q5_10_eq (s : St) : W E 0 c_q5_10 s (finP [.t 2]) xN (finP [.t 2]) = q5_10k s :=
  (W_seq (k := q5_8k) (fun s => q5_9_eq s)).trans (by kernel_rfl)
noncomputable def q5_L11 (v1 v3 v62 v63 v64 : AV) (h : Heap) : OX :=
  W E 0 c_q5_L11 ⟨[(1, v1), (3, v3), (62, v62), (63, v63), (64, v64)], h⟩ q5_10k (exitTo 2 q5_10k xN) (finP [.t 2])
noncomputable def q5_L11k (s : St) : OX := q5_L11 (s 1) (s 3) (s 62) (s 63) (s 64) s.h
theorem q5_L11_eq (s : St) : W E 0 c_q5_L11 s q5_10k (exitTo 2 q5_10k xN) (finP [.t 2]) = q5_L11k s := W_loop_live.trans (by kernel_rfl)
noncomputable def q5_12 (v1 v3 v62 v63 v64 : AV) (h : Heap) : OX :=
ob (evBin .add v64 (AV.int .i64 1)) fun v93 =>
(q5_L11 v1 v3 v62 v63 v93 h)
noncomputable def q5_12k (s : St) : OX := q5_12 (s 1) (s 3) (s 62) (s 63) (s 64) s.h
theorem q5_12_eq (s : St) : W E 0 c_q5_12 s q5_L11k (exitTo 2 q5_10k xN) (finP [.t 2]) = q5_12k s :=
  by kernel_rfl
noncomputable def q5_L13 (v1 v3 v62 v63 v64 v74 v75 v76 : AV) (h : Heap) : OX :=
  W E 0 c_q5_L13 ⟨[(1, v1), (3, v3), (62, v62), (63, v63), (64, v64), (74, v74), (75, v75), (76, v76)], h⟩ q5_12k (exitTo 4 q5_12k (exitTo 3 q5_12k (exitTo 2 q5_10k xN))) (finP [.t 2])
noncomputable def q5_L13k (s : St) : OX := q5_L13 (s 1) (s 3) (s 62) (s 63) (s 64) (s 74) (s 75) (s 76) s.h
theorem q5_L13_eq (s : St) : W E 0 c_q5_L13 s q5_12k (exitTo 4 q5_12k (exitTo 3 q5_12k (exitTo 2 q5_10k xN))) (finP [.t 2]) = q5_L13k s := W_loop_live.trans (by kernel_rfl)
noncomputable def q5_14 (v1 v3 v62 v63 v64 v74 v75 v76 : AV) (h : Heap) : OX :=
ob (evBin .add v76 (AV.int .i64 1)) fun v92 =>
(q5_L13 v1 v3 v62 v63 v64 v74 v75 v92 h)
noncomputable def q5_14k (s : St) : OX := q5_14 (s 1) (s 3) (s 62) (s 63) (s 64) (s 74) (s 75) (s 76) s.h
theorem q5_14_eq (s : St) : W E 0 c_q5_14 s q5_L13k (exitTo 4 q5_12k (exitTo 3 q5_12k (exitTo 2 q5_10k xN))) (finP [.t 2]) = q5_14k s :=
  by kernel_rfl
noncomputable def q5_15 (v1 v3 v62 v63 v64 v74 v75 v76 : AV) (h : Heap) : OX :=
ob (evIxs 1 v74 v76) fun v78 =>
ob (evLd false 1 v78 h) fun v79 =>
ob (evBin .geq v79 (AV.int .i64 0)) fun v81 =>
gb v81 true (some v79) fun v83 =>
gb v81 true (evFa 3 v1) fun v84 =>
gb v81 true (evLd false 1 v84 h) fun v85 =>
gb v81 true (evLen 1 v85 h) fun v86 =>
gb v81 true (evBin .lss v83 v86) fun v87 =>
ob (evPick v81 v87 (AV.bool false)) fun v88 =>
cnd v88
 (ob (evIxs 1 v3 v79) fun v91 =>
oh (evSt 1 v91 (AV.bool true) h) fun _ h3 =>
(q5_14 v1 v3 v62 v63 v64 v74 v75 v76 h3))
 ((q5_14 v1 v3 v62 v63 v64 v74 v75 v76 h))
noncomputable def q5_15k (s : St) : OX := q5_15 (s 1) (s 3) (s 62) (s 63) (s 64) (s 74) (s 75) (s 76) s.h
theorem q5_15_eq (s : St) : W E 0 c_q5_15 s q5_L13k (exitTo 4 q5_12k (exitTo 3 q5_12k (exitTo 2 q5_10k xN))) (finP [.t 2]) = q5_15k s :=
  (W_seq (k := q5_14k) (fun s => q5_14_eq s)).trans (by kernel_rfl)
noncomputable def q5_16 (v1 v3 v62 v63 v64 v74 v75 v76 v77 : AV) (h : Heap) : OX :=
cnd v77
 ((q5_15 v1 v3 v62 v63 v64 v74 v75 v76 h))
 ((q5_12 v1 v3 v62 v63 v64 h))
noncomputable def q5_16k (s : St) : OX := q5_16 (s 1) (s 3) (s 62) (s 63) (s 64) (s 74) (s 75) (s 76) (s 77) s.h
theorem q5_16_eq (s : St) : W E 0 c_q5_16 s q5_L13k (exitTo 4 q5_12k (exitTo 3 q5_12k (exitTo 2 q5_10k xN))) (finP [.t 2]) = q5_16k s :=
  (W_seq (k := q5_15k) (fun s => q5_15_eq s)).trans (by kernel_rfl)
noncomputable def q5_17 (v1 v3 v62 v63 v64 v74 v75 v76 : AV) (h : Heap) : OX :=
ob (evBin .lss v76 v75) fun v77 =>
(q5_16 v1 v3 v62 v63 v64 v74 v75 v76 v77 h)
noncomputable def q5_17k (s : St) : OX := q5_17 (s 1) (s 3) (s 62) (s 63) (s 64) (s 74) (s 75) (s 76) s.h
theorem q5_17_eq (s : St) : W E 0 c_q5_17 s q5_L13k (exitTo 4 q5_12k (exitTo 3 q5_12k (exitTo 2 q5_10k xN))) (finP [.t 2]) = q5_17k s :=
  (W_seq (k := q5_16k) (fun s => q5_16_eq s)).trans (by kernel_rfl)
theorem q5_L13_go (v1 v3 v62 v63 v64 v74 v75 v76 : AV) (h : Heap) : q5_L13 v1 v3 v62 v63 v64 v74 v75 v76 h = (q5_17 v1 v3 v62 v63 v64 v74 v75 v76 h) :=
  W_loop.trans ((W_congr _ _ _ (n' := q5_L13k) (fun s => q5_L13_eq s)).trans ((q5_17_eq _).trans (by kernel_rfl)))
theorem q5_18_eq (s : St) : W E 0 c_q5_18 s q5_12k (exitTo 3 q5_12k (exitTo 2 q5_10k xN)) (finP [.t 2]) = q5_L13k s :=
  W_block.trans (q5_L13_eq s)
noncomputable def q5_19 (v1 v3 v7 v62 v63 v64 : AV) (h : Heap) : OX :=
ob (evFa 0 v7) fun v68 =>
ob (evLd false 1 v68 h) fun v69 =>
ob (evFa 1 v7) fun v70 =>
ob (evLd false 1 v70 h) fun v71 =>
ob (evFa 2 v7) fun v72 =>
ob (evLd false 1 v72 h) fun v73 =>
oh (buildSC 0 (some 4) 1 3 [(.int .i64 0)] [(0, v69), (1, v71), (2, v73)] h) fun v74 h4 =>
ob (evLen 1 v74 h4) fun v75 =>
(q5_L13 v1 v3 v62 v63 v64 v74 v75 (AV.int .i64 0) h4)
noncomputable def q5_19k (s : St) : OX := q5_19 (s 1) (s 3) (s 7) (s 62) (s 63) (s 64) s.h
theorem q5_19_eq (s : St) : W E 0 c_q5_19 s q5_12k (exitTo 3 q5_12k (exitTo 2 q5_10k xN)) (finP [.t 2]) = q5_19k s :=
  (W_seq (k := q5_L13k) (fun s => q5_18_eq s)).trans (by kernel_rfl)
noncomputable def q5_20 (v1 v3 v62 v63 v64 : AV) (h : Heap) : OX :=
ob (evIxs 4 v62 v64) fun v66 =>
ob (evLd true 4 v66 h) fun v67 =>
oh (newC 0 (some 3) [(.int .i64 0), (.int .i64 0), (.int .i64 0), (.str [])] h) fun v7 h5 =>
oh (evSt 4 v7 v67 h5) fun _ h6 =>
(q5_19 v1 v3 v7 v62 v63 v64 h6)
noncomputable def q5_20k (s : St) : OX := q5_20 (s 1) (s 3) (s 62) (s 63) (s 64) s.h
theorem q5_20_eq (s : St) : W E 0 c_q5_20 s q5_12k (exitTo 3 q5_12k (exitTo 2 q5_10k xN)) (finP [.t 2]) = q5_20k s :=
  (W_seq (k := q5_19k) (fun s => q5_19_eq s)).trans (by kernel_rfl)
theorem q5_21_eq (s : St) : W E 0 c_q5_21 s q5_12k (exitTo 2 q5_10k xN) (finP [.t 2]) = q5_20k s :=
  W_block.trans (q5_20_eq s)
theorem q5_22_eq (s : St) : W E 0 c_q5_22 s q5_L11k (exitTo 2 q5_10k xN) (finP [.t 2]) = q5_20k s :=
  (W_seq (k := q5_12k) (fun s => q5_12_eq s)).trans (q5_21_eq s)
noncomputable def q5_23 (v1 v3 v62 v63 v64 v65 : AV) (h : Heap) : OX :=
cnd v65
 ((q5_20 v1 v3 v62 v63 v64 h))
 ((q5_10 v1 v3 h))
noncomputable def q5_23k (s : St) : OX := q5_23 (s 1) (s 3) (s 62) (s 63) (s 64) (s 65) s.h
theorem q5_23_eq (s : St) : W E 0 c_q5_23 s q5_L11k (exitTo 2 q5_10k xN) (finP [.t 2]) = q5_23k s :=
  (W_seq (k := q5_20k) (fun s => q5_22_eq s)).trans (by kernel_rfl)
noncomputable def q5_24 (v1 v3 v62 v63 v64 : AV) (h : Heap) : OX :=
ob (evBin .lss v64 v63) fun v65 =>
(q5_23 v1 v3 v62 v63 v64 v65 h)
noncomputable def q5_24k (s : St) : OX := q5_24 (s 1) (s 3) (s 62) (s 63) (s 64) s.h
theorem q5_24_eq (s : St) : W E 0 c_q5_24 s q5_L11k (exitTo 2 q5_10k xN) (finP [.t 2]) = q5_24k s :=
  (W_seq (k := q5_23k) (fun s => q5_23_eq s)).trans (by kernel_rfl)
theorem q5_L11_go (v1 v3 v62 v63 v64 : AV) (h : Heap) : q5_L11 v1 v3 v62 v63 v64 h = (q5_24 v1 v3 v62 v63 v64 h) :=
  W_loop.trans ((W_congr _ _ _ (n' := q5_L11k) (fun s => q5_L11_eq s)).trans ((q5_24_eq _).trans (by kernel_rfl)))
theorem q5_25_eq (s : St) : W E 0 c_q5_25 s q5_10k xN (finP [.t 2]) = q5_L11k s :=
  W_block.trans (q5_L11_eq s)
noncomputable def q5_26 (v1 v3 : AV) (h : Heap) : OX :=
ob (evFa 4 v1) fun v61 =>
ob (evLd false 1 v61 h) fun v62 =>
ob (evLen 1 v62 h) fun v63 =>
(q5_L11 v1 v3 v62 v63 (AV.int .i64 0) h)
noncomputable def q5_26k (s : St) : OX := q5_26 (s 1) (s 3) s.h
theorem q5_26_eq (s : St) : W E 0 c_q5_26 s q5_10k xN (finP [.t 2]) = q5_26k s :=
  (W_seq (k := q5_L11k) (fun s => q5_25_eq s)).trans (by kernel_rfl)
theorem q5_27_eq (s : St) : W E 0 c_q5_27 s (finP [.t 2]) xN (finP [.t 2]) = q5_26k s :=
  (W_seq (k := q5_10k) (fun s => q5_10_eq s)).trans (q5_26_eq s)
noncomputable def q5_L28 (v1 v3 v24 v25 v26 : AV) (h : Heap) : OX :=
  W E 0 c_q5_L28 ⟨[(1, v1), (3, v3), (24, v24), (25, v25), (26, v26)], h⟩ q5_26k (exitTo 0 q5_26k xN) (finP [.t 2])
noncomputable def q5_L28k (s : St) : OX := q5_L28 (s 1) (s 3) (s 24) (s 25) (s 26) s.h
theorem q5_L28_eq (s : St) : W E 0 c_q5_L28 s q5_26k (exitTo 0 q5_26k xN) (finP [.t 2]) = q5_L28k s := W_loop_live.trans (by kernel_rfl)
noncomputable def q5_29 (v1 v3 v24 v25 v26 : AV) (h : Heap) : OX :=
ob (evBin .add v26 (AV.int .i64 1)) fun v60 =>
(q5_L28 v1 v3 v24 v25 v60 h)
noncomputable def q5_29k (s : St) : OX := q5_29 (s 1) (s 3) (s 24) (s 25) (s 26) s.h
theorem q5_29_eq (s : St) : W E 0 c_q5_29 s q5_L28k (exitTo 0 q5_26k xN) (finP [.t 2]) = q5_29k s :=
  by kernel_rfl
noncomputable def q5_30 (v1 v3 v4 v5 v24 v25 v26 : AV) (h : Heap) : OX :=
ob (evLd true 9 v5 h) fun v50 =>
oh (callAny E (callW E) 0 none true 22 [v50] h) fun v51 h7 =>
gb v51 false (evLd true 9 v5 h7) fun v53 =>
gh v51 false (callAny E (callW E) 0 none true 24 [v53] h7) h7 fun v54 h8 =>
ob (evPick v51 (AV.bool true) v54) fun v55 =>
cnd v55
 (ob (evBin .add v4 (AV.int .i64 1)) fun v58 =>
ob (evIxs 1 v3 v58) fun v59 =>
oh (evSt 1 v59 (AV.bool true) h8) fun _ h9 =>
(q5_29 v1 v3 v24 v25 v26 h9))
 ((q5_29 v1 v3 v24 v25 v26 h8))
noncomputable def q5_30k (s : St) : OX := q5_30 (s 1) (s 3) (s 4) (s 5) (s 24) (s 25) (s 26) s.h
theorem q5_30_eq (s : St) : W E 0 c_q5_30 s q5_29k (exitTo 1 q5_29k (exitTo 0 q5_26k xN)) (finP [.t 2]) = q5_30k s :=
  by kernel_rfl
noncomputable def q5_31 (v1 v3 v4 v5 v24 v25 v26 : AV) (h : Heap) : OX :=
ob (evLd true 9 v5 h) fun v31 =>
oh (callAny E (callW E) 0 none true 22 [v31] h) fun v32 h10 =>
gb v32 true (evFa 6 v5) fun v34 =>
gb v32 true (evLd false 1 v34 h10) fun v35 =>
gb v32 true (evBin .geq v35 (AV.int .i64 0)) fun v36 =>
ob (evPick v32 v36 (AV.bool false)) fun v37 =>
gb v37 true (evFa 6 v5) fun v39 =>
gb v37 true (evLd false 1 v39 h10) fun v40 =>
gb v37 true (evFa 3 v1) fun v41 =>
gb v37 true (evLd false 1 v41 h10) fun v42 =>
gb v37 true (evLen 1 v42 h10) fun v43 =>
gb v37 true (evBin .lss v40 v43) fun v44 =>
ob (evPick v37 v44 (AV.bool false)) fun v45 =>
cnd v45
 (ob (evFa 6 v5) fun v47 =>
ob (evLd false 1 v47 h10) fun v48 =>
ob (evIxs 1 v3 v48) fun v49 =>
oh (evSt 1 v49 (AV.bool true) h10) fun _ h11 =>
(q5_30 v1 v3 v4 v5 v24 v25 v26 h11))
 ((q5_30 v1 v3 v4 v5 v24 v25 v26 h10))
noncomputable def q5_31k (s : St) : OX := q5_31 (s 1) (s 3) (s 4) (s 5) (s 24) (s 25) (s 26) s.h
theorem q5_31_eq (s : St) : W E 0 c_q5_31 s q5_29k (exitTo 1 q5_29k (exitTo 0 q5_26k xN)) (finP [.t 2]) = q5_31k s :=
  (W_seq (k := q5_30k) (fun s => q5_30_eq s)).trans (by kernel_rfl)
noncomputable def q5_32 (v1 v3 v24 v25 v26 : AV) (h : Heap) : OX :=
ob (evIxs 9 v24 v26) fun v29 =>
ob (evLd true 9 v29 h) fun v30 =>
oh (newC 0 (some 2) [(.int .i64 0), (.int .i64 0), (.int .i64 0), (.int .i64 0), (.int .i64 0), (.int .i64 0), (.int .i64 0), (.str []), .nils] h) fun v5 h12 =>
oh (evSt 9 v5 v30 h12) fun _ h13 =>
(q5_31 v1 v3 v26 v5 v24 v25 v26 h13)
noncomputable def q5_32k (s : St) : OX := q5_32 (s 1) (s 3) (s 24) (s 25) (s 26) s.h
theorem q5_32_eq (s : St) : W E 0 c_q5_32 s q5_29k (exitTo 1 q5_29k (exitTo 0 q5_26k xN)) (finP [.t 2]) = q5_32k s :=
  (W_seq (k := q5_31k) (fun s => q5_31_eq s)).trans (by kernel_rfl)
theorem q5_33_eq (s : St) : W E 0 c_q5_33 s q5_29k (exitTo 0 q5_26k xN) (finP [.t 2]) = q5_32k s :=
  W_block.trans (q5_32_eq s)
theorem q5_34_eq (s : St) : W E 0 c_q5_34 s q5_L28k (exitTo 0 q5_26k xN) (finP [.t 2]) = q5_32k s :=
  (W_seq (k := q5_29k) (fun s => q5_29_eq s)).trans (q5_33_eq s)
noncomputable def q5_35 (v1 v3 v24 v25 v26 v27 : AV) (h : Heap) : OX :=
cnd v27
 ((q5_32 v1 v3 v24 v25 v26 h))
 ((q5_26 v1 v3 h))
noncomputable def q5_35k (s : St) : OX := q5_35 (s 1) (s 3) (s 24) (s 25) (s 26) (s 27) s.h
theorem q5_35_eq (s : St) : W E 0 c_q5_35 s q5_L28k (exitTo 0 q5_26k xN) (finP [.t 2]) = q5_35k s :=
  (W_seq (k := q5_32k) (fun s => q5_34_eq s)).trans (by kernel_rfl)
noncomputable def q5_36 (v1 v3 v24 v25 v26 : AV) (h : Heap) : OX :=
ob (evBin .lss v26 v25) fun v27 =>
(q5_35 v1 v3 v24 v25 v26 v27 h)
noncomputable def q5_36k (s : St) : OX := q5_36 (s 1) (s 3) (s 24) (s 25) (s 26) s.h
theorem q5_36_eq (s : St) : W E 0 c_q5_36 s q5_L28k (exitTo 0 q5_26k xN) (finP [.t 2]) = q5_36k s :=
  (W_seq (k := q5_35k) (fun s => q5_35_eq s)).trans (by kernel_rfl)
theorem q5_L28_go (v1 v3 v24 v25 v26 : AV) (h : Heap) : q5_L28 v1 v3 v24 v25 v26 h = (q5_36 v1 v3 v24 v25 v26 h) :=
  W_loop.trans ((W_congr _ _ _ (n' := q5_L28k) (fun s => q5_L28_eq s)).trans ((q5_36_eq _).trans (by kernel_rfl)))
theorem q5_37_eq (s : St) : W E 0 c_q5_37 s q5_26k xN (finP [.t 2]) = q5_L28k s :=
  W_block.trans (q5_L28_eq s)
noncomputable def q5_38 (v1 v3 : AV) (h : Heap) : OX :=
ob (evFa 3 v1) fun v23 =>
ob (evLd false 1 v23 h) fun v24 =>
ob (evLen 1 v24 h) fun v25 =>
(q5_L28 v1 v3 v24 v25 (AV.int .i64 0) h)
noncomputable def q5_38k (s : St) : OX := q5_38 (s 1) (s 3) s.h
theorem q5_38_eq (s : St) : W E 0 c_q5_38 s q5_26k xN (finP [.t 2]) = q5_38k s :=
  (W_seq (k := q5_L28k) (fun s => q5_37_eq s)).trans (by kernel_rfl)
theorem q5_39_eq (s : St) : W E 0 c_q5_39 s (finP [.t 2]) xN (finP [.t 2]) = q5_38k s :=
  (W_seq (k := q5_26k) (fun s => q5_27_eq s)).trans (q5_38_eq s)
noncomputable def q5_40 (v1 v3 : AV) (h : Heap) : OX :=
ob (evFa 3 v1) fun v17 =>
ob (evLd false 1 v17 h) fun v18 =>
ob (evLen 1 v18 h) fun v19 =>
ob (evBin .gtr v19 (AV.int .i64 0)) fun v20 =>
cnd v20
 (ob (evIxs 1 v3 (AV.int .i64 0)) fun v22 =>
oh (evSt 1 v22 (AV.bool true) h) fun _ h14 =>
(q5_38 v1 v3 h14))
 ((q5_38 v1 v3 h))
noncomputable def q5_40k (s : St) : OX := q5_40 (s 1) (s 3) s.h
theorem q5_40_eq (s : St) : W E 0 c_q5_40 s (finP [.t 2]) xN (finP [.t 2]) = q5_40k s :=
  (W_seq (k := q5_38k) (fun s => q5_39_eq s)).trans (by kernel_rfl)
noncomputable def q5_41 (v1 : AV) (h : Heap) : OX :=
ob (evFa 3 v1) fun v12 =>
ob (evLd false 1 v12 h) fun v13 =>
ob (evLen 1 v13 h) fun v14 =>
ob (evBin .add v14 (AV.int .i64 1)) fun v15 =>
oh (mkSC 0 (some 1) 1 1 [(.bool false)] v15 v15 h) fun v16 h15 =>
(q5_40 v1 v16 h15)
noncomputable def q5_41k (s : St) : OX := q5_41 (s 1) s.h
theorem q5_41_eq (s : St) : W E 0 c_q5_41 s (finP [.t 2]) xN (finP [.t 2]) = q5_41k s :=
  (W_seq (k := q5_40k) (fun s => q5_40_eq s)).trans (by kernel_rfl)
noncomputable def q5_42 (v0 : AV) (h : Heap) : OX :=
oh (newC 0 (some 0) (cellsOf v0) h) fun v1 h16 =>
(q5_41 v1 h16)
noncomputable def q5_42k (s : St) : OX := q5_42 (s 0) s.h
theorem q5_42_eq (s : St) : W E 0 c_q5_42 s (finP [.t 2]) xN (finP [.t 2]) = q5_42k s :=
  (W_seq (k := q5_41k) (fun s => q5_41_eq s)).trans (by kernel_rfl)
@[simp] theorem pure_102 : E.pure 102 = true := rfl
theorem x_q5 (v0 : AV) : (callW E).p 102 [v0] = q5_42 v0 [⟨0, .dead⟩, ⟨0, .dead⟩, ⟨0, .dead⟩, ⟨0, .dead⟩, ⟨0, .dead⟩, ⟨0, .dead⟩, ⟨0, .dead⟩] :=
  (callP_W (cf := c_q5) (by kernel_rfl) rfl).trans ((q5_42_eq _).trans (by kernel_rfl))
@[simp] theorem pure_100 : E.pure 100 = true := rfl
noncomputable def q60_1 (h : Heap) : OX :=
(expo1 h (AV.int .i64 0))
noncomputable def q60_1k (s : St) : OX := q60_1 s.h
theorem q60_1_eq (s : St) : W E 0 c_q60_1 s (finP [.t 2]) xN (finP [.t 2]) = q60_1k s :=
  by kernel_rfl
noncomputable def q60_L2 (v1 v3 v8 : AV) (h : Heap) : OX :=
  W E 0 c_q60_L2 ⟨[(1, v1), (3, v3), (8, v8)], h⟩ q60_1k (exitTo 6 q60_1k xN) (finP [.t 2])
noncomputable def q60_L2k (s : St) : OX := q60_L2 (s 1) (s 3) (s 8) s.h
theorem q60_L2_eq (s : St) : W E 0 c_q60_L2 s q60_1k (exitTo 6 q60_1k xN) (finP [.t 2]) = q60_L2k s := W_loop_live.trans (by kernel_rfl)
noncomputable def q60_3 (v1 v3 v8 : AV) (h : Heap) : OX :=
ob (evBin .add v8 (AV.int .i64 1)) fun v155 =>
(q60_L2 v1 v3 v155 h)
noncomputable def q60_3k (s : St) : OX := q60_3 (s 1) (s 3) (s 8) s.h
theorem q60_3_eq (s : St) : W E 0 c_q60_3 s q60_L2k (exitTo 6 q60_1k xN) (finP [.t 2]) = q60_3k s :=
  by kernel_rfl
noncomputable def q60_4 (v1 v3 v8 : AV) (h : Heap) : OX :=
ob (evFa 4 v1) fun v156 =>
ob (evLd false 1 v156 h) fun v157 =>
ob (evIxs 4 v157 v8) fun v159 =>
ob (evLd true 4 v159 h) fun v160 =>
oh (newC 0 (some 2) [(.int .i64 0), (.int .i64 0), (.int .i64 0), (.str [])] h) fun v9 h1 =>
oh (evSt 4 v9 v160 h1) fun _ h2 =>
ob (evFa 0 v9) fun v161 =>
ob (evLd false 1 v161 h2) fun v162 =>
ob (evBin .lss v162 (AV.int .i64 0)) fun v163 =>
gb v163 false (evFa 0 v9) fun v165 =>
gb v163 false (evLd false 1 v165 h2) fun v166 =>
gb v163 false (evFa 1 v9) fun v167 =>
gb v163 false (evLd false 1 v167 h2) fun v168 =>
gb v163 false (evBin .geq v166 v168) fun v169 =>
ob (evPick v163 (AV.bool true) v169) fun v170 =>
gb v170 false (evFa 1 v9) fun v172 =>
gb v170 false (evLd false 1 v172 h2) fun v173 =>
gb v170 false (some v3) fun v174 =>
gb v170 false (evBin .gtr v173 v174) fun v175 =>
ob (evPick v170 (AV.bool true) v175) fun v176 =>
gb v176 false (evLd true 5 v1 h2) fun v178 =>
gb v176 false (evFa 2 v9) fun v179 =>
gb v176 false (evLd false 1 v179 h2) fun v180 =>
gh v176 false (callAny E (callW E) 0 none true 49 [v178, v180] h2) h2 fun v181 h3 =>
gb v176 false (evUn .not v181) fun v182 =>
ob (evPick v176 (AV.bool true) v182) fun v183 =>
gb v183 false (evFa 3 v1) fun v185 =>
gb v183 false (evLd false 1 v185 h3) fun v186 =>
gb v183 false (evFa 2 v9) fun v187 =>
gb v183 false (evLd false 1 v187 h3) fun v188 =>
gb v183 false (evIxs 9 v186 v188) fun v189 =>
gb v183 false (evFa 0 v189) fun v190 =>
gb v183 false (evLd false 1 v190 h3) fun v191 =>
gb v183 false (evBin .neq v191 (AV.int .i64 32)) fun v192 =>
ob (evPick v183 (AV.bool true) v192) fun v193 =>
cnd v193
 ((expo1 h3 (AV.int .i64 80)))
 ((q60_3 v1 v3 v8 h3))
noncomputable def q60_4k (s : St) : OX := q60_4 (s 1) (s 3) (s 8) s.h
theorem q60_4_eq (s : St) : W E 0 c_q60_4 s q60_L2k (exitTo 6 q60_1k xN) (finP [.t 2]) = q60_4k s :=
  (W_seq (k := q60_3k) (fun s => q60_3_eq s)).trans (by kernel_rfl)
noncomputable def q60_5 (v1 v3 v8 : AV) (h : Heap) : OX :=
ob (evFa 4 v1) fun v150 =>
ob (evLd false 1 v150 h) fun v151 =>
ob (evLen 1 v151 h) fun v152 =>
ob (evBin .lss v8 v152) fun v153 =>
cnd v153
 ((q60_4 v1 v3 v8 h))
 ((q60_1 h))
noncomputable def q60_5k (s : St) : OX := q60_5 (s 1) (s 3) (s 8) s.h
theorem q60_5_eq (s : St) : W E 0 c_q60_5 s q60_L2k (exitTo 6 q60_1k xN) (finP [.t 2]) = q60_5k s :=
  (W_seq (k := q60_4k) (fun s => q60_4_eq s)).trans (by kernel_rfl)
theorem q60_L2_go (v1 v3 v8 : AV) (h : Heap) : q60_L2 v1 v3 v8 h = (q60_5 v1 v3 v8 h) :=
  W_loop.trans ((W_congr _ _ _ (n' := q60_L2k) (fun s => q60_L2_eq s)).trans ((q60_5_eq _).trans (by kernel_rfl)))
theorem q60_6_eq (s : St) : W E 0 c_q60_6 s q60_1k xN (finP [.t 2]) = q60_L2k s :=
  W_block.trans (q60_L2_eq s)
noncomputable def q60_7 (v1 v3 : AV) (h : Heap) : OX :=
(q60_L2 v1 v3 (AV.int .i64 0) h)
noncomputable def q60_7k (s : St) : OX := q60_7 (s 1) (s 3) s.h
theorem q60_7_eq (s : St) : W E 0 c_q60_7 s q60_1k xN (finP [.t 2]) = q60_7k s :=
  (W_seq (k := q60_L2k) (fun s => q60_6_eq s)).trans (by kernel_rfl)
theorem q60_8_eq (s : St) : W E 0 c_q60_8 s (finP [.t 2]) xN (finP [.t 2]) = q60_7k s :=
  (W_seq (k := q60_1k) (fun s => q60_1_eq s)).trans (q60_7_eq s)
noncomputable def q60_L9 (v1 v3 v6 : AV) (h : Heap) : OX :=
  W E 0 c_q60_L9 ⟨[(1, v1), (3, v3), (6, v6)], h⟩ q60_7k (exitTo 4 q60_7k xN) (finP [.t 2])
noncomputable def q60_L9k (s : St) : OX := q60_L9 (s 1) (s 3) (s 6) s.h
theorem q60_L9_eq (s : St) : W E 0 c_q60_L9 s q60_7k (exitTo 4 q60_7k xN) (finP [.t 2]) = q60_L9k s := W_loop_live.trans (by kernel_rfl)
noncomputable def q60_10 (v1 v3 v6 : AV) (h : Heap) : OX :=
ob (evBin .add v6 (AV.int .i64 1)) fun v104 =>
(q60_L9 v1 v3 v104 h)
noncomputable def q60_10k (s : St) : OX := q60_10 (s 1) (s 3) (s 6) s.h
theorem q60_10_eq (s : St) : W E 0 c_q60_10 s q60_L9k (exitTo 4 q60_7k xN) (finP [.t 2]) = q60_10k s :=
  by kernel_rfl
noncomputable def q60_11 (v1 v3 v6 : AV) (h : Heap) : OX :=
ob (evFa 3 v1) fun v105 =>
ob (evLd false 1 v105 h) fun v106 =>
ob (evIxs 9 v106 v6) fun v108 =>
ob (evLd true 9 v108 h) fun v109 =>
oh (newC 0 (some 1) [(.int .i64 0), (.int .i64 0), (.int .i64 0), (.int .i64 0), (.int .i64 0), (.int .i64 0), (.int .i64 0), (.str []), .nils] h) fun v7 h4 =>
oh (evSt 9 v7 v109 h4) fun _ h5 =>
ob (evLd true 5 v1 h5) fun v110 =>
ob (evLd true 9 v7 h5) fun v111 =>
oh (callAny E (callW E) 0 none true 64 [v110, v111] h5) fun v112 h6 =>
ob (evUn .not v112) fun v113 =>
gb v113 false (evFa 0 v7) fun v115 =>
gb v113 false (evLd false 1 v115 h6) fun v116 =>
gb v113 false (evBin .eql v116 (AV.int .i64 32)) fun v117 =>
gb v113 false (some v117) fun v118 =>
gb v118 true (some v6) fun v119 =>
gb v118 true (evBin .eql v119 (AV.int .i64 0)) fun v120 =>
gb v118 true (some v120) fun v121 =>
gb v121 false (evFa 3 v1) fun v122 =>
gb v121 false (evLd false 1 v122 h6) fun v123 =>
gb v121 false (some v6) fun v124 =>
gb v121 false (evBin .sub v124 (AV.int .i64 1)) fun v125 =>
gb v121 false (evIxs 9 v123 v125) fun v126 =>
gb v121 false (evFa 0 v126) fun v127 =>
gb v121 false (evLd false 1 v127 h6) fun v128 =>
gh v121 false (callAny E (callW E) 0 none true 25 [v128] h6) h6 fun v129 h7 =>
gb v121 false (evUn .not v129) fun v130 =>
gb v118 true (evPick v121 (AV.bool true) v130) fun v131 =>
gb v113 false (evPick v118 v131 (AV.bool false)) fun v132 =>
ob (evPick v113 (AV.bool true) v132) fun v133 =>
gb v133 false (evFa 0 v7) fun v135 =>
gb v133 false (evLd false 1 v135 h7) fun v136 =>
gh v133 false (callAny E (callW E) 0 none true 23 [v136] h7) h7 fun v137 h8 =>
gb v133 false (some v137) fun v138 =>
gb v138 true (evFa 3 v1) fun v139 =>
gb v138 true (evLd false 1 v139 h8) fun v140 =>
gb v138 true (evFa 6 v7) fun v141 =>
gb v138 true (evLd false 1 v141 h8) fun v142 =>
gb v138 true (evIxs 9 v140 v142) fun v143 =>
gb v138 true (evFa 0 v143) fun v144 =>
gb v138 true (evLd false 1 v144 h8) fun v145 =>
gb v138 true (evBin .eql v145 (AV.int .i64 32)) fun v146 =>
gb v133 false (evPick v138 v146 (AV.bool false)) fun v147 =>
ob (evPick v133 (AV.bool true) v147) fun v148 =>
cnd v148
 ((expo1 h8 (AV.int .i64 80)))
 ((q60_10 v1 v3 v6 h8))
noncomputable def q60_11k (s : St) : OX := q60_11 (s 1) (s 3) (s 6) s.h
theorem q60_11_eq (s : St) : W E 0 c_q60_11 s q60_L9k (exitTo 4 q60_7k xN) (finP [.t 2]) = q60_11k s :=
  (W_seq (k := q60_10k) (fun s => q60_10_eq s)).trans (by kernel_rfl)
noncomputable def q60_12 (v1 v3 v6 : AV) (h : Heap) : OX :=
ob (evBin .lss v6 v3) fun v102 =>
cnd v102
 ((q60_11 v1 v3 v6 h))
 ((q60_7 v1 v3 h))
noncomputable def q60_12k (s : St) : OX := q60_12 (s 1) (s 3) (s 6) s.h
theorem q60_12_eq (s : St) : W E 0 c_q60_12 s q60_L9k (exitTo 4 q60_7k xN) (finP [.t 2]) = q60_12k s :=
  (W_seq (k := q60_11k) (fun s => q60_11_eq s)).trans (by kernel_rfl)
theorem q60_L9_go (v1 v3 v6 : AV) (h : Heap) : q60_L9 v1 v3 v6 h = (q60_12 v1 v3 v6 h) :=
  W_loop.trans ((W_congr _ _ _ (n' := q60_L9k) (fun s => q60_L9_eq s)).trans ((q60_12_eq _).trans (by kernel_rfl)))
theorem q60_13_eq (s : St) : W E 0 c_q60_13 s q60_7k xN (finP [.t 2]) = q60_L9k s :=
  W_block.trans (q60_L9_eq s)
noncomputable def q60_14 (v1 v3 : AV) (h : Heap) : OX :=
(q60_L9 v1 v3 (AV.int .i64 0) h)
noncomputable def q60_14k (s : St) : OX := q60_14 (s 1) (s 3) s.h
theorem q60_14_eq (s : St) : W E 0 c_q60_14 s q60_7k xN (finP [.t 2]) = q60_14k s :=
  (W_seq (k := q60_L9k) (fun s => q60_13_eq s)).trans (by kernel_rfl)
theorem q60_15_eq (s : St) : W E 0 c_q60_15 s (finP [.t 2]) xN (finP [.t 2]) = q60_14k s :=
  (W_seq (k := q60_7k) (fun s => q60_8_eq s)).trans (q60_14_eq s)
noncomputable def q60_L16 (v1 v3 v5 : AV) (h : Heap) : OX :=
  W E 0 c_q60_L16 ⟨[(1, v1), (3, v3), (5, v5)], h⟩ q60_14k (exitTo 2 q60_14k xN) (finP [.t 2])
noncomputable def q60_L16k (s : St) : OX := q60_L16 (s 1) (s 3) (s 5) s.h
theorem q60_L16_eq (s : St) : W E 0 c_q60_L16 s q60_14k (exitTo 2 q60_14k xN) (finP [.t 2]) = q60_L16k s := W_loop_live.trans (by kernel_rfl)
noncomputable def q60_17 (v1 v3 v5 : AV) (h : Heap) : OX :=
ob (evBin .add v5 (AV.int .i64 1)) fun v79 =>
(q60_L16 v1 v3 v79 h)
noncomputable def q60_17k (s : St) : OX := q60_17 (s 1) (s 3) (s 5) s.h
theorem q60_17_eq (s : St) : W E 0 c_q60_17 s q60_L16k (exitTo 2 q60_14k xN) (finP [.t 2]) = q60_17k s :=
  by kernel_rfl
noncomputable def q60_18 (v1 v3 v5 : AV) (h : Heap) : OX :=
ob (evLd true 5 v1 h) fun v80 =>
ob (evFa 1 v1) fun v81 =>
ob (evLd false 1 v81 h) fun v82 =>
ob (evIxs 1 v82 v5) fun v84 =>
ob (evLd false 1 v84 h) fun v85 =>
oh (callAny E (callW E) 0 none true 48 [v80, v85] h) fun v86 h9 =>
ob (evBin .eql v86 (AV.int .i64 0)) fun v87 =>
gb v87 false (evFa 1 v1) fun v89 =>
gb v87 false (evLd false 1 v89 h9) fun v90 =>
gb v87 false (some v5) fun v91 =>
gb v87 false (evIxs 1 v90 v91) fun v92 =>
gb v87 false (evLd false 1 v92 h9) fun v93 =>
gb v87 false (evFa 1 v1) fun v94 =>
gb v87 false (evLd false 1 v94 h9) fun v95 =>
gb v87 false (some v5) fun v96 =>
gb v87 false (evSlcO 1 v95 none (some v96)) fun v97 =>
gh v87 false (callAny E (callW E) 0 none true 42 [v93, v97] h9) h9 fun v98 h10 =>
ob (evPick v87 (AV.bool true) v98) fun v99 =>
cnd v99
 ((expo1 h10 (AV.int .i64 80)))
 ((q60_17 v1 v3 v5 h10))
noncomputable def q60_18k (s : St) : OX := q60_18 (s 1) (s 3) (s 5) s.h
theorem q60_18_eq (s : St) : W E 0 c_q60_18 s q60_L16k (exitTo 2 q60_14k xN) (finP [.t 2]) = q60_18k s :=
  (W_seq (k := q60_17k) (fun s => q60_17_eq s)).trans (by kernel_rfl)
noncomputable def q60_19 (v1 v3 v5 : AV) (h : Heap) : OX :=
ob (evFa 1 v1) fun v74 =>
ob (evLd false 1 v74 h) fun v75 =>
ob (evLen 1 v75 h) fun v76 =>
ob (evBin .lss v5 v76) fun v77 =>
cnd v77
 ((q60_18 v1 v3 v5 h))
 ((q60_14 v1 v3 h))
noncomputable def q60_19k (s : St) : OX := q60_19 (s 1) (s 3) (s 5) s.h
theorem q60_19_eq (s : St) : W E 0 c_q60_19 s q60_L16k (exitTo 2 q60_14k xN) (finP [.t 2]) = q60_19k s :=
  (W_seq (k := q60_18k) (fun s => q60_18_eq s)).trans (by kernel_rfl)
theorem q60_L16_go (v1 v3 v5 : AV) (h : Heap) : q60_L16 v1 v3 v5 h = (q60_19 v1 v3 v5 h) :=
  W_loop.trans ((W_congr _ _ _ (n' := q60_L16k) (fun s => q60_L16_eq s)).trans ((q60_19_eq _).trans (by kernel_rfl)))
theorem q60_20_eq (s : St) : W E 0 c_q60_20 s q60_14k xN (finP [.t 2]) = q60_L16k s :=
  W_block.trans (q60_L16_eq s)
noncomputable def q60_21 (v1 v3 : AV) (h : Heap) : OX :=
(q60_L16 v1 v3 (AV.int .i64 0) h)
noncomputable def q60_21k (s : St) : OX := q60_21 (s 1) (s 3) s.h
theorem q60_21_eq (s : St) : W E 0 c_q60_21 s q60_14k xN (finP [.t 2]) = q60_21k s :=
  (W_seq (k := q60_L16k) (fun s => q60_20_eq s)).trans (by kernel_rfl)
theorem q60_22_eq (s : St) : W E 0 c_q60_22 s (finP [.t 2]) xN (finP [.t 2]) = q60_21k s :=
  (W_seq (k := q60_14k) (fun s => q60_15_eq s)).trans (q60_21_eq s)
noncomputable def q60_L23 (v1 v3 v4 : AV) (h : Heap) : OX :=
  W E 0 c_q60_L23 ⟨[(1, v1), (3, v3), (4, v4)], h⟩ q60_21k (exitTo 0 q60_21k xN) (finP [.t 2])
noncomputable def q60_L23k (s : St) : OX := q60_L23 (s 1) (s 3) (s 4) s.h
theorem q60_L23_eq (s : St) : W E 0 c_q60_L23 s q60_21k (exitTo 0 q60_21k xN) (finP [.t 2]) = q60_L23k s := W_loop_live.trans (by kernel_rfl)
noncomputable def q60_24 (v1 v3 v4 : AV) (h : Heap) : OX :=
ob (evBin .add v4 (AV.int .i64 1)) fun v58 =>
(q60_L23 v1 v3 v58 h)
noncomputable def q60_24k (s : St) : OX := q60_24 (s 1) (s 3) (s 4) s.h
theorem q60_24_eq (s : St) : W E 0 c_q60_24 s q60_L23k (exitTo 0 q60_21k xN) (finP [.t 2]) = q60_24k s :=
  by kernel_rfl
noncomputable def q60_25 (v1 v3 v4 : AV) (h : Heap) : OX :=
ob (evFa 0 v1) fun v59 =>
ob (evLd false 1 v59 h) fun v60 =>
ob (evIxs 1 v60 v4) fun v62 =>
ob (evLd false 1 v62 h) fun v63 =>
ob (evBin .lss v63 (AV.int .i64 1)) fun v64 =>
gb v64 false (evFa 0 v1) fun v66 =>
gb v64 false (evLd false 1 v66 h) fun v67 =>
gb v64 false (some v4) fun v68 =>
gb v64 false (evIxs 1 v67 v68) fun v69 =>
gb v64 false (evLd false 1 v69 h) fun v70 =>
gb v64 false (evBin .gtr v70 (AV.int .i64 3)) fun v71 =>
ob (evPick v64 (AV.bool true) v71) fun v72 =>
cnd v72
 ((expo1 h (AV.int .i64 80)))
 ((q60_24 v1 v3 v4 h))
noncomputable def q60_25k (s : St) : OX := q60_25 (s 1) (s 3) (s 4) s.h
theorem q60_25_eq (s : St) : W E 0 c_q60_25 s q60_L23k (exitTo 0 q60_21k xN) (finP [.t 2]) = q60_25k s :=
  (W_seq (k := q60_24k) (fun s => q60_24_eq s)).trans (by kernel_rfl)
noncomputable def q60_26 (v1 v3 v4 : AV) (h : Heap) : OX :=
ob (evFa 0 v1) fun v53 =>
ob (evLd false 1 v53 h) fun v54 =>
ob (evLen 1 v54 h) fun v55 =>
ob (evBin .lss v4 v55) fun v56 =>
cnd v56
 ((q60_25 v1 v3 v4 h))
 ((q60_21 v1 v3 h))
noncomputable def q60_26k (s : St) : OX := q60_26 (s 1) (s 3) (s 4) s.h
theorem q60_26_eq (s : St) : W E 0 c_q60_26 s q60_L23k (exitTo 0 q60_21k xN) (finP [.t 2]) = q60_26k s :=
  (W_seq (k := q60_25k) (fun s => q60_25_eq s)).trans (by kernel_rfl)
theorem q60_L23_go (v1 v3 v4 : AV) (h : Heap) : q60_L23 v1 v3 v4 h = (q60_26 v1 v3 v4 h) :=
  W_loop.trans ((W_congr _ _ _ (n' := q60_L23k) (fun s => q60_L23_eq s)).trans ((q60_26_eq _).trans (by kernel_rfl)))
theorem q60_27_eq (s : St) : W E 0 c_q60_27 s q60_21k xN (finP [.t 2]) = q60_L23k s :=
  W_block.trans (q60_L23_eq s)
noncomputable def q60_28 (v1 v3 : AV) (h : Heap) : OX :=
(q60_L23 v1 v3 (AV.int .i64 0) h)
noncomputable def q60_28k (s : St) : OX := q60_28 (s 1) (s 3) s.h
theorem q60_28_eq (s : St) : W E 0 c_q60_28 s q60_21k xN (finP [.t 2]) = q60_28k s :=
  (W_seq (k := q60_L23k) (fun s => q60_27_eq s)).trans (by kernel_rfl)
theorem q60_29_eq (s : St) : W E 0 c_q60_29 s (finP [.t 2]) xN (finP [.t 2]) = q60_28k s :=
  (W_seq (k := q60_21k) (fun s => q60_22_eq s)).trans (q60_28_eq s)
noncomputable def q60_30 (v1 v3 : AV) (h : Heap) : OX :=
ob (evBin .eql v3 (AV.int .i64 0)) fun v14 =>
gb v14 false (some v3) fun v16 =>
gb v14 false (evBin .gtr v16 (AV.int .i64 20000)) fun v17 =>
ob (evPick v14 (AV.bool true) v17) fun v18 =>
gb v18 false (evFa 0 v1) fun v20 =>
gb v18 false (evLd false 1 v20 h) fun v21 =>
gb v18 false (evLen 1 v21 h) fun v22 =>
gb v18 false (evBin .gtr v22 (AV.int .i64 20000)) fun v23 =>
ob (evPick v18 (AV.bool true) v23) fun v24 =>
gb v24 false (evFa 1 v1) fun v26 =>
gb v24 false (evLd false 1 v26 h) fun v27 =>
gb v24 false (evLen 1 v27 h) fun v28 =>
gb v24 false (evBin .gtr v28 (AV.int .i64 21)) fun v29 =>
ob (evPick v24 (AV.bool true) v29) fun v30 =>
gb v30 false (evFa 2 v1) fun v32 =>
gb v30 false (evLd false 1 v32 h) fun v33 =>
gb v30 false (evBin .lss v33 (AV.int .i64 0)) fun v34 =>
ob (evPick v30 (AV.bool true) v34) fun v35 =>
gb v35 false (evFa 2 v1) fun v37 =>
gb v35 false (evLd false 1 v37 h) fun v38 =>
gb v35 false (evBin .gtr v38 (AV.int .i64 3)) fun v39 =>
ob (evPick v35 (AV.bool true) v39) fun v40 =>
gb v40 false (evFa 3 v1) fun v42 =>
gb v40 false (evLd false 1 v42 h) fun v43 =>
gb v40 false (some v3) fun v44 =>
gb v40 false (evBin .sub v44 (AV.int .i64 1)) fun v45 =>
gb v40 false (evIxs 9 v43 v45) fun v46 =>
gb v40 false (evFa 0 v46) fun v47 =>
gb v40 false (evLd false 1 v47 h) fun v48 =>
gh v40 false (callAny E (callW E) 0 none true 25 [v48] h) h fun v49 h11 =>
gb v40 false (evUn .not v49) fun v50 =>
ob (evPick v40 (AV.bool true) v50) fun v51 =>
cnd v51
 ((expo1 h11 (AV.int .i64 80)))
 ((q60_28 v1 v3 h11))
noncomputable def q60_30k (s : St) : OX := q60_30 (s 1) (s 3) s.h
theorem q60_30_eq (s : St) : W E 0 c_q60_30 s (finP [.t 2]) xN (finP [.t 2]) = q60_30k s :=
  (W_seq (k := q60_28k) (fun s => q60_29_eq s)).trans (by kernel_rfl)
noncomputable def q60_31 (v1 : AV) (h : Heap) : OX :=
ob (evFa 3 v1) fun v10 =>
ob (evLd false 1 v10 h) fun v11 =>
ob (evLen 1 v11 h) fun v12 =>
(q60_30 v1 v12 h)
noncomputable def q60_31k (s : St) : OX := q60_31 (s 1) s.h
theorem q60_31_eq (s : St) : W E 0 c_q60_31 s (finP [.t 2]) xN (finP [.t 2]) = q60_31k s :=
  (W_seq (k := q60_30k) (fun s => q60_30_eq s)).trans (by kernel_rfl)
noncomputable def q60_32 (v0 : AV) (h : Heap) : OX :=
oh (newC 0 (some 0) (cellsOf v0) h) fun v1 h12 =>
(q60_31 v1 h12)
noncomputable def q60_32k (s : St) : OX := q60_32 (s 0) s.h
theorem q60_32_eq (s : St) : W E 0 c_q60_32 s (finP [.t 2]) xN (finP [.t 2]) = q60_32k s :=
  (W_seq (k := q60_31k) (fun s => q60_31_eq s)).trans (by kernel_rfl)
@[simp] theorem pure_29 : E.pure 29 = true := rfl
theorem x_q60 (v0 : AV) : (callW E).p 29 [v0] = q60_32 v0 [⟨0, .dead⟩, ⟨0, .dead⟩, ⟨0, .dead⟩] :=
  (callP_W (cf := c_q60) (by kernel_rfl) rfl).trans ((q60_32_eq _).trans (by kernel_rfl))
noncomputable def q64_1 (v0 : AV) (h : Heap) : OX :=
oh (buildSC 0 (some 0) 1 3 [(.int .i64 0)] [(0, (AV.int .i64 27)), (1, (AV.int .i64 28)), (2, (AV.int .i64 29))] h) fun v4 h1 =>
oh (callAny E (callW E) 0 none true 42 [v0, v4] h1) fun v5 h2 =>
(expo1 h2 v5)
noncomputable def q64_1k (s : St) : OX := q64_1 (s 0) s.h
theorem q64_1_eq (s : St) : W E 0 c_q64_1 s (finP [.t 2]) xN (finP [.t 2]) = q64_1k s :=
  by kernel_rfl
@[simp] theorem pure_23 : E.pure 23 = true := rfl
theorem x_q64 (v0 : AV) : (callW E).p 23 [v0] = q64_1 v0 [⟨0, .dead⟩] :=
  (callP_W (cf := c_q64) (by kernel_rfl) rfl).trans ((q64_1_eq _).trans (by kernel_rfl))
noncomputable def q62_1 (v0 : AV) (h : Heap) : OX :=
oh (buildSC 0 (some 0) 1 3 [(.int .i64 0)] [(0, (AV.int .i64 27)), (1, (AV.int .i64 30)), (2, (AV.int .i64 31))] h) fun v4 h1 =>
oh (callAny E (callW E) 0 none true 42 [v0, v4] h1) fun v5 h2 =>
(expo1 h2 v5)
noncomputable def q62_1k (s : St) : OX := q62_1 (s 0) s.h
theorem q62_1_eq (s : St) : W E 0 c_q62_1 s (finP [.t 2]) xN (finP [.t 2]) = q62_1k s :=
  by kernel_rfl
@[simp] theorem pure_25 : E.pure 25 = true := rfl
theorem x_q62 (v0 : AV) : (callW E).p 25 [v0] = q62_1 v0 [⟨0, .dead⟩] :=
  (callP_W (cf := c_q62) (by kernel_rfl) rfl).trans ((q62_1_eq _).trans (by kernel_rfl))
noncomputable def q17_1 (v0 : AV) (h : Heap) : OX :=
oh (newC 0 (some 0) (cellsOf v0) h) fun v1 h1 =>
ob (evFa 0 v1) fun v3 =>
ob (evLd false 1 v3 h1) fun v4 =>
ob (evBin .eql v4 (AV.int .i64 27)) fun v5 =>
gb v5 false (evFa 0 v1) fun v7 =>
gb v5 false (evLd false 1 v7 h1) fun v8 =>
gb v5 false (evBin .eql v8 (AV.int .i64 30)) fun v9 =>
ob (evPick v5 (AV.bool true) v9) fun v10 =>
gb v10 false (evFa 0 v1) fun v12 =>
gb v10 false (evLd false 1 v12 h1) fun v13 =>
gb v10 false (evBin .eql v13 (AV.int .i64 31)) fun v14 =>
ob (evPick v10 (AV.bool true) v14) fun v15 =>
(expo1 h1 v15)
noncomputable def q17_1k (s : St) : OX := q17_1 (s 0) s.h
theorem q17_1_eq (s : St) : W E 0 c_q17_1 s (finP [.t 2]) xN (finP [.t 2]) = q17_1k s :=
  by kernel_rfl
@[simp] theorem pure_24 : E.pure 24 = true := rfl
theorem x_q17 (v0 : AV) : (callW E).p 24 [v0] = q17_1 v0 [⟨0, .dead⟩] :=
  (callP_W (cf := c_q17) (by kernel_rfl) rfl).trans ((q17_1_eq _).trans (by kernel_rfl))
noncomputable def q18_1 (v0 : AV) (h : Heap) : OX :=
oh (newC 0 (some 0) (cellsOf v0) h) fun v1 h1 =>
ob (evFa 0 v1) fun v3 =>
ob (evLd false 1 v3 h1) fun v4 =>
ob (evBin .eql v4 (AV.int .i64 27)) fun v5 =>
gb v5 false (evFa 0 v1) fun v7 =>
gb v5 false (evLd false 1 v7 h1) fun v8 =>
gb v5 false (evBin .eql v8 (AV.int .i64 28)) fun v9 =>
ob (evPick v5 (AV.bool true) v9) fun v10 =>
gb v10 false (evFa 0 v1) fun v12 =>
gb v10 false (evLd false 1 v12 h1) fun v13 =>
gb v10 false (evBin .eql v13 (AV.int .i64 29)) fun v14 =>
ob (evPick v10 (AV.bool true) v14) fun v15 =>
(expo1 h1 v15)
noncomputable def q18_1k (s : St) : OX := q18_1 (s 0) s.h
theorem q18_1_eq (s : St) : W E 0 c_q18_1 s (finP [.t 2]) xN (finP [.t 2]) = q18_1k s :=
  by kernel_rfl
@[simp] theorem pure_22 : E.pure 22 = true := rfl
theorem x_q18 (v0 : AV) : (callW E).p 22 [v0] = q18_1 v0 [⟨0, .dead⟩] :=
  (callP_W (cf := c_q18) (by kernel_rfl) rfl).trans ((q18_1_eq _).trans (by kernel_rfl))
noncomputable def q105_1 (v0 v1 : AV) (h : Heap) : OX :=
oh (callAny E (callW E) 0 none true 45 [v0, v1] h) fun v7 h1 =>
ob (evBin .geq v7 (AV.int .i64 0)) fun v8 =>
(expo1 h1 v8)
noncomputable def q105_1k (s : St) : OX := q105_1 (s 0) (s 1) s.h
theorem q105_1_eq (s : St) : W E 0 c_q105_1 s (finP [.t 4]) xN (finP [.t 4]) = q105_1k s :=
  by kernel_rfl
@[simp] theorem pure_46 : E.pure 46 = true := rfl
theorem x_q105 (v0 v1 : AV) : (callW E).p 46 [v0, v1] = q105_1 v0 v1 [] :=
  (callP_W (cf := c_q105) (by kernel_rfl) rfl).trans ((q105_1_eq _).trans (by kernel_rfl))
noncomputable def q19_1 (v0 : AV) (h : Heap) : OX :=
oh (newC 0 (some 0) (cellsOf v0) h) fun v1 h1 =>
ob (evFa 0 v1) fun v3 =>
ob (evLd false 1 v3 h1) fun v4 =>
ob (evBin .geq v4 (AV.int .i64 7)) fun v5 =>
gb v5 true (evFa 0 v1) fun v7 =>
gb v5 true (evLd false 1 v7 h1) fun v8 =>
gb v5 true (evBin .leq v8 (AV.int .i64 12)) fun v9 =>
ob (evPick v5 v9 (AV.bool false)) fun v10 =>
gb v10 false (evFa 0 v1) fun v12 =>
gb v10 false (evLd false 1 v12 h1) fun v13 =>
gb v10 false (evBin .eql v13 (AV.int .i64 20)) fun v14 =>
ob (evPick v10 (AV.bool true) v14) fun v15 =>
gb v15 false (evFa 0 v1) fun v17 =>
gb v15 false (evLd false 1 v17 h1) fun v18 =>
gb v15 false (evBin .eql v18 (AV.int .i64 21)) fun v19 =>
ob (evPick v15 (AV.bool true) v19) fun v20 =>
gb v20 false (evFa 0 v1) fun v22 =>
gb v20 false (evLd false 1 v22 h1) fun v23 =>
gb v20 false (evBin .eql v23 (AV.int .i64 31)) fun v24 =>
ob (evPick v20 (AV.bool true) v24) fun v25 =>
gb v25 false (evLd true 9 v1 h1) fun v27 =>
gh v25 false (callAny E (callW E) 0 none true 17 [v27] h1) h1 fun v28 h2 =>
ob (evPick v25 (AV.bool true) v28) fun v29 =>
(expo1 h2 v29)
noncomputable def q19_1k (s : St) : OX := q19_1 (s 0) s.h
theorem q19_1_eq (s : St) : W E 0 c_q19_1 s (finP [.t 2]) xN (finP [.t 2]) = q19_1k s :=
  by kernel_rfl
@[simp] theorem pure_18 : E.pure 18 = true := rfl
theorem x_q19 (v0 : AV) : (callW E).p 18 [v0] = q19_1 v0 [⟨0, .dead⟩] :=
  (callP_W (cf := c_q19) (by kernel_rfl) rfl).trans ((q19_1_eq _).trans (by kernel_rfl))
@[simp] theorem pure_13 : E.pure 13 = true := rfl
noncomputable def q14_1 (h : Heap) : OX :=
(expo1 h (AV.int .i64 0))
noncomputable def q14_1k (s : St) : OX := q14_1 s.h
theorem q14_1_eq (s : St) : W E 0 c_q14_1 s (finP [.t 2]) xN (finP [.t 2]) = q14_1k s :=
  by kernel_rfl
noncomputable def q14_L2 (v1 v3 v136 v137 v138 : AV) (h : Heap) : OX :=
  W E 0 c_q14_L2 ⟨[(1, v1), (3, v3), (136, v136), (137, v137), (138, v138)], h⟩ q14_1k (exitTo 6 q14_1k xN) (finP [.t 2])
noncomputable def q14_L2k (s : St) : OX := q14_L2 (s 1) (s 3) (s 136) (s 137) (s 138) s.h
theorem q14_L2_eq (s : St) : W E 0 c_q14_L2 s q14_1k (exitTo 6 q14_1k xN) (finP [.t 2]) = q14_L2k s := W_loop_live.trans (by kernel_rfl)
noncomputable def q14_3 (v1 v3 v136 v137 v138 : AV) (h : Heap) : OX :=
ob (evBin .add v138 (AV.int .i64 1)) fun v179 =>
(q14_L2 v1 v3 v136 v137 v179 h)
noncomputable def q14_3k (s : St) : OX := q14_3 (s 1) (s 3) (s 136) (s 137) (s 138) s.h
theorem q14_3_eq (s : St) : W E 0 c_q14_3 s q14_L2k (exitTo 6 q14_1k xN) (finP [.t 2]) = q14_3k s :=
  by kernel_rfl
noncomputable def q14_4 (v1 v3 v136 v137 v138 : AV) (h : Heap) : OX :=
ob (evIxs 4 v136 v138) fun v140 =>
ob (evLd true 4 v140 h) fun v141 =>
oh (newC 0 (some 2) [(.int .i64 0), (.int .i64 0), (.int .i64 0), (.str [])] h) fun v11 h1 =>
oh (evSt 4 v11 v141 h1) fun _ h2 =>
ob (evFa 0 v11) fun v142 =>
ob (evLd false 1 v142 h2) fun v143 =>
ob (evBin .lss v143 (AV.int .i64 0)) fun v144 =>
gb v144 false (evFa 0 v11) fun v146 =>
gb v144 false (evLd false 1 v146 h2) fun v147 =>
gb v144 false (evFa 1 v11) fun v148 =>
gb v144 false (evLd false 1 v148 h2) fun v149 =>
gb v144 false (evBin .geq v147 v149) fun v150 =>
ob (evPick v144 (AV.bool true) v150) fun v151 =>
gb v151 false (evFa 1 v11) fun v153 =>
gb v151 false (evLd false 1 v153 h2) fun v154 =>
gb v151 false (some v3) fun v155 =>
gb v151 false (evBin .gtr v154 v155) fun v156 =>
ob (evPick v151 (AV.bool true) v156) fun v157 =>
gb v157 false (evFa 2 v11) fun v159 =>
gb v157 false (evLd false 1 v159 h2) fun v160 =>
gb v157 false (evBin .lss v160 (AV.int .i64 0)) fun v161 =>
ob (evPick v157 (AV.bool true) v161) fun v162 =>
gb v162 false (evFa 2 v11) fun v164 =>
gb v162 false (evLd false 1 v164 h2) fun v165 =>
gb v162 false (some v3) fun v166 =>
gb v162 false (evBin .geq v165 v166) fun v167 =>
ob (evPick v162 (AV.bool true) v167) fun v168 =>
gb v168 false (evFa 3 v1) fun v170 =>
gb v168 false (evLd false 1 v170 h2) fun v171 =>
gb v168 false (evFa 2 v11) fun v172 =>
gb v168 false (evLd false 1 v172 h2) fun v173 =>
gb v168 false (evIxs 9 v171 v173) fun v174 =>
gb v168 false (evFa 0 v174) fun v175 =>
gb v168 false (evLd false 1 v175 h2) fun v176 =>
gb v168 false (evBin .neq v176 (AV.int .i64 32)) fun v177 =>
ob (evPick v168 (AV.bool true) v177) fun v178 =>
cnd v178
 ((expo1 h2 (AV.int .i64 80)))
 ((q14_3 v1 v3 v136 v137 v138 h2))
noncomputable def q14_4k (s : St) : OX := q14_4 (s 1) (s 3) (s 136) (s 137) (s 138) s.h
theorem q14_4_eq (s : St) : W E 0 c_q14_4 s q14_L2k (exitTo 6 q14_1k xN) (finP [.t 2]) = q14_4k s :=
  (W_seq (k := q14_3k) (fun s => q14_3_eq s)).trans (by kernel_rfl)
noncomputable def q14_5 (v1 v3 v136 v137 v138 v139 : AV) (h : Heap) : OX :=
cnd v139
 ((q14_4 v1 v3 v136 v137 v138 h))
 ((q14_1 h))
noncomputable def q14_5k (s : St) : OX := q14_5 (s 1) (s 3) (s 136) (s 137) (s 138) (s 139) s.h
theorem q14_5_eq (s : St) : W E 0 c_q14_5 s q14_L2k (exitTo 6 q14_1k xN) (finP [.t 2]) = q14_5k s :=
  (W_seq (k := q14_4k) (fun s => q14_4_eq s)).trans (by kernel_rfl)
noncomputable def q14_6 (v1 v3 v136 v137 v138 : AV) (h : Heap) : OX :=
ob (evBin .lss v138 v137) fun v139 =>
(q14_5 v1 v3 v136 v137 v138 v139 h)
noncomputable def q14_6k (s : St) : OX := q14_6 (s 1) (s 3) (s 136) (s 137) (s 138) s.h
theorem q14_6_eq (s : St) : W E 0 c_q14_6 s q14_L2k (exitTo 6 q14_1k xN) (finP [.t 2]) = q14_6k s :=
  (W_seq (k := q14_5k) (fun s => q14_5_eq s)).trans (by kernel_rfl)
theorem q14_L2_go (v1 v3 v136 v137 v138 : AV) (h : Heap) : q14_L2 v1 v3 v136 v137 v138 h = (q14_6 v1 v3 v136 v137 v138 h) :=
  W_loop.trans ((W_congr _ _ _ (n' := q14_L2k) (fun s => q14_L2_eq s)).trans ((q14_6_eq _).trans (by kernel_rfl)))
theorem q14_7_eq (s : St) : W E 0 c_q14_7 s q14_1k xN (finP [.t 2]) = q14_L2k s :=
  W_block.trans (q14_L2_eq s)
noncomputable def q14_8 (v1 v3 : AV) (h : Heap) : OX :=
ob (evFa 4 v1) fun v135 =>
ob (evLd false 1 v135 h) fun v136 =>
ob (evLen 1 v136 h) fun v137 =>
(q14_L2 v1 v3 v136 v137 (AV.int .i64 0) h)
noncomputable def q14_8k (s : St) : OX := q14_8 (s 1) (s 3) s.h
theorem q14_8_eq (s : St) : W E 0 c_q14_8 s q14_1k xN (finP [.t 2]) = q14_8k s :=
  (W_seq (k := q14_L2k) (fun s => q14_7_eq s)).trans (by kernel_rfl)
theorem q14_9_eq (s : St) : W E 0 c_q14_9 s (finP [.t 2]) xN (finP [.t 2]) = q14_8k s :=
  (W_seq (k := q14_1k) (fun s => q14_1_eq s)).trans (q14_8_eq s)
noncomputable def q14_L10 (v1 v3 v92 v93 v94 : AV) (h : Heap) : OX :=
  W E 0 c_q14_L10 ⟨[(1, v1), (3, v3), (92, v92), (93, v93), (94, v94)], h⟩ q14_8k (exitTo 4 q14_8k xN) (finP [.t 2])
noncomputable def q14_L10k (s : St) : OX := q14_L10 (s 1) (s 3) (s 92) (s 93) (s 94) s.h
theorem q14_L10_eq (s : St) : W E 0 c_q14_L10 s q14_8k (exitTo 4 q14_8k xN) (finP [.t 2]) = q14_L10k s := W_loop_live.trans (by kernel_rfl)
noncomputable def q14_11 (v1 v3 v92 v93 v94 : AV) (h : Heap) : OX :=
ob (evBin .add v94 (AV.int .i64 1)) fun v134 =>
(q14_L10 v1 v3 v92 v93 v134 h)
noncomputable def q14_11k (s : St) : OX := q14_11 (s 1) (s 3) (s 92) (s 93) (s 94) s.h
theorem q14_11_eq (s : St) : W E 0 c_q14_11 s q14_L10k (exitTo 4 q14_8k xN) (finP [.t 2]) = q14_11k s :=
  by kernel_rfl
noncomputable def q14_12 (v1 v3 v8 v9 v92 v93 v94 : AV) (h : Heap) : OX :=
ob (evFa 0 v9) fun v103 =>
ob (evLd false 1 v103 h) fun v104 =>
ob (evBin .eql v104 (AV.int .i64 32)) fun v105 =>
gb v105 true (some v8) fun v107 =>
gb v105 true (evBin .eql v107 (AV.int .i64 0)) fun v108 =>
gb v105 true (some v108) fun v109 =>
gb v109 false (evFa 3 v1) fun v110 =>
gb v109 false (evLd false 1 v110 h) fun v111 =>
gb v109 false (some v8) fun v112 =>
gb v109 false (evBin .sub v112 (AV.int .i64 1)) fun v113 =>
gb v109 false (evIxs 9 v111 v113) fun v114 =>
gb v109 false (evLd true 9 v114 h) fun v115 =>
gh v109 false (callAny E (callW E) 0 none true 24 [v115] h) h fun v116 h3 =>
gb v109 false (evUn .not v116) fun v117 =>
gb v105 true (evPick v109 (AV.bool true) v117) fun v118 =>
ob (evPick v105 v118 (AV.bool false)) fun v119 =>
gb v119 false (evLd true 9 v9 h3) fun v121 =>
gh v119 false (callAny E (callW E) 0 none true 22 [v121] h3) h3 fun v122 h4 =>
gb v119 false (some v122) fun v123 =>
gb v123 true (evFa 3 v1) fun v124 =>
gb v123 true (evLd false 1 v124 h4) fun v125 =>
gb v123 true (evFa 6 v9) fun v126 =>
gb v123 true (evLd false 1 v126 h4) fun v127 =>
gb v123 true (evIxs 9 v125 v127) fun v128 =>
gb v123 true (evFa 0 v128) fun v129 =>
gb v123 true (evLd false 1 v129 h4) fun v130 =>
gb v123 true (evBin .eql v130 (AV.int .i64 32)) fun v131 =>
gb v119 false (evPick v123 v131 (AV.bool false)) fun v132 =>
ob (evPick v119 (AV.bool true) v132) fun v133 =>
cnd v133
 ((expo1 h4 (AV.int .i64 80)))
 ((q14_11 v1 v3 v92 v93 v94 h4))
noncomputable def q14_12k (s : St) : OX := q14_12 (s 1) (s 3) (s 8) (s 9) (s 92) (s 93) (s 94) s.h
theorem q14_12_eq (s : St) : W E 0 c_q14_12 s q14_11k (exitTo 5 q14_11k (exitTo 4 q14_8k xN)) (finP [.t 2]) = q14_12k s :=
  by kernel_rfl
noncomputable def q14_13 (v1 v3 v8 v9 v92 v93 v94 : AV) (h : Heap) : OX :=
ob (evLd true 5 v1 h) fun v99 =>
ob (evLd true 9 v9 h) fun v100 =>
oh (callAny E (callW E) 0 none true 63 [v99, v100] h) fun v101 h5 =>
ob (evUn .not v101) fun v102 =>
cnd v102
 ((expo1 h5 (AV.int .i64 80)))
 ((q14_12 v1 v3 v8 v9 v92 v93 v94 h5))
noncomputable def q14_13k (s : St) : OX := q14_13 (s 1) (s 3) (s 8) (s 9) (s 92) (s 93) (s 94) s.h
theorem q14_13_eq (s : St) : W E 0 c_q14_13 s q14_11k (exitTo 5 q14_11k (exitTo 4 q14_8k xN)) (finP [.t 2]) = q14_13k s :=
  (W_seq (k := q14_12k) (fun s => q14_12_eq s)).trans (by kernel_rfl)
noncomputable def q14_14 (v1 v3 v92 v93 v94 : AV) (h : Heap) : OX :=
ob (evIxs 9 v92 v94) fun v97 =>
ob (evLd true 9 v97 h) fun v98 =>
oh (newC 0 (some 1) [(.int .i64 0), (.int .i64 0), (.int .i64 0), (.int .i64 0), (.int .i64 0), (.int .i64 0), (.int .i64 0), (.str []), .nils] h) fun v9 h6 =>
oh (evSt 9 v9 v98 h6) fun _ h7 =>
(q14_13 v1 v3 v94 v9 v92 v93 v94 h7)
noncomputable def q14_14k (s : St) : OX := q14_14 (s 1) (s 3) (s 92) (s 93) (s 94) s.h
theorem q14_14_eq (s : St) : W E 0 c_q14_14 s q14_11k (exitTo 5 q14_11k (exitTo 4 q14_8k xN)) (finP [.t 2]) = q14_14k s :=
  (W_seq (k := q14_13k) (fun s => q14_13_eq s)).trans (by kernel_rfl)
theorem q14_15_eq (s : St) : W E 0 c_q14_15 s q14_11k (exitTo 4 q14_8k xN) (finP [.t 2]) = q14_14k s :=
  W_block.trans (q14_14_eq s)
theorem q14_16_eq (s : St) : W E 0 c_q14_16 s q14_L10k (exitTo 4 q14_8k xN) (finP [.t 2]) = q14_14k s :=
  (W_seq (k := q14_11k) (fun s => q14_11_eq s)).trans (q14_15_eq s)
noncomputable def q14_17 (v1 v3 v92 v93 v94 v95 : AV) (h : Heap) : OX :=
cnd v95
 ((q14_14 v1 v3 v92 v93 v94 h))
 ((q14_8 v1 v3 h))
noncomputable def q14_17k (s : St) : OX := q14_17 (s 1) (s 3) (s 92) (s 93) (s 94) (s 95) s.h
theorem q14_17_eq (s : St) : W E 0 c_q14_17 s q14_L10k (exitTo 4 q14_8k xN) (finP [.t 2]) = q14_17k s :=
  (W_seq (k := q14_14k) (fun s => q14_16_eq s)).trans (by kernel_rfl)
noncomputable def q14_18 (v1 v3 v92 v93 v94 : AV) (h : Heap) : OX :=
ob (evBin .lss v94 v93) fun v95 =>
(q14_17 v1 v3 v92 v93 v94 v95 h)
noncomputable def q14_18k (s : St) : OX := q14_18 (s 1) (s 3) (s 92) (s 93) (s 94) s.h
theorem q14_18_eq (s : St) : W E 0 c_q14_18 s q14_L10k (exitTo 4 q14_8k xN) (finP [.t 2]) = q14_18k s :=
  (W_seq (k := q14_17k) (fun s => q14_17_eq s)).trans (by kernel_rfl)
theorem q14_L10_go (v1 v3 v92 v93 v94 : AV) (h : Heap) : q14_L10 v1 v3 v92 v93 v94 h = (q14_18 v1 v3 v92 v93 v94 h) :=
  W_loop.trans ((W_congr _ _ _ (n' := q14_L10k) (fun s => q14_L10_eq s)).trans ((q14_18_eq _).trans (by kernel_rfl)))
theorem q14_19_eq (s : St) : W E 0 c_q14_19 s q14_8k xN (finP [.t 2]) = q14_L10k s :=
  W_block.trans (q14_L10_eq s)
noncomputable def q14_20 (v1 v3 : AV) (h : Heap) : OX :=
ob (evFa 3 v1) fun v91 =>
ob (evLd false 1 v91 h) fun v92 =>
ob (evLen 1 v92 h) fun v93 =>
(q14_L10 v1 v3 v92 v93 (AV.int .i64 0) h)
noncomputable def q14_20k (s : St) : OX := q14_20 (s 1) (s 3) s.h
theorem q14_20_eq (s : St) : W E 0 c_q14_20 s q14_8k xN (finP [.t 2]) = q14_20k s :=
  (W_seq (k := q14_L10k) (fun s => q14_19_eq s)).trans (by kernel_rfl)
theorem q14_21_eq (s : St) : W E 0 c_q14_21 s (finP [.t 2]) xN (finP [.t 2]) = q14_20k s :=
  (W_seq (k := q14_8k) (fun s => q14_9_eq s)).trans (q14_20_eq s)
noncomputable def q14_L22 (v1 v3 v62 v63 v64 : AV) (h : Heap) : OX :=
  W E 0 c_q14_L22 ⟨[(1, v1), (3, v3), (62, v62), (63, v63), (64, v64)], h⟩ q14_20k (exitTo 2 q14_20k xN) (finP [.t 2])
noncomputable def q14_L22k (s : St) : OX := q14_L22 (s 1) (s 3) (s 62) (s 63) (s 64) s.h
theorem q14_L22_eq (s : St) : W E 0 c_q14_L22 s q14_20k (exitTo 2 q14_20k xN) (finP [.t 2]) = q14_L22k s := W_loop_live.trans (by kernel_rfl)
noncomputable def q14_23 (v1 v3 v62 v63 v64 : AV) (h : Heap) : OX :=
ob (evBin .add v64 (AV.int .i64 1)) fun v90 =>
(q14_L22 v1 v3 v62 v63 v90 h)
noncomputable def q14_23k (s : St) : OX := q14_23 (s 1) (s 3) (s 62) (s 63) (s 64) s.h
theorem q14_23_eq (s : St) : W E 0 c_q14_23 s q14_L22k (exitTo 2 q14_20k xN) (finP [.t 2]) = q14_23k s :=
  by kernel_rfl
noncomputable def q14_24 (v1 v3 v62 v63 v64 : AV) (h : Heap) : OX :=
ob (evIxs 1 v62 v64) fun v67 =>
ob (evLd false 1 v67 h) fun v68 =>
ob (evBin .lss v68 (AV.int .i64 0)) fun v70 =>
gb v70 false (some v68) fun v72 =>
gb v70 false (evFa 0 v1) fun v73 =>
gb v70 false (evLd false 1 v73 h) fun v74 =>
gb v70 false (evLen 1 v74 h) fun v75 =>
gb v70 false (evBin .geq v72 v75) fun v76 =>
ob (evPick v70 (AV.bool true) v76) fun v77 =>
gb v77 false (evFa 1 v1) fun v79 =>
gb v77 false (evLd false 1 v79 h) fun v80 =>
gb v77 false (some v64) fun v81 =>
gb v77 false (evSlcO 1 v80 none (some v81)) fun v82 =>
gb v77 false (some v68) fun v83 =>
gh v77 false (callAny E (callW E) 0 none true 46 [v82, v83] h) h fun v84 h8 =>
ob (evPick v77 (AV.bool true) v84) fun v85 =>
gb v85 false (some v64) fun v87 =>
gb v85 false (evBin .gtr v87 (AV.int .i64 20)) fun v88 =>
ob (evPick v85 (AV.bool true) v88) fun v89 =>
cnd v89
 ((expo1 h8 (AV.int .i64 80)))
 ((q14_23 v1 v3 v62 v63 v64 h8))
noncomputable def q14_24k (s : St) : OX := q14_24 (s 1) (s 3) (s 62) (s 63) (s 64) s.h
theorem q14_24_eq (s : St) : W E 0 c_q14_24 s q14_L22k (exitTo 2 q14_20k xN) (finP [.t 2]) = q14_24k s :=
  (W_seq (k := q14_23k) (fun s => q14_23_eq s)).trans (by kernel_rfl)
noncomputable def q14_25 (v1 v3 v62 v63 v64 v65 : AV) (h : Heap) : OX :=
cnd v65
 ((q14_24 v1 v3 v62 v63 v64 h))
 ((q14_20 v1 v3 h))
noncomputable def q14_25k (s : St) : OX := q14_25 (s 1) (s 3) (s 62) (s 63) (s 64) (s 65) s.h
theorem q14_25_eq (s : St) : W E 0 c_q14_25 s q14_L22k (exitTo 2 q14_20k xN) (finP [.t 2]) = q14_25k s :=
  (W_seq (k := q14_24k) (fun s => q14_24_eq s)).trans (by kernel_rfl)
noncomputable def q14_26 (v1 v3 v62 v63 v64 : AV) (h : Heap) : OX :=
ob (evBin .lss v64 v63) fun v65 =>
(q14_25 v1 v3 v62 v63 v64 v65 h)
noncomputable def q14_26k (s : St) : OX := q14_26 (s 1) (s 3) (s 62) (s 63) (s 64) s.h
theorem q14_26_eq (s : St) : W E 0 c_q14_26 s q14_L22k (exitTo 2 q14_20k xN) (finP [.t 2]) = q14_26k s :=
  (W_seq (k := q14_25k) (fun s => q14_25_eq s)).trans (by kernel_rfl)
theorem q14_L22_go (v1 v3 v62 v63 v64 : AV) (h : Heap) : q14_L22 v1 v3 v62 v63 v64 h = (q14_26 v1 v3 v62 v63 v64 h) :=
  W_loop.trans ((W_congr _ _ _ (n' := q14_L22k) (fun s => q14_L22_eq s)).trans ((q14_26_eq _).trans (by kernel_rfl)))
theorem q14_27_eq (s : St) : W E 0 c_q14_27 s q14_20k xN (finP [.t 2]) = q14_L22k s :=
  W_block.trans (q14_L22_eq s)
noncomputable def q14_28 (v1 v3 : AV) (h : Heap) : OX :=
ob (evFa 1 v1) fun v61 =>
ob (evLd false 1 v61 h) fun v62 =>
ob (evLen 1 v62 h) fun v63 =>
(q14_L22 v1 v3 v62 v63 (AV.int .i64 0) h)
noncomputable def q14_28k (s : St) : OX := q14_28 (s 1) (s 3) s.h
theorem q14_28_eq (s : St) : W E 0 c_q14_28 s q14_20k xN (finP [.t 2]) = q14_28k s :=
  (W_seq (k := q14_L22k) (fun s => q14_27_eq s)).trans (by kernel_rfl)
theorem q14_29_eq (s : St) : W E 0 c_q14_29 s (finP [.t 2]) xN (finP [.t 2]) = q14_28k s :=
  (W_seq (k := q14_20k) (fun s => q14_21_eq s)).trans (q14_28_eq s)
noncomputable def q14_L30 (v1 v3 v48 v49 v50 : AV) (h : Heap) : OX :=
  W E 0 c_q14_L30 ⟨[(1, v1), (3, v3), (48, v48), (49, v49), (50, v50)], h⟩ q14_28k (exitTo 0 q14_28k xN) (finP [.t 2])
noncomputable def q14_L30k (s : St) : OX := q14_L30 (s 1) (s 3) (s 48) (s 49) (s 50) s.h
theorem q14_L30_eq (s : St) : W E 0 c_q14_L30 s q14_28k (exitTo 0 q14_28k xN) (finP [.t 2]) = q14_L30k s := W_loop_live.trans (by kernel_rfl)
noncomputable def q14_31 (v1 v3 v48 v49 v50 : AV) (h : Heap) : OX :=
ob (evBin .add v50 (AV.int .i64 1)) fun v60 =>
(q14_L30 v1 v3 v48 v49 v60 h)
noncomputable def q14_31k (s : St) : OX := q14_31 (s 1) (s 3) (s 48) (s 49) (s 50) s.h
theorem q14_31_eq (s : St) : W E 0 c_q14_31 s q14_L30k (exitTo 0 q14_28k xN) (finP [.t 2]) = q14_31k s :=
  by kernel_rfl
noncomputable def q14_32 (v1 v3 v48 v49 v50 : AV) (h : Heap) : OX :=
ob (evIxs 1 v48 v50) fun v52 =>
ob (evLd false 1 v52 h) fun v53 =>
ob (evBin .lss v53 (AV.int .i64 1)) fun v55 =>
gb v55 false (some v53) fun v57 =>
gb v55 false (evBin .gtr v57 (AV.int .i64 3)) fun v58 =>
ob (evPick v55 (AV.bool true) v58) fun v59 =>
cnd v59
 ((expo1 h (AV.int .i64 80)))
 ((q14_31 v1 v3 v48 v49 v50 h))
noncomputable def q14_32k (s : St) : OX := q14_32 (s 1) (s 3) (s 48) (s 49) (s 50) s.h
theorem q14_32_eq (s : St) : W E 0 c_q14_32 s q14_L30k (exitTo 0 q14_28k xN) (finP [.t 2]) = q14_32k s :=
  (W_seq (k := q14_31k) (fun s => q14_31_eq s)).trans (by kernel_rfl)
noncomputable def q14_33 (v1 v3 v48 v49 v50 v51 : AV) (h : Heap) : OX :=
cnd v51
 ((q14_32 v1 v3 v48 v49 v50 h))
 ((q14_28 v1 v3 h))
noncomputable def q14_33k (s : St) : OX := q14_33 (s 1) (s 3) (s 48) (s 49) (s 50) (s 51) s.h
theorem q14_33_eq (s : St) : W E 0 c_q14_33 s q14_L30k (exitTo 0 q14_28k xN) (finP [.t 2]) = q14_33k s :=
  (W_seq (k := q14_32k) (fun s => q14_32_eq s)).trans (by kernel_rfl)
noncomputable def q14_34 (v1 v3 v48 v49 v50 : AV) (h : Heap) : OX :=
ob (evBin .lss v50 v49) fun v51 =>
(q14_33 v1 v3 v48 v49 v50 v51 h)
noncomputable def q14_34k (s : St) : OX := q14_34 (s 1) (s 3) (s 48) (s 49) (s 50) s.h
theorem q14_34_eq (s : St) : W E 0 c_q14_34 s q14_L30k (exitTo 0 q14_28k xN) (finP [.t 2]) = q14_34k s :=
  (W_seq (k := q14_33k) (fun s => q14_33_eq s)).trans (by kernel_rfl)
theorem q14_L30_go (v1 v3 v48 v49 v50 : AV) (h : Heap) : q14_L30 v1 v3 v48 v49 v50 h = (q14_34 v1 v3 v48 v49 v50 h) :=
  W_loop.trans ((W_congr _ _ _ (n' := q14_L30k) (fun s => q14_L30_eq s)).trans ((q14_34_eq _).trans (by kernel_rfl)))
theorem q14_35_eq (s : St) : W E 0 c_q14_35 s q14_28k xN (finP [.t 2]) = q14_L30k s :=
  W_block.trans (q14_L30_eq s)
noncomputable def q14_36 (v1 v3 : AV) (h : Heap) : OX :=
ob (evFa 0 v1) fun v47 =>
ob (evLd false 1 v47 h) fun v48 =>
ob (evLen 1 v48 h) fun v49 =>
(q14_L30 v1 v3 v48 v49 (AV.int .i64 0) h)
noncomputable def q14_36k (s : St) : OX := q14_36 (s 1) (s 3) s.h
theorem q14_36_eq (s : St) : W E 0 c_q14_36 s q14_28k xN (finP [.t 2]) = q14_36k s :=
  (W_seq (k := q14_L30k) (fun s => q14_35_eq s)).trans (by kernel_rfl)
theorem q14_37_eq (s : St) : W E 0 c_q14_37 s (finP [.t 2]) xN (finP [.t 2]) = q14_36k s :=
  (W_seq (k := q14_28k) (fun s => q14_29_eq s)).trans (q14_36_eq s)
noncomputable def q14_38 (v1 v3 : AV) (h : Heap) : OX :=
ob (evBin .lss v3 (AV.int .i64 1)) fun v16 =>
gb v16 false (some v3) fun v18 =>
gb v16 false (evBin .gtr v18 (AV.int .i64 20000)) fun v19 =>
ob (evPick v16 (AV.bool true) v19) fun v20 =>
gb v20 false (evFa 0 v1) fun v22 =>
gb v20 false (evLd false 1 v22 h) fun v23 =>
gb v20 false (evLen 1 v23 h) fun v24 =>
gb v20 false (evBin .gtr v24 (AV.int .i64 20000)) fun v25 =>
ob (evPick v20 (AV.bool true) v25) fun v26 =>
gb v26 false (evFa 2 v1) fun v28 =>
gb v26 false (evLd false 1 v28 h) fun v29 =>
gb v26 false (evBin .lss v29 (AV.int .i64 0)) fun v30 =>
ob (evPick v26 (AV.bool true) v30) fun v31 =>
gb v31 false (evFa 2 v1) fun v33 =>
gb v31 false (evLd false 1 v33 h) fun v34 =>
gb v31 false (evBin .gtr v34 (AV.int .i64 3)) fun v35 =>
ob (evPick v31 (AV.bool true) v35) fun v36 =>
gb v36 false (evFa 3 v1) fun v38 =>
gb v36 false (evLd false 1 v38 h) fun v39 =>
gb v36 false (some v3) fun v40 =>
gb v36 false (evBin .sub v40 (AV.int .i64 1)) fun v41 =>
gb v36 false (evIxs 9 v39 v41) fun v42 =>
gb v36 false (evLd true 9 v42 h) fun v43 =>
gh v36 false (callAny E (callW E) 0 none true 24 [v43] h) h fun v44 h9 =>
gb v36 false (evUn .not v44) fun v45 =>
ob (evPick v36 (AV.bool true) v45) fun v46 =>
cnd v46
 ((expo1 h9 (AV.int .i64 80)))
 ((q14_36 v1 v3 h9))
noncomputable def q14_38k (s : St) : OX := q14_38 (s 1) (s 3) s.h
theorem q14_38_eq (s : St) : W E 0 c_q14_38 s (finP [.t 2]) xN (finP [.t 2]) = q14_38k s :=
  (W_seq (k := q14_36k) (fun s => q14_37_eq s)).trans (by kernel_rfl)
noncomputable def q14_39 (v1 : AV) (h : Heap) : OX :=
ob (evFa 3 v1) fun v12 =>
ob (evLd false 1 v12 h) fun v13 =>
ob (evLen 1 v13 h) fun v14 =>
(q14_38 v1 v14 h)
noncomputable def q14_39k (s : St) : OX := q14_39 (s 1) s.h
theorem q14_39_eq (s : St) : W E 0 c_q14_39 s (finP [.t 2]) xN (finP [.t 2]) = q14_39k s :=
  (W_seq (k := q14_38k) (fun s => q14_38_eq s)).trans (by kernel_rfl)
noncomputable def q14_40 (v0 : AV) (h : Heap) : OX :=
oh (newC 0 (some 0) (cellsOf v0) h) fun v1 h10 =>
(q14_39 v1 h10)
noncomputable def q14_40k (s : St) : OX := q14_40 (s 0) s.h
theorem q14_40_eq (s : St) : W E 0 c_q14_40 s (finP [.t 2]) xN (finP [.t 2]) = q14_40k s :=
  (W_seq (k := q14_39k) (fun s => q14_39_eq s)).trans (by kernel_rfl)
@[simp] theorem pure_8 : E.pure 8 = true := rfl
theorem x_q14 (v0 : AV) : (callW E).p 8 [v0] = q14_40 v0 [⟨0, .dead⟩, ⟨0, .dead⟩, ⟨0, .dead⟩] :=
  (callP_W (cf := c_q14) (by kernel_rfl) rfl).trans ((q14_40_eq _).trans (by kernel_rfl))
noncomputable def q71_1 (v1 v2 : AV) (h : Heap) : OX :=
ob (evFa 0 v2) fun v14 =>
ob (evLd false 1 v14 h) fun v15 =>
ob (evIxs 1 v15 v1) fun v17 =>
ob (evLd false 1 v17 h) fun v18 =>
(expo1 h v18)
noncomputable def q71_1k (s : St) : OX := q71_1 (s 1) (s 2) s.h
theorem q71_1_eq (s : St) : W E 0 c_q71_1 s (finP [.t 4]) xN (finP [.t 4]) = q71_1k s :=
  by kernel_rfl
noncomputable def q71_2 (v1 v2 : AV) (h : Heap) : OX :=
ob (evBin .lss v1 (AV.int .i64 0)) fun v6 =>
gb v6 false (some v1) fun v8 =>
gb v6 false (evFa 0 v2) fun v9 =>
gb v6 false (evLd false 1 v9 h) fun v10 =>
gb v6 false (evLen 1 v10 h) fun v11 =>
gb v6 false (evBin .geq v8 v11) fun v12 =>
ob (evPick v6 (AV.bool true) v12) fun v13 =>
cnd v13
 ((expo1 h (AV.int .i64 0)))
 ((q71_1 v1 v2 h))
noncomputable def q71_2k (s : St) : OX := q71_2 (s 1) (s 2) s.h
theorem q71_2_eq (s : St) : W E 0 c_q71_2 s (finP [.t 4]) xN (finP [.t 4]) = q71_2k s :=
  (W_seq (k := q71_1k) (fun s => q71_1_eq s)).trans (by kernel_rfl)
noncomputable def q71_3 (v0 v1 : AV) (h : Heap) : OX :=
oh (newC 0 (some 0) (cellsOf v0) h) fun v2 h1 =>
(q71_2 v1 v2 h1)
noncomputable def q71_3k (s : St) : OX := q71_3 (s 0) (s 1) s.h
theorem q71_3_eq (s : St) : W E 0 c_q71_3 s (finP [.t 4]) xN (finP [.t 4]) = q71_3k s :=
  (W_seq (k := q71_2k) (fun s => q71_2_eq s)).trans (by kernel_rfl)
@[simp] theorem pure_48 : E.pure 48 = true := rfl
theorem x_q71 (v0 v1 : AV) : (callW E).p 48 [v0, v1] = q71_3 v0 v1 [⟨0, .dead⟩] :=
  (callP_W (cf := c_q71) (by kernel_rfl) rfl).trans ((q71_3_eq _).trans (by kernel_rfl))
noncomputable def q70_1 (h : Heap) : OX :=
(expo1 h (AV.bool false))
noncomputable def q70_1k (s : St) : OX := q70_1 s.h
theorem q70_1_eq (s : St) : W E 0 c_q70_1 s (finP [.t 4]) xN (finP [.t 4]) = q70_1k s :=
  by kernel_rfl
noncomputable def q70_L2 (v0 v1 v5 : AV) (h : Heap) : OX :=
  W E 0 c_q70_L2 ⟨[(0, v0), (1, v1), (5, v5)], h⟩ q70_1k (exitTo 0 q70_1k xN) (finP [.t 4])
noncomputable def q70_L2k (s : St) : OX := q70_L2 (s 0) (s 1) (s 5) s.h
theorem q70_L2_eq (s : St) : W E 0 c_q70_L2 s q70_1k (exitTo 0 q70_1k xN) (finP [.t 4]) = q70_L2k s := W_loop_live.trans (by kernel_rfl)
noncomputable def q70_3 (v0 v1 v5 : AV) (h : Heap) : OX :=
ob (evBin .add v5 (AV.int .i64 1)) fun v11 =>
(q70_L2 v0 v1 v11 h)
noncomputable def q70_3k (s : St) : OX := q70_3 (s 0) (s 1) (s 5) s.h
theorem q70_3_eq (s : St) : W E 0 c_q70_3 s q70_L2k (exitTo 0 q70_1k xN) (finP [.t 4]) = q70_3k s :=
  by kernel_rfl
noncomputable def q70_4 (v0 v1 v5 : AV) (h : Heap) : OX :=
ob (evIxs 1 v1 v5) fun v14 =>
ob (evLd false 1 v14 h) fun v15 =>
ob (evBin .eql v15 v0) fun v17 =>
cnd v17
 ((expo1 h (AV.bool true)))
 ((q70_3 v0 v1 v5 h))
noncomputable def q70_4k (s : St) : OX := q70_4 (s 0) (s 1) (s 5) s.h
theorem q70_4_eq (s : St) : W E 0 c_q70_4 s q70_L2k (exitTo 0 q70_1k xN) (finP [.t 4]) = q70_4k s :=
  (W_seq (k := q70_3k) (fun s => q70_3_eq s)).trans (by kernel_rfl)
noncomputable def q70_5 (v0 v1 v5 : AV) (h : Heap) : OX :=
ob (evLen 1 v1 h) fun v8 =>
ob (evBin .lss v5 v8) fun v9 =>
cnd v9
 ((q70_4 v0 v1 v5 h))
 ((q70_1 h))
noncomputable def q70_5k (s : St) : OX := q70_5 (s 0) (s 1) (s 5) s.h
theorem q70_5_eq (s : St) : W E 0 c_q70_5 s q70_L2k (exitTo 0 q70_1k xN) (finP [.t 4]) = q70_5k s :=
  (W_seq (k := q70_4k) (fun s => q70_4_eq s)).trans (by kernel_rfl)
theorem q70_L2_go (v0 v1 v5 : AV) (h : Heap) : q70_L2 v0 v1 v5 h = (q70_5 v0 v1 v5 h) :=
  W_loop.trans ((W_congr _ _ _ (n' := q70_L2k) (fun s => q70_L2_eq s)).trans ((q70_5_eq _).trans (by kernel_rfl)))
theorem q70_6_eq (s : St) : W E 0 c_q70_6 s q70_1k xN (finP [.t 4]) = q70_L2k s :=
  W_block.trans (q70_L2_eq s)
noncomputable def q70_7 (v0 v1 : AV) (h : Heap) : OX :=
(q70_L2 v0 v1 (AV.int .i64 0) h)
noncomputable def q70_7k (s : St) : OX := q70_7 (s 0) (s 1) s.h
theorem q70_7_eq (s : St) : W E 0 c_q70_7 s q70_1k xN (finP [.t 4]) = q70_7k s :=
  (W_seq (k := q70_L2k) (fun s => q70_6_eq s)).trans (by kernel_rfl)
theorem q70_8_eq (s : St) : W E 0 c_q70_8 s (finP [.t 4]) xN (finP [.t 4]) = q70_7k s :=
  (W_seq (k := q70_1k) (fun s => q70_1_eq s)).trans (q70_7_eq s)
noncomputable def q70_9 (v0 v1 : AV) (h : Heap) : OX :=
(q70_7 v0 v1 h)
noncomputable def q70_9k (s : St) : OX := q70_9 (s 0) (s 1) s.h
theorem q70_9_eq (s : St) : W E 0 c_q70_9 s (finP [.t 4]) xN (finP [.t 4]) = q70_9k s :=
  (W_seq (k := q70_7k) (fun s => q70_8_eq s)).trans (by kernel_rfl)
@[simp] theorem pure_42 : E.pure 42 = true := rfl
theorem x_q70 (v0 v1 : AV) : (callW E).p 42 [v0, v1] = q70_9 v0 v1 [] :=
  (callP_W (cf := c_q70) (by kernel_rfl) rfl).trans ((q70_9_eq _).trans (by kernel_rfl))
noncomputable def q72_1 (h : Heap) : OX :=
(expo1 h (AV.bool true))
noncomputable def q72_1k (s : St) : OX := q72_1 s.h
theorem q72_1_eq (s : St) : W E 0 c_q72_1 s (finP [.t 4]) xN (finP [.t 4]) = q72_1k s :=
  by kernel_rfl
noncomputable def q72_2 (v2 v3 : AV) (h : Heap) : OX :=
ob (evFa 2 v3) fun v215 =>
ob (evLd false 1 v215 h) fun v216 =>
ob (evBin .neq v216 (AV.int .i64 (-1))) fun v217 =>
ofp (fgd v217 true (some (ids1 v2, []))) fun f4 =>
gb v217 true (evLd true 5 v2 h) fun v219 =>
ofp (fgd v217 true (some ([], []))) fun f5 =>
gb v217 true (evFa 2 v3) fun v220 =>
ofp (fgd v217 true (some (ids1 v220, []))) fun f6 =>
gb v217 true (evLd false 1 v220 h) fun v221 =>
ofp (fgd v217 true (fpCall E (callW E) 0 none true 48 [v219, v221] h)) fun f7 =>
gh v217 true (callAny E (callW E) 0 none true 48 [v219, v221] h) h fun v222 h1 =>
ofp (fgd v217 true (some ([], []))) fun f8 =>
gb v217 true (evFa 2 v2) fun v223 =>
ofp (fgd v217 true (some (ids1 v223, []))) fun f9 =>
gb v217 true (evLd false 1 v223 h1) fun v224 =>
ofp (fgd v217 true (some ([], []))) fun f10 =>
gb v217 true (evBin .eql v222 v224) fun v225 =>
ob (evPick v217 v225 (AV.bool false)) fun v226 =>
okK (pairsOk [([], []), (ids1 v215, []), ([], []), ([], []), f4, f5, f6, f7, f8, f9, f10, ([], []), ([], [])] [(7, 9)]) <|
(expo1 h1 v226)
noncomputable def q72_2k (s : St) : OX := q72_2 (s 2) (s 3) s.h
theorem q72_2_eq (s : St) : W E 0 c_q72_2 s q72_1k (exitTo 2 q72_1k xN) (finP [.t 4]) = q72_2k s :=
  by kernel_rfl
noncomputable def q72_3 (v2 v3 : AV) (h : Heap) : OX :=
ob (evFa 2 v2) fun v209 =>
ob (evLd false 1 v209 h) fun v210 =>
ob (evBin .eql v210 (AV.int .i64 0)) fun v211 =>
cnd v211
 (ob (evFa 2 v3) fun v212 =>
ob (evLd false 1 v212 h) fun v213 =>
ob (evBin .eql v213 (AV.int .i64 (-1))) fun v214 =>
(expo1 h v214))
 ((q72_2 v2 v3 h))
noncomputable def q72_3k (s : St) : OX := q72_3 (s 2) (s 3) s.h
theorem q72_3_eq (s : St) : W E 0 c_q72_3 s q72_1k (exitTo 2 q72_1k xN) (finP [.t 4]) = q72_3k s :=
  (W_seq (k := q72_2k) (fun s => q72_2_eq s)).trans (by kernel_rfl)
noncomputable def q72_4 (v2 v3 v207 : AV) (h : Heap) : OX :=
cnd v207
 ((q72_3 v2 v3 h))
 ((q72_1 h))
noncomputable def q72_4k (s : St) : OX := q72_4 (s 2) (s 3) (s 207) s.h
theorem q72_4_eq (s : St) : W E 0 c_q72_4 s q72_1k (exitTo 2 q72_1k xN) (finP [.t 4]) = q72_4k s :=
  (W_cond (q72_3_eq s) rfl).trans (by kernel_rfl)
noncomputable def q72_5 (v2 v3 v55 : AV) (h : Heap) : OX :=
ob (evBin .eql v55 (AV.int .i64 30)) fun v208 =>
(q72_4 v2 v3 v208 h)
noncomputable def q72_5k (s : St) : OX := q72_5 (s 2) (s 3) (s 55) s.h
theorem q72_5_eq (s : St) : W E 0 c_q72_5 s q72_1k (exitTo 2 q72_1k xN) (finP [.t 4]) = q72_5k s :=
  (W_seq (k := q72_4k) (fun s => q72_4_eq s)).trans (by kernel_rfl)
noncomputable def q72_6 (v2 v3 v55 v179 : AV) (h : Heap) : OX :=
cnd v179
 (ob (evFa 5 v3) fun v181 =>
ob (evLd false 1 v181 h) fun v182 =>
ob (evBin .eql v182 (AV.int .i64 0)) fun v183 =>
gb v183 false (evFa 5 v3) fun v185 =>
gb v183 false (evLd false 1 v185 h) fun v186 =>
gb v183 false (evBin .eql v186 (AV.int .i64 1)) fun v187 =>
ob (evPick v183 (AV.bool true) v187) fun v188 =>
gb v188 true (evFa 3 v3) fun v190 =>
gb v188 true (evLd false 1 v190 h) fun v191 =>
gb v188 true (evBin .eql v191 (AV.int .i64 (-1))) fun v192 =>
gb v188 true (some v192) fun v193 =>
gb v193 false (evLd true 5 v2 h) fun v194 =>
gb v193 false (evFa 3 v3) fun v195 =>
gb v193 false (evLd false 1 v195 h) fun v196 =>
gh v193 false (callAny E (callW E) 0 none true 48 [v194, v196] h) h fun v197 h2 =>
gb v193 false (evBin .eql v197 (AV.int .i64 3)) fun v198 =>
gb v188 true (evPick v193 (AV.bool true) v198) fun v199 =>
ob (evPick v188 v199 (AV.bool false)) fun v200 =>
gb v200 true (evLd true 5 v2 h2) fun v202 =>
gb v200 true (evFa 6 v3) fun v203 =>
gb v200 true (evLd false 1 v203 h2) fun v204 =>
gh v200 true (callAny E (callW E) 0 none true 49 [v202, v204] h2) h2 fun v205 h3 =>
ob (evPick v200 v205 (AV.bool false)) fun v206 =>
(expo1 h3 v206))
 ((q72_5 v2 v3 v55 h))
noncomputable def q72_6k (s : St) : OX := q72_6 (s 2) (s 3) (s 55) (s 179) s.h
theorem q72_6_eq (s : St) : W E 0 c_q72_6 s q72_1k (exitTo 2 q72_1k xN) (finP [.t 4]) = q72_6k s :=
  (W_cond rfl (q72_5_eq s)).trans (by kernel_rfl)
noncomputable def q72_7 (v2 v3 v55 : AV) (h : Heap) : OX :=
ob (evBin .eql v55 (AV.int .i64 29)) fun v180 =>
(q72_6 v2 v3 v55 v180 h)
noncomputable def q72_7k (s : St) : OX := q72_7 (s 2) (s 3) (s 55) s.h
theorem q72_7_eq (s : St) : W E 0 c_q72_7 s q72_1k (exitTo 2 q72_1k xN) (finP [.t 4]) = q72_7k s :=
  (W_seq (k := q72_6k) (fun s => q72_6_eq s)).trans (by kernel_rfl)
noncomputable def q72_8 (v2 v3 v55 v173 : AV) (h : Heap) : OX :=
cnd v173
 (ob (evLd true 5 v2 h) fun v175 =>
ob (evFa 6 v3) fun v176 =>
ob (evLd false 1 v176 h) fun v177 =>
oh (callAny E (callW E) 0 none true 49 [v175, v177] h) fun v178 h4 =>
(expo1 h4 v178))
 ((q72_7 v2 v3 v55 h))
noncomputable def q72_8k (s : St) : OX := q72_8 (s 2) (s 3) (s 55) (s 173) s.h
theorem q72_8_eq (s : St) : W E 0 c_q72_8 s q72_1k (exitTo 2 q72_1k xN) (finP [.t 4]) = q72_8k s :=
  (W_cond rfl (q72_7_eq s)).trans (by kernel_rfl)
noncomputable def q72_9 (v2 v3 v55 : AV) (h : Heap) : OX :=
ob (evBin .eql v55 (AV.int .i64 27)) fun v174 =>
(q72_8 v2 v3 v55 v174 h)
noncomputable def q72_9k (s : St) : OX := q72_9 (s 2) (s 3) (s 55) s.h
theorem q72_9_eq (s : St) : W E 0 c_q72_9 s q72_1k (exitTo 2 q72_1k xN) (finP [.t 4]) = q72_9k s :=
  (W_seq (k := q72_8k) (fun s => q72_8_eq s)).trans (by kernel_rfl)
noncomputable def q72_10 (v2 v3 v55 v157 : AV) (h : Heap) : OX :=
cnd v157
 (ob (evFa 5 v3) fun v159 =>
ob (evLd false 1 v159 h) fun v160 =>
ob (evBin .geq v160 (AV.int .i64 0)) fun v161 =>
gb v161 true (evFa 5 v3) fun v163 =>
gb v161 true (evLd false 1 v163 h) fun v164 =>
gb v161 true (evBin .leq v164 (AV.int .i64 5)) fun v165 =>
ob (evPick v161 v165 (AV.bool false)) fun v166 =>
gb v166 true (evLd true 5 v2 h) fun v168 =>
gb v166 true (evFa 6 v3) fun v169 =>
gb v166 true (evLd false 1 v169 h) fun v170 =>
gh v166 true (callAny E (callW E) 0 none true 49 [v168, v170] h) h fun v171 h5 =>
ob (evPick v166 v171 (AV.bool false)) fun v172 =>
(expo1 h5 v172))
 ((q72_9 v2 v3 v55 h))
noncomputable def q72_10k (s : St) : OX := q72_10 (s 2) (s 3) (s 55) (s 157) s.h
theorem q72_10_eq (s : St) : W E 0 c_q72_10 s q72_1k (exitTo 2 q72_1k xN) (finP [.t 4]) = q72_10k s :=
  (W_cond rfl (q72_9_eq s)).trans (by kernel_rfl)
noncomputable def q72_11 (v2 v3 v55 : AV) (h : Heap) : OX :=
ob (evBin .eql v55 (AV.int .i64 28)) fun v158 =>
(q72_10 v2 v3 v55 v158 h)
noncomputable def q72_11k (s : St) : OX := q72_11 (s 2) (s 3) (s 55) s.h
theorem q72_11_eq (s : St) : W E 0 c_q72_11 s q72_1k (exitTo 2 q72_1k xN) (finP [.t 4]) = q72_11k s :=
  (W_seq (k := q72_10k) (fun s => q72_10_eq s)).trans (by kernel_rfl)
noncomputable def q72_12 (v2 v3 v55 v149 : AV) (h : Heap) : OX :=
cnd v149
 (ob (evLd true 5 v2 h) fun v154 =>
ob (evLd true 9 v3 h) fun v155 =>
oh (callAny E (callW E) 0 none true 68 [v154, v155] h) fun v156 h6 =>
(expo1 h6 v156))
 ((q72_11 v2 v3 v55 h))
noncomputable def q72_12k (s : St) : OX := q72_12 (s 2) (s 3) (s 55) (s 149) s.h
theorem q72_12_eq (s : St) : W E 0 c_q72_12 s q72_1k (exitTo 2 q72_1k xN) (finP [.t 4]) = q72_12k s :=
  (W_cond rfl (q72_11_eq s)).trans (by kernel_rfl)
noncomputable def q72_13 (v2 v3 v55 : AV) (h : Heap) : OX :=
ob (evBin .eql v55 (AV.int .i64 23)) fun v150 =>
cnd v150
 ((q72_12 v2 v3 v55 v150 h))
 (ob (evBin .eql v55 (AV.int .i64 24)) fun v151 =>
cnd v151
 ((q72_12 v2 v3 v55 v151 h))
 (ob (evBin .eql v55 (AV.int .i64 25)) fun v152 =>
cnd v152
 ((q72_12 v2 v3 v55 v152 h))
 (ob (evBin .eql v55 (AV.int .i64 26)) fun v153 =>
(q72_12 v2 v3 v55 v153 h))))
noncomputable def q72_13k (s : St) : OX := q72_13 (s 2) (s 3) (s 55) s.h
theorem q72_13_eq (s : St) : W E 0 c_q72_13 s q72_1k (exitTo 2 q72_1k xN) (finP [.t 4]) = q72_13k s :=
  (W_seq (k := q72_12k) (fun s => q72_12_eq s)).trans (by kernel_rfl)
noncomputable def q72_14 (v2 v3 v55 v143 : AV) (h : Heap) : OX :=
cnd v143
 (ob (evFa 5 v3) fun v146 =>
ob (evLd false 1 v146 h) fun v147 =>
ob (evBin .geq v147 (AV.int .i64 0)) fun v148 =>
(expo1 h v148))
 ((q72_13 v2 v3 v55 h))
noncomputable def q72_14k (s : St) : OX := q72_14 (s 2) (s 3) (s 55) (s 143) s.h
theorem q72_14_eq (s : St) : W E 0 c_q72_14 s q72_1k (exitTo 2 q72_1k xN) (finP [.t 4]) = q72_14k s :=
  (W_cond rfl (q72_13_eq s)).trans (by kernel_rfl)
noncomputable def q72_15 (v2 v3 v55 : AV) (h : Heap) : OX :=
ob (evBin .eql v55 (AV.int .i64 16)) fun v144 =>
cnd v144
 ((q72_14 v2 v3 v55 v144 h))
 (ob (evBin .eql v55 (AV.int .i64 17)) fun v145 =>
(q72_14 v2 v3 v55 v145 h))
noncomputable def q72_15k (s : St) : OX := q72_15 (s 2) (s 3) (s 55) s.h
theorem q72_15_eq (s : St) : W E 0 c_q72_15 s q72_1k (exitTo 2 q72_1k xN) (finP [.t 4]) = q72_15k s :=
  (W_seq (k := q72_14k) (fun s => q72_14_eq s)).trans (by kernel_rfl)
noncomputable def q72_16 (v2 v3 v55 v136 : AV) (h : Heap) : OX :=
cnd v136
 (ob (evFa 7 v3) fun v140 =>
ob (evLd false 1 v140 h) fun v141 =>
oh (callAny E (callW E) 0 none true 67 [v141] h) fun v142 h7 =>
(expo1 h7 v142))
 ((q72_15 v2 v3 v55 h))
noncomputable def q72_16k (s : St) : OX := q72_16 (s 2) (s 3) (s 55) (s 136) s.h
theorem q72_16_eq (s : St) : W E 0 c_q72_16 s q72_1k (exitTo 2 q72_1k xN) (finP [.t 4]) = q72_16k s :=
  (W_cond rfl (q72_15_eq s)).trans (by kernel_rfl)
noncomputable def q72_17 (v2 v3 v55 : AV) (h : Heap) : OX :=
ob (evBin .eql v55 (AV.int .i64 12)) fun v137 =>
cnd v137
 ((q72_16 v2 v3 v55 v137 h))
 (ob (evBin .eql v55 (AV.int .i64 21)) fun v138 =>
cnd v138
 ((q72_16 v2 v3 v55 v138 h))
 (ob (evBin .eql v55 (AV.int .i64 22)) fun v139 =>
(q72_16 v2 v3 v55 v139 h)))
noncomputable def q72_17k (s : St) : OX := q72_17 (s 2) (s 3) (s 55) s.h
theorem q72_17_eq (s : St) : W E 0 c_q72_17 s q72_1k (exitTo 2 q72_1k xN) (finP [.t 4]) = q72_17k s :=
  (W_seq (k := q72_16k) (fun s => q72_16_eq s)).trans (by kernel_rfl)
noncomputable def q72_18 (v2 v3 v8 v9 v10 v55 v112 : AV) (h : Heap) : OX :=
cnd v112
 (ob (evBin .gtr v8 (AV.int .i64 0)) fun v115 =>
gb v115 true (some v9) fun v117 =>
gb v115 true (evBin .eql v117 (AV.int .i64 0)) fun v118 =>
ob (evPick v115 v118 (AV.bool false)) fun v119 =>
gb v119 true (evLd true 5 v2 h) fun v121 =>
gb v119 true (evFa 1 v3) fun v122 =>
gb v119 true (evLd false 1 v122 h) fun v123 =>
gh v119 true (callAny E (callW E) 0 none true 48 [v121, v123] h) h fun v124 h8 =>
gb v119 true (some v10) fun v125 =>
gb v119 true (evBin .eql v124 v125) fun v126 =>
ob (evPick v119 v126 (AV.bool false)) fun v127 =>
gb v127 true (evLd true 5 v2 h8) fun v129 =>
gb v127 true (evFa 2 v3) fun v130 =>
gb v127 true (evLd false 1 v130 h8) fun v131 =>
gh v127 true (callAny E (callW E) 0 none true 48 [v129, v131] h8) h8 fun v132 h9 =>
gb v127 true (some v8) fun v133 =>
gb v127 true (evBin .eql v132 v133) fun v134 =>
ob (evPick v127 v134 (AV.bool false)) fun v135 =>
(expo1 h9 v135))
 ((q72_17 v2 v3 v55 h))
noncomputable def q72_18k (s : St) : OX := q72_18 (s 2) (s 3) (s 8) (s 9) (s 10) (s 55) (s 112) s.h
theorem q72_18_eq (s : St) : W E 0 c_q72_18 s q72_1k (exitTo 2 q72_1k xN) (finP [.t 4]) = q72_18k s :=
  (W_cond rfl (q72_17_eq s)).trans (by kernel_rfl)
noncomputable def q72_19 (v2 v3 v8 v9 v10 v55 : AV) (h : Heap) : OX :=
ob (evBin .eql v55 (AV.int .i64 6)) fun v113 =>
(q72_18 v2 v3 v8 v9 v10 v55 v113 h)
noncomputable def q72_19k (s : St) : OX := q72_19 (s 2) (s 3) (s 8) (s 9) (s 10) (s 55) s.h
theorem q72_19_eq (s : St) : W E 0 c_q72_19 s q72_1k (exitTo 2 q72_1k xN) (finP [.t 4]) = q72_19k s :=
  (W_seq (k := q72_18k) (fun s => q72_18_eq s)).trans (by kernel_rfl)
noncomputable def q72_20 (v2 v3 v8 v9 v10 v55 v84 : AV) (h : Heap) : OX :=
cnd v84
 (ob (evBin .gtr v9 (AV.int .i64 0)) fun v87 =>
gb v87 true (evLd true 5 v2 h) fun v89 =>
gb v87 true (evFa 1 v3) fun v90 =>
gb v87 true (evLd false 1 v90 h) fun v91 =>
gh v87 true (callAny E (callW E) 0 none true 48 [v89, v91] h) h fun v92 h10 =>
gb v87 true (some v10) fun v93 =>
gb v87 true (evBin .eql v92 v93) fun v94 =>
ob (evPick v87 v94 (AV.bool false)) fun v95 =>
gb v95 true (evLd true 5 v2 h10) fun v97 =>
gb v95 true (evFa 2 v3) fun v98 =>
gb v95 true (evLd false 1 v98 h10) fun v99 =>
gh v95 true (callAny E (callW E) 0 none true 48 [v97, v99] h10) h10 fun v100 h11 =>
gb v95 true (some v8) fun v101 =>
gb v95 true (evBin .eql v100 v101) fun v102 =>
ob (evPick v95 v102 (AV.bool false)) fun v103 =>
gb v103 true (evLd true 5 v2 h11) fun v105 =>
gb v103 true (evFa 3 v3) fun v106 =>
gb v103 true (evLd false 1 v106 h11) fun v107 =>
gh v103 true (callAny E (callW E) 0 none true 48 [v105, v107] h11) h11 fun v108 h12 =>
gb v103 true (some v9) fun v109 =>
gb v103 true (evBin .eql v108 v109) fun v110 =>
ob (evPick v103 v110 (AV.bool false)) fun v111 =>
(expo1 h12 v111))
 ((q72_19 v2 v3 v8 v9 v10 v55 h))
noncomputable def q72_20k (s : St) : OX := q72_20 (s 2) (s 3) (s 8) (s 9) (s 10) (s 55) (s 84) s.h
theorem q72_20_eq (s : St) : W E 0 c_q72_20 s q72_1k (exitTo 2 q72_1k xN) (finP [.t 4]) = q72_20k s :=
  (W_cond rfl (q72_19_eq s)).trans (by kernel_rfl)
noncomputable def q72_21 (v2 v3 v8 v9 v10 v55 : AV) (h : Heap) : OX :=
ob (evBin .eql v55 (AV.int .i64 5)) fun v85 =>
(q72_20 v2 v3 v8 v9 v10 v55 v85 h)
noncomputable def q72_21k (s : St) : OX := q72_21 (s 2) (s 3) (s 8) (s 9) (s 10) (s 55) s.h
theorem q72_21_eq (s : St) : W E 0 c_q72_21 s q72_1k (exitTo 2 q72_1k xN) (finP [.t 4]) = q72_21k s :=
  (W_seq (k := q72_20k) (fun s => q72_20_eq s)).trans (by kernel_rfl)
noncomputable def q72_22 (v2 v3 v8 v9 v10 v55 v73 : AV) (h : Heap) : OX :=
cnd v73
 (ob (evLd true 5 v2 h) fun v75 =>
ob (evFa 1 v3) fun v76 =>
ob (evLd false 1 v76 h) fun v77 =>
ofp (fpCall E (callW E) 0 none true 48 [v75, v77] h) fun f3 =>
oh (callAny E (callW E) 0 none true 48 [v75, v77] h) fun v78 h13 =>
ob (evLd true 5 v2 h13) fun v79 =>
ob (evFa 2 v3) fun v80 =>
ob (evLd false 1 v80 h13) fun v81 =>
ofp (fpCall E (callW E) 0 none true 48 [v79, v81] h13) fun f7 =>
oh (callAny E (callW E) 0 none true 48 [v79, v81] h13) fun v82 h14 =>
ob (evBin .eql v78 v82) fun v83 =>
okK (pairsOk [(ids1 v2, []), ([], []), (ids1 v76, []), f3, (ids1 v2, []), ([], []), (ids1 v80, []), f7, ([], []), ([], [])] [(3, 4), (3, 6)]) <|
(expo1 h14 v83))
 ((q72_21 v2 v3 v8 v9 v10 v55 h))
noncomputable def q72_22k (s : St) : OX := q72_22 (s 2) (s 3) (s 8) (s 9) (s 10) (s 55) (s 73) s.h
theorem q72_22_eq (s : St) : W E 0 c_q72_22 s q72_1k (exitTo 2 q72_1k xN) (finP [.t 4]) = q72_22k s :=
  (W_cond rfl (q72_21_eq s)).trans (by kernel_rfl)
noncomputable def q72_23 (v2 v3 v8 v9 v10 v55 : AV) (h : Heap) : OX :=
ob (evBin .eql v55 (AV.int .i64 4)) fun v74 =>
(q72_22 v2 v3 v8 v9 v10 v55 v74 h)
noncomputable def q72_23k (s : St) : OX := q72_23 (s 2) (s 3) (s 8) (s 9) (s 10) (s 55) s.h
theorem q72_23_eq (s : St) : W E 0 c_q72_23 s q72_1k (exitTo 2 q72_1k xN) (finP [.t 4]) = q72_23k s :=
  (W_seq (k := q72_22k) (fun s => q72_22_eq s)).trans (by kernel_rfl)
noncomputable def q72_24 (v2 v3 v8 v9 v10 v55 v56 : AV) (h : Heap) : OX :=
cnd v56
 (ob (evLd true 5 v2 h) fun v58 =>
ob (evFa 1 v3) fun v59 =>
ob (evLd false 1 v59 h) fun v60 =>
oh (callAny E (callW E) 0 none true 48 [v58, v60] h) fun v61 h15 =>
ob (evBin .eql v61 (AV.int .i64 2)) fun v62 =>
gb v62 false (evFa 5 v3) fun v64 =>
gb v62 false (evLd false 1 v64 h15) fun v65 =>
gb v62 false (evBin .geq v65 (AV.int .i64 (-2147483648))) fun v66 =>
gb v62 false (some v66) fun v67 =>
gb v67 true (evFa 5 v3) fun v68 =>
gb v67 true (evLd false 1 v68 h15) fun v69 =>
gb v67 true (evBin .lss v69 (AV.int .i64 2147483648)) fun v70 =>
gb v62 false (evPick v67 v70 (AV.bool false)) fun v71 =>
ob (evPick v62 (AV.bool true) v71) fun v72 =>
(expo1 h15 v72))
 ((q72_23 v2 v3 v8 v9 v10 v55 h))
noncomputable def q72_24k (s : St) : OX := q72_24 (s 2) (s 3) (s 8) (s 9) (s 10) (s 55) (s 56) s.h
theorem q72_24_eq (s : St) : W E 0 c_q72_24 s q72_1k (exitTo 2 q72_1k xN) (finP [.t 4]) = q72_24k s :=
  (W_cond rfl (q72_23_eq s)).trans (by kernel_rfl)
noncomputable def q72_25 (v2 v3 v8 v9 v10 v55 : AV) (h : Heap) : OX :=
ob (evBin .eql v55 (AV.int .i64 1)) fun v57 =>
(q72_24 v2 v3 v8 v9 v10 v55 v57 h)
noncomputable def q72_25k (s : St) : OX := q72_25 (s 2) (s 3) (s 8) (s 9) (s 10) (s 55) s.h
theorem q72_25_eq (s : St) : W E 0 c_q72_25 s q72_1k (exitTo 2 q72_1k xN) (finP [.t 4]) = q72_25k s :=
  (W_seq (k := q72_24k) (fun s => q72_24_eq s)).trans (by kernel_rfl)
theorem q72_26_eq (s : St) : W E 0 c_q72_26 s q72_1k xN (finP [.t 4]) = q72_25k s :=
  W_block.trans (q72_25_eq s)
noncomputable def q72_27 (v2 v3 v8 v9 v10 : AV) (h : Heap) : OX :=
ob (evFa 0 v3) fun v54 =>
ob (evLd false 1 v54 h) fun v55 =>
(q72_25 v2 v3 v8 v9 v10 v55 h)
noncomputable def q72_27k (s : St) : OX := q72_27 (s 2) (s 3) (s 8) (s 9) (s 10) s.h
theorem q72_27_eq (s : St) : W E 0 c_q72_27 s q72_1k xN (finP [.t 4]) = q72_27k s :=
  (W_seq (k := q72_25k) (fun s => q72_26_eq s)).trans (by kernel_rfl)
theorem q72_28_eq (s : St) : W E 0 c_q72_28 s (finP [.t 4]) xN (finP [.t 4]) = q72_27k s :=
  (W_seq (k := q72_1k) (fun s => q72_1_eq s)).trans (q72_27_eq s)
noncomputable def q72_29 (v2 v3 v8 v9 v10 : AV) (h : Heap) : OX :=
ob (evFa 5 v3) fun v39 =>
ob (evLd false 1 v39 h) fun v40 =>
ob (evBin .geq v40 (AV.int .i64 0)) fun v41 =>
gb v41 true (evFa 5 v3) fun v43 =>
gb v41 true (evLd false 1 v43 h) fun v44 =>
gb v41 true (evBin .lss v44 (AV.int .i64 1000)) fun v45 =>
ob (evPick v41 v45 (AV.bool false)) fun v46 =>
cnd v46
 (ob (evFa 5 v3) fun v48 =>
ob (evLd false 1 v48 h) fun v49 =>
oh (callAny E (callW E) 0 none true 66 [v49] h) fun v50 h16 =>
ob (evExt 0 v50) fun v51 =>
ob (evExt 1 v50) fun v52 =>
ob (evExt 2 v50) fun v53 =>
(q72_27 v2 v3 v51 v52 v53 h16))
 ((q72_27 v2 v3 v8 v9 v10 h))
noncomputable def q72_29k (s : St) : OX := q72_29 (s 2) (s 3) (s 8) (s 9) (s 10) s.h
theorem q72_29_eq (s : St) : W E 0 c_q72_29 s (finP [.t 4]) xN (finP [.t 4]) = q72_29k s :=
  (W_seq (k := q72_27k) (fun s => q72_28_eq s)).trans (by kernel_rfl)
noncomputable def q72_30 (v2 v3 : AV) (h : Heap) : OX :=
(q72_29 v2 v3 (AV.int .i64 0) (AV.int .i64 0) (AV.int .i64 0) h)
noncomputable def q72_30k (s : St) : OX := q72_30 (s 2) (s 3) s.h
theorem q72_30_eq (s : St) : W E 0 c_q72_30 s (finP [.t 4]) xN (finP [.t 4]) = q72_30k s :=
  (W_seq (k := q72_29k) (fun s => q72_29_eq s)).trans (by kernel_rfl)
noncomputable def q72_L31 (v2 v3 v5 v6 v7 : AV) (h : Heap) : OX :=
  W E 0 c_q72_L31 ⟨[(2, v2), (3, v3), (5, v5), (6, v6), (7, v7)], h⟩ q72_30k (exitTo 0 q72_30k xN) (finP [.t 4])
noncomputable def q72_L31k (s : St) : OX := q72_L31 (s 2) (s 3) (s 5) (s 6) (s 7) s.h
theorem q72_L31_eq (s : St) : W E 0 c_q72_L31 s q72_30k (exitTo 0 q72_30k xN) (finP [.t 4]) = q72_L31k s := W_loop_live.trans (by kernel_rfl)
noncomputable def q72_32 (v2 v3 v5 v6 v7 : AV) (h : Heap) : OX :=
ob (evBin .add v7 (AV.int .i64 1)) fun v28 =>
(q72_L31 v2 v3 v5 v6 v28 h)
noncomputable def q72_32k (s : St) : OX := q72_32 (s 2) (s 3) (s 5) (s 6) (s 7) s.h
theorem q72_32_eq (s : St) : W E 0 c_q72_32 s q72_L31k (exitTo 0 q72_30k xN) (finP [.t 4]) = q72_32k s :=
  by kernel_rfl
noncomputable def q72_33 (v2 v3 v5 v6 v7 : AV) (h : Heap) : OX :=
ob (evLd true 5 v2 h) fun v29 =>
ob (evIxs 1 v6 v7) fun v32 =>
ob (evLd false 1 v32 h) fun v33 =>
ob (evIxstr v5 v7) fun v36 =>
oh (callAny E (callW E) 0 none true 65 [v29, v33, v36] h) fun v37 h17 =>
ob (evUn .not v37) fun v38 =>
cnd v38
 ((expo1 h17 (AV.bool false)))
 ((q72_32 v2 v3 v5 v6 v7 h17))
noncomputable def q72_33k (s : St) : OX := q72_33 (s 2) (s 3) (s 5) (s 6) (s 7) s.h
theorem q72_33_eq (s : St) : W E 0 c_q72_33 s q72_L31k (exitTo 0 q72_30k xN) (finP [.t 4]) = q72_33k s :=
  (W_seq (k := q72_32k) (fun s => q72_32_eq s)).trans (by kernel_rfl)
noncomputable def q72_34 (v2 v3 v5 v6 v7 : AV) (h : Heap) : OX :=
ob (evBin .lss v7 (AV.int .i64 4)) fun v26 =>
cnd v26
 ((q72_33 v2 v3 v5 v6 v7 h))
 ((q72_30 v2 v3 h))
noncomputable def q72_34k (s : St) : OX := q72_34 (s 2) (s 3) (s 5) (s 6) (s 7) s.h
theorem q72_34_eq (s : St) : W E 0 c_q72_34 s q72_L31k (exitTo 0 q72_30k xN) (finP [.t 4]) = q72_34k s :=
  (W_seq (k := q72_33k) (fun s => q72_33_eq s)).trans (by kernel_rfl)
theorem q72_L31_go (v2 v3 v5 v6 v7 : AV) (h : Heap) : q72_L31 v2 v3 v5 v6 v7 h = (q72_34 v2 v3 v5 v6 v7 h) :=
  W_loop.trans ((W_congr _ _ _ (n' := q72_L31k) (fun s => q72_L31_eq s)).trans ((q72_34_eq _).trans (by kernel_rfl)))
theorem q72_35_eq (s : St) : W E 0 c_q72_35 s q72_30k xN (finP [.t 4]) = q72_L31k s :=
  W_block.trans (q72_L31_eq s)
noncomputable def q72_36 (v2 v3 v5 v6 : AV) (h : Heap) : OX :=
(q72_L31 v2 v3 v5 v6 (AV.int .i64 0) h)
noncomputable def q72_36k (s : St) : OX := q72_36 (s 2) (s 3) (s 5) (s 6) s.h
theorem q72_36_eq (s : St) : W E 0 c_q72_36 s q72_30k xN (finP [.t 4]) = q72_36k s :=
  (W_seq (k := q72_L31k) (fun s => q72_35_eq s)).trans (by kernel_rfl)
theorem q72_37_eq (s : St) : W E 0 c_q72_37 s (finP [.t 4]) xN (finP [.t 4]) = q72_36k s :=
  (W_seq (k := q72_30k) (fun s => q72_30_eq s)).trans (q72_36_eq s)
noncomputable def q72_38 (v2 v3 v5 : AV) (h : Heap) : OX :=
ob (evFa 1 v3) fun v16 =>
ob (evLd false 1 v16 h) fun v17 =>
ob (evFa 2 v3) fun v18 =>
ob (evLd false 1 v18 h) fun v19 =>
ob (evFa 3 v3) fun v20 =>
ob (evLd false 1 v20 h) fun v21 =>
ob (evFa 4 v3) fun v22 =>
ob (evLd false 1 v22 h) fun v23 =>
oh (buildSC 0 (some 2) 1 4 [(.int .i64 0)] [(0, v17), (1, v19), (2, v21), (3, v23)] h) fun v24 h18 =>
(q72_36 v2 v3 v5 v24 h18)
noncomputable def q72_38k (s : St) : OX := q72_38 (s 2) (s 3) (s 5) s.h
theorem q72_38_eq (s : St) : W E 0 c_q72_38 s (finP [.t 4]) xN (finP [.t 4]) = q72_38k s :=
  (W_seq (k := q72_36k) (fun s => q72_37_eq s)).trans (by kernel_rfl)
noncomputable def q72_39 (v2 v3 v5 : AV) (h : Heap) : OX :=
ob (evBin .eql v5 (AV.str [])) fun v15 =>
cnd v15
 ((expo1 h (AV.bool false)))
 ((q72_38 v2 v3 v5 h))
noncomputable def q72_39k (s : St) : OX := q72_39 (s 2) (s 3) (s 5) s.h
theorem q72_39_eq (s : St) : W E 0 c_q72_39 s (finP [.t 4]) xN (finP [.t 4]) = q72_39k s :=
  (W_seq (k := q72_38k) (fun s => q72_38_eq s)).trans (by kernel_rfl)
noncomputable def q72_40 (v2 v3 : AV) (h : Heap) : OX :=
ob (evFa 0 v3) fun v11 =>
ob (evLd false 1 v11 h) fun v12 =>
oh (callAny E (callW E) 0 none true 38 [v12] h) fun v13 h19 =>
(q72_39 v2 v3 v13 h19)
noncomputable def q72_40k (s : St) : OX := q72_40 (s 2) (s 3) s.h
theorem q72_40_eq (s : St) : W E 0 c_q72_40 s (finP [.t 4]) xN (finP [.t 4]) = q72_40k s :=
  (W_seq (k := q72_39k) (fun s => q72_39_eq s)).trans (by kernel_rfl)
noncomputable def q72_41 (v0 v1 : AV) (h : Heap) : OX :=
oh (newC 0 (some 0) (cellsOf v0) h) fun v2 h20 =>
oh (newC 0 (some 1) (cellsOf v1) h20) fun v3 h21 =>
(q72_40 v2 v3 h21)
noncomputable def q72_41k (s : St) : OX := q72_41 (s 0) (s 1) s.h
theorem q72_41_eq (s : St) : W E 0 c_q72_41 s (finP [.t 4]) xN (finP [.t 4]) = q72_41k s :=
  (W_seq (k := q72_40k) (fun s => q72_40_eq s)).trans (by kernel_rfl)
@[simp] theorem pure_64 : E.pure 64 = true := rfl
theorem x_q72 (v0 v1 : AV) : (callW E).p 64 [v0, v1] = q72_41 v0 v1 [⟨0, .dead⟩, ⟨0, .dead⟩, ⟨0, .dead⟩] :=
  (callP_W (cf := c_q72) (by kernel_rfl) rfl).trans ((q72_41_eq _).trans (by kernel_rfl))
noncomputable def q73_1 (v0 v1 : AV) (h : Heap) : OX :=
oh (newC 0 (some 0) (cellsOf v0) h) fun v2 h1 =>
ob (evBin .geq v1 (AV.int .i64 0)) fun v6 =>
gb v6 true (some v1) fun v8 =>
gb v6 true (evFa 3 v2) fun v9 =>
gb v6 true (evLd false 1 v9 h1) fun v10 =>
gb v6 true (evLen 1 v10 h1) fun v11 =>
gb v6 true (evBin .lss v8 v11) fun v12 =>
ob (evPick v6 v12 (AV.bool false)) fun v13 =>
(expo1 h1 v13)
noncomputable def q73_1k (s : St) : OX := q73_1 (s 0) (s 1) s.h
theorem q73_1_eq (s : St) : W E 0 c_q73_1 s (finP [.t 4]) xN (finP [.t 4]) = q73_1k s :=
  by kernel_rfl
@[simp] theorem pure_49 : E.pure 49 = true := rfl
theorem x_q73 (v0 v1 : AV) : (callW E).p 49 [v0, v1] = q73_1 v0 v1 [⟨0, .dead⟩] :=
  (callP_W (cf := c_q73) (by kernel_rfl) rfl).trans ((q73_1_eq _).trans (by kernel_rfl))
noncomputable def q74_1 (v0 v3 : AV) (h : Heap) : OX :=
ob (evIxs 1 v3 v0) fun v15 =>
ob (evLd false 1 v15 h) fun v16 =>
(expo1 h v16)
noncomputable def q74_1k (s : St) : OX := q74_1 (s 0) (s 3) s.h
theorem q74_1_eq (s : St) : W E 0 c_q74_1 s (finP [.t 2]) xN (finP [.t 2]) = q74_1k s :=
  by kernel_rfl
noncomputable def q74_2 (v0 v3 : AV) (h : Heap) : OX :=
ob (evBin .lss v0 (AV.int .i64 1)) fun v6 =>
gb v6 false (some v0) fun v8 =>
gb v6 false (some v3) fun v9 =>
gb v6 false (evLen 1 v9 h) fun v10 =>
gb v6 false (evBin .geq v8 v10) fun v11 =>
ob (evPick v6 (AV.bool true) v11) fun v12 =>
cnd v12
 ((expo1 h (AV.str [])))
 ((q74_1 v0 v3 h))
noncomputable def q74_2k (s : St) : OX := q74_2 (s 0) (s 3) s.h
theorem q74_2_eq (s : St) : W E 0 c_q74_2 s (finP [.t 2]) xN (finP [.t 2]) = q74_2k s :=
  (W_seq (k := q74_1k) (fun s => q74_1_eq s)).trans (by kernel_rfl)
noncomputable def q74_3 (v0 : AV) (h : Heap) : OX :=
oh (buildSC 0 (some 0) 1 34 [(.str [])] [(0, (AV.str [])), (1, (AV.str [110, 45, 45, 45])), (2, (AV.str [51, 45, 45, 45])), (3, (AV.str [51, 45, 45, 45])), (4, (AV.str [42, 61, 45, 45])), (5, (AV.str [63, 63, 63, 63])), (6, (AV.str [63, 63, 63, 63])), (7, (AV.str [45, 110, 45, 45])), (8, (AV.str [45, 51, 45, 45])), (9, (AV.str [45, 51, 49, 45])), (10, (AV.str [45, 49, 45, 45])), (11, (AV.str [45, 51, 51, 45])), (12, (AV.str [45, 51, 45, 45])), (13, (AV.str [42, 51, 49, 45])), (14, (AV.str [45, 51, 49, 42])), (15, (AV.str [49, 51, 45, 45])), (16, (AV.str [42, 51, 45, 45])), (17, (AV.str [45, 51, 42, 45])), (18, (AV.str [42, 45, 45, 45])), (19, (AV.str [45, 42, 45, 45])), (20, (AV.str [51, 45, 45, 45])), (21, (AV.str [51, 49, 45, 45])), (22, (AV.str [49, 51, 45, 45])), (23, (AV.str [63, 63, 63, 63])), (24, (AV.str [63, 63, 63, 63])), (25, (AV.str [63, 63, 63, 63])), (26, (AV.str [63, 63, 63, 63])), (27, (AV.str [45, 45, 45, 45])), (28, (AV.str [45, 49, 49, 45])), (29, (AV.str [45, 51, 63, 45])), (30, (AV.str [45, 63, 45, 45])), (31, (AV.str [45, 51, 45, 45])), (32, (AV.str [51, 45, 45, 45])), (33, (AV.str [45, 45, 45, 45]))] h) fun v4 h1 =>
(q74_2 v0 v4 h1)
noncomputable def q74_3k (s : St) : OX := q74_3 (s 0) s.h
theorem q74_3_eq (s : St) : W E 0 c_q74_3 s (finP [.t 2]) xN (finP [.t 2]) = q74_3k s :=
  (W_seq (k := q74_2k) (fun s => q74_2_eq s)).trans (by kernel_rfl)
noncomputable def q74_4 (v0 : AV) (h : Heap) : OX :=
(q74_3 v0 h)
noncomputable def q74_4k (s : St) : OX := q74_4 (s 0) s.h
theorem q74_4_eq (s : St) : W E 0 c_q74_4 s (finP [.t 2]) xN (finP [.t 2]) = q74_4k s :=
  (W_seq (k := q74_3k) (fun s => q74_3_eq s)).trans (by kernel_rfl)
@[simp] theorem pure_38 : E.pure 38 = true := rfl
theorem x_q74 (v0 : AV) : (callW E).p 38 [v0] = q74_4 v0 [⟨0, .dead⟩] :=
  (callP_W (cf := c_q74) (by kernel_rfl) rfl).trans ((q74_4_eq _).trans (by kernel_rfl))
noncomputable def q106_1 (h : Heap) : OX :=
(expo1 h (AV.int .i64 (-1)))
noncomputable def q106_1k (s : St) : OX := q106_1 s.h
theorem q106_1_eq (s : St) : W E 0 c_q106_1 s (finP [.t 4]) xN (finP [.t 4]) = q106_1k s :=
  by kernel_rfl
noncomputable def q106_L2 (v0 v1 v7 v8 : AV) (h : Heap) : OX :=
  W E 0 c_q106_L2 ⟨[(0, v0), (1, v1), (7, v7), (8, v8)], h⟩ q106_1k (exitTo 0 q106_1k xN) (finP [.t 4])
noncomputable def q106_L2k (s : St) : OX := q106_L2 (s 0) (s 1) (s 7) (s 8) s.h
theorem q106_L2_eq (s : St) : W E 0 c_q106_L2 s q106_1k (exitTo 0 q106_1k xN) (finP [.t 4]) = q106_L2k s := W_loop_live.trans (by kernel_rfl)
noncomputable def q106_3 (v0 v1 v7 v8 : AV) (h : Heap) : OX :=
ob (evBin .add v8 (AV.int .i64 1)) fun v18 =>
(q106_L2 v0 v1 v7 v18 h)
noncomputable def q106_3k (s : St) : OX := q106_3 (s 0) (s 1) (s 7) (s 8) s.h
theorem q106_3_eq (s : St) : W E 0 c_q106_3 s q106_L2k (exitTo 0 q106_1k xN) (finP [.t 4]) = q106_3k s :=
  by kernel_rfl
noncomputable def q106_4 (v0 v1 v7 v8 : AV) (h : Heap) : OX :=
ob (evIxs 1 v0 v8) fun v14 =>
ob (evLd false 1 v14 h) fun v15 =>
ob (evBin .eql v1 v15) fun v16 =>
cnd v16
 ((expo1 h v8))
 ((q106_3 v0 v1 v7 v8 h))
noncomputable def q106_4k (s : St) : OX := q106_4 (s 0) (s 1) (s 7) (s 8) s.h
theorem q106_4_eq (s : St) : W E 0 c_q106_4 s q106_L2k (exitTo 0 q106_1k xN) (finP [.t 4]) = q106_4k s :=
  (W_seq (k := q106_3k) (fun s => q106_3_eq s)).trans (by kernel_rfl)
noncomputable def q106_5 (v0 v1 v7 v8 v9 : AV) (h : Heap) : OX :=
cnd v9
 ((q106_4 v0 v1 v7 v8 h))
 ((q106_1 h))
noncomputable def q106_5k (s : St) : OX := q106_5 (s 0) (s 1) (s 7) (s 8) (s 9) s.h
theorem q106_5_eq (s : St) : W E 0 c_q106_5 s q106_L2k (exitTo 0 q106_1k xN) (finP [.t 4]) = q106_5k s :=
  (W_seq (k := q106_4k) (fun s => q106_4_eq s)).trans (by kernel_rfl)
noncomputable def q106_6 (v0 v1 v7 v8 : AV) (h : Heap) : OX :=
ob (evBin .lss v8 v7) fun v9 =>
(q106_5 v0 v1 v7 v8 v9 h)
noncomputable def q106_6k (s : St) : OX := q106_6 (s 0) (s 1) (s 7) (s 8) s.h
theorem q106_6_eq (s : St) : W E 0 c_q106_6 s q106_L2k (exitTo 0 q106_1k xN) (finP [.t 4]) = q106_6k s :=
  (W_seq (k := q106_5k) (fun s => q106_5_eq s)).trans (by kernel_rfl)
theorem q106_L2_go (v0 v1 v7 v8 : AV) (h : Heap) : q106_L2 v0 v1 v7 v8 h = (q106_6 v0 v1 v7 v8 h) :=
  W_loop.trans ((W_congr _ _ _ (n' := q106_L2k) (fun s => q106_L2_eq s)).trans ((q106_6_eq _).trans (by kernel_rfl)))
theorem q106_7_eq (s : St) : W E 0 c_q106_7 s q106_1k xN (finP [.t 4]) = q106_L2k s :=
  W_block.trans (q106_L2_eq s)
noncomputable def q106_8 (v0 v1 : AV) (h : Heap) : OX :=
ob (evLen 1 v0 h) fun v7 =>
(q106_L2 v0 v1 v7 (AV.int .i64 0) h)
noncomputable def q106_8k (s : St) : OX := q106_8 (s 0) (s 1) s.h
theorem q106_8_eq (s : St) : W E 0 c_q106_8 s q106_1k xN (finP [.t 4]) = q106_8k s :=
  (W_seq (k := q106_L2k) (fun s => q106_7_eq s)).trans (by kernel_rfl)
theorem q106_9_eq (s : St) : W E 0 c_q106_9 s (finP [.t 4]) xN (finP [.t 4]) = q106_8k s :=
  (W_seq (k := q106_1k) (fun s => q106_1_eq s)).trans (q106_8_eq s)
noncomputable def q106_10 (v0 v1 : AV) (h : Heap) : OX :=
(q106_8 v0 v1 h)
noncomputable def q106_10k (s : St) : OX := q106_10 (s 0) (s 1) s.h
theorem q106_10_eq (s : St) : W E 0 c_q106_10 s (finP [.t 4]) xN (finP [.t 4]) = q106_10k s :=
  (W_seq (k := q106_8k) (fun s => q106_9_eq s)).trans (by kernel_rfl)
@[simp] theorem pure_45 : E.pure 45 = true := rfl
theorem x_q106 (v0 v1 : AV) : (callW E).p 45 [v0, v1] = q106_10 v0 v1 [] :=
  (callP_W (cf := c_q106) (by kernel_rfl) rfl).trans ((q106_10_eq _).trans (by kernel_rfl))
noncomputable def q13_1 (v0 : AV) (h : Heap) : OX :=
oh (newC 0 (some 0) (cellsOf v0) h) fun v1 h1 =>
ob (evFa 0 v1) fun v3 =>
ob (evLd false 1 v3 h1) fun v4 =>
ob (evBin .geq v4 (AV.int .i64 23)) fun v5 =>
gb v5 true (evFa 0 v1) fun v7 =>
gb v5 true (evLd false 1 v7 h1) fun v8 =>
gb v5 true (evBin .leq v8 (AV.int .i64 26)) fun v9 =>
ob (evPick v5 v9 (AV.bool false)) fun v10 =>
(expo1 h1 v10)
noncomputable def q13_1k (s : St) : OX := q13_1 (s 0) s.h
theorem q13_1_eq (s : St) : W E 0 c_q13_1 s (finP [.t 2]) xN (finP [.t 2]) = q13_1k s :=
  by kernel_rfl
@[simp] theorem pure_17 : E.pure 17 = true := rfl
theorem x_q13 (v0 : AV) : (callW E).p 17 [v0] = q13_1 v0 [⟨0, .dead⟩] :=
  (callP_W (cf := c_q13) (by kernel_rfl) rfl).trans ((q13_1_eq _).trans (by kernel_rfl))
@[simp] theorem pure_39 : E.pure 39 = true := rfl
@[simp] theorem pure_40 : E.pure 40 = true := rfl
@[simp] theorem pure_41 : E.pure 41 = true := rfl
noncomputable def q23_1 (v2 v3 : AV) (h : Heap) : OX :=
ob (evLd true 9 v3 h) fun v183 =>
oh (callAny E (callW E) 0 none true 22 [v183] h) fun v184 h1 =>
ob (evUn .not v184) fun v185 =>
gb v185 false (evFa 6 v3) fun v187 =>
gb v185 false (evLd false 1 v187 h1) fun v188 =>
gb v185 false (evBin .geq v188 (AV.int .i64 0)) fun v189 =>
gb v185 false (some v189) fun v190 =>
gb v190 true (evFa 6 v3) fun v191 =>
gb v190 true (evLd false 1 v191 h1) fun v192 =>
gb v190 true (evFa 3 v2) fun v193 =>
gb v190 true (evLd false 1 v193 h1) fun v194 =>
gb v190 true (evLen 1 v194 h1) fun v195 =>
gb v190 true (evBin .lss v192 v195) fun v196 =>
gb v185 false (evPick v190 v196 (AV.bool false)) fun v197 =>
ob (evPick v185 (AV.bool true) v197) fun v198 =>
(expo1 h1 v198)
noncomputable def q23_1k (s : St) : OX := q23_1 (s 2) (s 3) s.h
theorem q23_1_eq (s : St) : W E 0 c_q23_1 s (finP [.t 4]) xN (finP [.t 4]) = q23_1k s :=
  by kernel_rfl
noncomputable def q23_2 (v2 v3 : AV) (h : Heap) : OX :=
ob (evFa 0 v3) fun v105 =>
ob (evLd false 1 v105 h) fun v106 =>
ob (evBin .eql v106 (AV.int .i64 1)) fun v108 =>
cnd v108
 (ob (evFa 0 v2) fun v109 =>
ob (evLd false 1 v109 h) fun v110 =>
ob (evFa 1 v3) fun v111 =>
ob (evLd false 1 v111 h) fun v112 =>
ob (evIxs 1 v110 v112) fun v113 =>
ob (evLd false 1 v113 h) fun v114 =>
ob (evBin .neq v114 (AV.int .i64 3)) fun v115 =>
gb v115 true (evFa 0 v2) fun v117 =>
gb v115 true (evLd false 1 v117 h) fun v118 =>
gb v115 true (evFa 1 v3) fun v119 =>
gb v115 true (evLd false 1 v119 h) fun v120 =>
gb v115 true (evIxs 1 v118 v120) fun v121 =>
gb v115 true (evLd false 1 v121 h) fun v122 =>
gb v115 true (evBin .eql v122 (AV.int .i64 2)) fun v123 =>
gb v115 true (some v123) fun v124 =>
gb v124 false (evFa 5 v3) fun v125 =>
gb v124 false (evLd false 1 v125 h) fun v126 =>
gb v124 false (evFa 5 v3) fun v127 =>
gb v124 false (evLd false 1 v127 h) fun v128 =>
gb v124 false (evCvi .i32 v128) fun v129 =>
gb v124 false (evCvi .i64 v129) fun v130 =>
gb v124 false (evBin .eql v126 v130) fun v131 =>
gb v115 true (evPick v124 (AV.bool true) v131) fun v132 =>
ob (evPick v115 v132 (AV.bool false)) fun v133 =>
(expo1 h v133))
 (ob (evBin .eql v106 (AV.int .i64 4)) fun v135 =>
cnd v135
 (ob (evFa 0 v2) fun v136 =>
ob (evLd false 1 v136 h) fun v137 =>
ob (evFa 1 v3) fun v138 =>
ob (evLd false 1 v138 h) fun v139 =>
ob (evIxs 1 v137 v139) fun v140 =>
ob (evLd false 1 v140 h) fun v141 =>
ob (evFa 0 v2) fun v142 =>
ob (evLd false 1 v142 h) fun v143 =>
ob (evFa 2 v3) fun v144 =>
ob (evLd false 1 v144 h) fun v145 =>
ob (evIxs 1 v143 v145) fun v146 =>
ob (evLd false 1 v146 h) fun v147 =>
ob (evBin .eql v141 v147) fun v148 =>
(expo1 h v148))
 (ob (evBin .eql v106 (AV.int .i64 7)) fun v150 =>
cnd v150
 (ob (evFa 0 v2) fun v151 =>
ob (evLd false 1 v151 h) fun v152 =>
ob (evFa 2 v3) fun v153 =>
ob (evLd false 1 v153 h) fun v154 =>
ob (evIxs 1 v152 v154) fun v155 =>
ob (evLd false 1 v155 h) fun v156 =>
ob (evBin .neq v156 (AV.int .i64 3)) fun v157 =>
(expo1 h v157))
 (ob (evBin .eql v106 (AV.int .i64 30)) fun v159 =>
cnd v159
 (ob (evFa 2 v3) fun v160 =>
ob (evLd false 1 v160 h) fun v161 =>
ob (evBin .eql v161 (AV.int .i64 (-1))) fun v162 =>
ob (evFa 2 v2) fun v163 =>
ob (evLd false 1 v163 h) fun v164 =>
ob (evBin .eql v164 (AV.int .i64 0)) fun v165 =>
ob (evEqb false v162 v165) fun v166 =>
gb v166 true (evFa 2 v3) fun v168 =>
gb v166 true (evLd false 1 v168 h) fun v169 =>
gb v166 true (evBin .eql v169 (AV.int .i64 (-1))) fun v170 =>
gb v166 true (some v170) fun v171 =>
gb v171 false (evFa 0 v2) fun v172 =>
gb v171 false (evLd false 1 v172 h) fun v173 =>
gb v171 false (evFa 2 v3) fun v174 =>
gb v171 false (evLd false 1 v174 h) fun v175 =>
gb v171 false (evIxs 1 v173 v175) fun v176 =>
gb v171 false (evLd false 1 v176 h) fun v177 =>
gb v171 false (evFa 2 v2) fun v178 =>
gb v171 false (evLd false 1 v178 h) fun v179 =>
gb v171 false (evBin .eql v177 v179) fun v180 =>
gb v166 true (evPick v171 (AV.bool true) v180) fun v181 =>
ob (evPick v166 v181 (AV.bool false)) fun v182 =>
(expo1 h v182))
 ((q23_1 v2 v3 h)))))
noncomputable def q23_2k (s : St) : OX := q23_2 (s 2) (s 3) s.h
theorem q23_2_eq (s : St) : W E 0 c_q23_2 s (finP [.t 4]) xN (finP [.t 4]) = q23_2k s :=
  (W_seq (k := q23_1k) (fun s => q23_1_eq s)).trans (by kernel_rfl)
noncomputable def q23_L3 (v2 v3 v63 v64 v65 : AV) (h : Heap) : OX :=
  W E 0 c_q23_L3 ⟨[(2, v2), (3, v3), (63, v63), (64, v64), (65, v65)], h⟩ q23_2k (exitTo 2 q23_2k xN) (finP [.t 4])
noncomputable def q23_L3k (s : St) : OX := q23_L3 (s 2) (s 3) (s 63) (s 64) (s 65) s.h
theorem q23_L3_eq (s : St) : W E 0 c_q23_L3 s q23_2k (exitTo 2 q23_2k xN) (finP [.t 4]) = q23_L3k s := W_loop_live.trans (by kernel_rfl)
noncomputable def q23_4 (v2 v3 v63 v64 v65 : AV) (h : Heap) : OX :=
ob (evBin .add v65 (AV.int .i64 1)) fun v104 =>
(q23_L3 v2 v3 v63 v64 v104 h)
noncomputable def q23_4k (s : St) : OX := q23_4 (s 2) (s 3) (s 63) (s 64) (s 65) s.h
theorem q23_4_eq (s : St) : W E 0 c_q23_4 s q23_L3k (exitTo 2 q23_2k xN) (finP [.t 4]) = q23_4k s :=
  by kernel_rfl
noncomputable def q23_5 (v2 v3 v9 v10 v63 v64 v65 : AV) (h : Heap) : OX :=
ob (evBin .lss v10 (AV.int .i64 0)) fun v74 =>
gb v74 false (some v10) fun v76 =>
gb v74 false (evFa 0 v2) fun v77 =>
gb v74 false (evLd false 1 v77 h) fun v78 =>
gb v74 false (evLen 1 v78 h) fun v79 =>
gb v74 false (evBin .geq v76 v79) fun v80 =>
ob (evPick v74 (AV.bool true) v80) fun v81 =>
gb v81 false (some v9) fun v83 =>
gb v81 false (evBin .eql v83 (AV.int .i64 0)) fun v84 =>
gb v81 false (some v84) fun v85 =>
gb v85 true (evFa 0 v3) fun v86 =>
gb v85 true (evLd false 1 v86 h) fun v87 =>
gb v85 true (evBin .eql v87 (AV.int .i64 24)) fun v88 =>
gb v85 true (some v88) fun v89 =>
gb v89 false (evFa 0 v3) fun v90 =>
gb v89 false (evLd false 1 v90 h) fun v91 =>
gb v89 false (evBin .eql v91 (AV.int .i64 25)) fun v92 =>
gb v85 true (evPick v89 (AV.bool true) v92) fun v93 =>
gb v81 false (evPick v85 v93 (AV.bool false)) fun v94 =>
gb v81 false (some v94) fun v95 =>
gb v95 true (evFa 0 v2) fun v96 =>
gb v95 true (evLd false 1 v96 h) fun v97 =>
gb v95 true (some v10) fun v98 =>
gb v95 true (evIxs 1 v97 v98) fun v99 =>
gb v95 true (evLd false 1 v99 h) fun v100 =>
gb v95 true (evBin .neq v100 (AV.int .i64 3)) fun v101 =>
gb v81 false (evPick v95 v101 (AV.bool false)) fun v102 =>
ob (evPick v81 (AV.bool true) v102) fun v103 =>
cnd v103
 ((expo1 h (AV.bool false)))
 ((q23_4 v2 v3 v63 v64 v65 h))
noncomputable def q23_5k (s : St) : OX := q23_5 (s 2) (s 3) (s 9) (s 10) (s 63) (s 64) (s 65) s.h
theorem q23_5_eq (s : St) : W E 0 c_q23_5 s q23_4k (exitTo 3 q23_4k (exitTo 2 q23_2k xN)) (finP [.t 4]) = q23_5k s :=
  by kernel_rfl
noncomputable def q23_6 (v2 v3 v9 v10 v63 v64 v65 : AV) (h : Heap) : OX :=
ob (evLd true 9 v3 h) fun v70 =>
oh (callAny E (callW E) 0 none true 17 [v70] h) fun v71 h2 =>
ob (evUn .not v71) fun v72 =>
cnd v72
 ((q23_2 v2 v3 h2))
 ((q23_5 v2 v3 v9 v10 v63 v64 v65 h2))
noncomputable def q23_6k (s : St) : OX := q23_6 (s 2) (s 3) (s 9) (s 10) (s 63) (s 64) (s 65) s.h
theorem q23_6_eq (s : St) : W E 0 c_q23_6 s q23_4k (exitTo 3 q23_4k (exitTo 2 q23_2k xN)) (finP [.t 4]) = q23_6k s :=
  (W_seq (k := q23_5k) (fun s => q23_5_eq s)).trans (by kernel_rfl)
noncomputable def q23_7 (v2 v3 v63 v64 v65 : AV) (h : Heap) : OX :=
ob (evIxs 1 v63 v65) fun v68 =>
ob (evLd false 1 v68 h) fun v69 =>
(q23_6 v2 v3 v65 v69 v63 v64 v65 h)
noncomputable def q23_7k (s : St) : OX := q23_7 (s 2) (s 3) (s 63) (s 64) (s 65) s.h
theorem q23_7_eq (s : St) : W E 0 c_q23_7 s q23_4k (exitTo 3 q23_4k (exitTo 2 q23_2k xN)) (finP [.t 4]) = q23_7k s :=
  (W_seq (k := q23_6k) (fun s => q23_6_eq s)).trans (by kernel_rfl)
theorem q23_8_eq (s : St) : W E 0 c_q23_8 s q23_4k (exitTo 2 q23_2k xN) (finP [.t 4]) = q23_7k s :=
  W_block.trans (q23_7_eq s)
theorem q23_9_eq (s : St) : W E 0 c_q23_9 s q23_L3k (exitTo 2 q23_2k xN) (finP [.t 4]) = q23_7k s :=
  (W_seq (k := q23_4k) (fun s => q23_4_eq s)).trans (q23_8_eq s)
noncomputable def q23_10 (v2 v3 v63 v64 v65 v66 : AV) (h : Heap) : OX :=
cnd v66
 ((q23_7 v2 v3 v63 v64 v65 h))
 ((q23_2 v2 v3 h))
noncomputable def q23_10k (s : St) : OX := q23_10 (s 2) (s 3) (s 63) (s 64) (s 65) (s 66) s.h
theorem q23_10_eq (s : St) : W E 0 c_q23_10 s q23_L3k (exitTo 2 q23_2k xN) (finP [.t 4]) = q23_10k s :=
  (W_seq (k := q23_7k) (fun s => q23_9_eq s)).trans (by kernel_rfl)
noncomputable def q23_11 (v2 v3 v63 v64 v65 : AV) (h : Heap) : OX :=
ob (evBin .lss v65 v64) fun v66 =>
(q23_10 v2 v3 v63 v64 v65 v66 h)
noncomputable def q23_11k (s : St) : OX := q23_11 (s 2) (s 3) (s 63) (s 64) (s 65) s.h
theorem q23_11_eq (s : St) : W E 0 c_q23_11 s q23_L3k (exitTo 2 q23_2k xN) (finP [.t 4]) = q23_11k s :=
  (W_seq (k := q23_10k) (fun s => q23_10_eq s)).trans (by kernel_rfl)
theorem q23_L3_go (v2 v3 v63 v64 v65 : AV) (h : Heap) : q23_L3 v2 v3 v63 v64 v65 h = (q23_11 v2 v3 v63 v64 v65 h) :=
  W_loop.trans ((W_congr _ _ _ (n' := q23_L3k) (fun s => q23_L3_eq s)).trans ((q23_11_eq _).trans (by kernel_rfl)))
theorem q23_12_eq (s : St) : W E 0 c_q23_12 s q23_2k xN (finP [.t 4]) = q23_L3k s :=
  W_block.trans (q23_L3_eq s)
noncomputable def q23_13 (v2 v3 : AV) (h : Heap) : OX :=
ob (evFa 8 v3) fun v62 =>
ob (evLd false 1 v62 h) fun v63 =>
ob (evLen 1 v63 h) fun v64 =>
(q23_L3 v2 v3 v63 v64 (AV.int .i64 0) h)
noncomputable def q23_13k (s : St) : OX := q23_13 (s 2) (s 3) s.h
theorem q23_13_eq (s : St) : W E 0 c_q23_13 s q23_2k xN (finP [.t 4]) = q23_13k s :=
  (W_seq (k := q23_L3k) (fun s => q23_12_eq s)).trans (by kernel_rfl)
theorem q23_14_eq (s : St) : W E 0 c_q23_14 s (finP [.t 4]) xN (finP [.t 4]) = q23_13k s :=
  (W_seq (k := q23_2k) (fun s => q23_2_eq s)).trans (q23_13_eq s)
noncomputable def q23_L15 (v2 v3 v5 v26 v27 : AV) (h : Heap) : OX :=
  W E 0 c_q23_L15 ⟨[(2, v2), (3, v3), (5, v5), (26, v26), (27, v27)], h⟩ q23_13k (exitTo 0 q23_13k xN) (finP [.t 4])
noncomputable def q23_L15k (s : St) : OX := q23_L15 (s 2) (s 3) (s 5) (s 26) (s 27) s.h
theorem q23_L15_eq (s : St) : W E 0 c_q23_L15 s q23_13k (exitTo 0 q23_13k xN) (finP [.t 4]) = q23_L15k s := W_loop_live.trans (by kernel_rfl)
noncomputable def q23_16 (v2 v3 v5 v26 v27 : AV) (h : Heap) : OX :=
ob (evBin .add v27 (AV.int .i64 1)) fun v61 =>
(q23_L15 v2 v3 v5 v26 v61 h)
noncomputable def q23_16k (s : St) : OX := q23_16 (s 2) (s 3) (s 5) (s 26) (s 27) s.h
theorem q23_16_eq (s : St) : W E 0 c_q23_16 s q23_L15k (exitTo 0 q23_13k xN) (finP [.t 4]) = q23_16k s :=
  by kernel_rfl
noncomputable def q23_17 (v2 v3 v5 v7 v8 v26 v27 : AV) (h : Heap) : OX :=
ob (evBin .lss v8 (AV.int .i64 0)) fun v36 =>
gb v36 false (some v8) fun v38 =>
gb v36 false (evFa 0 v2) fun v39 =>
gb v36 false (evLd false 1 v39 h) fun v40 =>
gb v36 false (evLen 1 v40 h) fun v41 =>
gb v36 false (evBin .geq v38 v41) fun v42 =>
ob (evPick v36 (AV.bool true) v42) fun v43 =>
gb v43 false (some v7) fun v45 =>
gb v43 false (evIxa 4 1 v5 v45) fun v46 =>
gb v43 false (evLd false 1 v46 h) fun v47 =>
gb v43 false (evBin .gtr v47 (AV.int .i64 0)) fun v48 =>
gb v43 false (some v48) fun v49 =>
gb v49 true (evFa 0 v2) fun v50 =>
gb v49 true (evLd false 1 v50 h) fun v51 =>
gb v49 true (some v8) fun v52 =>
gb v49 true (evIxs 1 v51 v52) fun v53 =>
gb v49 true (evLd false 1 v53 h) fun v54 =>
gb v49 true (some v7) fun v55 =>
gb v49 true (evIxa 4 1 v5 v55) fun v56 =>
gb v49 true (evLd false 1 v56 h) fun v57 =>
gb v49 true (evBin .neq v54 v57) fun v58 =>
gb v43 false (evPick v49 v58 (AV.bool false)) fun v59 =>
ob (evPick v43 (AV.bool true) v59) fun v60 =>
cnd v60
 ((expo1 h (AV.bool false)))
 ((q23_16 v2 v3 v5 v26 v27 h))
noncomputable def q23_17k (s : St) : OX := q23_17 (s 2) (s 3) (s 5) (s 7) (s 8) (s 26) (s 27) s.h
theorem q23_17_eq (s : St) : W E 0 c_q23_17 s q23_16k (exitTo 1 q23_16k (exitTo 0 q23_13k xN)) (finP [.t 4]) = q23_17k s :=
  by kernel_rfl
noncomputable def q23_18 (v2 v3 v5 v7 v8 v26 v27 : AV) (h : Heap) : OX :=
ob (evIxa 4 1 v5 v7) fun v32 =>
ob (evLd false 1 v32 h) fun v33 =>
ob (evBin .lss v33 (AV.int .i64 0)) fun v34 =>
cnd v34
 ((q23_16 v2 v3 v5 v26 v27 h))
 ((q23_17 v2 v3 v5 v7 v8 v26 v27 h))
noncomputable def q23_18k (s : St) : OX := q23_18 (s 2) (s 3) (s 5) (s 7) (s 8) (s 26) (s 27) s.h
theorem q23_18_eq (s : St) : W E 0 c_q23_18 s q23_16k (exitTo 1 q23_16k (exitTo 0 q23_13k xN)) (finP [.t 4]) = q23_18k s :=
  (W_seq (k := q23_17k) (fun s => q23_17_eq s)).trans (by kernel_rfl)
noncomputable def q23_19 (v2 v3 v5 v26 v27 : AV) (h : Heap) : OX :=
ob (evIxv false 4 1 v26 v27) fun v30 =>
(q23_18 v2 v3 v5 v27 v30 v26 v27 h)
noncomputable def q23_19k (s : St) : OX := q23_19 (s 2) (s 3) (s 5) (s 26) (s 27) s.h
theorem q23_19_eq (s : St) : W E 0 c_q23_19 s q23_16k (exitTo 1 q23_16k (exitTo 0 q23_13k xN)) (finP [.t 4]) = q23_19k s :=
  (W_seq (k := q23_18k) (fun s => q23_18_eq s)).trans (by kernel_rfl)
theorem q23_20_eq (s : St) : W E 0 c_q23_20 s q23_16k (exitTo 0 q23_13k xN) (finP [.t 4]) = q23_19k s :=
  W_block.trans (q23_19_eq s)
theorem q23_21_eq (s : St) : W E 0 c_q23_21 s q23_L15k (exitTo 0 q23_13k xN) (finP [.t 4]) = q23_19k s :=
  (W_seq (k := q23_16k) (fun s => q23_16_eq s)).trans (q23_20_eq s)
noncomputable def q23_22 (v2 v3 v5 v26 v27 v28 : AV) (h : Heap) : OX :=
cnd v28
 ((q23_19 v2 v3 v5 v26 v27 h))
 ((q23_13 v2 v3 h))
noncomputable def q23_22k (s : St) : OX := q23_22 (s 2) (s 3) (s 5) (s 26) (s 27) (s 28) s.h
theorem q23_22_eq (s : St) : W E 0 c_q23_22 s q23_L15k (exitTo 0 q23_13k xN) (finP [.t 4]) = q23_22k s :=
  (W_seq (k := q23_19k) (fun s => q23_21_eq s)).trans (by kernel_rfl)
noncomputable def q23_23 (v2 v3 v5 v26 v27 : AV) (h : Heap) : OX :=
ob (evBin .lss v27 (AV.int .i64 4)) fun v28 =>
(q23_22 v2 v3 v5 v26 v27 v28 h)
noncomputable def q23_23k (s : St) : OX := q23_23 (s 2) (s 3) (s 5) (s 26) (s 27) s.h
theorem q23_23_eq (s : St) : W E 0 c_q23_23 s q23_L15k (exitTo 0 q23_13k xN) (finP [.t 4]) = q23_23k s :=
  (W_seq (k := q23_22k) (fun s => q23_22_eq s)).trans (by kernel_rfl)
theorem q23_L15_go (v2 v3 v5 v26 v27 : AV) (h : Heap) : q23_L15 v2 v3 v5 v26 v27 h = (q23_23 v2 v3 v5 v26 v27 h) :=
  W_loop.trans ((W_congr _ _ _ (n' := q23_L15k) (fun s => q23_L15_eq s)).trans ((q23_23_eq _).trans (by kernel_rfl)))
theorem q23_24_eq (s : St) : W E 0 c_q23_24 s q23_13k xN (finP [.t 4]) = q23_L15k s :=
  W_block.trans (q23_L15_eq s)
noncomputable def q23_25 (v2 v3 v5 : AV) (h : Heap) : OX :=
ob (evFa 1 v3) fun v18 =>
ob (evLd false 1 v18 h) fun v19 =>
ob (evFa 2 v3) fun v20 =>
ob (evLd false 1 v20 h) fun v21 =>
ob (evFa 3 v3) fun v22 =>
ob (evLd false 1 v22 h) fun v23 =>
ob (evFa 4 v3) fun v24 =>
ob (evLd false 1 v24 h) fun v25 =>
ob (evBuild [(.int .i64 0), (.int .i64 0), (.int .i64 0), (.int .i64 0)] [(0, 1, v19), (1, 1, v21), (2, 1, v23), (3, 1, v25)]) fun v26 =>
(q23_L15 v2 v3 v5 v26 (AV.int .i64 0) h)
noncomputable def q23_25k (s : St) : OX := q23_25 (s 2) (s 3) (s 5) s.h
theorem q23_25_eq (s : St) : W E 0 c_q23_25 s q23_13k xN (finP [.t 4]) = q23_25k s :=
  (W_seq (k := q23_L15k) (fun s => q23_24_eq s)).trans (by kernel_rfl)
theorem q23_26_eq (s : St) : W E 0 c_q23_26 s (finP [.t 4]) xN (finP [.t 4]) = q23_25k s :=
  (W_seq (k := q23_13k) (fun s => q23_14_eq s)).trans (q23_25_eq s)
noncomputable def q23_27 (v2 v3 v5 v6 : AV) (h : Heap) : OX :=
ob (evUn .not v6) fun v17 =>
cnd v17
 ((expo1 h (AV.bool false)))
 ((q23_25 v2 v3 v5 h))
noncomputable def q23_27k (s : St) : OX := q23_27 (s 2) (s 3) (s 5) (s 6) s.h
theorem q23_27_eq (s : St) : W E 0 c_q23_27 s (finP [.t 4]) xN (finP [.t 4]) = q23_27k s :=
  (W_seq (k := q23_25k) (fun s => q23_26_eq s)).trans (by kernel_rfl)
noncomputable def q23_28 (v2 v3 : AV) (h : Heap) : OX :=
ob (evLd true 9 v3 h) fun v12 =>
oh (callAny E (callW E) 0 none true 47 [v12] h) fun v13 h3 =>
ob (evExt 0 v13) fun v14 =>
ob (evExt 1 v13) fun v15 =>
oh (newC 0 (some 2) [(.int .i64 0), (.int .i64 0), (.int .i64 0), (.int .i64 0)] h3) fun v5 h4 =>
oh (evSt 4 v5 v14 h4) fun _ h5 =>
(q23_27 v2 v3 v5 v15 h5)
noncomputable def q23_28k (s : St) : OX := q23_28 (s 2) (s 3) s.h
theorem q23_28_eq (s : St) : W E 0 c_q23_28 s (finP [.t 4]) xN (finP [.t 4]) = q23_28k s :=
  (W_seq (k := q23_27k) (fun s => q23_27_eq s)).trans (by kernel_rfl)
noncomputable def q23_29 (v0 v1 : AV) (h : Heap) : OX :=
oh (newC 0 (some 0) (cellsOf v0) h) fun v2 h6 =>
oh (newC 0 (some 1) (cellsOf v1) h6) fun v3 h7 =>
(q23_28 v2 v3 h7)
noncomputable def q23_29k (s : St) : OX := q23_29 (s 0) (s 1) s.h
theorem q23_29_eq (s : St) : W E 0 c_q23_29 s (finP [.t 4]) xN (finP [.t 4]) = q23_29k s :=
  (W_seq (k := q23_28k) (fun s => q23_28_eq s)).trans (by kernel_rfl)
@[simp] theorem pure_63 : E.pure 63 = true := rfl
theorem x_q23 (v0 v1 : AV) : (callW E).p 63 [v0, v1] = q23_29 v0 v1 [⟨0, .dead⟩, ⟨0, .dead⟩, ⟨0, .dead⟩] :=
  (callP_W (cf := c_q23) (by kernel_rfl) rfl).trans ((q23_29_eq _).trans (by kernel_rfl))
noncomputable def q75_1 (v2 v7 : AV) (h : Heap) : OX :=
ob (evBin .sub v2 (AV.int .u8 48)) fun v30 =>
ob (evCvi .i64 v30) fun v31 =>
ob (evBin .eql v7 v31) fun v32 =>
(expo1 h v32)
noncomputable def q75_1k (s : St) : OX := q75_1 (s 2) (s 7) s.h
theorem q75_1_eq (s : St) : W E 0 c_q75_1 s (finP [.t 6]) xN (finP [.t 6]) = q75_1k s :=
  by kernel_rfl
noncomputable def q75_2 (v2 v7 v11 v15 : AV) (h : Heap) : OX :=
cnd v15
 (ob (evBin .gtr v7 (AV.int .i64 0)) fun v19 =>
(expo1 h v19))
 (ob (evBin .eql v11 (AV.int .u8 110)) fun v21 =>
cnd v21
 (ob (evBin .eql v7 (AV.int .i64 1)) fun v23 =>
gb v23 false (some v7) fun v25 =>
gb v23 false (evBin .eql v25 (AV.int .i64 2)) fun v26 =>
ob (evPick v23 (AV.bool true) v26) fun v27 =>
(expo1 h v27))
 ((q75_1 v2 v7 h)))
noncomputable def q75_2k (s : St) : OX := q75_2 (s 2) (s 7) (s 11) (s 15) s.h
theorem q75_2_eq (s : St) : W E 0 c_q75_2 s q75_1k (exitTo 0 q75_1k xN) (finP [.t 6]) = q75_2k s :=
  by kernel_rfl
noncomputable def q75_3 (v2 v7 v11 : AV) (h : Heap) : OX :=
ob (evBin .eql v11 (AV.int .u8 42)) fun v16 =>
cnd v16
 ((q75_2 v2 v7 v11 v16 h))
 (ob (evBin .eql v11 (AV.int .u8 61)) fun v17 =>
(q75_2 v2 v7 v11 v17 h))
noncomputable def q75_3k (s : St) : OX := q75_3 (s 2) (s 7) (s 11) s.h
theorem q75_3_eq (s : St) : W E 0 c_q75_3 s q75_1k (exitTo 0 q75_1k xN) (finP [.t 6]) = q75_3k s :=
  (W_seq (k := q75_2k) (fun s => q75_2_eq s)).trans (by kernel_rfl)
noncomputable def q75_4 (v2 v7 v11 v12 : AV) (h : Heap) : OX :=
cnd v12
 ((expo1 h (AV.bool true)))
 ((q75_3 v2 v7 v11 h))
noncomputable def q75_4k (s : St) : OX := q75_4 (s 2) (s 7) (s 11) (s 12) s.h
theorem q75_4_eq (s : St) : W E 0 c_q75_4 s q75_1k (exitTo 0 q75_1k xN) (finP [.t 6]) = q75_4k s :=
  (W_cond rfl (q75_3_eq s)).trans (by kernel_rfl)
noncomputable def q75_5 (v2 v7 v11 : AV) (h : Heap) : OX :=
ob (evBin .eql v11 (AV.int .u8 45)) fun v13 =>
cnd v13
 ((q75_4 v2 v7 v11 v13 h))
 (ob (evBin .eql v11 (AV.int .u8 63)) fun v14 =>
(q75_4 v2 v7 v11 v14 h))
noncomputable def q75_5k (s : St) : OX := q75_5 (s 2) (s 7) (s 11) s.h
theorem q75_5_eq (s : St) : W E 0 c_q75_5 s q75_1k (exitTo 0 q75_1k xN) (finP [.t 6]) = q75_5k s :=
  (W_seq (k := q75_4k) (fun s => q75_4_eq s)).trans (by kernel_rfl)
theorem q75_6_eq (s : St) : W E 0 c_q75_6 s q75_1k xN (finP [.t 6]) = q75_5k s :=
  W_block.trans (q75_5_eq s)
noncomputable def q75_7 (v2 v7 : AV) (h : Heap) : OX :=
(q75_5 v2 v7 v2 h)
noncomputable def q75_7k (s : St) : OX := q75_7 (s 2) (s 7) s.h
theorem q75_7_eq (s : St) : W E 0 c_q75_7 s q75_1k xN (finP [.t 6]) = q75_7k s :=
  (W_seq (k := q75_5k) (fun s => q75_6_eq s)).trans (by kernel_rfl)
theorem q75_8_eq (s : St) : W E 0 c_q75_8 s (finP [.t 6]) xN (finP [.t 6]) = q75_7k s :=
  (W_seq (k := q75_1k) (fun s => q75_1_eq s)).trans (q75_7_eq s)
noncomputable def q75_9 (v1 v2 v3 : AV) (h : Heap) : OX :=
ob (evLd true 5 v3 h) fun v8 =>
oh (callAny E (callW E) 0 none true 48 [v8, v1] h) fun v10 h1 =>
(q75_7 v2 v10 h1)
noncomputable def q75_9k (s : St) : OX := q75_9 (s 1) (s 2) (s 3) s.h
theorem q75_9_eq (s : St) : W E 0 c_q75_9 s (finP [.t 6]) xN (finP [.t 6]) = q75_9k s :=
  (W_seq (k := q75_7k) (fun s => q75_8_eq s)).trans (by kernel_rfl)
noncomputable def q75_10 (v0 v1 v2 : AV) (h : Heap) : OX :=
oh (newC 0 (some 0) (cellsOf v0) h) fun v3 h2 =>
(q75_9 v1 v2 v3 h2)
noncomputable def q75_10k (s : St) : OX := q75_10 (s 0) (s 1) (s 2) s.h
theorem q75_10_eq (s : St) : W E 0 c_q75_10 s (finP [.t 6]) xN (finP [.t 6]) = q75_10k s :=
  (W_seq (k := q75_9k) (fun s => q75_9_eq s)).trans (by kernel_rfl)
@[simp] theorem pure_65 : E.pure 65 = true := rfl
theorem x_q75 (v0 v1 v2 : AV) : (callW E).p 65 [v0, v1, v2] = q75_10 v0 v1 v2 [⟨0, .dead⟩] :=
  (callP_W (cf := c_q75) (by kernel_rfl) rfl).trans ((q75_10_eq _).trans (by kernel_rfl))
noncomputable def q56_1 (h : Heap) : OX :=
(expo1 h (.tup [(AV.int .i64 0), (AV.int .i64 0), (AV.int .i64 0)]))
noncomputable def q56_1k (s : St) : OX := q56_1 s.h
theorem q56_1_eq (s : St) : W E 0 c_q56_1 s (finP [.t 2, .t 3, .t 4]) xN (finP [.t 2, .t 3, .t 4]) = q56_1k s :=
  by kernel_rfl
noncomputable def q56_2 (v0 v5 : AV) (h : Heap) : OX :=
gb v5 true (some v0) fun v28 =>
gb v5 true (evBin .rem v28 (AV.int .i64 2)) fun v29 =>
gb v5 true (evBin .eql v29 (AV.int .i64 0)) fun v30 =>
ob (evPick v5 v30 (AV.bool false)) fun v31 =>
cnd v31
 ((expo1 h (.tup [(AV.int .i64 1), (AV.int .i64 1), (AV.int .i64 1)])))
 (ob (evBin .eql v0 (AV.int .i64 121)) fun v34 =>
gb v34 false (some v0) fun v36 =>
gb v34 false (evBin .eql v36 (AV.int .i64 123)) fun v37 =>
ob (evPick v34 (AV.bool true) v37) fun v38 =>
gb v38 false (some v0) fun v40 =>
gb v38 false (evBin .eql v40 (AV.int .i64 125)) fun v41 =>
ob (evPick v38 (AV.bool true) v41) fun v42 =>
cnd v42
 ((expo1 h (.tup [(AV.int .i64 2), (AV.int .i64 1), (AV.int .i64 2)])))
 (cnd v5
 ((expo1 h (.tup [(AV.int .i64 2), (AV.int .i64 2), (AV.int .i64 2)])))
 (ob (evBin .eql v0 (AV.int .i64 148)) fun v47 =>
cnd v47
 ((expo1 h (.tup [(AV.int .i64 2), (AV.int .i64 2), (AV.int .i64 1)])))
 (ob (evBin .eql v0 (AV.int .i64 116)) fun v50 =>
gb v50 false (some v0) fun v52 =>
gb v50 false (evBin .geq v52 (AV.int .i64 145)) fun v53 =>
gb v50 false (some v53) fun v54 =>
gb v54 true (some v0) fun v55 =>
gb v54 true (evBin .leq v55 (AV.int .i64 147)) fun v56 =>
gb v50 false (evPick v54 v56 (AV.bool false)) fun v57 =>
ob (evPick v50 (AV.bool true) v57) fun v58 =>
cnd v58
 ((expo1 h (.tup [(AV.int .i64 1), (AV.int .i64 0), (AV.int .i64 1)])))
 (ob (evBin .eql v0 (AV.int .i64 117)) fun v61 =>
cnd v61
 ((expo1 h (.tup [(AV.int .i64 2), (AV.int .i64 0), (AV.int .i64 2)])))
 (ob (evBin .eql v0 (AV.int .i64 133)) fun v64 =>
cnd v64
 ((expo1 h (.tup [(AV.int .i64 1), (AV.int .i64 0), (AV.int .i64 2)])))
 (ob (evBin .eql v0 (AV.int .i64 136)) fun v67 =>
cnd v67
 ((expo1 h (.tup [(AV.int .i64 2), (AV.int .i64 0), (AV.int .i64 1)])))
 ((q56_1 h)))))))))
noncomputable def q56_2k (s : St) : OX := q56_2 (s 0) (s 5) s.h
theorem q56_2_eq (s : St) : W E 0 c_q56_2 s (finP [.t 2, .t 3, .t 4]) xN (finP [.t 2, .t 3, .t 4]) = q56_2k s :=
  (W_seq (k := q56_1k) (fun s => q56_1_eq s)).trans (by kernel_rfl)
noncomputable def q56_3 (v0 : AV) (h : Heap) : OX :=
ob (evBin .geq v0 (AV.int .i64 96)) fun v7 =>
gb v7 true (some v0) fun v9 =>
gb v7 true (evBin .leq v9 (AV.int .i64 113)) fun v10 =>
ob (evPick v7 v10 (AV.bool false)) fun v11 =>
gb v11 true (some v0) fun v13 =>
gb v11 true (evBin .rem v13 (AV.int .i64 4)) fun v14 =>
gb v11 true (evBin .lss v14 (AV.int .i64 2)) fun v15 =>
ob (evPick v11 v15 (AV.bool false)) fun v16 =>
gb v16 false (some v0) fun v18 =>
gb v16 false (evBin .geq v18 (AV.int .i64 120)) fun v19 =>
gb v16 false (some v19) fun v20 =>
gb v20 true (some v0) fun v21 =>
gb v20 true (evBin .leq v21 (AV.int .i64 131)) fun v22 =>
gb v16 false (evPick v20 v22 (AV.bool false)) fun v23 =>
ob (evPick v16 (AV.bool true) v23) fun v24 =>
(q56_2 v0 v24 h)
noncomputable def q56_3k (s : St) : OX := q56_3 (s 0) s.h
theorem q56_3_eq (s : St) : W E 0 c_q56_3 s (finP [.t 2, .t 3, .t 4]) xN (finP [.t 2, .t 3, .t 4]) = q56_3k s :=
  (W_seq (k := q56_2k) (fun s => q56_2_eq s)).trans (by kernel_rfl)
noncomputable def q56_4 (v0 : AV) (h : Heap) : OX :=
(q56_3 v0 h)
noncomputable def q56_4k (s : St) : OX := q56_4 (s 0) s.h
theorem q56_4_eq (s : St) : W E 0 c_q56_4 s (finP [.t 2, .t 3, .t 4]) xN (finP [.t 2, .t 3, .t 4]) = q56_4k s :=
  (W_seq (k := q56_3k) (fun s => q56_3_eq s)).trans (by kernel_rfl)
@[simp] theorem pure_66 : E.pure 66 = true := rfl
theorem x_q56 (v0 : AV) : (callW E).p 66 [v0] = q56_4 v0 [] :=
  (callP_W (cf := c_q56) (by kernel_rfl) rfl).trans ((q56_4_eq _).trans (by kernel_rfl))
noncomputable def q58_1 (v0 : AV) (h : Heap) : OX :=
ob (evLen 0 v0 h) fun v28 =>
ob (evBin .gtr v28 (AV.int .i64 2)) fun v29 =>
gb v29 true (some v0) fun v31 =>
gb v29 true (evIxstr v31 (AV.int .i64 0)) fun v32 =>
gb v29 true (evBin .eql v32 (AV.int .u8 76)) fun v33 =>
ob (evPick v29 v33 (AV.bool false)) fun v34 =>
gb v34 true (some v0) fun v36 =>
gb v34 true (some v0) fun v37 =>
gb v34 true (evLen 0 v37 h) fun v38 =>
gb v34 true (evBin .sub v38 (AV.int .i64 1)) fun v39 =>
gb v34 true (evIxstr v36 v39) fun v40 =>
gb v34 true (evBin .eql v40 (AV.int .u8 59)) fun v41 =>
ob (evPick v34 v41 (AV.bool false)) fun v42 =>
gb v42 true (some v0) fun v44 =>
gb v42 true (some v0) fun v45 =>
gb v42 true (evLen 0 v45 h) fun v46 =>
gb v42 true (evBin .sub v46 (AV.int .i64 1)) fun v47 =>
gb v42 true (evSls v44 (some (AV.int .i64 1)) (some v47)) fun v48 =>
gh v42 true (callAny E (callW E) 0 none true 69 [v48, (AV.bool false)] h) h fun v49 h1 =>
ob (evPick v42 v49 (AV.bool false)) fun v50 =>
(expo1 h1 v50)
noncomputable def q58_1k (s : St) : OX := q58_1 (s 0) s.h
theorem q58_1_eq (s : St) : W E 0 c_q58_1 s (finP [.t 2]) xN (finP [.t 2]) = q58_1k s :=
  by kernel_rfl
noncomputable def q58_2 (v0 : AV) (h : Heap) : OX :=
ob (evBin .eql v0 (AV.str [73])) fun v22 =>
gb v22 false (some v0) fun v24 =>
gb v22 false (evBin .eql v24 (AV.str [74])) fun v25 =>
ob (evPick v22 (AV.bool true) v25) fun v26 =>
cnd v26
 ((expo1 h (AV.bool true)))
 ((q58_1 v0 h))
noncomputable def q58_2k (s : St) : OX := q58_2 (s 0) s.h
theorem q58_2_eq (s : St) : W E 0 c_q58_2 s (finP [.t 2]) xN (finP [.t 2]) = q58_2k s :=
  (W_seq (k := q58_1k) (fun s => q58_1_eq s)).trans (by kernel_rfl)
noncomputable def q58_3 (v0 v3 : AV) (h : Heap) : OX :=
ob (evBin .gtr v3 (AV.int .i64 8)) fun v20 =>
cnd v20
 ((expo1 h (AV.bool false)))
 ((q58_2 v0 h))
noncomputable def q58_3k (s : St) : OX := q58_3 (s 0) (s 3) s.h
theorem q58_3_eq (s : St) : W E 0 c_q58_3 s (finP [.t 2]) xN (finP [.t 2]) = q58_3k s :=
  (W_seq (k := q58_2k) (fun s => q58_2_eq s)).trans (by kernel_rfl)
noncomputable def q58_4 (v0 v3 : AV) (h : Heap) : OX :=
ob (evSls v0 (some v3) none) fun v18 =>
(q58_3 v18 v3 h)
noncomputable def q58_4k (s : St) : OX := q58_4 (s 0) (s 3) s.h
theorem q58_4_eq (s : St) : W E 0 c_q58_4 s (finP [.t 2]) xN (finP [.t 2]) = q58_4k s :=
  (W_seq (k := q58_3k) (fun s => q58_3_eq s)).trans (by kernel_rfl)
noncomputable def q58_L5 (v0 v3 : AV) (h : Heap) : OX :=
  W E 0 c_q58_L5 ⟨[(0, v0), (3, v3)], h⟩ q58_4k (exitTo 0 q58_4k xN) (finP [.t 2])
noncomputable def q58_L5k (s : St) : OX := q58_L5 (s 0) (s 3) s.h
theorem q58_L5_eq (s : St) : W E 0 c_q58_L5 s q58_4k (exitTo 0 q58_4k xN) (finP [.t 2]) = q58_L5k s := W_loop_live.trans (by kernel_rfl)
noncomputable def q58_6 (v0 v3 : AV) (h : Heap) : OX :=
ob (evBin .add v3 (AV.int .i64 1)) fun v15 =>
(q58_L5 v0 v15 h)
noncomputable def q58_6k (s : St) : OX := q58_6 (s 0) (s 3) s.h
theorem q58_6_eq (s : St) : W E 0 c_q58_6 s q58_L5k (exitTo 0 q58_4k xN) (finP [.t 2]) = q58_6k s :=
  by kernel_rfl
noncomputable def q58_7 (v0 v3 : AV) (h : Heap) : OX :=
ob (evLen 0 v0 h) fun v6 =>
ob (evBin .lss v3 v6) fun v7 =>
gb v7 true (some v0) fun v9 =>
gb v7 true (some v3) fun v10 =>
gb v7 true (evIxstr v9 v10) fun v11 =>
gb v7 true (evBin .eql v11 (AV.int .u8 91)) fun v12 =>
ob (evPick v7 v12 (AV.bool false)) fun v13 =>
cnd v13
 ((q58_6 v0 v3 h))
 ((q58_4 v0 v3 h))
noncomputable def q58_7k (s : St) : OX := q58_7 (s 0) (s 3) s.h
theorem q58_7_eq (s : St) : W E 0 c_q58_7 s q58_L5k (exitTo 0 q58_4k xN) (finP [.t 2]) = q58_7k s :=
  (W_seq (k := q58_6k) (fun s => q58_6_eq s)).trans (by kernel_rfl)
theorem q58_L5_go (v0 v3 : AV) (h : Heap) : q58_L5 v0 v3 h = (q58_7 v0 v3 h) :=
  W_loop.trans ((W_congr _ _ _ (n' := q58_L5k) (fun s => q58_L5_eq s)).trans ((q58_7_eq _).trans (by kernel_rfl)))
theorem q58_8_eq (s : St) : W E 0 c_q58_8 s q58_4k xN (finP [.t 2]) = q58_L5k s :=
  W_block.trans (q58_L5_eq s)
theorem q58_9_eq (s : St) : W E 0 c_q58_9 s (finP [.t 2]) xN (finP [.t 2]) = q58_L5k s :=
  (W_seq (k := q58_4k) (fun s => q58_4_eq s)).trans (q58_8_eq s)
noncomputable def q58_10 (v0 : AV) (h : Heap) : OX :=
(q58_L5 v0 (AV.int .i64 0) h)
noncomputable def q58_10k (s : St) : OX := q58_10 (s 0) s.h
theorem q58_10_eq (s : St) : W E 0 c_q58_10 s (finP [.t 2]) xN (finP [.t 2]) = q58_10k s :=
  (W_seq (k := q58_L5k) (fun s => q58_9_eq s)).trans (by kernel_rfl)
noncomputable def q58_11 (v0 : AV) (h : Heap) : OX :=
(q58_10 v0 h)
noncomputable def q58_11k (s : St) : OX := q58_11 (s 0) s.h
theorem q58_11_eq (s : St) : W E 0 c_q58_11 s (finP [.t 2]) xN (finP [.t 2]) = q58_11k s :=
  (W_seq (k := q58_10k) (fun s => q58_10_eq s)).trans (by kernel_rfl)
@[simp] theorem pure_67 : E.pure 67 = true := rfl
theorem x_q58 (v0 : AV) : (callW E).p 67 [v0] = q58_11 v0 [] :=
  (callP_W (cf := c_q58) (by kernel_rfl) rfl).trans ((q58_11_eq _).trans (by kernel_rfl))
noncomputable def q69_1 (v2 v3 : AV) (h : Heap) : OX :=
ob (evFa 0 v3) fun v47 =>
ob (evLd false 1 v47 h) fun v48 =>
ob (evBin .neq v48 (AV.int .i64 24)) fun v49 =>
gb v49 true (evFa 0 v3) fun v51 =>
gb v49 true (evLd false 1 v51 h) fun v52 =>
gb v49 true (evBin .neq v52 (AV.int .i64 25)) fun v53 =>
ob (evPick v49 v53 (AV.bool false)) fun v54 =>
gb v54 false (evFa 8 v3) fun v56 =>
gb v54 false (evLd false 1 v56 h) fun v57 =>
gb v54 false (evLen 1 v57 h) fun v58 =>
gb v54 false (evBin .gtr v58 (AV.int .i64 0)) fun v59 =>
gb v54 false (some v59) fun v60 =>
gb v60 true (evLd true 5 v2 h) fun v61 =>
gb v60 true (evFa 8 v3) fun v62 =>
gb v60 true (evLd false 1 v62 h) fun v63 =>
gb v60 true (evIxs 1 v63 (AV.int .i64 0)) fun v64 =>
gb v60 true (evLd false 1 v64 h) fun v65 =>
gh v60 true (callAny E (callW E) 0 none true 48 [v61, v65] h) h fun v66 h1 =>
gb v60 true (evBin .eql v66 (AV.int .i64 3)) fun v67 =>
gb v54 false (evPick v60 v67 (AV.bool false)) fun v68 =>
ob (evPick v54 (AV.bool true) v68) fun v69 =>
(expo1 h1 v69)
noncomputable def q69_1k (s : St) : OX := q69_1 (s 2) (s 3) s.h
theorem q69_1_eq (s : St) : W E 0 c_q69_1 s (finP [.t 4]) xN (finP [.t 4]) = q69_1k s :=
  by kernel_rfl
noncomputable def q69_L2 (v2 v3 v5 : AV) (h : Heap) : OX :=
  W E 0 c_q69_L2 ⟨[(2, v2), (3, v3), (5, v5)], h⟩ q69_1k (exitTo 0 q69_1k xN) (finP [.t 4])
noncomputable def q69_L2k (s : St) : OX := q69_L2 (s 2) (s 3) (s 5) s.h
theorem q69_L2_eq (s : St) : W E 0 c_q69_L2 s q69_1k (exitTo 0 q69_1k xN) (finP [.t 4]) = q69_L2k s := W_loop_live.trans (by kernel_rfl)
noncomputable def q69_3 (v2 v3 v5 : AV) (h : Heap) : OX :=
ob (evBin .add v5 (AV.int .i64 1)) fun v38 =>
(q69_L2 v2 v3 v38 h)
noncomputable def q69_3k (s : St) : OX := q69_3 (s 2) (s 3) (s 5) s.h
theorem q69_3_eq (s : St) : W E 0 c_q69_3 s q69_L2k (exitTo 0 q69_1k xN) (finP [.t 4]) = q69_3k s :=
  by kernel_rfl
noncomputable def q69_4 (v2 v3 v5 : AV) (h : Heap) : OX :=
ob (evLd true 5 v2 h) fun v39 =>
ob (evFa 8 v3) fun v40 =>
ob (evLd false 1 v40 h) fun v41 =>
ob (evIxs 1 v41 v5) fun v43 =>
ob (evLd false 1 v43 h) fun v44 =>
oh (callAny E (callW E) 0 none true 48 [v39, v44] h) fun v45 h2 =>
ob (evBin .eql v45 (AV.int .i64 0)) fun v46 =>
cnd v46
 ((expo1 h2 (AV.bool false)))
 ((q69_3 v2 v3 v5 h2))
noncomputable def q69_4k (s : St) : OX := q69_4 (s 2) (s 3) (s 5) s.h
theorem q69_4_eq (s : St) : W E 0 c_q69_4 s q69_L2k (exitTo 0 q69_1k xN) (finP [.t 4]) = q69_4k s :=
  (W_seq (k := q69_3k) (fun s => q69_3_eq s)).trans (by kernel_rfl)
noncomputable def q69_5 (v2 v3 v5 : AV) (h : Heap) : OX :=
ob (evFa 8 v3) fun v33 =>
ob (evLd false 1 v33 h) fun v34 =>
ob (evLen 1 v34 h) fun v35 =>
ob (evBin .lss v5 v35) fun v36 =>
cnd v36
 ((q69_4 v2 v3 v5 h))
 ((q69_1 v2 v3 h))
noncomputable def q69_5k (s : St) : OX := q69_5 (s 2) (s 3) (s 5) s.h
theorem q69_5_eq (s : St) : W E 0 c_q69_5 s q69_L2k (exitTo 0 q69_1k xN) (finP [.t 4]) = q69_5k s :=
  (W_seq (k := q69_4k) (fun s => q69_4_eq s)).trans (by kernel_rfl)
theorem q69_L2_go (v2 v3 v5 : AV) (h : Heap) : q69_L2 v2 v3 v5 h = (q69_5 v2 v3 v5 h) :=
  W_loop.trans ((W_congr _ _ _ (n' := q69_L2k) (fun s => q69_L2_eq s)).trans ((q69_5_eq _).trans (by kernel_rfl)))
theorem q69_6_eq (s : St) : W E 0 c_q69_6 s q69_1k xN (finP [.t 4]) = q69_L2k s :=
  W_block.trans (q69_L2_eq s)
noncomputable def q69_7 (v2 v3 : AV) (h : Heap) : OX :=
(q69_L2 v2 v3 (AV.int .i64 0) h)
noncomputable def q69_7k (s : St) : OX := q69_7 (s 2) (s 3) s.h
theorem q69_7_eq (s : St) : W E 0 c_q69_7 s q69_1k xN (finP [.t 4]) = q69_7k s :=
  (W_seq (k := q69_L2k) (fun s => q69_6_eq s)).trans (by kernel_rfl)
theorem q69_8_eq (s : St) : W E 0 c_q69_8 s (finP [.t 4]) xN (finP [.t 4]) = q69_7k s :=
  (W_seq (k := q69_1k) (fun s => q69_1_eq s)).trans (q69_7_eq s)
noncomputable def q69_9 (v2 v3 : AV) (h : Heap) : OX :=
ob (evFa 5 v3) fun v6 =>
ob (evLd false 1 v6 h) fun v7 =>
ob (evBin .lss v7 (AV.int .i64 0)) fun v8 =>
gb v8 true (evFa 0 v3) fun v10 =>
gb v8 true (evLd false 1 v10 h) fun v11 =>
gb v8 true (evBin .neq v11 (AV.int .i64 25)) fun v12 =>
ob (evPick v8 v12 (AV.bool false)) fun v13 =>
gb v13 false (evFa 8 v3) fun v15 =>
gb v13 false (evLd false 1 v15 h) fun v16 =>
gb v13 false (evLen 1 v16 h) fun v17 =>
gb v13 false (evBin .gtr v17 (AV.int .i64 21)) fun v18 =>
ob (evPick v13 (AV.bool true) v18) fun v19 =>
gb v19 false (evFa 1 v3) fun v21 =>
gb v19 false (evLd false 1 v21 h) fun v22 =>
gb v19 false (evBin .neq v22 (AV.int .i64 (-1))) fun v23 =>
gb v19 false (some v23) fun v24 =>
gb v24 true (evLd true 5 v2 h) fun v25 =>
gb v24 true (evFa 1 v3) fun v26 =>
gb v24 true (evLd false 1 v26 h) fun v27 =>
gh v24 true (callAny E (callW E) 0 none true 48 [v25, v27] h) h fun v28 h3 =>
gb v24 true (evBin .eql v28 (AV.int .i64 0)) fun v29 =>
gb v19 false (evPick v24 v29 (AV.bool false)) fun v30 =>
ob (evPick v19 (AV.bool true) v30) fun v31 =>
cnd v31
 ((expo1 h3 (AV.bool false)))
 ((q69_7 v2 v3 h3))
noncomputable def q69_9k (s : St) : OX := q69_9 (s 2) (s 3) s.h
theorem q69_9_eq (s : St) : W E 0 c_q69_9 s (finP [.t 4]) xN (finP [.t 4]) = q69_9k s :=
  (W_seq (k := q69_7k) (fun s => q69_8_eq s)).trans (by kernel_rfl)
noncomputable def q69_10 (v0 v1 : AV) (h : Heap) : OX :=
oh (newC 0 (some 0) (cellsOf v0) h) fun v2 h4 =>
oh (newC 0 (some 1) (cellsOf v1) h4) fun v3 h5 =>
(q69_9 v2 v3 h5)
noncomputable def q69_10k (s : St) : OX := q69_10 (s 0) (s 1) s.h
theorem q69_10_eq (s : St) : W E 0 c_q69_10 s (finP [.t 4]) xN (finP [.t 4]) = q69_10k s :=
  (W_seq (k := q69_9k) (fun s => q69_9_eq s)).trans (by kernel_rfl)
@[simp] theorem pure_68 : E.pure 68 = true := rfl
theorem x_q69 (v0 v1 : AV) : (callW E).p 68 [v0, v1] = q69_10 v0 v1 [⟨0, .dead⟩, ⟨0, .dead⟩] :=
  (callP_W (cf := c_q69) (by kernel_rfl) rfl).trans ((q69_10_eq _).trans (by kernel_rfl))
noncomputable def q21_1 (v1 v2 : AV) (h : Heap) : OX :=
ob (evLd true 9 v1 h) fun v138 =>
oh (callAny E (callW E) 0 none true 51 [v138] h) fun v139 h1 =>
ob (evExt 0 v139) fun v140 =>
ob (evExt 1 v139) fun v141 =>
oh (evSt 4 v2 v140 h1) fun _ h2 =>
(ob (evLd true 4 v2 h2) fun r0 =>
  expo1 h2 (.tup [r0, v141]))
noncomputable def q21_1k (s : St) : OX := q21_1 (s 1) (s 2) s.h
theorem q21_1_eq (s : St) : W E 0 c_q21_1 s (finP [.cell 2 true 4, .t 3]) xN (finP [.cell 2 true 4, .t 3]) = q21_1k s :=
  by kernel_rfl
noncomputable def q21_2 (v1 v2 v134 : AV) (h : Heap) : OX :=
cnd v134
 (ob (evBuild [(.int .i64 0), (.int .i64 0), (.int .i64 0), (.int .i64 0)] [(0, 1, (AV.int .i64 (-1))), (1, 1, (AV.int .i64 (-1))), (2, 1, (AV.int .i64 (-1))), (3, 1, (AV.int .i64 (-1)))]) fun v137 =>
oh (evSt 4 v2 v137 h) fun _ h3 =>
(ob (evLd true 4 v2 h3) fun r0 =>
  expo1 h3 (.tup [r0, (AV.bool true)])))
 ((q21_1 v1 v2 h))
noncomputable def q21_2k (s : St) : OX := q21_2 (s 1) (s 2) (s 134) s.h
theorem q21_2_eq (s : St) : W E 0 c_q21_2 s q21_1k (exitTo 0 q21_1k xN) (finP [.cell 2 true 4, .t 3]) = q21_2k s :=
  by kernel_rfl
noncomputable def q21_3 (v1 v2 v11 : AV) (h : Heap) : OX :=
ob (evBin .eql v11 (AV.int .i64 27)) fun v135 =>
cnd v135
 ((q21_2 v1 v2 v135 h))
 (ob (evBin .eql v11 (AV.int .i64 33)) fun v136 =>
(q21_2 v1 v2 v136 h))
noncomputable def q21_3k (s : St) : OX := q21_3 (s 1) (s 2) (s 11) s.h
theorem q21_3_eq (s : St) : W E 0 c_q21_3 s q21_1k (exitTo 0 q21_1k xN) (finP [.cell 2 true 4, .t 3]) = q21_3k s :=
  (W_seq (k := q21_2k) (fun s => q21_2_eq s)).trans (by kernel_rfl)
noncomputable def q21_4 (v1 v2 v11 v123 : AV) (h : Heap) : OX :=
cnd v123
 (ob (evBuild [(.int .i64 0), (.int .i64 0), (.int .i64 0), (.int .i64 0)] [(0, 1, (AV.int .i64 (-1))), (1, 1, (AV.int .i64 1)), (2, 1, (AV.int .i64 1)), (3, 1, (AV.int .i64 (-1)))]) fun v125 =>
ob (evFa 5 v1) fun v126 =>
ob (evLd false 1 v126 h) fun v127 =>
ob (evBin .geq v127 (AV.int .i64 0)) fun v128 =>
ofp (fgd v128 true (some ([], []))) fun f5 =>
gb v128 true (evFa 5 v1) fun v130 =>
ofp (fgd v128 true (some (ids1 v130, []))) fun f6 =>
gb v128 true (evLd false 1 v130 h) fun v131 =>
ofp (fgd v128 true (some ([], []))) fun f7 =>
gb v128 true (evBin .leq v131 (AV.int .i64 5)) fun v132 =>
ob (evPick v128 v132 (AV.bool false)) fun v133 =>
oh (evSt 4 v2 v125 h) fun _ h4 =>
okK (pairsOk [([], []), ([], []), (ids1 v126, []), ([], []), ([], []), f5, f6, f7, ([], []), ([], ids1 v2), ([], [])] [(6, 9)]) <|
(ob (evLd true 4 v2 h4) fun r0 =>
  expo1 h4 (.tup [r0, v133])))
 ((q21_3 v1 v2 v11 h))
noncomputable def q21_4k (s : St) : OX := q21_4 (s 1) (s 2) (s 11) (s 123) s.h
theorem q21_4_eq (s : St) : W E 0 c_q21_4 s q21_1k (exitTo 0 q21_1k xN) (finP [.cell 2 true 4, .t 3]) = q21_4k s :=
  (W_cond rfl (q21_3_eq s)).trans (by kernel_rfl)
noncomputable def q21_5 (v1 v2 v11 : AV) (h : Heap) : OX :=
ob (evBin .eql v11 (AV.int .i64 28)) fun v124 =>
(q21_4 v1 v2 v11 v124 h)
noncomputable def q21_5k (s : St) : OX := q21_5 (s 1) (s 2) (s 11) s.h
theorem q21_5_eq (s : St) : W E 0 c_q21_5 s q21_1k (exitTo 0 q21_1k xN) (finP [.cell 2 true 4, .t 3]) = q21_5k s :=
  (W_seq (k := q21_4k) (fun s => q21_4_eq s)).trans (by kernel_rfl)
noncomputable def q21_6 (v1 v2 v11 v117 : AV) (h : Heap) : OX :=
cnd v117
 (ob (evBuild [(.int .i64 0), (.int .i64 0), (.int .i64 0), (.int .i64 0)] [(0, 1, (AV.int .i64 3)), (1, 1, (AV.int .i64 1)), (2, 1, (AV.int .i64 (-1))), (3, 1, (AV.int .i64 (-1)))]) fun v119 =>
ob (evFa 7 v1) fun v120 =>
ob (evLd false 1 v120 h) fun v121 =>
oh (callAny E (callW E) 0 none true 37 [v121] h) fun v122 h5 =>
oh (evSt 4 v2 v119 h5) fun _ h6 =>
(ob (evLd true 4 v2 h6) fun r0 =>
  expo1 h6 (.tup [r0, v122])))
 ((q21_5 v1 v2 v11 h))
noncomputable def q21_6k (s : St) : OX := q21_6 (s 1) (s 2) (s 11) (s 117) s.h
theorem q21_6_eq (s : St) : W E 0 c_q21_6 s q21_1k (exitTo 0 q21_1k xN) (finP [.cell 2 true 4, .t 3]) = q21_6k s :=
  (W_cond rfl (q21_5_eq s)).trans (by kernel_rfl)
noncomputable def q21_7 (v1 v2 v11 : AV) (h : Heap) : OX :=
ob (evBin .eql v11 (AV.int .i64 21)) fun v118 =>
(q21_6 v1 v2 v11 v118 h)
noncomputable def q21_7k (s : St) : OX := q21_7 (s 1) (s 2) (s 11) s.h
theorem q21_7_eq (s : St) : W E 0 c_q21_7 s q21_1k (exitTo 0 q21_1k xN) (finP [.cell 2 true 4, .t 3]) = q21_7k s :=
  (W_seq (k := q21_6k) (fun s => q21_6_eq s)).trans (by kernel_rfl)
noncomputable def q21_8 (v1 v2 v11 v114 : AV) (h : Heap) : OX :=
cnd v114
 (ob (evBuild [(.int .i64 0), (.int .i64 0), (.int .i64 0), (.int .i64 0)] [(0, 1, (AV.int .i64 (-1))), (1, 1, (AV.int .i64 0)), (2, 1, (AV.int .i64 (-1))), (3, 1, (AV.int .i64 (-1)))]) fun v116 =>
oh (evSt 4 v2 v116 h) fun _ h7 =>
(ob (evLd true 4 v2 h7) fun r0 =>
  expo1 h7 (.tup [r0, (AV.bool true)])))
 ((q21_7 v1 v2 v11 h))
noncomputable def q21_8k (s : St) : OX := q21_8 (s 1) (s 2) (s 11) (s 114) s.h
theorem q21_8_eq (s : St) : W E 0 c_q21_8 s q21_1k (exitTo 0 q21_1k xN) (finP [.cell 2 true 4, .t 3]) = q21_8k s :=
  (W_cond rfl (q21_7_eq s)).trans (by kernel_rfl)
noncomputable def q21_9 (v1 v2 v11 : AV) (h : Heap) : OX :=
ob (evBin .eql v11 (AV.int .i64 19)) fun v115 =>
(q21_8 v1 v2 v11 v115 h)
noncomputable def q21_9k (s : St) : OX := q21_9 (s 1) (s 2) (s 11) s.h
theorem q21_9_eq (s : St) : W E 0 c_q21_9 s q21_1k (exitTo 0 q21_1k xN) (finP [.cell 2 true 4, .t 3]) = q21_9k s :=
  (W_seq (k := q21_8k) (fun s => q21_8_eq s)).trans (by kernel_rfl)
noncomputable def q21_10 (v1 v2 v11 v108 : AV) (h : Heap) : OX :=
cnd v108
 (ob (evBuild [(.int .i64 0), (.int .i64 0), (.int .i64 0), (.int .i64 0)] [(0, 1, (AV.int .i64 (-1))), (1, 1, (AV.int .i64 3)), (2, 1, (AV.int .i64 0)), (3, 1, (AV.int .i64 (-1)))]) fun v110 =>
ob (evFa 5 v1) fun v111 =>
ob (evLd false 1 v111 h) fun v112 =>
ob (evBin .geq v112 (AV.int .i64 0)) fun v113 =>
oh (evSt 4 v2 v110 h) fun _ h8 =>
okK (pairsOk [([], []), ([], []), (ids1 v111, []), ([], []), ([], ids1 v2), ([], [])] [(2, 4)]) <|
(ob (evLd true 4 v2 h8) fun r0 =>
  expo1 h8 (.tup [r0, v113])))
 ((q21_9 v1 v2 v11 h))
noncomputable def q21_10k (s : St) : OX := q21_10 (s 1) (s 2) (s 11) (s 108) s.h
theorem q21_10_eq (s : St) : W E 0 c_q21_10 s q21_1k (exitTo 0 q21_1k xN) (finP [.cell 2 true 4, .t 3]) = q21_10k s :=
  (W_cond rfl (q21_9_eq s)).trans (by kernel_rfl)
noncomputable def q21_11 (v1 v2 v11 : AV) (h : Heap) : OX :=
ob (evBin .eql v11 (AV.int .i64 17)) fun v109 =>
(q21_10 v1 v2 v11 v109 h)
noncomputable def q21_11k (s : St) : OX := q21_11 (s 1) (s 2) (s 11) s.h
theorem q21_11_eq (s : St) : W E 0 c_q21_11 s q21_1k (exitTo 0 q21_1k xN) (finP [.cell 2 true 4, .t 3]) = q21_11k s :=
  (W_seq (k := q21_10k) (fun s => q21_10_eq s)).trans (by kernel_rfl)
noncomputable def q21_12 (v1 v2 v11 v102 : AV) (h : Heap) : OX :=
cnd v102
 (ob (evBuild [(.int .i64 0), (.int .i64 0), (.int .i64 0), (.int .i64 0)] [(0, 1, (AV.int .i64 0)), (1, 1, (AV.int .i64 3)), (2, 1, (AV.int .i64 (-1))), (3, 1, (AV.int .i64 (-1)))]) fun v104 =>
ob (evFa 5 v1) fun v105 =>
ob (evLd false 1 v105 h) fun v106 =>
ob (evBin .geq v106 (AV.int .i64 0)) fun v107 =>
oh (evSt 4 v2 v104 h) fun _ h9 =>
okK (pairsOk [([], []), ([], []), (ids1 v105, []), ([], []), ([], ids1 v2), ([], [])] [(2, 4)]) <|
(ob (evLd true 4 v2 h9) fun r0 =>
  expo1 h9 (.tup [r0, v107])))
 ((q21_11 v1 v2 v11 h))
noncomputable def q21_12k (s : St) : OX := q21_12 (s 1) (s 2) (s 11) (s 102) s.h
theorem q21_12_eq (s : St) : W E 0 c_q21_12 s q21_1k (exitTo 0 q21_1k xN) (finP [.cell 2 true 4, .t 3]) = q21_12k s :=
  (W_cond rfl (q21_11_eq s)).trans (by kernel_rfl)
noncomputable def q21_13 (v1 v2 v11 : AV) (h : Heap) : OX :=
ob (evBin .eql v11 (AV.int .i64 16)) fun v103 =>
(q21_12 v1 v2 v11 v103 h)
noncomputable def q21_13k (s : St) : OX := q21_13 (s 1) (s 2) (s 11) s.h
theorem q21_13_eq (s : St) : W E 0 c_q21_13 s q21_1k (exitTo 0 q21_1k xN) (finP [.cell 2 true 4, .t 3]) = q21_13k s :=
  (W_seq (k := q21_12k) (fun s => q21_12_eq s)).trans (by kernel_rfl)
noncomputable def q21_14 (v1 v2 v11 v99 : AV) (h : Heap) : OX :=
cnd v99
 (ob (evBuild [(.int .i64 0), (.int .i64 0), (.int .i64 0), (.int .i64 0)] [(0, 1, (AV.int .i64 1)), (1, 1, (AV.int .i64 3)), (2, 1, (AV.int .i64 (-1))), (3, 1, (AV.int .i64 (-1)))]) fun v101 =>
oh (evSt 4 v2 v101 h) fun _ h10 =>
(ob (evLd true 4 v2 h10) fun r0 =>
  expo1 h10 (.tup [r0, (AV.bool true)])))
 ((q21_13 v1 v2 v11 h))
noncomputable def q21_14k (s : St) : OX := q21_14 (s 1) (s 2) (s 11) (s 99) s.h
theorem q21_14_eq (s : St) : W E 0 c_q21_14 s q21_1k (exitTo 0 q21_1k xN) (finP [.cell 2 true 4, .t 3]) = q21_14k s :=
  (W_cond rfl (q21_13_eq s)).trans (by kernel_rfl)
noncomputable def q21_15 (v1 v2 v11 : AV) (h : Heap) : OX :=
ob (evBin .eql v11 (AV.int .i64 15)) fun v100 =>
(q21_14 v1 v2 v11 v100 h)
noncomputable def q21_15k (s : St) : OX := q21_15 (s 1) (s 2) (s 11) s.h
theorem q21_15_eq (s : St) : W E 0 c_q21_15 s q21_1k (exitTo 0 q21_1k xN) (finP [.cell 2 true 4, .t 3]) = q21_15k s :=
  (W_seq (k := q21_14k) (fun s => q21_14_eq s)).trans (by kernel_rfl)
noncomputable def q21_16 (v1 v2 v11 v96 : AV) (h : Heap) : OX :=
cnd v96
 (ob (evBuild [(.int .i64 0), (.int .i64 0), (.int .i64 0), (.int .i64 0)] [(0, 1, (AV.int .i64 (-1))), (1, 1, (AV.int .i64 3)), (2, 1, (AV.int .i64 1)), (3, 1, (AV.int .i64 0))]) fun v98 =>
oh (evSt 4 v2 v98 h) fun _ h11 =>
(ob (evLd true 4 v2 h11) fun r0 =>
  expo1 h11 (.tup [r0, (AV.bool true)])))
 ((q21_15 v1 v2 v11 h))
noncomputable def q21_16k (s : St) : OX := q21_16 (s 1) (s 2) (s 11) (s 96) s.h
theorem q21_16_eq (s : St) : W E 0 c_q21_16 s q21_1k (exitTo 0 q21_1k xN) (finP [.cell 2 true 4, .t 3]) = q21_16k s :=
  (W_cond rfl (q21_15_eq s)).trans (by kernel_rfl)
noncomputable def q21_17 (v1 v2 v11 : AV) (h : Heap) : OX :=
ob (evBin .eql v11 (AV.int .i64 14)) fun v97 =>
(q21_16 v1 v2 v11 v97 h)
noncomputable def q21_17k (s : St) : OX := q21_17 (s 1) (s 2) (s 11) s.h
theorem q21_17_eq (s : St) : W E 0 c_q21_17 s q21_1k (exitTo 0 q21_1k xN) (finP [.cell 2 true 4, .t 3]) = q21_17k s :=
  (W_seq (k := q21_16k) (fun s => q21_16_eq s)).trans (by kernel_rfl)
noncomputable def q21_18 (v1 v2 v11 v93 : AV) (h : Heap) : OX :=
cnd v93
 (ob (evBuild [(.int .i64 0), (.int .i64 0), (.int .i64 0), (.int .i64 0)] [(0, 1, (AV.int .i64 0)), (1, 1, (AV.int .i64 3)), (2, 1, (AV.int .i64 1)), (3, 1, (AV.int .i64 (-1)))]) fun v95 =>
oh (evSt 4 v2 v95 h) fun _ h12 =>
(ob (evLd true 4 v2 h12) fun r0 =>
  expo1 h12 (.tup [r0, (AV.bool true)])))
 ((q21_17 v1 v2 v11 h))
noncomputable def q21_18k (s : St) : OX := q21_18 (s 1) (s 2) (s 11) (s 93) s.h
theorem q21_18_eq (s : St) : W E 0 c_q21_18 s q21_1k (exitTo 0 q21_1k xN) (finP [.cell 2 true 4, .t 3]) = q21_18k s :=
  (W_cond rfl (q21_17_eq s)).trans (by kernel_rfl)
noncomputable def q21_19 (v1 v2 v11 : AV) (h : Heap) : OX :=
ob (evBin .eql v11 (AV.int .i64 13)) fun v94 =>
(q21_18 v1 v2 v11 v94 h)
noncomputable def q21_19k (s : St) : OX := q21_19 (s 1) (s 2) (s 11) s.h
theorem q21_19_eq (s : St) : W E 0 c_q21_19 s q21_1k (exitTo 0 q21_1k xN) (finP [.cell 2 true 4, .t 3]) = q21_19k s :=
  (W_seq (k := q21_18k) (fun s => q21_18_eq s)).trans (by kernel_rfl)
noncomputable def q21_20 (v1 v2 v11 v90 : AV) (h : Heap) : OX :=
cnd v90
 (ob (evBuild [(.int .i64 0), (.int .i64 0), (.int .i64 0), (.int .i64 0)] [(0, 1, (AV.int .i64 (-1))), (1, 1, (AV.int .i64 3)), (2, 1, (AV.int .i64 3)), (3, 1, (AV.int .i64 (-1)))]) fun v92 =>
oh (evSt 4 v2 v92 h) fun _ h13 =>
(ob (evLd true 4 v2 h13) fun r0 =>
  expo1 h13 (.tup [r0, (AV.bool true)])))
 ((q21_19 v1 v2 v11 h))
noncomputable def q21_20k (s : St) : OX := q21_20 (s 1) (s 2) (s 11) (s 90) s.h
theorem q21_20_eq (s : St) : W E 0 c_q21_20 s q21_1k (exitTo 0 q21_1k xN) (finP [.cell 2 true 4, .t 3]) = q21_20k s :=
  (W_cond rfl (q21_19_eq s)).trans (by kernel_rfl)
noncomputable def q21_21 (v1 v2 v11 : AV) (h : Heap) : OX :=
ob (evBin .eql v11 (AV.int .i64 11)) fun v91 =>
(q21_20 v1 v2 v11 v91 h)
noncomputable def q21_21k (s : St) : OX := q21_21 (s 1) (s 2) (s 11) s.h
theorem q21_21_eq (s : St) : W E 0 c_q21_21 s q21_1k (exitTo 0 q21_1k xN) (finP [.cell 2 true 4, .t 3]) = q21_21k s :=
  (W_seq (k := q21_20k) (fun s => q21_20_eq s)).trans (by kernel_rfl)
noncomputable def q21_22 (v1 v2 v11 v87 : AV) (h : Heap) : OX :=
cnd v87
 (ob (evBuild [(.int .i64 0), (.int .i64 0), (.int .i64 0), (.int .i64 0)] [(0, 1, (AV.int .i64 (-1))), (1, 1, (AV.int .i64 1)), (2, 1, (AV.int .i64 (-1))), (3, 1, (AV.int .i64 (-1)))]) fun v89 =>
oh (evSt 4 v2 v89 h) fun _ h14 =>
(ob (evLd true 4 v2 h14) fun r0 =>
  expo1 h14 (.tup [r0, (AV.bool true)])))
 ((q21_21 v1 v2 v11 h))
noncomputable def q21_22k (s : St) : OX := q21_22 (s 1) (s 2) (s 11) (s 87) s.h
theorem q21_22_eq (s : St) : W E 0 c_q21_22 s q21_1k (exitTo 0 q21_1k xN) (finP [.cell 2 true 4, .t 3]) = q21_22k s :=
  (W_cond rfl (q21_21_eq s)).trans (by kernel_rfl)
noncomputable def q21_23 (v1 v2 v11 : AV) (h : Heap) : OX :=
ob (evBin .eql v11 (AV.int .i64 10)) fun v88 =>
(q21_22 v1 v2 v11 v88 h)
noncomputable def q21_23k (s : St) : OX := q21_23 (s 1) (s 2) (s 11) s.h
theorem q21_23_eq (s : St) : W E 0 c_q21_23 s q21_1k (exitTo 0 q21_1k xN) (finP [.cell 2 true 4, .t 3]) = q21_23k s :=
  (W_seq (k := q21_22k) (fun s => q21_22_eq s)).trans (by kernel_rfl)
noncomputable def q21_24 (v1 v2 v11 v84 : AV) (h : Heap) : OX :=
cnd v84
 (ob (evBuild [(.int .i64 0), (.int .i64 0), (.int .i64 0), (.int .i64 0)] [(0, 1, (AV.int .i64 (-1))), (1, 1, (AV.int .i64 3)), (2, 1, (AV.int .i64 1)), (3, 1, (AV.int .i64 (-1)))]) fun v86 =>
oh (evSt 4 v2 v86 h) fun _ h15 =>
(ob (evLd true 4 v2 h15) fun r0 =>
  expo1 h15 (.tup [r0, (AV.bool true)])))
 ((q21_23 v1 v2 v11 h))
noncomputable def q21_24k (s : St) : OX := q21_24 (s 1) (s 2) (s 11) (s 84) s.h
theorem q21_24_eq (s : St) : W E 0 c_q21_24 s q21_1k (exitTo 0 q21_1k xN) (finP [.cell 2 true 4, .t 3]) = q21_24k s :=
  (W_cond rfl (q21_23_eq s)).trans (by kernel_rfl)
noncomputable def q21_25 (v1 v2 v11 : AV) (h : Heap) : OX :=
ob (evBin .eql v11 (AV.int .i64 9)) fun v85 =>
(q21_24 v1 v2 v11 v85 h)
noncomputable def q21_25k (s : St) : OX := q21_25 (s 1) (s 2) (s 11) s.h
theorem q21_25_eq (s : St) : W E 0 c_q21_25 s q21_1k (exitTo 0 q21_1k xN) (finP [.cell 2 true 4, .t 3]) = q21_25k s :=
  (W_seq (k := q21_24k) (fun s => q21_24_eq s)).trans (by kernel_rfl)
noncomputable def q21_26 (v1 v2 v11 v78 : AV) (h : Heap) : OX :=
cnd v78
 (ob (evBuild [(.int .i64 0), (.int .i64 0), (.int .i64 0), (.int .i64 0)] [(0, 1, (AV.int .i64 1)), (1, 1, (AV.int .i64 3)), (2, 1, (AV.int .i64 (-1))), (3, 1, (AV.int .i64 (-1)))]) fun v80 =>
ob (evFa 7 v1) fun v81 =>
ob (evLd false 1 v81 h) fun v82 =>
oh (callAny E (callW E) 0 none true 37 [v82] h) fun v83 h16 =>
oh (evSt 4 v2 v80 h16) fun _ h17 =>
(ob (evLd true 4 v2 h17) fun r0 =>
  expo1 h17 (.tup [r0, v83])))
 ((q21_25 v1 v2 v11 h))
noncomputable def q21_26k (s : St) : OX := q21_26 (s 1) (s 2) (s 11) (s 78) s.h
theorem q21_26_eq (s : St) : W E 0 c_q21_26 s q21_1k (exitTo 0 q21_1k xN) (finP [.cell 2 true 4, .t 3]) = q21_26k s :=
  (W_cond rfl (q21_25_eq s)).trans (by kernel_rfl)
noncomputable def q21_27 (v1 v2 v11 : AV) (h : Heap) : OX :=
ob (evBin .eql v11 (AV.int .i64 22)) fun v79 =>
(q21_26 v1 v2 v11 v79 h)
noncomputable def q21_27k (s : St) : OX := q21_27 (s 1) (s 2) (s 11) s.h
theorem q21_27_eq (s : St) : W E 0 c_q21_27 s q21_1k (exitTo 0 q21_1k xN) (finP [.cell 2 true 4, .t 3]) = q21_27k s :=
  (W_seq (k := q21_26k) (fun s => q21_26_eq s)).trans (by kernel_rfl)
noncomputable def q21_28 (v1 v2 v11 v72 : AV) (h : Heap) : OX :=
cnd v72
 (ob (evBuild [(.int .i64 0), (.int .i64 0), (.int .i64 0), (.int .i64 0)] [(0, 1, (AV.int .i64 (-1))), (1, 1, (AV.int .i64 3)), (2, 1, (AV.int .i64 (-1))), (3, 1, (AV.int .i64 (-1)))]) fun v74 =>
ob (evFa 7 v1) fun v75 =>
ob (evLd false 1 v75 h) fun v76 =>
oh (callAny E (callW E) 0 none true 37 [v76] h) fun v77 h18 =>
oh (evSt 4 v2 v74 h18) fun _ h19 =>
(ob (evLd true 4 v2 h19) fun r0 =>
  expo1 h19 (.tup [r0, v77])))
 ((q21_27 v1 v2 v11 h))
noncomputable def q21_28k (s : St) : OX := q21_28 (s 1) (s 2) (s 11) (s 72) s.h
theorem q21_28_eq (s : St) : W E 0 c_q21_28 s q21_1k (exitTo 0 q21_1k xN) (finP [.cell 2 true 4, .t 3]) = q21_28k s :=
  (W_cond rfl (q21_27_eq s)).trans (by kernel_rfl)
noncomputable def q21_29 (v1 v2 v11 : AV) (h : Heap) : OX :=
ob (evBin .eql v11 (AV.int .i64 12)) fun v73 =>
(q21_28 v1 v2 v11 v73 h)
noncomputable def q21_29k (s : St) : OX := q21_29 (s 1) (s 2) (s 11) s.h
theorem q21_29_eq (s : St) : W E 0 c_q21_29 s q21_1k (exitTo 0 q21_1k xN) (finP [.cell 2 true 4, .t 3]) = q21_29k s :=
  (W_seq (k := q21_28k) (fun s => q21_28_eq s)).trans (by kernel_rfl)
noncomputable def q21_30 (v1 v2 v11 v68 : AV) (h : Heap) : OX :=
cnd v68
 (ob (evBuild [(.int .i64 0), (.int .i64 0), (.int .i64 0), (.int .i64 0)] [(0, 1, (AV.int .i64 (-1))), (1, 1, (AV.int .i64 3)), (2, 1, (AV.int .i64 (-1))), (3, 1, (AV.int .i64 (-1)))]) fun v71 =>
oh (evSt 4 v2 v71 h) fun _ h20 =>
(ob (evLd true 4 v2 h20) fun r0 =>
  expo1 h20 (.tup [r0, (AV.bool true)])))
 ((q21_29 v1 v2 v11 h))
noncomputable def q21_30k (s : St) : OX := q21_30 (s 1) (s 2) (s 11) (s 68) s.h
theorem q21_30_eq (s : St) : W E 0 c_q21_30 s q21_1k (exitTo 0 q21_1k xN) (finP [.cell 2 true 4, .t 3]) = q21_30k s :=
  (W_cond rfl (q21_29_eq s)).trans (by kernel_rfl)
noncomputable def q21_31 (v1 v2 v11 : AV) (h : Heap) : OX :=
ob (evBin .eql v11 (AV.int .i64 8)) fun v69 =>
cnd v69
 ((q21_30 v1 v2 v11 v69 h))
 (ob (evBin .eql v11 (AV.int .i64 31)) fun v70 =>
(q21_30 v1 v2 v11 v70 h))
noncomputable def q21_31k (s : St) : OX := q21_31 (s 1) (s 2) (s 11) s.h
theorem q21_31_eq (s : St) : W E 0 c_q21_31 s q21_1k (exitTo 0 q21_1k xN) (finP [.cell 2 true 4, .t 3]) = q21_31k s :=
  (W_seq (k := q21_30k) (fun s => q21_30_eq s)).trans (by kernel_rfl)
noncomputable def q21_32 (v1 v2 v11 v65 : AV) (h : Heap) : OX :=
cnd v65
 (ob (evBuild [(.int .i64 0), (.int .i64 0), (.int .i64 0), (.int .i64 0)] [(0, 1, (AV.int .i64 (-1))), (1, 1, (AV.int .i64 0)), (2, 1, (AV.int .i64 (-1))), (3, 1, (AV.int .i64 (-1)))]) fun v67 =>
oh (evSt 4 v2 v67 h) fun _ h21 =>
(ob (evLd true 4 v2 h21) fun r0 =>
  expo1 h21 (.tup [r0, (AV.bool true)])))
 ((q21_31 v1 v2 v11 h))
noncomputable def q21_32k (s : St) : OX := q21_32 (s 1) (s 2) (s 11) (s 65) s.h
theorem q21_32_eq (s : St) : W E 0 c_q21_32 s q21_1k (exitTo 0 q21_1k xN) (finP [.cell 2 true 4, .t 3]) = q21_32k s :=
  (W_cond rfl (q21_31_eq s)).trans (by kernel_rfl)
noncomputable def q21_33 (v1 v2 v11 : AV) (h : Heap) : OX :=
ob (evBin .eql v11 (AV.int .i64 7)) fun v66 =>
(q21_32 v1 v2 v11 v66 h)
noncomputable def q21_33k (s : St) : OX := q21_33 (s 1) (s 2) (s 11) s.h
theorem q21_33_eq (s : St) : W E 0 c_q21_33 s q21_1k (exitTo 0 q21_1k xN) (finP [.cell 2 true 4, .t 3]) = q21_33k s :=
  (W_seq (k := q21_32k) (fun s => q21_32_eq s)).trans (by kernel_rfl)
noncomputable def q21_34 (v1 v2 v11 v47 : AV) (h : Heap) : OX :=
cnd v47
 (ob (evFa 5 v1) fun v50 =>
ob (evLd false 1 v50 h) fun v51 =>
oh (callAny E (callW E) 0 none true 50 [v51] h) fun v52 h22 =>
ob (evExt 0 v52) fun v53 =>
ob (evExt 1 v52) fun v54 =>
ob (evExt 2 v52) fun v55 =>
ob (evBuild [(.int .i64 0), (.int .i64 0), (.int .i64 0), (.int .i64 0)] [(0, 1, v55), (1, 1, v53), (2, 1, (AV.int .i64 (-1))), (3, 1, (AV.int .i64 (-1)))]) fun v58 =>
ob (evBin .neq v53 (AV.int .i64 0)) fun v60 =>
gb v60 true (some v54) fun v62 =>
gb v60 true (evBin .eql v62 (AV.int .i64 0)) fun v63 =>
ob (evPick v60 v63 (AV.bool false)) fun v64 =>
oh (evSt 4 v2 v58 h22) fun _ h23 =>
(ob (evLd true 4 v2 h23) fun r0 =>
  expo1 h23 (.tup [r0, v64])))
 ((q21_33 v1 v2 v11 h))
noncomputable def q21_34k (s : St) : OX := q21_34 (s 1) (s 2) (s 11) (s 47) s.h
theorem q21_34_eq (s : St) : W E 0 c_q21_34 s q21_1k (exitTo 0 q21_1k xN) (finP [.cell 2 true 4, .t 3]) = q21_34k s :=
  (W_cond rfl (q21_33_eq s)).trans (by kernel_rfl)
noncomputable def q21_35 (v1 v2 v11 : AV) (h : Heap) : OX :=
ob (evBin .eql v11 (AV.int .i64 6)) fun v48 =>
(q21_34 v1 v2 v11 v48 h)
noncomputable def q21_35k (s : St) : OX := q21_35 (s 1) (s 2) (s 11) s.h
theorem q21_35_eq (s : St) : W E 0 c_q21_35 s q21_1k (exitTo 0 q21_1k xN) (finP [.cell 2 true 4, .t 3]) = q21_35k s :=
  (W_seq (k := q21_34k) (fun s => q21_34_eq s)).trans (by kernel_rfl)
noncomputable def q21_36 (v1 v2 v11 v25 : AV) (h : Heap) : OX :=
cnd v25
 (ob (evFa 5 v1) fun v28 =>
ob (evLd false 1 v28 h) fun v29 =>
oh (callAny E (callW E) 0 none true 50 [v29] h) fun v30 h24 =>
ob (evExt 0 v30) fun v31 =>
ob (evExt 1 v30) fun v32 =>
ob (evExt 2 v30) fun v33 =>
ob (evBuild [(.int .i64 0), (.int .i64 0), (.int .i64 0), (.int .i64 0)] [(0, 1, v33), (1, 1, v31), (2, 1, v32), (3, 1, (AV.int .i64 (-1)))]) fun v37 =>
ob (evFa 5 v1) fun v38 =>
ob (evLd false 1 v38 h24) fun v39 =>
ob (evFa 5 v1) fun v40 =>
ob (evLd false 1 v40 h24) fun v41 =>
ob (evBin .eql v39 v41) fun v42 =>
gb v42 true (some v32) fun v44 =>
gb v42 true (evBin .neq v44 (AV.int .i64 0)) fun v45 =>
ob (evPick v42 v45 (AV.bool false)) fun v46 =>
oh (evSt 4 v2 v37 h24) fun _ h25 =>
(ob (evLd true 4 v2 h25) fun r0 =>
  expo1 h25 (.tup [r0, v46])))
 ((q21_35 v1 v2 v11 h))
noncomputable def q21_36k (s : St) : OX := q21_36 (s 1) (s 2) (s 11) (s 25) s.h
theorem q21_36_eq (s : St) : W E 0 c_q21_36 s q21_1k (exitTo 0 q21_1k xN) (finP [.cell 2 true 4, .t 3]) = q21_36k s :=
  (W_cond rfl (q21_35_eq s)).trans (by kernel_rfl)
noncomputable def q21_37 (v1 v2 v11 : AV) (h : Heap) : OX :=
ob (evBin .eql v11 (AV.int .i64 5)) fun v26 =>
(q21_36 v1 v2 v11 v26 h)
noncomputable def q21_37k (s : St) : OX := q21_37 (s 1) (s 2) (s 11) s.h
theorem q21_37_eq (s : St) : W E 0 c_q21_37 s q21_1k (exitTo 0 q21_1k xN) (finP [.cell 2 true 4, .t 3]) = q21_37k s :=
  (W_seq (k := q21_36k) (fun s => q21_36_eq s)).trans (by kernel_rfl)
noncomputable def q21_38 (v1 v2 v11 v22 : AV) (h : Heap) : OX :=
cnd v22
 (ob (evBuild [(.int .i64 0), (.int .i64 0), (.int .i64 0), (.int .i64 0)] [(0, 1, (AV.int .i64 0)), (1, 1, (AV.int .i64 0)), (2, 1, (AV.int .i64 (-1))), (3, 1, (AV.int .i64 (-1)))]) fun v24 =>
oh (evSt 4 v2 v24 h) fun _ h26 =>
(ob (evLd true 4 v2 h26) fun r0 =>
  expo1 h26 (.tup [r0, (AV.bool true)])))
 ((q21_37 v1 v2 v11 h))
noncomputable def q21_38k (s : St) : OX := q21_38 (s 1) (s 2) (s 11) (s 22) s.h
theorem q21_38_eq (s : St) : W E 0 c_q21_38 s q21_1k (exitTo 0 q21_1k xN) (finP [.cell 2 true 4, .t 3]) = q21_38k s :=
  (W_cond rfl (q21_37_eq s)).trans (by kernel_rfl)
noncomputable def q21_39 (v1 v2 v11 : AV) (h : Heap) : OX :=
ob (evBin .eql v11 (AV.int .i64 4)) fun v23 =>
(q21_38 v1 v2 v11 v23 h)
noncomputable def q21_39k (s : St) : OX := q21_39 (s 1) (s 2) (s 11) s.h
theorem q21_39_eq (s : St) : W E 0 c_q21_39 s q21_1k (exitTo 0 q21_1k xN) (finP [.cell 2 true 4, .t 3]) = q21_39k s :=
  (W_seq (k := q21_38k) (fun s => q21_38_eq s)).trans (by kernel_rfl)
noncomputable def q21_40 (v1 v2 v11 v16 : AV) (h : Heap) : OX :=
cnd v16
 (ob (evBuild [(.int .i64 0), (.int .i64 0), (.int .i64 0), (.int .i64 0)] [(0, 1, (AV.int .i64 3)), (1, 1, (AV.int .i64 (-1))), (2, 1, (AV.int .i64 (-1))), (3, 1, (AV.int .i64 (-1)))]) fun v21 =>
oh (evSt 4 v2 v21 h) fun _ h27 =>
(ob (evLd true 4 v2 h27) fun r0 =>
  expo1 h27 (.tup [r0, (AV.bool true)])))
 ((q21_39 v1 v2 v11 h))
noncomputable def q21_40k (s : St) : OX := q21_40 (s 1) (s 2) (s 11) (s 16) s.h
theorem q21_40_eq (s : St) : W E 0 c_q21_40 s q21_1k (exitTo 0 q21_1k xN) (finP [.cell 2 true 4, .t 3]) = q21_40k s :=
  (W_cond rfl (q21_39_eq s)).trans (by kernel_rfl)
noncomputable def q21_41 (v1 v2 v11 : AV) (h : Heap) : OX :=
ob (evBin .eql v11 (AV.int .i64 2)) fun v17 =>
cnd v17
 ((q21_40 v1 v2 v11 v17 h))
 (ob (evBin .eql v11 (AV.int .i64 3)) fun v18 =>
cnd v18
 ((q21_40 v1 v2 v11 v18 h))
 (ob (evBin .eql v11 (AV.int .i64 20)) fun v19 =>
cnd v19
 ((q21_40 v1 v2 v11 v19 h))
 (ob (evBin .eql v11 (AV.int .i64 32)) fun v20 =>
(q21_40 v1 v2 v11 v20 h))))
noncomputable def q21_41k (s : St) : OX := q21_41 (s 1) (s 2) (s 11) s.h
theorem q21_41_eq (s : St) : W E 0 c_q21_41 s q21_1k (exitTo 0 q21_1k xN) (finP [.cell 2 true 4, .t 3]) = q21_41k s :=
  (W_seq (k := q21_40k) (fun s => q21_40_eq s)).trans (by kernel_rfl)
noncomputable def q21_42 (v1 v2 v11 v12 : AV) (h : Heap) : OX :=
cnd v12
 (ob (evBuild [(.int .i64 0), (.int .i64 0), (.int .i64 0), (.int .i64 0)] [(0, 1, (AV.int .i64 0)), (1, 1, (AV.int .i64 (-1))), (2, 1, (AV.int .i64 (-1))), (3, 1, (AV.int .i64 (-1)))]) fun v15 =>
oh (evSt 4 v2 v15 h) fun _ h28 =>
(ob (evLd true 4 v2 h28) fun r0 =>
  expo1 h28 (.tup [r0, (AV.bool true)])))
 ((q21_41 v1 v2 v11 h))
noncomputable def q21_42k (s : St) : OX := q21_42 (s 1) (s 2) (s 11) (s 12) s.h
theorem q21_42_eq (s : St) : W E 0 c_q21_42 s q21_1k (exitTo 0 q21_1k xN) (finP [.cell 2 true 4, .t 3]) = q21_42k s :=
  (W_cond rfl (q21_41_eq s)).trans (by kernel_rfl)
noncomputable def q21_43 (v1 v2 v11 : AV) (h : Heap) : OX :=
ob (evBin .eql v11 (AV.int .i64 1)) fun v13 =>
cnd v13
 ((q21_42 v1 v2 v11 v13 h))
 (ob (evBin .eql v11 (AV.int .i64 18)) fun v14 =>
(q21_42 v1 v2 v11 v14 h))
noncomputable def q21_43k (s : St) : OX := q21_43 (s 1) (s 2) (s 11) s.h
theorem q21_43_eq (s : St) : W E 0 c_q21_43 s q21_1k (exitTo 0 q21_1k xN) (finP [.cell 2 true 4, .t 3]) = q21_43k s :=
  (W_seq (k := q21_42k) (fun s => q21_42_eq s)).trans (by kernel_rfl)
theorem q21_44_eq (s : St) : W E 0 c_q21_44 s q21_1k xN (finP [.cell 2 true 4, .t 3]) = q21_43k s :=
  W_block.trans (q21_43_eq s)
noncomputable def q21_45 (v1 v2 : AV) (h : Heap) : OX :=
ob (evFa 0 v1) fun v10 =>
ob (evLd false 1 v10 h) fun v11 =>
(q21_43 v1 v2 v11 h)
noncomputable def q21_45k (s : St) : OX := q21_45 (s 1) (s 2) s.h
theorem q21_45_eq (s : St) : W E 0 c_q21_45 s q21_1k xN (finP [.cell 2 true 4, .t 3]) = q21_45k s :=
  (W_seq (k := q21_43k) (fun s => q21_44_eq s)).trans (by kernel_rfl)
theorem q21_46_eq (s : St) : W E 0 c_q21_46 s (finP [.cell 2 true 4, .t 3]) xN (finP [.cell 2 true 4, .t 3]) = q21_45k s :=
  (W_seq (k := q21_1k) (fun s => q21_1_eq s)).trans (q21_45_eq s)
noncomputable def q21_47 (v0 : AV) (h : Heap) : OX :=
oh (newC 0 (some 0) (cellsOf v0) h) fun v1 h29 =>
oh (newC 0 (some 1) [(.int .i64 0), (.int .i64 0), (.int .i64 0), (.int .i64 0)] h29) fun v2 h30 =>
(q21_45 v1 v2 h30)
noncomputable def q21_47k (s : St) : OX := q21_47 (s 0) s.h
theorem q21_47_eq (s : St) : W E 0 c_q21_47 s (finP [.cell 2 true 4, .t 3]) xN (finP [.cell 2 true 4, .t 3]) = q21_47k s :=
  (W_seq (k := q21_45k) (fun s => q21_46_eq s)).trans (by kernel_rfl)
@[simp] theorem pure_47 : E.pure 47 = true := rfl
theorem x_q21 (v0 : AV) : (callW E).p 47 [v0] = q21_47 v0 [⟨0, .dead⟩, ⟨0, .dead⟩] :=
  (callP_W (cf := c_q21) (by kernel_rfl) rfl).trans ((q21_47_eq _).trans (by kernel_rfl))
noncomputable def q57_1 (v0 : AV) (h : Heap) : OX :=
ob (evBin .neq v0 (AV.str [])) fun v25 =>
gb v25 true (some v0) fun v27 =>
gb v25 true (evLen 0 v27 h) fun v28 =>
gb v25 true (evBin .leq v28 (AV.int .i64 60)) fun v29 =>
ob (evPick v25 v29 (AV.bool false)) fun v30 =>
(expo1 h v30)
noncomputable def q57_1k (s : St) : OX := q57_1 (s 0) s.h
theorem q57_1_eq (s : St) : W E 0 c_q57_1 s (finP [.t 4]) xN (finP [.t 4]) = q57_1k s :=
  by kernel_rfl
noncomputable def q57_L2 (v0 v5 v6 : AV) (h : Heap) : OX :=
  W E 0 c_q57_L2 ⟨[(0, v0), (5, v5), (6, v6)], h⟩ q57_1k (exitTo 0 q57_1k xN) (finP [.t 4])
noncomputable def q57_L2k (s : St) : OX := q57_L2 (s 0) (s 5) (s 6) s.h
theorem q57_L2_eq (s : St) : W E 0 c_q57_L2 s q57_1k (exitTo 0 q57_1k xN) (finP [.t 4]) = q57_L2k s := W_loop_live.trans (by kernel_rfl)
noncomputable def q57_3 (v0 v5 v6 : AV) (h : Heap) : OX :=
ob (evBin .add v6 (AV.int .i64 1)) fun v15 =>
(q57_L2 v0 v5 v15 h)
noncomputable def q57_3k (s : St) : OX := q57_3 (s 0) (s 5) (s 6) s.h
theorem q57_3_eq (s : St) : W E 0 c_q57_3 s q57_L2k (exitTo 0 q57_1k xN) (finP [.t 4]) = q57_3k s :=
  by kernel_rfl
noncomputable def q57_4 (v0 v5 v6 : AV) (h : Heap) : OX :=
ob (evBin .add v6 (AV.int .i64 1)) fun v20 =>
ob (evSls v0 (some v6) (some v20)) fun v21 =>
oh (callAny E (callW E) 0 none true 53 [v5, v21] h) fun v22 h1 =>
ob (evUn .not v22) fun v23 =>
cnd v23
 ((expo1 h1 (AV.bool false)))
 ((q57_3 v0 v5 v6 h1))
noncomputable def q57_4k (s : St) : OX := q57_4 (s 0) (s 5) (s 6) s.h
theorem q57_4_eq (s : St) : W E 0 c_q57_4 s q57_L2k (exitTo 0 q57_1k xN) (finP [.t 4]) = q57_4k s :=
  (W_seq (k := q57_3k) (fun s => q57_3_eq s)).trans (by kernel_rfl)
noncomputable def q57_5 (v0 v5 v6 : AV) (h : Heap) : OX :=
ob (evLen 0 v0 h) fun v12 =>
ob (evBin .lss v6 v12) fun v13 =>
cnd v13
 ((q57_4 v0 v5 v6 h))
 ((q57_1 v0 h))
noncomputable def q57_5k (s : St) : OX := q57_5 (s 0) (s 5) (s 6) s.h
theorem q57_5_eq (s : St) : W E 0 c_q57_5 s q57_L2k (exitTo 0 q57_1k xN) (finP [.t 4]) = q57_5k s :=
  (W_seq (k := q57_4k) (fun s => q57_4_eq s)).trans (by kernel_rfl)
theorem q57_L2_go (v0 v5 v6 : AV) (h : Heap) : q57_L2 v0 v5 v6 h = (q57_5 v0 v5 v6 h) :=
  W_loop.trans ((W_congr _ _ _ (n' := q57_L2k) (fun s => q57_L2_eq s)).trans ((q57_5_eq _).trans (by kernel_rfl)))
theorem q57_6_eq (s : St) : W E 0 c_q57_6 s q57_1k xN (finP [.t 4]) = q57_L2k s :=
  W_block.trans (q57_L2_eq s)
noncomputable def q57_7 (v0 v5 : AV) (h : Heap) : OX :=
(q57_L2 v0 v5 (AV.int .i64 0) h)
noncomputable def q57_7k (s : St) : OX := q57_7 (s 0) (s 5) s.h
theorem q57_7_eq (s : St) : W E 0 c_q57_7 s q57_1k xN (finP [.t 4]) = q57_7k s :=
  (W_seq (k := q57_L2k) (fun s => q57_6_eq s)).trans (by kernel_rfl)
theorem q57_8_eq (s : St) : W E 0 c_q57_8 s (finP [.t 4]) xN (finP [.t 4]) = q57_7k s :=
  (W_seq (k := q57_1k) (fun s => q57_1_eq s)).trans (q57_7_eq s)
noncomputable def q57_9 (v0 v1 v5 : AV) (h : Heap) : OX :=
cnd v1
 (ob (evBin .add v5 (AV.str [60, 62])) fun v9 =>
(q57_7 v0 v9 h))
 ((q57_7 v0 v5 h))
noncomputable def q57_9k (s : St) : OX := q57_9 (s 0) (s 1) (s 5) s.h
theorem q57_9_eq (s : St) : W E 0 c_q57_9 s (finP [.t 4]) xN (finP [.t 4]) = q57_9k s :=
  (W_seq (k := q57_7k) (fun s => q57_8_eq s)).trans (by kernel_rfl)
noncomputable def q57_10 (v0 v1 : AV) (h : Heap) : OX :=
(q57_9 v0 v1 (AV.str [97, 98, 99, 100, 101, 102, 103, 104, 105, 106, 107, 108, 109, 110, 111, 112, 113, 114, 115, 116, 117, 118, 119, 120, 121, 122, 65, 66, 67, 68, 69, 70, 71, 72, 73, 74, 75, 76, 77, 78, 79, 80, 81, 82, 83, 84, 85, 86, 87, 88, 89, 90, 48, 49, 50, 51, 52, 53, 54, 55, 56, 57, 95, 36, 47]) h)
noncomputable def q57_10k (s : St) : OX := q57_10 (s 0) (s 1) s.h
theorem q57_10_eq (s : St) : W E 0 c_q57_10 s (finP [.t 4]) xN (finP [.t 4]) = q57_10k s :=
  (W_seq (k := q57_9k) (fun s => q57_9_eq s)).trans (by kernel_rfl)
noncomputable def q57_11 (v0 v1 : AV) (h : Heap) : OX :=
(q57_10 v0 v1 h)
noncomputable def q57_11k (s : St) : OX := q57_11 (s 0) (s 1) s.h
theorem q57_11_eq (s : St) : W E 0 c_q57_11 s (finP [.t 4]) xN (finP [.t 4]) = q57_11k s :=
  (W_seq (k := q57_10k) (fun s => q57_10_eq s)).trans (by kernel_rfl)
@[simp] theorem pure_69 : E.pure 69 = true := rfl
theorem x_q57 (v0 v1 : AV) : (callW E).p 69 [v0, v1] = q57_11 v0 v1 [] :=
  (callP_W (cf := c_q57) (by kernel_rfl) rfl).trans ((q57_11_eq _).trans (by kernel_rfl))
end Go.Vm
