/- Functions of the machine as plain functions that go on with what follows. -/
import Derived.Test.YtfmmcafccijnhaaFEnv
set_option linter.unusedSimpArgs false
set_option linter.unusedVariables false
set_option linter.unusedSectionVars false
namespace Go.Vm
noncomputable def q63_1 (v1 v3 v7 v8 : AV) (h : Heap) : OX :=
ob (evFa 5 v7) fun v87 =>
ob (evLd false 1 v87 h) fun v88 =>
ob (evFa 6 v7) fun v89 =>
ob (evLd false 1 v89 h) fun v90 =>
ob (evFa 7 v7) fun v91 =>
ob (evLd false 1 v91 h) fun v92 =>
ob (evFa 5 v8) fun v93 =>
oh (evSt 1 v93 v88 h) fun _ h1 =>
ob (evFa 6 v8) fun v94 =>
oh (evSt 1 v94 v90 h1) fun _ h2 =>
ob (evFa 7 v8) fun v95 =>
oh (evSt 1 v95 v92 h2) fun _ h3 =>
okK (pairsOk [([], []), (ids1 v87, []), ([], []), (ids1 v89, []), ([], []), (ids1 v91, []), ([], []), ([], ids1 v93), ([], []), ([], ids1 v94), ([], []), ([], ids1 v95)] [(3, 7), (5, 7), (5, 9)]) <|
ob (evLd true 5 v3 h3) fun v96 =>
oh (newC 0 (some 4) [.nils, .nils, (.int .i64 0), .nils, .nils] h3) fun v10 h4 =>
oh (evSt 5 v10 v96 h4) fun _ h5 =>
ob (evFa 3 v3) fun v97 =>
ob (evLd false 1 v97 h5) fun v98 =>
oh (evApp 0 (some 5) 9 96 AV.nils v98 h5) fun v99 h6 =>
ob (evFa 3 v10) fun v100 =>
oh (evSt 1 v100 v99 h6) fun _ h7 =>
ob (evFa 3 v10) fun v101 =>
ob (evLd false 1 v101 h7) fun v102 =>
ob (evLd true 9 v8 h7) fun v104 =>
ob (evIxs 9 v102 v1) fun v105 =>
oh (evSt 9 v105 v104 h7) fun _ h8 =>
ob (evLd true 5 v10 h8) fun v106 =>
ofp (fpCall E (callW E) 0 none true 8 [v106] h8) fun f1 =>
oh (callAny E (callW E) 0 none true 8 [v106] h8) fun v107 h9 =>
ob (evLd true 5 v3 h9) fun v108 =>
ofp (fpCall E (callW E) 0 none true 8 [v108] h9) fun f3 =>
oh (callAny E (callW E) 0 none true 8 [v108] h9) fun v109 h10 =>
ob (evBin .eql v107 v109) fun v110 =>
ofp (fgd v110 true (some (ids1 v8, []))) fun f6 =>
gb v110 true (evLd true 9 v8 h10) fun v112 =>
ofp (fgd v110 true (fpCall E (callW E) 0 none true 9 [v112] h10)) fun f7 =>
gh v110 true (callAny E (callW E) 0 none true 9 [v112] h10) h10 fun v113 h11 =>
ofp (fgd v110 true (some (ids1 v7, []))) fun f8 =>
gb v110 true (evLd true 9 v7 h11) fun v114 =>
ofp (fgd v110 true (fpCall E (callW E) 0 none true 9 [v114] h11)) fun f9 =>
gh v110 true (callAny E (callW E) 0 none true 9 [v114] h11) h11 fun v115 h12 =>
ofp (fgd v110 true (some ([], []))) fun f10 =>
gb v110 true (evBin .eql v113 v115) fun v116 =>
ob (evPick v110 v116 (AV.bool false)) fun v117 =>
ofp (fgd v117 true (some (ids1 v8, []))) fun f13 =>
gb v117 true (evLd true 9 v8 h12) fun v119 =>
ofp (fgd v117 true (fpCall E (callW E) 0 none true 10 [v119] h12)) fun f14 =>
gh v117 true (callAny E (callW E) 0 none true 10 [v119] h12) h12 fun v120 h13 =>
ofp (fgd v117 true (some (ids1 v7, []))) fun f15 =>
gb v117 true (evLd true 9 v7 h13) fun v121 =>
ofp (fgd v117 true (fpCall E (callW E) 0 none true 10 [v121] h13)) fun f16 =>
gh v117 true (callAny E (callW E) 0 none true 10 [v121] h13) h13 fun v122 h14 =>
ofp (fgd v117 true (fpCall E (callW E) 0 none true 11 [v120, v122] h14)) fun f17 =>
gh v117 true (callAny E (callW E) 0 none true 11 [v120, v122] h14) h14 fun v123 h15 =>
ob (evPick v117 v123 (AV.bool false)) fun v124 =>
okK (pairsOk [(ids1 v10, []), f1, (ids1 v3, []), f3, ([], []), ([], []), f6, f7, f8, f9, f10, ([], []), ([], []), f13, f14, f15, f16, f17, ([], []), ([], [])] [(1, 2), (7, 8), (14, 15)]) <|
(expo1 h15 v124)
noncomputable def q63_1k (s : St) : OX := q63_1 (s 1) (s 3) (s 7) (s 8) s.h
theorem q63_1_eq (s : St) : W E 0 c_q63_1 s (finP [.t 6]) xN (finP [.t 6]) = q63_1k s :=
  by kernel_rfl
noncomputable def q63_2 (v1 v3 v7 v8 : AV) (h : Heap) : OX :=
ob (evFa 0 v7) fun v81 =>
ob (evLd false 1 v81 h) fun v82 =>
oh (callAny E (callW E) 0 none true 7 [v82] h) fun v83 h16 =>
cnd v83
 (ob (evFa 8 v7) fun v84 =>
ob (evLd false 1 v84 h16) fun v85 =>
ob (evFa 8 v8) fun v86 =>
oh (evSt 1 v86 v85 h16) fun _ h17 =>
(q63_1 v1 v3 v7 v8 h17))
 ((q63_1 v1 v3 v7 v8 h16))
noncomputable def q63_2k (s : St) : OX := q63_2 (s 1) (s 3) (s 7) (s 8) s.h
theorem q63_2_eq (s : St) : W E 0 c_q63_2 s (finP [.t 6]) xN (finP [.t 6]) = q63_2k s :=
  (W_seq (k := q63_1k) (fun s => q63_1_eq s)).trans (by kernel_rfl)
noncomputable def q63_3 (v1 v3 v7 v8 v9 : AV) (h : Heap) : OX :=
ob (evBin .geq v9 (AV.int .i64 3)) fun v77 =>
cnd v77
 (ob (evFa 4 v7) fun v78 =>
ob (evLd false 1 v78 h) fun v79 =>
ob (evFa 4 v8) fun v80 =>
oh (evSt 1 v80 v79 h) fun _ h18 =>
(q63_2 v1 v3 v7 v8 h18))
 ((q63_2 v1 v3 v7 v8 h))
noncomputable def q63_3k (s : St) : OX := q63_3 (s 1) (s 3) (s 7) (s 8) (s 9) s.h
theorem q63_3_eq (s : St) : W E 0 c_q63_3 s (finP [.t 6]) xN (finP [.t 6]) = q63_3k s :=
  (W_seq (k := q63_2k) (fun s => q63_2_eq s)).trans (by kernel_rfl)
noncomputable def q63_4 (v1 v3 v7 v8 v9 : AV) (h : Heap) : OX :=
ob (evBin .geq v9 (AV.int .i64 2)) fun v72 =>
cnd v72
 (ob (evFa 3 v7) fun v73 =>
ob (evLd false 1 v73 h) fun v74 =>
ob (evFa 3 v8) fun v75 =>
oh (evSt 1 v75 v74 h) fun _ h19 =>
(q63_3 v1 v3 v7 v8 v9 h19))
 ((q63_3 v1 v3 v7 v8 v9 h))
noncomputable def q63_4k (s : St) : OX := q63_4 (s 1) (s 3) (s 7) (s 8) (s 9) s.h
theorem q63_4_eq (s : St) : W E 0 c_q63_4 s (finP [.t 6]) xN (finP [.t 6]) = q63_4k s :=
  (W_seq (k := q63_3k) (fun s => q63_3_eq s)).trans (by kernel_rfl)
noncomputable def q63_5 (v1 v3 v7 v8 v9 : AV) (h : Heap) : OX :=
ob (evBin .geq v9 (AV.int .i64 1)) fun v67 =>
cnd v67
 (ob (evFa 2 v7) fun v68 =>
ob (evLd false 1 v68 h) fun v69 =>
ob (evFa 2 v8) fun v70 =>
oh (evSt 1 v70 v69 h) fun _ h20 =>
(q63_4 v1 v3 v7 v8 v9 h20))
 ((q63_4 v1 v3 v7 v8 v9 h))
noncomputable def q63_5k (s : St) : OX := q63_5 (s 1) (s 3) (s 7) (s 8) (s 9) s.h
theorem q63_5_eq (s : St) : W E 0 c_q63_5 s (finP [.t 6]) xN (finP [.t 6]) = q63_5k s :=
  (W_seq (k := q63_4k) (fun s => q63_4_eq s)).trans (by kernel_rfl)
noncomputable def q63_6 (v1 v3 v7 v8 : AV) (h : Heap) : OX :=
ob (evFa 0 v7) fun v63 =>
ob (evLd false 1 v63 h) fun v64 =>
oh (callAny E (callW E) 0 none true 6 [v64] h) fun v65 h21 =>
(q63_5 v1 v3 v7 v8 v65 h21)
noncomputable def q63_6k (s : St) : OX := q63_6 (s 1) (s 3) (s 7) (s 8) s.h
theorem q63_6_eq (s : St) : W E 0 c_q63_6 s (finP [.t 6]) xN (finP [.t 6]) = q63_6k s :=
  (W_seq (k := q63_5k) (fun s => q63_5_eq s)).trans (by kernel_rfl)
noncomputable def q63_7 (v1 v3 v7 v8 : AV) (h : Heap) : OX :=
ob (evFa 0 v7) fun v57 =>
ob (evLd false 1 v57 h) fun v58 =>
oh (callAny E (callW E) 0 none true 5 [v58] h) fun v59 h22 =>
cnd v59
 (ob (evFa 1 v7) fun v60 =>
ob (evLd false 1 v60 h22) fun v61 =>
ob (evFa 1 v8) fun v62 =>
oh (evSt 1 v62 v61 h22) fun _ h23 =>
(q63_6 v1 v3 v7 v8 h23))
 ((q63_6 v1 v3 v7 v8 h22))
noncomputable def q63_7k (s : St) : OX := q63_7 (s 1) (s 3) (s 7) (s 8) s.h
theorem q63_7_eq (s : St) : W E 0 c_q63_7 s (finP [.t 6]) xN (finP [.t 6]) = q63_7k s :=
  (W_seq (k := q63_6k) (fun s => q63_6_eq s)).trans (by kernel_rfl)
noncomputable def q63_8 (v1 v3 v7 v8 : AV) (h : Heap) : OX :=
ob (evFa 0 v7) fun v54 =>
ob (evLd false 1 v54 h) fun v55 =>
ob (evFa 0 v8) fun v56 =>
oh (evSt 1 v56 v55 h) fun _ h24 =>
(q63_7 v1 v3 v7 v8 h24)
noncomputable def q63_8k (s : St) : OX := q63_8 (s 1) (s 3) (s 7) (s 8) s.h
theorem q63_8_eq (s : St) : W E 0 c_q63_8 s (finP [.t 6]) xN (finP [.t 6]) = q63_8k s :=
  (W_seq (k := q63_7k) (fun s => q63_7_eq s)).trans (by kernel_rfl)
noncomputable def q63_9 (v1 v3 v5 v7 : AV) (h : Heap) : OX :=
ob (evLd true 9 v5 h) fun v53 =>
oh (newC 0 (some 3) [(.int .i64 0), (.int .i64 0), (.int .i64 0), (.int .i64 0), (.int .i64 0), (.int .i64 0), (.int .i64 0), (.str []), .nils] h) fun v8 h25 =>
oh (evSt 9 v8 v53 h25) fun _ h26 =>
(q63_8 v1 v3 v7 v8 h26)
noncomputable def q63_9k (s : St) : OX := q63_9 (s 1) (s 3) (s 5) (s 7) s.h
theorem q63_9_eq (s : St) : W E 0 c_q63_9 s (finP [.t 6]) xN (finP [.t 6]) = q63_9k s :=
  (W_seq (k := q63_8k) (fun s => q63_8_eq s)).trans (by kernel_rfl)
noncomputable def q63_10 (v1 v3 v5 : AV) (h : Heap) : OX :=
ob (evFa 3 v3) fun v48 =>
ob (evLd false 1 v48 h) fun v49 =>
ob (evIxs 9 v49 v1) fun v51 =>
ob (evLd true 9 v51 h) fun v52 =>
oh (newC 0 (some 2) [(.int .i64 0), (.int .i64 0), (.int .i64 0), (.int .i64 0), (.int .i64 0), (.int .i64 0), (.int .i64 0), (.str []), .nils] h) fun v7 h27 =>
oh (evSt 9 v7 v52 h27) fun _ h28 =>
(q63_9 v1 v3 v5 v7 h28)
noncomputable def q63_10k (s : St) : OX := q63_10 (s 1) (s 3) (s 5) s.h
theorem q63_10_eq (s : St) : W E 0 c_q63_10 s (finP [.t 6]) xN (finP [.t 6]) = q63_10k s :=
  (W_seq (k := q63_9k) (fun s => q63_9_eq s)).trans (by kernel_rfl)
noncomputable def q63_11 (v1 v3 v5 : AV) (h : Heap) : OX :=
ob (evFa 3 v3) fun v36 =>
ob (evLd false 1 v36 h) fun v37 =>
ob (evLen 1 v37 h) fun v38 =>
ob (evBin .rem v1 v38) fun v39 =>
ob (evFa 3 v3) fun v40 =>
ob (evLd false 1 v40 h) fun v41 =>
ob (evLen 1 v41 h) fun v42 =>
ob (evBin .add v39 v42) fun v43 =>
ob (evFa 3 v3) fun v44 =>
ob (evLd false 1 v44 h) fun v45 =>
ob (evLen 1 v45 h) fun v46 =>
ob (evBin .rem v43 v46) fun v47 =>
(q63_10 v47 v3 v5 h)
noncomputable def q63_11k (s : St) : OX := q63_11 (s 1) (s 3) (s 5) s.h
theorem q63_11_eq (s : St) : W E 0 c_q63_11 s (finP [.t 6]) xN (finP [.t 6]) = q63_11k s :=
  (W_seq (k := q63_10k) (fun s => q63_10_eq s)).trans (by kernel_rfl)
noncomputable def q63_12 (v1 v3 v5 : AV) (h : Heap) : OX :=
ob (evFa 3 v3) fun v13 =>
ob (evLd false 1 v13 h) fun v14 =>
ob (evLen 1 v14 h) fun v15 =>
ob (evBin .eql v15 (AV.int .i64 0)) fun v16 =>
gb v16 false (evFa 3 v3) fun v18 =>
gb v16 false (evLd false 1 v18 h) fun v19 =>
gb v16 false (evLen 1 v19 h) fun v20 =>
gb v16 false (evBin .gtr v20 (AV.int .i64 400)) fun v21 =>
ob (evPick v16 (AV.bool true) v21) fun v22 =>
gb v22 false (evFa 0 v3) fun v24 =>
gb v22 false (evLd false 1 v24 h) fun v25 =>
gb v22 false (evLen 1 v25 h) fun v26 =>
gb v22 false (evBin .gtr v26 (AV.int .i64 100)) fun v27 =>
ob (evPick v22 (AV.bool true) v27) fun v28 =>
gb v28 false (evFa 8 v5) fun v30 =>
gb v28 false (evLd false 1 v30 h) fun v31 =>
gb v28 false (evLen 1 v31 h) fun v32 =>
gb v28 false (evBin .gtr v32 (AV.int .i64 100)) fun v33 =>
ob (evPick v28 (AV.bool true) v33) fun v34 =>
cnd v34
 ((expo1 h (AV.bool true)))
 ((q63_11 v1 v3 v5 h))
noncomputable def q63_12k (s : St) : OX := q63_12 (s 1) (s 3) (s 5) s.h
theorem q63_12_eq (s : St) : W E 0 c_q63_12 s (finP [.t 6]) xN (finP [.t 6]) = q63_12k s :=
  (W_seq (k := q63_11k) (fun s => q63_11_eq s)).trans (by kernel_rfl)
noncomputable def q63_13 (v1 v3 v5 : AV) (h : Heap) : OX :=
oh (callAny E (callW E) 0 none true 4 [] h) fun v11 h29 =>
ob (evUn .not v11) fun v12 =>
cnd v12
 ((expo1 h29 (AV.bool false)))
 ((q63_12 v1 v3 v5 h29))
noncomputable def q63_13k (s : St) : OX := q63_13 (s 1) (s 3) (s 5) s.h
theorem q63_13_eq (s : St) : W E 0 c_q63_13 s (finP [.t 6]) xN (finP [.t 6]) = q63_13k s :=
  (W_seq (k := q63_12k) (fun s => q63_12_eq s)).trans (by kernel_rfl)
noncomputable def q63_14 (v0 v1 v2 : AV) (h : Heap) : OX :=
oh (newC 0 (some 0) (cellsOf v0) h) fun v3 h30 =>
oh (newC 0 (some 1) (cellsOf v2) h30) fun v5 h31 =>
(q63_13 v1 v3 v5 h31)
noncomputable def q63_14k (s : St) : OX := q63_14 (s 0) (s 1) (s 2) s.h
theorem q63_14_eq (s : St) : W E 0 c_q63_14 s (finP [.t 6]) xN (finP [.t 6]) = q63_14k s :=
  (W_seq (k := q63_13k) (fun s => q63_13_eq s)).trans (by kernel_rfl)
@[simp] theorem pure_12 : E.pure 12 = true := rfl
theorem x_q63 (v0 v1 v2 : AV) : (callW E).p 12 [v0, v1, v2] = q63_14 v0 v1 v2 [⟨0, .dead⟩, ⟨0, .dead⟩, ⟨0, .dead⟩, ⟨0, .dead⟩, ⟨0, .dead⟩, ⟨0, .dead⟩] :=
  (callP_W (cf := c_q63) (by kernel_rfl) rfl).trans ((q63_14_eq _).trans (by kernel_rfl))
@[simp] theorem pure_4 : E.pure 4 = true := rfl
noncomputable def q104_1 (v0 : AV) (h : Heap) : OX :=
oh (callAny E (callW E) 0 none true 38 [v0] h) fun v5 h1 =>
ob (evBin .neq v5 (AV.str [])) fun v7 =>
gb v7 true (some v5) fun v9 =>
gb v7 true (evIxstr v9 (AV.int .i64 0)) fun v10 =>
gb v7 true (evBin .neq v10 (AV.int .u8 45)) fun v11 =>
ob (evPick v7 v11 (AV.bool false)) fun v12 =>
(expo1 h1 v12)
noncomputable def q104_1k (s : St) : OX := q104_1 (s 0) s.h
theorem q104_1_eq (s : St) : W E 0 c_q104_1 s (finP [.t 2]) xN (finP [.t 2]) = q104_1k s :=
  by kernel_rfl
@[simp] theorem pure_5 : E.pure 5 = true := rfl
theorem x_q104 (v0 : AV) : (callW E).p 5 [v0] = q104_1 v0 [] :=
  (callP_W (cf := c_q104) (by kernel_rfl) rfl).trans ((q104_1_eq _).trans (by kernel_rfl))
noncomputable def q98_1 (v4 : AV) (h : Heap) : OX :=
(expo1 h v4)
noncomputable def q98_1k (s : St) : OX := q98_1 (s 4) s.h
theorem q98_1_eq (s : St) : W E 0 c_q98_1 s (finP [.t 2]) xN (finP [.t 2]) = q98_1k s :=
  by kernel_rfl
noncomputable def q98_L2 (v0 v3 v4 v5 : AV) (h : Heap) : OX :=
  W E 0 c_q98_L2 ⟨[(0, v0), (3, v3), (4, v4), (5, v5)], h⟩ q98_1k (exitTo 0 q98_1k xN) (finP [.t 2])
noncomputable def q98_L2k (s : St) : OX := q98_L2 (s 0) (s 3) (s 4) (s 5) s.h
theorem q98_L2_eq (s : St) : W E 0 c_q98_L2 s q98_1k (exitTo 0 q98_1k xN) (finP [.t 2]) = q98_L2k s := W_loop_live.trans (by kernel_rfl)
noncomputable def q98_3 (v0 v3 v4 v5 : AV) (h : Heap) : OX :=
ob (evBin .add v5 (AV.int .i64 1)) fun v17 =>
(q98_L2 v0 v3 v4 v17 h)
noncomputable def q98_3k (s : St) : OX := q98_3 (s 0) (s 3) (s 4) (s 5) s.h
theorem q98_3_eq (s : St) : W E 0 c_q98_3 s q98_L2k (exitTo 0 q98_1k xN) (finP [.t 2]) = q98_3k s :=
  by kernel_rfl
noncomputable def q98_4 (v0 v3 v4 v5 : AV) (h : Heap) : OX :=
ob (evIxstr v3 v5) fun v20 =>
ob (evBin .neq v20 (AV.int .u8 45)) fun v21 =>
gb v21 true (some v0) fun v23 =>
gh v21 true (callAny E (callW E) 0 none true 7 [v23] h) h fun v24 h1 =>
gb v21 true (evUn .not v24) fun v25 =>
ob (evPick v21 v25 (AV.bool false)) fun v26 =>
cnd v26
 ((q98_3 v0 v3 v5 v5 h1))
 ((q98_3 v0 v3 v4 v5 h1))
noncomputable def q98_4k (s : St) : OX := q98_4 (s 0) (s 3) (s 4) (s 5) s.h
theorem q98_4_eq (s : St) : W E 0 c_q98_4 s q98_L2k (exitTo 0 q98_1k xN) (finP [.t 2]) = q98_4k s :=
  (W_seq (k := q98_3k) (fun s => q98_3_eq s)).trans (by kernel_rfl)
noncomputable def q98_5 (v0 v3 v4 v5 : AV) (h : Heap) : OX :=
ob (evLen 0 v3 h) fun v14 =>
ob (evBin .lss v5 v14) fun v15 =>
cnd v15
 ((q98_4 v0 v3 v4 v5 h))
 ((q98_1 v4 h))
noncomputable def q98_5k (s : St) : OX := q98_5 (s 0) (s 3) (s 4) (s 5) s.h
theorem q98_5_eq (s : St) : W E 0 c_q98_5 s q98_L2k (exitTo 0 q98_1k xN) (finP [.t 2]) = q98_5k s :=
  (W_seq (k := q98_4k) (fun s => q98_4_eq s)).trans (by kernel_rfl)
theorem q98_L2_go (v0 v3 v4 v5 : AV) (h : Heap) : q98_L2 v0 v3 v4 v5 h = (q98_5 v0 v3 v4 v5 h) :=
  W_loop.trans ((W_congr _ _ _ (n' := q98_L2k) (fun s => q98_L2_eq s)).trans ((q98_5_eq _).trans (by kernel_rfl)))
theorem q98_6_eq (s : St) : W E 0 c_q98_6 s q98_1k xN (finP [.t 2]) = q98_L2k s :=
  W_block.trans (q98_L2_eq s)
noncomputable def q98_7 (v0 v3 v4 : AV) (h : Heap) : OX :=
(q98_L2 v0 v3 v4 (AV.int .i64 1) h)
noncomputable def q98_7k (s : St) : OX := q98_7 (s 0) (s 3) (s 4) s.h
theorem q98_7_eq (s : St) : W E 0 c_q98_7 s q98_1k xN (finP [.t 2]) = q98_7k s :=
  (W_seq (k := q98_L2k) (fun s => q98_6_eq s)).trans (by kernel_rfl)
theorem q98_8_eq (s : St) : W E 0 c_q98_8 s (finP [.t 2]) xN (finP [.t 2]) = q98_7k s :=
  (W_seq (k := q98_1k) (fun s => q98_1_eq s)).trans (q98_7_eq s)
noncomputable def q98_9 (v0 v3 : AV) (h : Heap) : OX :=
(q98_7 v0 v3 (AV.int .i64 0) h)
noncomputable def q98_9k (s : St) : OX := q98_9 (s 0) (s 3) s.h
theorem q98_9_eq (s : St) : W E 0 c_q98_9 s (finP [.t 2]) xN (finP [.t 2]) = q98_9k s :=
  (W_seq (k := q98_7k) (fun s => q98_8_eq s)).trans (by kernel_rfl)
noncomputable def q98_10 (v0 v3 : AV) (h : Heap) : OX :=
ob (evBin .eql v0 (AV.int .i64 6)) fun v11 =>
cnd v11
 ((q98_9 v0 (AV.str [42, 42, 45, 45]) h))
 ((q98_9 v0 v3 h))
noncomputable def q98_10k (s : St) : OX := q98_10 (s 0) (s 3) s.h
theorem q98_10_eq (s : St) : W E 0 c_q98_10 s (finP [.t 2]) xN (finP [.t 2]) = q98_10k s :=
  (W_seq (k := q98_9k) (fun s => q98_9_eq s)).trans (by kernel_rfl)
noncomputable def q98_11 (v0 v3 : AV) (h : Heap) : OX :=
ob (evBin .eql v0 (AV.int .i64 5)) fun v9 =>
cnd v9
 ((q98_10 v0 (AV.str [42, 42, 42, 45]) h))
 ((q98_10 v0 v3 h))
noncomputable def q98_11k (s : St) : OX := q98_11 (s 0) (s 3) s.h
theorem q98_11_eq (s : St) : W E 0 c_q98_11 s (finP [.t 2]) xN (finP [.t 2]) = q98_11k s :=
  (W_seq (k := q98_10k) (fun s => q98_10_eq s)).trans (by kernel_rfl)
noncomputable def q98_12 (v0 : AV) (h : Heap) : OX :=
oh (callAny E (callW E) 0 none true 38 [v0] h) fun v7 h2 =>
(q98_11 v0 v7 h2)
noncomputable def q98_12k (s : St) : OX := q98_12 (s 0) s.h
theorem q98_12_eq (s : St) : W E 0 c_q98_12 s (finP [.t 2]) xN (finP [.t 2]) = q98_12k s :=
  (W_seq (k := q98_11k) (fun s => q98_11_eq s)).trans (by kernel_rfl)
noncomputable def q98_13 (v0 : AV) (h : Heap) : OX :=
(q98_12 v0 h)
noncomputable def q98_13k (s : St) : OX := q98_13 (s 0) s.h
theorem q98_13_eq (s : St) : W E 0 c_q98_13 s (finP [.t 2]) xN (finP [.t 2]) = q98_13k s :=
  (W_seq (k := q98_12k) (fun s => q98_12_eq s)).trans (by kernel_rfl)
@[simp] theorem pure_6 : E.pure 6 = true := rfl
theorem x_q98 (v0 : AV) : (callW E).p 6 [v0] = q98_13 v0 [] :=
  (callP_W (cf := c_q98) (by kernel_rfl) rfl).trans ((q98_13_eq _).trans (by kernel_rfl))
noncomputable def q92_1 (v0 : AV) (h : Heap) : OX :=
ob (evBin .geq v0 (AV.int .i64 23)) fun v4 =>
gb v4 true (some v0) fun v6 =>
gb v4 true (evBin .leq v6 (AV.int .i64 26)) fun v7 =>
ob (evPick v4 v7 (AV.bool false)) fun v8 =>
(expo1 h v8)
noncomputable def q92_1k (s : St) : OX := q92_1 (s 0) s.h
theorem q92_1_eq (s : St) : W E 0 c_q92_1 s (finP [.t 2]) xN (finP [.t 2]) = q92_1k s :=
  by kernel_rfl
@[simp] theorem pure_7 : E.pure 7 = true := rfl
theorem x_q92 (v0 : AV) : (callW E).p 7 [v0] = q92_1 v0 [] :=
  (callP_W (cf := c_q92) (by kernel_rfl) rfl).trans ((q92_1_eq _).trans (by kernel_rfl))
noncomputable def q12_1 (h : Heap) : OX :=
(expo1 h (AV.int .i64 0))
noncomputable def q12_1k (s : St) : OX := q12_1 s.h
theorem q12_1_eq (s : St) : W E 0 c_q12_1 s (finP [.t 2]) xN (finP [.t 2]) = q12_1k s :=
  by kernel_rfl
noncomputable def q12_L2 (v1 v3 v136 v137 v138 : AV) (h : Heap) : OX :=
  W E 0 c_q12_L2 ⟨[(1, v1), (3, v3), (136, v136), (137, v137), (138, v138)], h⟩ q12_1k (exitTo 6 q12_1k xN) (finP [.t 2])
noncomputable def q12_L2k (s : St) : OX := q12_L2 (s 1) (s 3) (s 136) (s 137) (s 138) s.h
theorem q12_L2_eq (s : St) : W E 0 c_q12_L2 s q12_1k (exitTo 6 q12_1k xN) (finP [.t 2]) = q12_L2k s := W_loop_live.trans (by kernel_rfl)
noncomputable def q12_3 (v1 v3 v136 v137 v138 : AV) (h : Heap) : OX :=
ob (evBin .add v138 (AV.int .i64 1)) fun v179 =>
(q12_L2 v1 v3 v136 v137 v179 h)
noncomputable def q12_3k (s : St) : OX := q12_3 (s 1) (s 3) (s 136) (s 137) (s 138) s.h
theorem q12_3_eq (s : St) : W E 0 c_q12_3 s q12_L2k (exitTo 6 q12_1k xN) (finP [.t 2]) = q12_3k s :=
  by kernel_rfl
noncomputable def q12_4 (v1 v3 v136 v137 v138 : AV) (h : Heap) : OX :=
ob (evIxs 4 v136 v138) fun v140 =>
ob (evLd true 4 v140 h) fun v141 =>
oh (newC 0 (some 2) [(.int .i64 0), (.int .i64 0), (.int .i64 0), (.str [])] h) fun v11 h1 =>
oh (evSt 4 v11 v141 h1) fun _ h2 =>
ob (evFa 0 v11) fun v142 =>
ob (evLd false 1 v142 h2) fun v143 =>
ob (evBin .lss v143 (AV.int .i64 0)) fun v144 =>
gb v144 false (evFa 0 v11) fun v146 =>
gb v144 false (evLd false 1 v146 h2) fun v147 =>
gb v144 false (evFa 1 v11) fun v148 =>
gb v144 false (evLd false 1 v148 h2) fun v149 =>
gb v144 false (evBin .geq v147 v149) fun v150 =>
ob (evPick v144 (AV.bool true) v150) fun v151 =>
gb v151 false (evFa 1 v11) fun v153 =>
gb v151 false (evLd false 1 v153 h2) fun v154 =>
gb v151 false (some v3) fun v155 =>
gb v151 false (evBin .gtr v154 v155) fun v156 =>
ob (evPick v151 (AV.bool true) v156) fun v157 =>
gb v157 false (evFa 2 v11) fun v159 =>
gb v157 false (evLd false 1 v159 h2) fun v160 =>
gb v157 false (evBin .lss v160 (AV.int .i64 0)) fun v161 =>
ob (evPick v157 (AV.bool true) v161) fun v162 =>
gb v162 false (evFa 2 v11) fun v164 =>
gb v162 false (evLd false 1 v164 h2) fun v165 =>
gb v162 false (some v3) fun v166 =>
gb v162 false (evBin .geq v165 v166) fun v167 =>
ob (evPick v162 (AV.bool true) v167) fun v168 =>
gb v168 false (evFa 3 v1) fun v170 =>
gb v168 false (evLd false 1 v170 h2) fun v171 =>
gb v168 false (evFa 2 v11) fun v172 =>
gb v168 false (evLd false 1 v172 h2) fun v173 =>
gb v168 false (evIxs 9 v171 v173) fun v174 =>
gb v168 false (evFa 0 v174) fun v175 =>
gb v168 false (evLd false 1 v175 h2) fun v176 =>
gb v168 false (evBin .neq v176 (AV.int .i64 32)) fun v177 =>
ob (evPick v168 (AV.bool true) v177) fun v178 =>
cnd v178
 ((expo1 h2 (AV.int .i64 80)))
 ((q12_3 v1 v3 v136 v137 v138 h2))
noncomputable def q12_4k (s : St) : OX := q12_4 (s 1) (s 3) (s 136) (s 137) (s 138) s.h
theorem q12_4_eq (s : St) : W E 0 c_q12_4 s q12_L2k (exitTo 6 q12_1k xN) (finP [.t 2]) = q12_4k s :=
  (W_seq (k := q12_3k) (fun s => q12_3_eq s)).trans (by kernel_rfl)
noncomputable def q12_5 (v1 v3 v136 v137 v138 v139 : AV) (h : Heap) : OX :=
cnd v139
 ((q12_4 v1 v3 v136 v137 v138 h))
 ((q12_1 h))
noncomputable def q12_5k (s : St) : OX := q12_5 (s 1) (s 3) (s 136) (s 137) (s 138) (s 139) s.h
theorem q12_5_eq (s : St) : W E 0 c_q12_5 s q12_L2k (exitTo 6 q12_1k xN) (finP [.t 2]) = q12_5k s :=
  (W_seq (k := q12_4k) (fun s => q12_4_eq s)).trans (by kernel_rfl)
noncomputable def q12_6 (v1 v3 v136 v137 v138 : AV) (h : Heap) : OX :=
ob (evBin .lss v138 v137) fun v139 =>
(q12_5 v1 v3 v136 v137 v138 v139 h)
noncomputable def q12_6k (s : St) : OX := q12_6 (s 1) (s 3) (s 136) (s 137) (s 138) s.h
theorem q12_6_eq (s : St) : W E 0 c_q12_6 s q12_L2k (exitTo 6 q12_1k xN) (finP [.t 2]) = q12_6k s :=
  (W_seq (k := q12_5k) (fun s => q12_5_eq s)).trans (by kernel_rfl)
theorem q12_L2_go (v1 v3 v136 v137 v138 : AV) (h : Heap) : q12_L2 v1 v3 v136 v137 v138 h = (q12_6 v1 v3 v136 v137 v138 h) :=
  W_loop.trans ((W_congr _ _ _ (n' := q12_L2k) (fun s => q12_L2_eq s)).trans ((q12_6_eq _).trans (by kernel_rfl)))
theorem q12_7_eq (s : St) : W E 0 c_q12_7 s q12_1k xN (finP [.t 2]) = q12_L2k s :=
  W_block.trans (q12_L2_eq s)
noncomputable def q12_8 (v1 v3 : AV) (h : Heap) : OX :=
ob (evFa 4 v1) fun v135 =>
ob (evLd false 1 v135 h) fun v136 =>
ob (evLen 1 v136 h) fun v137 =>
(q12_L2 v1 v3 v136 v137 (AV.int .i64 0) h)
noncomputable def q12_8k (s : St) : OX := q12_8 (s 1) (s 3) s.h
theorem q12_8_eq (s : St) : W E 0 c_q12_8 s q12_1k xN (finP [.t 2]) = q12_8k s :=
  (W_seq (k := q12_L2k) (fun s => q12_7_eq s)).trans (by kernel_rfl)
theorem q12_9_eq (s : St) : W E 0 c_q12_9 s (finP [.t 2]) xN (finP [.t 2]) = q12_8k s :=
  (W_seq (k := q12_1k) (fun s => q12_1_eq s)).trans (q12_8_eq s)
noncomputable def q12_L10 (v1 v3 v92 v93 v94 : AV) (h : Heap) : OX :=
  W E 0 c_q12_L10 ⟨[(1, v1), (3, v3), (92, v92), (93, v93), (94, v94)], h⟩ q12_8k (exitTo 4 q12_8k xN) (finP [.t 2])
noncomputable def q12_L10k (s : St) : OX := q12_L10 (s 1) (s 3) (s 92) (s 93) (s 94) s.h
theorem q12_L10_eq (s : St) : W E 0 c_q12_L10 s q12_8k (exitTo 4 q12_8k xN) (finP [.t 2]) = q12_L10k s := W_loop_live.trans (by kernel_rfl)
noncomputable def q12_11 (v1 v3 v92 v93 v94 : AV) (h : Heap) : OX :=
ob (evBin .add v94 (AV.int .i64 1)) fun v134 =>
(q12_L10 v1 v3 v92 v93 v134 h)
noncomputable def q12_11k (s : St) : OX := q12_11 (s 1) (s 3) (s 92) (s 93) (s 94) s.h
theorem q12_11_eq (s : St) : W E 0 c_q12_11 s q12_L10k (exitTo 4 q12_8k xN) (finP [.t 2]) = q12_11k s :=
  by kernel_rfl
noncomputable def q12_12 (v1 v3 v8 v9 v92 v93 v94 : AV) (h : Heap) : OX :=
ob (evFa 0 v9) fun v103 =>
ob (evLd false 1 v103 h) fun v104 =>
ob (evBin .eql v104 (AV.int .i64 32)) fun v105 =>
gb v105 true (some v8) fun v107 =>
gb v105 true (evBin .eql v107 (AV.int .i64 0)) fun v108 =>
gb v105 true (some v108) fun v109 =>
gb v109 false (evFa 3 v1) fun v110 =>
gb v109 false (evLd false 1 v110 h) fun v111 =>
gb v109 false (some v8) fun v112 =>
gb v109 false (evBin .sub v112 (AV.int .i64 1)) fun v113 =>
gb v109 false (evIxs 9 v111 v113) fun v114 =>
gb v109 false (evLd true 9 v114 h) fun v115 =>
gh v109 false (callAny E (callW E) 0 none true 24 [v115] h) h fun v116 h3 =>
gb v109 false (evUn .not v116) fun v117 =>
gb v105 true (evPick v109 (AV.bool true) v117) fun v118 =>
ob (evPick v105 v118 (AV.bool false)) fun v119 =>
gb v119 false (evLd true 9 v9 h3) fun v121 =>
gh v119 false (callAny E (callW E) 0 none true 22 [v121] h3) h3 fun v122 h4 =>
gb v119 false (some v122) fun v123 =>
gb v123 true (evFa 3 v1) fun v124 =>
gb v123 true (evLd false 1 v124 h4) fun v125 =>
gb v123 true (evFa 6 v9) fun v126 =>
gb v123 true (evLd false 1 v126 h4) fun v127 =>
gb v123 true (evIxs 9 v125 v127) fun v128 =>
gb v123 true (evFa 0 v128) fun v129 =>
gb v123 true (evLd false 1 v129 h4) fun v130 =>
gb v123 true (evBin .eql v130 (AV.int .i64 32)) fun v131 =>
gb v119 false (evPick v123 v131 (AV.bool false)) fun v132 =>
ob (evPick v119 (AV.bool true) v132) fun v133 =>
cnd v133
 ((expo1 h4 (AV.int .i64 80)))
 ((q12_11 v1 v3 v92 v93 v94 h4))
noncomputable def q12_12k (s : St) : OX := q12_12 (s 1) (s 3) (s 8) (s 9) (s 92) (s 93) (s 94) s.h
theorem q12_12_eq (s : St) : W E 0 c_q12_12 s q12_11k (exitTo 5 q12_11k (exitTo 4 q12_8k xN)) (finP [.t 2]) = q12_12k s :=
  by kernel_rfl
noncomputable def q12_13 (v1 v3 v8 v9 v92 v93 v94 : AV) (h : Heap) : OX :=
ob (evLd true 5 v1 h) fun v99 =>
ob (evLd true 9 v9 h) fun v100 =>
oh (callAny E (callW E) 0 none true 63 [v99, v100] h) fun v101 h5 =>
ob (evUn .not v101) fun v102 =>
cnd v102
 ((expo1 h5 (AV.int .i64 80)))
 ((q12_12 v1 v3 v8 v9 v92 v93 v94 h5))
noncomputable def q12_13k (s : St) : OX := q12_13 (s 1) (s 3) (s 8) (s 9) (s 92) (s 93) (s 94) s.h
theorem q12_13_eq (s : St) : W E 0 c_q12_13 s q12_11k (exitTo 5 q12_11k (exitTo 4 q12_8k xN)) (finP [.t 2]) = q12_13k s :=
  (W_seq (k := q12_12k) (fun s => q12_12_eq s)).trans (by kernel_rfl)
noncomputable def q12_14 (v1 v3 v92 v93 v94 : AV) (h : Heap) : OX :=
ob (evIxs 9 v92 v94) fun v97 =>
ob (evLd true 9 v97 h) fun v98 =>
oh (newC 0 (some 1) [(.int .i64 0), (.int .i64 0), (.int .i64 0), (.int .i64 0), (.int .i64 0), (.int .i64 0), (.int .i64 0), (.str []), .nils] h) fun v9 h6 =>
oh (evSt 9 v9 v98 h6) fun _ h7 =>
(q12_13 v1 v3 v94 v9 v92 v93 v94 h7)
noncomputable def q12_14k (s : St) : OX := q12_14 (s 1) (s 3) (s 92) (s 93) (s 94) s.h
theorem q12_14_eq (s : St) : W E 0 c_q12_14 s q12_11k (exitTo 5 q12_11k (exitTo 4 q12_8k xN)) (finP [.t 2]) = q12_14k s :=
  (W_seq (k := q12_13k) (fun s => q12_13_eq s)).trans (by kernel_rfl)
theorem q12_15_eq (s : St) : W E 0 c_q12_15 s q12_11k (exitTo 4 q12_8k xN) (finP [.t 2]) = q12_14k s :=
  W_block.trans (q12_14_eq s)
theorem q12_16_eq (s : St) : W E 0 c_q12_16 s q12_L10k (exitTo 4 q12_8k xN) (finP [.t 2]) = q12_14k s :=
  (W_seq (k := q12_11k) (fun s => q12_11_eq s)).trans (q12_15_eq s)
noncomputable def q12_17 (v1 v3 v92 v93 v94 v95 : AV) (h : Heap) : OX :=
cnd v95
 ((q12_14 v1 v3 v92 v93 v94 h))
 ((q12_8 v1 v3 h))
noncomputable def q12_17k (s : St) : OX := q12_17 (s 1) (s 3) (s 92) (s 93) (s 94) (s 95) s.h
theorem q12_17_eq (s : St) : W E 0 c_q12_17 s q12_L10k (exitTo 4 q12_8k xN) (finP [.t 2]) = q12_17k s :=
  (W_seq (k := q12_14k) (fun s => q12_16_eq s)).trans (by kernel_rfl)
noncomputable def q12_18 (v1 v3 v92 v93 v94 : AV) (h : Heap) : OX :=
ob (evBin .lss v94 v93) fun v95 =>
(q12_17 v1 v3 v92 v93 v94 v95 h)
noncomputable def q12_18k (s : St) : OX := q12_18 (s 1) (s 3) (s 92) (s 93) (s 94) s.h
theorem q12_18_eq (s : St) : W E 0 c_q12_18 s q12_L10k (exitTo 4 q12_8k xN) (finP [.t 2]) = q12_18k s :=
  (W_seq (k := q12_17k) (fun s => q12_17_eq s)).trans (by kernel_rfl)
theorem q12_L10_go (v1 v3 v92 v93 v94 : AV) (h : Heap) : q12_L10 v1 v3 v92 v93 v94 h = (q12_18 v1 v3 v92 v93 v94 h) :=
  W_loop.trans ((W_congr _ _ _ (n' := q12_L10k) (fun s => q12_L10_eq s)).trans ((q12_18_eq _).trans (by kernel_rfl)))
theorem q12_19_eq (s : St) : W E 0 c_q12_19 s q12_8k xN (finP [.t 2]) = q12_L10k s :=
  W_block.trans (q12_L10_eq s)
noncomputable def q12_20 (v1 v3 : AV) (h : Heap) : OX :=
ob (evFa 3 v1) fun v91 =>
ob (evLd false 1 v91 h) fun v92 =>
ob (evLen 1 v92 h) fun v93 =>
(q12_L10 v1 v3 v92 v93 (AV.int .i64 0) h)
noncomputable def q12_20k (s : St) : OX := q12_20 (s 1) (s 3) s.h
theorem q12_20_eq (s : St) : W E 0 c_q12_20 s q12_8k xN (finP [.t 2]) = q12_20k s :=
  (W_seq (k := q12_L10k) (fun s => q12_19_eq s)).trans (by kernel_rfl)
theorem q12_21_eq (s : St) : W E 0 c_q12_21 s (finP [.t 2]) xN (finP [.t 2]) = q12_20k s :=
  (W_seq (k := q12_8k) (fun s => q12_9_eq s)).trans (q12_20_eq s)
noncomputable def q12_L22 (v1 v3 v62 v63 v64 : AV) (h : Heap) : OX :=
  W E 0 c_q12_L22 ⟨[(1, v1), (3, v3), (62, v62), (63, v63), (64, v64)], h⟩ q12_20k (exitTo 2 q12_20k xN) (finP [.t 2])
noncomputable def q12_L22k (s : St) : OX := q12_L22 (s 1) (s 3) (s 62) (s 63) (s 64) s.h
theorem q12_L22_eq (s : St) : W E 0 c_q12_L22 s q12_20k (exitTo 2 q12_20k xN) (finP [.t 2]) = q12_L22k s := W_loop_live.trans (by kernel_rfl)
noncomputable def q12_23 (v1 v3 v62 v63 v64 : AV) (h : Heap) : OX :=
ob (evBin .add v64 (AV.int .i64 1)) fun v90 =>
(q12_L22 v1 v3 v62 v63 v90 h)
noncomputable def q12_23k (s : St) : OX := q12_23 (s 1) (s 3) (s 62) (s 63) (s 64) s.h
theorem q12_23_eq (s : St) : W E 0 c_q12_23 s q12_L22k (exitTo 2 q12_20k xN) (finP [.t 2]) = q12_23k s :=
  by kernel_rfl
noncomputable def q12_24 (v1 v3 v62 v63 v64 : AV) (h : Heap) : OX :=
ob (evIxs 1 v62 v64) fun v67 =>
ob (evLd false 1 v67 h) fun v68 =>
ob (evBin .lss v68 (AV.int .i64 0)) fun v70 =>
gb v70 false (some v68) fun v72 =>
gb v70 false (evFa 0 v1) fun v73 =>
gb v70 false (evLd false 1 v73 h) fun v74 =>
gb v70 false (evLen 1 v74 h) fun v75 =>
gb v70 false (evBin .geq v72 v75) fun v76 =>
ob (evPick v70 (AV.bool true) v76) fun v77 =>
gb v77 false (evFa 1 v1) fun v79 =>
gb v77 false (evLd false 1 v79 h) fun v80 =>
gb v77 false (some v64) fun v81 =>
gb v77 false (evSlcO 1 v80 none (some v81)) fun v82 =>
gb v77 false (some v68) fun v83 =>
gh v77 false (callAny E (callW E) 0 none true 46 [v82, v83] h) h fun v84 h8 =>
ob (evPick v77 (AV.bool true) v84) fun v85 =>
gb v85 false (some v64) fun v87 =>
gb v85 false (evBin .gtr v87 (AV.int .i64 20)) fun v88 =>
ob (evPick v85 (AV.bool true) v88) fun v89 =>
cnd v89
 ((expo1 h8 (AV.int .i64 80)))
 ((q12_23 v1 v3 v62 v63 v64 h8))
noncomputable def q12_24k (s : St) : OX := q12_24 (s 1) (s 3) (s 62) (s 63) (s 64) s.h
theorem q12_24_eq (s : St) : W E 0 c_q12_24 s q12_L22k (exitTo 2 q12_20k xN) (finP [.t 2]) = q12_24k s :=
  (W_seq (k := q12_23k) (fun s => q12_23_eq s)).trans (by kernel_rfl)
noncomputable def q12_25 (v1 v3 v62 v63 v64 v65 : AV) (h : Heap) : OX :=
cnd v65
 ((q12_24 v1 v3 v62 v63 v64 h))
 ((q12_20 v1 v3 h))
noncomputable def q12_25k (s : St) : OX := q12_25 (s 1) (s 3) (s 62) (s 63) (s 64) (s 65) s.h
theorem q12_25_eq (s : St) : W E 0 c_q12_25 s q12_L22k (exitTo 2 q12_20k xN) (finP [.t 2]) = q12_25k s :=
  (W_seq (k := q12_24k) (fun s => q12_24_eq s)).trans (by kernel_rfl)
noncomputable def q12_26 (v1 v3 v62 v63 v64 : AV) (h : Heap) : OX :=
ob (evBin .lss v64 v63) fun v65 =>
(q12_25 v1 v3 v62 v63 v64 v65 h)
noncomputable def q12_26k (s : St) : OX := q12_26 (s 1) (s 3) (s 62) (s 63) (s 64) s.h
theorem q12_26_eq (s : St) : W E 0 c_q12_26 s q12_L22k (exitTo 2 q12_20k xN) (finP [.t 2]) = q12_26k s :=
  (W_seq (k := q12_25k) (fun s => q12_25_eq s)).trans (by kernel_rfl)
theorem q12_L22_go (v1 v3 v62 v63 v64 : AV) (h : Heap) : q12_L22 v1 v3 v62 v63 v64 h = (q12_26 v1 v3 v62 v63 v64 h) :=
  W_loop.trans ((W_congr _ _ _ (n' := q12_L22k) (fun s => q12_L22_eq s)).trans ((q12_26_eq _).trans (by kernel_rfl)))
theorem q12_27_eq (s : St) : W E 0 c_q12_27 s q12_20k xN (finP [.t 2]) = q12_L22k s :=
  W_block.trans (q12_L22_eq s)
noncomputable def q12_28 (v1 v3 : AV) (h : Heap) : OX :=
ob (evFa 1 v1) fun v61 =>
ob (evLd false 1 v61 h) fun v62 =>
ob (evLen 1 v62 h) fun v63 =>
(q12_L22 v1 v3 v62 v63 (AV.int .i64 0) h)
noncomputable def q12_28k (s : St) : OX := q12_28 (s 1) (s 3) s.h
theorem q12_28_eq (s : St) : W E 0 c_q12_28 s q12_20k xN (finP [.t 2]) = q12_28k s :=
  (W_seq (k := q12_L22k) (fun s => q12_27_eq s)).trans (by kernel_rfl)
theorem q12_29_eq (s : St) : W E 0 c_q12_29 s (finP [.t 2]) xN (finP [.t 2]) = q12_28k s :=
  (W_seq (k := q12_20k) (fun s => q12_21_eq s)).trans (q12_28_eq s)
noncomputable def q12_L30 (v1 v3 v48 v49 v50 : AV) (h : Heap) : OX :=
  W E 0 c_q12_L30 ⟨[(1, v1), (3, v3), (48, v48), (49, v49), (50, v50)], h⟩ q12_28k (exitTo 0 q12_28k xN) (finP [.t 2])
noncomputable def q12_L30k (s : St) : OX := q12_L30 (s 1) (s 3) (s 48) (s 49) (s 50) s.h
theorem q12_L30_eq (s : St) : W E 0 c_q12_L30 s q12_28k (exitTo 0 q12_28k xN) (finP [.t 2]) = q12_L30k s := W_loop_live.trans (by kernel_rfl)
noncomputable def q12_31 (v1 v3 v48 v49 v50 : AV) (h : Heap) : OX :=
ob (evBin .add v50 (AV.int .i64 1)) fun v60 =>
(q12_L30 v1 v3 v48 v49 v60 h)
noncomputable def q12_31k (s : St) : OX := q12_31 (s 1) (s 3) (s 48) (s 49) (s 50) s.h
theorem q12_31_eq (s : St) : W E 0 c_q12_31 s q12_L30k (exitTo 0 q12_28k xN) (finP [.t 2]) = q12_31k s :=
  by kernel_rfl
noncomputable def q12_32 (v1 v3 v48 v49 v50 : AV) (h : Heap) : OX :=
ob (evIxs 1 v48 v50) fun v52 =>
ob (evLd false 1 v52 h) fun v53 =>
ob (evBin .lss v53 (AV.int .i64 1)) fun v55 =>
gb v55 false (some v53) fun v57 =>
gb v55 false (evBin .gtr v57 (AV.int .i64 3)) fun v58 =>
ob (evPick v55 (AV.bool true) v58) fun v59 =>
cnd v59
 ((expo1 h (AV.int .i64 80)))
 ((q12_31 v1 v3 v48 v49 v50 h))
noncomputable def q12_32k (s : St) : OX := q12_32 (s 1) (s 3) (s 48) (s 49) (s 50) s.h
theorem q12_32_eq (s : St) : W E 0 c_q12_32 s q12_L30k (exitTo 0 q12_28k xN) (finP [.t 2]) = q12_32k s :=
  (W_seq (k := q12_31k) (fun s => q12_31_eq s)).trans (by kernel_rfl)
noncomputable def q12_33 (v1 v3 v48 v49 v50 v51 : AV) (h : Heap) : OX :=
cnd v51
 ((q12_32 v1 v3 v48 v49 v50 h))
 ((q12_28 v1 v3 h))
noncomputable def q12_33k (s : St) : OX := q12_33 (s 1) (s 3) (s 48) (s 49) (s 50) (s 51) s.h
theorem q12_33_eq (s : St) : W E 0 c_q12_33 s q12_L30k (exitTo 0 q12_28k xN) (finP [.t 2]) = q12_33k s :=
  (W_seq (k := q12_32k) (fun s => q12_32_eq s)).trans (by kernel_rfl)
noncomputable def q12_34 (v1 v3 v48 v49 v50 : AV) (h : Heap) : OX :=
ob (evBin .lss v50 v49) fun v51 =>
(q12_33 v1 v3 v48 v49 v50 v51 h)
noncomputable def q12_34k (s : St) : OX := q12_34 (s 1) (s 3) (s 48) (s 49) (s 50) s.h
theorem q12_34_eq (s : St) : W E 0 c_q12_34 s q12_L30k (exitTo 0 q12_28k xN) (finP [.t 2]) = q12_34k s :=
  (W_seq (k := q12_33k) (fun s => q12_33_eq s)).trans (by kernel_rfl)
theorem q12_L30_go (v1 v3 v48 v49 v50 : AV) (h : Heap) : q12_L30 v1 v3 v48 v49 v50 h = (q12_34 v1 v3 v48 v49 v50 h) :=
  W_loop.trans ((W_congr _ _ _ (n' := q12_L30k) (fun s => q12_L30_eq s)).trans ((q12_34_eq _).trans (by kernel_rfl)))
theorem q12_35_eq (s : St) : W E 0 c_q12_35 s q12_28k xN (finP [.t 2]) = q12_L30k s :=
  W_block.trans (q12_L30_eq s)
noncomputable def q12_36 (v1 v3 : AV) (h : Heap) : OX :=
ob (evFa 0 v1) fun v47 =>
ob (evLd false 1 v47 h) fun v48 =>
ob (evLen 1 v48 h) fun v49 =>
(q12_L30 v1 v3 v48 v49 (AV.int .i64 0) h)
noncomputable def q12_36k (s : St) : OX := q12_36 (s 1) (s 3) s.h
theorem q12_36_eq (s : St) : W E 0 c_q12_36 s q12_28k xN (finP [.t 2]) = q12_36k s :=
  (W_seq (k := q12_L30k) (fun s => q12_35_eq s)).trans (by kernel_rfl)
theorem q12_37_eq (s : St) : W E 0 c_q12_37 s (finP [.t 2]) xN (finP [.t 2]) = q12_36k s :=
  (W_seq (k := q12_28k) (fun s => q12_29_eq s)).trans (q12_36_eq s)
noncomputable def q12_38 (v1 v3 : AV) (h : Heap) : OX :=
ob (evBin .lss v3 (AV.int .i64 1)) fun v16 =>
gb v16 false (some v3) fun v18 =>
gb v16 false (evBin .gtr v18 (AV.int .i64 20000)) fun v19 =>
ob (evPick v16 (AV.bool true) v19) fun v20 =>
gb v20 false (evFa 0 v1) fun v22 =>
gb v20 false (evLd false 1 v22 h) fun v23 =>
gb v20 false (evLen 1 v23 h) fun v24 =>
gb v20 false (evBin .gtr v24 (AV.int .i64 20000)) fun v25 =>
ob (evPick v20 (AV.bool true) v25) fun v26 =>
gb v26 false (evFa 2 v1) fun v28 =>
gb v26 false (evLd false 1 v28 h) fun v29 =>
gb v26 false (evBin .lss v29 (AV.int .i64 0)) fun v30 =>
ob (evPick v26 (AV.bool true) v30) fun v31 =>
gb v31 false (evFa 2 v1) fun v33 =>
gb v31 false (evLd false 1 v33 h) fun v34 =>
gb v31 false (evBin .gtr v34 (AV.int .i64 3)) fun v35 =>
ob (evPick v31 (AV.bool true) v35) fun v36 =>
gb v36 false (evFa 3 v1) fun v38 =>
gb v36 false (evLd false 1 v38 h) fun v39 =>
gb v36 false (some v3) fun v40 =>
gb v36 false (evBin .sub v40 (AV.int .i64 1)) fun v41 =>
gb v36 false (evIxs 9 v39 v41) fun v42 =>
gb v36 false (evLd true 9 v42 h) fun v43 =>
gh v36 false (callAny E (callW E) 0 none true 24 [v43] h) h fun v44 h9 =>
gb v36 false (evUn .not v44) fun v45 =>
ob (evPick v36 (AV.bool true) v45) fun v46 =>
cnd v46
 ((expo1 h9 (AV.int .i64 80)))
 ((q12_36 v1 v3 h9))
noncomputable def q12_38k (s : St) : OX := q12_38 (s 1) (s 3) s.h
theorem q12_38_eq (s : St) : W E 0 c_q12_38 s (finP [.t 2]) xN (finP [.t 2]) = q12_38k s :=
  (W_seq (k := q12_36k) (fun s => q12_37_eq s)).trans (by kernel_rfl)
noncomputable def q12_39 (v1 : AV) (h : Heap) : OX :=
ob (evFa 3 v1) fun v12 =>
ob (evLd false 1 v12 h) fun v13 =>
ob (evLen 1 v13 h) fun v14 =>
(q12_38 v1 v14 h)
noncomputable def q12_39k (s : St) : OX := q12_39 (s 1) s.h
theorem q12_39_eq (s : St) : W E 0 c_q12_39 s (finP [.t 2]) xN (finP [.t 2]) = q12_39k s :=
  (W_seq (k := q12_38k) (fun s => q12_38_eq s)).trans (by kernel_rfl)
noncomputable def q12_40 (v0 : AV) (h : Heap) : OX :=
oh (newC 0 (some 0) (cellsOf v0) h) fun v1 h10 =>
(q12_39 v1 h10)
noncomputable def q12_40k (s : St) : OX := q12_40 (s 0) s.h
theorem q12_40_eq (s : St) : W E 0 c_q12_40 s (finP [.t 2]) xN (finP [.t 2]) = q12_40k s :=
  (W_seq (k := q12_39k) (fun s => q12_39_eq s)).trans (by kernel_rfl)
@[simp] theorem pure_8 : E.pure 8 = true := rfl
theorem x_q12 (v0 : AV) : (callW E).p 8 [v0] = q12_40 v0 [⟨0, .dead⟩, ⟨0, .dead⟩, ⟨0, .dead⟩] :=
  (callP_W (cf := c_q12) (by kernel_rfl) rfl).trans ((q12_40_eq _).trans (by kernel_rfl))
noncomputable def q14_1 (h : Heap) : OX :=
(expo1 h (AV.int .i64 (-1)))
noncomputable def q14_1k (s : St) : OX := q14_1 s.h
theorem q14_1_eq (s : St) : W E 0 c_q14_1 s (finP [.t 2]) xN (finP [.t 2]) = q14_1k s :=
  by kernel_rfl
noncomputable def q14_2 (v1 : AV) (h : Heap) : OX :=
ob (evLd true 9 v1 h) fun v22 =>
oh (callAny E (callW E) 0 none true 17 [v22] h) fun v23 h1 =>
cnd v23
 (ob (evFa 1 v1) fun v24 =>
ob (evLd false 1 v24 h1) fun v25 =>
(expo1 h1 v25))
 ((q14_1 h1))
noncomputable def q14_2k (s : St) : OX := q14_2 (s 1) s.h
theorem q14_2_eq (s : St) : W E 0 c_q14_2 s (finP [.t 2]) xN (finP [.t 2]) = q14_2k s :=
  (W_seq (k := q14_1k) (fun s => q14_1_eq s)).trans (by kernel_rfl)
noncomputable def q14_3 (v1 v5 : AV) (h : Heap) : OX :=
cnd v5
 (ob (evFa 1 v1) fun v20 =>
ob (evLd false 1 v20 h) fun v21 =>
(expo1 h v21))
 ((q14_2 v1 h))
noncomputable def q14_3k (s : St) : OX := q14_3 (s 1) (s 5) s.h
theorem q14_3_eq (s : St) : W E 0 c_q14_3 s q14_2k (exitTo 0 q14_2k xN) (finP [.t 2]) = q14_3k s :=
  by kernel_rfl
noncomputable def q14_4 (v1 v4 : AV) (h : Heap) : OX :=
ob (evBin .eql v4 (AV.int .i64 1)) fun v6 =>
cnd v6
 ((q14_3 v1 v6 h))
 (ob (evBin .eql v4 (AV.int .i64 2)) fun v7 =>
cnd v7
 ((q14_3 v1 v7 h))
 (ob (evBin .eql v4 (AV.int .i64 3)) fun v8 =>
cnd v8
 ((q14_3 v1 v8 h))
 (ob (evBin .eql v4 (AV.int .i64 4)) fun v9 =>
cnd v9
 ((q14_3 v1 v9 h))
 (ob (evBin .eql v4 (AV.int .i64 5)) fun v10 =>
cnd v10
 ((q14_3 v1 v10 h))
 (ob (evBin .eql v4 (AV.int .i64 6)) fun v11 =>
cnd v11
 ((q14_3 v1 v11 h))
 (ob (evBin .eql v4 (AV.int .i64 13)) fun v12 =>
cnd v12
 ((q14_3 v1 v12 h))
 (ob (evBin .eql v4 (AV.int .i64 15)) fun v13 =>
cnd v13
 ((q14_3 v1 v13 h))
 (ob (evBin .eql v4 (AV.int .i64 16)) fun v14 =>
cnd v14
 ((q14_3 v1 v14 h))
 (ob (evBin .eql v4 (AV.int .i64 18)) fun v15 =>
cnd v15
 ((q14_3 v1 v15 h))
 (ob (evBin .eql v4 (AV.int .i64 20)) fun v16 =>
cnd v16
 ((q14_3 v1 v16 h))
 (ob (evBin .eql v4 (AV.int .i64 21)) fun v17 =>
cnd v17
 ((q14_3 v1 v17 h))
 (ob (evBin .eql v4 (AV.int .i64 22)) fun v18 =>
cnd v18
 ((q14_3 v1 v18 h))
 (ob (evBin .eql v4 (AV.int .i64 32)) fun v19 =>
(q14_3 v1 v19 h))))))))))))))
noncomputable def q14_4k (s : St) : OX := q14_4 (s 1) (s 4) s.h
theorem q14_4_eq (s : St) : W E 0 c_q14_4 s q14_2k (exitTo 0 q14_2k xN) (finP [.t 2]) = q14_4k s :=
  (W_seq (k := q14_3k) (fun s => q14_3_eq s)).trans (by kernel_rfl)
theorem q14_5_eq (s : St) : W E 0 c_q14_5 s q14_2k xN (finP [.t 2]) = q14_4k s :=
  W_block.trans (q14_4_eq s)
noncomputable def q14_6 (v1 : AV) (h : Heap) : OX :=
ob (evFa 0 v1) fun v3 =>
ob (evLd false 1 v3 h) fun v4 =>
(q14_4 v1 v4 h)
noncomputable def q14_6k (s : St) : OX := q14_6 (s 1) s.h
theorem q14_6_eq (s : St) : W E 0 c_q14_6 s q14_2k xN (finP [.t 2]) = q14_6k s :=
  (W_seq (k := q14_4k) (fun s => q14_5_eq s)).trans (by kernel_rfl)
theorem q14_7_eq (s : St) : W E 0 c_q14_7 s (finP [.t 2]) xN (finP [.t 2]) = q14_6k s :=
  (W_seq (k := q14_2k) (fun s => q14_2_eq s)).trans (q14_6_eq s)
noncomputable def q14_8 (v0 : AV) (h : Heap) : OX :=
oh (newC 0 (some 0) (cellsOf v0) h) fun v1 h2 =>
(q14_6 v1 h2)
noncomputable def q14_8k (s : St) : OX := q14_8 (s 0) s.h
theorem q14_8_eq (s : St) : W E 0 c_q14_8 s (finP [.t 2]) xN (finP [.t 2]) = q14_8k s :=
  (W_seq (k := q14_6k) (fun s => q14_7_eq s)).trans (by kernel_rfl)
@[simp] theorem pure_9 : E.pure 9 = true := rfl
theorem x_q14 (v0 : AV) : (callW E).p 9 [v0] = q14_8 v0 [⟨0, .dead⟩] :=
  (callP_W (cf := c_q14) (by kernel_rfl) rfl).trans ((q14_8_eq _).trans (by kernel_rfl))
noncomputable def q96_1 (h : Heap) : OX :=
(expo1 h (AV.bool true))
noncomputable def q96_1k (s : St) : OX := q96_1 s.h
theorem q96_1_eq (s : St) : W E 0 c_q96_1 s (finP [.t 4]) xN (finP [.t 4]) = q96_1k s :=
  by kernel_rfl
noncomputable def q96_L2 (v0 v1 v5 : AV) (h : Heap) : OX :=
  W E 0 c_q96_L2 ⟨[(0, v0), (1, v1), (5, v5)], h⟩ q96_1k (exitTo 0 q96_1k xN) (finP [.t 4])
noncomputable def q96_L2k (s : St) : OX := q96_L2 (s 0) (s 1) (s 5) s.h
theorem q96_L2_eq (s : St) : W E 0 c_q96_L2 s q96_1k (exitTo 0 q96_1k xN) (finP [.t 4]) = q96_L2k s := W_loop_live.trans (by kernel_rfl)
noncomputable def q96_3 (v0 v1 v5 : AV) (h : Heap) : OX :=
ob (evBin .add v5 (AV.int .i64 1)) fun v16 =>
(q96_L2 v0 v1 v16 h)
noncomputable def q96_3k (s : St) : OX := q96_3 (s 0) (s 1) (s 5) s.h
theorem q96_3_eq (s : St) : W E 0 c_q96_3 s q96_L2k (exitTo 0 q96_1k xN) (finP [.t 4]) = q96_3k s :=
  by kernel_rfl
noncomputable def q96_4 (v0 v1 v5 : AV) (h : Heap) : OX :=
ob (evIxs 1 v0 v5) fun v19 =>
ob (evLd false 1 v19 h) fun v20 =>
ob (evIxs 1 v1 v5) fun v23 =>
ob (evLd false 1 v23 h) fun v24 =>
ob (evBin .neq v20 v24) fun v25 =>
cnd v25
 ((expo1 h (AV.bool false)))
 ((q96_3 v0 v1 v5 h))
noncomputable def q96_4k (s : St) : OX := q96_4 (s 0) (s 1) (s 5) s.h
theorem q96_4_eq (s : St) : W E 0 c_q96_4 s q96_L2k (exitTo 0 q96_1k xN) (finP [.t 4]) = q96_4k s :=
  (W_seq (k := q96_3k) (fun s => q96_3_eq s)).trans (by kernel_rfl)
noncomputable def q96_5 (v0 v1 v5 : AV) (h : Heap) : OX :=
ob (evLen 1 v0 h) fun v13 =>
ob (evBin .lss v5 v13) fun v14 =>
cnd v14
 ((q96_4 v0 v1 v5 h))
 ((q96_1 h))
noncomputable def q96_5k (s : St) : OX := q96_5 (s 0) (s 1) (s 5) s.h
theorem q96_5_eq (s : St) : W E 0 c_q96_5 s q96_L2k (exitTo 0 q96_1k xN) (finP [.t 4]) = q96_5k s :=
  (W_seq (k := q96_4k) (fun s => q96_4_eq s)).trans (by kernel_rfl)
theorem q96_L2_go (v0 v1 v5 : AV) (h : Heap) : q96_L2 v0 v1 v5 h = (q96_5 v0 v1 v5 h) :=
  W_loop.trans ((W_congr _ _ _ (n' := q96_L2k) (fun s => q96_L2_eq s)).trans ((q96_5_eq _).trans (by kernel_rfl)))
theorem q96_6_eq (s : St) : W E 0 c_q96_6 s q96_1k xN (finP [.t 4]) = q96_L2k s :=
  W_block.trans (q96_L2_eq s)
noncomputable def q96_7 (v0 v1 : AV) (h : Heap) : OX :=
(q96_L2 v0 v1 (AV.int .i64 0) h)
noncomputable def q96_7k (s : St) : OX := q96_7 (s 0) (s 1) s.h
theorem q96_7_eq (s : St) : W E 0 c_q96_7 s q96_1k xN (finP [.t 4]) = q96_7k s :=
  (W_seq (k := q96_L2k) (fun s => q96_6_eq s)).trans (by kernel_rfl)
theorem q96_8_eq (s : St) : W E 0 c_q96_8 s (finP [.t 4]) xN (finP [.t 4]) = q96_7k s :=
  (W_seq (k := q96_1k) (fun s => q96_1_eq s)).trans (q96_7_eq s)
noncomputable def q96_9 (v0 v1 : AV) (h : Heap) : OX :=
ob (evLen 1 v0 h) fun v7 =>
ob (evLen 1 v1 h) fun v9 =>
ob (evBin .neq v7 v9) fun v10 =>
cnd v10
 ((expo1 h (AV.bool false)))
 ((q96_7 v0 v1 h))
noncomputable def q96_9k (s : St) : OX := q96_9 (s 0) (s 1) s.h
theorem q96_9_eq (s : St) : W E 0 c_q96_9 s (finP [.t 4]) xN (finP [.t 4]) = q96_9k s :=
  (W_seq (k := q96_7k) (fun s => q96_8_eq s)).trans (by kernel_rfl)
noncomputable def q96_10 (v0 v1 : AV) (h : Heap) : OX :=
(q96_9 v0 v1 h)
noncomputable def q96_10k (s : St) : OX := q96_10 (s 0) (s 1) s.h
theorem q96_10_eq (s : St) : W E 0 c_q96_10 s (finP [.t 4]) xN (finP [.t 4]) = q96_10k s :=
  (W_seq (k := q96_9k) (fun s => q96_9_eq s)).trans (by kernel_rfl)
@[simp] theorem pure_11 : E.pure 11 = true := rfl
theorem x_q96 (v0 v1 : AV) : (callW E).p 11 [v0, v1] = q96_10 v0 v1 [] :=
  (callP_W (cf := c_q96) (by kernel_rfl) rfl).trans ((q96_10_eq _).trans (by kernel_rfl))
noncomputable def q20_1 (h : Heap) : OX :=
(expo1 h AV.nils)
noncomputable def q20_1k (s : St) : OX := q20_1 s.h
theorem q20_1_eq (s : St) : W E 0 c_q20_1 s (finP [.t 2]) xN (finP [.t 2]) = q20_1k s :=
  by kernel_rfl
noncomputable def q20_2 (v1 : AV) (h : Heap) : OX :=
ob (evFa 2 v1) fun v58 =>
ob (evLd false 1 v58 h) fun v59 =>
ob (evFa 3 v1) fun v60 =>
ob (evLd false 1 v60 h) fun v61 =>
oh (buildSC 0 (some 6) 1 2 [(.int .i64 0)] [(0, v59), (1, v61)] h) fun v62 h1 =>
(expo1 h1 v62)
noncomputable def q20_2k (s : St) : OX := q20_2 (s 1) s.h
theorem q20_2_eq (s : St) : W E 0 c_q20_2 s q20_1k (exitTo 0 q20_1k xN) (finP [.t 2]) = q20_2k s :=
  by kernel_rfl
noncomputable def q20_3 (v1 : AV) (h : Heap) : OX :=
ob (evFa 3 v1) fun v52 =>
ob (evLd false 1 v52 h) fun v53 =>
ob (evBin .lss v53 (AV.int .i64 0)) fun v54 =>
cnd v54
 (ob (evFa 2 v1) fun v55 =>
ob (evLd false 1 v55 h) fun v56 =>
oh (buildSC 0 (some 5) 1 1 [(.int .i64 0)] [(0, v56)] h) fun v57 h2 =>
(expo1 h2 v57))
 ((q20_2 v1 h))
noncomputable def q20_3k (s : St) : OX := q20_3 (s 1) s.h
theorem q20_3_eq (s : St) : W E 0 c_q20_3 s q20_1k (exitTo 0 q20_1k xN) (finP [.t 2]) = q20_3k s :=
  (W_seq (k := q20_2k) (fun s => q20_2_eq s)).trans (by kernel_rfl)
noncomputable def q20_4 (v1 v4 v50 : AV) (h : Heap) : OX :=
cnd v50
 ((q20_3 v1 h))
 (ob (evBin .eql v4 (AV.int .i64 30)) fun v64 =>
cnd v64
 (ob (evFa 2 v1) fun v65 =>
ob (evLd false 1 v65 h) fun v66 =>
ob (evBin .geq v66 (AV.int .i64 0)) fun v67 =>
cnd v67
 (ob (evFa 2 v1) fun v68 =>
ob (evLd false 1 v68 h) fun v69 =>
oh (buildSC 0 (some 7) 1 1 [(.int .i64 0)] [(0, v69)] h) fun v70 h3 =>
(expo1 h3 v70))
 ((q20_1 h)))
 ((q20_1 h)))
noncomputable def q20_4k (s : St) : OX := q20_4 (s 1) (s 4) (s 50) s.h
theorem q20_4_eq (s : St) : W E 0 c_q20_4 s q20_1k (exitTo 0 q20_1k xN) (finP [.t 2]) = q20_4k s :=
  (W_cond (q20_3_eq s) rfl).trans (by kernel_rfl)
noncomputable def q20_5 (v1 v4 : AV) (h : Heap) : OX :=
ob (evBin .eql v4 (AV.int .i64 29)) fun v51 =>
(q20_4 v1 v4 v51 h)
noncomputable def q20_5k (s : St) : OX := q20_5 (s 1) (s 4) s.h
theorem q20_5_eq (s : St) : W E 0 c_q20_5 s q20_1k (exitTo 0 q20_1k xN) (finP [.t 2]) = q20_5k s :=
  (W_seq (k := q20_4k) (fun s => q20_4_eq s)).trans (by kernel_rfl)
noncomputable def q20_6 (v1 v4 v42 : AV) (h : Heap) : OX :=
cnd v42
 (ob (evFa 8 v1) fun v47 =>
ob (evLd false 1 v47 h) fun v48 =>
oh (callAny E (callW E) 0 (some 4) false 39 [v48] h) fun v49 h4 =>
(expo1 h4 v49))
 ((q20_5 v1 v4 h))
noncomputable def q20_6k (s : St) : OX := q20_6 (s 1) (s 4) (s 42) s.h
theorem q20_6_eq (s : St) : W E 0 c_q20_6 s q20_1k (exitTo 0 q20_1k xN) (finP [.t 2]) = q20_6k s :=
  (W_cond rfl (q20_5_eq s)).trans (by kernel_rfl)
noncomputable def q20_7 (v1 v4 : AV) (h : Heap) : OX :=
ob (evBin .eql v4 (AV.int .i64 23)) fun v43 =>
cnd v43
 ((q20_6 v1 v4 v43 h))
 (ob (evBin .eql v4 (AV.int .i64 24)) fun v44 =>
cnd v44
 ((q20_6 v1 v4 v44 h))
 (ob (evBin .eql v4 (AV.int .i64 25)) fun v45 =>
cnd v45
 ((q20_6 v1 v4 v45 h))
 (ob (evBin .eql v4 (AV.int .i64 26)) fun v46 =>
(q20_6 v1 v4 v46 h))))
noncomputable def q20_7k (s : St) : OX := q20_7 (s 1) (s 4) s.h
theorem q20_7_eq (s : St) : W E 0 c_q20_7 s q20_1k (exitTo 0 q20_1k xN) (finP [.t 2]) = q20_7k s :=
  (W_seq (k := q20_6k) (fun s => q20_6_eq s)).trans (by kernel_rfl)
noncomputable def q20_8 (v1 v4 v33 : AV) (h : Heap) : OX :=
cnd v33
 (ob (evFa 2 v1) fun v35 =>
ob (evLd false 1 v35 h) fun v36 =>
ob (evFa 3 v1) fun v37 =>
ob (evLd false 1 v37 h) fun v38 =>
ob (evFa 4 v1) fun v39 =>
ob (evLd false 1 v39 h) fun v40 =>
oh (buildSC 0 (some 3) 1 3 [(.int .i64 0)] [(0, v36), (1, v38), (2, v40)] h) fun v41 h5 =>
(expo1 h5 v41))
 ((q20_7 v1 v4 h))
noncomputable def q20_8k (s : St) : OX := q20_8 (s 1) (s 4) (s 33) s.h
theorem q20_8_eq (s : St) : W E 0 c_q20_8 s q20_1k (exitTo 0 q20_1k xN) (finP [.t 2]) = q20_8k s :=
  (W_cond rfl (q20_7_eq s)).trans (by kernel_rfl)
noncomputable def q20_9 (v1 v4 : AV) (h : Heap) : OX :=
ob (evBin .eql v4 (AV.int .i64 14)) fun v34 =>
(q20_8 v1 v4 v34 h)
noncomputable def q20_9k (s : St) : OX := q20_9 (s 1) (s 4) s.h
theorem q20_9_eq (s : St) : W E 0 c_q20_9 s q20_1k (exitTo 0 q20_1k xN) (finP [.t 2]) = q20_9k s :=
  (W_seq (k := q20_8k) (fun s => q20_8_eq s)).trans (by kernel_rfl)
noncomputable def q20_10 (v1 v4 v21 : AV) (h : Heap) : OX :=
cnd v21
 (ob (evFa 2 v1) fun v28 =>
ob (evLd false 1 v28 h) fun v29 =>
ob (evFa 3 v1) fun v30 =>
ob (evLd false 1 v30 h) fun v31 =>
oh (buildSC 0 (some 2) 1 2 [(.int .i64 0)] [(0, v29), (1, v31)] h) fun v32 h6 =>
(expo1 h6 v32))
 ((q20_9 v1 v4 h))
noncomputable def q20_10k (s : St) : OX := q20_10 (s 1) (s 4) (s 21) s.h
theorem q20_10_eq (s : St) : W E 0 c_q20_10 s q20_1k (exitTo 0 q20_1k xN) (finP [.t 2]) = q20_10k s :=
  (W_cond rfl (q20_9_eq s)).trans (by kernel_rfl)
noncomputable def q20_11 (v1 v4 : AV) (h : Heap) : OX :=
ob (evBin .eql v4 (AV.int .i64 5)) fun v22 =>
cnd v22
 ((q20_10 v1 v4 v22 h))
 (ob (evBin .eql v4 (AV.int .i64 9)) fun v23 =>
cnd v23
 ((q20_10 v1 v4 v23 h))
 (ob (evBin .eql v4 (AV.int .i64 11)) fun v24 =>
cnd v24
 ((q20_10 v1 v4 v24 h))
 (ob (evBin .eql v4 (AV.int .i64 13)) fun v25 =>
cnd v25
 ((q20_10 v1 v4 v25 h))
 (ob (evBin .eql v4 (AV.int .i64 17)) fun v26 =>
cnd v26
 ((q20_10 v1 v4 v26 h))
 (ob (evBin .eql v4 (AV.int .i64 28)) fun v27 =>
(q20_10 v1 v4 v27 h))))))
noncomputable def q20_11k (s : St) : OX := q20_11 (s 1) (s 4) s.h
theorem q20_11_eq (s : St) : W E 0 c_q20_11 s q20_1k (exitTo 0 q20_1k xN) (finP [.t 2]) = q20_11k s :=
  (W_seq (k := q20_10k) (fun s => q20_10_eq s)).trans (by kernel_rfl)
noncomputable def q20_12 (v1 v4 v5 : AV) (h : Heap) : OX :=
cnd v5
 (ob (evFa 2 v1) fun v18 =>
ob (evLd false 1 v18 h) fun v19 =>
oh (buildSC 0 (some 1) 1 1 [(.int .i64 0)] [(0, v19)] h) fun v20 h7 =>
(expo1 h7 v20))
 ((q20_11 v1 v4 h))
noncomputable def q20_12k (s : St) : OX := q20_12 (s 1) (s 4) (s 5) s.h
theorem q20_12_eq (s : St) : W E 0 c_q20_12 s q20_1k (exitTo 0 q20_1k xN) (finP [.t 2]) = q20_12k s :=
  (W_cond rfl (q20_11_eq s)).trans (by kernel_rfl)
noncomputable def q20_13 (v1 v4 : AV) (h : Heap) : OX :=
ob (evBin .eql v4 (AV.int .i64 4)) fun v6 =>
cnd v6
 ((q20_12 v1 v4 v6 h))
 (ob (evBin .eql v4 (AV.int .i64 6)) fun v7 =>
cnd v7
 ((q20_12 v1 v4 v7 h))
 (ob (evBin .eql v4 (AV.int .i64 7)) fun v8 =>
cnd v8
 ((q20_12 v1 v4 v8 h))
 (ob (evBin .eql v4 (AV.int .i64 8)) fun v9 =>
cnd v9
 ((q20_12 v1 v4 v9 h))
 (ob (evBin .eql v4 (AV.int .i64 10)) fun v10 =>
cnd v10
 ((q20_12 v1 v4 v10 h))
 (ob (evBin .eql v4 (AV.int .i64 12)) fun v11 =>
cnd v11
 ((q20_12 v1 v4 v11 h))
 (ob (evBin .eql v4 (AV.int .i64 15)) fun v12 =>
cnd v12
 ((q20_12 v1 v4 v12 h))
 (ob (evBin .eql v4 (AV.int .i64 16)) fun v13 =>
cnd v13
 ((q20_12 v1 v4 v13 h))
 (ob (evBin .eql v4 (AV.int .i64 19)) fun v14 =>
cnd v14
 ((q20_12 v1 v4 v14 h))
 (ob (evBin .eql v4 (AV.int .i64 21)) fun v15 =>
cnd v15
 ((q20_12 v1 v4 v15 h))
 (ob (evBin .eql v4 (AV.int .i64 22)) fun v16 =>
cnd v16
 ((q20_12 v1 v4 v16 h))
 (ob (evBin .eql v4 (AV.int .i64 31)) fun v17 =>
(q20_12 v1 v4 v17 h))))))))))))
noncomputable def q20_13k (s : St) : OX := q20_13 (s 1) (s 4) s.h
theorem q20_13_eq (s : St) : W E 0 c_q20_13 s q20_1k (exitTo 0 q20_1k xN) (finP [.t 2]) = q20_13k s :=
  (W_seq (k := q20_12k) (fun s => q20_12_eq s)).trans (by kernel_rfl)
theorem q20_14_eq (s : St) : W E 0 c_q20_14 s q20_1k xN (finP [.t 2]) = q20_13k s :=
  W_block.trans (q20_13_eq s)
noncomputable def q20_15 (v1 : AV) (h : Heap) : OX :=
ob (evFa 0 v1) fun v3 =>
ob (evLd false 1 v3 h) fun v4 =>
(q20_13 v1 v4 h)
noncomputable def q20_15k (s : St) : OX := q20_15 (s 1) s.h
theorem q20_15_eq (s : St) : W E 0 c_q20_15 s q20_1k xN (finP [.t 2]) = q20_15k s :=
  (W_seq (k := q20_13k) (fun s => q20_14_eq s)).trans (by kernel_rfl)
theorem q20_16_eq (s : St) : W E 0 c_q20_16 s (finP [.t 2]) xN (finP [.t 2]) = q20_15k s :=
  (W_seq (k := q20_1k) (fun s => q20_1_eq s)).trans (q20_15_eq s)
noncomputable def q20_17 (v0 : AV) (h : Heap) : OX :=
oh (newC 0 (some 0) (cellsOf v0) h) fun v1 h8 =>
(q20_15 v1 h8)
noncomputable def q20_17k (s : St) : OX := q20_17 (s 0) s.h
theorem q20_17_eq (s : St) : W E 0 c_q20_17 s (finP [.t 2]) xN (finP [.t 2]) = q20_17k s :=
  (W_seq (k := q20_15k) (fun s => q20_16_eq s)).trans (by kernel_rfl)
@[simp] theorem pure_10 : E.pure 10 = true := rfl
theorem x_q20 (v0 : AV) : (callW E).p 10 [v0] = q20_17 v0 [⟨0, .dead⟩, ⟨0, .dead⟩, ⟨0, .dead⟩, ⟨0, .dead⟩, ⟨0, .dead⟩, ⟨0, .dead⟩, ⟨0, .dead⟩, ⟨0, .dead⟩] :=
  (callP_W (cf := c_q20) (by kernel_rfl) rfl).trans ((q20_17_eq _).trans (by kernel_rfl))
noncomputable def q11_1 (v0 : AV) (h : Heap) : OX :=
oh (newC 0 (some 0) (cellsOf v0) h) fun v1 h1 =>
ob (evFa 0 v1) fun v3 =>
ob (evLd false 1 v3 h1) fun v4 =>
ob (evBin .geq v4 (AV.int .i64 23)) fun v5 =>
gb v5 true (evFa 0 v1) fun v7 =>
gb v5 true (evLd false 1 v7 h1) fun v8 =>
gb v5 true (evBin .leq v8 (AV.int .i64 26)) fun v9 =>
ob (evPick v5 v9 (AV.bool false)) fun v10 =>
(expo1 h1 v10)
noncomputable def q11_1k (s : St) : OX := q11_1 (s 0) s.h
theorem q11_1_eq (s : St) : W E 0 c_q11_1 s (finP [.t 2]) xN (finP [.t 2]) = q11_1k s :=
  by kernel_rfl
@[simp] theorem pure_17 : E.pure 17 = true := rfl
theorem x_q11 (v0 : AV) : (callW E).p 17 [v0] = q11_1 v0 [⟨0, .dead⟩] :=
  (callP_W (cf := c_q11) (by kernel_rfl) rfl).trans ((q11_1_eq _).trans (by kernel_rfl))
noncomputable def q16_1 (v0 : AV) (h : Heap) : OX :=
oh (newC 0 (some 0) (cellsOf v0) h) fun v1 h1 =>
ob (evFa 0 v1) fun v3 =>
ob (evLd false 1 v3 h1) fun v4 =>
ob (evBin .eql v4 (AV.int .i64 27)) fun v5 =>
gb v5 false (evFa 0 v1) fun v7 =>
gb v5 false (evLd false 1 v7 h1) fun v8 =>
gb v5 false (evBin .eql v8 (AV.int .i64 28)) fun v9 =>
ob (evPick v5 (AV.bool true) v9) fun v10 =>
gb v10 false (evFa 0 v1) fun v12 =>
gb v10 false (evLd false 1 v12 h1) fun v13 =>
gb v10 false (evBin .eql v13 (AV.int .i64 29)) fun v14 =>
ob (evPick v10 (AV.bool true) v14) fun v15 =>
(expo1 h1 v15)
noncomputable def q16_1k (s : St) : OX := q16_1 (s 0) s.h
theorem q16_1_eq (s : St) : W E 0 c_q16_1 s (finP [.t 2]) xN (finP [.t 2]) = q16_1k s :=
  by kernel_rfl
@[simp] theorem pure_22 : E.pure 22 = true := rfl
theorem x_q16 (v0 : AV) : (callW E).p 22 [v0] = q16_1 v0 [⟨0, .dead⟩] :=
  (callP_W (cf := c_q16) (by kernel_rfl) rfl).trans ((q16_1_eq _).trans (by kernel_rfl))
noncomputable def q15_1 (v0 : AV) (h : Heap) : OX :=
oh (newC 0 (some 0) (cellsOf v0) h) fun v1 h1 =>
ob (evFa 0 v1) fun v3 =>
ob (evLd false 1 v3 h1) fun v4 =>
ob (evBin .eql v4 (AV.int .i64 27)) fun v5 =>
gb v5 false (evFa 0 v1) fun v7 =>
gb v5 false (evLd false 1 v7 h1) fun v8 =>
gb v5 false (evBin .eql v8 (AV.int .i64 30)) fun v9 =>
ob (evPick v5 (AV.bool true) v9) fun v10 =>
gb v10 false (evFa 0 v1) fun v12 =>
gb v10 false (evLd false 1 v12 h1) fun v13 =>
gb v10 false (evBin .eql v13 (AV.int .i64 31)) fun v14 =>
ob (evPick v10 (AV.bool true) v14) fun v15 =>
(expo1 h1 v15)
noncomputable def q15_1k (s : St) : OX := q15_1 (s 0) s.h
theorem q15_1_eq (s : St) : W E 0 c_q15_1 s (finP [.t 2]) xN (finP [.t 2]) = q15_1k s :=
  by kernel_rfl
@[simp] theorem pure_24 : E.pure 24 = true := rfl
theorem x_q15 (v0 : AV) : (callW E).p 24 [v0] = q15_1 v0 [⟨0, .dead⟩] :=
  (callP_W (cf := c_q15) (by kernel_rfl) rfl).trans ((q15_1_eq _).trans (by kernel_rfl))
noncomputable def q6_1 (h : Heap) : OX :=
(expo1 h (AV.bool true))
noncomputable def q6_1k (s : St) : OX := q6_1 s.h
theorem q6_1_eq (s : St) : W E 0 c_q6_1 s (finP [.t 4]) xN (finP [.t 4]) = q6_1k s :=
  by kernel_rfl
noncomputable def q6_L2 (v1 v17 v18 v19 : AV) (h : Heap) : OX :=
  W E 0 c_q6_L2 ⟨[(1, v1), (17, v17), (18, v18), (19, v19)], h⟩ q6_1k (exitTo 0 q6_1k xN) (finP [.t 4])
noncomputable def q6_L2k (s : St) : OX := q6_L2 (s 1) (s 17) (s 18) (s 19) s.h
theorem q6_L2_eq (s : St) : W E 0 c_q6_L2 s q6_1k (exitTo 0 q6_1k xN) (finP [.t 4]) = q6_L2k s := W_loop_live.trans (by kernel_rfl)
noncomputable def q6_3 (v1 v17 v18 v19 : AV) (h : Heap) : OX :=
ob (evBin .add v19 (AV.int .i64 1)) fun v71 =>
(q6_L2 v1 v17 v18 v71 h)
noncomputable def q6_3k (s : St) : OX := q6_3 (s 1) (s 17) (s 18) (s 19) s.h
theorem q6_3_eq (s : St) : W E 0 c_q6_3 s q6_L2k (exitTo 0 q6_1k xN) (finP [.t 4]) = q6_3k s :=
  by kernel_rfl
noncomputable def q6_4 (v1 v17 v18 v19 : AV) (h : Heap) : OX :=
ob (evIxs 1 v17 v19) fun v21 =>
ob (evLd false 1 v21 h) fun v22 =>
ob (evBin .geq v22 (AV.int .u8 97)) fun v24 =>
gb v24 true (some v22) fun v26 =>
gb v24 true (evBin .leq v26 (AV.int .u8 122)) fun v27 =>
ob (evPick v24 v27 (AV.bool false)) fun v28 =>
gb v28 false (some v22) fun v30 =>
gb v28 false (evBin .geq v30 (AV.int .u8 65)) fun v31 =>
gb v28 false (some v31) fun v32 =>
gb v32 true (some v22) fun v33 =>
gb v32 true (evBin .leq v33 (AV.int .u8 90)) fun v34 =>
gb v28 false (evPick v32 v34 (AV.bool false)) fun v35 =>
ob (evPick v28 (AV.bool true) v35) fun v36 =>
gb v36 false (some v22) fun v38 =>
gb v36 false (evBin .geq v38 (AV.int .u8 48)) fun v39 =>
gb v36 false (some v39) fun v40 =>
gb v40 true (some v22) fun v41 =>
gb v40 true (evBin .leq v41 (AV.int .u8 57)) fun v42 =>
gb v36 false (evPick v40 v42 (AV.bool false)) fun v43 =>
ob (evPick v36 (AV.bool true) v43) fun v44 =>
gb v44 false (some v22) fun v46 =>
gb v44 false (evBin .eql v46 (AV.int .u8 95)) fun v47 =>
ob (evPick v44 (AV.bool true) v47) fun v48 =>
gb v48 false (some v22) fun v50 =>
gb v48 false (evBin .eql v50 (AV.int .u8 36)) fun v51 =>
ob (evPick v48 (AV.bool true) v51) fun v52 =>
gb v52 false (some v22) fun v54 =>
gb v52 false (evBin .eql v54 (AV.int .u8 47)) fun v55 =>
ob (evPick v52 (AV.bool true) v55) fun v56 =>
ob (evUn .not v56) fun v58 =>
gb v58 true (some v1) fun v60 =>
gb v58 true (some v60) fun v61 =>
gb v61 true (some v22) fun v62 =>
gb v61 true (evBin .eql v62 (AV.int .u8 60)) fun v63 =>
gb v61 true (some v63) fun v64 =>
gb v64 false (some v22) fun v65 =>
gb v64 false (evBin .eql v65 (AV.int .u8 62)) fun v66 =>
gb v61 true (evPick v64 (AV.bool true) v66) fun v67 =>
gb v58 true (evPick v61 v67 (AV.bool false)) fun v68 =>
gb v58 true (evUn .not v68) fun v69 =>
ob (evPick v58 v69 (AV.bool false)) fun v70 =>
cnd v70
 ((expo1 h (AV.bool false)))
 ((q6_3 v1 v17 v18 v19 h))
noncomputable def q6_4k (s : St) : OX := q6_4 (s 1) (s 17) (s 18) (s 19) s.h
theorem q6_4_eq (s : St) : W E 0 c_q6_4 s q6_L2k (exitTo 0 q6_1k xN) (finP [.t 4]) = q6_4k s :=
  (W_seq (k := q6_3k) (fun s => q6_3_eq s)).trans (by kernel_rfl)
noncomputable def q6_5 (v1 v17 v18 v19 v20 : AV) (h : Heap) : OX :=
cnd v20
 ((q6_4 v1 v17 v18 v19 h))
 ((q6_1 h))
noncomputable def q6_5k (s : St) : OX := q6_5 (s 1) (s 17) (s 18) (s 19) (s 20) s.h
theorem q6_5_eq (s : St) : W E 0 c_q6_5 s q6_L2k (exitTo 0 q6_1k xN) (finP [.t 4]) = q6_5k s :=
  (W_seq (k := q6_4k) (fun s => q6_4_eq s)).trans (by kernel_rfl)
noncomputable def q6_6 (v1 v17 v18 v19 : AV) (h : Heap) : OX :=
ob (evBin .lss v19 v18) fun v20 =>
(q6_5 v1 v17 v18 v19 v20 h)
noncomputable def q6_6k (s : St) : OX := q6_6 (s 1) (s 17) (s 18) (s 19) s.h
theorem q6_6_eq (s : St) : W E 0 c_q6_6 s q6_L2k (exitTo 0 q6_1k xN) (finP [.t 4]) = q6_6k s :=
  (W_seq (k := q6_5k) (fun s => q6_5_eq s)).trans (by kernel_rfl)
theorem q6_L2_go (v1 v17 v18 v19 : AV) (h : Heap) : q6_L2 v1 v17 v18 v19 h = (q6_6 v1 v17 v18 v19 h) :=
  W_loop.trans ((W_congr _ _ _ (n' := q6_L2k) (fun s => q6_L2_eq s)).trans ((q6_6_eq _).trans (by kernel_rfl)))
theorem q6_7_eq (s : St) : W E 0 c_q6_7 s q6_1k xN (finP [.t 4]) = q6_L2k s :=
  W_block.trans (q6_L2_eq s)
noncomputable def q6_8 (v0 v1 : AV) (h : Heap) : OX :=
oh (s2bC 0 (some 0) v0 h) fun v17 h1 =>
ob (evLen 1 v17 h1) fun v18 =>
(q6_L2 v1 v17 v18 (AV.int .i64 0) h1)
noncomputable def q6_8k (s : St) : OX := q6_8 (s 0) (s 1) s.h
theorem q6_8_eq (s : St) : W E 0 c_q6_8 s q6_1k xN (finP [.t 4]) = q6_8k s :=
  (W_seq (k := q6_L2k) (fun s => q6_7_eq s)).trans (by kernel_rfl)
theorem q6_9_eq (s : St) : W E 0 c_q6_9 s (finP [.t 4]) xN (finP [.t 4]) = q6_8k s :=
  (W_seq (k := q6_1k) (fun s => q6_1_eq s)).trans (q6_8_eq s)
noncomputable def q6_10 (v0 v1 : AV) (h : Heap) : OX :=
ob (evLen 0 v0 h) fun v9 =>
ob (evBin .lss v9 (AV.int .i64 1)) fun v10 =>
gb v10 false (some v0) fun v12 =>
gb v10 false (evLen 0 v12 h) fun v13 =>
gb v10 false (evBin .gtr v13 (AV.int .i64 60)) fun v14 =>
ob (evPick v10 (AV.bool true) v14) fun v15 =>
cnd v15
 ((expo1 h (AV.bool false)))
 ((q6_8 v0 v1 h))
noncomputable def q6_10k (s : St) : OX := q6_10 (s 0) (s 1) s.h
theorem q6_10_eq (s : St) : W E 0 c_q6_10 s (finP [.t 4]) xN (finP [.t 4]) = q6_10k s :=
  (W_seq (k := q6_8k) (fun s => q6_9_eq s)).trans (by kernel_rfl)
noncomputable def q6_11 (v0 v1 : AV) (h : Heap) : OX :=
(q6_10 v0 v1 h)
noncomputable def q6_11k (s : St) : OX := q6_11 (s 0) (s 1) s.h
theorem q6_11_eq (s : St) : W E 0 c_q6_11 s (finP [.t 4]) xN (finP [.t 4]) = q6_11k s :=
  (W_seq (k := q6_10k) (fun s => q6_10_eq s)).trans (by kernel_rfl)
@[simp] theorem pure_60 : E.pure 60 = true := rfl
theorem x_q6 (v0 v1 : AV) : (callW E).p 60 [v0, v1] = q6_11 v0 v1 [⟨0, .dead⟩] :=
  (callP_W (cf := c_q6) (by kernel_rfl) rfl).trans ((q6_11_eq _).trans (by kernel_rfl))
noncomputable def q7_1 (v0 : AV) (h : Heap) : OX :=
ob (evBin .neq v0 (AV.str [])) fun v4 =>
gb v4 true (some v0) fun v6 =>
gh v4 true (callAny E (callW E) 0 none true 44 [v6] h) h fun v7 h1 =>
gb v4 true (some v0) fun v8 =>
gb v4 true (evLen 0 v8 h1) fun v9 =>
gb v4 true (evBin .eql v7 v9) fun v10 =>
ob (evPick v4 v10 (AV.bool false)) fun v11 =>
(expo1 h1 v11)
noncomputable def q7_1k (s : St) : OX := q7_1 (s 0) s.h
theorem q7_1_eq (s : St) : W E 0 c_q7_1 s (finP [.t 2]) xN (finP [.t 2]) = q7_1k s :=
  by kernel_rfl
@[simp] theorem pure_37 : E.pure 37 = true := rfl
theorem x_q7 (v0 : AV) : (callW E).p 37 [v0] = q7_1 v0 [] :=
  (callP_W (cf := c_q7) (by kernel_rfl) rfl).trans ((q7_1_eq _).trans (by kernel_rfl))
noncomputable def q110_1 (v0 v3 : AV) (h : Heap) : OX :=
ob (evIxs 1 v3 v0) fun v15 =>
ob (evLd false 1 v15 h) fun v16 =>
(expo1 h v16)
noncomputable def q110_1k (s : St) : OX := q110_1 (s 0) (s 3) s.h
theorem q110_1_eq (s : St) : W E 0 c_q110_1 s (finP [.t 2]) xN (finP [.t 2]) = q110_1k s :=
  by kernel_rfl
noncomputable def q110_2 (v0 v3 : AV) (h : Heap) : OX :=
ob (evBin .lss v0 (AV.int .i64 1)) fun v6 =>
gb v6 false (some v0) fun v8 =>
gb v6 false (some v3) fun v9 =>
gb v6 false (evLen 1 v9 h) fun v10 =>
gb v6 false (evBin .geq v8 v10) fun v11 =>
ob (evPick v6 (AV.bool true) v11) fun v12 =>
cnd v12
 ((expo1 h (AV.str [])))
 ((q110_1 v0 v3 h))
noncomputable def q110_2k (s : St) : OX := q110_2 (s 0) (s 3) s.h
theorem q110_2_eq (s : St) : W E 0 c_q110_2 s (finP [.t 2]) xN (finP [.t 2]) = q110_2k s :=
  (W_seq (k := q110_1k) (fun s => q110_1_eq s)).trans (by kernel_rfl)
noncomputable def q110_3 (v0 : AV) (h : Heap) : OX :=
oh (buildSC 0 (some 0) 1 34 [(.str [])] [(0, (AV.str [])), (1, (AV.str [110, 45, 45, 45])), (2, (AV.str [51, 45, 45, 45])), (3, (AV.str [51, 45, 45, 45])), (4, (AV.str [42, 61, 45, 45])), (5, (AV.str [63, 63, 63, 63])), (6, (AV.str [63, 63, 63, 63])), (7, (AV.str [45, 110, 45, 45])), (8, (AV.str [45, 51, 45, 45])), (9, (AV.str [45, 51, 49, 45])), (10, (AV.str [45, 49, 45, 45])), (11, (AV.str [45, 51, 51, 45])), (12, (AV.str [45, 51, 45, 45])), (13, (AV.str [42, 51, 49, 45])), (14, (AV.str [45, 51, 49, 42])), (15, (AV.str [49, 51, 45, 45])), (16, (AV.str [42, 51, 45, 45])), (17, (AV.str [45, 51, 42, 45])), (18, (AV.str [42, 45, 45, 45])), (19, (AV.str [45, 42, 45, 45])), (20, (AV.str [51, 45, 45, 45])), (21, (AV.str [51, 49, 45, 45])), (22, (AV.str [49, 51, 45, 45])), (23, (AV.str [63, 63, 63, 63])), (24, (AV.str [63, 63, 63, 63])), (25, (AV.str [63, 63, 63, 63])), (26, (AV.str [63, 63, 63, 63])), (27, (AV.str [45, 45, 45, 45])), (28, (AV.str [45, 49, 49, 45])), (29, (AV.str [45, 51, 63, 45])), (30, (AV.str [45, 63, 45, 45])), (31, (AV.str [45, 51, 45, 45])), (32, (AV.str [51, 45, 45, 45])), (33, (AV.str [45, 45, 45, 45]))] h) fun v4 h1 =>
(q110_2 v0 v4 h1)
noncomputable def q110_3k (s : St) : OX := q110_3 (s 0) s.h
theorem q110_3_eq (s : St) : W E 0 c_q110_3 s (finP [.t 2]) xN (finP [.t 2]) = q110_3k s :=
  (W_seq (k := q110_2k) (fun s => q110_2_eq s)).trans (by kernel_rfl)
noncomputable def q110_4 (v0 : AV) (h : Heap) : OX :=
(q110_3 v0 h)
noncomputable def q110_4k (s : St) : OX := q110_4 (s 0) s.h
theorem q110_4_eq (s : St) : W E 0 c_q110_4 s (finP [.t 2]) xN (finP [.t 2]) = q110_4k s :=
  (W_seq (k := q110_3k) (fun s => q110_3_eq s)).trans (by kernel_rfl)
@[simp] theorem pure_38 : E.pure 38 = true := rfl
theorem x_q110 (v0 : AV) : (callW E).p 38 [v0] = q110_4 v0 [⟨0, .dead⟩] :=
  (callP_W (cf := c_q110) (by kernel_rfl) rfl).trans ((q110_4_eq _).trans (by kernel_rfl))
noncomputable def q127_1 (v0 v1 : AV) (h : Heap) : OX :=
oh (callAny E (callW E) 0 none true 45 [v0, v1] h) fun v7 h1 =>
ob (evBin .geq v7 (AV.int .i64 0)) fun v8 =>
(expo1 h1 v8)
noncomputable def q127_1k (s : St) : OX := q127_1 (s 0) (s 1) s.h
theorem q127_1_eq (s : St) : W E 0 c_q127_1 s (finP [.t 4]) xN (finP [.t 4]) = q127_1k s :=
  by kernel_rfl
@[simp] theorem pure_46 : E.pure 46 = true := rfl
theorem x_q127 (v0 v1 : AV) : (callW E).p 46 [v0, v1] = q127_1 v0 v1 [] :=
  (callP_W (cf := c_q127) (by kernel_rfl) rfl).trans ((q127_1_eq _).trans (by kernel_rfl))
noncomputable def q23_1 (v2 v3 : AV) (h : Heap) : OX :=
ob (evLd true 9 v3 h) fun v183 =>
oh (callAny E (callW E) 0 none true 22 [v183] h) fun v184 h1 =>
ob (evUn .not v184) fun v185 =>
gb v185 false (evFa 6 v3) fun v187 =>
gb v185 false (evLd false 1 v187 h1) fun v188 =>
gb v185 false (evBin .geq v188 (AV.int .i64 0)) fun v189 =>
gb v185 false (some v189) fun v190 =>
gb v190 true (evFa 6 v3) fun v191 =>
gb v190 true (evLd false 1 v191 h1) fun v192 =>
gb v190 true (evFa 3 v2) fun v193 =>
gb v190 true (evLd false 1 v193 h1) fun v194 =>
gb v190 true (evLen 1 v194 h1) fun v195 =>
gb v190 true (evBin .lss v192 v195) fun v196 =>
gb v185 false (evPick v190 v196 (AV.bool false)) fun v197 =>
ob (evPick v185 (AV.bool true) v197) fun v198 =>
(expo1 h1 v198)
noncomputable def q23_1k (s : St) : OX := q23_1 (s 2) (s 3) s.h
theorem q23_1_eq (s : St) : W E 0 c_q23_1 s (finP [.t 4]) xN (finP [.t 4]) = q23_1k s :=
  by kernel_rfl
noncomputable def q23_2 (v2 v3 : AV) (h : Heap) : OX :=
ob (evFa 0 v3) fun v105 =>
ob (evLd false 1 v105 h) fun v106 =>
ob (evBin .eql v106 (AV.int .i64 1)) fun v108 =>
cnd v108
 (ob (evFa 0 v2) fun v109 =>
ob (evLd false 1 v109 h) fun v110 =>
ob (evFa 1 v3) fun v111 =>
ob (evLd false 1 v111 h) fun v112 =>
ob (evIxs 1 v110 v112) fun v113 =>
ob (evLd false 1 v113 h) fun v114 =>
ob (evBin .neq v114 (AV.int .i64 3)) fun v115 =>
gb v115 true (evFa 0 v2) fun v117 =>
gb v115 true (evLd false 1 v117 h) fun v118 =>
gb v115 true (evFa 1 v3) fun v119 =>
gb v115 true (evLd false 1 v119 h) fun v120 =>
gb v115 true (evIxs 1 v118 v120) fun v121 =>
gb v115 true (evLd false 1 v121 h) fun v122 =>
gb v115 true (evBin .eql v122 (AV.int .i64 2)) fun v123 =>
gb v115 true (some v123) fun v124 =>
gb v124 false (evFa 5 v3) fun v125 =>
gb v124 false (evLd false 1 v125 h) fun v126 =>
gb v124 false (evFa 5 v3) fun v127 =>
gb v124 false (evLd false 1 v127 h) fun v128 =>
gb v124 false (evCvi .i32 v128) fun v129 =>
gb v124 false (evCvi .i64 v129) fun v130 =>
gb v124 false (evBin .eql v126 v130) fun v131 =>
gb v115 true (evPick v124 (AV.bool true) v131) fun v132 =>
ob (evPick v115 v132 (AV.bool false)) fun v133 =>
(expo1 h v133))
 (ob (evBin .eql v106 (AV.int .i64 4)) fun v135 =>
cnd v135
 (ob (evFa 0 v2) fun v136 =>
ob (evLd false 1 v136 h) fun v137 =>
ob (evFa 1 v3) fun v138 =>
ob (evLd false 1 v138 h) fun v139 =>
ob (evIxs 1 v137 v139) fun v140 =>
ob (evLd false 1 v140 h) fun v141 =>
ob (evFa 0 v2) fun v142 =>
ob (evLd false 1 v142 h) fun v143 =>
ob (evFa 2 v3) fun v144 =>
ob (evLd false 1 v144 h) fun v145 =>
ob (evIxs 1 v143 v145) fun v146 =>
ob (evLd false 1 v146 h) fun v147 =>
ob (evBin .eql v141 v147) fun v148 =>
(expo1 h v148))
 (ob (evBin .eql v106 (AV.int .i64 7)) fun v150 =>
cnd v150
 (ob (evFa 0 v2) fun v151 =>
ob (evLd false 1 v151 h) fun v152 =>
ob (evFa 2 v3) fun v153 =>
ob (evLd false 1 v153 h) fun v154 =>
ob (evIxs 1 v152 v154) fun v155 =>
ob (evLd false 1 v155 h) fun v156 =>
ob (evBin .neq v156 (AV.int .i64 3)) fun v157 =>
(expo1 h v157))
 (ob (evBin .eql v106 (AV.int .i64 30)) fun v159 =>
cnd v159
 (ob (evFa 2 v3) fun v160 =>
ob (evLd false 1 v160 h) fun v161 =>
ob (evBin .eql v161 (AV.int .i64 (-1))) fun v162 =>
ob (evFa 2 v2) fun v163 =>
ob (evLd false 1 v163 h) fun v164 =>
ob (evBin .eql v164 (AV.int .i64 0)) fun v165 =>
ob (evEqb false v162 v165) fun v166 =>
gb v166 true (evFa 2 v3) fun v168 =>
gb v166 true (evLd false 1 v168 h) fun v169 =>
gb v166 true (evBin .eql v169 (AV.int .i64 (-1))) fun v170 =>
gb v166 true (some v170) fun v171 =>
gb v171 false (evFa 0 v2) fun v172 =>
gb v171 false (evLd false 1 v172 h) fun v173 =>
gb v171 false (evFa 2 v3) fun v174 =>
gb v171 false (evLd false 1 v174 h) fun v175 =>
gb v171 false (evIxs 1 v173 v175) fun v176 =>
gb v171 false (evLd false 1 v176 h) fun v177 =>
gb v171 false (evFa 2 v2) fun v178 =>
gb v171 false (evLd false 1 v178 h) fun v179 =>
gb v171 false (evBin .eql v177 v179) fun v180 =>
gb v166 true (evPick v171 (AV.bool true) v180) fun v181 =>
ob (evPick v166 v181 (AV.bool false)) fun v182 =>
(expo1 h v182))
 ((q23_1 v2 v3 h)))))
noncomputable def q23_2k (s : St) : OX := q23_2 (s 2) (s 3) s.h
theorem q23_2_eq (s : St) : W E 0 c_q23_2 s (finP [.t 4]) xN (finP [.t 4]) = q23_2k s :=
  (W_seq (k := q23_1k) (fun s => q23_1_eq s)).trans (by kernel_rfl)
noncomputable def q23_L3 (v2 v3 v63 v64 v65 : AV) (h : Heap) : OX :=
  W E 0 c_q23_L3 ⟨[(2, v2), (3, v3), (63, v63), (64, v64), (65, v65)], h⟩ q23_2k (exitTo 2 q23_2k xN) (finP [.t 4])
noncomputable def q23_L3k (s : St) : OX := q23_L3 (s 2) (s 3) (s 63) (s 64) (s 65) s.h
theorem q23_L3_eq (s : St) : W E 0 c_q23_L3 s q23_2k (exitTo 2 q23_2k xN) (finP [.t 4]) = q23_L3k s := W_loop_live.trans (by kernel_rfl)
noncomputable def q23_4 (v2 v3 v63 v64 v65 : AV) (h : Heap) : OX :=
ob (evBin .add v65 (AV.int .i64 1)) fun v104 =>
(q23_L3 v2 v3 v63 v64 v104 h)
noncomputable def q23_4k (s : St) : OX := q23_4 (s 2) (s 3) (s 63) (s 64) (s 65) s.h
theorem q23_4_eq (s : St) : W E 0 c_q23_4 s q23_L3k (exitTo 2 q23_2k xN) (finP [.t 4]) = q23_4k s :=
  by kernel_rfl
noncomputable def q23_5 (v2 v3 v9 v10 v63 v64 v65 : AV) (h : Heap) : OX :=
ob (evBin .lss v10 (AV.int .i64 0)) fun v74 =>
gb v74 false (some v10) fun v76 =>
gb v74 false (evFa 0 v2) fun v77 =>
gb v74 false (evLd false 1 v77 h) fun v78 =>
gb v74 false (evLen 1 v78 h) fun v79 =>
gb v74 false (evBin .geq v76 v79) fun v80 =>
ob (evPick v74 (AV.bool true) v80) fun v81 =>
gb v81 false (some v9) fun v83 =>
gb v81 false (evBin .eql v83 (AV.int .i64 0)) fun v84 =>
gb v81 false (some v84) fun v85 =>
gb v85 true (evFa 0 v3) fun v86 =>
gb v85 true (evLd false 1 v86 h) fun v87 =>
gb v85 true (evBin .eql v87 (AV.int .i64 24)) fun v88 =>
gb v85 true (some v88) fun v89 =>
gb v89 false (evFa 0 v3) fun v90 =>
gb v89 false (evLd false 1 v90 h) fun v91 =>
gb v89 false (evBin .eql v91 (AV.int .i64 25)) fun v92 =>
gb v85 true (evPick v89 (AV.bool true) v92) fun v93 =>
gb v81 false (evPick v85 v93 (AV.bool false)) fun v94 =>
gb v81 false (some v94) fun v95 =>
gb v95 true (evFa 0 v2) fun v96 =>
gb v95 true (evLd false 1 v96 h) fun v97 =>
gb v95 true (some v10) fun v98 =>
gb v95 true (evIxs 1 v97 v98) fun v99 =>
gb v95 true (evLd false 1 v99 h) fun v100 =>
gb v95 true (evBin .neq v100 (AV.int .i64 3)) fun v101 =>
gb v81 false (evPick v95 v101 (AV.bool false)) fun v102 =>
ob (evPick v81 (AV.bool true) v102) fun v103 =>
cnd v103
 ((expo1 h (AV.bool false)))
 ((q23_4 v2 v3 v63 v64 v65 h))
noncomputable def q23_5k (s : St) : OX := q23_5 (s 2) (s 3) (s 9) (s 10) (s 63) (s 64) (s 65) s.h
theorem q23_5_eq (s : St) : W E 0 c_q23_5 s q23_4k (exitTo 3 q23_4k (exitTo 2 q23_2k xN)) (finP [.t 4]) = q23_5k s :=
  by kernel_rfl
noncomputable def q23_6 (v2 v3 v9 v10 v63 v64 v65 : AV) (h : Heap) : OX :=
ob (evLd true 9 v3 h) fun v70 =>
oh (callAny E (callW E) 0 none true 17 [v70] h) fun v71 h2 =>
ob (evUn .not v71) fun v72 =>
cnd v72
 ((q23_2 v2 v3 h2))
 ((q23_5 v2 v3 v9 v10 v63 v64 v65 h2))
noncomputable def q23_6k (s : St) : OX := q23_6 (s 2) (s 3) (s 9) (s 10) (s 63) (s 64) (s 65) s.h
theorem q23_6_eq (s : St) : W E 0 c_q23_6 s q23_4k (exitTo 3 q23_4k (exitTo 2 q23_2k xN)) (finP [.t 4]) = q23_6k s :=
  (W_seq (k := q23_5k) (fun s => q23_5_eq s)).trans (by kernel_rfl)
noncomputable def q23_7 (v2 v3 v63 v64 v65 : AV) (h : Heap) : OX :=
ob (evIxs 1 v63 v65) fun v68 =>
ob (evLd false 1 v68 h) fun v69 =>
(q23_6 v2 v3 v65 v69 v63 v64 v65 h)
noncomputable def q23_7k (s : St) : OX := q23_7 (s 2) (s 3) (s 63) (s 64) (s 65) s.h
theorem q23_7_eq (s : St) : W E 0 c_q23_7 s q23_4k (exitTo 3 q23_4k (exitTo 2 q23_2k xN)) (finP [.t 4]) = q23_7k s :=
  (W_seq (k := q23_6k) (fun s => q23_6_eq s)).trans (by kernel_rfl)
theorem q23_8_eq (s : St) : W E 0 c_q23_8 s q23_4k (exitTo 2 q23_2k xN) (finP [.t 4]) = q23_7k s :=
  W_block.trans (q23_7_eq s)
theorem q23_9_eq (s : St) : W E 0 c_q23_9 s q23_L3k (exitTo 2 q23_2k xN) (finP [.t 4]) = q23_7k s :=
  (W_seq (k := q23_4k) (fun s => q23_4_eq s)).trans (q23_8_eq s)
noncomputable def q23_10 (v2 v3 v63 v64 v65 v66 : AV) (h : Heap) : OX :=
cnd v66
 ((q23_7 v2 v3 v63 v64 v65 h))
 ((q23_2 v2 v3 h))
noncomputable def q23_10k (s : St) : OX := q23_10 (s 2) (s 3) (s 63) (s 64) (s 65) (s 66) s.h
theorem q23_10_eq (s : St) : W E 0 c_q23_10 s q23_L3k (exitTo 2 q23_2k xN) (finP [.t 4]) = q23_10k s :=
  (W_seq (k := q23_7k) (fun s => q23_9_eq s)).trans (by kernel_rfl)
noncomputable def q23_11 (v2 v3 v63 v64 v65 : AV) (h : Heap) : OX :=
ob (evBin .lss v65 v64) fun v66 =>
(q23_10 v2 v3 v63 v64 v65 v66 h)
noncomputable def q23_11k (s : St) : OX := q23_11 (s 2) (s 3) (s 63) (s 64) (s 65) s.h
theorem q23_11_eq (s : St) : W E 0 c_q23_11 s q23_L3k (exitTo 2 q23_2k xN) (finP [.t 4]) = q23_11k s :=
  (W_seq (k := q23_10k) (fun s => q23_10_eq s)).trans (by kernel_rfl)
theorem q23_L3_go (v2 v3 v63 v64 v65 : AV) (h : Heap) : q23_L3 v2 v3 v63 v64 v65 h = (q23_11 v2 v3 v63 v64 v65 h) :=
  W_loop.trans ((W_congr _ _ _ (n' := q23_L3k) (fun s => q23_L3_eq s)).trans ((q23_11_eq _).trans (by kernel_rfl)))
theorem q23_12_eq (s : St) : W E 0 c_q23_12 s q23_2k xN (finP [.t 4]) = q23_L3k s :=
  W_block.trans (q23_L3_eq s)
noncomputable def q23_13 (v2 v3 : AV) (h : Heap) : OX :=
ob (evFa 8 v3) fun v62 =>
ob (evLd false 1 v62 h) fun v63 =>
ob (evLen 1 v63 h) fun v64 =>
(q23_L3 v2 v3 v63 v64 (AV.int .i64 0) h)
noncomputable def q23_13k (s : St) : OX := q23_13 (s 2) (s 3) s.h
theorem q23_13_eq (s : St) : W E 0 c_q23_13 s q23_2k xN (finP [.t 4]) = q23_13k s :=
  (W_seq (k := q23_L3k) (fun s => q23_12_eq s)).trans (by kernel_rfl)
theorem q23_14_eq (s : St) : W E 0 c_q23_14 s (finP [.t 4]) xN (finP [.t 4]) = q23_13k s :=
  (W_seq (k := q23_2k) (fun s => q23_2_eq s)).trans (q23_13_eq s)
noncomputable def q23_L15 (v2 v3 v5 v26 v27 : AV) (h : Heap) : OX :=
  W E 0 c_q23_L15 ⟨[(2, v2), (3, v3), (5, v5), (26, v26), (27, v27)], h⟩ q23_13k (exitTo 0 q23_13k xN) (finP [.t 4])
noncomputable def q23_L15k (s : St) : OX := q23_L15 (s 2) (s 3) (s 5) (s 26) (s 27) s.h
theorem q23_L15_eq (s : St) : W E 0 c_q23_L15 s q23_13k (exitTo 0 q23_13k xN) (finP [.t 4]) = q23_L15k s := W_loop_live.trans (by kernel_rfl)
noncomputable def q23_16 (v2 v3 v5 v26 v27 : AV) (h : Heap) : OX :=
ob (evBin .add v27 (AV.int .i64 1)) fun v61 =>
(q23_L15 v2 v3 v5 v26 v61 h)
noncomputable def q23_16k (s : St) : OX := q23_16 (s 2) (s 3) (s 5) (s 26) (s 27) s.h
theorem q23_16_eq (s : St) : W E 0 c_q23_16 s q23_L15k (exitTo 0 q23_13k xN) (finP [.t 4]) = q23_16k s :=
  by kernel_rfl
noncomputable def q23_17 (v2 v3 v5 v7 v8 v26 v27 : AV) (h : Heap) : OX :=
ob (evBin .lss v8 (AV.int .i64 0)) fun v36 =>
gb v36 false (some v8) fun v38 =>
gb v36 false (evFa 0 v2) fun v39 =>
gb v36 false (evLd false 1 v39 h) fun v40 =>
gb v36 false (evLen 1 v40 h) fun v41 =>
gb v36 false (evBin .geq v38 v41) fun v42 =>
ob (evPick v36 (AV.bool true) v42) fun v43 =>
gb v43 false (some v7) fun v45 =>
gb v43 false (evIxa 4 1 v5 v45) fun v46 =>
gb v43 false (evLd false 1 v46 h) fun v47 =>
gb v43 false (evBin .gtr v47 (AV.int .i64 0)) fun v48 =>
gb v43 false (some v48) fun v49 =>
gb v49 true (evFa 0 v2) fun v50 =>
gb v49 true (evLd false 1 v50 h) fun v51 =>
gb v49 true (some v8) fun v52 =>
gb v49 true (evIxs 1 v51 v52) fun v53 =>
gb v49 true (evLd false 1 v53 h) fun v54 =>
gb v49 true (some v7) fun v55 =>
gb v49 true (evIxa 4 1 v5 v55) fun v56 =>
gb v49 true (evLd false 1 v56 h) fun v57 =>
gb v49 true (evBin .neq v54 v57) fun v58 =>
gb v43 false (evPick v49 v58 (AV.bool false)) fun v59 =>
ob (evPick v43 (AV.bool true) v59) fun v60 =>
cnd v60
 ((expo1 h (AV.bool false)))
 ((q23_16 v2 v3 v5 v26 v27 h))
noncomputable def q23_17k (s : St) : OX := q23_17 (s 2) (s 3) (s 5) (s 7) (s 8) (s 26) (s 27) s.h
theorem q23_17_eq (s : St) : W E 0 c_q23_17 s q23_16k (exitTo 1 q23_16k (exitTo 0 q23_13k xN)) (finP [.t 4]) = q23_17k s :=
  by kernel_rfl
noncomputable def q23_18 (v2 v3 v5 v7 v8 v26 v27 : AV) (h : Heap) : OX :=
ob (evIxa 4 1 v5 v7) fun v32 =>
ob (evLd false 1 v32 h) fun v33 =>
ob (evBin .lss v33 (AV.int .i64 0)) fun v34 =>
cnd v34
 ((q23_16 v2 v3 v5 v26 v27 h))
 ((q23_17 v2 v3 v5 v7 v8 v26 v27 h))
noncomputable def q23_18k (s : St) : OX := q23_18 (s 2) (s 3) (s 5) (s 7) (s 8) (s 26) (s 27) s.h
theorem q23_18_eq (s : St) : W E 0 c_q23_18 s q23_16k (exitTo 1 q23_16k (exitTo 0 q23_13k xN)) (finP [.t 4]) = q23_18k s :=
  (W_seq (k := q23_17k) (fun s => q23_17_eq s)).trans (by kernel_rfl)
noncomputable def q23_19 (v2 v3 v5 v26 v27 : AV) (h : Heap) : OX :=
ob (evIxv false 4 1 v26 v27) fun v30 =>
(q23_18 v2 v3 v5 v27 v30 v26 v27 h)
noncomputable def q23_19k (s : St) : OX := q23_19 (s 2) (s 3) (s 5) (s 26) (s 27) s.h
theorem q23_19_eq (s : St) : W E 0 c_q23_19 s q23_16k (exitTo 1 q23_16k (exitTo 0 q23_13k xN)) (finP [.t 4]) = q23_19k s :=
  (W_seq (k := q23_18k) (fun s => q23_18_eq s)).trans (by kernel_rfl)
theorem q23_20_eq (s : St) : W E 0 c_q23_20 s q23_16k (exitTo 0 q23_13k xN) (finP [.t 4]) = q23_19k s :=
  W_block.trans (q23_19_eq s)
theorem q23_21_eq (s : St) : W E 0 c_q23_21 s q23_L15k (exitTo 0 q23_13k xN) (finP [.t 4]) = q23_19k s :=
  (W_seq (k := q23_16k) (fun s => q23_16_eq s)).trans (q23_20_eq s)
noncomputable def q23_22 (v2 v3 v5 v26 v27 v28 : AV) (h : Heap) : OX :=
cnd v28
 ((q23_19 v2 v3 v5 v26 v27 h))
 ((q23_13 v2 v3 h))
noncomputable def q23_22k (s : St) : OX := q23_22 (s 2) (s 3) (s 5) (s 26) (s 27) (s 28) s.h
theorem q23_22_eq (s : St) : W E 0 c_q23_22 s q23_L15k (exitTo 0 q23_13k xN) (finP [.t 4]) = q23_22k s :=
  (W_seq (k := q23_19k) (fun s => q23_21_eq s)).trans (by kernel_rfl)
noncomputable def q23_23 (v2 v3 v5 v26 v27 : AV) (h : Heap) : OX :=
ob (evBin .lss v27 (AV.int .i64 4)) fun v28 =>
(q23_22 v2 v3 v5 v26 v27 v28 h)
noncomputable def q23_23k (s : St) : OX := q23_23 (s 2) (s 3) (s 5) (s 26) (s 27) s.h
theorem q23_23_eq (s : St) : W E 0 c_q23_23 s q23_L15k (exitTo 0 q23_13k xN) (finP [.t 4]) = q23_23k s :=
  (W_seq (k := q23_22k) (fun s => q23_22_eq s)).trans (by kernel_rfl)
theorem q23_L15_go (v2 v3 v5 v26 v27 : AV) (h : Heap) : q23_L15 v2 v3 v5 v26 v27 h = (q23_23 v2 v3 v5 v26 v27 h) :=
  W_loop.trans ((W_congr _ _ _ (n' := q23_L15k) (fun s => q23_L15_eq s)).trans ((q23_23_eq _).trans (by kernel_rfl)))
theorem q23_24_eq (s : St) : W E 0 c_q23_24 s q23_13k xN (finP [.t 4]) = q23_L15k s :=
  W_block.trans (q23_L15_eq s)
noncomputable def q23_25 (v2 v3 v5 : AV) (h : Heap) : OX :=
ob (evFa 1 v3) fun v18 =>
ob (evLd false 1 v18 h) fun v19 =>
ob (evFa 2 v3) fun v20 =>
ob (evLd false 1 v20 h) fun v21 =>
ob (evFa 3 v3) fun v22 =>
ob (evLd false 1 v22 h) fun v23 =>
ob (evFa 4 v3) fun v24 =>
ob (evLd false 1 v24 h) fun v25 =>
ob (evBuild [(.int .i64 0), (.int .i64 0), (.int .i64 0), (.int .i64 0)] [(0, 1, v19), (1, 1, v21), (2, 1, v23), (3, 1, v25)]) fun v26 =>
(q23_L15 v2 v3 v5 v26 (AV.int .i64 0) h)
noncomputable def q23_25k (s : St) : OX := q23_25 (s 2) (s 3) (s 5) s.h
theorem q23_25_eq (s : St) : W E 0 c_q23_25 s q23_13k xN (finP [.t 4]) = q23_25k s :=
  (W_seq (k := q23_L15k) (fun s => q23_24_eq s)).trans (by kernel_rfl)
theorem q23_26_eq (s : St) : W E 0 c_q23_26 s (finP [.t 4]) xN (finP [.t 4]) = q23_25k s :=
  (W_seq (k := q23_13k) (fun s => q23_14_eq s)).trans (q23_25_eq s)
noncomputable def q23_27 (v2 v3 v5 v6 : AV) (h : Heap) : OX :=
ob (evUn .not v6) fun v17 =>
cnd v17
 ((expo1 h (AV.bool false)))
 ((q23_25 v2 v3 v5 h))
noncomputable def q23_27k (s : St) : OX := q23_27 (s 2) (s 3) (s 5) (s 6) s.h
theorem q23_27_eq (s : St) : W E 0 c_q23_27 s (finP [.t 4]) xN (finP [.t 4]) = q23_27k s :=
  (W_seq (k := q23_25k) (fun s => q23_26_eq s)).trans (by kernel_rfl)
noncomputable def q23_28 (v2 v3 : AV) (h : Heap) : OX :=
ob (evLd true 9 v3 h) fun v12 =>
oh (callAny E (callW E) 0 none true 47 [v12] h) fun v13 h3 =>
ob (evExt 0 v13) fun v14 =>
ob (evExt 1 v13) fun v15 =>
oh (newC 0 (some 2) [(.int .i64 0), (.int .i64 0), (.int .i64 0), (.int .i64 0)] h3) fun v5 h4 =>
oh (evSt 4 v5 v14 h4) fun _ h5 =>
(q23_27 v2 v3 v5 v15 h5)
noncomputable def q23_28k (s : St) : OX := q23_28 (s 2) (s 3) s.h
theorem q23_28_eq (s : St) : W E 0 c_q23_28 s (finP [.t 4]) xN (finP [.t 4]) = q23_28k s :=
  (W_seq (k := q23_27k) (fun s => q23_27_eq s)).trans (by kernel_rfl)
noncomputable def q23_29 (v0 v1 : AV) (h : Heap) : OX :=
oh (newC 0 (some 0) (cellsOf v0) h) fun v2 h6 =>
oh (newC 0 (some 1) (cellsOf v1) h6) fun v3 h7 =>
(q23_28 v2 v3 h7)
noncomputable def q23_29k (s : St) : OX := q23_29 (s 0) (s 1) s.h
theorem q23_29_eq (s : St) : W E 0 c_q23_29 s (finP [.t 4]) xN (finP [.t 4]) = q23_29k s :=
  (W_seq (k := q23_28k) (fun s => q23_28_eq s)).trans (by kernel_rfl)
@[simp] theorem pure_63 : E.pure 63 = true := rfl
theorem x_q23 (v0 v1 : AV) : (callW E).p 63 [v0, v1] = q23_29 v0 v1 [⟨0, .dead⟩, ⟨0, .dead⟩, ⟨0, .dead⟩] :=
  (callP_W (cf := c_q23) (by kernel_rfl) rfl).trans ((q23_29_eq _).trans (by kernel_rfl))
noncomputable def q126_1 (v0 : AV) (h : Heap) : OX :=
oh (buildSC 0 (some 0) 1 0 [(.int .i64 0)] [] h) fun v5 h1 =>
oh (evApp 0 (some 1) 1 8 v5 v0 h1) fun v7 h2 =>
(expo1 h2 v7)
noncomputable def q126_1k (s : St) : OX := q126_1 (s 0) s.h
theorem q126_1_eq (s : St) : W E 0 c_q126_1 s (finP [.t 2]) xN (finP [.t 2]) = q126_1k s :=
  by kernel_rfl
noncomputable def q126_2 (v0 : AV) (h : Heap) : OX :=
ob (evEqnB 1 false v0 AV.nils) fun v4 =>
cnd v4
 ((expo1 h AV.nils))
 ((q126_1 v0 h))
noncomputable def q126_2k (s : St) : OX := q126_2 (s 0) s.h
theorem q126_2_eq (s : St) : W E 0 c_q126_2 s (finP [.t 2]) xN (finP [.t 2]) = q126_2k s :=
  (W_seq (k := q126_1k) (fun s => q126_1_eq s)).trans (by kernel_rfl)
noncomputable def q126_3 (v0 : AV) (h : Heap) : OX :=
(q126_2 v0 h)
noncomputable def q126_3k (s : St) : OX := q126_3 (s 0) s.h
theorem q126_3_eq (s : St) : W E 0 c_q126_3 s (finP [.t 2]) xN (finP [.t 2]) = q126_3k s :=
  (W_seq (k := q126_2k) (fun s => q126_2_eq s)).trans (by kernel_rfl)
@[simp] theorem pure_39 : E.pure 39 = true := rfl
theorem x_q126 (v0 : AV) : (callW E).p 39 [v0] = q126_3 v0 [⟨0, .dead⟩, ⟨0, .dead⟩] :=
  (callP_W (cf := c_q126) (by kernel_rfl) rfl).trans ((q126_3_eq _).trans (by kernel_rfl))
noncomputable def q8_1 (h : Heap) : OX :=
(expo1 h (AV.int .i64 0))
noncomputable def q8_1k (s : St) : OX := q8_1 s.h
theorem q8_1_eq (s : St) : W E 0 c_q8_1 s (finP [.t 2]) xN (finP [.t 2]) = q8_1k s :=
  by kernel_rfl
noncomputable def q8_L2 (v0 v3 v4 : AV) (h : Heap) : OX :=
  W E 0 c_q8_L2 ⟨[(0, v0), (3, v3), (4, v4)], h⟩ q8_1k (exitTo 3 q8_1k (exitTo 2 q8_1k xN)) (finP [.t 2])
noncomputable def q8_L2k (s : St) : OX := q8_L2 (s 0) (s 3) (s 4) s.h
theorem q8_L2_eq (s : St) : W E 0 c_q8_L2 s q8_1k (exitTo 3 q8_1k (exitTo 2 q8_1k xN)) (finP [.t 2]) = q8_L2k s := W_loop_live.trans (by kernel_rfl)
noncomputable def q8_3 (v0 v3 v4 : AV) (h : Heap) : OX :=
ob (evBin .add v4 (AV.int .i64 1)) fun v42 =>
(q8_L2 v0 v3 v42 h)
noncomputable def q8_3k (s : St) : OX := q8_3 (s 0) (s 3) (s 4) s.h
theorem q8_3_eq (s : St) : W E 0 c_q8_3 s q8_L2k (exitTo 3 q8_1k (exitTo 2 q8_1k xN)) (finP [.t 2]) = q8_3k s :=
  by kernel_rfl
noncomputable def q8_4 (h : Heap) : OX :=
(expo1 h (AV.int .i64 0))
noncomputable def q8_4k (s : St) : OX := q8_4 s.h
theorem q8_4_eq (s : St) : W E 0 c_q8_4 s q8_3k (exitTo 4 q8_3k (exitTo 3 q8_1k (exitTo 2 q8_1k xN))) (finP [.t 2]) = q8_4k s :=
  by kernel_rfl
noncomputable def q8_5 (v0 v3 v4 : AV) (h : Heap) : OX :=
ob (evBin .add v3 (AV.int .i64 1)) fun v49 =>
ob (evSls v0 (some v49) (some v4)) fun v51 =>
oh (callAny E (callW E) 0 none true 60 [v51, (AV.bool false)] h) fun v52 h1 =>
cnd v52
 (ob (evBin .add v4 (AV.int .i64 1)) fun v54 =>
(expo1 h1 v54))
 ((q8_4 h1))
noncomputable def q8_5k (s : St) : OX := q8_5 (s 0) (s 3) (s 4) s.h
theorem q8_5_eq (s : St) : W E 0 c_q8_5 s q8_3k (exitTo 4 q8_3k (exitTo 3 q8_1k (exitTo 2 q8_1k xN))) (finP [.t 2]) = q8_5k s :=
  (W_seq (k := q8_4k) (fun s => q8_4_eq s)).trans (by kernel_rfl)
noncomputable def q8_6 (v0 v3 v4 v46 : AV) (h : Heap) : OX :=
cnd v46
 ((q8_5 v0 v3 v4 h))
 ((q8_3 v0 v3 v4 h))
noncomputable def q8_6k (s : St) : OX := q8_6 (s 0) (s 3) (s 4) (s 46) s.h
theorem q8_6_eq (s : St) : W E 0 c_q8_6 s q8_3k (exitTo 4 q8_3k (exitTo 3 q8_1k (exitTo 2 q8_1k xN))) (finP [.t 2]) = q8_6k s :=
  (W_cond (q8_5_eq s) rfl).trans (by kernel_rfl)
noncomputable def q8_7 (v0 v3 v4 : AV) (h : Heap) : OX :=
ob (evIxstr v0 v4) fun v45 =>
ob (evBin .eql v45 (AV.int .u8 59)) fun v46 =>
(q8_6 v0 v3 v4 v46 h)
noncomputable def q8_7k (s : St) : OX := q8_7 (s 0) (s 3) (s 4) s.h
theorem q8_7_eq (s : St) : W E 0 c_q8_7 s q8_3k (exitTo 4 q8_3k (exitTo 3 q8_1k (exitTo 2 q8_1k xN))) (finP [.t 2]) = q8_7k s :=
  (W_seq (k := q8_6k) (fun s => q8_6_eq s)).trans (by kernel_rfl)
theorem q8_8_eq (s : St) : W E 0 c_q8_8 s q8_3k (exitTo 3 q8_1k (exitTo 2 q8_1k xN)) (finP [.t 2]) = q8_7k s :=
  W_block.trans (q8_7_eq s)
theorem q8_9_eq (s : St) : W E 0 c_q8_9 s q8_L2k (exitTo 3 q8_1k (exitTo 2 q8_1k xN)) (finP [.t 2]) = q8_7k s :=
  (W_seq (k := q8_3k) (fun s => q8_3_eq s)).trans (q8_8_eq s)
noncomputable def q8_10 (v0 v3 v4 : AV) (h : Heap) : OX :=
ob (evLen 0 v0 h) fun v39 =>
ob (evBin .lss v4 v39) fun v40 =>
cnd v40
 ((q8_7 v0 v3 v4 h))
 ((q8_1 h))
noncomputable def q8_10k (s : St) : OX := q8_10 (s 0) (s 3) (s 4) s.h
theorem q8_10_eq (s : St) : W E 0 c_q8_10 s q8_L2k (exitTo 3 q8_1k (exitTo 2 q8_1k xN)) (finP [.t 2]) = q8_10k s :=
  (W_seq (k := q8_7k) (fun s => q8_9_eq s)).trans (by kernel_rfl)
theorem q8_L2_go (v0 v3 v4 : AV) (h : Heap) : q8_L2 v0 v3 v4 h = (q8_10 v0 v3 v4 h) :=
  W_loop.trans ((W_congr _ _ _ (n' := q8_L2k) (fun s => q8_L2_eq s)).trans ((q8_10_eq _).trans (by kernel_rfl)))
theorem q8_11_eq (s : St) : W E 0 c_q8_11 s q8_1k (exitTo 2 q8_1k xN) (finP [.t 2]) = q8_L2k s :=
  W_block.trans (q8_L2_eq s)
noncomputable def q8_12 (v0 v3 : AV) (h : Heap) : OX :=
ob (evBin .add v3 (AV.int .i64 1)) fun v36 =>
(q8_L2 v0 v3 v36 h)
noncomputable def q8_12k (s : St) : OX := q8_12 (s 0) (s 3) s.h
theorem q8_12_eq (s : St) : W E 0 c_q8_12 s q8_1k (exitTo 2 q8_1k xN) (finP [.t 2]) = q8_12k s :=
  (W_seq (k := q8_L2k) (fun s => q8_11_eq s)).trans (by kernel_rfl)
noncomputable def q8_13 (v0 v3 v33 : AV) (h : Heap) : OX :=
cnd v33
 ((q8_12 v0 v3 h))
 ((q8_1 h))
noncomputable def q8_13k (s : St) : OX := q8_13 (s 0) (s 3) (s 33) s.h
theorem q8_13_eq (s : St) : W E 0 c_q8_13 s q8_1k (exitTo 2 q8_1k xN) (finP [.t 2]) = q8_13k s :=
  (W_cond (q8_12_eq s) rfl).trans (by kernel_rfl)
noncomputable def q8_14 (v0 v3 v27 : AV) (h : Heap) : OX :=
ob (evBin .eql v27 (AV.int .u8 76)) fun v34 =>
(q8_13 v0 v3 v34 h)
noncomputable def q8_14k (s : St) : OX := q8_14 (s 0) (s 3) (s 27) s.h
theorem q8_14_eq (s : St) : W E 0 c_q8_14 s q8_1k (exitTo 2 q8_1k xN) (finP [.t 2]) = q8_14k s :=
  (W_seq (k := q8_13k) (fun s => q8_13_eq s)).trans (by kernel_rfl)
noncomputable def q8_15 (v0 v3 v27 v28 : AV) (h : Heap) : OX :=
cnd v28
 (ob (evBin .add v3 (AV.int .i64 1)) fun v32 =>
(expo1 h v32))
 ((q8_14 v0 v3 v27 h))
noncomputable def q8_15k (s : St) : OX := q8_15 (s 0) (s 3) (s 27) (s 28) s.h
theorem q8_15_eq (s : St) : W E 0 c_q8_15 s q8_1k (exitTo 2 q8_1k xN) (finP [.t 2]) = q8_15k s :=
  (W_cond rfl (q8_14_eq s)).trans (by kernel_rfl)
noncomputable def q8_16 (v0 v3 v27 : AV) (h : Heap) : OX :=
ob (evBin .eql v27 (AV.int .u8 73)) fun v29 =>
cnd v29
 ((q8_15 v0 v3 v27 v29 h))
 (ob (evBin .eql v27 (AV.int .u8 74)) fun v30 =>
(q8_15 v0 v3 v27 v30 h))
noncomputable def q8_16k (s : St) : OX := q8_16 (s 0) (s 3) (s 27) s.h
theorem q8_16_eq (s : St) : W E 0 c_q8_16 s q8_1k (exitTo 2 q8_1k xN) (finP [.t 2]) = q8_16k s :=
  (W_seq (k := q8_15k) (fun s => q8_15_eq s)).trans (by kernel_rfl)
theorem q8_17_eq (s : St) : W E 0 c_q8_17 s q8_1k xN (finP [.t 2]) = q8_16k s :=
  W_block.trans (q8_16_eq s)
noncomputable def q8_18 (v0 v3 : AV) (h : Heap) : OX :=
ob (evIxstr v0 v3) fun v27 =>
(q8_16 v0 v3 v27 h)
noncomputable def q8_18k (s : St) : OX := q8_18 (s 0) (s 3) s.h
theorem q8_18_eq (s : St) : W E 0 c_q8_18 s q8_1k xN (finP [.t 2]) = q8_18k s :=
  (W_seq (k := q8_16k) (fun s => q8_17_eq s)).trans (by kernel_rfl)
theorem q8_19_eq (s : St) : W E 0 c_q8_19 s (finP [.t 2]) xN (finP [.t 2]) = q8_18k s :=
  (W_seq (k := q8_1k) (fun s => q8_1_eq s)).trans (q8_18_eq s)
noncomputable def q8_20 (v0 v3 : AV) (h : Heap) : OX :=
ob (evBin .gtr v3 (AV.int .i64 8)) fun v18 =>
gb v18 false (some v3) fun v20 =>
gb v18 false (some v0) fun v21 =>
gb v18 false (evLen 0 v21 h) fun v22 =>
gb v18 false (evBin .eql v20 v22) fun v23 =>
ob (evPick v18 (AV.bool true) v23) fun v24 =>
cnd v24
 ((expo1 h (AV.int .i64 0)))
 ((q8_18 v0 v3 h))
noncomputable def q8_20k (s : St) : OX := q8_20 (s 0) (s 3) s.h
theorem q8_20_eq (s : St) : W E 0 c_q8_20 s (finP [.t 2]) xN (finP [.t 2]) = q8_20k s :=
  (W_seq (k := q8_18k) (fun s => q8_19_eq s)).trans (by kernel_rfl)
noncomputable def q8_L21 (v0 v3 : AV) (h : Heap) : OX :=
  W E 0 c_q8_L21 ⟨[(0, v0), (3, v3)], h⟩ q8_20k (exitTo 0 q8_20k xN) (finP [.t 2])
noncomputable def q8_L21k (s : St) : OX := q8_L21 (s 0) (s 3) s.h
theorem q8_L21_eq (s : St) : W E 0 c_q8_L21 s q8_20k (exitTo 0 q8_20k xN) (finP [.t 2]) = q8_L21k s := W_loop_live.trans (by kernel_rfl)
noncomputable def q8_22 (v0 v3 : AV) (h : Heap) : OX :=
ob (evBin .add v3 (AV.int .i64 1)) fun v16 =>
(q8_L21 v0 v16 h)
noncomputable def q8_22k (s : St) : OX := q8_22 (s 0) (s 3) s.h
theorem q8_22_eq (s : St) : W E 0 c_q8_22 s q8_L21k (exitTo 0 q8_20k xN) (finP [.t 2]) = q8_22k s :=
  by kernel_rfl
noncomputable def q8_23 (v0 v3 : AV) (h : Heap) : OX :=
ob (evLen 0 v0 h) fun v7 =>
ob (evBin .lss v3 v7) fun v8 =>
gb v8 true (some v0) fun v10 =>
gb v8 true (some v3) fun v11 =>
gb v8 true (evIxstr v10 v11) fun v12 =>
gb v8 true (evBin .eql v12 (AV.int .u8 91)) fun v13 =>
ob (evPick v8 v13 (AV.bool false)) fun v14 =>
cnd v14
 ((q8_22 v0 v3 h))
 ((q8_20 v0 v3 h))
noncomputable def q8_23k (s : St) : OX := q8_23 (s 0) (s 3) s.h
theorem q8_23_eq (s : St) : W E 0 c_q8_23 s q8_L21k (exitTo 0 q8_20k xN) (finP [.t 2]) = q8_23k s :=
  (W_seq (k := q8_22k) (fun s => q8_22_eq s)).trans (by kernel_rfl)
theorem q8_L21_go (v0 v3 : AV) (h : Heap) : q8_L21 v0 v3 h = (q8_23 v0 v3 h) :=
  W_loop.trans ((W_congr _ _ _ (n' := q8_L21k) (fun s => q8_L21_eq s)).trans ((q8_23_eq _).trans (by kernel_rfl)))
theorem q8_24_eq (s : St) : W E 0 c_q8_24 s q8_20k xN (finP [.t 2]) = q8_L21k s :=
  W_block.trans (q8_L21_eq s)
theorem q8_25_eq (s : St) : W E 0 c_q8_25 s (finP [.t 2]) xN (finP [.t 2]) = q8_L21k s :=
  (W_seq (k := q8_20k) (fun s => q8_20_eq s)).trans (q8_24_eq s)
noncomputable def q8_26 (v0 : AV) (h : Heap) : OX :=
(q8_L21 v0 (AV.int .i64 0) h)
noncomputable def q8_26k (s : St) : OX := q8_26 (s 0) s.h
theorem q8_26_eq (s : St) : W E 0 c_q8_26 s (finP [.t 2]) xN (finP [.t 2]) = q8_26k s :=
  (W_seq (k := q8_L21k) (fun s => q8_25_eq s)).trans (by kernel_rfl)
noncomputable def q8_27 (v0 : AV) (h : Heap) : OX :=
(q8_26 v0 h)
noncomputable def q8_27k (s : St) : OX := q8_27 (s 0) s.h
theorem q8_27_eq (s : St) : W E 0 c_q8_27 s (finP [.t 2]) xN (finP [.t 2]) = q8_27k s :=
  (W_seq (k := q8_26k) (fun s => q8_26_eq s)).trans (by kernel_rfl)
@[simp] theorem pure_44 : E.pure 44 = true := rfl
theorem x_q8 (v0 : AV) : (callW E).p 44 [v0] = q8_27 v0 [] :=
  (callP_W (cf := c_q8) (by kernel_rfl) rfl).trans ((q8_27_eq _).trans (by kernel_rfl))
noncomputable def q128_1 (h : Heap) : OX :=
(expo1 h (AV.int .i64 (-1)))
noncomputable def q128_1k (s : St) : OX := q128_1 s.h
theorem q128_1_eq (s : St) : W E 0 c_q128_1 s (finP [.t 4]) xN (finP [.t 4]) = q128_1k s :=
  by kernel_rfl
noncomputable def q128_L2 (v0 v1 v7 v8 : AV) (h : Heap) : OX :=
  W E 0 c_q128_L2 ⟨[(0, v0), (1, v1), (7, v7), (8, v8)], h⟩ q128_1k (exitTo 0 q128_1k xN) (finP [.t 4])
noncomputable def q128_L2k (s : St) : OX := q128_L2 (s 0) (s 1) (s 7) (s 8) s.h
theorem q128_L2_eq (s : St) : W E 0 c_q128_L2 s q128_1k (exitTo 0 q128_1k xN) (finP [.t 4]) = q128_L2k s := W_loop_live.trans (by kernel_rfl)
noncomputable def q128_3 (v0 v1 v7 v8 : AV) (h : Heap) : OX :=
ob (evBin .add v8 (AV.int .i64 1)) fun v18 =>
(q128_L2 v0 v1 v7 v18 h)
noncomputable def q128_3k (s : St) : OX := q128_3 (s 0) (s 1) (s 7) (s 8) s.h
theorem q128_3_eq (s : St) : W E 0 c_q128_3 s q128_L2k (exitTo 0 q128_1k xN) (finP [.t 4]) = q128_3k s :=
  by kernel_rfl
noncomputable def q128_4 (v0 v1 v7 v8 : AV) (h : Heap) : OX :=
ob (evIxs 1 v0 v8) fun v14 =>
ob (evLd false 1 v14 h) fun v15 =>
ob (evBin .eql v1 v15) fun v16 =>
cnd v16
 ((expo1 h v8))
 ((q128_3 v0 v1 v7 v8 h))
noncomputable def q128_4k (s : St) : OX := q128_4 (s 0) (s 1) (s 7) (s 8) s.h
theorem q128_4_eq (s : St) : W E 0 c_q128_4 s q128_L2k (exitTo 0 q128_1k xN) (finP [.t 4]) = q128_4k s :=
  (W_seq (k := q128_3k) (fun s => q128_3_eq s)).trans (by kernel_rfl)
noncomputable def q128_5 (v0 v1 v7 v8 v9 : AV) (h : Heap) : OX :=
cnd v9
 ((q128_4 v0 v1 v7 v8 h))
 ((q128_1 h))
noncomputable def q128_5k (s : St) : OX := q128_5 (s 0) (s 1) (s 7) (s 8) (s 9) s.h
theorem q128_5_eq (s : St) : W E 0 c_q128_5 s q128_L2k (exitTo 0 q128_1k xN) (finP [.t 4]) = q128_5k s :=
  (W_seq (k := q128_4k) (fun s => q128_4_eq s)).trans (by kernel_rfl)
noncomputable def q128_6 (v0 v1 v7 v8 : AV) (h : Heap) : OX :=
ob (evBin .lss v8 v7) fun v9 =>
(q128_5 v0 v1 v7 v8 v9 h)
noncomputable def q128_6k (s : St) : OX := q128_6 (s 0) (s 1) (s 7) (s 8) s.h
theorem q128_6_eq (s : St) : W E 0 c_q128_6 s q128_L2k (exitTo 0 q128_1k xN) (finP [.t 4]) = q128_6k s :=
  (W_seq (k := q128_5k) (fun s => q128_5_eq s)).trans (by kernel_rfl)
theorem q128_L2_go (v0 v1 v7 v8 : AV) (h : Heap) : q128_L2 v0 v1 v7 v8 h = (q128_6 v0 v1 v7 v8 h) :=
  W_loop.trans ((W_congr _ _ _ (n' := q128_L2k) (fun s => q128_L2_eq s)).trans ((q128_6_eq _).trans (by kernel_rfl)))
theorem q128_7_eq (s : St) : W E 0 c_q128_7 s q128_1k xN (finP [.t 4]) = q128_L2k s :=
  W_block.trans (q128_L2_eq s)
noncomputable def q128_8 (v0 v1 : AV) (h : Heap) : OX :=
ob (evLen 1 v0 h) fun v7 =>
(q128_L2 v0 v1 v7 (AV.int .i64 0) h)
noncomputable def q128_8k (s : St) : OX := q128_8 (s 0) (s 1) s.h
theorem q128_8_eq (s : St) : W E 0 c_q128_8 s q128_1k xN (finP [.t 4]) = q128_8k s :=
  (W_seq (k := q128_L2k) (fun s => q128_7_eq s)).trans (by kernel_rfl)
theorem q128_9_eq (s : St) : W E 0 c_q128_9 s (finP [.t 4]) xN (finP [.t 4]) = q128_8k s :=
  (W_seq (k := q128_1k) (fun s => q128_1_eq s)).trans (q128_8_eq s)
noncomputable def q128_10 (v0 v1 : AV) (h : Heap) : OX :=
(q128_8 v0 v1 h)
noncomputable def q128_10k (s : St) : OX := q128_10 (s 0) (s 1) s.h
theorem q128_10_eq (s : St) : W E 0 c_q128_10 s (finP [.t 4]) xN (finP [.t 4]) = q128_10k s :=
  (W_seq (k := q128_8k) (fun s => q128_9_eq s)).trans (by kernel_rfl)
@[simp] theorem pure_45 : E.pure 45 = true := rfl
theorem x_q128 (v0 v1 : AV) : (callW E).p 45 [v0, v1] = q128_10 v0 v1 [] :=
  (callP_W (cf := c_q128) (by kernel_rfl) rfl).trans ((q128_10_eq _).trans (by kernel_rfl))
noncomputable def q21_1 (v1 v2 : AV) (h : Heap) : OX :=
ob (evLd true 9 v1 h) fun v138 =>
oh (callAny E (callW E) 0 none true 51 [v138] h) fun v139 h1 =>
ob (evExt 0 v139) fun v140 =>
ob (evExt 1 v139) fun v141 =>
oh (evSt 4 v2 v140 h1) fun _ h2 =>
(ob (evLd true 4 v2 h2) fun r0 =>
  expo1 h2 (.tup [r0, v141]))
noncomputable def q21_1k (s : St) : OX := q21_1 (s 1) (s 2) s.h
theorem q21_1_eq (s : St) : W E 0 c_q21_1 s (finP [.cell 2 true 4, .t 3]) xN (finP [.cell 2 true 4, .t 3]) = q21_1k s :=
  by kernel_rfl
noncomputable def q21_2 (v1 v2 v134 : AV) (h : Heap) : OX :=
cnd v134
 (ob (evBuild [(.int .i64 0), (.int .i64 0), (.int .i64 0), (.int .i64 0)] [(0, 1, (AV.int .i64 (-1))), (1, 1, (AV.int .i64 (-1))), (2, 1, (AV.int .i64 (-1))), (3, 1, (AV.int .i64 (-1)))]) fun v137 =>
oh (evSt 4 v2 v137 h) fun _ h3 =>
(ob (evLd true 4 v2 h3) fun r0 =>
  expo1 h3 (.tup [r0, (AV.bool true)])))
 ((q21_1 v1 v2 h))
noncomputable def q21_2k (s : St) : OX := q21_2 (s 1) (s 2) (s 134) s.h
theorem q21_2_eq (s : St) : W E 0 c_q21_2 s q21_1k (exitTo 0 q21_1k xN) (finP [.cell 2 true 4, .t 3]) = q21_2k s :=
  by kernel_rfl
noncomputable def q21_3 (v1 v2 v11 : AV) (h : Heap) : OX :=
ob (evBin .eql v11 (AV.int .i64 27)) fun v135 =>
cnd v135
 ((q21_2 v1 v2 v135 h))
 (ob (evBin .eql v11 (AV.int .i64 33)) fun v136 =>
(q21_2 v1 v2 v136 h))
noncomputable def q21_3k (s : St) : OX := q21_3 (s 1) (s 2) (s 11) s.h
theorem q21_3_eq (s : St) : W E 0 c_q21_3 s q21_1k (exitTo 0 q21_1k xN) (finP [.cell 2 true 4, .t 3]) = q21_3k s :=
  (W_seq (k := q21_2k) (fun s => q21_2_eq s)).trans (by kernel_rfl)
noncomputable def q21_4 (v1 v2 v11 v123 : AV) (h : Heap) : OX :=
cnd v123
 (ob (evBuild [(.int .i64 0), (.int .i64 0), (.int .i64 0), (.int .i64 0)] [(0, 1, (AV.int .i64 (-1))), (1, 1, (AV.int .i64 1)), (2, 1, (AV.int .i64 1)), (3, 1, (AV.int .i64 (-1)))]) fun v125 =>
ob (evFa 5 v1) fun v126 =>
ob (evLd false 1 v126 h) fun v127 =>
ob (evBin .geq v127 (AV.int .i64 0)) fun v128 =>
ofp (fgd v128 true (some ([], []))) fun f5 =>
gb v128 true (evFa 5 v1) fun v130 =>
ofp (fgd v128 true (some (ids1 v130, []))) fun f6 =>
gb v128 true (evLd false 1 v130 h) fun v131 =>
ofp (fgd v128 true (some ([], []))) fun f7 =>
gb v128 true (evBin .leq v131 (AV.int .i64 5)) fun v132 =>
ob (evPick v128 v132 (AV.bool false)) fun v133 =>
oh (evSt 4 v2 v125 h) fun _ h4 =>
okK (pairsOk [([], []), ([], []), (ids1 v126, []), ([], []), ([], []), f5, f6, f7, ([], []), ([], ids1 v2), ([], [])] [(6, 9)]) <|
(ob (evLd true 4 v2 h4) fun r0 =>
  expo1 h4 (.tup [r0, v133])))
 ((q21_3 v1 v2 v11 h))
noncomputable def q21_4k (s : St) : OX := q21_4 (s 1) (s 2) (s 11) (s 123) s.h
theorem q21_4_eq (s : St) : W E 0 c_q21_4 s q21_1k (exitTo 0 q21_1k xN) (finP [.cell 2 true 4, .t 3]) = q21_4k s :=
  (W_cond rfl (q21_3_eq s)).trans (by kernel_rfl)
noncomputable def q21_5 (v1 v2 v11 : AV) (h : Heap) : OX :=
ob (evBin .eql v11 (AV.int .i64 28)) fun v124 =>
(q21_4 v1 v2 v11 v124 h)
noncomputable def q21_5k (s : St) : OX := q21_5 (s 1) (s 2) (s 11) s.h
theorem q21_5_eq (s : St) : W E 0 c_q21_5 s q21_1k (exitTo 0 q21_1k xN) (finP [.cell 2 true 4, .t 3]) = q21_5k s :=
  (W_seq (k := q21_4k) (fun s => q21_4_eq s)).trans (by kernel_rfl)
noncomputable def q21_6 (v1 v2 v11 v117 : AV) (h : Heap) : OX :=
cnd v117
 (ob (evBuild [(.int .i64 0), (.int .i64 0), (.int .i64 0), (.int .i64 0)] [(0, 1, (AV.int .i64 3)), (1, 1, (AV.int .i64 1)), (2, 1, (AV.int .i64 (-1))), (3, 1, (AV.int .i64 (-1)))]) fun v119 =>
ob (evFa 7 v1) fun v120 =>
ob (evLd false 1 v120 h) fun v121 =>
oh (callAny E (callW E) 0 none true 37 [v121] h) fun v122 h5 =>
oh (evSt 4 v2 v119 h5) fun _ h6 =>
(ob (evLd true 4 v2 h6) fun r0 =>
  expo1 h6 (.tup [r0, v122])))
 ((q21_5 v1 v2 v11 h))
noncomputable def q21_6k (s : St) : OX := q21_6 (s 1) (s 2) (s 11) (s 117) s.h
theorem q21_6_eq (s : St) : W E 0 c_q21_6 s q21_1k (exitTo 0 q21_1k xN) (finP [.cell 2 true 4, .t 3]) = q21_6k s :=
  (W_cond rfl (q21_5_eq s)).trans (by kernel_rfl)
noncomputable def q21_7 (v1 v2 v11 : AV) (h : Heap) : OX :=
ob (evBin .eql v11 (AV.int .i64 21)) fun v118 =>
(q21_6 v1 v2 v11 v118 h)
noncomputable def q21_7k (s : St) : OX := q21_7 (s 1) (s 2) (s 11) s.h
theorem q21_7_eq (s : St) : W E 0 c_q21_7 s q21_1k (exitTo 0 q21_1k xN) (finP [.cell 2 true 4, .t 3]) = q21_7k s :=
  (W_seq (k := q21_6k) (fun s => q21_6_eq s)).trans (by kernel_rfl)
noncomputable def q21_8 (v1 v2 v11 v114 : AV) (h : Heap) : OX :=
cnd v114
 (ob (evBuild [(.int .i64 0), (.int .i64 0), (.int .i64 0), (.int .i64 0)] [(0, 1, (AV.int .i64 (-1))), (1, 1, (AV.int .i64 0)), (2, 1, (AV.int .i64 (-1))), (3, 1, (AV.int .i64 (-1)))]) fun v116 =>
oh (evSt 4 v2 v116 h) fun _ h7 =>
(ob (evLd true 4 v2 h7) fun r0 =>
  expo1 h7 (.tup [r0, (AV.bool true)])))
 ((q21_7 v1 v2 v11 h))
noncomputable def q21_8k (s : St) : OX := q21_8 (s 1) (s 2) (s 11) (s 114) s.h
theorem q21_8_eq (s : St) : W E 0 c_q21_8 s q21_1k (exitTo 0 q21_1k xN) (finP [.cell 2 true 4, .t 3]) = q21_8k s :=
  (W_cond rfl (q21_7_eq s)).trans (by kernel_rfl)
noncomputable def q21_9 (v1 v2 v11 : AV) (h : Heap) : OX :=
ob (evBin .eql v11 (AV.int .i64 19)) fun v115 =>
(q21_8 v1 v2 v11 v115 h)
noncomputable def q21_9k (s : St) : OX := q21_9 (s 1) (s 2) (s 11) s.h
theorem q21_9_eq (s : St) : W E 0 c_q21_9 s q21_1k (exitTo 0 q21_1k xN) (finP [.cell 2 true 4, .t 3]) = q21_9k s :=
  (W_seq (k := q21_8k) (fun s => q21_8_eq s)).trans (by kernel_rfl)
noncomputable def q21_10 (v1 v2 v11 v108 : AV) (h : Heap) : OX :=
cnd v108
 (ob (evBuild [(.int .i64 0), (.int .i64 0), (.int .i64 0), (.int .i64 0)] [(0, 1, (AV.int .i64 (-1))), (1, 1, (AV.int .i64 3)), (2, 1, (AV.int .i64 0)), (3, 1, (AV.int .i64 (-1)))]) fun v110 =>
ob (evFa 5 v1) fun v111 =>
ob (evLd false 1 v111 h) fun v112 =>
ob (evBin .geq v112 (AV.int .i64 0)) fun v113 =>
oh (evSt 4 v2 v110 h) fun _ h8 =>
okK (pairsOk [([], []), ([], []), (ids1 v111, []), ([], []), ([], ids1 v2), ([], [])] [(2, 4)]) <|
(ob (evLd true 4 v2 h8) fun r0 =>
  expo1 h8 (.tup [r0, v113])))
 ((q21_9 v1 v2 v11 h))
noncomputable def q21_10k (s : St) : OX := q21_10 (s 1) (s 2) (s 11) (s 108) s.h
theorem q21_10_eq (s : St) : W E 0 c_q21_10 s q21_1k (exitTo 0 q21_1k xN) (finP [.cell 2 true 4, .t 3]) = q21_10k s :=
  (W_cond rfl (q21_9_eq s)).trans (by kernel_rfl)
noncomputable def q21_11 (v1 v2 v11 : AV) (h : Heap) : OX :=
ob (evBin .eql v11 (AV.int .i64 17)) fun v109 =>
(q21_10 v1 v2 v11 v109 h)
noncomputable def q21_11k (s : St) : OX := q21_11 (s 1) (s 2) (s 11) s.h
theorem q21_11_eq (s : St) : W E 0 c_q21_11 s q21_1k (exitTo 0 q21_1k xN) (finP [.cell 2 true 4, .t 3]) = q21_11k s :=
  (W_seq (k := q21_10k) (fun s => q21_10_eq s)).trans (by kernel_rfl)
noncomputable def q21_12 (v1 v2 v11 v102 : AV) (h : Heap) : OX :=
cnd v102
 (ob (evBuild [(.int .i64 0), (.int .i64 0), (.int .i64 0), (.int .i64 0)] [(0, 1, (AV.int .i64 0)), (1, 1, (AV.int .i64 3)), (2, 1, (AV.int .i64 (-1))), (3, 1, (AV.int .i64 (-1)))]) fun v104 =>
ob (evFa 5 v1) fun v105 =>
ob (evLd false 1 v105 h) fun v106 =>
ob (evBin .geq v106 (AV.int .i64 0)) fun v107 =>
oh (evSt 4 v2 v104 h) fun _ h9 =>
okK (pairsOk [([], []), ([], []), (ids1 v105, []), ([], []), ([], ids1 v2), ([], [])] [(2, 4)]) <|
(ob (evLd true 4 v2 h9) fun r0 =>
  expo1 h9 (.tup [r0, v107])))
 ((q21_11 v1 v2 v11 h))
noncomputable def q21_12k (s : St) : OX := q21_12 (s 1) (s 2) (s 11) (s 102) s.h
theorem q21_12_eq (s : St) : W E 0 c_q21_12 s q21_1k (exitTo 0 q21_1k xN) (finP [.cell 2 true 4, .t 3]) = q21_12k s :=
  (W_cond rfl (q21_11_eq s)).trans (by kernel_rfl)
noncomputable def q21_13 (v1 v2 v11 : AV) (h : Heap) : OX :=
ob (evBin .eql v11 (AV.int .i64 16)) fun v103 =>
(q21_12 v1 v2 v11 v103 h)
noncomputable def q21_13k (s : St) : OX := q21_13 (s 1) (s 2) (s 11) s.h
theorem q21_13_eq (s : St) : W E 0 c_q21_13 s q21_1k (exitTo 0 q21_1k xN) (finP [.cell 2 true 4, .t 3]) = q21_13k s :=
  (W_seq (k := q21_12k) (fun s => q21_12_eq s)).trans (by kernel_rfl)
noncomputable def q21_14 (v1 v2 v11 v99 : AV) (h : Heap) : OX :=
cnd v99
 (ob (evBuild [(.int .i64 0), (.int .i64 0), (.int .i64 0), (.int .i64 0)] [(0, 1, (AV.int .i64 1)), (1, 1, (AV.int .i64 3)), (2, 1, (AV.int .i64 (-1))), (3, 1, (AV.int .i64 (-1)))]) fun v101 =>
oh (evSt 4 v2 v101 h) fun _ h10 =>
(ob (evLd true 4 v2 h10) fun r0 =>
  expo1 h10 (.tup [r0, (AV.bool true)])))
 ((q21_13 v1 v2 v11 h))
noncomputable def q21_14k (s : St) : OX := q21_14 (s 1) (s 2) (s 11) (s 99) s.h
theorem q21_14_eq (s : St) : W E 0 c_q21_14 s q21_1k (exitTo 0 q21_1k xN) (finP [.cell 2 true 4, .t 3]) = q21_14k s :=
  (W_cond rfl (q21_13_eq s)).trans (by kernel_rfl)
noncomputable def q21_15 (v1 v2 v11 : AV) (h : Heap) : OX :=
ob (evBin .eql v11 (AV.int .i64 15)) fun v100 =>
(q21_14 v1 v2 v11 v100 h)
noncomputable def q21_15k (s : St) : OX := q21_15 (s 1) (s 2) (s 11) s.h
theorem q21_15_eq (s : St) : W E 0 c_q21_15 s q21_1k (exitTo 0 q21_1k xN) (finP [.cell 2 true 4, .t 3]) = q21_15k s :=
  (W_seq (k := q21_14k) (fun s => q21_14_eq s)).trans (by kernel_rfl)
noncomputable def q21_16 (v1 v2 v11 v96 : AV) (h : Heap) : OX :=
cnd v96
 (ob (evBuild [(.int .i64 0), (.int .i64 0), (.int .i64 0), (.int .i64 0)] [(0, 1, (AV.int .i64 (-1))), (1, 1, (AV.int .i64 3)), (2, 1, (AV.int .i64 1)), (3, 1, (AV.int .i64 0))]) fun v98 =>
oh (evSt 4 v2 v98 h) fun _ h11 =>
(ob (evLd true 4 v2 h11) fun r0 =>
  expo1 h11 (.tup [r0, (AV.bool true)])))
 ((q21_15 v1 v2 v11 h))
noncomputable def q21_16k (s : St) : OX := q21_16 (s 1) (s 2) (s 11) (s 96) s.h
theorem q21_16_eq (s : St) : W E 0 c_q21_16 s q21_1k (exitTo 0 q21_1k xN) (finP [.cell 2 true 4, .t 3]) = q21_16k s :=
  (W_cond rfl (q21_15_eq s)).trans (by kernel_rfl)
noncomputable def q21_17 (v1 v2 v11 : AV) (h : Heap) : OX :=
ob (evBin .eql v11 (AV.int .i64 14)) fun v97 =>
(q21_16 v1 v2 v11 v97 h)
noncomputable def q21_17k (s : St) : OX := q21_17 (s 1) (s 2) (s 11) s.h
theorem q21_17_eq (s : St) : W E 0 c_q21_17 s q21_1k (exitTo 0 q21_1k xN) (finP [.cell 2 true 4, .t 3]) = q21_17k s :=
  (W_seq (k := q21_16k) (fun s => q21_16_eq s)).trans (by kernel_rfl)
noncomputable def q21_18 (v1 v2 v11 v93 : AV) (h : Heap) : OX :=
cnd v93
 (ob (evBuild [(.int .i64 0), (.int .i64 0), (.int .i64 0), (.int .i64 0)] [(0, 1, (AV.int .i64 0)), (1, 1, (AV.int .i64 3)), (2, 1, (AV.int .i64 1)), (3, 1, (AV.int .i64 (-1)))]) fun v95 =>
oh (evSt 4 v2 v95 h) fun _ h12 =>
(ob (evLd true 4 v2 h12) fun r0 =>
  expo1 h12 (.tup [r0, (AV.bool true)])))
 ((q21_17 v1 v2 v11 h))
noncomputable def q21_18k (s : St) : OX := q21_18 (s 1) (s 2) (s 11) (s 93) s.h
theorem q21_18_eq (s : St) : W E 0 c_q21_18 s q21_1k (exitTo 0 q21_1k xN) (finP [.cell 2 true 4, .t 3]) = q21_18k s :=
  (W_cond rfl (q21_17_eq s)).trans (by kernel_rfl)
noncomputable def q21_19 (v1 v2 v11 : AV) (h : Heap) : OX :=
ob (evBin .eql v11 (AV.int .i64 13)) fun v94 =>
(q21_18 v1 v2 v11 v94 h)
noncomputable def q21_19k (s : St) : OX := q21_19 (s 1) (s 2) (s 11) s.h
theorem q21_19_eq (s : St) : W E 0 c_q21_19 s q21_1k (exitTo 0 q21_1k xN) (finP [.cell 2 true 4, .t 3]) = q21_19k s :=
  (W_seq (k := q21_18k) (fun s => q21_18_eq s)).trans (by kernel_rfl)
noncomputable def q21_20 (v1 v2 v11 v90 : AV) (h : Heap) : OX :=
cnd v90
 (ob (evBuild [(.int .i64 0), (.int .i64 0), (.int .i64 0), (.int .i64 0)] [(0, 1, (AV.int .i64 (-1))), (1, 1, (AV.int .i64 3)), (2, 1, (AV.int .i64 3)), (3, 1, (AV.int .i64 (-1)))]) fun v92 =>
oh (evSt 4 v2 v92 h) fun _ h13 =>
(ob (evLd true 4 v2 h13) fun r0 =>
  expo1 h13 (.tup [r0, (AV.bool true)])))
 ((q21_19 v1 v2 v11 h))
noncomputable def q21_20k (s : St) : OX := q21_20 (s 1) (s 2) (s 11) (s 90) s.h
theorem q21_20_eq (s : St) : W E 0 c_q21_20 s q21_1k (exitTo 0 q21_1k xN) (finP [.cell 2 true 4, .t 3]) = q21_20k s :=
  (W_cond rfl (q21_19_eq s)).trans (by kernel_rfl)
noncomputable def q21_21 (v1 v2 v11 : AV) (h : Heap) : OX :=
ob (evBin .eql v11 (AV.int .i64 11)) fun v91 =>
(q21_20 v1 v2 v11 v91 h)
noncomputable def q21_21k (s : St) : OX := q21_21 (s 1) (s 2) (s 11) s.h
theorem q21_21_eq (s : St) : W E 0 c_q21_21 s q21_1k (exitTo 0 q21_1k xN) (finP [.cell 2 true 4, .t 3]) = q21_21k s :=
  (W_seq (k := q21_20k) (fun s => q21_20_eq s)).trans (by kernel_rfl)
noncomputable def q21_22 (v1 v2 v11 v87 : AV) (h : Heap) : OX :=
cnd v87
 (ob (evBuild [(.int .i64 0), (.int .i64 0), (.int .i64 0), (.int .i64 0)] [(0, 1, (AV.int .i64 (-1))), (1, 1, (AV.int .i64 1)), (2, 1, (AV.int .i64 (-1))), (3, 1, (AV.int .i64 (-1)))]) fun v89 =>
oh (evSt 4 v2 v89 h) fun _ h14 =>
(ob (evLd true 4 v2 h14) fun r0 =>
  expo1 h14 (.tup [r0, (AV.bool true)])))
 ((q21_21 v1 v2 v11 h))
noncomputable def q21_22k (s : St) : OX := q21_22 (s 1) (s 2) (s 11) (s 87) s.h
theorem q21_22_eq (s : St) : W E 0 c_q21_22 s q21_1k (exitTo 0 q21_1k xN) (finP [.cell 2 true 4, .t 3]) = q21_22k s :=
  (W_cond rfl (q21_21_eq s)).trans (by kernel_rfl)
noncomputable def q21_23 (v1 v2 v11 : AV) (h : Heap) : OX :=
ob (evBin .eql v11 (AV.int .i64 10)) fun v88 =>
(q21_22 v1 v2 v11 v88 h)
noncomputable def q21_23k (s : St) : OX := q21_23 (s 1) (s 2) (s 11) s.h
theorem q21_23_eq (s : St) : W E 0 c_q21_23 s q21_1k (exitTo 0 q21_1k xN) (finP [.cell 2 true 4, .t 3]) = q21_23k s :=
  (W_seq (k := q21_22k) (fun s => q21_22_eq s)).trans (by kernel_rfl)
noncomputable def q21_24 (v1 v2 v11 v84 : AV) (h : Heap) : OX :=
cnd v84
 (ob (evBuild [(.int .i64 0), (.int .i64 0), (.int .i64 0), (.int .i64 0)] [(0, 1, (AV.int .i64 (-1))), (1, 1, (AV.int .i64 3)), (2, 1, (AV.int .i64 1)), (3, 1, (AV.int .i64 (-1)))]) fun v86 =>
oh (evSt 4 v2 v86 h) fun _ h15 =>
(ob (evLd true 4 v2 h15) fun r0 =>
  expo1 h15 (.tup [r0, (AV.bool true)])))
 ((q21_23 v1 v2 v11 h))
noncomputable def q21_24k (s : St) : OX := q21_24 (s 1) (s 2) (s 11) (s 84) s.h
theorem q21_24_eq (s : St) : W E 0 c_q21_24 s q21_1k (exitTo 0 q21_1k xN) (finP [.cell 2 true 4, .t 3]) = q21_24k s :=
  (W_cond rfl (q21_23_eq s)).trans (by kernel_rfl)
noncomputable def q21_25 (v1 v2 v11 : AV) (h : Heap) : OX :=
ob (evBin .eql v11 (AV.int .i64 9)) fun v85 =>
(q21_24 v1 v2 v11 v85 h)
noncomputable def q21_25k (s : St) : OX := q21_25 (s 1) (s 2) (s 11) s.h
theorem q21_25_eq (s : St) : W E 0 c_q21_25 s q21_1k (exitTo 0 q21_1k xN) (finP [.cell 2 true 4, .t 3]) = q21_25k s :=
  (W_seq (k := q21_24k) (fun s => q21_24_eq s)).trans (by kernel_rfl)
noncomputable def q21_26 (v1 v2 v11 v78 : AV) (h : Heap) : OX :=
cnd v78
 (ob (evBuild [(.int .i64 0), (.int .i64 0), (.int .i64 0), (.int .i64 0)] [(0, 1, (AV.int .i64 1)), (1, 1, (AV.int .i64 3)), (2, 1, (AV.int .i64 (-1))), (3, 1, (AV.int .i64 (-1)))]) fun v80 =>
ob (evFa 7 v1) fun v81 =>
ob (evLd false 1 v81 h) fun v82 =>
oh (callAny E (callW E) 0 none true 37 [v82] h) fun v83 h16 =>
oh (evSt 4 v2 v80 h16) fun _ h17 =>
(ob (evLd true 4 v2 h17) fun r0 =>
  expo1 h17 (.tup [r0, v83])))
 ((q21_25 v1 v2 v11 h))
noncomputable def q21_26k (s : St) : OX := q21_26 (s 1) (s 2) (s 11) (s 78) s.h
theorem q21_26_eq (s : St) : W E 0 c_q21_26 s q21_1k (exitTo 0 q21_1k xN) (finP [.cell 2 true 4, .t 3]) = q21_26k s :=
  (W_cond rfl (q21_25_eq s)).trans (by kernel_rfl)
noncomputable def q21_27 (v1 v2 v11 : AV) (h : Heap) : OX :=
ob (evBin .eql v11 (AV.int .i64 22)) fun v79 =>
(q21_26 v1 v2 v11 v79 h)
noncomputable def q21_27k (s : St) : OX := q21_27 (s 1) (s 2) (s 11) s.h
theorem q21_27_eq (s : St) : W E 0 c_q21_27 s q21_1k (exitTo 0 q21_1k xN) (finP [.cell 2 true 4, .t 3]) = q21_27k s :=
  (W_seq (k := q21_26k) (fun s => q21_26_eq s)).trans (by kernel_rfl)
noncomputable def q21_28 (v1 v2 v11 v72 : AV) (h : Heap) : OX :=
cnd v72
 (ob (evBuild [(.int .i64 0), (.int .i64 0), (.int .i64 0), (.int .i64 0)] [(0, 1, (AV.int .i64 (-1))), (1, 1, (AV.int .i64 3)), (2, 1, (AV.int .i64 (-1))), (3, 1, (AV.int .i64 (-1)))]) fun v74 =>
ob (evFa 7 v1) fun v75 =>
ob (evLd false 1 v75 h) fun v76 =>
oh (callAny E (callW E) 0 none true 37 [v76] h) fun v77 h18 =>
oh (evSt 4 v2 v74 h18) fun _ h19 =>
(ob (evLd true 4 v2 h19) fun r0 =>
  expo1 h19 (.tup [r0, v77])))
 ((q21_27 v1 v2 v11 h))
noncomputable def q21_28k (s : St) : OX := q21_28 (s 1) (s 2) (s 11) (s 72) s.h
theorem q21_28_eq (s : St) : W E 0 c_q21_28 s q21_1k (exitTo 0 q21_1k xN) (finP [.cell 2 true 4, .t 3]) = q21_28k s :=
  (W_cond rfl (q21_27_eq s)).trans (by kernel_rfl)
noncomputable def q21_29 (v1 v2 v11 : AV) (h : Heap) : OX :=
ob (evBin .eql v11 (AV.int .i64 12)) fun v73 =>
(q21_28 v1 v2 v11 v73 h)
noncomputable def q21_29k (s : St) : OX := q21_29 (s 1) (s 2) (s 11) s.h
theorem q21_29_eq (s : St) : W E 0 c_q21_29 s q21_1k (exitTo 0 q21_1k xN) (finP [.cell 2 true 4, .t 3]) = q21_29k s :=
  (W_seq (k := q21_28k) (fun s => q21_28_eq s)).trans (by kernel_rfl)
noncomputable def q21_30 (v1 v2 v11 v68 : AV) (h : Heap) : OX :=
cnd v68
 (ob (evBuild [(.int .i64 0), (.int .i64 0), (.int .i64 0), (.int .i64 0)] [(0, 1, (AV.int .i64 (-1))), (1, 1, (AV.int .i64 3)), (2, 1, (AV.int .i64 (-1))), (3, 1, (AV.int .i64 (-1)))]) fun v71 =>
oh (evSt 4 v2 v71 h) fun _ h20 =>
(ob (evLd true 4 v2 h20) fun r0 =>
  expo1 h20 (.tup [r0, (AV.bool true)])))
 ((q21_29 v1 v2 v11 h))
noncomputable def q21_30k (s : St) : OX := q21_30 (s 1) (s 2) (s 11) (s 68) s.h
theorem q21_30_eq (s : St) : W E 0 c_q21_30 s q21_1k (exitTo 0 q21_1k xN) (finP [.cell 2 true 4, .t 3]) = q21_30k s :=
  (W_cond rfl (q21_29_eq s)).trans (by kernel_rfl)
noncomputable def q21_31 (v1 v2 v11 : AV) (h : Heap) : OX :=
ob (evBin .eql v11 (AV.int .i64 8)) fun v69 =>
cnd v69
 ((q21_30 v1 v2 v11 v69 h))
 (ob (evBin .eql v11 (AV.int .i64 31)) fun v70 =>
(q21_30 v1 v2 v11 v70 h))
noncomputable def q21_31k (s : St) : OX := q21_31 (s 1) (s 2) (s 11) s.h
theorem q21_31_eq (s : St) : W E 0 c_q21_31 s q21_1k (exitTo 0 q21_1k xN) (finP [.cell 2 true 4, .t 3]) = q21_31k s :=
  (W_seq (k := q21_30k) (fun s => q21_30_eq s)).trans (by kernel_rfl)
noncomputable def q21_32 (v1 v2 v11 v65 : AV) (h : Heap) : OX :=
cnd v65
 (ob (evBuild [(.int .i64 0), (.int .i64 0), (.int .i64 0), (.int .i64 0)] [(0, 1, (AV.int .i64 (-1))), (1, 1, (AV.int .i64 0)), (2, 1, (AV.int .i64 (-1))), (3, 1, (AV.int .i64 (-1)))]) fun v67 =>
oh (evSt 4 v2 v67 h) fun _ h21 =>
(ob (evLd true 4 v2 h21) fun r0 =>
  expo1 h21 (.tup [r0, (AV.bool true)])))
 ((q21_31 v1 v2 v11 h))
noncomputable def q21_32k (s : St) : OX := q21_32 (s 1) (s 2) (s 11) (s 65) s.h
theorem q21_32_eq (s : St) : W E 0 c_q21_32 s q21_1k (exitTo 0 q21_1k xN) (finP [.cell 2 true 4, .t 3]) = q21_32k s :=
  (W_cond rfl (q21_31_eq s)).trans (by kernel_rfl)
noncomputable def q21_33 (v1 v2 v11 : AV) (h : Heap) : OX :=
ob (evBin .eql v11 (AV.int .i64 7)) fun v66 =>
(q21_32 v1 v2 v11 v66 h)
noncomputable def q21_33k (s : St) : OX := q21_33 (s 1) (s 2) (s 11) s.h
theorem q21_33_eq (s : St) : W E 0 c_q21_33 s q21_1k (exitTo 0 q21_1k xN) (finP [.cell 2 true 4, .t 3]) = q21_33k s :=
  (W_seq (k := q21_32k) (fun s => q21_32_eq s)).trans (by kernel_rfl)
noncomputable def q21_34 (v1 v2 v11 v47 : AV) (h : Heap) : OX :=
cnd v47
 (ob (evFa 5 v1) fun v50 =>
ob (evLd false 1 v50 h) fun v51 =>
oh (callAny E (callW E) 0 none true 50 [v51] h) fun v52 h22 =>
ob (evExt 0 v52) fun v53 =>
ob (evExt 1 v52) fun v54 =>
ob (evExt 2 v52) fun v55 =>
ob (evBuild [(.int .i64 0), (.int .i64 0), (.int .i64 0), (.int .i64 0)] [(0, 1, v55), (1, 1, v53), (2, 1, (AV.int .i64 (-1))), (3, 1, (AV.int .i64 (-1)))]) fun v58 =>
ob (evBin .neq v53 (AV.int .i64 0)) fun v60 =>
gb v60 true (some v54) fun v62 =>
gb v60 true (evBin .eql v62 (AV.int .i64 0)) fun v63 =>
ob (evPick v60 v63 (AV.bool false)) fun v64 =>
oh (evSt 4 v2 v58 h22) fun _ h23 =>
(ob (evLd true 4 v2 h23) fun r0 =>
  expo1 h23 (.tup [r0, v64])))
 ((q21_33 v1 v2 v11 h))
noncomputable def q21_34k (s : St) : OX := q21_34 (s 1) (s 2) (s 11) (s 47) s.h
theorem q21_34_eq (s : St) : W E 0 c_q21_34 s q21_1k (exitTo 0 q21_1k xN) (finP [.cell 2 true 4, .t 3]) = q21_34k s :=
  (W_cond rfl (q21_33_eq s)).trans (by kernel_rfl)
noncomputable def q21_35 (v1 v2 v11 : AV) (h : Heap) : OX :=
ob (evBin .eql v11 (AV.int .i64 6)) fun v48 =>
(q21_34 v1 v2 v11 v48 h)
noncomputable def q21_35k (s : St) : OX := q21_35 (s 1) (s 2) (s 11) s.h
theorem q21_35_eq (s : St) : W E 0 c_q21_35 s q21_1k (exitTo 0 q21_1k xN) (finP [.cell 2 true 4, .t 3]) = q21_35k s :=
  (W_seq (k := q21_34k) (fun s => q21_34_eq s)).trans (by kernel_rfl)
noncomputable def q21_36 (v1 v2 v11 v25 : AV) (h : Heap) : OX :=
cnd v25
 (ob (evFa 5 v1) fun v28 =>
ob (evLd false 1 v28 h) fun v29 =>
oh (callAny E (callW E) 0 none true 50 [v29] h) fun v30 h24 =>
ob (evExt 0 v30) fun v31 =>
ob (evExt 1 v30) fun v32 =>
ob (evExt 2 v30) fun v33 =>
ob (evBuild [(.int .i64 0), (.int .i64 0), (.int .i64 0), (.int .i64 0)] [(0, 1, v33), (1, 1, v31), (2, 1, v32), (3, 1, (AV.int .i64 (-1)))]) fun v37 =>
ob (evFa 5 v1) fun v38 =>
ob (evLd false 1 v38 h24) fun v39 =>
ob (evFa 5 v1) fun v40 =>
ob (evLd false 1 v40 h24) fun v41 =>
ob (evBin .eql v39 v41) fun v42 =>
gb v42 true (some v32) fun v44 =>
gb v42 true (evBin .neq v44 (AV.int .i64 0)) fun v45 =>
ob (evPick v42 v45 (AV.bool false)) fun v46 =>
oh (evSt 4 v2 v37 h24) fun _ h25 =>
(ob (evLd true 4 v2 h25) fun r0 =>
  expo1 h25 (.tup [r0, v46])))
 ((q21_35 v1 v2 v11 h))
noncomputable def q21_36k (s : St) : OX := q21_36 (s 1) (s 2) (s 11) (s 25) s.h
theorem q21_36_eq (s : St) : W E 0 c_q21_36 s q21_1k (exitTo 0 q21_1k xN) (finP [.cell 2 true 4, .t 3]) = q21_36k s :=
  (W_cond rfl (q21_35_eq s)).trans (by kernel_rfl)
noncomputable def q21_37 (v1 v2 v11 : AV) (h : Heap) : OX :=
ob (evBin .eql v11 (AV.int .i64 5)) fun v26 =>
(q21_36 v1 v2 v11 v26 h)
noncomputable def q21_37k (s : St) : OX := q21_37 (s 1) (s 2) (s 11) s.h
theorem q21_37_eq (s : St) : W E 0 c_q21_37 s q21_1k (exitTo 0 q21_1k xN) (finP [.cell 2 true 4, .t 3]) = q21_37k s :=
  (W_seq (k := q21_36k) (fun s => q21_36_eq s)).trans (by kernel_rfl)
noncomputable def q21_38 (v1 v2 v11 v22 : AV) (h : Heap) : OX :=
cnd v22
 (ob (evBuild [(.int .i64 0), (.int .i64 0), (.int .i64 0), (.int .i64 0)] [(0, 1, (AV.int .i64 0)), (1, 1, (AV.int .i64 0)), (2, 1, (AV.int .i64 (-1))), (3, 1, (AV.int .i64 (-1)))]) fun v24 =>
oh (evSt 4 v2 v24 h) fun _ h26 =>
(ob (evLd true 4 v2 h26) fun r0 =>
  expo1 h26 (.tup [r0, (AV.bool true)])))
 ((q21_37 v1 v2 v11 h))
noncomputable def q21_38k (s : St) : OX := q21_38 (s 1) (s 2) (s 11) (s 22) s.h
theorem q21_38_eq (s : St) : W E 0 c_q21_38 s q21_1k (exitTo 0 q21_1k xN) (finP [.cell 2 true 4, .t 3]) = q21_38k s :=
  (W_cond rfl (q21_37_eq s)).trans (by kernel_rfl)
noncomputable def q21_39 (v1 v2 v11 : AV) (h : Heap) : OX :=
ob (evBin .eql v11 (AV.int .i64 4)) fun v23 =>
(q21_38 v1 v2 v11 v23 h)
noncomputable def q21_39k (s : St) : OX := q21_39 (s 1) (s 2) (s 11) s.h
theorem q21_39_eq (s : St) : W E 0 c_q21_39 s q21_1k (exitTo 0 q21_1k xN) (finP [.cell 2 true 4, .t 3]) = q21_39k s :=
  (W_seq (k := q21_38k) (fun s => q21_38_eq s)).trans (by kernel_rfl)
noncomputable def q21_40 (v1 v2 v11 v16 : AV) (h : Heap) : OX :=
cnd v16
 (ob (evBuild [(.int .i64 0), (.int .i64 0), (.int .i64 0), (.int .i64 0)] [(0, 1, (AV.int .i64 3)), (1, 1, (AV.int .i64 (-1))), (2, 1, (AV.int .i64 (-1))), (3, 1, (AV.int .i64 (-1)))]) fun v21 =>
oh (evSt 4 v2 v21 h) fun _ h27 =>
(ob (evLd true 4 v2 h27) fun r0 =>
  expo1 h27 (.tup [r0, (AV.bool true)])))
 ((q21_39 v1 v2 v11 h))
noncomputable def q21_40k (s : St) : OX := q21_40 (s 1) (s 2) (s 11) (s 16) s.h
theorem q21_40_eq (s : St) : W E 0 c_q21_40 s q21_1k (exitTo 0 q21_1k xN) (finP [.cell 2 true 4, .t 3]) = q21_40k s :=
  (W_cond rfl (q21_39_eq s)).trans (by kernel_rfl)
noncomputable def q21_41 (v1 v2 v11 : AV) (h : Heap) : OX :=
ob (evBin .eql v11 (AV.int .i64 2)) fun v17 =>
cnd v17
 ((q21_40 v1 v2 v11 v17 h))
 (ob (evBin .eql v11 (AV.int .i64 3)) fun v18 =>
cnd v18
 ((q21_40 v1 v2 v11 v18 h))
 (ob (evBin .eql v11 (AV.int .i64 20)) fun v19 =>
cnd v19
 ((q21_40 v1 v2 v11 v19 h))
 (ob (evBin .eql v11 (AV.int .i64 32)) fun v20 =>
(q21_40 v1 v2 v11 v20 h))))
noncomputable def q21_41k (s : St) : OX := q21_41 (s 1) (s 2) (s 11) s.h
theorem q21_41_eq (s : St) : W E 0 c_q21_41 s q21_1k (exitTo 0 q21_1k xN) (finP [.cell 2 true 4, .t 3]) = q21_41k s :=
  (W_seq (k := q21_40k) (fun s => q21_40_eq s)).trans (by kernel_rfl)
noncomputable def q21_42 (v1 v2 v11 v12 : AV) (h : Heap) : OX :=
cnd v12
 (ob (evBuild [(.int .i64 0), (.int .i64 0), (.int .i64 0), (.int .i64 0)] [(0, 1, (AV.int .i64 0)), (1, 1, (AV.int .i64 (-1))), (2, 1, (AV.int .i64 (-1))), (3, 1, (AV.int .i64 (-1)))]) fun v15 =>
oh (evSt 4 v2 v15 h) fun _ h28 =>
(ob (evLd true 4 v2 h28) fun r0 =>
  expo1 h28 (.tup [r0, (AV.bool true)])))
 ((q21_41 v1 v2 v11 h))
noncomputable def q21_42k (s : St) : OX := q21_42 (s 1) (s 2) (s 11) (s 12) s.h
theorem q21_42_eq (s : St) : W E 0 c_q21_42 s q21_1k (exitTo 0 q21_1k xN) (finP [.cell 2 true 4, .t 3]) = q21_42k s :=
  (W_cond rfl (q21_41_eq s)).trans (by kernel_rfl)
noncomputable def q21_43 (v1 v2 v11 : AV) (h : Heap) : OX :=
ob (evBin .eql v11 (AV.int .i64 1)) fun v13 =>
cnd v13
 ((q21_42 v1 v2 v11 v13 h))
 (ob (evBin .eql v11 (AV.int .i64 18)) fun v14 =>
(q21_42 v1 v2 v11 v14 h))
noncomputable def q21_43k (s : St) : OX := q21_43 (s 1) (s 2) (s 11) s.h
theorem q21_43_eq (s : St) : W E 0 c_q21_43 s q21_1k (exitTo 0 q21_1k xN) (finP [.cell 2 true 4, .t 3]) = q21_43k s :=
  (W_seq (k := q21_42k) (fun s => q21_42_eq s)).trans (by kernel_rfl)
theorem q21_44_eq (s : St) : W E 0 c_q21_44 s q21_1k xN (finP [.cell 2 true 4, .t 3]) = q21_43k s :=
  W_block.trans (q21_43_eq s)
noncomputable def q21_45 (v1 v2 : AV) (h : Heap) : OX :=
ob (evFa 0 v1) fun v10 =>
ob (evLd false 1 v10 h) fun v11 =>
(q21_43 v1 v2 v11 h)
noncomputable def q21_45k (s : St) : OX := q21_45 (s 1) (s 2) s.h
theorem q21_45_eq (s : St) : W E 0 c_q21_45 s q21_1k xN (finP [.cell 2 true 4, .t 3]) = q21_45k s :=
  (W_seq (k := q21_43k) (fun s => q21_44_eq s)).trans (by kernel_rfl)
theorem q21_46_eq (s : St) : W E 0 c_q21_46 s (finP [.cell 2 true 4, .t 3]) xN (finP [.cell 2 true 4, .t 3]) = q21_45k s :=
  (W_seq (k := q21_1k) (fun s => q21_1_eq s)).trans (q21_45_eq s)
noncomputable def q21_47 (v0 : AV) (h : Heap) : OX :=
oh (newC 0 (some 0) (cellsOf v0) h) fun v1 h29 =>
oh (newC 0 (some 1) [(.int .i64 0), (.int .i64 0), (.int .i64 0), (.int .i64 0)] h29) fun v2 h30 =>
(q21_45 v1 v2 h30)
noncomputable def q21_47k (s : St) : OX := q21_47 (s 0) s.h
theorem q21_47_eq (s : St) : W E 0 c_q21_47 s (finP [.cell 2 true 4, .t 3]) xN (finP [.cell 2 true 4, .t 3]) = q21_47k s :=
  (W_seq (k := q21_45k) (fun s => q21_46_eq s)).trans (by kernel_rfl)
@[simp] theorem pure_47 : E.pure 47 = true := rfl
theorem x_q21 (v0 : AV) : (callW E).p 47 [v0] = q21_47 v0 [⟨0, .dead⟩, ⟨0, .dead⟩] :=
  (callP_W (cf := c_q21) (by kernel_rfl) rfl).trans ((q21_47_eq _).trans (by kernel_rfl))
noncomputable def q53_1 (h : Heap) : OX :=
(expo1 h (.tup [(AV.int .i64 0), (AV.int .i64 0), (AV.int .i64 0)]))
noncomputable def q53_1k (s : St) : OX := q53_1 s.h
theorem q53_1_eq (s : St) : W E 0 c_q53_1 s (finP [.t 2, .t 3, .t 4]) xN (finP [.t 2, .t 3, .t 4]) = q53_1k s :=
  by kernel_rfl
noncomputable def q53_2 (v5 v33 : AV) (h : Heap) : OX :=
cnd v33
 ((expo1 h (.tup [(AV.int .i64 1), (AV.int .i64 0), (AV.int .i64 1)])))
 (ob (evBin .eql v5 (AV.int .i64 117)) fun v39 =>
cnd v39
 ((expo1 h (.tup [(AV.int .i64 2), (AV.int .i64 0), (AV.int .i64 2)])))
 (ob (evBin .eql v5 (AV.int .i64 133)) fun v41 =>
cnd v41
 ((expo1 h (.tup [(AV.int .i64 1), (AV.int .i64 0), (AV.int .i64 2)])))
 (ob (evBin .eql v5 (AV.int .i64 136)) fun v43 =>
cnd v43
 ((expo1 h (.tup [(AV.int .i64 2), (AV.int .i64 0), (AV.int .i64 1)])))
 ((q53_1 h)))))
noncomputable def q53_2k (s : St) : OX := q53_2 (s 5) (s 33) s.h
theorem q53_2_eq (s : St) : W E 0 c_q53_2 s q53_1k (exitTo 0 q53_1k xN) (finP [.t 2, .t 3, .t 4]) = q53_2k s :=
  by kernel_rfl
noncomputable def q53_3 (v5 : AV) (h : Heap) : OX :=
ob (evBin .eql v5 (AV.int .i64 116)) fun v34 =>
cnd v34
 ((q53_2 v5 v34 h))
 (ob (evBin .eql v5 (AV.int .i64 145)) fun v35 =>
cnd v35
 ((q53_2 v5 v35 h))
 (ob (evBin .eql v5 (AV.int .i64 146)) fun v36 =>
cnd v36
 ((q53_2 v5 v36 h))
 (ob (evBin .eql v5 (AV.int .i64 147)) fun v37 =>
(q53_2 v5 v37 h))))
noncomputable def q53_3k (s : St) : OX := q53_3 (s 5) s.h
theorem q53_3_eq (s : St) : W E 0 c_q53_3 s q53_1k (exitTo 0 q53_1k xN) (finP [.t 2, .t 3, .t 4]) = q53_3k s :=
  (W_seq (k := q53_2k) (fun s => q53_2_eq s)).trans (by kernel_rfl)
noncomputable def q53_4 (v5 v31 : AV) (h : Heap) : OX :=
cnd v31
 ((expo1 h (.tup [(AV.int .i64 2), (AV.int .i64 2), (AV.int .i64 1)])))
 ((q53_3 v5 h))
noncomputable def q53_4k (s : St) : OX := q53_4 (s 5) (s 31) s.h
theorem q53_4_eq (s : St) : W E 0 c_q53_4 s q53_1k (exitTo 0 q53_1k xN) (finP [.t 2, .t 3, .t 4]) = q53_4k s :=
  (W_cond rfl (q53_3_eq s)).trans (by kernel_rfl)
noncomputable def q53_5 (v5 : AV) (h : Heap) : OX :=
ob (evBin .eql v5 (AV.int .i64 148)) fun v32 =>
(q53_4 v5 v32 h)
noncomputable def q53_5k (s : St) : OX := q53_5 (s 5) s.h
theorem q53_5_eq (s : St) : W E 0 c_q53_5 s q53_1k (exitTo 0 q53_1k xN) (finP [.t 2, .t 3, .t 4]) = q53_5k s :=
  (W_seq (k := q53_4k) (fun s => q53_4_eq s)).trans (by kernel_rfl)
noncomputable def q53_6 (v5 v27 : AV) (h : Heap) : OX :=
cnd v27
 ((expo1 h (.tup [(AV.int .i64 2), (AV.int .i64 1), (AV.int .i64 2)])))
 ((q53_5 v5 h))
noncomputable def q53_6k (s : St) : OX := q53_6 (s 5) (s 27) s.h
theorem q53_6_eq (s : St) : W E 0 c_q53_6 s q53_1k (exitTo 0 q53_1k xN) (finP [.t 2, .t 3, .t 4]) = q53_6k s :=
  (W_cond rfl (q53_5_eq s)).trans (by kernel_rfl)
noncomputable def q53_7 (v5 : AV) (h : Heap) : OX :=
ob (evBin .eql v5 (AV.int .i64 121)) fun v28 =>
cnd v28
 ((q53_6 v5 v28 h))
 (ob (evBin .eql v5 (AV.int .i64 123)) fun v29 =>
cnd v29
 ((q53_6 v5 v29 h))
 (ob (evBin .eql v5 (AV.int .i64 125)) fun v30 =>
(q53_6 v5 v30 h)))
noncomputable def q53_7k (s : St) : OX := q53_7 (s 5) s.h
theorem q53_7_eq (s : St) : W E 0 c_q53_7 s q53_1k (exitTo 0 q53_1k xN) (finP [.t 2, .t 3, .t 4]) = q53_7k s :=
  (W_seq (k := q53_6k) (fun s => q53_6_eq s)).trans (by kernel_rfl)
noncomputable def q53_8 (v5 v18 : AV) (h : Heap) : OX :=
cnd v18
 ((expo1 h (.tup [(AV.int .i64 2), (AV.int .i64 2), (AV.int .i64 2)])))
 ((q53_7 v5 h))
noncomputable def q53_8k (s : St) : OX := q53_8 (s 5) (s 18) s.h
theorem q53_8_eq (s : St) : W E 0 c_q53_8 s q53_1k (exitTo 0 q53_1k xN) (finP [.t 2, .t 3, .t 4]) = q53_8k s :=
  (W_cond rfl (q53_7_eq s)).trans (by kernel_rfl)
noncomputable def q53_9 (v5 : AV) (h : Heap) : OX :=
ob (evBin .eql v5 (AV.int .i64 97)) fun v19 =>
cnd v19
 ((q53_8 v5 v19 h))
 (ob (evBin .eql v5 (AV.int .i64 101)) fun v20 =>
cnd v20
 ((q53_8 v5 v20 h))
 (ob (evBin .eql v5 (AV.int .i64 105)) fun v21 =>
cnd v21
 ((q53_8 v5 v21 h))
 (ob (evBin .eql v5 (AV.int .i64 109)) fun v22 =>
cnd v22
 ((q53_8 v5 v22 h))
 (ob (evBin .eql v5 (AV.int .i64 113)) fun v23 =>
cnd v23
 ((q53_8 v5 v23 h))
 (ob (evBin .eql v5 (AV.int .i64 127)) fun v24 =>
cnd v24
 ((q53_8 v5 v24 h))
 (ob (evBin .eql v5 (AV.int .i64 129)) fun v25 =>
cnd v25
 ((q53_8 v5 v25 h))
 (ob (evBin .eql v5 (AV.int .i64 131)) fun v26 =>
(q53_8 v5 v26 h))))))))
noncomputable def q53_9k (s : St) : OX := q53_9 (s 5) s.h
theorem q53_9_eq (s : St) : W E 0 c_q53_9 s q53_1k (exitTo 0 q53_1k xN) (finP [.t 2, .t 3, .t 4]) = q53_9k s :=
  (W_seq (k := q53_8k) (fun s => q53_8_eq s)).trans (by kernel_rfl)
noncomputable def q53_10 (v5 v6 : AV) (h : Heap) : OX :=
cnd v6
 ((expo1 h (.tup [(AV.int .i64 1), (AV.int .i64 1), (AV.int .i64 1)])))
 ((q53_9 v5 h))
noncomputable def q53_10k (s : St) : OX := q53_10 (s 5) (s 6) s.h
theorem q53_10_eq (s : St) : W E 0 c_q53_10 s q53_1k (exitTo 0 q53_1k xN) (finP [.t 2, .t 3, .t 4]) = q53_10k s :=
  (W_cond rfl (q53_9_eq s)).trans (by kernel_rfl)
noncomputable def q53_11 (v5 : AV) (h : Heap) : OX :=
ob (evBin .eql v5 (AV.int .i64 96)) fun v7 =>
cnd v7
 ((q53_10 v5 v7 h))
 (ob (evBin .eql v5 (AV.int .i64 100)) fun v8 =>
cnd v8
 ((q53_10 v5 v8 h))
 (ob (evBin .eql v5 (AV.int .i64 104)) fun v9 =>
cnd v9
 ((q53_10 v5 v9 h))
 (ob (evBin .eql v5 (AV.int .i64 108)) fun v10 =>
cnd v10
 ((q53_10 v5 v10 h))
 (ob (evBin .eql v5 (AV.int .i64 112)) fun v11 =>
cnd v11
 ((q53_10 v5 v11 h))
 (ob (evBin .eql v5 (AV.int .i64 120)) fun v12 =>
cnd v12
 ((q53_10 v5 v12 h))
 (ob (evBin .eql v5 (AV.int .i64 122)) fun v13 =>
cnd v13
 ((q53_10 v5 v13 h))
 (ob (evBin .eql v5 (AV.int .i64 124)) fun v14 =>
cnd v14
 ((q53_10 v5 v14 h))
 (ob (evBin .eql v5 (AV.int .i64 126)) fun v15 =>
cnd v15
 ((q53_10 v5 v15 h))
 (ob (evBin .eql v5 (AV.int .i64 128)) fun v16 =>
cnd v16
 ((q53_10 v5 v16 h))
 (ob (evBin .eql v5 (AV.int .i64 130)) fun v17 =>
(q53_10 v5 v17 h)))))))))))
noncomputable def q53_11k (s : St) : OX := q53_11 (s 5) s.h
theorem q53_11_eq (s : St) : W E 0 c_q53_11 s q53_1k (exitTo 0 q53_1k xN) (finP [.t 2, .t 3, .t 4]) = q53_11k s :=
  (W_seq (k := q53_10k) (fun s => q53_10_eq s)).trans (by kernel_rfl)
theorem q53_12_eq (s : St) : W E 0 c_q53_12 s q53_1k xN (finP [.t 2, .t 3, .t 4]) = q53_11k s :=
  W_block.trans (q53_11_eq s)
noncomputable def q53_13 (v0 : AV) (h : Heap) : OX :=
(q53_11 v0 h)
noncomputable def q53_13k (s : St) : OX := q53_13 (s 0) s.h
theorem q53_13_eq (s : St) : W E 0 c_q53_13 s q53_1k xN (finP [.t 2, .t 3, .t 4]) = q53_13k s :=
  (W_seq (k := q53_11k) (fun s => q53_12_eq s)).trans (by kernel_rfl)
theorem q53_14_eq (s : St) : W E 0 c_q53_14 s (finP [.t 2, .t 3, .t 4]) xN (finP [.t 2, .t 3, .t 4]) = q53_13k s :=
  (W_seq (k := q53_1k) (fun s => q53_1_eq s)).trans (q53_13_eq s)
noncomputable def q53_15 (v0 : AV) (h : Heap) : OX :=
(q53_13 v0 h)
noncomputable def q53_15k (s : St) : OX := q53_15 (s 0) s.h
theorem q53_15_eq (s : St) : W E 0 c_q53_15 s (finP [.t 2, .t 3, .t 4]) xN (finP [.t 2, .t 3, .t 4]) = q53_15k s :=
  (W_seq (k := q53_13k) (fun s => q53_14_eq s)).trans (by kernel_rfl)
@[simp] theorem pure_50 : E.pure 50 = true := rfl
theorem x_q53 (v0 : AV) : (callW E).p 50 [v0] = q53_15 v0 [] :=
  (callP_W (cf := c_q53) (by kernel_rfl) rfl).trans ((q53_15_eq _).trans (by kernel_rfl))
noncomputable def q22_1 (v2 : AV) (h : Heap) : OX :=
ob (evBuild [(.int .i64 0), (.int .i64 0), (.int .i64 0), (.int .i64 0)] []) fun v73 =>
oh (evSt 4 v2 v73 h) fun _ h1 =>
(ob (evLd true 4 v2 h1) fun r0 =>
  expo1 h1 (.tup [r0, (AV.bool false)]))
noncomputable def q22_1k (s : St) : OX := q22_1 (s 2) s.h
theorem q22_1_eq (s : St) : W E 0 c_q22_1 s (finP [.cell 2 true 4, .t 3]) xN (finP [.cell 2 true 4, .t 3]) = q22_1k s :=
  by kernel_rfl
noncomputable def q22_2 (v1 v2 v4 : AV) (h : Heap) : OX :=
ob (evBuild [(.int .i64 0), (.int .i64 0), (.int .i64 0), (.int .i64 0)] [(0, 1, (AV.int .i64 (-1))), (1, 1, (AV.int .i64 3)), (2, 1, v4), (3, 1, (AV.int .i64 (-1)))]) fun v16 =>
ob (evFa 5 v1) fun v17 =>
ob (evLd false 1 v17 h) fun v18 =>
ob (evBin .eql v18 (AV.int .i64 0)) fun v19 =>
ofp (fgd v19 false (some ([], []))) fun f6 =>
gb v19 false (evFa 5 v1) fun v21 =>
ofp (fgd v19 false (some (ids1 v21, []))) fun f7 =>
gb v19 false (evLd false 1 v21 h) fun v22 =>
ofp (fgd v19 false (some ([], []))) fun f8 =>
gb v19 false (evBin .eql v22 (AV.int .i64 1)) fun v23 =>
ob (evPick v19 (AV.bool true) v23) fun v24 =>
oh (evSt 4 v2 v16 h) fun _ h2 =>
okK (pairsOk [([], []), ([], []), ([], []), (ids1 v17, []), ([], []), ([], []), f6, f7, f8, ([], []), ([], ids1 v2), ([], [])] [(7, 10)]) <|
(ob (evLd true 4 v2 h2) fun r0 =>
  expo1 h2 (.tup [r0, v24]))
noncomputable def q22_2k (s : St) : OX := q22_2 (s 1) (s 2) (s 4) s.h
theorem q22_2_eq (s : St) : W E 0 c_q22_2 s q22_1k (exitTo 0 q22_1k xN) (finP [.cell 2 true 4, .t 3]) = q22_2k s :=
  by kernel_rfl
noncomputable def q22_3 (v1 v2 v4 : AV) (h : Heap) : OX :=
ob (evFa 3 v1) fun v12 =>
ob (evLd false 1 v12 h) fun v13 =>
ob (evBin .neq v13 (AV.int .i64 (-1))) fun v14 =>
cnd v14
 ((q22_2 v1 v2 (AV.int .i64 3) h))
 ((q22_2 v1 v2 v4 h))
noncomputable def q22_3k (s : St) : OX := q22_3 (s 1) (s 2) (s 4) s.h
theorem q22_3_eq (s : St) : W E 0 c_q22_3 s q22_1k (exitTo 0 q22_1k xN) (finP [.cell 2 true 4, .t 3]) = q22_3k s :=
  (W_seq (k := q22_2k) (fun s => q22_2_eq s)).trans (by kernel_rfl)
noncomputable def q22_4 (v1 v2 : AV) (h : Heap) : OX :=
(q22_3 v1 v2 (AV.int .i64 (-1)) h)
noncomputable def q22_4k (s : St) : OX := q22_4 (s 1) (s 2) s.h
theorem q22_4_eq (s : St) : W E 0 c_q22_4 s q22_1k (exitTo 0 q22_1k xN) (finP [.cell 2 true 4, .t 3]) = q22_4k s :=
  (W_seq (k := q22_3k) (fun s => q22_3_eq s)).trans (by kernel_rfl)
noncomputable def q22_5 (v2 v5 : AV) (h : Heap) : OX :=
ob (evBuild [(.int .i64 0), (.int .i64 0), (.int .i64 0), (.int .i64 0)] [(0, 1, (AV.int .i64 (-1))), (1, 1, v5), (2, 1, (AV.int .i64 (-1))), (3, 1, (AV.int .i64 (-1)))]) fun v31 =>
oh (evSt 4 v2 v31 h) fun _ h3 =>
(ob (evLd true 4 v2 h3) fun r0 =>
  expo1 h3 (.tup [r0, (AV.bool true)]))
noncomputable def q22_5k (s : St) : OX := q22_5 (s 2) (s 5) s.h
theorem q22_5_eq (s : St) : W E 0 c_q22_5 s q22_1k (exitTo 0 q22_1k xN) (finP [.cell 2 true 4, .t 3]) = q22_5k s :=
  by kernel_rfl
noncomputable def q22_6 (v1 v2 v5 : AV) (h : Heap) : OX :=
ob (evFa 2 v1) fun v27 =>
ob (evLd false 1 v27 h) fun v28 =>
ob (evBin .neq v28 (AV.int .i64 (-1))) fun v29 =>
cnd v29
 ((q22_5 v2 (AV.int .i64 0) h))
 ((q22_5 v2 v5 h))
noncomputable def q22_6k (s : St) : OX := q22_6 (s 1) (s 2) (s 5) s.h
theorem q22_6_eq (s : St) : W E 0 c_q22_6 s q22_1k (exitTo 0 q22_1k xN) (finP [.cell 2 true 4, .t 3]) = q22_6k s :=
  (W_seq (k := q22_5k) (fun s => q22_5_eq s)).trans (by kernel_rfl)
noncomputable def q22_7 (v1 v2 : AV) (h : Heap) : OX :=
(q22_6 v1 v2 (AV.int .i64 (-1)) h)
noncomputable def q22_7k (s : St) : OX := q22_7 (s 1) (s 2) s.h
theorem q22_7_eq (s : St) : W E 0 c_q22_7 s q22_1k (exitTo 0 q22_1k xN) (finP [.cell 2 true 4, .t 3]) = q22_7k s :=
  (W_seq (k := q22_6k) (fun s => q22_6_eq s)).trans (by kernel_rfl)
noncomputable def q22_8 (v1 v2 v6 : AV) (h : Heap) : OX :=
ob (evFa 0 v1) fun v40 =>
ob (evLd false 1 v40 h) fun v41 =>
ob (evBin .eql v41 (AV.int .i64 23)) fun v42 =>
gb v42 false (evFa 0 v1) fun v44 =>
gb v42 false (evLd false 1 v44 h) fun v45 =>
gb v42 false (evBin .eql v45 (AV.int .i64 26)) fun v46 =>
ob (evPick v42 (AV.bool true) v46) fun v47 =>
gb v47 false (evFa 8 v1) fun v49 =>
gb v47 false (evLd false 1 v49 h) fun v50 =>
gb v47 false (evLen 1 v50 h) fun v51 =>
gb v47 false (evBin .gtr v51 (AV.int .i64 0)) fun v52 =>
ob (evPick v47 (AV.bool true) v52) fun v53 =>
ob (evBuild [(.int .i64 0), (.int .i64 0), (.int .i64 0), (.int .i64 0)] [(0, 1, v6), (1, 1, (AV.int .i64 (-1))), (2, 1, (AV.int .i64 (-1))), (3, 1, (AV.int .i64 (-1)))]) fun v55 =>
ofp (fgd v53 true (some ([], []))) fun f4 =>
gb v53 true (evFa 5 v1) fun v58 =>
ofp (fgd v53 true (some (ids1 v58, []))) fun f5 =>
gb v53 true (evLd false 1 v58 h) fun v59 =>
ofp (fgd v53 true (some ([], []))) fun f6 =>
gb v53 true (evBin .geq v59 (AV.int .i64 0)) fun v60 =>
ofp (fgd v53 true (some ([], []))) fun f7 =>
gb v53 true (some v60) fun v61 =>
ofp (fgd v61 false (some ([], []))) fun f8 =>
gb v61 false (evFa 0 v1) fun v62 =>
ofp (fgd v61 false (some (ids1 v62, []))) fun f9 =>
gb v61 false (evLd false 1 v62 h) fun v63 =>
ofp (fgd v61 false (some ([], []))) fun f10 =>
gb v61 false (evBin .eql v63 (AV.int .i64 25)) fun v64 =>
ofp (fgd v53 true (some ([], []))) fun f11 =>
gb v53 true (evPick v61 (AV.bool true) v64) fun v65 =>
ob (evPick v53 v65 (AV.bool false)) fun v66 =>
ofp (fgd v66 true (some ([], []))) fun f14 =>
gb v66 true (evFa 8 v1) fun v68 =>
ofp (fgd v66 true (some (ids1 v68, []))) fun f15 =>
gb v66 true (evLd false 1 v68 h) fun v69 =>
ofp (fgd v66 true (some (ids1 v69, []))) fun f16 =>
gb v66 true (evLen 1 v69 h) fun v70 =>
ofp (fgd v66 true (some ([], []))) fun f17 =>
gb v66 true (evBin .leq v70 (AV.int .i64 21)) fun v71 =>
ob (evPick v66 v71 (AV.bool false)) fun v72 =>
oh (evSt 4 v2 v55 h) fun _ h4 =>
okK (pairsOk [([], []), ([], []), ([], []), ([], []), f4, f5, f6, f7, f8, f9, f10, f11, ([], []), ([], []), f14, f15, f16, f17, ([], []), ([], ids1 v2), ([], [])] [(15, 19), (16, 19)]) <|
(ob (evLd true 4 v2 h4) fun r0 =>
  expo1 h4 (.tup [r0, v72]))
noncomputable def q22_8k (s : St) : OX := q22_8 (s 1) (s 2) (s 6) s.h
theorem q22_8_eq (s : St) : W E 0 c_q22_8 s q22_1k (exitTo 0 q22_1k xN) (finP [.cell 2 true 4, .t 3]) = q22_8k s :=
  by kernel_rfl
noncomputable def q22_9 (v1 v2 v6 : AV) (h : Heap) : OX :=
ob (evFa 1 v1) fun v37 =>
ob (evLd false 1 v37 h) fun v38 =>
ob (evBin .neq v38 (AV.int .i64 (-1))) fun v39 =>
cnd v39
 ((q22_8 v1 v2 (AV.int .i64 0) h))
 ((q22_8 v1 v2 v6 h))
noncomputable def q22_9k (s : St) : OX := q22_9 (s 1) (s 2) (s 6) s.h
theorem q22_9_eq (s : St) : W E 0 c_q22_9 s q22_1k (exitTo 0 q22_1k xN) (finP [.cell 2 true 4, .t 3]) = q22_9k s :=
  (W_seq (k := q22_8k) (fun s => q22_8_eq s)).trans (by kernel_rfl)
noncomputable def q22_10 (v1 v2 : AV) (h : Heap) : OX :=
(q22_9 v1 v2 (AV.int .i64 (-1)) h)
noncomputable def q22_10k (s : St) : OX := q22_10 (s 1) (s 2) s.h
theorem q22_10_eq (s : St) : W E 0 c_q22_10 s q22_1k (exitTo 0 q22_1k xN) (finP [.cell 2 true 4, .t 3]) = q22_10k s :=
  (W_seq (k := q22_9k) (fun s => q22_9_eq s)).trans (by kernel_rfl)
noncomputable def q22_11 (v1 v2 v32 : AV) (h : Heap) : OX :=
cnd v32
 ((q22_10 v1 v2 h))
 ((q22_1 v2 h))
noncomputable def q22_11k (s : St) : OX := q22_11 (s 1) (s 2) (s 32) s.h
theorem q22_11_eq (s : St) : W E 0 c_q22_11 s q22_1k (exitTo 0 q22_1k xN) (finP [.cell 2 true 4, .t 3]) = q22_11k s :=
  (W_cond (q22_10_eq s) rfl).trans (by kernel_rfl)
noncomputable def q22_12 (v1 v2 v9 : AV) (h : Heap) : OX :=
ob (evBin .eql v9 (AV.int .i64 23)) fun v33 =>
cnd v33
 ((q22_11 v1 v2 v33 h))
 (ob (evBin .eql v9 (AV.int .i64 24)) fun v34 =>
cnd v34
 ((q22_11 v1 v2 v34 h))
 (ob (evBin .eql v9 (AV.int .i64 25)) fun v35 =>
cnd v35
 ((q22_11 v1 v2 v35 h))
 (ob (evBin .eql v9 (AV.int .i64 26)) fun v36 =>
(q22_11 v1 v2 v36 h))))
noncomputable def q22_12k (s : St) : OX := q22_12 (s 1) (s 2) (s 9) s.h
theorem q22_12_eq (s : St) : W E 0 c_q22_12 s q22_1k (exitTo 0 q22_1k xN) (finP [.cell 2 true 4, .t 3]) = q22_12k s :=
  (W_seq (k := q22_11k) (fun s => q22_11_eq s)).trans (by kernel_rfl)
noncomputable def q22_13 (v1 v2 v9 v25 : AV) (h : Heap) : OX :=
cnd v25
 ((q22_7 v1 v2 h))
 ((q22_12 v1 v2 v9 h))
noncomputable def q22_13k (s : St) : OX := q22_13 (s 1) (s 2) (s 9) (s 25) s.h
theorem q22_13_eq (s : St) : W E 0 c_q22_13 s q22_1k (exitTo 0 q22_1k xN) (finP [.cell 2 true 4, .t 3]) = q22_13k s :=
  (W_cond (q22_7_eq s) (q22_12_eq s)).trans (by kernel_rfl)
noncomputable def q22_14 (v1 v2 v9 : AV) (h : Heap) : OX :=
ob (evBin .eql v9 (AV.int .i64 30)) fun v26 =>
(q22_13 v1 v2 v9 v26 h)
noncomputable def q22_14k (s : St) : OX := q22_14 (s 1) (s 2) (s 9) s.h
theorem q22_14_eq (s : St) : W E 0 c_q22_14 s q22_1k (exitTo 0 q22_1k xN) (finP [.cell 2 true 4, .t 3]) = q22_14k s :=
  (W_seq (k := q22_13k) (fun s => q22_13_eq s)).trans (by kernel_rfl)
noncomputable def q22_15 (v1 v2 v9 v10 : AV) (h : Heap) : OX :=
cnd v10
 ((q22_4 v1 v2 h))
 ((q22_14 v1 v2 v9 h))
noncomputable def q22_15k (s : St) : OX := q22_15 (s 1) (s 2) (s 9) (s 10) s.h
theorem q22_15_eq (s : St) : W E 0 c_q22_15 s q22_1k (exitTo 0 q22_1k xN) (finP [.cell 2 true 4, .t 3]) = q22_15k s :=
  (W_cond (q22_4_eq s) (q22_14_eq s)).trans (by kernel_rfl)
noncomputable def q22_16 (v1 v2 v9 : AV) (h : Heap) : OX :=
ob (evBin .eql v9 (AV.int .i64 29)) fun v11 =>
(q22_15 v1 v2 v9 v11 h)
noncomputable def q22_16k (s : St) : OX := q22_16 (s 1) (s 2) (s 9) s.h
theorem q22_16_eq (s : St) : W E 0 c_q22_16 s q22_1k (exitTo 0 q22_1k xN) (finP [.cell 2 true 4, .t 3]) = q22_16k s :=
  (W_seq (k := q22_15k) (fun s => q22_15_eq s)).trans (by kernel_rfl)
theorem q22_17_eq (s : St) : W E 0 c_q22_17 s q22_1k xN (finP [.cell 2 true 4, .t 3]) = q22_16k s :=
  W_block.trans (q22_16_eq s)
noncomputable def q22_18 (v1 v2 : AV) (h : Heap) : OX :=
ob (evFa 0 v1) fun v8 =>
ob (evLd false 1 v8 h) fun v9 =>
(q22_16 v1 v2 v9 h)
noncomputable def q22_18k (s : St) : OX := q22_18 (s 1) (s 2) s.h
theorem q22_18_eq (s : St) : W E 0 c_q22_18 s q22_1k xN (finP [.cell 2 true 4, .t 3]) = q22_18k s :=
  (W_seq (k := q22_16k) (fun s => q22_17_eq s)).trans (by kernel_rfl)
theorem q22_19_eq (s : St) : W E 0 c_q22_19 s (finP [.cell 2 true 4, .t 3]) xN (finP [.cell 2 true 4, .t 3]) = q22_18k s :=
  (W_seq (k := q22_1k) (fun s => q22_1_eq s)).trans (q22_18_eq s)
noncomputable def q22_20 (v0 : AV) (h : Heap) : OX :=
oh (newC 0 (some 0) (cellsOf v0) h) fun v1 h5 =>
oh (newC 0 (some 1) [(.int .i64 0), (.int .i64 0), (.int .i64 0), (.int .i64 0)] h5) fun v2 h6 =>
(q22_18 v1 v2 h6)
noncomputable def q22_20k (s : St) : OX := q22_20 (s 0) s.h
theorem q22_20_eq (s : St) : W E 0 c_q22_20 s (finP [.cell 2 true 4, .t 3]) xN (finP [.cell 2 true 4, .t 3]) = q22_20k s :=
  (W_seq (k := q22_18k) (fun s => q22_19_eq s)).trans (by kernel_rfl)
@[simp] theorem pure_51 : E.pure 51 = true := rfl
theorem x_q22 (v0 : AV) : (callW E).p 51 [v0] = q22_20 v0 [⟨0, .dead⟩, ⟨0, .dead⟩] :=
  (callP_W (cf := c_q22) (by kernel_rfl) rfl).trans ((q22_20_eq _).trans (by kernel_rfl))
end Go.Vm
