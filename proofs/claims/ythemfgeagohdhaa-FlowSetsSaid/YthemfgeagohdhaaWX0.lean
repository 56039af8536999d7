/- Functions of the machine as plain functions that go on with what follows. -/
import Derived.Test.YthemfgeagohdhaaWEnv
set_option linter.unusedSimpArgs false
set_option linter.unusedVariables false
set_option linter.unusedSectionVars false
namespace Go.Vm
noncomputable def q48_1 (v1 : AV) (h : Heap) : OX :=
ob (evLd true 5 v1 h) fun v5 =>
ofp (fpCall E (callW E) 0 none true 98 [v5] h) fun f1 =>
oh (callAny E (callW E) 0 none true 98 [v5] h) fun v6 h1 =>
ob (evUn .not v6) fun v7 =>
ofp (fgd v7 false (some (ids1 v1, []))) fun f4 =>
gb v7 false (evLd true 5 v1 h1) fun v9 =>
ofp (fgd v7 false (fpCall E (callW E) 0 none true 77 [v9] h1)) fun f5 =>
gh v7 false (callAny E (callW E) 0 none true 77 [v9] h1) h1 fun v10 h2 =>
ofp (fgd v7 false (some (ids1 v1, []))) fun f6 =>
gb v7 false (evLd true 5 v1 h2) fun v11 =>
ofp (fgd v7 false (fpCall E (callW E) 0 none true 99 [v11] h2)) fun f7 =>
gh v7 false (callAny E (callW E) 0 none true 99 [v11] h2) h2 fun v12 h3 =>
ofp (fgd v7 false (some ([], []))) fun f8 =>
gb v7 false (evEqb false v10 v12) fun v13 =>
ob (evPick v7 (AV.bool true) v13) fun v14 =>
okK (pairsOk [(ids1 v1, []), f1, ([], []), ([], []), f4, f5, f6, f7, f8, ([], []), ([], [])] [(5, 6)]) <|
(expo1 h3 v14)
noncomputable def q48_1k (s : St) : OX := q48_1 (s 1) s.h
theorem q48_1_eq (s : St) : W E 0 c_q48_1 s (finP [.t 2]) xN (finP [.t 2]) = q48_1k s :=
  by kernel_rfl
noncomputable def q48_2 (v1 : AV) (h : Heap) : OX :=
oh (callAny E (callW E) 0 none true 97 [] h) fun v3 h4 =>
ob (evUn .not v3) fun v4 =>
cnd v4
 ((expo1 h4 (AV.bool false)))
 ((q48_1 v1 h4))
noncomputable def q48_2k (s : St) : OX := q48_2 (s 1) s.h
theorem q48_2_eq (s : St) : W E 0 c_q48_2 s (finP [.t 2]) xN (finP [.t 2]) = q48_2k s :=
  (W_seq (k := q48_1k) (fun s => q48_1_eq s)).trans (by kernel_rfl)
noncomputable def q48_3 (v0 : AV) (h : Heap) : OX :=
oh (newC 0 (some 0) (cellsOf v0) h) fun v1 h5 =>
(q48_2 v1 h5)
noncomputable def q48_3k (s : St) : OX := q48_3 (s 0) s.h
theorem q48_3_eq (s : St) : W E 0 c_q48_3 s (finP [.t 2]) xN (finP [.t 2]) = q48_3k s :=
  (W_seq (k := q48_2k) (fun s => q48_2_eq s)).trans (by kernel_rfl)
@[simp] theorem pure_110 : E.pure 110 = true := rfl
theorem x_q48 (v0 : AV) : (callW E).p 110 [v0] = q48_3 v0 [⟨0, .dead⟩] :=
  (callP_W (cf := c_q48) (by kernel_rfl) rfl).trans ((q48_3_eq _).trans (by kernel_rfl))
@[simp] theorem pure_97 : E.pure 97 = true := rfl
noncomputable def q51_1 (v0 : AV) (h : Heap) : OX :=
oh (newC 0 (some 0) (cellsOf v0) h) fun v1 h1 =>
ob (evFa 3 v1) fun v3 =>
ob (evLd false 1 v3 h1) fun v4 =>
ob (evLen 1 v4 h1) fun v5 =>
ob (evBin .leq v5 (AV.int .i64 400)) fun v6 =>
gb v6 true (evFa 0 v1) fun v8 =>
gb v6 true (evLd false 1 v8 h1) fun v9 =>
gb v6 true (evLen 1 v9 h1) fun v10 =>
gb v6 true (evBin .leq v10 (AV.int .i64 100)) fun v11 =>
ob (evPick v6 v11 (AV.bool false)) fun v12 =>
gb v12 true (evFa 4 v1) fun v14 =>
gb v12 true (evLd false 1 v14 h1) fun v15 =>
gb v12 true (evLen 1 v15 h1) fun v16 =>
gb v12 true (evBin .leq v16 (AV.int .i64 100)) fun v17 =>
ob (evPick v12 v17 (AV.bool false)) fun v18 =>
(expo1 h1 v18)
noncomputable def q51_1k (s : St) : OX := q51_1 (s 0) s.h
theorem q51_1_eq (s : St) : W E 0 c_q51_1 s (finP [.t 2]) xN (finP [.t 2]) = q51_1k s :=
  by kernel_rfl
@[simp] theorem pure_98 : E.pure 98 = true := rfl
theorem x_q51 (v0 : AV) : (callW E).p 98 [v0] = q51_1 v0 [⟨0, .dead⟩] :=
  (callP_W (cf := c_q51) (by kernel_rfl) rfl).trans ((q51_1_eq _).trans (by kernel_rfl))
noncomputable def q6_1 (v6 : AV) (h : Heap) : OX :=
(expo1 h v6)
noncomputable def q6_1k (s : St) : OX := q6_1 (s 6) s.h
theorem q6_1_eq (s : St) : W E 0 c_q6_1 s (finP [.t 4]) xN (finP [.t 4]) = q6_1k s :=
  by kernel_rfl
noncomputable def q6_2 (v5 v6 : AV) (h : Heap) : OX :=
ob (evLd true 9 v5 h) fun v29 =>
oh (callAny E (callW E) 0 none true 22 [v29] h) fun v30 h1 =>
gb v30 true (some v6) fun v32 =>
gb v30 true (evFa 6 v5) fun v33 =>
gb v30 true (evLd false 1 v33 h1) fun v34 =>
gh v30 true (callAny E (callW E) 0 none true 46 [v32, v34] h1) h1 fun v35 h2 =>
gb v30 true (evUn .not v35) fun v36 =>
ob (evPick v30 v36 (AV.bool false)) fun v37 =>
cnd v37
 (ob (evFa 6 v5) fun v39 =>
ob (evLd false 1 v39 h2) fun v40 =>
oh (buildSC 0 (some 4) 1 1 [(.int .i64 0)] [(0, v40)] h2) fun v41 h3 =>
oh (evApp 0 (some 5) 1 8 v6 v41 h3) fun v42 h4 =>
(q6_1 v42 h4))
 ((q6_1 v6 h2))
noncomputable def q6_2k (s : St) : OX := q6_2 (s 5) (s 6) s.h
theorem q6_2_eq (s : St) : W E 0 c_q6_2 s (finP [.t 4]) xN (finP [.t 4]) = q6_2k s :=
  (W_seq (k := q6_1k) (fun s => q6_1_eq s)).trans (by kernel_rfl)
noncomputable def q6_3 (v1 v5 v6 : AV) (h : Heap) : OX :=
ob (evLd true 9 v5 h) fun v21 =>
oh (callAny E (callW E) 0 none true 24 [v21] h) fun v22 h5 =>
ob (evUn .not v22) fun v23 =>
cnd v23
 (ob (evBin .add v1 (AV.int .i64 1)) fun v26 =>
oh (buildSC 0 (some 2) 1 1 [(.int .i64 0)] [(0, v26)] h5) fun v27 h6 =>
oh (evApp 0 (some 3) 1 8 v6 v27 h6) fun v28 h7 =>
(q6_2 v5 v28 h7))
 ((q6_2 v5 v6 h5))
noncomputable def q6_3k (s : St) : OX := q6_3 (s 1) (s 5) (s 6) s.h
theorem q6_3_eq (s : St) : W E 0 c_q6_3 s (finP [.t 4]) xN (finP [.t 4]) = q6_3k s :=
  (W_seq (k := q6_2k) (fun s => q6_2_eq s)).trans (by kernel_rfl)
noncomputable def q6_4 (v1 v5 : AV) (h : Heap) : OX :=
(q6_3 v1 v5 AV.nils h)
noncomputable def q6_4k (s : St) : OX := q6_4 (s 1) (s 5) s.h
theorem q6_4_eq (s : St) : W E 0 c_q6_4 s (finP [.t 4]) xN (finP [.t 4]) = q6_4k s :=
  (W_seq (k := q6_3k) (fun s => q6_3_eq s)).trans (by kernel_rfl)
noncomputable def q6_5 (v1 v2 : AV) (h : Heap) : OX :=
ob (evFa 3 v2) fun v16 =>
ob (evLd false 1 v16 h) fun v17 =>
ob (evIxs 9 v17 v1) fun v19 =>
ob (evLd true 9 v19 h) fun v20 =>
oh (newC 0 (some 1) [(.int .i64 0), (.int .i64 0), (.int .i64 0), (.int .i64 0), (.int .i64 0), (.int .i64 0), (.int .i64 0), (.str []), .nils] h) fun v5 h8 =>
oh (evSt 9 v5 v20 h8) fun _ h9 =>
(q6_4 v1 v5 h9)
noncomputable def q6_5k (s : St) : OX := q6_5 (s 1) (s 2) s.h
theorem q6_5_eq (s : St) : W E 0 c_q6_5 s (finP [.t 4]) xN (finP [.t 4]) = q6_5k s :=
  (W_seq (k := q6_4k) (fun s => q6_4_eq s)).trans (by kernel_rfl)
noncomputable def q6_6 (v1 v2 : AV) (h : Heap) : OX :=
ob (evBin .lss v1 (AV.int .i64 0)) fun v8 =>
gb v8 false (some v1) fun v10 =>
gb v8 false (evFa 3 v2) fun v11 =>
gb v8 false (evLd false 1 v11 h) fun v12 =>
gb v8 false (evLen 1 v12 h) fun v13 =>
gb v8 false (evBin .geq v10 v13) fun v14 =>
ob (evPick v8 (AV.bool true) v14) fun v15 =>
cnd v15
 ((expo1 h AV.nils))
 ((q6_5 v1 v2 h))
noncomputable def q6_6k (s : St) : OX := q6_6 (s 1) (s 2) s.h
theorem q6_6_eq (s : St) : W E 0 c_q6_6 s (finP [.t 4]) xN (finP [.t 4]) = q6_6k s :=
  (W_seq (k := q6_5k) (fun s => q6_5_eq s)).trans (by kernel_rfl)
noncomputable def q6_7 (v0 v1 : AV) (h : Heap) : OX :=
oh (newC 0 (some 0) (cellsOf v0) h) fun v2 h10 =>
(q6_6 v1 v2 h10)
noncomputable def q6_7k (s : St) : OX := q6_7 (s 0) (s 1) s.h
theorem q6_7_eq (s : St) : W E 0 c_q6_7 s (finP [.t 4]) xN (finP [.t 4]) = q6_7k s :=
  (W_seq (k := q6_6k) (fun s => q6_6_eq s)).trans (by kernel_rfl)
@[simp] theorem pure_81 : E.pure 81 = true := rfl
theorem x_q6 (v0 v1 : AV) : (callW E).p 81 [v0, v1] = q6_7 v0 v1 [⟨0, .dead⟩, ⟨0, .dead⟩, ⟨0, .dead⟩, ⟨0, .dead⟩, ⟨0, .dead⟩, ⟨0, .dead⟩] :=
  (callP_W (cf := c_q6) (by kernel_rfl) rfl).trans ((q6_7_eq _).trans (by kernel_rfl))
noncomputable def q79_1 (v6 : AV) (h : Heap) : OX :=
(expo1 h v6)
noncomputable def q79_1k (s : St) : OX := q79_1 (s 6) s.h
theorem q79_1_eq (s : St) : W E 0 c_q79_1 s (finP [.t 4]) xN (finP [.t 4]) = q79_1k s :=
  by kernel_rfl
noncomputable def q79_2 (v5 v6 : AV) (h : Heap) : OX :=
ob (evFa 0 v5) fun v28 =>
ob (evLd false 1 v28 h) fun v29 =>
oh (callAny E (callW E) 0 none true 23 [v29] h) fun v30 h1 =>
gb v30 true (some v6) fun v32 =>
gb v30 true (evFa 6 v5) fun v33 =>
gb v30 true (evLd false 1 v33 h1) fun v34 =>
gh v30 true (callAny E (callW E) 0 none true 96 [v32, v34] h1) h1 fun v35 h2 =>
gb v30 true (evUn .not v35) fun v36 =>
ob (evPick v30 v36 (AV.bool false)) fun v37 =>
cnd v37
 (ob (evFa 6 v5) fun v39 =>
ob (evLd false 1 v39 h2) fun v40 =>
oh (buildSC 0 (some 3) 1 1 [(.int .i64 0)] [(0, v40)] h2) fun v41 h3 =>
oh (evApp 0 (some 4) 1 8 v6 v41 h3) fun v42 h4 =>
(q79_1 v42 h4))
 ((q79_1 v6 h2))
noncomputable def q79_2k (s : St) : OX := q79_2 (s 5) (s 6) s.h
theorem q79_2_eq (s : St) : W E 0 c_q79_2 s (finP [.t 4]) xN (finP [.t 4]) = q79_2k s :=
  (W_seq (k := q79_1k) (fun s => q79_1_eq s)).trans (by kernel_rfl)
noncomputable def q79_3 (v1 v5 v6 : AV) (h : Heap) : OX :=
ob (evFa 0 v5) fun v21 =>
ob (evLd false 1 v21 h) fun v22 =>
oh (callAny E (callW E) 0 none true 25 [v22] h) fun v23 h5 =>
ob (evUn .not v23) fun v24 =>
cnd v24
 (ob (evBin .add v1 (AV.int .i64 1)) fun v26 =>
oh (buildSC 0 (some 2) 1 1 [(.int .i64 0)] [(0, v26)] h5) fun v27 h6 =>
(q79_2 v5 v27 h6))
 ((q79_2 v5 v6 h5))
noncomputable def q79_3k (s : St) : OX := q79_3 (s 1) (s 5) (s 6) s.h
theorem q79_3_eq (s : St) : W E 0 c_q79_3 s (finP [.t 4]) xN (finP [.t 4]) = q79_3k s :=
  (W_seq (k := q79_2k) (fun s => q79_2_eq s)).trans (by kernel_rfl)
noncomputable def q79_4 (v1 v5 : AV) (h : Heap) : OX :=
(q79_3 v1 v5 AV.nils h)
noncomputable def q79_4k (s : St) : OX := q79_4 (s 1) (s 5) s.h
theorem q79_4_eq (s : St) : W E 0 c_q79_4 s (finP [.t 4]) xN (finP [.t 4]) = q79_4k s :=
  (W_seq (k := q79_3k) (fun s => q79_3_eq s)).trans (by kernel_rfl)
noncomputable def q79_5 (v1 v2 : AV) (h : Heap) : OX :=
ob (evFa 3 v2) fun v16 =>
ob (evLd false 1 v16 h) fun v17 =>
ob (evIxs 9 v17 v1) fun v19 =>
ob (evLd true 9 v19 h) fun v20 =>
oh (newC 0 (some 1) [(.int .i64 0), (.int .i64 0), (.int .i64 0), (.int .i64 0), (.int .i64 0), (.int .i64 0), (.int .i64 0), (.str []), .nils] h) fun v5 h7 =>
oh (evSt 9 v5 v20 h7) fun _ h8 =>
(q79_4 v1 v5 h8)
noncomputable def q79_5k (s : St) : OX := q79_5 (s 1) (s 2) s.h
theorem q79_5_eq (s : St) : W E 0 c_q79_5 s (finP [.t 4]) xN (finP [.t 4]) = q79_5k s :=
  (W_seq (k := q79_4k) (fun s => q79_4_eq s)).trans (by kernel_rfl)
noncomputable def q79_6 (v1 v2 : AV) (h : Heap) : OX :=
ob (evBin .lss v1 (AV.int .i64 0)) fun v8 =>
gb v8 false (some v1) fun v10 =>
gb v8 false (evFa 3 v2) fun v11 =>
gb v8 false (evLd false 1 v11 h) fun v12 =>
gb v8 false (evLen 1 v12 h) fun v13 =>
gb v8 false (evBin .geq v10 v13) fun v14 =>
ob (evPick v8 (AV.bool true) v14) fun v15 =>
cnd v15
 ((expo1 h AV.nils))
 ((q79_5 v1 v2 h))
noncomputable def q79_6k (s : St) : OX := q79_6 (s 1) (s 2) s.h
theorem q79_6_eq (s : St) : W E 0 c_q79_6 s (finP [.t 4]) xN (finP [.t 4]) = q79_6k s :=
  (W_seq (k := q79_5k) (fun s => q79_5_eq s)).trans (by kernel_rfl)
noncomputable def q79_7 (v0 v1 : AV) (h : Heap) : OX :=
oh (newC 0 (some 0) (cellsOf v0) h) fun v2 h9 =>
(q79_6 v1 v2 h9)
noncomputable def q79_7k (s : St) : OX := q79_7 (s 0) (s 1) s.h
theorem q79_7_eq (s : St) : W E 0 c_q79_7 s (finP [.t 4]) xN (finP [.t 4]) = q79_7k s :=
  (W_seq (k := q79_6k) (fun s => q79_6_eq s)).trans (by kernel_rfl)
@[simp] theorem pure_95 : E.pure 95 = true := rfl
theorem x_q79 (v0 v1 : AV) : (callW E).p 95 [v0, v1] = q79_7 v0 v1 [⟨0, .dead⟩, ⟨0, .dead⟩, ⟨0, .dead⟩, ⟨0, .dead⟩, ⟨0, .dead⟩] :=
  (callP_W (cf := c_q79) (by kernel_rfl) rfl).trans ((q79_7_eq _).trans (by kernel_rfl))
noncomputable def q4_1 (v5 : AV) (h : Heap) : OX :=
(expo1 h v5)
noncomputable def q4_1k (s : St) : OX := q4_1 (s 5) s.h
theorem q4_1_eq (s : St) : W E 0 c_q4_1 s (finP [.t 4]) xN (finP [.t 4]) = q4_1k s :=
  by kernel_rfl
noncomputable def q4_L2 (v1 v5 v27 v28 v29 : AV) (h : Heap) : OX :=
  W E 0 c_q4_L2 ⟨[(1, v1), (5, v5), (27, v27), (28, v28), (29, v29)], h⟩ q4_1k (exitTo 0 q4_1k xN) (finP [.t 4])
noncomputable def q4_L2k (s : St) : OX := q4_L2 (s 1) (s 5) (s 27) (s 28) (s 29) s.h
theorem q4_L2_eq (s : St) : W E 0 c_q4_L2 s q4_1k (exitTo 0 q4_1k xN) (finP [.t 4]) = q4_L2k s := W_loop_live.trans (by kernel_rfl)
noncomputable def q4_3 (v1 v5 v27 v28 v29 : AV) (h : Heap) : OX :=
ob (evBin .add v29 (AV.int .i64 1)) fun v56 =>
(q4_L2 v1 v5 v27 v28 v56 h)
noncomputable def q4_3k (s : St) : OX := q4_3 (s 1) (s 5) (s 27) (s 28) (s 29) s.h
theorem q4_3_eq (s : St) : W E 0 c_q4_3 s q4_L2k (exitTo 0 q4_1k xN) (finP [.t 4]) = q4_3k s :=
  by kernel_rfl
noncomputable def q4_4 (v1 v5 v7 v27 v28 v29 : AV) (h : Heap) : OX :=
ob (evFa 3 v7) fun v53 =>
ob (evLd false 1 v53 h) fun v54 =>
ob (evBin .eql v54 (AV.str [])) fun v55 =>
cnd v55
 ((q4_1 v5 h))
 ((q4_3 v1 v5 v27 v28 v29 h))
noncomputable def q4_4k (s : St) : OX := q4_4 (s 1) (s 5) (s 7) (s 27) (s 28) (s 29) s.h
theorem q4_4_eq (s : St) : W E 0 c_q4_4 s q4_3k (exitTo 1 q4_3k (exitTo 0 q4_1k xN)) (finP [.t 4]) = q4_4k s :=
  by kernel_rfl
noncomputable def q4_5 (v1 v5 v7 v27 v28 v29 : AV) (h : Heap) : OX :=
ob (evFa 2 v7) fun v44 =>
ob (evLd false 1 v44 h) fun v45 =>
oh (callAny E (callW E) 0 none true 46 [v5, v45] h) fun v46 h1 =>
ob (evUn .not v46) fun v47 =>
cnd v47
 (ob (evFa 2 v7) fun v49 =>
ob (evLd false 1 v49 h1) fun v50 =>
oh (buildSC 0 (some 2) 1 1 [(.int .i64 0)] [(0, v50)] h1) fun v51 h2 =>
oh (evApp 0 (some 3) 1 8 v5 v51 h2) fun v52 h3 =>
(q4_4 v1 v52 v7 v27 v28 v29 h3))
 ((q4_4 v1 v5 v7 v27 v28 v29 h1))
noncomputable def q4_5k (s : St) : OX := q4_5 (s 1) (s 5) (s 7) (s 27) (s 28) (s 29) s.h
theorem q4_5_eq (s : St) : W E 0 c_q4_5 s q4_3k (exitTo 1 q4_3k (exitTo 0 q4_1k xN)) (finP [.t 4]) = q4_5k s :=
  (W_seq (k := q4_4k) (fun s => q4_4_eq s)).trans (by kernel_rfl)
noncomputable def q4_6 (v1 v5 v7 v27 v28 v29 : AV) (h : Heap) : OX :=
ob (evFa 0 v7) fun v34 =>
ob (evLd false 1 v34 h) fun v35 =>
ob (evBin .lss v1 v35) fun v36 =>
gb v36 false (some v1) fun v38 =>
gb v36 false (evFa 1 v7) fun v39 =>
gb v36 false (evLd false 1 v39 h) fun v40 =>
gb v36 false (evBin .geq v38 v40) fun v41 =>
ob (evPick v36 (AV.bool true) v41) fun v42 =>
cnd v42
 ((q4_3 v1 v5 v27 v28 v29 h))
 ((q4_5 v1 v5 v7 v27 v28 v29 h))
noncomputable def q4_6k (s : St) : OX := q4_6 (s 1) (s 5) (s 7) (s 27) (s 28) (s 29) s.h
theorem q4_6_eq (s : St) : W E 0 c_q4_6 s q4_3k (exitTo 1 q4_3k (exitTo 0 q4_1k xN)) (finP [.t 4]) = q4_6k s :=
  (W_seq (k := q4_5k) (fun s => q4_5_eq s)).trans (by kernel_rfl)
noncomputable def q4_7 (v1 v5 v27 v28 v29 : AV) (h : Heap) : OX :=
ob (evIxs 4 v27 v29) fun v31 =>
ob (evLd true 4 v31 h) fun v32 =>
oh (newC 0 (some 1) [(.int .i64 0), (.int .i64 0), (.int .i64 0), (.str [])] h) fun v7 h4 =>
oh (evSt 4 v7 v32 h4) fun _ h5 =>
(q4_6 v1 v5 v7 v27 v28 v29 h5)
noncomputable def q4_7k (s : St) : OX := q4_7 (s 1) (s 5) (s 27) (s 28) (s 29) s.h
theorem q4_7_eq (s : St) : W E 0 c_q4_7 s q4_3k (exitTo 1 q4_3k (exitTo 0 q4_1k xN)) (finP [.t 4]) = q4_7k s :=
  (W_seq (k := q4_6k) (fun s => q4_6_eq s)).trans (by kernel_rfl)
theorem q4_8_eq (s : St) : W E 0 c_q4_8 s q4_3k (exitTo 0 q4_1k xN) (finP [.t 4]) = q4_7k s :=
  W_block.trans (q4_7_eq s)
theorem q4_9_eq (s : St) : W E 0 c_q4_9 s q4_L2k (exitTo 0 q4_1k xN) (finP [.t 4]) = q4_7k s :=
  (W_seq (k := q4_3k) (fun s => q4_3_eq s)).trans (q4_8_eq s)
noncomputable def q4_10 (v1 v5 v27 v28 v29 v30 : AV) (h : Heap) : OX :=
cnd v30
 ((q4_7 v1 v5 v27 v28 v29 h))
 ((q4_1 v5 h))
noncomputable def q4_10k (s : St) : OX := q4_10 (s 1) (s 5) (s 27) (s 28) (s 29) (s 30) s.h
theorem q4_10_eq (s : St) : W E 0 c_q4_10 s q4_L2k (exitTo 0 q4_1k xN) (finP [.t 4]) = q4_10k s :=
  (W_seq (k := q4_7k) (fun s => q4_9_eq s)).trans (by kernel_rfl)
noncomputable def q4_11 (v1 v5 v27 v28 v29 : AV) (h : Heap) : OX :=
ob (evBin .lss v29 v28) fun v30 =>
(q4_10 v1 v5 v27 v28 v29 v30 h)
noncomputable def q4_11k (s : St) : OX := q4_11 (s 1) (s 5) (s 27) (s 28) (s 29) s.h
theorem q4_11_eq (s : St) : W E 0 c_q4_11 s q4_L2k (exitTo 0 q4_1k xN) (finP [.t 4]) = q4_11k s :=
  (W_seq (k := q4_10k) (fun s => q4_10_eq s)).trans (by kernel_rfl)
theorem q4_L2_go (v1 v5 v27 v28 v29 : AV) (h : Heap) : q4_L2 v1 v5 v27 v28 v29 h = (q4_11 v1 v5 v27 v28 v29 h) :=
  W_loop.trans ((W_congr _ _ _ (n' := q4_L2k) (fun s => q4_L2_eq s)).trans ((q4_11_eq _).trans (by kernel_rfl)))
theorem q4_12_eq (s : St) : W E 0 c_q4_12 s q4_1k xN (finP [.t 4]) = q4_L2k s :=
  W_block.trans (q4_L2_eq s)
noncomputable def q4_13 (v1 v2 v5 : AV) (h : Heap) : OX :=
ob (evFa 4 v2) fun v26 =>
ob (evLd false 1 v26 h) fun v27 =>
ob (evLen 1 v27 h) fun v28 =>
(q4_L2 v1 v5 v27 v28 (AV.int .i64 0) h)
noncomputable def q4_13k (s : St) : OX := q4_13 (s 1) (s 2) (s 5) s.h
theorem q4_13_eq (s : St) : W E 0 c_q4_13 s q4_1k xN (finP [.t 4]) = q4_13k s :=
  (W_seq (k := q4_L2k) (fun s => q4_12_eq s)).trans (by kernel_rfl)
theorem q4_14_eq (s : St) : W E 0 c_q4_14 s (finP [.t 4]) xN (finP [.t 4]) = q4_13k s :=
  (W_seq (k := q4_1k) (fun s => q4_1_eq s)).trans (q4_13_eq s)
noncomputable def q4_15 (v1 v2 : AV) (h : Heap) : OX :=
(q4_13 v1 v2 AV.nils h)
noncomputable def q4_15k (s : St) : OX := q4_15 (s 1) (s 2) s.h
theorem q4_15_eq (s : St) : W E 0 c_q4_15 s (finP [.t 4]) xN (finP [.t 4]) = q4_15k s :=
  (W_seq (k := q4_13k) (fun s => q4_14_eq s)).trans (by kernel_rfl)
noncomputable def q4_16 (v1 v2 : AV) (h : Heap) : OX :=
ob (evBin .lss v1 (AV.int .i64 0)) fun v9 =>
gb v9 false (some v1) fun v11 =>
gb v9 false (evFa 3 v2) fun v12 =>
gb v9 false (evLd false 1 v12 h) fun v13 =>
gb v9 false (evLen 1 v13 h) fun v14 =>
gb v9 false (evBin .geq v11 v14) fun v15 =>
ob (evPick v9 (AV.bool true) v15) fun v16 =>
gb v16 false (evFa 3 v2) fun v18 =>
gb v16 false (evLd false 1 v18 h) fun v19 =>
gb v16 false (some v1) fun v20 =>
gb v16 false (evIxs 9 v19 v20) fun v21 =>
gb v16 false (evLd true 9 v21 h) fun v22 =>
gh v16 false (callAny E (callW E) 0 none true 18 [v22] h) h fun v23 h6 =>
gb v16 false (evUn .not v23) fun v24 =>
ob (evPick v16 (AV.bool true) v24) fun v25 =>
cnd v25
 ((expo1 h6 AV.nils))
 ((q4_15 v1 v2 h6))
noncomputable def q4_16k (s : St) : OX := q4_16 (s 1) (s 2) s.h
theorem q4_16_eq (s : St) : W E 0 c_q4_16 s (finP [.t 4]) xN (finP [.t 4]) = q4_16k s :=
  (W_seq (k := q4_15k) (fun s => q4_15_eq s)).trans (by kernel_rfl)
noncomputable def q4_17 (v0 v1 : AV) (h : Heap) : OX :=
oh (newC 0 (some 0) (cellsOf v0) h) fun v2 h7 =>
(q4_16 v1 v2 h7)
noncomputable def q4_17k (s : St) : OX := q4_17 (s 0) (s 1) s.h
theorem q4_17_eq (s : St) : W E 0 c_q4_17 s (finP [.t 4]) xN (finP [.t 4]) = q4_17k s :=
  (W_seq (k := q4_16k) (fun s => q4_16_eq s)).trans (by kernel_rfl)
@[simp] theorem pure_79 : E.pure 79 = true := rfl
theorem x_q4 (v0 v1 : AV) : (callW E).p 79 [v0, v1] = q4_17 v0 v1 [⟨0, .dead⟩, ⟨0, .dead⟩, ⟨0, .dead⟩, ⟨0, .dead⟩] :=
  (callP_W (cf := c_q4) (by kernel_rfl) rfl).trans ((q4_17_eq _).trans (by kernel_rfl))
noncomputable def q77_1 (v5 : AV) (h : Heap) : OX :=
(expo1 h v5)
noncomputable def q77_1k (s : St) : OX := q77_1 (s 5) s.h
theorem q77_1_eq (s : St) : W E 0 c_q77_1 s (finP [.t 4]) xN (finP [.t 4]) = q77_1k s :=
  by kernel_rfl
noncomputable def q77_L2 (v1 v2 v5 v6 : AV) (h : Heap) : OX :=
  W E 0 c_q77_L2 ⟨[(1, v1), (2, v2), (5, v5), (6, v6)], h⟩ q77_1k (exitTo 0 q77_1k xN) (finP [.t 4])
noncomputable def q77_L2k (s : St) : OX := q77_L2 (s 1) (s 2) (s 5) (s 6) s.h
theorem q77_L2_eq (s : St) : W E 0 c_q77_L2 s q77_1k (exitTo 0 q77_1k xN) (finP [.t 4]) = q77_L2k s := W_loop_live.trans (by kernel_rfl)
noncomputable def q77_3 (v1 v2 v5 v6 : AV) (h : Heap) : OX :=
ob (evBin .add v6 (AV.int .i64 1)) fun v33 =>
(q77_L2 v1 v2 v5 v33 h)
noncomputable def q77_3k (s : St) : OX := q77_3 (s 1) (s 2) (s 5) (s 6) s.h
theorem q77_3_eq (s : St) : W E 0 c_q77_3 s q77_L2k (exitTo 0 q77_1k xN) (finP [.t 4]) = q77_3k s :=
  by kernel_rfl
noncomputable def q77_4 (v1 v2 v5 v6 v7 : AV) (h : Heap) : OX :=
ob (evFa 3 v7) fun v59 =>
ob (evLd false 1 v59 h) fun v60 =>
ob (evBin .eql v60 (AV.str [])) fun v61 =>
cnd v61
 ((expo1 h v5))
 ((q77_3 v1 v2 v5 v6 h))
noncomputable def q77_4k (s : St) : OX := q77_4 (s 1) (s 2) (s 5) (s 6) (s 7) s.h
theorem q77_4_eq (s : St) : W E 0 c_q77_4 s q77_3k (exitTo 1 q77_3k (exitTo 0 q77_1k xN)) (finP [.t 4]) = q77_4k s :=
  by kernel_rfl
noncomputable def q77_5 (v1 v2 v5 v6 v7 : AV) (h : Heap) : OX :=
ob (evFa 2 v7) fun v50 =>
ob (evLd false 1 v50 h) fun v51 =>
oh (callAny E (callW E) 0 none true 96 [v5, v51] h) fun v52 h1 =>
ob (evUn .not v52) fun v53 =>
cnd v53
 (ob (evFa 2 v7) fun v55 =>
ob (evLd false 1 v55 h1) fun v56 =>
oh (buildSC 0 (some 2) 1 1 [(.int .i64 0)] [(0, v56)] h1) fun v57 h2 =>
oh (evApp 0 (some 3) 1 8 v5 v57 h2) fun v58 h3 =>
(q77_4 v1 v2 v58 v6 v7 h3))
 ((q77_4 v1 v2 v5 v6 v7 h1))
noncomputable def q77_5k (s : St) : OX := q77_5 (s 1) (s 2) (s 5) (s 6) (s 7) s.h
theorem q77_5_eq (s : St) : W E 0 c_q77_5 s q77_3k (exitTo 1 q77_3k (exitTo 0 q77_1k xN)) (finP [.t 4]) = q77_5k s :=
  (W_seq (k := q77_4k) (fun s => q77_4_eq s)).trans (by kernel_rfl)
noncomputable def q77_6 (v1 v2 v5 v6 v7 v48 : AV) (h : Heap) : OX :=
cnd v48
 ((q77_5 v1 v2 v5 v6 v7 h))
 ((q77_3 v1 v2 v5 v6 h))
noncomputable def q77_6k (s : St) : OX := q77_6 (s 1) (s 2) (s 5) (s 6) (s 7) (s 48) s.h
theorem q77_6_eq (s : St) : W E 0 c_q77_6 s q77_3k (exitTo 1 q77_3k (exitTo 0 q77_1k xN)) (finP [.t 4]) = q77_6k s :=
  (W_cond (q77_5_eq s) rfl).trans (by kernel_rfl)
noncomputable def q77_7 (v1 v2 v5 v6 v7 : AV) (h : Heap) : OX :=
ob (evFa 0 v7) fun v39 =>
ob (evLd false 1 v39 h) fun v40 =>
ob (evBin .leq v40 v1) fun v42 =>
gb v42 true (some v1) fun v44 =>
gb v42 true (evFa 1 v7) fun v45 =>
gb v42 true (evLd false 1 v45 h) fun v46 =>
gb v42 true (evBin .lss v44 v46) fun v47 =>
ob (evPick v42 v47 (AV.bool false)) fun v48 =>
(q77_6 v1 v2 v5 v6 v7 v48 h)
noncomputable def q77_7k (s : St) : OX := q77_7 (s 1) (s 2) (s 5) (s 6) (s 7) s.h
theorem q77_7_eq (s : St) : W E 0 c_q77_7 s q77_3k (exitTo 1 q77_3k (exitTo 0 q77_1k xN)) (finP [.t 4]) = q77_7k s :=
  (W_seq (k := q77_6k) (fun s => q77_6_eq s)).trans (by kernel_rfl)
noncomputable def q77_8 (v1 v2 v5 v6 : AV) (h : Heap) : OX :=
ob (evFa 4 v2) fun v34 =>
ob (evLd false 1 v34 h) fun v35 =>
ob (evIxs 4 v35 v6) fun v37 =>
ob (evLd true 4 v37 h) fun v38 =>
oh (newC 0 (some 1) [(.int .i64 0), (.int .i64 0), (.int .i64 0), (.str [])] h) fun v7 h4 =>
oh (evSt 4 v7 v38 h4) fun _ h5 =>
(q77_7 v1 v2 v5 v6 v7 h5)
noncomputable def q77_8k (s : St) : OX := q77_8 (s 1) (s 2) (s 5) (s 6) s.h
theorem q77_8_eq (s : St) : W E 0 c_q77_8 s q77_3k (exitTo 1 q77_3k (exitTo 0 q77_1k xN)) (finP [.t 4]) = q77_8k s :=
  (W_seq (k := q77_7k) (fun s => q77_7_eq s)).trans (by kernel_rfl)
theorem q77_9_eq (s : St) : W E 0 c_q77_9 s q77_3k (exitTo 0 q77_1k xN) (finP [.t 4]) = q77_8k s :=
  W_block.trans (q77_8_eq s)
theorem q77_10_eq (s : St) : W E 0 c_q77_10 s q77_L2k (exitTo 0 q77_1k xN) (finP [.t 4]) = q77_8k s :=
  (W_seq (k := q77_3k) (fun s => q77_3_eq s)).trans (q77_9_eq s)
noncomputable def q77_11 (v1 v2 v5 v6 : AV) (h : Heap) : OX :=
ob (evFa 4 v2) fun v28 =>
ob (evLd false 1 v28 h) fun v29 =>
ob (evLen 1 v29 h) fun v30 =>
ob (evBin .lss v6 v30) fun v31 =>
cnd v31
 ((q77_8 v1 v2 v5 v6 h))
 ((q77_1 v5 h))
noncomputable def q77_11k (s : St) : OX := q77_11 (s 1) (s 2) (s 5) (s 6) s.h
theorem q77_11_eq (s : St) : W E 0 c_q77_11 s q77_L2k (exitTo 0 q77_1k xN) (finP [.t 4]) = q77_11k s :=
  (W_seq (k := q77_8k) (fun s => q77_10_eq s)).trans (by kernel_rfl)
theorem q77_L2_go (v1 v2 v5 v6 : AV) (h : Heap) : q77_L2 v1 v2 v5 v6 h = (q77_11 v1 v2 v5 v6 h) :=
  W_loop.trans ((W_congr _ _ _ (n' := q77_L2k) (fun s => q77_L2_eq s)).trans ((q77_11_eq _).trans (by kernel_rfl)))
theorem q77_12_eq (s : St) : W E 0 c_q77_12 s q77_1k xN (finP [.t 4]) = q77_L2k s :=
  W_block.trans (q77_L2_eq s)
noncomputable def q77_13 (v1 v2 v5 : AV) (h : Heap) : OX :=
(q77_L2 v1 v2 v5 (AV.int .i64 0) h)
noncomputable def q77_13k (s : St) : OX := q77_13 (s 1) (s 2) (s 5) s.h
theorem q77_13_eq (s : St) : W E 0 c_q77_13 s q77_1k xN (finP [.t 4]) = q77_13k s :=
  (W_seq (k := q77_L2k) (fun s => q77_12_eq s)).trans (by kernel_rfl)
theorem q77_14_eq (s : St) : W E 0 c_q77_14 s (finP [.t 4]) xN (finP [.t 4]) = q77_13k s :=
  (W_seq (k := q77_1k) (fun s => q77_1_eq s)).trans (q77_13_eq s)
noncomputable def q77_15 (v1 v2 v5 : AV) (h : Heap) : OX :=
ob (evBin .lss v1 (AV.int .i64 0)) fun v9 =>
gb v9 false (some v1) fun v11 =>
gb v9 false (evFa 3 v2) fun v12 =>
gb v9 false (evLd false 1 v12 h) fun v13 =>
gb v9 false (evLen 1 v13 h) fun v14 =>
gb v9 false (evBin .geq v11 v14) fun v15 =>
ob (evPick v9 (AV.bool true) v15) fun v16 =>
gb v16 false (evFa 3 v2) fun v18 =>
gb v16 false (evLd false 1 v18 h) fun v19 =>
gb v16 false (some v1) fun v20 =>
gb v16 false (evIxs 9 v19 v20) fun v21 =>
gb v16 false (evFa 0 v21) fun v22 =>
gb v16 false (evLd false 1 v22 h) fun v23 =>
gh v16 false (callAny E (callW E) 0 none true 19 [v23] h) h fun v24 h6 =>
gb v16 false (evUn .not v24) fun v25 =>
ob (evPick v16 (AV.bool true) v25) fun v26 =>
cnd v26
 ((expo1 h6 AV.nils))
 ((q77_13 v1 v2 v5 h6))
noncomputable def q77_15k (s : St) : OX := q77_15 (s 1) (s 2) (s 5) s.h
theorem q77_15_eq (s : St) : W E 0 c_q77_15 s (finP [.t 4]) xN (finP [.t 4]) = q77_15k s :=
  (W_seq (k := q77_13k) (fun s => q77_14_eq s)).trans (by kernel_rfl)
noncomputable def q77_16 (v1 v2 : AV) (h : Heap) : OX :=
(q77_15 v1 v2 AV.nils h)
noncomputable def q77_16k (s : St) : OX := q77_16 (s 1) (s 2) s.h
theorem q77_16_eq (s : St) : W E 0 c_q77_16 s (finP [.t 4]) xN (finP [.t 4]) = q77_16k s :=
  (W_seq (k := q77_15k) (fun s => q77_15_eq s)).trans (by kernel_rfl)
noncomputable def q77_17 (v0 v1 : AV) (h : Heap) : OX :=
oh (newC 0 (some 0) (cellsOf v0) h) fun v2 h7 =>
(q77_16 v1 v2 h7)
noncomputable def q77_17k (s : St) : OX := q77_17 (s 0) (s 1) s.h
theorem q77_17_eq (s : St) : W E 0 c_q77_17 s (finP [.t 4]) xN (finP [.t 4]) = q77_17k s :=
  (W_seq (k := q77_16k) (fun s => q77_16_eq s)).trans (by kernel_rfl)
@[simp] theorem pure_92 : E.pure 92 = true := rfl
theorem x_q77 (v0 v1 : AV) : (callW E).p 92 [v0, v1] = q77_17 v0 v1 [⟨0, .dead⟩, ⟨0, .dead⟩, ⟨0, .dead⟩, ⟨0, .dead⟩] :=
  (callP_W (cf := c_q77) (by kernel_rfl) rfl).trans ((q77_17_eq _).trans (by kernel_rfl))
noncomputable def q7_1 (v3 : AV) (h : Heap) : OX :=
(expo1 h v3)
noncomputable def q7_1k (s : St) : OX := q7_1 (s 3) s.h
theorem q7_1_eq (s : St) : W E 0 c_q7_1 s (finP [.t 2]) xN (finP [.t 2]) = q7_1k s :=
  by kernel_rfl
noncomputable def q7_L2 (v1 v3 v4 : AV) (h : Heap) : OX :=
  W E 0 c_q7_L2 ⟨[(1, v1), (3, v3), (4, v4)], h⟩ q7_1k (exitTo 0 q7_1k xN) (finP [.t 2])
noncomputable def q7_L2k (s : St) : OX := q7_L2 (s 1) (s 3) (s 4) s.h
theorem q7_L2_eq (s : St) : W E 0 c_q7_L2 s q7_1k (exitTo 0 q7_1k xN) (finP [.t 2]) = q7_L2k s := W_loop_live.trans (by kernel_rfl)
noncomputable def q7_3 (v1 v3 v4 v5 : AV) (h : Heap) : OX :=
ob (evIxs 1 v3 v5) fun v41 =>
oh (evSt 1 v41 (AV.bool true) h) fun _ h1 =>
ob (evLd true 5 v1 h1) fun v43 =>
oh (callAny E (callW E) 0 none true 81 [v43, v5] h1) fun v45 h2 =>
oh (evApp 0 (some 3) 1 8 v4 v45 h2) fun v46 h3 =>
ob (evLd true 5 v1 h3) fun v48 =>
oh (callAny E (callW E) 0 none true 79 [v48, v5] h3) fun v50 h4 =>
oh (evApp 0 (some 4) 1 8 v46 v50 h4) fun v51 h5 =>
(q7_L2 v1 v3 v51 h5)
noncomputable def q7_3k (s : St) : OX := q7_3 (s 1) (s 3) (s 4) (s 5) s.h
theorem q7_3_eq (s : St) : W E 0 c_q7_3 s q7_L2k (exitTo 1 q7_L2k (exitTo 0 q7_1k xN)) (finP [.t 2]) = q7_3k s :=
  by kernel_rfl
noncomputable def q7_4 (v1 v3 v4 v5 : AV) (h : Heap) : OX :=
ob (evBin .lss v5 (AV.int .i64 0)) fun v26 =>
gb v26 false (some v5) fun v28 =>
gb v26 false (some v3) fun v29 =>
gb v26 false (evLen 1 v29 h) fun v30 =>
gb v26 false (evBin .geq v28 v30) fun v31 =>
ob (evPick v26 (AV.bool true) v31) fun v32 =>
gb v32 false (some v3) fun v34 =>
gb v32 false (some v5) fun v35 =>
gb v32 false (evIxs 1 v34 v35) fun v36 =>
gb v32 false (evLd false 1 v36 h) fun v37 =>
ob (evPick v32 (AV.bool true) v37) fun v38 =>
cnd v38
 ((q7_L2 v1 v3 v4 h))
 ((q7_3 v1 v3 v4 v5 h))
noncomputable def q7_4k (s : St) : OX := q7_4 (s 1) (s 3) (s 4) (s 5) s.h
theorem q7_4_eq (s : St) : W E 0 c_q7_4 s q7_L2k (exitTo 1 q7_L2k (exitTo 0 q7_1k xN)) (finP [.t 2]) = q7_4k s :=
  (W_seq (k := q7_3k) (fun s => q7_3_eq s)).trans (by kernel_rfl)
noncomputable def q7_5 (v1 v3 v4 v5 : AV) (h : Heap) : OX :=
ob (evLen 1 v4 h) fun v22 =>
ob (evBin .sub v22 (AV.int .i64 1)) fun v23 =>
ob (evSlcO 1 v4 none (some v23)) fun v24 =>
(q7_4 v1 v3 v24 v5 h)
noncomputable def q7_5k (s : St) : OX := q7_5 (s 1) (s 3) (s 4) (s 5) s.h
theorem q7_5_eq (s : St) : W E 0 c_q7_5 s q7_L2k (exitTo 1 q7_L2k (exitTo 0 q7_1k xN)) (finP [.t 2]) = q7_5k s :=
  (W_seq (k := q7_4k) (fun s => q7_4_eq s)).trans (by kernel_rfl)
noncomputable def q7_6 (v1 v3 v4 : AV) (h : Heap) : OX :=
ob (evLen 1 v4 h) fun v16 =>
ob (evBin .sub v16 (AV.int .i64 1)) fun v17 =>
ob (evIxs 1 v4 v17) fun v18 =>
ob (evLd false 1 v18 h) fun v19 =>
(q7_5 v1 v3 v4 v19 h)
noncomputable def q7_6k (s : St) : OX := q7_6 (s 1) (s 3) (s 4) s.h
theorem q7_6_eq (s : St) : W E 0 c_q7_6 s q7_L2k (exitTo 1 q7_L2k (exitTo 0 q7_1k xN)) (finP [.t 2]) = q7_6k s :=
  (W_seq (k := q7_5k) (fun s => q7_5_eq s)).trans (by kernel_rfl)
theorem q7_7_eq (s : St) : W E 0 c_q7_7 s q7_L2k (exitTo 0 q7_1k xN) (finP [.t 2]) = q7_6k s :=
  W_block.trans (q7_6_eq s)
noncomputable def q7_8 (v1 v3 v4 : AV) (h : Heap) : OX :=
ob (evLen 1 v4 h) fun v12 =>
ob (evBin .gtr v12 (AV.int .i64 0)) fun v13 =>
cnd v13
 ((q7_6 v1 v3 v4 h))
 ((q7_1 v3 h))
noncomputable def q7_8k (s : St) : OX := q7_8 (s 1) (s 3) (s 4) s.h
theorem q7_8_eq (s : St) : W E 0 c_q7_8 s q7_L2k (exitTo 0 q7_1k xN) (finP [.t 2]) = q7_8k s :=
  (W_seq (k := q7_6k) (fun s => q7_7_eq s)).trans (by kernel_rfl)
theorem q7_L2_go (v1 v3 v4 : AV) (h : Heap) : q7_L2 v1 v3 v4 h = (q7_8 v1 v3 v4 h) :=
  W_loop.trans ((W_congr _ _ _ (n' := q7_L2k) (fun s => q7_L2_eq s)).trans ((q7_8_eq _).trans (by kernel_rfl)))
theorem q7_9_eq (s : St) : W E 0 c_q7_9 s q7_1k xN (finP [.t 2]) = q7_L2k s :=
  W_block.trans (q7_L2_eq s)
theorem q7_10_eq (s : St) : W E 0 c_q7_10 s (finP [.t 2]) xN (finP [.t 2]) = q7_L2k s :=
  (W_seq (k := q7_1k) (fun s => q7_1_eq s)).trans (q7_9_eq s)
noncomputable def q7_11 (v1 v3 : AV) (h : Heap) : OX :=
oh (buildSC 0 (some 2) 1 1 [(.int .i64 0)] [(0, (AV.int .i64 0))] h) fun v10 h6 =>
(q7_L2 v1 v3 v10 h6)
noncomputable def q7_11k (s : St) : OX := q7_11 (s 1) (s 3) s.h
theorem q7_11_eq (s : St) : W E 0 c_q7_11 s (finP [.t 2]) xN (finP [.t 2]) = q7_11k s :=
  (W_seq (k := q7_L2k) (fun s => q7_10_eq s)).trans (by kernel_rfl)
noncomputable def q7_12 (v1 : AV) (h : Heap) : OX :=
ob (evFa 3 v1) fun v6 =>
ob (evLd false 1 v6 h) fun v7 =>
ob (evLen 1 v7 h) fun v8 =>
oh (mkSC 0 (some 1) 1 1 [(.bool false)] v8 v8 h) fun v9 h7 =>
(q7_11 v1 v9 h7)
noncomputable def q7_12k (s : St) : OX := q7_12 (s 1) s.h
theorem q7_12_eq (s : St) : W E 0 c_q7_12 s (finP [.t 2]) xN (finP [.t 2]) = q7_12k s :=
  (W_seq (k := q7_11k) (fun s => q7_11_eq s)).trans (by kernel_rfl)
noncomputable def q7_13 (v0 : AV) (h : Heap) : OX :=
oh (newC 0 (some 0) (cellsOf v0) h) fun v1 h8 =>
(q7_12 v1 h8)
noncomputable def q7_13k (s : St) : OX := q7_13 (s 0) s.h
theorem q7_13_eq (s : St) : W E 0 c_q7_13 s (finP [.t 2]) xN (finP [.t 2]) = q7_13k s :=
  (W_seq (k := q7_12k) (fun s => q7_12_eq s)).trans (by kernel_rfl)
@[simp] theorem pure_101 : E.pure 101 = true := rfl
theorem x_q7 (v0 : AV) : (callW E).p 101 [v0] = q7_13 v0 [⟨0, .dead⟩, ⟨0, .dead⟩, ⟨0, .dead⟩, ⟨0, .dead⟩, ⟨0, .dead⟩] :=
  (callP_W (cf := c_q7) (by kernel_rfl) rfl).trans ((q7_13_eq _).trans (by kernel_rfl))
noncomputable def q5_1 (v10 : AV) (h : Heap) : OX :=
(expo1 h v10)
noncomputable def q5_1k (s : St) : OX := q5_1 (s 10) s.h
theorem q5_1_eq (s : St) : W E 0 c_q5_1 s (finP [.t 2]) xN (finP [.t 2]) = q5_1k s :=
  by kernel_rfl
noncomputable def q5_L2 (v3 v10 v96 v97 : AV) (h : Heap) : OX :=
  W E 0 c_q5_L2 ⟨[(3, v3), (10, v10), (96, v96), (97, v97)], h⟩ q5_1k (exitTo 6 q5_1k xN) (finP [.t 2])
noncomputable def q5_L2k (s : St) : OX := q5_L2 (s 3) (s 10) (s 96) (s 97) s.h
theorem q5_L2_eq (s : St) : W E 0 c_q5_L2 s q5_1k (exitTo 6 q5_1k xN) (finP [.t 2]) = q5_L2k s := W_loop_live.trans (by kernel_rfl)
noncomputable def q5_3 (v3 v10 v96 v97 : AV) (h : Heap) : OX :=
ob (evBin .add v97 (AV.int .i64 1)) fun v108 =>
(q5_L2 v3 v10 v96 v108 h)
noncomputable def q5_3k (s : St) : OX := q5_3 (s 3) (s 10) (s 96) (s 97) s.h
theorem q5_3_eq (s : St) : W E 0 c_q5_3 s q5_L2k (exitTo 6 q5_1k xN) (finP [.t 2]) = q5_3k s :=
  by kernel_rfl
noncomputable def q5_4 (v3 v10 v96 v97 : AV) (h : Heap) : OX :=
ob (evIxs 1 v3 v97) fun v102 =>
ob (evLd false 1 v102 h) fun v103 =>
cnd v103
 (oh (buildSC 0 (some 5) 1 1 [(.int .i64 0)] [(0, v97)] h) fun v106 h1 =>
oh (evApp 0 (some 6) 1 8 v10 v106 h1) fun v107 h2 =>
(q5_3 v3 v107 v96 v97 h2))
 ((q5_3 v3 v10 v96 v97 h))
noncomputable def q5_4k (s : St) : OX := q5_4 (s 3) (s 10) (s 96) (s 97) s.h
theorem q5_4_eq (s : St) : W E 0 c_q5_4 s q5_L2k (exitTo 6 q5_1k xN) (finP [.t 2]) = q5_4k s :=
  (W_seq (k := q5_3k) (fun s => q5_3_eq s)).trans (by kernel_rfl)
noncomputable def q5_5 (v3 v10 v96 v97 v98 : AV) (h : Heap) : OX :=
cnd v98
 ((q5_4 v3 v10 v96 v97 h))
 ((q5_1 v10 h))
noncomputable def q5_5k (s : St) : OX := q5_5 (s 3) (s 10) (s 96) (s 97) (s 98) s.h
theorem q5_5_eq (s : St) : W E 0 c_q5_5 s q5_L2k (exitTo 6 q5_1k xN) (finP [.t 2]) = q5_5k s :=
  (W_seq (k := q5_4k) (fun s => q5_4_eq s)).trans (by kernel_rfl)
noncomputable def q5_6 (v3 v10 v96 v97 : AV) (h : Heap) : OX :=
ob (evBin .lss v97 v96) fun v98 =>
(q5_5 v3 v10 v96 v97 v98 h)
noncomputable def q5_6k (s : St) : OX := q5_6 (s 3) (s 10) (s 96) (s 97) s.h
theorem q5_6_eq (s : St) : W E 0 c_q5_6 s q5_L2k (exitTo 6 q5_1k xN) (finP [.t 2]) = q5_6k s :=
  (W_seq (k := q5_5k) (fun s => q5_5_eq s)).trans (by kernel_rfl)
theorem q5_L2_go (v3 v10 v96 v97 : AV) (h : Heap) : q5_L2 v3 v10 v96 v97 h = (q5_6 v3 v10 v96 v97 h) :=
  W_loop.trans ((W_congr _ _ _ (n' := q5_L2k) (fun s => q5_L2_eq s)).trans ((q5_6_eq _).trans (by kernel_rfl)))
theorem q5_7_eq (s : St) : W E 0 c_q5_7 s q5_1k xN (finP [.t 2]) = q5_L2k s :=
  W_block.trans (q5_L2_eq s)
noncomputable def q5_8 (v1 v3 v10 : AV) (h : Heap) : OX :=
ob (evFa 3 v1) fun v94 =>
ob (evLd false 1 v94 h) fun v95 =>
ob (evLen 1 v95 h) fun v96 =>
(q5_L2 v3 v10 v96 (AV.int .i64 0) h)
noncomputable def q5_8k (s : St) : OX := q5_8 (s 1) (s 3) (s 10) s.h
theorem q5_8_eq (s : St) : W E 0 c_q5_8 s q5_1k xN (finP [.t 2]) = q5_8k s :=
  (W_seq (k := q5_L2k) (fun s => q5_7_eq s)).trans (by kernel_rfl)
theorem q5_9_eq (s : St) : W E 0 c_q5_9 s (finP [.t 2]) xN (finP [.t 2]) = q5_8k s :=
  (W_seq (k := q5_1k) (fun s => q5_1_eq s)).trans (q5_8_eq s)
noncomputable def q5_10 (v1 v3 : AV) (h : Heap) : OX :=
(q5_8 v1 v3 AV.nils h)
noncomputable def q5_10k (s : St) : OX := q5_10 (s 1) (s 3) s.h
theorem q5_10_eq (s : St) : W E 0 c_q5_10 s (finP [.t 2]) xN (finP [.t 2]) = q5_10k s :=
  (W_seq (k := q5_8k) (fun s => q5_9_eq s)).trans (by kernel_rfl)
noncomputable def q5_L11 (v1 v3 v62 v63 v64 : AV) (h : Heap) : OX :=
  W E 0 c_q5_L11 ⟨[(1, v1), (3, v3), (62, v62), (63, v63), (64, v64)], h⟩ q5_10k (exitTo 2 q5_10k xN) (finP [.t 2])
noncomputable def q5_L11k (s : St) : OX := q5_L11 (s 1) (s 3) (s 62) (s 63) (s 64) s.h
theorem q5_L11_eq (s : St) : W E 0 c_q5_L11 s q5_10k (exitTo 2 q5_10k xN) (finP [.t 2]) = q5_L11k s := W_loop_live.trans (by kernel_rfl)
noncomputable def q5_12 (v1 v3 v62 v63 v64 : AV) (h : Heap) : OX :=
ob (evBin .add v64 (AV.int .i64 1)) fun v93 =>
(q5_L11 v1 v3 v62 v63 v93 h)
noncomputable def q5_12k (s : St) : OX := q5_12 (s 1) (s 3) (s 62) (s 63) (s 64) s.h
theorem q5_12_eq (s : St) : W E 0 c_q5_12 s q5_L11k (exitTo 2 q5_10k xN) (finP [.t 2]) = q5_12k s :=
  by kernel_rfl
noncomputable def q5_L13 (v1 v3 v62 v63 v64 v74 v75 v76 : AV) (h : Heap) : OX :=
  W E 0 c_q5_L13 ⟨[(1, v1), (3, v3), (62, v62), (63, v63), (64, v64), (74, v74), (75, v75), (76, v76)], h⟩ q5_12k (exitTo 4 q5_12k (exitTo 3 q5_12k (exitTo 2 q5_10k xN))) (finP [.t 2])
noncomputable def q5_L13k (s : St) : OX := q5_L13 (s 1) (s 3) (s 62) (s 63) (s 64) (s 74) (s 75) (s 76) s.h
theorem q5_L13_eq (s : St) : W E 0 c_q5_L13 s q5_12k (exitTo 4 q5_12k (exitTo 3 q5_12k (exitTo 2 q5_10k xN))) (finP [.t 2]) = q5_L13k s := W_loop_live.trans (by kernel_rfl)
noncomputable def q5_14 (v1 v3 v62 v63 v64 v74 v75 v76 : AV) (h : Heap) : OX :=
ob (evBin .add v76 (AV.int .i64 1)) fun v92 =>
(q5_L13 v1 v3 v62 v63 v64 v74 v75 v92 h)
noncomputable def q5_14k (s : St) : OX := q5_14 (s 1) (s 3) (s 62) (s 63) (s 64) (s 74) (s 75) (s 76) s.h
theorem q5_14_eq (s : St) : W E 0 c_q5_14 s q5_L13k (exitTo 4 q5_12k (exitTo 3 q5_12k (exitTo 2 q5_10k xN))) (finP [.t 2]) = q5_14k s :=
  by kernel_rfl
noncomputable def q5_15 (v1 v3 v62 v63 v64 v74 v75 v76 : AV) (h : Heap) : OX :=
ob (evIxs 1 v74 v76) fun v78 =>
ob (evLd false 1 v78 h) fun v79 =>
ob (evBin .geq v79 (AV.int .i64 0)) fun v81 =>
gb v81 true (some v79) fun v83 =>
gb v81 true (evFa 3 v1) fun v84 =>
gb v81 true (evLd false 1 v84 h) fun v85 =>
gb v81 true (evLen 1 v85 h) fun v86 =>
gb v81 true (evBin .lss v83 v86) fun v87 =>
ob (evPick v81 v87 (AV.bool false)) fun v88 =>
cnd v88
 (ob (evIxs 1 v3 v79) fun v91 =>
oh (evSt 1 v91 (AV.bool true) h) fun _ h3 =>
(q5_14 v1 v3 v62 v63 v64 v74 v75 v76 h3))
 ((q5_14 v1 v3 v62 v63 v64 v74 v75 v76 h))
noncomputable def q5_15k (s : St) : OX := q5_15 (s 1) (s 3) (s 62) (s 63) (s 64) (s 74) (s 75) (s 76) s.h
theorem q5_15_eq (s : St) : W E 0 c_q5_15 s q5_L13k (exitTo 4 q5_12k (exitTo 3 q5_12k (exitTo 2 q5_10k xN))) (finP [.t 2]) = q5_15k s :=
  (W_seq (k := q5_14k) (fun s => q5_14_eq s)).trans (by kernel_rfl)
noncomputable def q5_16 (v1 v3 v62 v63 v64 v74 v75 v76 v77 : AV) (h : Heap) : OX :=
cnd v77
 ((q5_15 v1 v3 v62 v63 v64 v74 v75 v76 h))
 ((q5_12 v1 v3 v62 v63 v64 h))
noncomputable def q5_16k (s : St) : OX := q5_16 (s 1) (s 3) (s 62) (s 63) (s 64) (s 74) (s 75) (s 76) (s 77) s.h
theorem q5_16_eq (s : St) : W E 0 c_q5_16 s q5_L13k (exitTo 4 q5_12k (exitTo 3 q5_12k (exitTo 2 q5_10k xN))) (finP [.t 2]) = q5_16k s :=
  (W_seq (k := q5_15k) (fun s => q5_15_eq s)).trans (by kernel_rfl)
noncomputable def q5_17 (v1 v3 v62 v63 v64 v74 v75 v76 : AV) (h : Heap) : OX :=
ob (evBin .lss v76 v75) fun v77 =>
(q5_16 v1 v3 v62 v63 v64 v74 v75 v76 v77 h)
noncomputable def q5_17k (s : St) : OX := q5_17 (s 1) (s 3) (s 62) (s 63) (s 64) (s 74) (s 75) (s 76) s.h
theorem q5_17_eq (s : St) : W E 0 c_q5_17 s q5_L13k (exitTo 4 q5_12k (exitTo 3 q5_12k (exitTo 2 q5_10k xN))) (finP [.t 2]) = q5_17k s :=
  (W_seq (k := q5_16k) (fun s => q5_16_eq s)).trans (by kernel_rfl)
theorem q5_L13_go (v1 v3 v62 v63 v64 v74 v75 v76 : AV) (h : Heap) : q5_L13 v1 v3 v62 v63 v64 v74 v75 v76 h = (q5_17 v1 v3 v62 v63 v64 v74 v75 v76 h) :=
  W_loop.trans ((W_congr _ _ _ (n' := q5_L13k) (fun s => q5_L13_eq s)).trans ((q5_17_eq _).trans (by kernel_rfl)))
theorem q5_18_eq (s : St) : W E 0 c_q5_18 s q5_12k (exitTo 3 q5_12k (exitTo 2 q5_10k xN)) (finP [.t 2]) = q5_L13k s :=
  W_block.trans (q5_L13_eq s)
noncomputable def q5_19 (v1 v3 v7 v62 v63 v64 : AV) (h : Heap) : OX :=
ob (evFa 0 v7) fun v68 =>
ob (evLd false 1 v68 h) fun v69 =>
ob (evFa 1 v7) fun v70 =>
ob (evLd false 1 v70 h) fun v71 =>
ob (evFa 2 v7) fun v72 =>
ob (evLd false 1 v72 h) fun v73 =>
oh (buildSC 0 (some 4) 1 3 [(.int .i64 0)] [(0, v69), (1, v71), (2, v73)] h) fun v74 h4 =>
ob (evLen 1 v74 h4) fun v75 =>
(q5_L13 v1 v3 v62 v63 v64 v74 v75 (AV.int .i64 0) h4)
noncomputable def q5_19k (s : St) : OX := q5_19 (s 1) (s 3) (s 7) (s 62) (s 63) (s 64) s.h
theorem q5_19_eq (s : St) : W E 0 c_q5_19 s q5_12k (exitTo 3 q5_12k (exitTo 2 q5_10k xN)) (finP [.t 2]) = q5_19k s :=
  (W_seq (k := q5_L13k) (fun s => q5_18_eq s)).trans (by kernel_rfl)
noncomputable def q5_20 (v1 v3 v62 v63 v64 : AV) (h : Heap) : OX :=
ob (evIxs 4 v62 v64) fun v66 =>
ob (evLd true 4 v66 h) fun v67 =>
oh (newC 0 (some 3) [(.int .i64 0), (.int .i64 0), (.int .i64 0), (.str [])] h) fun v7 h5 =>
oh (evSt 4 v7 v67 h5) fun _ h6 =>
(q5_19 v1 v3 v7 v62 v63 v64 h6)
noncomputable def q5_20k (s : St) : OX := q5_20 (s 1) (s 3) (s 62) (s 63) (s 64) s.h
theorem q5_20_eq (s : St) : W E 0 c_q5_20 s q5_12k (exitTo 3 q5_12k (exitTo 2 q5_10k xN)) (finP [.t 2]) = q5_20k s :=
  (W_seq (k := q5_19k) (fun s => q5_19_eq s)).trans (by kernel_rfl)
theorem q5_21_eq (s : St) : W E 0 c_q5_21 s q5_12k (exitTo 2 q5_10k xN) (finP [.t 2]) = q5_20k s :=
  W_block.trans (q5_20_eq s)
theorem q5_22_eq (s : St) : W E 0 c_q5_22 s q5_L11k (exitTo 2 q5_10k xN) (finP [.t 2]) = q5_20k s :=
  (W_seq (k := q5_12k) (fun s => q5_12_eq s)).trans (q5_21_eq s)
noncomputable def q5_23 (v1 v3 v62 v63 v64 v65 : AV) (h : Heap) : OX :=
cnd v65
 ((q5_20 v1 v3 v62 v63 v64 h))
 ((q5_10 v1 v3 h))
noncomputable def q5_23k (s : St) : OX := q5_23 (s 1) (s 3) (s 62) (s 63) (s 64) (s 65) s.h
theorem q5_23_eq (s : St) : W E 0 c_q5_23 s q5_L11k (exitTo 2 q5_10k xN) (finP [.t 2]) = q5_23k s :=
  (W_seq (k := q5_20k) (fun s => q5_22_eq s)).trans (by kernel_rfl)
noncomputable def q5_24 (v1 v3 v62 v63 v64 : AV) (h : Heap) : OX :=
ob (evBin .lss v64 v63) fun v65 =>
(q5_23 v1 v3 v62 v63 v64 v65 h)
noncomputable def q5_24k (s : St) : OX := q5_24 (s 1) (s 3) (s 62) (s 63) (s 64) s.h
theorem q5_24_eq (s : St) : W E 0 c_q5_24 s q5_L11k (exitTo 2 q5_10k xN) (finP [.t 2]) = q5_24k s :=
  (W_seq (k := q5_23k) (fun s => q5_23_eq s)).trans (by kernel_rfl)
theorem q5_L11_go (v1 v3 v62 v63 v64 : AV) (h : Heap) : q5_L11 v1 v3 v62 v63 v64 h = (q5_24 v1 v3 v62 v63 v64 h) :=
  W_loop.trans ((W_congr _ _ _ (n' := q5_L11k) (fun s => q5_L11_eq s)).trans ((q5_24_eq _).trans (by kernel_rfl)))
theorem q5_25_eq (s : St) : W E 0 c_q5_25 s q5_10k xN (finP [.t 2]) = q5_L11k s :=
  W_block.trans (q5_L11_eq s)
noncomputable def q5_26 (v1 v3 : AV) (h : Heap) : OX :=
ob (evFa 4 v1) fun v61 =>
ob (evLd false 1 v61 h) fun v62 =>
ob (evLen 1 v62 h) fun v63 =>
(q5_L11 v1 v3 v62 v63 (AV.int .i64 0) h)
noncomputable def q5_26k (s : St) : OX := q5_26 (s 1) (s 3) s.h
theorem q5_26_eq (s : St) : W E 0 c_q5_26 s q5_10k xN (finP [.t 2]) = q5_26k s :=
  (W_seq (k := q5_L11k) (fun s => q5_25_eq s)).trans (by kernel_rfl)
theorem q5_27_eq (s : St) : W E 0 c_q5_27 s (finP [.t 2]) xN (finP [.t 2]) = q5_26k s :=
  (W_seq (k := q5_10k) (fun s => q5_10_eq s)).trans (q5_26_eq s)
noncomputable def q5_L28 (v1 v3 v24 v25 v26 : AV) (h : Heap) : OX :=
  W E 0 c_q5_L28 ⟨[(1, v1), (3, v3), (24, v24), (25, v25), (26, v26)], h⟩ q5_26k (exitTo 0 q5_26k xN) (finP [.t 2])
noncomputable def q5_L28k (s : St) : OX := q5_L28 (s 1) (s 3) (s 24) (s 25) (s 26) s.h
theorem q5_L28_eq (s : St) : W E 0 c_q5_L28 s q5_26k (exitTo 0 q5_26k xN) (finP [.t 2]) = q5_L28k s := W_loop_live.trans (by kernel_rfl)
noncomputable def q5_29 (v1 v3 v24 v25 v26 : AV) (h : Heap) : OX :=
ob (evBin .add v26 (AV.int .i64 1)) fun v60 =>
(q5_L28 v1 v3 v24 v25 v60 h)
noncomputable def q5_29k (s : St) : OX := q5_29 (s 1) (s 3) (s 24) (s 25) (s 26) s.h
theorem q5_29_eq (s : St) : W E 0 c_q5_29 s q5_L28k (exitTo 0 q5_26k xN) (finP [.t 2]) = q5_29k s :=
  by kernel_rfl
noncomputable def q5_30 (v1 v3 v4 v5 v24 v25 v26 : AV) (h : Heap) : OX :=
ob (evLd true 9 v5 h) fun v50 =>
oh (callAny E (callW E) 0 none true 22 [v50] h) fun v51 h7 =>
gb v51 false (evLd true 9 v5 h7) fun v53 =>
gh v51 false (callAny E (callW E) 0 none true 24 [v53] h7) h7 fun v54 h8 =>
ob (evPick v51 (AV.bool true) v54) fun v55 =>
cnd v55
 (ob (evBin .add v4 (AV.int .i64 1)) fun v58 =>
ob (evIxs 1 v3 v58) fun v59 =>
oh (evSt 1 v59 (AV.bool true) h8) fun _ h9 =>
(q5_29 v1 v3 v24 v25 v26 h9))
 ((q5_29 v1 v3 v24 v25 v26 h8))
noncomputable def q5_30k (s : St) : OX := q5_30 (s 1) (s 3) (s 4) (s 5) (s 24) (s 25) (s 26) s.h
theorem q5_30_eq (s : St) : W E 0 c_q5_30 s q5_29k (exitTo 1 q5_29k (exitTo 0 q5_26k xN)) (finP [.t 2]) = q5_30k s :=
  by kernel_rfl
noncomputable def q5_31 (v1 v3 v4 v5 v24 v25 v26 : AV) (h : Heap) : OX :=
ob (evLd true 9 v5 h) fun v31 =>
oh (callAny E (callW E) 0 none true 22 [v31] h) fun v32 h10 =>
gb v32 true (evFa 6 v5) fun v34 =>
gb v32 true (evLd false 1 v34 h10) fun v35 =>
gb v32 true (evBin .geq v35 (AV.int .i64 0)) fun v36 =>
ob (evPick v32 v36 (AV.bool false)) fun v37 =>
gb v37 true (evFa 6 v5) fun v39 =>
gb v37 true (evLd false 1 v39 h10) fun v40 =>
gb v37 true (evFa 3 v1) fun v41 =>
gb v37 true (evLd false 1 v41 h10) fun v42 =>
gb v37 true (evLen 1 v42 h10) fun v43 =>
gb v37 true (evBin .lss v40 v43) fun v44 =>
ob (evPick v37 v44 (AV.bool false)) fun v45 =>
cnd v45
 (ob (evFa 6 v5) fun v47 =>
ob (evLd false 1 v47 h10) fun v48 =>
ob (evIxs 1 v3 v48) fun v49 =>
oh (evSt 1 v49 (AV.bool true) h10) fun _ h11 =>
(q5_30 v1 v3 v4 v5 v24 v25 v26 h11))
 ((q5_30 v1 v3 v4 v5 v24 v25 v26 h10))
noncomputable def q5_31k (s : St) : OX := q5_31 (s 1) (s 3) (s 4) (s 5) (s 24) (s 25) (s 26) s.h
theorem q5_31_eq (s : St) : W E 0 c_q5_31 s q5_29k (exitTo 1 q5_29k (exitTo 0 q5_26k xN)) (finP [.t 2]) = q5_31k s :=
  (W_seq (k := q5_30k) (fun s => q5_30_eq s)).trans (by kernel_rfl)
noncomputable def q5_32 (v1 v3 v24 v25 v26 : AV) (h : Heap) : OX :=
ob (evIxs 9 v24 v26) fun v29 =>
ob (evLd true 9 v29 h) fun v30 =>
oh (newC 0 (some 2) [(.int .i64 0), (.int .i64 0), (.int .i64 0), (.int .i64 0), (.int .i64 0), (.int .i64 0), (.int .i64 0), (.str []), .nils] h) fun v5 h12 =>
oh (evSt 9 v5 v30 h12) fun _ h13 =>
(q5_31 v1 v3 v26 v5 v24 v25 v26 h13)
noncomputable def q5_32k (s : St) : OX := q5_32 (s 1) (s 3) (s 24) (s 25) (s 26) s.h
theorem q5_32_eq (s : St) : W E 0 c_q5_32 s q5_29k (exitTo 1 q5_29k (exitTo 0 q5_26k xN)) (finP [.t 2]) = q5_32k s :=
  (W_seq (k := q5_31k) (fun s => q5_31_eq s)).trans (by kernel_rfl)
theorem q5_33_eq (s : St) : W E 0 c_q5_33 s q5_29k (exitTo 0 q5_26k xN) (finP [.t 2]) = q5_32k s :=
  W_block.trans (q5_32_eq s)
theorem q5_34_eq (s : St) : W E 0 c_q5_34 s q5_L28k (exitTo 0 q5_26k xN) (finP [.t 2]) = q5_32k s :=
  (W_seq (k := q5_29k) (fun s => q5_29_eq s)).trans (q5_33_eq s)
noncomputable def q5_35 (v1 v3 v24 v25 v26 v27 : AV) (h : Heap) : OX :=
cnd v27
 ((q5_32 v1 v3 v24 v25 v26 h))
 ((q5_26 v1 v3 h))
noncomputable def q5_35k (s : St) : OX := q5_35 (s 1) (s 3) (s 24) (s 25) (s 26) (s 27) s.h
theorem q5_35_eq (s : St) : W E 0 c_q5_35 s q5_L28k (exitTo 0 q5_26k xN) (finP [.t 2]) = q5_35k s :=
  (W_seq (k := q5_32k) (fun s => q5_34_eq s)).trans (by kernel_rfl)
noncomputable def q5_36 (v1 v3 v24 v25 v26 : AV) (h : Heap) : OX :=
ob (evBin .lss v26 v25) fun v27 =>
(q5_35 v1 v3 v24 v25 v26 v27 h)
noncomputable def q5_36k (s : St) : OX := q5_36 (s 1) (s 3) (s 24) (s 25) (s 26) s.h
theorem q5_36_eq (s : St) : W E 0 c_q5_36 s q5_L28k (exitTo 0 q5_26k xN) (finP [.t 2]) = q5_36k s :=
  (W_seq (k := q5_35k) (fun s => q5_35_eq s)).trans (by kernel_rfl)
theorem q5_L28_go (v1 v3 v24 v25 v26 : AV) (h : Heap) : q5_L28 v1 v3 v24 v25 v26 h = (q5_36 v1 v3 v24 v25 v26 h) :=
  W_loop.trans ((W_congr _ _ _ (n' := q5_L28k) (fun s => q5_L28_eq s)).trans ((q5_36_eq _).trans (by kernel_rfl)))
theorem q5_37_eq (s : St) : W E 0 c_q5_37 s q5_26k xN (finP [.t 2]) = q5_L28k s :=
  W_block.trans (q5_L28_eq s)
noncomputable def q5_38 (v1 v3 : AV) (h : Heap) : OX :=
ob (evFa 3 v1) fun v23 =>
ob (evLd false 1 v23 h) fun v24 =>
ob (evLen 1 v24 h) fun v25 =>
(q5_L28 v1 v3 v24 v25 (AV.int .i64 0) h)
noncomputable def q5_38k (s : St) : OX := q5_38 (s 1) (s 3) s.h
theorem q5_38_eq (s : St) : W E 0 c_q5_38 s q5_26k xN (finP [.t 2]) = q5_38k s :=
  (W_seq (k := q5_L28k) (fun s => q5_37_eq s)).trans (by kernel_rfl)
theorem q5_39_eq (s : St) : W E 0 c_q5_39 s (finP [.t 2]) xN (finP [.t 2]) = q5_38k s :=
  (W_seq (k := q5_26k) (fun s => q5_27_eq s)).trans (q5_38_eq s)
noncomputable def q5_40 (v1 v3 : AV) (h : Heap) : OX :=
ob (evFa 3 v1) fun v17 =>
ob (evLd false 1 v17 h) fun v18 =>
ob (evLen 1 v18 h) fun v19 =>
ob (evBin .gtr v19 (AV.int .i64 0)) fun v20 =>
cnd v20
 (ob (evIxs 1 v3 (AV.int .i64 0)) fun v22 =>
oh (evSt 1 v22 (AV.bool true) h) fun _ h14 =>
(q5_38 v1 v3 h14))
 ((q5_38 v1 v3 h))
noncomputable def q5_40k (s : St) : OX := q5_40 (s 1) (s 3) s.h
theorem q5_40_eq (s : St) : W E 0 c_q5_40 s (finP [.t 2]) xN (finP [.t 2]) = q5_40k s :=
  (W_seq (k := q5_38k) (fun s => q5_39_eq s)).trans (by kernel_rfl)
noncomputable def q5_41 (v1 : AV) (h : Heap) : OX :=
ob (evFa 3 v1) fun v12 =>
ob (evLd false 1 v12 h) fun v13 =>
ob (evLen 1 v13 h) fun v14 =>
ob (evBin .add v14 (AV.int .i64 1)) fun v15 =>
oh (mkSC 0 (some 1) 1 1 [(.bool false)] v15 v15 h) fun v16 h15 =>
(q5_40 v1 v16 h15)
noncomputable def q5_41k (s : St) : OX := q5_41 (s 1) s.h
theorem q5_41_eq (s : St) : W E 0 c_q5_41 s (finP [.t 2]) xN (finP [.t 2]) = q5_41k s :=
  (W_seq (k := q5_40k) (fun s => q5_40_eq s)).trans (by kernel_rfl)
noncomputable def q5_42 (v0 : AV) (h : Heap) : OX :=
oh (newC 0 (some 0) (cellsOf v0) h) fun v1 h16 =>
(q5_41 v1 h16)
noncomputable def q5_42k (s : St) : OX := q5_42 (s 0) s.h
theorem q5_42_eq (s : St) : W E 0 c_q5_42 s (finP [.t 2]) xN (finP [.t 2]) = q5_42k s :=
  (W_seq (k := q5_41k) (fun s => q5_41_eq s)).trans (by kernel_rfl)
@[simp] theorem pure_102 : E.pure 102 = true := rfl
theorem x_q5 (v0 : AV) : (callW E).p 102 [v0] = q5_42 v0 [⟨0, .dead⟩, ⟨0, .dead⟩, ⟨0, .dead⟩, ⟨0, .dead⟩, ⟨0, .dead⟩, ⟨0, .dead⟩, ⟨0, .dead⟩] :=
  (callP_W (cf := c_q5) (by kernel_rfl) rfl).trans ((q5_42_eq _).trans (by kernel_rfl))
noncomputable def q9_1 (v2 v9 : AV) (h : Heap) : OX :=
ob (evLd true 5 v9 h) fun v150 =>
oh (evSt 5 v2 v150 h) fun _ h1 =>
(ob (evLd true 5 v2 h1) fun r0 =>
  expo1 h1 r0)
noncomputable def q9_1k (s : St) : OX := q9_1 (s 2) (s 9) s.h
theorem q9_1_eq (s : St) : W E 0 c_q9_1 s (finP [.cell 2 true 5]) xN (finP [.cell 2 true 5]) = q9_1k s :=
  by kernel_rfl
noncomputable def q9_L2 (v2 v3 v6 v9 v102 v103 v104 : AV) (h : Heap) : OX :=
  W E 0 c_q9_L2 ⟨[(2, v2), (3, v3), (6, v6), (9, v9), (102, v102), (103, v103), (104, v104)], h⟩ q9_1k (exitTo 6 q9_1k xN) (finP [.cell 2 true 5])
noncomputable def q9_L2k (s : St) : OX := q9_L2 (s 2) (s 3) (s 6) (s 9) (s 102) (s 103) (s 104) s.h
theorem q9_L2_eq (s : St) : W E 0 c_q9_L2 s q9_1k (exitTo 6 q9_1k xN) (finP [.cell 2 true 5]) = q9_L2k s := W_loop_live.trans (by kernel_rfl)
noncomputable def q9_3 (v2 v3 v6 v9 v102 v103 v104 : AV) (h : Heap) : OX :=
ob (evBin .add v104 (AV.int .i64 1)) fun v149 =>
(q9_L2 v2 v3 v6 v9 v102 v103 v149 h)
noncomputable def q9_3k (s : St) : OX := q9_3 (s 2) (s 3) (s 6) (s 9) (s 102) (s 103) (s 104) s.h
theorem q9_3_eq (s : St) : W E 0 c_q9_3 s q9_L2k (exitTo 6 q9_1k xN) (finP [.cell 2 true 5]) = q9_3k s :=
  by kernel_rfl
noncomputable def q9_4 (v2 v3 v6 v9 v102 v103 v104 : AV) (h : Heap) : OX :=
ob (evIxs 4 v102 v104) fun v106 =>
ob (evLd true 4 v106 h) fun v107 =>
oh (newC 0 (some 9) [(.int .i64 0), (.int .i64 0), (.int .i64 0), (.str [])] h) fun v13 h2 =>
oh (evSt 4 v13 v107 h2) fun _ h3 =>
ob (evFa 2 v13) fun v109 =>
ob (evLd false 1 v109 h3) fun v110 =>
ob (evIxs 1 v3 v110) fun v111 =>
ob (evLd false 1 v111 h3) fun v112 =>
gb v112 true (some v6) fun v114 =>
gb v112 true (evFa 0 v13) fun v115 =>
gb v112 true (evLd false 1 v115 h3) fun v116 =>
gb v112 true (evIxs 1 v114 v116) fun v117 =>
gb v112 true (evLd false 1 v117 h3) fun v118 =>
gb v112 true (some v6) fun v119 =>
gb v112 true (evFa 1 v13) fun v120 =>
gb v112 true (evLd false 1 v120 h3) fun v121 =>
gb v112 true (evIxs 1 v119 v121) fun v122 =>
gb v112 true (evLd false 1 v122 h3) fun v123 =>
gb v112 true (evBin .lss v118 v123) fun v124 =>
ob (evPick v112 v124 (AV.bool false)) fun v125 =>
cnd v125
 (ob (evFa 4 v9) fun v126 =>
ob (evLd false 1 v126 h3) fun v127 =>
ob (evFa 0 v13) fun v129 =>
ob (evLd false 1 v129 h3) fun v130 =>
ob (evIxs 1 v6 v130) fun v131 =>
ob (evLd false 1 v131 h3) fun v132 =>
ob (evFa 1 v13) fun v134 =>
ob (evLd false 1 v134 h3) fun v135 =>
ob (evIxs 1 v6 v135) fun v136 =>
ob (evLd false 1 v136 h3) fun v137 =>
ob (evFa 2 v13) fun v139 =>
ob (evLd false 1 v139 h3) fun v140 =>
ob (evIxs 1 v6 v140) fun v141 =>
ob (evLd false 1 v141 h3) fun v142 =>
ob (evFa 3 v13) fun v143 =>
ob (evLd false 1 v143 h3) fun v144 =>
ob (evBuild [(.int .i64 0), (.int .i64 0), (.int .i64 0), (.str [])] [(0, 1, v132), (1, 1, v137), (2, 1, v142), (3, 1, v144)]) fun v145 =>
oh (buildSC 0 (some 10) 4 1 [(.int .i64 0), (.int .i64 0), (.int .i64 0), (.str [])] [(0, v145)] h3) fun v146 h4 =>
oh (evApp 0 (some 11) 4 40 v127 v146 h4) fun v147 h5 =>
ob (evFa 4 v9) fun v148 =>
oh (evSt 1 v148 v147 h5) fun _ h6 =>
okK (pairsOk [([], []), (ids1 v126, []), ([], []), ([], []), (ids1 v129, []), ([], []), (ids1 v131, []), ([], []), ([], []), (ids1 v134, []), ([], []), (ids1 v136, []), ([], []), ([], []), (ids1 v139, []), ([], []), (ids1 v141, []), ([], []), (ids1 v143, []), ([], []), ([], [0 + 10]), (ids1 v146, ids1 v127 ++ [0 + 11]), ([], []), ([], ids1 v148)] [(1, 20)]) <|
(q9_3 v2 v3 v6 v9 v102 v103 v104 h6))
 ((q9_3 v2 v3 v6 v9 v102 v103 v104 h3))
noncomputable def q9_4k (s : St) : OX := q9_4 (s 2) (s 3) (s 6) (s 9) (s 102) (s 103) (s 104) s.h
theorem q9_4_eq (s : St) : W E 0 c_q9_4 s q9_L2k (exitTo 6 q9_1k xN) (finP [.cell 2 true 5]) = q9_4k s :=
  (W_seq (k := q9_3k) (fun s => q9_3_eq s)).trans (by kernel_rfl)
noncomputable def q9_5 (v2 v3 v6 v9 v102 v103 v104 v105 : AV) (h : Heap) : OX :=
cnd v105
 ((q9_4 v2 v3 v6 v9 v102 v103 v104 h))
 ((q9_1 v2 v9 h))
noncomputable def q9_5k (s : St) : OX := q9_5 (s 2) (s 3) (s 6) (s 9) (s 102) (s 103) (s 104) (s 105) s.h
theorem q9_5_eq (s : St) : W E 0 c_q9_5 s q9_L2k (exitTo 6 q9_1k xN) (finP [.cell 2 true 5]) = q9_5k s :=
  (W_seq (k := q9_4k) (fun s => q9_4_eq s)).trans (by kernel_rfl)
noncomputable def q9_6 (v2 v3 v6 v9 v102 v103 v104 : AV) (h : Heap) : OX :=
ob (evBin .lss v104 v103) fun v105 =>
(q9_5 v2 v3 v6 v9 v102 v103 v104 v105 h)
noncomputable def q9_6k (s : St) : OX := q9_6 (s 2) (s 3) (s 6) (s 9) (s 102) (s 103) (s 104) s.h
theorem q9_6_eq (s : St) : W E 0 c_q9_6 s q9_L2k (exitTo 6 q9_1k xN) (finP [.cell 2 true 5]) = q9_6k s :=
  (W_seq (k := q9_5k) (fun s => q9_5_eq s)).trans (by kernel_rfl)
theorem q9_L2_go (v2 v3 v6 v9 v102 v103 v104 : AV) (h : Heap) : q9_L2 v2 v3 v6 v9 v102 v103 v104 h = (q9_6 v2 v3 v6 v9 v102 v103 v104 h) :=
  W_loop.trans ((W_congr _ _ _ (n' := q9_L2k) (fun s => q9_L2_eq s)).trans ((q9_6_eq _).trans (by kernel_rfl)))
theorem q9_7_eq (s : St) : W E 0 c_q9_7 s q9_1k xN (finP [.cell 2 true 5]) = q9_L2k s :=
  W_block.trans (q9_L2_eq s)
noncomputable def q9_8 (v1 v2 v3 v6 v9 : AV) (h : Heap) : OX :=
ob (evFa 4 v1) fun v101 =>
ob (evLd false 1 v101 h) fun v102 =>
ob (evLen 1 v102 h) fun v103 =>
(q9_L2 v2 v3 v6 v9 v102 v103 (AV.int .i64 0) h)
noncomputable def q9_8k (s : St) : OX := q9_8 (s 1) (s 2) (s 3) (s 6) (s 9) s.h
theorem q9_8_eq (s : St) : W E 0 c_q9_8 s q9_1k xN (finP [.cell 2 true 5]) = q9_8k s :=
  (W_seq (k := q9_L2k) (fun s => q9_7_eq s)).trans (by kernel_rfl)
theorem q9_9_eq (s : St) : W E 0 c_q9_9 s (finP [.cell 2 true 5]) xN (finP [.cell 2 true 5]) = q9_8k s :=
  (W_seq (k := q9_1k) (fun s => q9_1_eq s)).trans (q9_8_eq s)
noncomputable def q9_L10 (v1 v2 v3 v6 v9 v73 v74 v75 : AV) (h : Heap) : OX :=
  W E 0 c_q9_L10 ⟨[(1, v1), (2, v2), (3, v3), (6, v6), (9, v9), (73, v73), (74, v74), (75, v75)], h⟩ q9_8k (exitTo 4 q9_8k xN) (finP [.cell 2 true 5])
noncomputable def q9_L10k (s : St) : OX := q9_L10 (s 1) (s 2) (s 3) (s 6) (s 9) (s 73) (s 74) (s 75) s.h
theorem q9_L10_eq (s : St) : W E 0 c_q9_L10 s q9_8k (exitTo 4 q9_8k xN) (finP [.cell 2 true 5]) = q9_L10k s := W_loop_live.trans (by kernel_rfl)
noncomputable def q9_11 (v1 v2 v3 v6 v9 v73 v74 v75 : AV) (h : Heap) : OX :=
ob (evBin .add v75 (AV.int .i64 1)) fun v100 =>
(q9_L10 v1 v2 v3 v6 v9 v73 v74 v100 h)
noncomputable def q9_11k (s : St) : OX := q9_11 (s 1) (s 2) (s 3) (s 6) (s 9) (s 73) (s 74) (s 75) s.h
theorem q9_11_eq (s : St) : W E 0 c_q9_11 s q9_L10k (exitTo 4 q9_8k xN) (finP [.cell 2 true 5]) = q9_11k s :=
  by kernel_rfl
noncomputable def q9_12 (v1 v2 v3 v6 v9 v11 v73 v74 v75 : AV) (h : Heap) : OX :=
ob (evFa 3 v9) fun v94 =>
ob (evLd false 1 v94 h) fun v95 =>
ob (evLd true 9 v11 h) fun v96 =>
oh (buildSC 0 (some 7) 9 1 [(.int .i64 0), (.int .i64 0), (.int .i64 0), (.int .i64 0), (.int .i64 0), (.int .i64 0), (.int .i64 0), (.str []), .nils] [(0, v96)] h) fun v97 h7 =>
oh (evApp 0 (some 8) 9 96 v95 v97 h7) fun v98 h8 =>
ob (evFa 3 v9) fun v99 =>
oh (evSt 1 v99 v98 h8) fun _ h9 =>
(q9_11 v1 v2 v3 v6 v9 v73 v74 v75 h9)
noncomputable def q9_12k (s : St) : OX := q9_12 (s 1) (s 2) (s 3) (s 6) (s 9) (s 11) (s 73) (s 74) (s 75) s.h
theorem q9_12_eq (s : St) : W E 0 c_q9_12 s q9_11k (exitTo 5 q9_11k (exitTo 4 q9_8k xN)) (finP [.cell 2 true 5]) = q9_12k s :=
  by kernel_rfl
noncomputable def q9_13 (v1 v2 v3 v6 v9 v11 v73 v74 v75 : AV) (h : Heap) : OX :=
ob (evLd true 9 v11 h) fun v85 =>
oh (callAny E (callW E) 0 none true 22 [v85] h) fun v86 h10 =>
cnd v86
 (ob (evFa 6 v11) fun v88 =>
ob (evLd false 1 v88 h10) fun v89 =>
ob (evIxs 1 v6 v89) fun v90 =>
ob (evLd false 1 v90 h10) fun v91 =>
ob (evFa 6 v11) fun v92 =>
oh (evSt 1 v92 v91 h10) fun _ h11 =>
(q9_12 v1 v2 v3 v6 v9 v11 v73 v74 v75 h11))
 (ob (evFa 6 v11) fun v93 =>
oh (evSt 1 v93 (AV.int .i64 0) h10) fun _ h12 =>
(q9_12 v1 v2 v3 v6 v9 v11 v73 v74 v75 h12))
noncomputable def q9_13k (s : St) : OX := q9_13 (s 1) (s 2) (s 3) (s 6) (s 9) (s 11) (s 73) (s 74) (s 75) s.h
theorem q9_13_eq (s : St) : W E 0 c_q9_13 s q9_11k (exitTo 5 q9_11k (exitTo 4 q9_8k xN)) (finP [.cell 2 true 5]) = q9_13k s :=
  (W_seq (k := q9_12k) (fun s => q9_12_eq s)).trans (by kernel_rfl)
noncomputable def q9_14 (v1 v2 v3 v6 v9 v10 v11 v73 v74 v75 : AV) (h : Heap) : OX :=
ob (evIxs 1 v3 v10) fun v82 =>
ob (evLd false 1 v82 h) fun v83 =>
ob (evUn .not v83) fun v84 =>
cnd v84
 ((q9_11 v1 v2 v3 v6 v9 v73 v74 v75 h))
 ((q9_13 v1 v2 v3 v6 v9 v11 v73 v74 v75 h))
noncomputable def q9_14k (s : St) : OX := q9_14 (s 1) (s 2) (s 3) (s 6) (s 9) (s 10) (s 11) (s 73) (s 74) (s 75) s.h
theorem q9_14_eq (s : St) : W E 0 c_q9_14 s q9_11k (exitTo 5 q9_11k (exitTo 4 q9_8k xN)) (finP [.cell 2 true 5]) = q9_14k s :=
  (W_seq (k := q9_13k) (fun s => q9_13_eq s)).trans (by kernel_rfl)
noncomputable def q9_15 (v1 v2 v3 v6 v9 v73 v74 v75 : AV) (h : Heap) : OX :=
ob (evIxs 9 v73 v75) fun v78 =>
ob (evLd true 9 v78 h) fun v79 =>
oh (newC 0 (some 6) [(.int .i64 0), (.int .i64 0), (.int .i64 0), (.int .i64 0), (.int .i64 0), (.int .i64 0), (.int .i64 0), (.str []), .nils] h) fun v11 h13 =>
oh (evSt 9 v11 v79 h13) fun _ h14 =>
(q9_14 v1 v2 v3 v6 v9 v75 v11 v73 v74 v75 h14)
noncomputable def q9_15k (s : St) : OX := q9_15 (s 1) (s 2) (s 3) (s 6) (s 9) (s 73) (s 74) (s 75) s.h
theorem q9_15_eq (s : St) : W E 0 c_q9_15 s q9_11k (exitTo 5 q9_11k (exitTo 4 q9_8k xN)) (finP [.cell 2 true 5]) = q9_15k s :=
  (W_seq (k := q9_14k) (fun s => q9_14_eq s)).trans (by kernel_rfl)
theorem q9_16_eq (s : St) : W E 0 c_q9_16 s q9_11k (exitTo 4 q9_8k xN) (finP [.cell 2 true 5]) = q9_15k s :=
  W_block.trans (q9_15_eq s)
theorem q9_17_eq (s : St) : W E 0 c_q9_17 s q9_L10k (exitTo 4 q9_8k xN) (finP [.cell 2 true 5]) = q9_15k s :=
  (W_seq (k := q9_11k) (fun s => q9_11_eq s)).trans (q9_16_eq s)
noncomputable def q9_18 (v1 v2 v3 v6 v9 v73 v74 v75 v76 : AV) (h : Heap) : OX :=
cnd v76
 ((q9_15 v1 v2 v3 v6 v9 v73 v74 v75 h))
 ((q9_8 v1 v2 v3 v6 v9 h))
noncomputable def q9_18k (s : St) : OX := q9_18 (s 1) (s 2) (s 3) (s 6) (s 9) (s 73) (s 74) (s 75) (s 76) s.h
theorem q9_18_eq (s : St) : W E 0 c_q9_18 s q9_L10k (exitTo 4 q9_8k xN) (finP [.cell 2 true 5]) = q9_18k s :=
  (W_seq (k := q9_15k) (fun s => q9_17_eq s)).trans (by kernel_rfl)
noncomputable def q9_19 (v1 v2 v3 v6 v9 v73 v74 v75 : AV) (h : Heap) : OX :=
ob (evBin .lss v75 v74) fun v76 =>
(q9_18 v1 v2 v3 v6 v9 v73 v74 v75 v76 h)
noncomputable def q9_19k (s : St) : OX := q9_19 (s 1) (s 2) (s 3) (s 6) (s 9) (s 73) (s 74) (s 75) s.h
theorem q9_19_eq (s : St) : W E 0 c_q9_19 s q9_L10k (exitTo 4 q9_8k xN) (finP [.cell 2 true 5]) = q9_19k s :=
  (W_seq (k := q9_18k) (fun s => q9_18_eq s)).trans (by kernel_rfl)
theorem q9_L10_go (v1 v2 v3 v6 v9 v73 v74 v75 : AV) (h : Heap) : q9_L10 v1 v2 v3 v6 v9 v73 v74 v75 h = (q9_19 v1 v2 v3 v6 v9 v73 v74 v75 h) :=
  W_loop.trans ((W_congr _ _ _ (n' := q9_L10k) (fun s => q9_L10_eq s)).trans ((q9_19_eq _).trans (by kernel_rfl)))
theorem q9_20_eq (s : St) : W E 0 c_q9_20 s q9_8k xN (finP [.cell 2 true 5]) = q9_L10k s :=
  W_block.trans (q9_L10_eq s)
noncomputable def q9_21 (v1 v2 v3 v6 v9 : AV) (h : Heap) : OX :=
ob (evFa 3 v1) fun v72 =>
ob (evLd false 1 v72 h) fun v73 =>
ob (evLen 1 v73 h) fun v74 =>
(q9_L10 v1 v2 v3 v6 v9 v73 v74 (AV.int .i64 0) h)
noncomputable def q9_21k (s : St) : OX := q9_21 (s 1) (s 2) (s 3) (s 6) (s 9) s.h
theorem q9_21_eq (s : St) : W E 0 c_q9_21 s q9_8k xN (finP [.cell 2 true 5]) = q9_21k s :=
  (W_seq (k := q9_L10k) (fun s => q9_20_eq s)).trans (by kernel_rfl)
theorem q9_22_eq (s : St) : W E 0 c_q9_22 s (finP [.cell 2 true 5]) xN (finP [.cell 2 true 5]) = q9_21k s :=
  (W_seq (k := q9_8k) (fun s => q9_9_eq s)).trans (q9_21_eq s)
noncomputable def q9_23 (v1 v2 v3 v6 : AV) (h : Heap) : OX :=
ob (evFa 0 v1) fun v65 =>
ob (evLd false 1 v65 h) fun v66 =>
ob (evFa 1 v1) fun v67 =>
ob (evLd false 1 v67 h) fun v68 =>
ob (evFa 2 v1) fun v69 =>
ob (evLd false 1 v69 h) fun v70 =>
ob (evBuild [.nils, .nils, (.int .i64 0), .nils, .nils] [(0, 1, v66), (1, 1, v68), (2, 1, v70)]) fun v71 =>
oh (newC 0 (some 5) [.nils, .nils, (.int .i64 0), .nils, .nils] h) fun v9 h15 =>
oh (evSt 5 v9 v71 h15) fun _ h16 =>
(q9_21 v1 v2 v3 v6 v9 h16)
noncomputable def q9_23k (s : St) : OX := q9_23 (s 1) (s 2) (s 3) (s 6) s.h
theorem q9_23_eq (s : St) : W E 0 c_q9_23 s (finP [.cell 2 true 5]) xN (finP [.cell 2 true 5]) = q9_23k s :=
  (W_seq (k := q9_21k) (fun s => q9_22_eq s)).trans (by kernel_rfl)
noncomputable def q9_24 (v1 v2 v3 v6 v7 : AV) (h : Heap) : OX :=
ob (evFa 3 v1) fun v60 =>
ob (evLd false 1 v60 h) fun v61 =>
ob (evLen 1 v61 h) fun v62 =>
ob (evIxs 1 v6 v62) fun v64 =>
oh (evSt 1 v64 v7 h) fun _ h17 =>
(q9_23 v1 v2 v3 v6 h17)
noncomputable def q9_24k (s : St) : OX := q9_24 (s 1) (s 2) (s 3) (s 6) (s 7) s.h
theorem q9_24_eq (s : St) : W E 0 c_q9_24 s (finP [.cell 2 true 5]) xN (finP [.cell 2 true 5]) = q9_24k s :=
  (W_seq (k := q9_23k) (fun s => q9_23_eq s)).trans (by kernel_rfl)
noncomputable def q9_L25 (v1 v2 v3 v6 v7 v44 v45 : AV) (h : Heap) : OX :=
  W E 0 c_q9_L25 ⟨[(1, v1), (2, v2), (3, v3), (6, v6), (7, v7), (44, v44), (45, v45)], h⟩ q9_24k (exitTo 2 q9_24k xN) (finP [.cell 2 true 5])
noncomputable def q9_L25k (s : St) : OX := q9_L25 (s 1) (s 2) (s 3) (s 6) (s 7) (s 44) (s 45) s.h
theorem q9_L25_eq (s : St) : W E 0 c_q9_L25 s q9_24k (exitTo 2 q9_24k xN) (finP [.cell 2 true 5]) = q9_L25k s := W_loop_live.trans (by kernel_rfl)
noncomputable def q9_26 (v1 v2 v3 v6 v7 v44 v45 : AV) (h : Heap) : OX :=
ob (evBin .add v45 (AV.int .i64 1)) fun v58 =>
(q9_L25 v1 v2 v3 v6 v7 v44 v58 h)
noncomputable def q9_26k (s : St) : OX := q9_26 (s 1) (s 2) (s 3) (s 6) (s 7) (s 44) (s 45) s.h
theorem q9_26_eq (s : St) : W E 0 c_q9_26 s q9_L25k (exitTo 2 q9_24k xN) (finP [.cell 2 true 5]) = q9_26k s :=
  by kernel_rfl
noncomputable def q9_27 (v1 v2 v3 v6 v7 v44 v45 : AV) (h : Heap) : OX :=
ob (evIxs 1 v6 v45) fun v51 =>
oh (evSt 1 v51 v7 h) fun _ h18 =>
ob (evIxs 1 v3 v45) fun v54 =>
ob (evLd false 1 v54 h18) fun v55 =>
cnd v55
 (ob (evBin .add v7 (AV.int .i64 1)) fun v57 =>
(q9_26 v1 v2 v3 v6 v57 v44 v45 h18))
 ((q9_26 v1 v2 v3 v6 v7 v44 v45 h18))
noncomputable def q9_27k (s : St) : OX := q9_27 (s 1) (s 2) (s 3) (s 6) (s 7) (s 44) (s 45) s.h
theorem q9_27_eq (s : St) : W E 0 c_q9_27 s q9_L25k (exitTo 2 q9_24k xN) (finP [.cell 2 true 5]) = q9_27k s :=
  (W_seq (k := q9_26k) (fun s => q9_26_eq s)).trans (by kernel_rfl)
noncomputable def q9_28 (v1 v2 v3 v6 v7 v44 v45 v46 : AV) (h : Heap) : OX :=
cnd v46
 ((q9_27 v1 v2 v3 v6 v7 v44 v45 h))
 ((q9_24 v1 v2 v3 v6 v7 h))
noncomputable def q9_28k (s : St) : OX := q9_28 (s 1) (s 2) (s 3) (s 6) (s 7) (s 44) (s 45) (s 46) s.h
theorem q9_28_eq (s : St) : W E 0 c_q9_28 s q9_L25k (exitTo 2 q9_24k xN) (finP [.cell 2 true 5]) = q9_28k s :=
  (W_seq (k := q9_27k) (fun s => q9_27_eq s)).trans (by kernel_rfl)
noncomputable def q9_29 (v1 v2 v3 v6 v7 v44 v45 : AV) (h : Heap) : OX :=
ob (evBin .lss v45 v44) fun v46 =>
(q9_28 v1 v2 v3 v6 v7 v44 v45 v46 h)
noncomputable def q9_29k (s : St) : OX := q9_29 (s 1) (s 2) (s 3) (s 6) (s 7) (s 44) (s 45) s.h
theorem q9_29_eq (s : St) : W E 0 c_q9_29 s q9_L25k (exitTo 2 q9_24k xN) (finP [.cell 2 true 5]) = q9_29k s :=
  (W_seq (k := q9_28k) (fun s => q9_28_eq s)).trans (by kernel_rfl)
theorem q9_L25_go (v1 v2 v3 v6 v7 v44 v45 : AV) (h : Heap) : q9_L25 v1 v2 v3 v6 v7 v44 v45 h = (q9_29 v1 v2 v3 v6 v7 v44 v45 h) :=
  W_loop.trans ((W_congr _ _ _ (n' := q9_L25k) (fun s => q9_L25_eq s)).trans ((q9_29_eq _).trans (by kernel_rfl)))
theorem q9_30_eq (s : St) : W E 0 c_q9_30 s q9_24k xN (finP [.cell 2 true 5]) = q9_L25k s :=
  W_block.trans (q9_L25_eq s)
noncomputable def q9_31 (v1 v2 v3 v6 v7 : AV) (h : Heap) : OX :=
ob (evFa 3 v1) fun v42 =>
ob (evLd false 1 v42 h) fun v43 =>
ob (evLen 1 v43 h) fun v44 =>
(q9_L25 v1 v2 v3 v6 v7 v44 (AV.int .i64 0) h)
noncomputable def q9_31k (s : St) : OX := q9_31 (s 1) (s 2) (s 3) (s 6) (s 7) s.h
theorem q9_31_eq (s : St) : W E 0 c_q9_31 s q9_24k xN (finP [.cell 2 true 5]) = q9_31k s :=
  (W_seq (k := q9_L25k) (fun s => q9_30_eq s)).trans (by kernel_rfl)
theorem q9_32_eq (s : St) : W E 0 c_q9_32 s (finP [.cell 2 true 5]) xN (finP [.cell 2 true 5]) = q9_31k s :=
  (W_seq (k := q9_24k) (fun s => q9_24_eq s)).trans (q9_31_eq s)
noncomputable def q9_33 (v1 v2 v3 v6 : AV) (h : Heap) : OX :=
(q9_31 v1 v2 v3 v6 (AV.int .i64 0) h)
noncomputable def q9_33k (s : St) : OX := q9_33 (s 1) (s 2) (s 3) (s 6) s.h
theorem q9_33_eq (s : St) : W E 0 c_q9_33 s (finP [.cell 2 true 5]) xN (finP [.cell 2 true 5]) = q9_33k s :=
  (W_seq (k := q9_31k) (fun s => q9_32_eq s)).trans (by kernel_rfl)
noncomputable def q9_34 (v1 v2 v3 : AV) (h : Heap) : OX :=
ob (evFa 3 v1) fun v37 =>
ob (evLd false 1 v37 h) fun v38 =>
ob (evLen 1 v38 h) fun v39 =>
ob (evBin .add v39 (AV.int .i64 1)) fun v40 =>
oh (mkSC 0 (some 4) 1 8 [(.int .i64 0)] v40 v40 h) fun v41 h19 =>
(q9_33 v1 v2 v3 v41 h19)
noncomputable def q9_34k (s : St) : OX := q9_34 (s 1) (s 2) (s 3) s.h
theorem q9_34_eq (s : St) : W E 0 c_q9_34 s (finP [.cell 2 true 5]) xN (finP [.cell 2 true 5]) = q9_34k s :=
  (W_seq (k := q9_33k) (fun s => q9_33_eq s)).trans (by kernel_rfl)
noncomputable def q9_L35 (v1 v2 v3 v23 v24 v25 : AV) (h : Heap) : OX :=
  W E 0 c_q9_L35 ⟨[(1, v1), (2, v2), (3, v3), (23, v23), (24, v24), (25, v25)], h⟩ q9_34k (exitTo 0 q9_34k xN) (finP [.cell 2 true 5])
noncomputable def q9_L35k (s : St) : OX := q9_L35 (s 1) (s 2) (s 3) (s 23) (s 24) (s 25) s.h
theorem q9_L35_eq (s : St) : W E 0 c_q9_L35 s q9_34k (exitTo 0 q9_34k xN) (finP [.cell 2 true 5]) = q9_L35k s := W_loop_live.trans (by kernel_rfl)
noncomputable def q9_36 (v1 v2 v3 v23 v24 v25 : AV) (h : Heap) : OX :=
ob (evBin .add v25 (AV.int .i64 1)) fun v36 =>
(q9_L35 v1 v2 v3 v23 v24 v36 h)
noncomputable def q9_36k (s : St) : OX := q9_36 (s 1) (s 2) (s 3) (s 23) (s 24) (s 25) s.h
theorem q9_36_eq (s : St) : W E 0 c_q9_36 s q9_L35k (exitTo 0 q9_34k xN) (finP [.cell 2 true 5]) = q9_36k s :=
  by kernel_rfl
noncomputable def q9_37 (v1 v2 v3 v23 v24 v25 : AV) (h : Heap) : OX :=
ob (evIxs 9 v23 v25) fun v28 =>
ob (evLd true 9 v28 h) fun v29 =>
oh (newC 0 (some 3) [(.int .i64 0), (.int .i64 0), (.int .i64 0), (.int .i64 0), (.int .i64 0), (.int .i64 0), (.int .i64 0), (.str []), .nils] h) fun v5 h20 =>
oh (evSt 9 v5 v29 h20) fun _ h21 =>
ob (evFa 0 v5) fun v30 =>
ob (evLd false 1 v30 h21) fun v31 =>
ob (evBin .eql v31 (AV.int .i64 33)) fun v32 =>
cnd v32
 (ob (evIxs 1 v3 v25) fun v35 =>
oh (evSt 1 v35 (AV.bool false) h21) fun _ h22 =>
(q9_36 v1 v2 v3 v23 v24 v25 h22))
 ((q9_36 v1 v2 v3 v23 v24 v25 h21))
noncomputable def q9_37k (s : St) : OX := q9_37 (s 1) (s 2) (s 3) (s 23) (s 24) (s 25) s.h
theorem q9_37_eq (s : St) : W E 0 c_q9_37 s q9_L35k (exitTo 0 q9_34k xN) (finP [.cell 2 true 5]) = q9_37k s :=
  (W_seq (k := q9_36k) (fun s => q9_36_eq s)).trans (by kernel_rfl)
noncomputable def q9_38 (v1 v2 v3 v23 v24 v25 v26 : AV) (h : Heap) : OX :=
cnd v26
 ((q9_37 v1 v2 v3 v23 v24 v25 h))
 ((q9_34 v1 v2 v3 h))
noncomputable def q9_38k (s : St) : OX := q9_38 (s 1) (s 2) (s 3) (s 23) (s 24) (s 25) (s 26) s.h
theorem q9_38_eq (s : St) : W E 0 c_q9_38 s q9_L35k (exitTo 0 q9_34k xN) (finP [.cell 2 true 5]) = q9_38k s :=
  (W_seq (k := q9_37k) (fun s => q9_37_eq s)).trans (by kernel_rfl)
noncomputable def q9_39 (v1 v2 v3 v23 v24 v25 : AV) (h : Heap) : OX :=
ob (evBin .lss v25 v24) fun v26 =>
(q9_38 v1 v2 v3 v23 v24 v25 v26 h)
noncomputable def q9_39k (s : St) : OX := q9_39 (s 1) (s 2) (s 3) (s 23) (s 24) (s 25) s.h
theorem q9_39_eq (s : St) : W E 0 c_q9_39 s q9_L35k (exitTo 0 q9_34k xN) (finP [.cell 2 true 5]) = q9_39k s :=
  (W_seq (k := q9_38k) (fun s => q9_38_eq s)).trans (by kernel_rfl)
theorem q9_L35_go (v1 v2 v3 v23 v24 v25 : AV) (h : Heap) : q9_L35 v1 v2 v3 v23 v24 v25 h = (q9_39 v1 v2 v3 v23 v24 v25 h) :=
  W_loop.trans ((W_congr _ _ _ (n' := q9_L35k) (fun s => q9_L35_eq s)).trans ((q9_39_eq _).trans (by kernel_rfl)))
theorem q9_40_eq (s : St) : W E 0 c_q9_40 s q9_34k xN (finP [.cell 2 true 5]) = q9_L35k s :=
  W_block.trans (q9_L35_eq s)
noncomputable def q9_41 (v1 v2 v3 : AV) (h : Heap) : OX :=
ob (evFa 3 v1) fun v22 =>
ob (evLd false 1 v22 h) fun v23 =>
ob (evLen 1 v23 h) fun v24 =>
(q9_L35 v1 v2 v3 v23 v24 (AV.int .i64 0) h)
noncomputable def q9_41k (s : St) : OX := q9_41 (s 1) (s 2) (s 3) s.h
theorem q9_41_eq (s : St) : W E 0 c_q9_41 s q9_34k xN (finP [.cell 2 true 5]) = q9_41k s :=
  (W_seq (k := q9_L35k) (fun s => q9_40_eq s)).trans (by kernel_rfl)
theorem q9_42_eq (s : St) : W E 0 c_q9_42 s (finP [.cell 2 true 5]) xN (finP [.cell 2 true 5]) = q9_41k s :=
  (W_seq (k := q9_34k) (fun s => q9_34_eq s)).trans (q9_41_eq s)
noncomputable def q9_43 (v1 v2 : AV) (h : Heap) : OX :=
ob (evLd true 5 v1 h) fun v20 =>
oh (callAny E (callW E) 0 (some 2) false 101 [v20] h) fun v21 h23 =>
(q9_41 v1 v2 v21 h23)
noncomputable def q9_43k (s : St) : OX := q9_43 (s 1) (s 2) s.h
theorem q9_43_eq (s : St) : W E 0 c_q9_43 s (finP [.cell 2 true 5]) xN (finP [.cell 2 true 5]) = q9_43k s :=
  (W_seq (k := q9_41k) (fun s => q9_42_eq s)).trans (by kernel_rfl)
noncomputable def q9_44 (v1 v2 : AV) (h : Heap) : OX :=
ob (evLd true 5 v1 h) fun v16 =>
oh (callAny E (callW E) 0 none true 8 [v16] h) fun v17 h24 =>
ob (evBin .neq v17 (AV.int .i64 0)) fun v18 =>
cnd v18
 (ob (evLd true 5 v1 h24) fun v19 =>
oh (evSt 5 v2 v19 h24) fun _ h25 =>
(ob (evLd true 5 v2 h25) fun r0 =>
  expo1 h25 r0))
 ((q9_43 v1 v2 h24))
noncomputable def q9_44k (s : St) : OX := q9_44 (s 1) (s 2) s.h
theorem q9_44_eq (s : St) : W E 0 c_q9_44 s (finP [.cell 2 true 5]) xN (finP [.cell 2 true 5]) = q9_44k s :=
  (W_seq (k := q9_43k) (fun s => q9_43_eq s)).trans (by kernel_rfl)
noncomputable def q9_45 (v1 v2 : AV) (h : Heap) : OX :=
ob (evLd true 5 v1 h) fun v14 =>
oh (callAny E (callW E) 0 none true 13 [v14] h) fun v15 h26 =>
oh (evSt 5 v1 v15 h26) fun _ h27 =>
(q9_44 v1 v2 h27)
noncomputable def q9_45k (s : St) : OX := q9_45 (s 1) (s 2) s.h
theorem q9_45_eq (s : St) : W E 0 c_q9_45 s (finP [.cell 2 true 5]) xN (finP [.cell 2 true 5]) = q9_45k s :=
  (W_seq (k := q9_44k) (fun s => q9_44_eq s)).trans (by kernel_rfl)
noncomputable def q9_46 (v0 : AV) (h : Heap) : OX :=
oh (newC 0 (some 0) (cellsOf v0) h) fun v1 h28 =>
oh (newC 0 (some 1) [.nils, .nils, (.int .i64 0), .nils, .nils] h28) fun v2 h29 =>
(q9_45 v1 v2 h29)
noncomputable def q9_46k (s : St) : OX := q9_46 (s 0) s.h
theorem q9_46_eq (s : St) : W E 0 c_q9_46 s (finP [.cell 2 true 5]) xN (finP [.cell 2 true 5]) = q9_46k s :=
  (W_seq (k := q9_45k) (fun s => q9_45_eq s)).trans (by kernel_rfl)
@[simp] theorem pure_100 : E.pure 100 = true := rfl
theorem x_q9 (v0 : AV) : (callW E).p 100 [v0] = q9_46 v0 [⟨0, .dead⟩, ⟨0, .dead⟩, ⟨0, .dead⟩, ⟨0, .dead⟩, ⟨0, .dead⟩, ⟨0, .dead⟩, ⟨0, .dead⟩, ⟨0, .dead⟩, ⟨0, .dead⟩, ⟨0, .dead⟩, ⟨0, .dead⟩, ⟨0, .dead⟩] :=
  (callP_W (cf := c_q9) (by kernel_rfl) rfl).trans ((q9_46_eq _).trans (by kernel_rfl))
noncomputable def q60_1 (h : Heap) : OX :=
(expo1 h (AV.int .i64 0))
noncomputable def q60_1k (s : St) : OX := q60_1 s.h
theorem q60_1_eq (s : St) : W E 0 c_q60_1 s (finP [.t 2]) xN (finP [.t 2]) = q60_1k s :=
  by kernel_rfl
noncomputable def q60_L2 (v1 v3 v8 : AV) (h : Heap) : OX :=
  W E 0 c_q60_L2 ⟨[(1, v1), (3, v3), (8, v8)], h⟩ q60_1k (exitTo 6 q60_1k xN) (finP [.t 2])
noncomputable def q60_L2k (s : St) : OX := q60_L2 (s 1) (s 3) (s 8) s.h
theorem q60_L2_eq (s : St) : W E 0 c_q60_L2 s q60_1k (exitTo 6 q60_1k xN) (finP [.t 2]) = q60_L2k s := W_loop_live.trans (by kernel_rfl)
noncomputable def q60_3 (v1 v3 v8 : AV) (h : Heap) : OX :=
ob (evBin .add v8 (AV.int .i64 1)) fun v155 =>
(q60_L2 v1 v3 v155 h)
noncomputable def q60_3k (s : St) : OX := q60_3 (s 1) (s 3) (s 8) s.h
theorem q60_3_eq (s : St) : W E 0 c_q60_3 s q60_L2k (exitTo 6 q60_1k xN) (finP [.t 2]) = q60_3k s :=
  by kernel_rfl
noncomputable def q60_4 (v1 v3 v8 : AV) (h : Heap) : OX :=
ob (evFa 4 v1) fun v156 =>
ob (evLd false 1 v156 h) fun v157 =>
ob (evIxs 4 v157 v8) fun v159 =>
ob (evLd true 4 v159 h) fun v160 =>
oh (newC 0 (some 2) [(.int .i64 0), (.int .i64 0), (.int .i64 0), (.str [])] h) fun v9 h1 =>
oh (evSt 4 v9 v160 h1) fun _ h2 =>
ob (evFa 0 v9) fun v161 =>
ob (evLd false 1 v161 h2) fun v162 =>
ob (evBin .lss v162 (AV.int .i64 0)) fun v163 =>
gb v163 false (evFa 0 v9) fun v165 =>
gb v163 false (evLd false 1 v165 h2) fun v166 =>
gb v163 false (evFa 1 v9) fun v167 =>
gb v163 false (evLd false 1 v167 h2) fun v168 =>
gb v163 false (evBin .geq v166 v168) fun v169 =>
ob (evPick v163 (AV.bool true) v169) fun v170 =>
gb v170 false (evFa 1 v9) fun v172 =>
gb v170 false (evLd false 1 v172 h2) fun v173 =>
gb v170 false (some v3) fun v174 =>
gb v170 false (evBin .gtr v173 v174) fun v175 =>
ob (evPick v170 (AV.bool true) v175) fun v176 =>
gb v176 false (evLd true 5 v1 h2) fun v178 =>
gb v176 false (evFa 2 v9) fun v179 =>
gb v176 false (evLd false 1 v179 h2) fun v180 =>
gh v176 false (callAny E (callW E) 0 none true 49 [v178, v180] h2) h2 fun v181 h3 =>
gb v176 false (evUn .not v181) fun v182 =>
ob (evPick v176 (AV.bool true) v182) fun v183 =>
gb v183 false (evFa 3 v1) fun v185 =>
gb v183 false (evLd false 1 v185 h3) fun v186 =>
gb v183 false (evFa 2 v9) fun v187 =>
gb v183 false (evLd false 1 v187 h3) fun v188 =>
gb v183 false (evIxs 9 v186 v188) fun v189 =>
gb v183 false (evFa 0 v189) fun v190 =>
gb v183 false (evLd false 1 v190 h3) fun v191 =>
gb v183 false (evBin .neq v191 (AV.int .i64 32)) fun v192 =>
ob (evPick v183 (AV.bool true) v192) fun v193 =>
cnd v193
 ((expo1 h3 (AV.int .i64 80)))
 ((q60_3 v1 v3 v8 h3))
noncomputable def q60_4k (s : St) : OX := q60_4 (s 1) (s 3) (s 8) s.h
theorem q60_4_eq (s : St) : W E 0 c_q60_4 s q60_L2k (exitTo 6 q60_1k xN) (finP [.t 2]) = q60_4k s :=
  (W_seq (k := q60_3k) (fun s => q60_3_eq s)).trans (by kernel_rfl)
noncomputable def q60_5 (v1 v3 v8 : AV) (h : Heap) : OX :=
ob (evFa 4 v1) fun v150 =>
ob (evLd false 1 v150 h) fun v151 =>
ob (evLen 1 v151 h) fun v152 =>
ob (evBin .lss v8 v152) fun v153 =>
cnd v153
 ((q60_4 v1 v3 v8 h))
 ((q60_1 h))
noncomputable def q60_5k (s : St) : OX := q60_5 (s 1) (s 3) (s 8) s.h
theorem q60_5_eq (s : St) : W E 0 c_q60_5 s q60_L2k (exitTo 6 q60_1k xN) (finP [.t 2]) = q60_5k s :=
  (W_seq (k := q60_4k) (fun s => q60_4_eq s)).trans (by kernel_rfl)
theorem q60_L2_go (v1 v3 v8 : AV) (h : Heap) : q60_L2 v1 v3 v8 h = (q60_5 v1 v3 v8 h) :=
  W_loop.trans ((W_congr _ _ _ (n' := q60_L2k) (fun s => q60_L2_eq s)).trans ((q60_5_eq _).trans (by kernel_rfl)))
theorem q60_6_eq (s : St) : W E 0 c_q60_6 s q60_1k xN (finP [.t 2]) = q60_L2k s :=
  W_block.trans (q60_L2_eq s)
noncomputable def q60_7 (v1 v3 : AV) (h : Heap) : OX :=
(q60_L2 v1 v3 (AV.int .i64 0) h)
noncomputable def q60_7k (s : St) : OX := q60_7 (s 1) (s 3) s.h
theorem q60_7_eq (s : St) : W E 0 c_q60_7 s q60_1k xN (finP [.t 2]) = q60_7k s :=
  (W_seq (k := q60_L2k) (fun s => q60_6_eq s)).trans (by kernel_rfl)
theorem q60_8_eq (s : St) : W E 0 c_q60_8 s (finP [.t 2]) xN (finP [.t 2]) = q60_7k s :=
  (W_seq (k := q60_1k) (fun s => q60_1_eq s)).trans (q60_7_eq s)
noncomputable def q60_L9 (v1 v3 v6 : AV) (h : Heap) : OX :=
  W E 0 c_q60_L9 ⟨[(1, v1), (3, v3), (6, v6)], h⟩ q60_7k (exitTo 4 q60_7k xN) (finP [.t 2])
noncomputable def q60_L9k (s : St) : OX := q60_L9 (s 1) (s 3) (s 6) s.h
theorem q60_L9_eq (s : St) : W E 0 c_q60_L9 s q60_7k (exitTo 4 q60_7k xN) (finP [.t 2]) = q60_L9k s := W_loop_live.trans (by kernel_rfl)
noncomputable def q60_10 (v1 v3 v6 : AV) (h : Heap) : OX :=
ob (evBin .add v6 (AV.int .i64 1)) fun v104 =>
(q60_L9 v1 v3 v104 h)
noncomputable def q60_10k (s : St) : OX := q60_10 (s 1) (s 3) (s 6) s.h
theorem q60_10_eq (s : St) : W E 0 c_q60_10 s q60_L9k (exitTo 4 q60_7k xN) (finP [.t 2]) = q60_10k s :=
  by kernel_rfl
noncomputable def q60_11 (v1 v3 v6 : AV) (h : Heap) : OX :=
ob (evFa 3 v1) fun v105 =>
ob (evLd false 1 v105 h) fun v106 =>
ob (evIxs 9 v106 v6) fun v108 =>
ob (evLd true 9 v108 h) fun v109 =>
oh (newC 0 (some 1) [(.int .i64 0), (.int .i64 0), (.int .i64 0), (.int .i64 0), (.int .i64 0), (.int .i64 0), (.int .i64 0), (.str []), .nils] h) fun v7 h4 =>
oh (evSt 9 v7 v109 h4) fun _ h5 =>
ob (evLd true 5 v1 h5) fun v110 =>
ob (evLd true 9 v7 h5) fun v111 =>
oh (callAny E (callW E) 0 none true 64 [v110, v111] h5) fun v112 h6 =>
ob (evUn .not v112) fun v113 =>
gb v113 false (evFa 0 v7) fun v115 =>
gb v113 false (evLd false 1 v115 h6) fun v116 =>
gb v113 false (evBin .eql v116 (AV.int .i64 32)) fun v117 =>
gb v113 false (some v117) fun v118 =>
gb v118 true (some v6) fun v119 =>
gb v118 true (evBin .eql v119 (AV.int .i64 0)) fun v120 =>
gb v118 true (some v120) fun v121 =>
gb v121 false (evFa 3 v1) fun v122 =>
gb v121 false (evLd false 1 v122 h6) fun v123 =>
gb v121 false (some v6) fun v124 =>
gb v121 false (evBin .sub v124 (AV.int .i64 1)) fun v125 =>
gb v121 false (evIxs 9 v123 v125) fun v126 =>
gb v121 false (evFa 0 v126) fun v127 =>
gb v121 false (evLd false 1 v127 h6) fun v128 =>
gh v121 false (callAny E (callW E) 0 none true 25 [v128] h6) h6 fun v129 h7 =>
gb v121 false (evUn .not v129) fun v130 =>
gb v118 true (evPick v121 (AV.bool true) v130) fun v131 =>
gb v113 false (evPick v118 v131 (AV.bool false)) fun v132 =>
ob (evPick v113 (AV.bool true) v132) fun v133 =>
gb v133 false (evFa 0 v7) fun v135 =>
gb v133 false (evLd false 1 v135 h7) fun v136 =>
gh v133 false (callAny E (callW E) 0 none true 23 [v136] h7) h7 fun v137 h8 =>
gb v133 false (some v137) fun v138 =>
gb v138 true (evFa 3 v1) fun v139 =>
gb v138 true (evLd false 1 v139 h8) fun v140 =>
gb v138 true (evFa 6 v7) fun v141 =>
gb v138 true (evLd false 1 v141 h8) fun v142 =>
gb v138 true (evIxs 9 v140 v142) fun v143 =>
gb v138 true (evFa 0 v143) fun v144 =>
gb v138 true (evLd false 1 v144 h8) fun v145 =>
gb v138 true (evBin .eql v145 (AV.int .i64 32)) fun v146 =>
gb v133 false (evPick v138 v146 (AV.bool false)) fun v147 =>
ob (evPick v133 (AV.bool true) v147) fun v148 =>
cnd v148
 ((expo1 h8 (AV.int .i64 80)))
 ((q60_10 v1 v3 v6 h8))
noncomputable def q60_11k (s : St) : OX := q60_11 (s 1) (s 3) (s 6) s.h
theorem q60_11_eq (s : St) : W E 0 c_q60_11 s q60_L9k (exitTo 4 q60_7k xN) (finP [.t 2]) = q60_11k s :=
  (W_seq (k := q60_10k) (fun s => q60_10_eq s)).trans (by kernel_rfl)
noncomputable def q60_12 (v1 v3 v6 : AV) (h : Heap) : OX :=
ob (evBin .lss v6 v3) fun v102 =>
cnd v102
 ((q60_11 v1 v3 v6 h))
 ((q60_7 v1 v3 h))
noncomputable def q60_12k (s : St) : OX := q60_12 (s 1) (s 3) (s 6) s.h
theorem q60_12_eq (s : St) : W E 0 c_q60_12 s q60_L9k (exitTo 4 q60_7k xN) (finP [.t 2]) = q60_12k s :=
  (W_seq (k := q60_11k) (fun s => q60_11_eq s)).trans (by kernel_rfl)
theorem q60_L9_go (v1 v3 v6 : AV) (h : Heap) : q60_L9 v1 v3 v6 h = (q60_12 v1 v3 v6 h) :=
  W_loop.trans ((W_congr _ _ _ (n' := q60_L9k) (fun s => q60_L9_eq s)).trans ((q60_12_eq _).trans (by kernel_rfl)))
theorem q60_13_eq (s : St) : W E 0 c_q60_13 s q60_7k xN (finP [.t 2]) = q60_L9k s :=
  W_block.trans (q60_L9_eq s)
noncomputable def q60_14 (v1 v3 : AV) (h : Heap) : OX :=
(q60_L9 v1 v3 (AV.int .i64 0) h)
noncomputable def q60_14k (s : St) : OX := q60_14 (s 1) (s 3) s.h
theorem q60_14_eq (s : St) : W E 0 c_q60_14 s q60_7k xN (finP [.t 2]) = q60_14k s :=
  (W_seq (k := q60_L9k) (fun s => q60_13_eq s)).trans (by kernel_rfl)
theorem q60_15_eq (s : St) : W E 0 c_q60_15 s (finP [.t 2]) xN (finP [.t 2]) = q60_14k s :=
  (W_seq (k := q60_7k) (fun s => q60_8_eq s)).trans (q60_14_eq s)
noncomputable def q60_L16 (v1 v3 v5 : AV) (h : Heap) : OX :=
  W E 0 c_q60_L16 ⟨[(1, v1), (3, v3), (5, v5)], h⟩ q60_14k (exitTo 2 q60_14k xN) (finP [.t 2])
noncomputable def q60_L16k (s : St) : OX := q60_L16 (s 1) (s 3) (s 5) s.h
theorem q60_L16_eq (s : St) : W E 0 c_q60_L16 s q60_14k (exitTo 2 q60_14k xN) (finP [.t 2]) = q60_L16k s := W_loop_live.trans (by kernel_rfl)
noncomputable def q60_17 (v1 v3 v5 : AV) (h : Heap) : OX :=
ob (evBin .add v5 (AV.int .i64 1)) fun v79 =>
(q60_L16 v1 v3 v79 h)
noncomputable def q60_17k (s : St) : OX := q60_17 (s 1) (s 3) (s 5) s.h
theorem q60_17_eq (s : St) : W E 0 c_q60_17 s q60_L16k (exitTo 2 q60_14k xN) (finP [.t 2]) = q60_17k s :=
  by kernel_rfl
noncomputable def q60_18 (v1 v3 v5 : AV) (h : Heap) : OX :=
ob (evLd true 5 v1 h) fun v80 =>
ob (evFa 1 v1) fun v81 =>
ob (evLd false 1 v81 h) fun v82 =>
ob (evIxs 1 v82 v5) fun v84 =>
ob (evLd false 1 v84 h) fun v85 =>
oh (callAny E (callW E) 0 none true 48 [v80, v85] h) fun v86 h9 =>
ob (evBin .eql v86 (AV.int .i64 0)) fun v87 =>
gb v87 false (evFa 1 v1) fun v89 =>
gb v87 false (evLd false 1 v89 h9) fun v90 =>
gb v87 false (some v5) fun v91 =>
gb v87 false (evIxs 1 v90 v91) fun v92 =>
gb v87 false (evLd false 1 v92 h9) fun v93 =>
gb v87 false (evFa 1 v1) fun v94 =>
gb v87 false (evLd false 1 v94 h9) fun v95 =>
gb v87 false (some v5) fun v96 =>
gb v87 false (evSlcO 1 v95 none (some v96)) fun v97 =>
gh v87 false (callAny E (callW E) 0 none true 42 [v93, v97] h9) h9 fun v98 h10 =>
ob (evPick v87 (AV.bool true) v98) fun v99 =>
cnd v99
 ((expo1 h10 (AV.int .i64 80)))
 ((q60_17 v1 v3 v5 h10))
noncomputable def q60_18k (s : St) : OX := q60_18 (s 1) (s 3) (s 5) s.h
theorem q60_18_eq (s : St) : W E 0 c_q60_18 s q60_L16k (exitTo 2 q60_14k xN) (finP [.t 2]) = q60_18k s :=
  (W_seq (k := q60_17k) (fun s => q60_17_eq s)).trans (by kernel_rfl)
noncomputable def q60_19 (v1 v3 v5 : AV) (h : Heap) : OX :=
ob (evFa 1 v1) fun v74 =>
ob (evLd false 1 v74 h) fun v75 =>
ob (evLen 1 v75 h) fun v76 =>
ob (evBin .lss v5 v76) fun v77 =>
cnd v77
 ((q60_18 v1 v3 v5 h))
 ((q60_14 v1 v3 h))
noncomputable def q60_19k (s : St) : OX := q60_19 (s 1) (s 3) (s 5) s.h
theorem q60_19_eq (s : St) : W E 0 c_q60_19 s q60_L16k (exitTo 2 q60_14k xN) (finP [.t 2]) = q60_19k s :=
  (W_seq (k := q60_18k) (fun s => q60_18_eq s)).trans (by kernel_rfl)
theorem q60_L16_go (v1 v3 v5 : AV) (h : Heap) : q60_L16 v1 v3 v5 h = (q60_19 v1 v3 v5 h) :=
  W_loop.trans ((W_congr _ _ _ (n' := q60_L16k) (fun s => q60_L16_eq s)).trans ((q60_19_eq _).trans (by kernel_rfl)))
theorem q60_20_eq (s : St) : W E 0 c_q60_20 s q60_14k xN (finP [.t 2]) = q60_L16k s :=
  W_block.trans (q60_L16_eq s)
noncomputable def q60_21 (v1 v3 : AV) (h : Heap) : OX :=
(q60_L16 v1 v3 (AV.int .i64 0) h)
noncomputable def q60_21k (s : St) : OX := q60_21 (s 1) (s 3) s.h
theorem q60_21_eq (s : St) : W E 0 c_q60_21 s q60_14k xN (finP [.t 2]) = q60_21k s :=
  (W_seq (k := q60_L16k) (fun s => q60_20_eq s)).trans (by kernel_rfl)
theorem q60_22_eq (s : St) : W E 0 c_q60_22 s (finP [.t 2]) xN (finP [.t 2]) = q60_21k s :=
  (W_seq (k := q60_14k) (fun s => q60_15_eq s)).trans (q60_21_eq s)
noncomputable def q60_L23 (v1 v3 v4 : AV) (h : Heap) : OX :=
  W E 0 c_q60_L23 ⟨[(1, v1), (3, v3), (4, v4)], h⟩ q60_21k (exitTo 0 q60_21k xN) (finP [.t 2])
noncomputable def q60_L23k (s : St) : OX := q60_L23 (s 1) (s 3) (s 4) s.h
theorem q60_L23_eq (s : St) : W E 0 c_q60_L23 s q60_21k (exitTo 0 q60_21k xN) (finP [.t 2]) = q60_L23k s := W_loop_live.trans (by kernel_rfl)
noncomputable def q60_24 (v1 v3 v4 : AV) (h : Heap) : OX :=
ob (evBin .add v4 (AV.int .i64 1)) fun v58 =>
(q60_L23 v1 v3 v58 h)
noncomputable def q60_24k (s : St) : OX := q60_24 (s 1) (s 3) (s 4) s.h
theorem q60_24_eq (s : St) : W E 0 c_q60_24 s q60_L23k (exitTo 0 q60_21k xN) (finP [.t 2]) = q60_24k s :=
  by kernel_rfl
noncomputable def q60_25 (v1 v3 v4 : AV) (h : Heap) : OX :=
ob (evFa 0 v1) fun v59 =>
ob (evLd false 1 v59 h) fun v60 =>
ob (evIxs 1 v60 v4) fun v62 =>
ob (evLd false 1 v62 h) fun v63 =>
ob (evBin .lss v63 (AV.int .i64 1)) fun v64 =>
gb v64 false (evFa 0 v1) fun v66 =>
gb v64 false (evLd false 1 v66 h) fun v67 =>
gb v64 false (some v4) fun v68 =>
gb v64 false (evIxs 1 v67 v68) fun v69 =>
gb v64 false (evLd false 1 v69 h) fun v70 =>
gb v64 false (evBin .gtr v70 (AV.int .i64 3)) fun v71 =>
ob (evPick v64 (AV.bool true) v71) fun v72 =>
cnd v72
 ((expo1 h (AV.int .i64 80)))
 ((q60_24 v1 v3 v4 h))
noncomputable def q60_25k (s : St) : OX := q60_25 (s 1) (s 3) (s 4) s.h
theorem q60_25_eq (s : St) : W E 0 c_q60_25 s q60_L23k (exitTo 0 q60_21k xN) (finP [.t 2]) = q60_25k s :=
  (W_seq (k := q60_24k) (fun s => q60_24_eq s)).trans (by kernel_rfl)
noncomputable def q60_26 (v1 v3 v4 : AV) (h : Heap) : OX :=
ob (evFa 0 v1) fun v53 =>
ob (evLd false 1 v53 h) fun v54 =>
ob (evLen 1 v54 h) fun v55 =>
ob (evBin .lss v4 v55) fun v56 =>
cnd v56
 ((q60_25 v1 v3 v4 h))
 ((q60_21 v1 v3 h))
noncomputable def q60_26k (s : St) : OX := q60_26 (s 1) (s 3) (s 4) s.h
theorem q60_26_eq (s : St) : W E 0 c_q60_26 s q60_L23k (exitTo 0 q60_21k xN) (finP [.t 2]) = q60_26k s :=
  (W_seq (k := q60_25k) (fun s => q60_25_eq s)).trans (by kernel_rfl)
theorem q60_L23_go (v1 v3 v4 : AV) (h : Heap) : q60_L23 v1 v3 v4 h = (q60_26 v1 v3 v4 h) :=
  W_loop.trans ((W_congr _ _ _ (n' := q60_L23k) (fun s => q60_L23_eq s)).trans ((q60_26_eq _).trans (by kernel_rfl)))
theorem q60_27_eq (s : St) : W E 0 c_q60_27 s q60_21k xN (finP [.t 2]) = q60_L23k s :=
  W_block.trans (q60_L23_eq s)
noncomputable def q60_28 (v1 v3 : AV) (h : Heap) : OX :=
(q60_L23 v1 v3 (AV.int .i64 0) h)
noncomputable def q60_28k (s : St) : OX := q60_28 (s 1) (s 3) s.h
theorem q60_28_eq (s : St) : W E 0 c_q60_28 s q60_21k xN (finP [.t 2]) = q60_28k s :=
  (W_seq (k := q60_L23k) (fun s => q60_27_eq s)).trans (by kernel_rfl)
theorem q60_29_eq (s : St) : W E 0 c_q60_29 s (finP [.t 2]) xN (finP [.t 2]) = q60_28k s :=
  (W_seq (k := q60_21k) (fun s => q60_22_eq s)).trans (q60_28_eq s)
noncomputable def q60_30 (v1 v3 : AV) (h : Heap) : OX :=
ob (evBin .eql v3 (AV.int .i64 0)) fun v14 =>
gb v14 false (some v3) fun v16 =>
gb v14 false (evBin .gtr v16 (AV.int .i64 20000)) fun v17 =>
ob (evPick v14 (AV.bool true) v17) fun v18 =>
gb v18 false (evFa 0 v1) fun v20 =>
gb v18 false (evLd false 1 v20 h) fun v21 =>
gb v18 false (evLen 1 v21 h) fun v22 =>
gb v18 false (evBin .gtr v22 (AV.int .i64 20000)) fun v23 =>
ob (evPick v18 (AV.bool true) v23) fun v24 =>
gb v24 false (evFa 1 v1) fun v26 =>
gb v24 false (evLd false 1 v26 h) fun v27 =>
gb v24 false (evLen 1 v27 h) fun v28 =>
gb v24 false (evBin .gtr v28 (AV.int .i64 21)) fun v29 =>
ob (evPick v24 (AV.bool true) v29) fun v30 =>
gb v30 false (evFa 2 v1) fun v32 =>
gb v30 false (evLd false 1 v32 h) fun v33 =>
gb v30 false (evBin .lss v33 (AV.int .i64 0)) fun v34 =>
ob (evPick v30 (AV.bool true) v34) fun v35 =>
gb v35 false (evFa 2 v1) fun v37 =>
gb v35 false (evLd false 1 v37 h) fun v38 =>
gb v35 false (evBin .gtr v38 (AV.int .i64 3)) fun v39 =>
ob (evPick v35 (AV.bool true) v39) fun v40 =>
gb v40 false (evFa 3 v1) fun v42 =>
gb v40 false (evLd false 1 v42 h) fun v43 =>
gb v40 false (some v3) fun v44 =>
gb v40 false (evBin .sub v44 (AV.int .i64 1)) fun v45 =>
gb v40 false (evIxs 9 v43 v45) fun v46 =>
gb v40 false (evFa 0 v46) fun v47 =>
gb v40 false (evLd false 1 v47 h) fun v48 =>
gh v40 false (callAny E (callW E) 0 none true 25 [v48] h) h fun v49 h11 =>
gb v40 false (evUn .not v49) fun v50 =>
ob (evPick v40 (AV.bool true) v50) fun v51 =>
cnd v51
 ((expo1 h11 (AV.int .i64 80)))
 ((q60_28 v1 v3 h11))
noncomputable def q60_30k (s : St) : OX := q60_30 (s 1) (s 3) s.h
theorem q60_30_eq (s : St) : W E 0 c_q60_30 s (finP [.t 2]) xN (finP [.t 2]) = q60_30k s :=
  (W_seq (k := q60_28k) (fun s => q60_29_eq s)).trans (by kernel_rfl)
noncomputable def q60_31 (v1 : AV) (h : Heap) : OX :=
ob (evFa 3 v1) fun v10 =>
ob (evLd false 1 v10 h) fun v11 =>
ob (evLen 1 v11 h) fun v12 =>
(q60_30 v1 v12 h)
noncomputable def q60_31k (s : St) : OX := q60_31 (s 1) s.h
theorem q60_31_eq (s : St) : W E 0 c_q60_31 s (finP [.t 2]) xN (finP [.t 2]) = q60_31k s :=
  (W_seq (k := q60_30k) (fun s => q60_30_eq s)).trans (by kernel_rfl)
noncomputable def q60_32 (v0 : AV) (h : Heap) : OX :=
oh (newC 0 (some 0) (cellsOf v0) h) fun v1 h12 =>
(q60_31 v1 h12)
noncomputable def q60_32k (s : St) : OX := q60_32 (s 0) s.h
theorem q60_32_eq (s : St) : W E 0 c_q60_32 s (finP [.t 2]) xN (finP [.t 2]) = q60_32k s :=
  (W_seq (k := q60_31k) (fun s => q60_31_eq s)).trans (by kernel_rfl)
@[simp] theorem pure_29 : E.pure 29 = true := rfl
theorem x_q60 (v0 : AV) : (callW E).p 29 [v0] = q60_32 v0 [⟨0, .dead⟩, ⟨0, .dead⟩, ⟨0, .dead⟩] :=
  (callP_W (cf := c_q60) (by kernel_rfl) rfl).trans ((q60_32_eq _).trans (by kernel_rfl))
noncomputable def q68_1 (v3 : AV) (h : Heap) : OX :=
(expo1 h v3)
noncomputable def q68_1k (s : St) : OX := q68_1 (s 3) s.h
theorem q68_1_eq (s : St) : W E 0 c_q68_1 s (finP [.t 2]) xN (finP [.t 2]) = q68_1k s :=
  by kernel_rfl
noncomputable def q68_L2 (v3 v4 v5 v6 : AV) (h : Heap) : OX :=
  W E 0 c_q68_L2 ⟨[(3, v3), (4, v4), (5, v5), (6, v6)], h⟩ q68_1k (exitTo 0 q68_1k xN) (finP [.t 2])
noncomputable def q68_L2k (s : St) : OX := q68_L2 (s 3) (s 4) (s 5) (s 6) s.h
theorem q68_L2_eq (s : St) : W E 0 c_q68_L2 s q68_1k (exitTo 0 q68_1k xN) (finP [.t 2]) = q68_L2k s := W_loop_live.trans (by kernel_rfl)
noncomputable def q68_3 (v3 v4 v5 v6 : AV) (h : Heap) : OX :=
ob (evBin .add v6 (AV.int .i64 1)) fun v36 =>
(q68_L2 v3 v4 v5 v36 h)
noncomputable def q68_3k (s : St) : OX := q68_3 (s 3) (s 4) (s 5) (s 6) s.h
theorem q68_3_eq (s : St) : W E 0 c_q68_3 s q68_L2k (exitTo 0 q68_1k xN) (finP [.t 2]) = q68_3k s :=
  by kernel_rfl
noncomputable def q68_4 (v3 v4 v5 v6 : AV) (h : Heap) : OX :=
ob (evIxstr v4 v6) fun v39 =>
ob (evBin .neq v39 (AV.int .u8 45)) fun v40 =>
gb v40 true (some v4) fun v42 =>
gb v40 true (some v6) fun v43 =>
gb v40 true (evIxstr v42 v43) fun v44 =>
gb v40 true (evBin .neq v44 (AV.int .u8 63)) fun v45 =>
gb v40 true (some v45) fun v46 =>
gb v46 false (some v5) fun v47 =>
gb v46 false (some v6) fun v48 =>
gb v46 false (evIxs 1 v47 v48) fun v49 =>
gb v46 false (evLd false 1 v49 h) fun v50 =>
gb v46 false (evBin .geq v50 (AV.int .i64 0)) fun v51 =>
gb v40 true (evPick v46 (AV.bool true) v51) fun v52 =>
ob (evPick v40 v52 (AV.bool false)) fun v53 =>
cnd v53
 (ob (evIxs 1 v5 v6) fun v57 =>
ob (evLd false 1 v57 h) fun v58 =>
oh (buildSC 0 (some 3) 1 1 [(.int .i64 0)] [(0, v58)] h) fun v59 h1 =>
oh (evApp 0 (some 4) 1 8 v3 v59 h1) fun v60 h2 =>
(q68_3 v60 v4 v5 v6 h2))
 ((q68_3 v3 v4 v5 v6 h))
noncomputable def q68_4k (s : St) : OX := q68_4 (s 3) (s 4) (s 5) (s 6) s.h
theorem q68_4_eq (s : St) : W E 0 c_q68_4 s q68_L2k (exitTo 0 q68_1k xN) (finP [.t 2]) = q68_4k s :=
  (W_seq (k := q68_3k) (fun s => q68_3_eq s)).trans (by kernel_rfl)
noncomputable def q68_5 (v3 v4 v5 v6 : AV) (h : Heap) : OX :=
ob (evLen 0 v4 h) fun v33 =>
ob (evBin .lss v6 v33) fun v34 =>
cnd v34
 ((q68_4 v3 v4 v5 v6 h))
 ((q68_1 v3 h))
noncomputable def q68_5k (s : St) : OX := q68_5 (s 3) (s 4) (s 5) (s 6) s.h
theorem q68_5_eq (s : St) : W E 0 c_q68_5 s q68_L2k (exitTo 0 q68_1k xN) (finP [.t 2]) = q68_5k s :=
  (W_seq (k := q68_4k) (fun s => q68_4_eq s)).trans (by kernel_rfl)
theorem q68_L2_go (v3 v4 v5 v6 : AV) (h : Heap) : q68_L2 v3 v4 v5 v6 h = (q68_5 v3 v4 v5 v6 h) :=
  W_loop.trans ((W_congr _ _ _ (n' := q68_L2k) (fun s => q68_L2_eq s)).trans ((q68_5_eq _).trans (by kernel_rfl)))
theorem q68_6_eq (s : St) : W E 0 c_q68_6 s q68_1k xN (finP [.t 2]) = q68_L2k s :=
  W_block.trans (q68_L2_eq s)
noncomputable def q68_7 (v3 v4 v5 : AV) (h : Heap) : OX :=
(q68_L2 v3 v4 v5 (AV.int .i64 1) h)
noncomputable def q68_7k (s : St) : OX := q68_7 (s 3) (s 4) (s 5) s.h
theorem q68_7_eq (s : St) : W E 0 c_q68_7 s q68_1k xN (finP [.t 2]) = q68_7k s :=
  (W_seq (k := q68_L2k) (fun s => q68_6_eq s)).trans (by kernel_rfl)
theorem q68_8_eq (s : St) : W E 0 c_q68_8 s (finP [.t 2]) xN (finP [.t 2]) = q68_7k s :=
  (W_seq (k := q68_1k) (fun s => q68_1_eq s)).trans (q68_7_eq s)
noncomputable def q68_9 (v1 v3 v4 : AV) (h : Heap) : OX :=
ob (evFa 1 v1) fun v22 =>
ob (evLd false 1 v22 h) fun v23 =>
ob (evFa 2 v1) fun v24 =>
ob (evLd false 1 v24 h) fun v25 =>
ob (evFa 3 v1) fun v26 =>
ob (evLd false 1 v26 h) fun v27 =>
ob (evFa 4 v1) fun v28 =>
ob (evLd false 1 v28 h) fun v29 =>
oh (buildSC 0 (some 2) 1 4 [(.int .i64 0)] [(0, v23), (1, v25), (2, v27), (3, v29)] h) fun v30 h3 =>
(q68_7 v3 v4 v30 h3)
noncomputable def q68_9k (s : St) : OX := q68_9 (s 1) (s 3) (s 4) s.h
theorem q68_9_eq (s : St) : W E 0 c_q68_9 s (finP [.t 2]) xN (finP [.t 2]) = q68_9k s :=
  (W_seq (k := q68_7k) (fun s => q68_8_eq s)).trans (by kernel_rfl)
noncomputable def q68_10 (v1 v3 v4 : AV) (h : Heap) : OX :=
ob (evFa 0 v1) fun v19 =>
ob (evLd false 1 v19 h) fun v20 =>
ob (evBin .eql v20 (AV.int .i64 6)) fun v21 =>
cnd v21
 ((q68_9 v1 v3 (AV.str [45, 42, 45, 45]) h))
 ((q68_9 v1 v3 v4 h))
noncomputable def q68_10k (s : St) : OX := q68_10 (s 1) (s 3) (s 4) s.h
theorem q68_10_eq (s : St) : W E 0 c_q68_10 s (finP [.t 2]) xN (finP [.t 2]) = q68_10k s :=
  (W_seq (k := q68_9k) (fun s => q68_9_eq s)).trans (by kernel_rfl)
noncomputable def q68_11 (v1 v3 v4 : AV) (h : Heap) : OX :=
ob (evFa 0 v1) fun v16 =>
ob (evLd false 1 v16 h) fun v17 =>
ob (evBin .eql v17 (AV.int .i64 5)) fun v18 =>
cnd v18
 ((q68_10 v1 v3 (AV.str [45, 42, 42, 45]) h))
 ((q68_10 v1 v3 v4 h))
noncomputable def q68_11k (s : St) : OX := q68_11 (s 1) (s 3) (s 4) s.h
theorem q68_11_eq (s : St) : W E 0 c_q68_11 s (finP [.t 2]) xN (finP [.t 2]) = q68_11k s :=
  (W_seq (k := q68_10k) (fun s => q68_10_eq s)).trans (by kernel_rfl)
noncomputable def q68_12 (v1 v3 : AV) (h : Heap) : OX :=
ob (evFa 0 v1) fun v13 =>
ob (evLd false 1 v13 h) fun v14 =>
oh (callAny E (callW E) 0 none true 38 [v14] h) fun v15 h4 =>
(q68_11 v1 v3 v15 h4)
noncomputable def q68_12k (s : St) : OX := q68_12 (s 1) (s 3) s.h
theorem q68_12_eq (s : St) : W E 0 c_q68_12 s (finP [.t 2]) xN (finP [.t 2]) = q68_12k s :=
  (W_seq (k := q68_11k) (fun s => q68_11_eq s)).trans (by kernel_rfl)
noncomputable def q68_13 (v1 : AV) (h : Heap) : OX :=
(q68_12 v1 AV.nils h)
noncomputable def q68_13k (s : St) : OX := q68_13 (s 1) s.h
theorem q68_13_eq (s : St) : W E 0 c_q68_13 s (finP [.t 2]) xN (finP [.t 2]) = q68_13k s :=
  (W_seq (k := q68_12k) (fun s => q68_12_eq s)).trans (by kernel_rfl)
noncomputable def q68_14 (v1 : AV) (h : Heap) : OX :=
ob (evFa 0 v1) fun v7 =>
ob (evLd false 1 v7 h) fun v8 =>
oh (callAny E (callW E) 0 none true 7 [v8] h) fun v9 h5 =>
cnd v9
 (ob (evFa 8 v1) fun v10 =>
ob (evLd false 1 v10 h5) fun v11 =>
oh (evApp 0 (some 1) 1 8 AV.nils v11 h5) fun v12 h6 =>
(expo1 h6 v12))
 ((q68_13 v1 h5))
noncomputable def q68_14k (s : St) : OX := q68_14 (s 1) s.h
theorem q68_14_eq (s : St) : W E 0 c_q68_14 s (finP [.t 2]) xN (finP [.t 2]) = q68_14k s :=
  (W_seq (k := q68_13k) (fun s => q68_13_eq s)).trans (by kernel_rfl)
noncomputable def q68_15 (v0 : AV) (h : Heap) : OX :=
oh (newC 0 (some 0) (cellsOf v0) h) fun v1 h7 =>
(q68_14 v1 h7)
noncomputable def q68_15k (s : St) : OX := q68_15 (s 0) s.h
theorem q68_15_eq (s : St) : W E 0 c_q68_15 s (finP [.t 2]) xN (finP [.t 2]) = q68_15k s :=
  (W_seq (k := q68_14k) (fun s => q68_14_eq s)).trans (by kernel_rfl)
@[simp] theorem pure_15 : E.pure 15 = true := rfl
theorem x_q68 (v0 : AV) : (callW E).p 15 [v0] = q68_15 v0 [⟨0, .dead⟩, ⟨0, .dead⟩, ⟨0, .dead⟩, ⟨0, .dead⟩, ⟨0, .dead⟩] :=
  (callP_W (cf := c_q68) (by kernel_rfl) rfl).trans ((q68_15_eq _).trans (by kernel_rfl))
noncomputable def q61_1 (v1 : AV) (h : Heap) : OX :=
ob (evFa 1 v1) fun v14 =>
ob (evLd false 1 v14 h) fun v15 =>
(expo1 h v15)
noncomputable def q61_1k (s : St) : OX := q61_1 (s 1) s.h
theorem q61_1_eq (s : St) : W E 0 c_q61_1 s (finP [.t 2]) xN (finP [.t 2]) = q61_1k s :=
  by kernel_rfl
noncomputable def q61_2 (v1 v3 : AV) (h : Heap) : OX :=
ob (evBin .eql v3 (AV.str [])) fun v8 =>
gb v8 false (some v3) fun v10 =>
gb v8 false (evIxstr v10 (AV.int .i64 0)) fun v11 =>
gb v8 false (evBin .eql v11 (AV.int .u8 45)) fun v12 =>
ob (evPick v8 (AV.bool true) v12) fun v13 =>
cnd v13
 ((expo1 h (AV.int .i64 (-1))))
 ((q61_1 v1 h))
noncomputable def q61_2k (s : St) : OX := q61_2 (s 1) (s 3) s.h
theorem q61_2_eq (s : St) : W E 0 c_q61_2 s (finP [.t 2]) xN (finP [.t 2]) = q61_2k s :=
  (W_seq (k := q61_1k) (fun s => q61_1_eq s)).trans (by kernel_rfl)
noncomputable def q61_3 (v1 : AV) (h : Heap) : OX :=
ob (evFa 0 v1) fun v4 =>
ob (evLd false 1 v4 h) fun v5 =>
oh (callAny E (callW E) 0 none true 38 [v5] h) fun v6 h1 =>
(q61_2 v1 v6 h1)
noncomputable def q61_3k (s : St) : OX := q61_3 (s 1) s.h
theorem q61_3_eq (s : St) : W E 0 c_q61_3 s (finP [.t 2]) xN (finP [.t 2]) = q61_3k s :=
  (W_seq (k := q61_2k) (fun s => q61_2_eq s)).trans (by kernel_rfl)
noncomputable def q61_4 (v0 : AV) (h : Heap) : OX :=
oh (newC 0 (some 0) (cellsOf v0) h) fun v1 h2 =>
(q61_3 v1 h2)
noncomputable def q61_4k (s : St) : OX := q61_4 (s 0) s.h
theorem q61_4_eq (s : St) : W E 0 c_q61_4 s (finP [.t 2]) xN (finP [.t 2]) = q61_4k s :=
  (W_seq (k := q61_3k) (fun s => q61_3_eq s)).trans (by kernel_rfl)
@[simp] theorem pure_16 : E.pure 16 = true := rfl
theorem x_q61 (v0 : AV) : (callW E).p 16 [v0] = q61_4 v0 [⟨0, .dead⟩] :=
  (callP_W (cf := c_q61) (by kernel_rfl) rfl).trans ((q61_4_eq _).trans (by kernel_rfl))
noncomputable def q67_1 (v0 : AV) (h : Heap) : OX :=
ob (evBin .geq v0 (AV.int .i64 7)) fun v4 =>
gb v4 true (some v0) fun v6 =>
gb v4 true (evBin .leq v6 (AV.int .i64 12)) fun v7 =>
ob (evPick v4 v7 (AV.bool false)) fun v8 =>
gb v8 false (some v0) fun v10 =>
gh v8 false (buildSC 0 (some 0) 1 3 [(.int .i64 0)] [(0, (AV.int .i64 20)), (1, (AV.int .i64 21)), (2, (AV.int .i64 31))] h) h fun v11 h1 =>
gh v8 false (callAny E (callW E) 0 none true 42 [v10, v11] h1) h1 fun v12 h2 =>
ob (evPick v8 (AV.bool true) v12) fun v13 =>
gb v13 false (some v0) fun v15 =>
gh v13 false (callAny E (callW E) 0 none true 7 [v15] h2) h2 fun v16 h3 =>
ob (evPick v13 (AV.bool true) v16) fun v17 =>
(expo1 h3 v17)
noncomputable def q67_1k (s : St) : OX := q67_1 (s 0) s.h
theorem q67_1_eq (s : St) : W E 0 c_q67_1 s (finP [.t 2]) xN (finP [.t 2]) = q67_1k s :=
  by kernel_rfl
@[simp] theorem pure_19 : E.pure 19 = true := rfl
theorem x_q67 (v0 : AV) : (callW E).p 19 [v0] = q67_1 v0 [⟨0, .dead⟩] :=
  (callP_W (cf := c_q67) (by kernel_rfl) rfl).trans ((q67_1_eq _).trans (by kernel_rfl))
noncomputable def q64_1 (v0 : AV) (h : Heap) : OX :=
oh (buildSC 0 (some 0) 1 3 [(.int .i64 0)] [(0, (AV.int .i64 27)), (1, (AV.int .i64 28)), (2, (AV.int .i64 29))] h) fun v4 h1 =>
oh (callAny E (callW E) 0 none true 42 [v0, v4] h1) fun v5 h2 =>
(expo1 h2 v5)
noncomputable def q64_1k (s : St) : OX := q64_1 (s 0) s.h
theorem q64_1_eq (s : St) : W E 0 c_q64_1 s (finP [.t 2]) xN (finP [.t 2]) = q64_1k s :=
  by kernel_rfl
@[simp] theorem pure_23 : E.pure 23 = true := rfl
theorem x_q64 (v0 : AV) : (callW E).p 23 [v0] = q64_1 v0 [⟨0, .dead⟩] :=
  (callP_W (cf := c_q64) (by kernel_rfl) rfl).trans ((q64_1_eq _).trans (by kernel_rfl))
noncomputable def q62_1 (v0 : AV) (h : Heap) : OX :=
oh (buildSC 0 (some 0) 1 3 [(.int .i64 0)] [(0, (AV.int .i64 27)), (1, (AV.int .i64 30)), (2, (AV.int .i64 31))] h) fun v4 h1 =>
oh (callAny E (callW E) 0 none true 42 [v0, v4] h1) fun v5 h2 =>
(expo1 h2 v5)
noncomputable def q62_1k (s : St) : OX := q62_1 (s 0) s.h
theorem q62_1_eq (s : St) : W E 0 c_q62_1 s (finP [.t 2]) xN (finP [.t 2]) = q62_1k s :=
  by kernel_rfl
@[simp] theorem pure_25 : E.pure 25 = true := rfl
theorem x_q62 (v0 : AV) : (callW E).p 25 [v0] = q62_1 v0 [⟨0, .dead⟩] :=
  (callP_W (cf := c_q62) (by kernel_rfl) rfl).trans ((q62_1_eq _).trans (by kernel_rfl))
noncomputable def q8_1 (h : Heap) : OX :=
(expo1 h (AV.bool true))
noncomputable def q8_1k (s : St) : OX := q8_1 s.h
theorem q8_1_eq (s : St) : W E 0 c_q8_1 s (finP [.t 2]) xN (finP [.t 2]) = q8_1k s :=
  by kernel_rfl
noncomputable def q8_L2 (v3 v104 v105 v106 : AV) (h : Heap) : OX :=
  W E 0 c_q8_L2 ⟨[(3, v3), (104, v104), (105, v105), (106, v106)], h⟩ q8_1k (exitTo 8 q8_1k xN) (finP [.t 2])
noncomputable def q8_L2k (s : St) : OX := q8_L2 (s 3) (s 104) (s 105) (s 106) s.h
theorem q8_L2_eq (s : St) : W E 0 c_q8_L2 s q8_1k (exitTo 8 q8_1k xN) (finP [.t 2]) = q8_L2k s := W_loop_live.trans (by kernel_rfl)
noncomputable def q8_3 (v3 v104 v105 v106 : AV) (h : Heap) : OX :=
ob (evBin .add v106 (AV.int .i64 1)) fun v134 =>
(q8_L2 v3 v104 v105 v134 h)
noncomputable def q8_3k (s : St) : OX := q8_3 (s 3) (s 104) (s 105) (s 106) s.h
theorem q8_3_eq (s : St) : W E 0 c_q8_3 s q8_L2k (exitTo 8 q8_1k xN) (finP [.t 2]) = q8_3k s :=
  by kernel_rfl
noncomputable def q8_L4 (v3 v15 v104 v105 v106 v112 v113 v114 : AV) (h : Heap) : OX :=
  W E 0 c_q8_L4 ⟨[(3, v3), (15, v15), (104, v104), (105, v105), (106, v106), (112, v112), (113, v113), (114, v114)], h⟩ q8_3k (exitTo 10 q8_3k (exitTo 9 q8_3k (exitTo 8 q8_1k xN))) (finP [.t 2])
noncomputable def q8_L4k (s : St) : OX := q8_L4 (s 3) (s 15) (s 104) (s 105) (s 106) (s 112) (s 113) (s 114) s.h
theorem q8_L4_eq (s : St) : W E 0 c_q8_L4 s q8_3k (exitTo 10 q8_3k (exitTo 9 q8_3k (exitTo 8 q8_1k xN))) (finP [.t 2]) = q8_L4k s := W_loop_live.trans (by kernel_rfl)
noncomputable def q8_5 (v3 v15 v104 v105 v106 v112 v113 v114 : AV) (h : Heap) : OX :=
ob (evBin .add v114 (AV.int .i64 1)) fun v133 =>
(q8_L4 v3 v15 v104 v105 v106 v112 v113 v133 h)
noncomputable def q8_5k (s : St) : OX := q8_5 (s 3) (s 15) (s 104) (s 105) (s 106) (s 112) (s 113) (s 114) s.h
theorem q8_5_eq (s : St) : W E 0 c_q8_5 s q8_L4k (exitTo 10 q8_3k (exitTo 9 q8_3k (exitTo 8 q8_1k xN))) (finP [.t 2]) = q8_5k s :=
  by kernel_rfl
noncomputable def q8_6 (v3 v15 v104 v105 v106 v112 v113 v114 : AV) (h : Heap) : OX :=
ob (evIxs 1 v112 v114) fun v116 =>
ob (evLd false 1 v116 h) fun v117 =>
ob (evIxs 1 v3 v15) fun v120 =>
ob (evLd false 1 v120 h) fun v121 =>
ob (evEqnB 1 true v121 AV.nils) fun v122 =>
gb v122 true (some v3) fun v124 =>
gb v122 true (some v15) fun v125 =>
gb v122 true (evIxs 1 v124 v125) fun v126 =>
gb v122 true (evLd false 1 v126 h) fun v127 =>
gb v122 true (some v117) fun v128 =>
gb v122 true (evIxs 1 v127 v128) fun v129 =>
gb v122 true (evLd false 1 v129 h) fun v130 =>
gb v122 true (evUn .not v130) fun v131 =>
ob (evPick v122 v131 (AV.bool false)) fun v132 =>
cnd v132
 ((expo1 h (AV.bool false)))
 ((q8_5 v3 v15 v104 v105 v106 v112 v113 v114 h))
noncomputable def q8_6k (s : St) : OX := q8_6 (s 3) (s 15) (s 104) (s 105) (s 106) (s 112) (s 113) (s 114) s.h
theorem q8_6_eq (s : St) : W E 0 c_q8_6 s q8_L4k (exitTo 10 q8_3k (exitTo 9 q8_3k (exitTo 8 q8_1k xN))) (finP [.t 2]) = q8_6k s :=
  (W_seq (k := q8_5k) (fun s => q8_5_eq s)).trans (by kernel_rfl)
noncomputable def q8_7 (v3 v15 v104 v105 v106 v112 v113 v114 v115 : AV) (h : Heap) : OX :=
cnd v115
 ((q8_6 v3 v15 v104 v105 v106 v112 v113 v114 h))
 ((q8_3 v3 v104 v105 v106 h))
noncomputable def q8_7k (s : St) : OX := q8_7 (s 3) (s 15) (s 104) (s 105) (s 106) (s 112) (s 113) (s 114) (s 115) s.h
theorem q8_7_eq (s : St) : W E 0 c_q8_7 s q8_L4k (exitTo 10 q8_3k (exitTo 9 q8_3k (exitTo 8 q8_1k xN))) (finP [.t 2]) = q8_7k s :=
  (W_seq (k := q8_6k) (fun s => q8_6_eq s)).trans (by kernel_rfl)
noncomputable def q8_8 (v3 v15 v104 v105 v106 v112 v113 v114 : AV) (h : Heap) : OX :=
ob (evBin .lss v114 v113) fun v115 =>
(q8_7 v3 v15 v104 v105 v106 v112 v113 v114 v115 h)
noncomputable def q8_8k (s : St) : OX := q8_8 (s 3) (s 15) (s 104) (s 105) (s 106) (s 112) (s 113) (s 114) s.h
theorem q8_8_eq (s : St) : W E 0 c_q8_8 s q8_L4k (exitTo 10 q8_3k (exitTo 9 q8_3k (exitTo 8 q8_1k xN))) (finP [.t 2]) = q8_8k s :=
  (W_seq (k := q8_7k) (fun s => q8_7_eq s)).trans (by kernel_rfl)
theorem q8_L4_go (v3 v15 v104 v105 v106 v112 v113 v114 : AV) (h : Heap) : q8_L4 v3 v15 v104 v105 v106 v112 v113 v114 h = (q8_8 v3 v15 v104 v105 v106 v112 v113 v114 h) :=
  W_loop.trans ((W_congr _ _ _ (n' := q8_L4k) (fun s => q8_L4_eq s)).trans ((q8_8_eq _).trans (by kernel_rfl)))
theorem q8_9_eq (s : St) : W E 0 c_q8_9 s q8_3k (exitTo 9 q8_3k (exitTo 8 q8_1k xN)) (finP [.t 2]) = q8_L4k s :=
  W_block.trans (q8_L4_eq s)
noncomputable def q8_10 (v3 v15 v16 v104 v105 v106 : AV) (h : Heap) : OX :=
ob (evLd true 9 v16 h) fun v111 =>
oh (callAny E (callW E) 0 none true 10 [v111] h) fun v112 h1 =>
ob (evLen 1 v112 h1) fun v113 =>
(q8_L4 v3 v15 v104 v105 v106 v112 v113 (AV.int .i64 0) h1)
noncomputable def q8_10k (s : St) : OX := q8_10 (s 3) (s 15) (s 16) (s 104) (s 105) (s 106) s.h
theorem q8_10_eq (s : St) : W E 0 c_q8_10 s q8_3k (exitTo 9 q8_3k (exitTo 8 q8_1k xN)) (finP [.t 2]) = q8_10k s :=
  (W_seq (k := q8_L4k) (fun s => q8_9_eq s)).trans (by kernel_rfl)
noncomputable def q8_11 (v3 v104 v105 v106 : AV) (h : Heap) : OX :=
ob (evIxs 9 v104 v106) fun v109 =>
ob (evLd true 9 v109 h) fun v110 =>
oh (newC 0 (some 5) [(.int .i64 0), (.int .i64 0), (.int .i64 0), (.int .i64 0), (.int .i64 0), (.int .i64 0), (.int .i64 0), (.str []), .nils] h) fun v16 h2 =>
oh (evSt 9 v16 v110 h2) fun _ h3 =>
(q8_10 v3 v106 v16 v104 v105 v106 h3)
noncomputable def q8_11k (s : St) : OX := q8_11 (s 3) (s 104) (s 105) (s 106) s.h
theorem q8_11_eq (s : St) : W E 0 c_q8_11 s q8_3k (exitTo 9 q8_3k (exitTo 8 q8_1k xN)) (finP [.t 2]) = q8_11k s :=
  (W_seq (k := q8_10k) (fun s => q8_10_eq s)).trans (by kernel_rfl)
theorem q8_12_eq (s : St) : W E 0 c_q8_12 s q8_3k (exitTo 8 q8_1k xN) (finP [.t 2]) = q8_11k s :=
  W_block.trans (q8_11_eq s)
theorem q8_13_eq (s : St) : W E 0 c_q8_13 s q8_L2k (exitTo 8 q8_1k xN) (finP [.t 2]) = q8_11k s :=
  (W_seq (k := q8_3k) (fun s => q8_3_eq s)).trans (q8_12_eq s)
noncomputable def q8_14 (v3 v104 v105 v106 v107 : AV) (h : Heap) : OX :=
cnd v107
 ((q8_11 v3 v104 v105 v106 h))
 ((q8_1 h))
noncomputable def q8_14k (s : St) : OX := q8_14 (s 3) (s 104) (s 105) (s 106) (s 107) s.h
theorem q8_14_eq (s : St) : W E 0 c_q8_14 s q8_L2k (exitTo 8 q8_1k xN) (finP [.t 2]) = q8_14k s :=
  (W_seq (k := q8_11k) (fun s => q8_13_eq s)).trans (by kernel_rfl)
noncomputable def q8_15 (v3 v104 v105 v106 : AV) (h : Heap) : OX :=
ob (evBin .lss v106 v105) fun v107 =>
(q8_14 v3 v104 v105 v106 v107 h)
noncomputable def q8_15k (s : St) : OX := q8_15 (s 3) (s 104) (s 105) (s 106) s.h
theorem q8_15_eq (s : St) : W E 0 c_q8_15 s q8_L2k (exitTo 8 q8_1k xN) (finP [.t 2]) = q8_15k s :=
  (W_seq (k := q8_14k) (fun s => q8_14_eq s)).trans (by kernel_rfl)
theorem q8_L2_go (v3 v104 v105 v106 : AV) (h : Heap) : q8_L2 v3 v104 v105 v106 h = (q8_15 v3 v104 v105 v106 h) :=
  W_loop.trans ((W_congr _ _ _ (n' := q8_L2k) (fun s => q8_L2_eq s)).trans ((q8_15_eq _).trans (by kernel_rfl)))
theorem q8_16_eq (s : St) : W E 0 c_q8_16 s q8_1k xN (finP [.t 2]) = q8_L2k s :=
  W_block.trans (q8_L2_eq s)
noncomputable def q8_17 (v1 v3 : AV) (h : Heap) : OX :=
ob (evFa 3 v1) fun v103 =>
ob (evLd false 1 v103 h) fun v104 =>
ob (evLen 1 v104 h) fun v105 =>
(q8_L2 v3 v104 v105 (AV.int .i64 0) h)
noncomputable def q8_17k (s : St) : OX := q8_17 (s 1) (s 3) s.h
theorem q8_17_eq (s : St) : W E 0 c_q8_17 s q8_1k xN (finP [.t 2]) = q8_17k s :=
  (W_seq (k := q8_L2k) (fun s => q8_16_eq s)).trans (by kernel_rfl)
theorem q8_18_eq (s : St) : W E 0 c_q8_18 s (finP [.t 2]) xN (finP [.t 2]) = q8_17k s :=
  (W_seq (k := q8_1k) (fun s => q8_1_eq s)).trans (q8_17_eq s)
noncomputable def q8_L19 (v1 v3 v7 : AV) (h : Heap) : OX :=
  W E 0 c_q8_L19 ⟨[(1, v1), (3, v3), (7, v7)], h⟩ q8_17k (exitTo 2 q8_17k xN) (finP [.t 2])
noncomputable def q8_L19k (s : St) : OX := q8_L19 (s 1) (s 3) (s 7) s.h
theorem q8_L19_eq (s : St) : W E 0 c_q8_L19 s q8_17k (exitTo 2 q8_17k xN) (finP [.t 2]) = q8_L19k s := W_loop_live.trans (by kernel_rfl)
noncomputable def q8_L20 (v1 v3 v7 v9 v91 v92 v93 : AV) (h : Heap) : OX :=
  W E 0 c_q8_L20 ⟨[(1, v1), (3, v3), (7, v7), (9, v9), (91, v91), (92, v92), (93, v93)], h⟩ q8_L19k (exitTo 6 q8_L19k (exitTo 3 q8_L19k (exitTo 2 q8_17k xN))) (finP [.t 2])
noncomputable def q8_L20k (s : St) : OX := q8_L20 (s 1) (s 3) (s 7) (s 9) (s 91) (s 92) (s 93) s.h
theorem q8_L20_eq (s : St) : W E 0 c_q8_L20 s q8_L19k (exitTo 6 q8_L19k (exitTo 3 q8_L19k (exitTo 2 q8_17k xN))) (finP [.t 2]) = q8_L20k s := W_loop_live.trans (by kernel_rfl)
noncomputable def q8_21 (v1 v3 v7 v9 v91 v92 v93 : AV) (h : Heap) : OX :=
ob (evBin .add v93 (AV.int .i64 1)) fun v102 =>
(q8_L20 v1 v3 v7 v9 v91 v92 v102 h)
noncomputable def q8_21k (s : St) : OX := q8_21 (s 1) (s 3) (s 7) (s 9) (s 91) (s 92) (s 93) s.h
theorem q8_21_eq (s : St) : W E 0 c_q8_21 s q8_L20k (exitTo 6 q8_L19k (exitTo 3 q8_L19k (exitTo 2 q8_17k xN))) (finP [.t 2]) = q8_21k s :=
  by kernel_rfl
noncomputable def q8_22 (v1 v3 v7 v9 v91 v92 v93 : AV) (h : Heap) : OX :=
ob (evIxs 1 v91 v93) fun v95 =>
ob (evLd false 1 v95 h) fun v96 =>
oh (callAny E (callW E) 0 none false 80 [v3, v96, v9, v7] h) fun v101 h4 =>
(q8_21 v1 v3 v101 v9 v91 v92 v93 h4)
noncomputable def q8_22k (s : St) : OX := q8_22 (s 1) (s 3) (s 7) (s 9) (s 91) (s 92) (s 93) s.h
theorem q8_22_eq (s : St) : W E 0 c_q8_22 s q8_L20k (exitTo 6 q8_L19k (exitTo 3 q8_L19k (exitTo 2 q8_17k xN))) (finP [.t 2]) = q8_22k s :=
  (W_seq (k := q8_21k) (fun s => q8_21_eq s)).trans (by kernel_rfl)
noncomputable def q8_23 (v1 v3 v7 v9 v91 v92 v93 v94 : AV) (h : Heap) : OX :=
cnd v94
 ((q8_22 v1 v3 v7 v9 v91 v92 v93 h))
 ((q8_L19 v1 v3 v7 h))
noncomputable def q8_23k (s : St) : OX := q8_23 (s 1) (s 3) (s 7) (s 9) (s 91) (s 92) (s 93) (s 94) s.h
theorem q8_23_eq (s : St) : W E 0 c_q8_23 s q8_L20k (exitTo 6 q8_L19k (exitTo 3 q8_L19k (exitTo 2 q8_17k xN))) (finP [.t 2]) = q8_23k s :=
  (W_seq (k := q8_22k) (fun s => q8_22_eq s)).trans (by kernel_rfl)
noncomputable def q8_24 (v1 v3 v7 v9 v91 v92 v93 : AV) (h : Heap) : OX :=
ob (evBin .lss v93 v92) fun v94 =>
(q8_23 v1 v3 v7 v9 v91 v92 v93 v94 h)
noncomputable def q8_24k (s : St) : OX := q8_24 (s 1) (s 3) (s 7) (s 9) (s 91) (s 92) (s 93) s.h
theorem q8_24_eq (s : St) : W E 0 c_q8_24 s q8_L20k (exitTo 6 q8_L19k (exitTo 3 q8_L19k (exitTo 2 q8_17k xN))) (finP [.t 2]) = q8_24k s :=
  (W_seq (k := q8_23k) (fun s => q8_23_eq s)).trans (by kernel_rfl)
theorem q8_L20_go (v1 v3 v7 v9 v91 v92 v93 : AV) (h : Heap) : q8_L20 v1 v3 v7 v9 v91 v92 v93 h = (q8_24 v1 v3 v7 v9 v91 v92 v93 h) :=
  W_loop.trans ((W_congr _ _ _ (n' := q8_L20k) (fun s => q8_L20_eq s)).trans ((q8_24_eq _).trans (by kernel_rfl)))
theorem q8_25_eq (s : St) : W E 0 c_q8_25 s q8_L19k (exitTo 3 q8_L19k (exitTo 2 q8_17k xN)) (finP [.t 2]) = q8_L20k s :=
  W_block.trans (q8_L20_eq s)
noncomputable def q8_26 (v1 v3 v7 v8 v9 : AV) (h : Heap) : OX :=
ob (evLd true 5 v1 h) fun v89 =>
oh (callAny E (callW E) 0 none true 81 [v89, v8] h) fun v91 h5 =>
ob (evLen 1 v91 h5) fun v92 =>
(q8_L20 v1 v3 v7 v9 v91 v92 (AV.int .i64 0) h5)
noncomputable def q8_26k (s : St) : OX := q8_26 (s 1) (s 3) (s 7) (s 8) (s 9) s.h
theorem q8_26_eq (s : St) : W E 0 c_q8_26 s q8_L19k (exitTo 3 q8_L19k (exitTo 2 q8_17k xN)) (finP [.t 2]) = q8_26k s :=
  (W_seq (k := q8_L20k) (fun s => q8_25_eq s)).trans (by kernel_rfl)
noncomputable def q8_27 (v1 v3 v7 v8 v9 : AV) (h : Heap) : OX :=
ob (evFa 3 v1) fun v78 =>
ob (evLd false 1 v78 h) fun v79 =>
ob (evIxs 9 v79 v8) fun v81 =>
ob (evLd true 9 v81 h) fun v82 =>
oh (callAny E (callW E) 0 none true 9 [v82] h) fun v83 h6 =>
ob (evBin .geq v83 (AV.int .i64 0)) fun v85 =>
cnd v85
 (ob (evIxs 1 v9 v83) fun v88 =>
oh (evSt 1 v88 (AV.bool true) h6) fun _ h7 =>
(q8_26 v1 v3 v7 v8 v9 h7))
 ((q8_26 v1 v3 v7 v8 v9 h6))
noncomputable def q8_27k (s : St) : OX := q8_27 (s 1) (s 3) (s 7) (s 8) (s 9) s.h
theorem q8_27_eq (s : St) : W E 0 c_q8_27 s q8_L19k (exitTo 3 q8_L19k (exitTo 2 q8_17k xN)) (finP [.t 2]) = q8_27k s :=
  (W_seq (k := q8_26k) (fun s => q8_26_eq s)).trans (by kernel_rfl)
noncomputable def q8_L28 (v1 v3 v7 v8 v9 v66 v67 v68 : AV) (h : Heap) : OX :=
  W E 0 c_q8_L28 ⟨[(1, v1), (3, v3), (7, v7), (8, v8), (9, v9), (66, v66), (67, v67), (68, v68)], h⟩ q8_27k (exitTo 4 q8_27k (exitTo 3 q8_L19k (exitTo 2 q8_17k xN))) (finP [.t 2])
noncomputable def q8_L28k (s : St) : OX := q8_L28 (s 1) (s 3) (s 7) (s 8) (s 9) (s 66) (s 67) (s 68) s.h
theorem q8_L28_eq (s : St) : W E 0 c_q8_L28 s q8_27k (exitTo 4 q8_27k (exitTo 3 q8_L19k (exitTo 2 q8_17k xN))) (finP [.t 2]) = q8_L28k s := W_loop_live.trans (by kernel_rfl)
noncomputable def q8_29 (v1 v3 v7 v8 v9 v66 v67 v68 : AV) (h : Heap) : OX :=
ob (evBin .add v68 (AV.int .i64 1)) fun v77 =>
(q8_L28 v1 v3 v7 v8 v9 v66 v67 v77 h)
noncomputable def q8_29k (s : St) : OX := q8_29 (s 1) (s 3) (s 7) (s 8) (s 9) (s 66) (s 67) (s 68) s.h
theorem q8_29_eq (s : St) : W E 0 c_q8_29 s q8_L28k (exitTo 4 q8_27k (exitTo 3 q8_L19k (exitTo 2 q8_17k xN))) (finP [.t 2]) = q8_29k s :=
  by kernel_rfl
noncomputable def q8_30 (v1 v3 v7 v8 v9 v66 v67 v68 : AV) (h : Heap) : OX :=
ob (evIxs 1 v66 v68) fun v70 =>
ob (evLd false 1 v70 h) fun v71 =>
oh (callAny E (callW E) 0 none false 80 [v3, v71, v9, v7] h) fun v76 h8 =>
(q8_29 v1 v3 v76 v8 v9 v66 v67 v68 h8)
noncomputable def q8_30k (s : St) : OX := q8_30 (s 1) (s 3) (s 7) (s 8) (s 9) (s 66) (s 67) (s 68) s.h
theorem q8_30_eq (s : St) : W E 0 c_q8_30 s q8_L28k (exitTo 4 q8_27k (exitTo 3 q8_L19k (exitTo 2 q8_17k xN))) (finP [.t 2]) = q8_30k s :=
  (W_seq (k := q8_29k) (fun s => q8_29_eq s)).trans (by kernel_rfl)
noncomputable def q8_31 (v1 v3 v7 v8 v9 v66 v67 v68 v69 : AV) (h : Heap) : OX :=
cnd v69
 ((q8_30 v1 v3 v7 v8 v9 v66 v67 v68 h))
 ((q8_27 v1 v3 v7 v8 v9 h))
noncomputable def q8_31k (s : St) : OX := q8_31 (s 1) (s 3) (s 7) (s 8) (s 9) (s 66) (s 67) (s 68) (s 69) s.h
theorem q8_31_eq (s : St) : W E 0 c_q8_31 s q8_L28k (exitTo 4 q8_27k (exitTo 3 q8_L19k (exitTo 2 q8_17k xN))) (finP [.t 2]) = q8_31k s :=
  (W_seq (k := q8_30k) (fun s => q8_30_eq s)).trans (by kernel_rfl)
noncomputable def q8_32 (v1 v3 v7 v8 v9 v66 v67 v68 : AV) (h : Heap) : OX :=
ob (evBin .lss v68 v67) fun v69 =>
(q8_31 v1 v3 v7 v8 v9 v66 v67 v68 v69 h)
noncomputable def q8_32k (s : St) : OX := q8_32 (s 1) (s 3) (s 7) (s 8) (s 9) (s 66) (s 67) (s 68) s.h
theorem q8_32_eq (s : St) : W E 0 c_q8_32 s q8_L28k (exitTo 4 q8_27k (exitTo 3 q8_L19k (exitTo 2 q8_17k xN))) (finP [.t 2]) = q8_32k s :=
  (W_seq (k := q8_31k) (fun s => q8_31_eq s)).trans (by kernel_rfl)
theorem q8_L28_go (v1 v3 v7 v8 v9 v66 v67 v68 : AV) (h : Heap) : q8_L28 v1 v3 v7 v8 v9 v66 v67 v68 h = (q8_32 v1 v3 v7 v8 v9 v66 v67 v68 h) :=
  W_loop.trans ((W_congr _ _ _ (n' := q8_L28k) (fun s => q8_L28_eq s)).trans ((q8_32_eq _).trans (by kernel_rfl)))
theorem q8_33_eq (s : St) : W E 0 c_q8_33 s q8_27k (exitTo 3 q8_L19k (exitTo 2 q8_17k xN)) (finP [.t 2]) = q8_L28k s :=
  W_block.trans (q8_L28_eq s)
noncomputable def q8_34 (v1 v3 v7 v8 v9 : AV) (h : Heap) : OX :=
ob (evLd true 5 v1 h) fun v64 =>
oh (callAny E (callW E) 0 none true 79 [v64, v8] h) fun v66 h9 =>
ob (evLen 1 v66 h9) fun v67 =>
(q8_L28 v1 v3 v7 v8 v9 v66 v67 (AV.int .i64 0) h9)
noncomputable def q8_34k (s : St) : OX := q8_34 (s 1) (s 3) (s 7) (s 8) (s 9) s.h
theorem q8_34_eq (s : St) : W E 0 c_q8_34 s q8_27k (exitTo 3 q8_L19k (exitTo 2 q8_17k xN)) (finP [.t 2]) = q8_34k s :=
  (W_seq (k := q8_L28k) (fun s => q8_33_eq s)).trans (by kernel_rfl)
theorem q8_35_eq (s : St) : W E 0 c_q8_35 s q8_L19k (exitTo 3 q8_L19k (exitTo 2 q8_17k xN)) (finP [.t 2]) = q8_34k s :=
  (W_seq (k := q8_27k) (fun s => q8_27_eq s)).trans (q8_34_eq s)
noncomputable def q8_36 (v1 v3 v7 v8 : AV) (h : Heap) : OX :=
ob (evIxs 1 v3 v8) fun v61 =>
ob (evLd false 1 v61 h) fun v62 =>
oh (callAny E (callW E) 0 (some 4) false 78 [v62] h) fun v63 h10 =>
(q8_34 v1 v3 v7 v8 v63 h10)
noncomputable def q8_36k (s : St) : OX := q8_36 (s 1) (s 3) (s 7) (s 8) s.h
theorem q8_36_eq (s : St) : W E 0 c_q8_36 s q8_L19k (exitTo 3 q8_L19k (exitTo 2 q8_17k xN)) (finP [.t 2]) = q8_36k s :=
  (W_seq (k := q8_34k) (fun s => q8_35_eq s)).trans (by kernel_rfl)
noncomputable def q8_37 (v1 v3 v7 v8 : AV) (h : Heap) : OX :=
ob (evLen 1 v7 h) fun v56 =>
ob (evBin .sub v56 (AV.int .i64 1)) fun v57 =>
ob (evSlcO 1 v7 none (some v57)) fun v58 =>
(q8_36 v1 v3 v58 v8 h)
noncomputable def q8_37k (s : St) : OX := q8_37 (s 1) (s 3) (s 7) (s 8) s.h
theorem q8_37_eq (s : St) : W E 0 c_q8_37 s q8_L19k (exitTo 3 q8_L19k (exitTo 2 q8_17k xN)) (finP [.t 2]) = q8_37k s :=
  (W_seq (k := q8_36k) (fun s => q8_36_eq s)).trans (by kernel_rfl)
noncomputable def q8_38 (v1 v3 v7 : AV) (h : Heap) : OX :=
ob (evLen 1 v7 h) fun v50 =>
ob (evBin .sub v50 (AV.int .i64 1)) fun v51 =>
ob (evIxs 1 v7 v51) fun v52 =>
ob (evLd false 1 v52 h) fun v53 =>
(q8_37 v1 v3 v7 v53 h)
noncomputable def q8_38k (s : St) : OX := q8_38 (s 1) (s 3) (s 7) s.h
theorem q8_38_eq (s : St) : W E 0 c_q8_38 s q8_L19k (exitTo 3 q8_L19k (exitTo 2 q8_17k xN)) (finP [.t 2]) = q8_38k s :=
  (W_seq (k := q8_37k) (fun s => q8_37_eq s)).trans (by kernel_rfl)
theorem q8_39_eq (s : St) : W E 0 c_q8_39 s q8_L19k (exitTo 2 q8_17k xN) (finP [.t 2]) = q8_38k s :=
  W_block.trans (q8_38_eq s)
noncomputable def q8_40 (v1 v3 v7 : AV) (h : Heap) : OX :=
ob (evLen 1 v7 h) fun v46 =>
ob (evBin .gtr v46 (AV.int .i64 0)) fun v47 =>
cnd v47
 ((q8_38 v1 v3 v7 h))
 ((q8_17 v1 v3 h))
noncomputable def q8_40k (s : St) : OX := q8_40 (s 1) (s 3) (s 7) s.h
theorem q8_40_eq (s : St) : W E 0 c_q8_40 s q8_L19k (exitTo 2 q8_17k xN) (finP [.t 2]) = q8_40k s :=
  (W_seq (k := q8_38k) (fun s => q8_39_eq s)).trans (by kernel_rfl)
theorem q8_L19_go (v1 v3 v7 : AV) (h : Heap) : q8_L19 v1 v3 v7 h = (q8_40 v1 v3 v7 h) :=
  W_loop.trans ((W_congr _ _ _ (n' := q8_L19k) (fun s => q8_L19_eq s)).trans ((q8_40_eq _).trans (by kernel_rfl)))
theorem q8_41_eq (s : St) : W E 0 c_q8_41 s q8_17k xN (finP [.t 2]) = q8_L19k s :=
  W_block.trans (q8_L19_eq s)
theorem q8_42_eq (s : St) : W E 0 c_q8_42 s (finP [.t 2]) xN (finP [.t 2]) = q8_L19k s :=
  (W_seq (k := q8_17k) (fun s => q8_18_eq s)).trans (q8_41_eq s)
noncomputable def q8_43 (v1 v3 v4 v7 : AV) (h : Heap) : OX :=
ob (evIxs 1 v3 (AV.int .i64 0)) fun v44 =>
oh (evSt 1 v44 v4 h) fun _ h11 =>
(q8_L19 v1 v3 v7 h11)
noncomputable def q8_43k (s : St) : OX := q8_43 (s 1) (s 3) (s 4) (s 7) s.h
theorem q8_43_eq (s : St) : W E 0 c_q8_43 s (finP [.t 2]) xN (finP [.t 2]) = q8_43k s :=
  (W_seq (k := q8_L19k) (fun s => q8_42_eq s)).trans (by kernel_rfl)
noncomputable def q8_44 (v1 v3 v4 : AV) (h : Heap) : OX :=
oh (buildSC 0 (some 3) 1 1 [(.int .i64 0)] [(0, (AV.int .i64 0))] h) fun v41 h12 =>
(q8_43 v1 v3 v4 v41 h12)
noncomputable def q8_44k (s : St) : OX := q8_44 (s 1) (s 3) (s 4) s.h
theorem q8_44_eq (s : St) : W E 0 c_q8_44 s (finP [.t 2]) xN (finP [.t 2]) = q8_44k s :=
  (W_seq (k := q8_43k) (fun s => q8_43_eq s)).trans (by kernel_rfl)
noncomputable def q8_L45 (v1 v3 v4 v31 v32 v33 : AV) (h : Heap) : OX :=
  W E 0 c_q8_L45 ⟨[(1, v1), (3, v3), (4, v4), (31, v31), (32, v32), (33, v33)], h⟩ q8_44k (exitTo 0 q8_44k xN) (finP [.t 2])
noncomputable def q8_L45k (s : St) : OX := q8_L45 (s 1) (s 3) (s 4) (s 31) (s 32) (s 33) s.h
theorem q8_L45_eq (s : St) : W E 0 c_q8_L45 s q8_44k (exitTo 0 q8_44k xN) (finP [.t 2]) = q8_L45k s := W_loop_live.trans (by kernel_rfl)
noncomputable def q8_46 (v1 v3 v4 v31 v32 v33 : AV) (h : Heap) : OX :=
ob (evBin .add v33 (AV.int .i64 1)) fun v40 =>
(q8_L45 v1 v3 v4 v31 v32 v40 h)
noncomputable def q8_46k (s : St) : OX := q8_46 (s 1) (s 3) (s 4) (s 31) (s 32) (s 33) s.h
theorem q8_46_eq (s : St) : W E 0 c_q8_46 s q8_L45k (exitTo 0 q8_44k xN) (finP [.t 2]) = q8_46k s :=
  by kernel_rfl
noncomputable def q8_47 (v1 v3 v4 v31 v32 v33 : AV) (h : Heap) : OX :=
ob (evIxs 1 v31 v33) fun v35 =>
ob (evLd false 1 v35 h) fun v36 =>
ob (evIxs 1 v4 v36) fun v39 =>
oh (evSt 1 v39 (AV.bool true) h) fun _ h13 =>
(q8_46 v1 v3 v4 v31 v32 v33 h13)
noncomputable def q8_47k (s : St) : OX := q8_47 (s 1) (s 3) (s 4) (s 31) (s 32) (s 33) s.h
theorem q8_47_eq (s : St) : W E 0 c_q8_47 s q8_L45k (exitTo 0 q8_44k xN) (finP [.t 2]) = q8_47k s :=
  (W_seq (k := q8_46k) (fun s => q8_46_eq s)).trans (by kernel_rfl)
noncomputable def q8_48 (v1 v3 v4 v31 v32 v33 v34 : AV) (h : Heap) : OX :=
cnd v34
 ((q8_47 v1 v3 v4 v31 v32 v33 h))
 ((q8_44 v1 v3 v4 h))
noncomputable def q8_48k (s : St) : OX := q8_48 (s 1) (s 3) (s 4) (s 31) (s 32) (s 33) (s 34) s.h
theorem q8_48_eq (s : St) : W E 0 c_q8_48 s q8_L45k (exitTo 0 q8_44k xN) (finP [.t 2]) = q8_48k s :=
  (W_seq (k := q8_47k) (fun s => q8_47_eq s)).trans (by kernel_rfl)
noncomputable def q8_49 (v1 v3 v4 v31 v32 v33 : AV) (h : Heap) : OX :=
ob (evBin .lss v33 v32) fun v34 =>
(q8_48 v1 v3 v4 v31 v32 v33 v34 h)
noncomputable def q8_49k (s : St) : OX := q8_49 (s 1) (s 3) (s 4) (s 31) (s 32) (s 33) s.h
theorem q8_49_eq (s : St) : W E 0 c_q8_49 s q8_L45k (exitTo 0 q8_44k xN) (finP [.t 2]) = q8_49k s :=
  (W_seq (k := q8_48k) (fun s => q8_48_eq s)).trans (by kernel_rfl)
theorem q8_L45_go (v1 v3 v4 v31 v32 v33 : AV) (h : Heap) : q8_L45 v1 v3 v4 v31 v32 v33 h = (q8_49 v1 v3 v4 v31 v32 v33 h) :=
  W_loop.trans ((W_congr _ _ _ (n' := q8_L45k) (fun s => q8_L45_eq s)).trans ((q8_49_eq _).trans (by kernel_rfl)))
theorem q8_50_eq (s : St) : W E 0 c_q8_50 s q8_44k xN (finP [.t 2]) = q8_L45k s :=
  W_block.trans (q8_L45_eq s)
noncomputable def q8_51 (v1 v3 v4 : AV) (h : Heap) : OX :=
ob (evFa 1 v1) fun v30 =>
ob (evLd false 1 v30 h) fun v31 =>
ob (evLen 1 v31 h) fun v32 =>
(q8_L45 v1 v3 v4 v31 v32 (AV.int .i64 0) h)
noncomputable def q8_51k (s : St) : OX := q8_51 (s 1) (s 3) (s 4) s.h
theorem q8_51_eq (s : St) : W E 0 c_q8_51 s q8_44k xN (finP [.t 2]) = q8_51k s :=
  (W_seq (k := q8_L45k) (fun s => q8_50_eq s)).trans (by kernel_rfl)
theorem q8_52_eq (s : St) : W E 0 c_q8_52 s (finP [.t 2]) xN (finP [.t 2]) = q8_51k s :=
  (W_seq (k := q8_44k) (fun s => q8_44_eq s)).trans (q8_51_eq s)
noncomputable def q8_53 (v1 v3 : AV) (h : Heap) : OX :=
ob (evFa 0 v1) fun v26 =>
ob (evLd false 1 v26 h) fun v27 =>
ob (evLen 1 v27 h) fun v28 =>
oh (mkSC 0 (some 2) 1 1 [(.bool false)] v28 v28 h) fun v29 h14 =>
(q8_51 v1 v3 v29 h14)
noncomputable def q8_53k (s : St) : OX := q8_53 (s 1) (s 3) s.h
theorem q8_53_eq (s : St) : W E 0 c_q8_53 s (finP [.t 2]) xN (finP [.t 2]) = q8_53k s :=
  (W_seq (k := q8_51k) (fun s => q8_52_eq s)).trans (by kernel_rfl)
noncomputable def q8_54 (v1 : AV) (h : Heap) : OX :=
ob (evFa 3 v1) fun v22 =>
ob (evLd false 1 v22 h) fun v23 =>
ob (evLen 1 v23 h) fun v24 =>
oh (mkSC 0 (some 1) 1 24 [.nils] v24 v24 h) fun v25 h15 =>
(q8_53 v1 v25 h15)
noncomputable def q8_54k (s : St) : OX := q8_54 (s 1) s.h
theorem q8_54_eq (s : St) : W E 0 c_q8_54 s (finP [.t 2]) xN (finP [.t 2]) = q8_54k s :=
  (W_seq (k := q8_53k) (fun s => q8_53_eq s)).trans (by kernel_rfl)
noncomputable def q8_55 (v1 : AV) (h : Heap) : OX :=
ob (evLd true 5 v1 h) fun v19 =>
oh (callAny E (callW E) 0 none true 8 [v19] h) fun v20 h16 =>
ob (evBin .neq v20 (AV.int .i64 0)) fun v21 =>
cnd v21
 ((expo1 h16 (AV.bool false)))
 ((q8_54 v1 h16))
noncomputable def q8_55k (s : St) : OX := q8_55 (s 1) s.h
theorem q8_55_eq (s : St) : W E 0 c_q8_55 s (finP [.t 2]) xN (finP [.t 2]) = q8_55k s :=
  (W_seq (k := q8_54k) (fun s => q8_54_eq s)).trans (by kernel_rfl)
noncomputable def q8_56 (v0 : AV) (h : Heap) : OX :=
oh (newC 0 (some 0) (cellsOf v0) h) fun v1 h17 =>
(q8_55 v1 h17)
noncomputable def q8_56k (s : St) : OX := q8_56 (s 0) s.h
theorem q8_56_eq (s : St) : W E 0 c_q8_56 s (finP [.t 2]) xN (finP [.t 2]) = q8_56k s :=
  (W_seq (k := q8_55k) (fun s => q8_55_eq s)).trans (by kernel_rfl)
@[simp] theorem pure_77 : E.pure 77 = true := rfl
theorem x_q8 (v0 : AV) : (callW E).p 77 [v0] = q8_56 v0 [⟨0, .dead⟩, ⟨0, .dead⟩, ⟨0, .dead⟩, ⟨0, .dead⟩, ⟨0, .dead⟩, ⟨0, .dead⟩] :=
  (callP_W (cf := c_q8) (by kernel_rfl) rfl).trans ((q8_56_eq _).trans (by kernel_rfl))
noncomputable def q81_1 (h : Heap) : OX :=
(expo1 h (AV.bool true))
noncomputable def q81_1k (s : St) : OX := q81_1 s.h
theorem q81_1_eq (s : St) : W E 0 c_q81_1 s (finP [.t 2]) xN (finP [.t 2]) = q81_1k s :=
  by kernel_rfl
noncomputable def q81_L2 (v1 v3 : AV) (h : Heap) : OX :=
  W E 0 c_q81_L2 ⟨[(1, v1), (3, v3)], h⟩ q81_1k (exitTo 0 q81_1k xN) (finP [.t 2])
noncomputable def q81_L2k (s : St) : OX := q81_L2 (s 1) (s 3) s.h
theorem q81_L2_eq (s : St) : W E 0 c_q81_L2 s q81_1k (exitTo 0 q81_1k xN) (finP [.t 2]) = q81_L2k s := W_loop_live.trans (by kernel_rfl)
noncomputable def q81_3 (v1 v3 : AV) (h : Heap) : OX :=
ob (evBin .add v3 (AV.int .i64 1)) fun v16 =>
(q81_L2 v1 v16 h)
noncomputable def q81_3k (s : St) : OX := q81_3 (s 1) (s 3) s.h
theorem q81_3_eq (s : St) : W E 0 c_q81_3 s q81_L2k (exitTo 0 q81_1k xN) (finP [.t 2]) = q81_3k s :=
  by kernel_rfl
noncomputable def q81_L4 (v1 v3 v4 v5 : AV) (h : Heap) : OX :=
  W E 0 c_q81_L4 ⟨[(1, v1), (3, v3), (4, v4), (5, v5)], h⟩ q81_3k (exitTo 2 q81_3k (exitTo 1 q81_3k (exitTo 0 q81_1k xN))) (finP [.t 2])
noncomputable def q81_L4k (s : St) : OX := q81_L4 (s 1) (s 3) (s 4) (s 5) s.h
theorem q81_L4_eq (s : St) : W E 0 c_q81_L4 s q81_3k (exitTo 2 q81_3k (exitTo 1 q81_3k (exitTo 0 q81_1k xN))) (finP [.t 2]) = q81_L4k s := W_loop_live.trans (by kernel_rfl)
noncomputable def q81_5 (v1 v3 v4 v5 v6 : AV) (h : Heap) : OX :=
ob (evLd true 5 v1 h) fun v62 =>
oh (callAny E (callW E) 0 none true 92 [v62, v6] h) fun v64 h1 =>
oh (evApp 0 (some 3) 1 8 v5 v64 h1) fun v65 h2 =>
ob (evFa 3 v1) fun v66 =>
ob (evLd false 1 v66 h2) fun v67 =>
ob (evIxs 9 v67 v6) fun v69 =>
ob (evLd true 9 v69 h2) fun v70 =>
oh (callAny E (callW E) 0 none true 16 [v70] h2) fun v71 h3 =>
ob (evBin .neq v71 v3) fun v73 =>
cnd v73
 (ob (evLd true 5 v1 h3) fun v75 =>
oh (callAny E (callW E) 0 none true 95 [v75, v6] h3) fun v77 h4 =>
oh (evApp 0 (some 4) 1 8 v65 v77 h4) fun v78 h5 =>
(q81_L4 v1 v3 v4 v78 h5))
 ((q81_L4 v1 v3 v4 v65 h3))
noncomputable def q81_5k (s : St) : OX := q81_5 (s 1) (s 3) (s 4) (s 5) (s 6) s.h
theorem q81_5_eq (s : St) : W E 0 c_q81_5 s q81_L4k (exitTo 3 q81_L4k (exitTo 2 q81_3k (exitTo 1 q81_3k (exitTo 0 q81_1k xN)))) (finP [.t 2]) = q81_5k s :=
  by kernel_rfl
noncomputable def q81_6 (v1 v3 v4 v5 v6 : AV) (h : Heap) : OX :=
ob (evFa 3 v1) fun v53 =>
ob (evLd false 1 v53 h) fun v54 =>
ob (evIxs 9 v54 v6) fun v56 =>
ob (evLd true 9 v56 h) fun v57 =>
oh (callAny E (callW E) 0 none true 15 [v57] h) fun v58 h6 =>
oh (callAny E (callW E) 0 none true 96 [v58, v3] h6) fun v60 h7 =>
cnd v60
 ((expo1 h7 (AV.bool false)))
 ((q81_5 v1 v3 v4 v5 v6 h7))
noncomputable def q81_6k (s : St) : OX := q81_6 (s 1) (s 3) (s 4) (s 5) (s 6) s.h
theorem q81_6_eq (s : St) : W E 0 c_q81_6 s q81_L4k (exitTo 3 q81_L4k (exitTo 2 q81_3k (exitTo 1 q81_3k (exitTo 0 q81_1k xN)))) (finP [.t 2]) = q81_6k s :=
  (W_seq (k := q81_5k) (fun s => q81_5_eq s)).trans (by kernel_rfl)
noncomputable def q81_7 (v1 v3 v4 v5 v6 : AV) (h : Heap) : OX :=
ob (evIxs 1 v4 v6) fun v52 =>
oh (evSt 1 v52 (AV.bool true) h) fun _ h8 =>
(q81_6 v1 v3 v4 v5 v6 h8)
noncomputable def q81_7k (s : St) : OX := q81_7 (s 1) (s 3) (s 4) (s 5) (s 6) s.h
theorem q81_7_eq (s : St) : W E 0 c_q81_7 s q81_L4k (exitTo 3 q81_L4k (exitTo 2 q81_3k (exitTo 1 q81_3k (exitTo 0 q81_1k xN)))) (finP [.t 2]) = q81_7k s :=
  (W_seq (k := q81_6k) (fun s => q81_6_eq s)).trans (by kernel_rfl)
noncomputable def q81_8 (v1 v3 v4 v5 v6 : AV) (h : Heap) : OX :=
ob (evLen 1 v4 h) fun v42 =>
ob (evBin .geq v6 v42) fun v43 =>
gb v43 false (some v4) fun v45 =>
gb v43 false (some v6) fun v46 =>
gb v43 false (evIxs 1 v45 v46) fun v47 =>
gb v43 false (evLd false 1 v47 h) fun v48 =>
ob (evPick v43 (AV.bool true) v48) fun v49 =>
cnd v49
 ((q81_L4 v1 v3 v4 v5 h))
 ((q81_7 v1 v3 v4 v5 v6 h))
noncomputable def q81_8k (s : St) : OX := q81_8 (s 1) (s 3) (s 4) (s 5) (s 6) s.h
theorem q81_8_eq (s : St) : W E 0 c_q81_8 s q81_L4k (exitTo 3 q81_L4k (exitTo 2 q81_3k (exitTo 1 q81_3k (exitTo 0 q81_1k xN)))) (finP [.t 2]) = q81_8k s :=
  (W_seq (k := q81_7k) (fun s => q81_7_eq s)).trans (by kernel_rfl)
noncomputable def q81_9 (v1 v3 v4 v5 v6 : AV) (h : Heap) : OX :=
ob (evLen 1 v5 h) fun v37 =>
ob (evBin .sub v37 (AV.int .i64 1)) fun v38 =>
ob (evSlcO 1 v5 none (some v38)) fun v39 =>
(q81_8 v1 v3 v4 v39 v6 h)
noncomputable def q81_9k (s : St) : OX := q81_9 (s 1) (s 3) (s 4) (s 5) (s 6) s.h
theorem q81_9_eq (s : St) : W E 0 c_q81_9 s q81_L4k (exitTo 3 q81_L4k (exitTo 2 q81_3k (exitTo 1 q81_3k (exitTo 0 q81_1k xN)))) (finP [.t 2]) = q81_9k s :=
  (W_seq (k := q81_8k) (fun s => q81_8_eq s)).trans (by kernel_rfl)
noncomputable def q81_10 (v1 v3 v4 v5 : AV) (h : Heap) : OX :=
ob (evLen 1 v5 h) fun v31 =>
ob (evBin .sub v31 (AV.int .i64 1)) fun v32 =>
ob (evIxs 1 v5 v32) fun v33 =>
ob (evLd false 1 v33 h) fun v34 =>
(q81_9 v1 v3 v4 v5 v34 h)
noncomputable def q81_10k (s : St) : OX := q81_10 (s 1) (s 3) (s 4) (s 5) s.h
theorem q81_10_eq (s : St) : W E 0 c_q81_10 s q81_L4k (exitTo 3 q81_L4k (exitTo 2 q81_3k (exitTo 1 q81_3k (exitTo 0 q81_1k xN)))) (finP [.t 2]) = q81_10k s :=
  (W_seq (k := q81_9k) (fun s => q81_9_eq s)).trans (by kernel_rfl)
theorem q81_11_eq (s : St) : W E 0 c_q81_11 s q81_L4k (exitTo 2 q81_3k (exitTo 1 q81_3k (exitTo 0 q81_1k xN))) (finP [.t 2]) = q81_10k s :=
  W_block.trans (q81_10_eq s)
noncomputable def q81_12 (v1 v3 v4 v5 : AV) (h : Heap) : OX :=
ob (evLen 1 v5 h) fun v27 =>
ob (evBin .gtr v27 (AV.int .i64 0)) fun v28 =>
cnd v28
 ((q81_10 v1 v3 v4 v5 h))
 ((q81_3 v1 v3 h))
noncomputable def q81_12k (s : St) : OX := q81_12 (s 1) (s 3) (s 4) (s 5) s.h
theorem q81_12_eq (s : St) : W E 0 c_q81_12 s q81_L4k (exitTo 2 q81_3k (exitTo 1 q81_3k (exitTo 0 q81_1k xN))) (finP [.t 2]) = q81_12k s :=
  (W_seq (k := q81_10k) (fun s => q81_11_eq s)).trans (by kernel_rfl)
theorem q81_L4_go (v1 v3 v4 v5 : AV) (h : Heap) : q81_L4 v1 v3 v4 v5 h = (q81_12 v1 v3 v4 v5 h) :=
  W_loop.trans ((W_congr _ _ _ (n' := q81_L4k) (fun s => q81_L4_eq s)).trans ((q81_12_eq _).trans (by kernel_rfl)))
theorem q81_13_eq (s : St) : W E 0 c_q81_13 s q81_3k (exitTo 1 q81_3k (exitTo 0 q81_1k xN)) (finP [.t 2]) = q81_L4k s :=
  W_block.trans (q81_L4_eq s)
noncomputable def q81_14 (v1 v3 v4 : AV) (h : Heap) : OX :=
oh (buildSC 0 (some 2) 1 1 [(.int .i64 0)] [(0, (AV.int .i64 0))] h) fun v25 h9 =>
(q81_L4 v1 v3 v4 v25 h9)
noncomputable def q81_14k (s : St) : OX := q81_14 (s 1) (s 3) (s 4) s.h
theorem q81_14_eq (s : St) : W E 0 c_q81_14 s q81_3k (exitTo 1 q81_3k (exitTo 0 q81_1k xN)) (finP [.t 2]) = q81_14k s :=
  (W_seq (k := q81_L4k) (fun s => q81_13_eq s)).trans (by kernel_rfl)
noncomputable def q81_15 (v1 v3 : AV) (h : Heap) : OX :=
ob (evFa 3 v1) fun v21 =>
ob (evLd false 1 v21 h) fun v22 =>
ob (evLen 1 v22 h) fun v23 =>
oh (mkSC 0 (some 1) 1 1 [(.bool false)] v23 v23 h) fun v24 h10 =>
(q81_14 v1 v3 v24 h10)
noncomputable def q81_15k (s : St) : OX := q81_15 (s 1) (s 3) s.h
theorem q81_15_eq (s : St) : W E 0 c_q81_15 s q81_3k (exitTo 1 q81_3k (exitTo 0 q81_1k xN)) (finP [.t 2]) = q81_15k s :=
  (W_seq (k := q81_14k) (fun s => q81_14_eq s)).trans (by kernel_rfl)
noncomputable def q81_16 (v1 v3 : AV) (h : Heap) : OX :=
ob (evFa 1 v1) fun v17 =>
ob (evLd false 1 v17 h) fun v18 =>
oh (callAny E (callW E) 0 none true 96 [v18, v3] h) fun v20 h11 =>
cnd v20
 ((q81_3 v1 v3 h11))
 ((q81_15 v1 v3 h11))
noncomputable def q81_16k (s : St) : OX := q81_16 (s 1) (s 3) s.h
theorem q81_16_eq (s : St) : W E 0 c_q81_16 s q81_3k (exitTo 1 q81_3k (exitTo 0 q81_1k xN)) (finP [.t 2]) = q81_16k s :=
  (W_seq (k := q81_15k) (fun s => q81_15_eq s)).trans (by kernel_rfl)
theorem q81_17_eq (s : St) : W E 0 c_q81_17 s q81_3k (exitTo 0 q81_1k xN) (finP [.t 2]) = q81_16k s :=
  W_block.trans (q81_16_eq s)
theorem q81_18_eq (s : St) : W E 0 c_q81_18 s q81_L2k (exitTo 0 q81_1k xN) (finP [.t 2]) = q81_16k s :=
  (W_seq (k := q81_3k) (fun s => q81_3_eq s)).trans (q81_17_eq s)
noncomputable def q81_19 (v1 v3 : AV) (h : Heap) : OX :=
ob (evFa 0 v1) fun v11 =>
ob (evLd false 1 v11 h) fun v12 =>
ob (evLen 1 v12 h) fun v13 =>
ob (evBin .lss v3 v13) fun v14 =>
cnd v14
 ((q81_16 v1 v3 h))
 ((q81_1 h))
noncomputable def q81_19k (s : St) : OX := q81_19 (s 1) (s 3) s.h
theorem q81_19_eq (s : St) : W E 0 c_q81_19 s q81_L2k (exitTo 0 q81_1k xN) (finP [.t 2]) = q81_19k s :=
  (W_seq (k := q81_16k) (fun s => q81_18_eq s)).trans (by kernel_rfl)
theorem q81_L2_go (v1 v3 : AV) (h : Heap) : q81_L2 v1 v3 h = (q81_19 v1 v3 h) :=
  W_loop.trans ((W_congr _ _ _ (n' := q81_L2k) (fun s => q81_L2_eq s)).trans ((q81_19_eq _).trans (by kernel_rfl)))
theorem q81_20_eq (s : St) : W E 0 c_q81_20 s q81_1k xN (finP [.t 2]) = q81_L2k s :=
  W_block.trans (q81_L2_eq s)
noncomputable def q81_21 (v1 : AV) (h : Heap) : OX :=
(q81_L2 v1 (AV.int .i64 0) h)
noncomputable def q81_21k (s : St) : OX := q81_21 (s 1) s.h
theorem q81_21_eq (s : St) : W E 0 c_q81_21 s q81_1k xN (finP [.t 2]) = q81_21k s :=
  (W_seq (k := q81_L2k) (fun s => q81_20_eq s)).trans (by kernel_rfl)
theorem q81_22_eq (s : St) : W E 0 c_q81_22 s (finP [.t 2]) xN (finP [.t 2]) = q81_21k s :=
  (W_seq (k := q81_1k) (fun s => q81_1_eq s)).trans (q81_21_eq s)
noncomputable def q81_23 (v1 : AV) (h : Heap) : OX :=
ob (evLd true 5 v1 h) fun v7 =>
oh (callAny E (callW E) 0 none true 29 [v7] h) fun v8 h12 =>
ob (evBin .neq v8 (AV.int .i64 0)) fun v9 =>
cnd v9
 ((expo1 h12 (AV.bool false)))
 ((q81_21 v1 h12))
noncomputable def q81_23k (s : St) : OX := q81_23 (s 1) s.h
theorem q81_23_eq (s : St) : W E 0 c_q81_23 s (finP [.t 2]) xN (finP [.t 2]) = q81_23k s :=
  (W_seq (k := q81_21k) (fun s => q81_22_eq s)).trans (by kernel_rfl)
noncomputable def q81_24 (v0 : AV) (h : Heap) : OX :=
oh (newC 0 (some 0) (cellsOf v0) h) fun v1 h13 =>
(q81_23 v1 h13)
noncomputable def q81_24k (s : St) : OX := q81_24 (s 0) s.h
theorem q81_24_eq (s : St) : W E 0 c_q81_24 s (finP [.t 2]) xN (finP [.t 2]) = q81_24k s :=
  (W_seq (k := q81_23k) (fun s => q81_23_eq s)).trans (by kernel_rfl)
@[simp] theorem pure_99 : E.pure 99 = true := rfl
theorem x_q81 (v0 : AV) : (callW E).p 99 [v0] = q81_24 v0 [⟨0, .dead⟩, ⟨0, .dead⟩, ⟨0, .dead⟩, ⟨0, .dead⟩, ⟨0, .dead⟩] :=
  (callP_W (cf := c_q81) (by kernel_rfl) rfl).trans ((q81_24_eq _).trans (by kernel_rfl))
noncomputable def q17_1 (v0 : AV) (h : Heap) : OX :=
oh (newC 0 (some 0) (cellsOf v0) h) fun v1 h1 =>
ob (evFa 0 v1) fun v3 =>
ob (evLd false 1 v3 h1) fun v4 =>
ob (evBin .eql v4 (AV.int .i64 27)) fun v5 =>
gb v5 false (evFa 0 v1) fun v7 =>
gb v5 false (evLd false 1 v7 h1) fun v8 =>
gb v5 false (evBin .eql v8 (AV.int .i64 30)) fun v9 =>
ob (evPick v5 (AV.bool true) v9) fun v10 =>
gb v10 false (evFa 0 v1) fun v12 =>
gb v10 false (evLd false 1 v12 h1) fun v13 =>
gb v10 false (evBin .eql v13 (AV.int .i64 31)) fun v14 =>
ob (evPick v10 (AV.bool true) v14) fun v15 =>
(expo1 h1 v15)
noncomputable def q17_1k (s : St) : OX := q17_1 (s 0) s.h
theorem q17_1_eq (s : St) : W E 0 c_q17_1 s (finP [.t 2]) xN (finP [.t 2]) = q17_1k s :=
  by kernel_rfl
@[simp] theorem pure_24 : E.pure 24 = true := rfl
theorem x_q17 (v0 : AV) : (callW E).p 24 [v0] = q17_1 v0 [⟨0, .dead⟩] :=
  (callP_W (cf := c_q17) (by kernel_rfl) rfl).trans ((q17_1_eq _).trans (by kernel_rfl))
noncomputable def q18_1 (v0 : AV) (h : Heap) : OX :=
oh (newC 0 (some 0) (cellsOf v0) h) fun v1 h1 =>
ob (evFa 0 v1) fun v3 =>
ob (evLd false 1 v3 h1) fun v4 =>
ob (evBin .eql v4 (AV.int .i64 27)) fun v5 =>
gb v5 false (evFa 0 v1) fun v7 =>
gb v5 false (evLd false 1 v7 h1) fun v8 =>
gb v5 false (evBin .eql v8 (AV.int .i64 28)) fun v9 =>
ob (evPick v5 (AV.bool true) v9) fun v10 =>
gb v10 false (evFa 0 v1) fun v12 =>
gb v10 false (evLd false 1 v12 h1) fun v13 =>
gb v10 false (evBin .eql v13 (AV.int .i64 29)) fun v14 =>
ob (evPick v10 (AV.bool true) v14) fun v15 =>
(expo1 h1 v15)
noncomputable def q18_1k (s : St) : OX := q18_1 (s 0) s.h
theorem q18_1_eq (s : St) : W E 0 c_q18_1 s (finP [.t 2]) xN (finP [.t 2]) = q18_1k s :=
  by kernel_rfl
@[simp] theorem pure_22 : E.pure 22 = true := rfl
theorem x_q18 (v0 : AV) : (callW E).p 22 [v0] = q18_1 v0 [⟨0, .dead⟩] :=
  (callP_W (cf := c_q18) (by kernel_rfl) rfl).trans ((q18_1_eq _).trans (by kernel_rfl))
noncomputable def q105_1 (v0 v1 : AV) (h : Heap) : OX :=
oh (callAny E (callW E) 0 none true 45 [v0, v1] h) fun v7 h1 =>
ob (evBin .geq v7 (AV.int .i64 0)) fun v8 =>
(expo1 h1 v8)
noncomputable def q105_1k (s : St) : OX := q105_1 (s 0) (s 1) s.h
theorem q105_1_eq (s : St) : W E 0 c_q105_1 s (finP [.t 4]) xN (finP [.t 4]) = q105_1k s :=
  by kernel_rfl
@[simp] theorem pure_46 : E.pure 46 = true := rfl
theorem x_q105 (v0 v1 : AV) : (callW E).p 46 [v0, v1] = q105_1 v0 v1 [] :=
  (callP_W (cf := c_q105) (by kernel_rfl) rfl).trans ((q105_1_eq _).trans (by kernel_rfl))
noncomputable def q83_1 (h : Heap) : OX :=
(expo1 h (AV.bool false))
noncomputable def q83_1k (s : St) : OX := q83_1 s.h
theorem q83_1_eq (s : St) : W E 0 c_q83_1 s (finP [.t 4]) xN (finP [.t 4]) = q83_1k s :=
  by kernel_rfl
noncomputable def q83_L2 (v0 v1 v5 : AV) (h : Heap) : OX :=
  W E 0 c_q83_L2 ⟨[(0, v0), (1, v1), (5, v5)], h⟩ q83_1k (exitTo 0 q83_1k xN) (finP [.t 4])
noncomputable def q83_L2k (s : St) : OX := q83_L2 (s 0) (s 1) (s 5) s.h
theorem q83_L2_eq (s : St) : W E 0 c_q83_L2 s q83_1k (exitTo 0 q83_1k xN) (finP [.t 4]) = q83_L2k s := W_loop_live.trans (by kernel_rfl)
noncomputable def q83_3 (v0 v1 v5 : AV) (h : Heap) : OX :=
ob (evBin .add v5 (AV.int .i64 1)) fun v11 =>
(q83_L2 v0 v1 v11 h)
noncomputable def q83_3k (s : St) : OX := q83_3 (s 0) (s 1) (s 5) s.h
theorem q83_3_eq (s : St) : W E 0 c_q83_3 s q83_L2k (exitTo 0 q83_1k xN) (finP [.t 4]) = q83_3k s :=
  by kernel_rfl
noncomputable def q83_4 (v0 v1 v5 : AV) (h : Heap) : OX :=
ob (evIxs 1 v0 v5) fun v14 =>
ob (evLd false 1 v14 h) fun v15 =>
ob (evBin .eql v15 v1) fun v17 =>
cnd v17
 ((expo1 h (AV.bool true)))
 ((q83_3 v0 v1 v5 h))
noncomputable def q83_4k (s : St) : OX := q83_4 (s 0) (s 1) (s 5) s.h
theorem q83_4_eq (s : St) : W E 0 c_q83_4 s q83_L2k (exitTo 0 q83_1k xN) (finP [.t 4]) = q83_4k s :=
  (W_seq (k := q83_3k) (fun s => q83_3_eq s)).trans (by kernel_rfl)
noncomputable def q83_5 (v0 v1 v5 : AV) (h : Heap) : OX :=
ob (evLen 1 v0 h) fun v8 =>
ob (evBin .lss v5 v8) fun v9 =>
cnd v9
 ((q83_4 v0 v1 v5 h))
 ((q83_1 h))
noncomputable def q83_5k (s : St) : OX := q83_5 (s 0) (s 1) (s 5) s.h
theorem q83_5_eq (s : St) : W E 0 c_q83_5 s q83_L2k (exitTo 0 q83_1k xN) (finP [.t 4]) = q83_5k s :=
  (W_seq (k := q83_4k) (fun s => q83_4_eq s)).trans (by kernel_rfl)
theorem q83_L2_go (v0 v1 v5 : AV) (h : Heap) : q83_L2 v0 v1 v5 h = (q83_5 v0 v1 v5 h) :=
  W_loop.trans ((W_congr _ _ _ (n' := q83_L2k) (fun s => q83_L2_eq s)).trans ((q83_5_eq _).trans (by kernel_rfl)))
theorem q83_6_eq (s : St) : W E 0 c_q83_6 s q83_1k xN (finP [.t 4]) = q83_L2k s :=
  W_block.trans (q83_L2_eq s)
noncomputable def q83_7 (v0 v1 : AV) (h : Heap) : OX :=
(q83_L2 v0 v1 (AV.int .i64 0) h)
noncomputable def q83_7k (s : St) : OX := q83_7 (s 0) (s 1) s.h
theorem q83_7_eq (s : St) : W E 0 c_q83_7 s q83_1k xN (finP [.t 4]) = q83_7k s :=
  (W_seq (k := q83_L2k) (fun s => q83_6_eq s)).trans (by kernel_rfl)
theorem q83_8_eq (s : St) : W E 0 c_q83_8 s (finP [.t 4]) xN (finP [.t 4]) = q83_7k s :=
  (W_seq (k := q83_1k) (fun s => q83_1_eq s)).trans (q83_7_eq s)
noncomputable def q83_9 (v0 v1 : AV) (h : Heap) : OX :=
(q83_7 v0 v1 h)
noncomputable def q83_9k (s : St) : OX := q83_9 (s 0) (s 1) s.h
theorem q83_9_eq (s : St) : W E 0 c_q83_9 s (finP [.t 4]) xN (finP [.t 4]) = q83_9k s :=
  (W_seq (k := q83_7k) (fun s => q83_8_eq s)).trans (by kernel_rfl)
@[simp] theorem pure_96 : E.pure 96 = true := rfl
theorem x_q83 (v0 v1 : AV) : (callW E).p 96 [v0, v1] = q83_9 v0 v1 [] :=
  (callP_W (cf := c_q83) (by kernel_rfl) rfl).trans ((q83_9_eq _).trans (by kernel_rfl))
noncomputable def q19_1 (v0 : AV) (h : Heap) : OX :=
oh (newC 0 (some 0) (cellsOf v0) h) fun v1 h1 =>
ob (evFa 0 v1) fun v3 =>
ob (evLd false 1 v3 h1) fun v4 =>
ob (evBin .geq v4 (AV.int .i64 7)) fun v5 =>
gb v5 true (evFa 0 v1) fun v7 =>
gb v5 true (evLd false 1 v7 h1) fun v8 =>
gb v5 true (evBin .leq v8 (AV.int .i64 12)) fun v9 =>
ob (evPick v5 v9 (AV.bool false)) fun v10 =>
gb v10 false (evFa 0 v1) fun v12 =>
gb v10 false (evLd false 1 v12 h1) fun v13 =>
gb v10 false (evBin .eql v13 (AV.int .i64 20)) fun v14 =>
ob (evPick v10 (AV.bool true) v14) fun v15 =>
gb v15 false (evFa 0 v1) fun v17 =>
gb v15 false (evLd false 1 v17 h1) fun v18 =>
gb v15 false (evBin .eql v18 (AV.int .i64 21)) fun v19 =>
ob (evPick v15 (AV.bool true) v19) fun v20 =>
gb v20 false (evFa 0 v1) fun v22 =>
gb v20 false (evLd false 1 v22 h1) fun v23 =>
gb v20 false (evBin .eql v23 (AV.int .i64 31)) fun v24 =>
ob (evPick v20 (AV.bool true) v24) fun v25 =>
gb v25 false (evLd true 9 v1 h1) fun v27 =>
gh v25 false (callAny E (callW E) 0 none true 17 [v27] h1) h1 fun v28 h2 =>
ob (evPick v25 (AV.bool true) v28) fun v29 =>
(expo1 h2 v29)
noncomputable def q19_1k (s : St) : OX := q19_1 (s 0) s.h
theorem q19_1_eq (s : St) : W E 0 c_q19_1 s (finP [.t 2]) xN (finP [.t 2]) = q19_1k s :=
  by kernel_rfl
@[simp] theorem pure_18 : E.pure 18 = true := rfl
theorem x_q19 (v0 : AV) : (callW E).p 18 [v0] = q19_1 v0 [⟨0, .dead⟩] :=
  (callP_W (cf := c_q19) (by kernel_rfl) rfl).trans ((q19_1_eq _).trans (by kernel_rfl))
noncomputable def q15_1 (v2 v3 : AV) (h : Heap) : OX :=
ob (evLd true 5 v3 h) fun v39 =>
oh (evSt 5 v2 v39 h) fun _ h1 =>
(ob (evLd true 5 v2 h1) fun r0 =>
  expo1 h1 r0)
noncomputable def q15_1k (s : St) : OX := q15_1 (s 2) (s 3) s.h
theorem q15_1_eq (s : St) : W E 0 c_q15_1 s (finP [.cell 2 true 5]) xN (finP [.cell 2 true 5]) = q15_1k s :=
  by kernel_rfl
noncomputable def q15_L2 (v2 v3 v22 v23 : AV) (h : Heap) : OX :=
  W E 0 c_q15_L2 ⟨[(2, v2), (3, v3), (22, v22), (23, v23)], h⟩ q15_1k (exitTo 0 q15_1k xN) (finP [.cell 2 true 5])
noncomputable def q15_L2k (s : St) : OX := q15_L2 (s 2) (s 3) (s 22) (s 23) s.h
theorem q15_L2_eq (s : St) : W E 0 c_q15_L2 s q15_1k (exitTo 0 q15_1k xN) (finP [.cell 2 true 5]) = q15_L2k s := W_loop_live.trans (by kernel_rfl)
noncomputable def q15_3 (v2 v3 v22 v23 : AV) (h : Heap) : OX :=
ob (evBin .add v23 (AV.int .i64 1)) fun v38 =>
(q15_L2 v2 v3 v22 v38 h)
noncomputable def q15_3k (s : St) : OX := q15_3 (s 2) (s 3) (s 22) (s 23) s.h
theorem q15_3_eq (s : St) : W E 0 c_q15_3 s q15_L2k (exitTo 0 q15_1k xN) (finP [.cell 2 true 5]) = q15_3k s :=
  by kernel_rfl
noncomputable def q15_4 (v2 v3 v22 v23 : AV) (h : Heap) : OX :=
ob (evFa 3 v3) fun v26 =>
ob (evLd false 1 v26 h) fun v27 =>
ob (evFa 3 v3) fun v29 =>
ob (evLd false 1 v29 h) fun v30 =>
ob (evIxs 9 v30 v23) fun v32 =>
ob (evFa 8 v32) fun v33 =>
ob (evLd false 1 v33 h) fun v34 =>
ofp (fpCall E (callW E) 0 none true 39 [v34] h) fun f9 =>
oh (callAny E (callW E) 0 none true 39 [v34] h) fun v35 h2 =>
ob (evIxs 9 v27 v23) fun v36 =>
ob (evFa 8 v36) fun v37 =>
oh (evSt 1 v37 v35 h2) fun _ h3 =>
okK (pairsOk [([], []), (ids1 v26, []), ([], []), ([], []), (ids1 v29, []), ([], []), ([], []), ([], []), (ids1 v33, []), f9, ([], []), ([], []), ([], ids1 v37)] [(1, 9)]) <|
(q15_3 v2 v3 v22 v23 h3)
noncomputable def q15_4k (s : St) : OX := q15_4 (s 2) (s 3) (s 22) (s 23) s.h
theorem q15_4_eq (s : St) : W E 0 c_q15_4 s q15_L2k (exitTo 0 q15_1k xN) (finP [.cell 2 true 5]) = q15_4k s :=
  (W_seq (k := q15_3k) (fun s => q15_3_eq s)).trans (by kernel_rfl)
noncomputable def q15_5 (v2 v3 v22 v23 v24 : AV) (h : Heap) : OX :=
cnd v24
 ((q15_4 v2 v3 v22 v23 h))
 ((q15_1 v2 v3 h))
noncomputable def q15_5k (s : St) : OX := q15_5 (s 2) (s 3) (s 22) (s 23) (s 24) s.h
theorem q15_5_eq (s : St) : W E 0 c_q15_5 s q15_L2k (exitTo 0 q15_1k xN) (finP [.cell 2 true 5]) = q15_5k s :=
  (W_seq (k := q15_4k) (fun s => q15_4_eq s)).trans (by kernel_rfl)
noncomputable def q15_6 (v2 v3 v22 v23 : AV) (h : Heap) : OX :=
ob (evBin .lss v23 v22) fun v24 =>
(q15_5 v2 v3 v22 v23 v24 h)
noncomputable def q15_6k (s : St) : OX := q15_6 (s 2) (s 3) (s 22) (s 23) s.h
theorem q15_6_eq (s : St) : W E 0 c_q15_6 s q15_L2k (exitTo 0 q15_1k xN) (finP [.cell 2 true 5]) = q15_6k s :=
  (W_seq (k := q15_5k) (fun s => q15_5_eq s)).trans (by kernel_rfl)
theorem q15_L2_go (v2 v3 v22 v23 : AV) (h : Heap) : q15_L2 v2 v3 v22 v23 h = (q15_6 v2 v3 v22 v23 h) :=
  W_loop.trans ((W_congr _ _ _ (n' := q15_L2k) (fun s => q15_L2_eq s)).trans ((q15_6_eq _).trans (by kernel_rfl)))
theorem q15_7_eq (s : St) : W E 0 c_q15_7 s q15_1k xN (finP [.cell 2 true 5]) = q15_L2k s :=
  W_block.trans (q15_L2_eq s)
noncomputable def q15_8 (v2 v3 : AV) (h : Heap) : OX :=
ob (evFa 3 v3) fun v20 =>
ob (evLd false 1 v20 h) fun v21 =>
ob (evLen 1 v21 h) fun v22 =>
(q15_L2 v2 v3 v22 (AV.int .i64 0) h)
noncomputable def q15_8k (s : St) : OX := q15_8 (s 2) (s 3) s.h
theorem q15_8_eq (s : St) : W E 0 c_q15_8 s q15_1k xN (finP [.cell 2 true 5]) = q15_8k s :=
  (W_seq (k := q15_L2k) (fun s => q15_7_eq s)).trans (by kernel_rfl)
theorem q15_9_eq (s : St) : W E 0 c_q15_9 s (finP [.cell 2 true 5]) xN (finP [.cell 2 true 5]) = q15_8k s :=
  (W_seq (k := q15_1k) (fun s => q15_1_eq s)).trans (q15_8_eq s)
noncomputable def q15_10 (v1 v2 : AV) (h : Heap) : OX :=
ob (evFa 0 v1) fun v5 =>
ob (evLd false 1 v5 h) fun v6 =>
ofp (fpCall E (callW E) 0 (some 2) false 39 [v6] h) fun f2 =>
oh (callAny E (callW E) 0 (some 2) false 39 [v6] h) fun v7 h4 =>
ob (evFa 1 v1) fun v8 =>
ob (evLd false 1 v8 h4) fun v9 =>
ofp (fpCall E (callW E) 0 (some 3) false 39 [v9] h4) fun f5 =>
oh (callAny E (callW E) 0 (some 3) false 39 [v9] h4) fun v10 h5 =>
ob (evFa 2 v1) fun v11 =>
ob (evLd false 1 v11 h5) fun v12 =>
ob (evFa 3 v1) fun v13 =>
ob (evLd false 1 v13 h5) fun v14 =>
ofp (fpCall E (callW E) 0 (some 4) false 40 [v14] h5) fun f10 =>
oh (callAny E (callW E) 0 (some 4) false 40 [v14] h5) fun v15 h6 =>
ob (evFa 4 v1) fun v16 =>
ob (evLd false 1 v16 h6) fun v17 =>
ofp (fpCall E (callW E) 0 (some 5) false 41 [v17] h6) fun f13 =>
oh (callAny E (callW E) 0 (some 5) false 41 [v17] h6) fun v18 h7 =>
ob (evBuild [.nils, .nils, (.int .i64 0), .nils, .nils] [(0, 1, v7), (1, 1, v10), (2, 1, v12), (3, 1, v15), (4, 1, v18)]) fun v19 =>
oh (newC 0 (some 6) [.nils, .nils, (.int .i64 0), .nils, .nils] h7) fun v3 h8 =>
oh (evSt 5 v3 v19 h8) fun _ h9 =>
okK (pairsOk [([], []), (ids1 v5, []), f2, ([], []), (ids1 v8, []), f5, ([], []), (ids1 v11, []), ([], []), (ids1 v13, []), f10, ([], []), (ids1 v16, []), f13, ([], []), ([], [0 + 6]), ([], ids1 v3)] [(2, 4), (2, 7), (5, 7), (2, 9), (5, 9), (7, 10), (2, 12), (5, 12), (10, 12), (7, 13), (1, 15), (2, 15), (4, 15), (5, 15), (7, 15), (9, 15), (10, 15), (12, 15), (13, 15)]) <|
(q15_8 v2 v3 h9)
noncomputable def q15_10k (s : St) : OX := q15_10 (s 1) (s 2) s.h
theorem q15_10_eq (s : St) : W E 0 c_q15_10 s (finP [.cell 2 true 5]) xN (finP [.cell 2 true 5]) = q15_10k s :=
  (W_seq (k := q15_8k) (fun s => q15_9_eq s)).trans (by kernel_rfl)
noncomputable def q15_11 (v0 : AV) (h : Heap) : OX :=
oh (newC 0 (some 0) (cellsOf v0) h) fun v1 h10 =>
oh (newC 0 (some 1) [.nils, .nils, (.int .i64 0), .nils, .nils] h10) fun v2 h11 =>
(q15_10 v1 v2 h11)
noncomputable def q15_11k (s : St) : OX := q15_11 (s 0) s.h
theorem q15_11_eq (s : St) : W E 0 c_q15_11 s (finP [.cell 2 true 5]) xN (finP [.cell 2 true 5]) = q15_11k s :=
  (W_seq (k := q15_10k) (fun s => q15_10_eq s)).trans (by kernel_rfl)
@[simp] theorem pure_13 : E.pure 13 = true := rfl
theorem x_q15 (v0 : AV) : (callW E).p 13 [v0] = q15_11 v0 [⟨0, .dead⟩, ⟨0, .dead⟩, ⟨0, .dead⟩, ⟨0, .dead⟩, ⟨0, .dead⟩, ⟨0, .dead⟩, ⟨0, .dead⟩] :=
  (callP_W (cf := c_q15) (by kernel_rfl) rfl).trans ((q15_11_eq _).trans (by kernel_rfl))
noncomputable def q14_1 (h : Heap) : OX :=
(expo1 h (AV.int .i64 0))
noncomputable def q14_1k (s : St) : OX := q14_1 s.h
theorem q14_1_eq (s : St) : W E 0 c_q14_1 s (finP [.t 2]) xN (finP [.t 2]) = q14_1k s :=
  by kernel_rfl
noncomputable def q14_L2 (v1 v3 v136 v137 v138 : AV) (h : Heap) : OX :=
  W E 0 c_q14_L2 ⟨[(1, v1), (3, v3), (136, v136), (137, v137), (138, v138)], h⟩ q14_1k (exitTo 6 q14_1k xN) (finP [.t 2])
noncomputable def q14_L2k (s : St) : OX := q14_L2 (s 1) (s 3) (s 136) (s 137) (s 138) s.h
theorem q14_L2_eq (s : St) : W E 0 c_q14_L2 s q14_1k (exitTo 6 q14_1k xN) (finP [.t 2]) = q14_L2k s := W_loop_live.trans (by kernel_rfl)
noncomputable def q14_3 (v1 v3 v136 v137 v138 : AV) (h : Heap) : OX :=
ob (evBin .add v138 (AV.int .i64 1)) fun v179 =>
(q14_L2 v1 v3 v136 v137 v179 h)
noncomputable def q14_3k (s : St) : OX := q14_3 (s 1) (s 3) (s 136) (s 137) (s 138) s.h
theorem q14_3_eq (s : St) : W E 0 c_q14_3 s q14_L2k (exitTo 6 q14_1k xN) (finP [.t 2]) = q14_3k s :=
  by kernel_rfl
noncomputable def q14_4 (v1 v3 v136 v137 v138 : AV) (h : Heap) : OX :=
ob (evIxs 4 v136 v138) fun v140 =>
ob (evLd true 4 v140 h) fun v141 =>
oh (newC 0 (some 2) [(.int .i64 0), (.int .i64 0), (.int .i64 0), (.str [])] h) fun v11 h1 =>
oh (evSt 4 v11 v141 h1) fun _ h2 =>
ob (evFa 0 v11) fun v142 =>
ob (evLd false 1 v142 h2) fun v143 =>
ob (evBin .lss v143 (AV.int .i64 0)) fun v144 =>
gb v144 false (evFa 0 v11) fun v146 =>
gb v144 false (evLd false 1 v146 h2) fun v147 =>
gb v144 false (evFa 1 v11) fun v148 =>
gb v144 false (evLd false 1 v148 h2) fun v149 =>
gb v144 false (evBin .geq v147 v149) fun v150 =>
ob (evPick v144 (AV.bool true) v150) fun v151 =>
gb v151 false (evFa 1 v11) fun v153 =>
gb v151 false (evLd false 1 v153 h2) fun v154 =>
gb v151 false (some v3) fun v155 =>
gb v151 false (evBin .gtr v154 v155) fun v156 =>
ob (evPick v151 (AV.bool true) v156) fun v157 =>
gb v157 false (evFa 2 v11) fun v159 =>
gb v157 false (evLd false 1 v159 h2) fun v160 =>
gb v157 false (evBin .lss v160 (AV.int .i64 0)) fun v161 =>
ob (evPick v157 (AV.bool true) v161) fun v162 =>
gb v162 false (evFa 2 v11) fun v164 =>
gb v162 false (evLd false 1 v164 h2) fun v165 =>
gb v162 false (some v3) fun v166 =>
gb v162 false (evBin .geq v165 v166) fun v167 =>
ob (evPick v162 (AV.bool true) v167) fun v168 =>
gb v168 false (evFa 3 v1) fun v170 =>
gb v168 false (evLd false 1 v170 h2) fun v171 =>
gb v168 false (evFa 2 v11) fun v172 =>
gb v168 false (evLd false 1 v172 h2) fun v173 =>
gb v168 false (evIxs 9 v171 v173) fun v174 =>
gb v168 false (evFa 0 v174) fun v175 =>
gb v168 false (evLd false 1 v175 h2) fun v176 =>
gb v168 false (evBin .neq v176 (AV.int .i64 32)) fun v177 =>
ob (evPick v168 (AV.bool true) v177) fun v178 =>
cnd v178
 ((expo1 h2 (AV.int .i64 80)))
 ((q14_3 v1 v3 v136 v137 v138 h2))
noncomputable def q14_4k (s : St) : OX := q14_4 (s 1) (s 3) (s 136) (s 137) (s 138) s.h
theorem q14_4_eq (s : St) : W E 0 c_q14_4 s q14_L2k (exitTo 6 q14_1k xN) (finP [.t 2]) = q14_4k s :=
  (W_seq (k := q14_3k) (fun s => q14_3_eq s)).trans (by kernel_rfl)
noncomputable def q14_5 (v1 v3 v136 v137 v138 v139 : AV) (h : Heap) : OX :=
cnd v139
 ((q14_4 v1 v3 v136 v137 v138 h))
 ((q14_1 h))
noncomputable def q14_5k (s : St) : OX := q14_5 (s 1) (s 3) (s 136) (s 137) (s 138) (s 139) s.h
theorem q14_5_eq (s : St) : W E 0 c_q14_5 s q14_L2k (exitTo 6 q14_1k xN) (finP [.t 2]) = q14_5k s :=
  (W_seq (k := q14_4k) (fun s => q14_4_eq s)).trans (by kernel_rfl)
noncomputable def q14_6 (v1 v3 v136 v137 v138 : AV) (h : Heap) : OX :=
ob (evBin .lss v138 v137) fun v139 =>
(q14_5 v1 v3 v136 v137 v138 v139 h)
noncomputable def q14_6k (s : St) : OX := q14_6 (s 1) (s 3) (s 136) (s 137) (s 138) s.h
theorem q14_6_eq (s : St) : W E 0 c_q14_6 s q14_L2k (exitTo 6 q14_1k xN) (finP [.t 2]) = q14_6k s :=
  (W_seq (k := q14_5k) (fun s => q14_5_eq s)).trans (by kernel_rfl)
theorem q14_L2_go (v1 v3 v136 v137 v138 : AV) (h : Heap) : q14_L2 v1 v3 v136 v137 v138 h = (q14_6 v1 v3 v136 v137 v138 h) :=
  W_loop.trans ((W_congr _ _ _ (n' := q14_L2k) (fun s => q14_L2_eq s)).trans ((q14_6_eq _).trans (by kernel_rfl)))
theorem q14_7_eq (s : St) : W E 0 c_q14_7 s q14_1k xN (finP [.t 2]) = q14_L2k s :=
  W_block.trans (q14_L2_eq s)
noncomputable def q14_8 (v1 v3 : AV) (h : Heap) : OX :=
ob (evFa 4 v1) fun v135 =>
ob (evLd false 1 v135 h) fun v136 =>
ob (evLen 1 v136 h) fun v137 =>
(q14_L2 v1 v3 v136 v137 (AV.int .i64 0) h)
noncomputable def q14_8k (s : St) : OX := q14_8 (s 1) (s 3) s.h
theorem q14_8_eq (s : St) : W E 0 c_q14_8 s q14_1k xN (finP [.t 2]) = q14_8k s :=
  (W_seq (k := q14_L2k) (fun s => q14_7_eq s)).trans (by kernel_rfl)
theorem q14_9_eq (s : St) : W E 0 c_q14_9 s (finP [.t 2]) xN (finP [.t 2]) = q14_8k s :=
  (W_seq (k := q14_1k) (fun s => q14_1_eq s)).trans (q14_8_eq s)
noncomputable def q14_L10 (v1 v3 v92 v93 v94 : AV) (h : Heap) : OX :=
  W E 0 c_q14_L10 ⟨[(1, v1), (3, v3), (92, v92), (93, v93), (94, v94)], h⟩ q14_8k (exitTo 4 q14_8k xN) (finP [.t 2])
noncomputable def q14_L10k (s : St) : OX := q14_L10 (s 1) (s 3) (s 92) (s 93) (s 94) s.h
theorem q14_L10_eq (s : St) : W E 0 c_q14_L10 s q14_8k (exitTo 4 q14_8k xN) (finP [.t 2]) = q14_L10k s := W_loop_live.trans (by kernel_rfl)
noncomputable def q14_11 (v1 v3 v92 v93 v94 : AV) (h : Heap) : OX :=
ob (evBin .add v94 (AV.int .i64 1)) fun v134 =>
(q14_L10 v1 v3 v92 v93 v134 h)
noncomputable def q14_11k (s : St) : OX := q14_11 (s 1) (s 3) (s 92) (s 93) (s 94) s.h
theorem q14_11_eq (s : St) : W E 0 c_q14_11 s q14_L10k (exitTo 4 q14_8k xN) (finP [.t 2]) = q14_11k s :=
  by kernel_rfl
noncomputable def q14_12 (v1 v3 v8 v9 v92 v93 v94 : AV) (h : Heap) : OX :=
ob (evFa 0 v9) fun v103 =>
ob (evLd false 1 v103 h) fun v104 =>
ob (evBin .eql v104 (AV.int .i64 32)) fun v105 =>
gb v105 true (some v8) fun v107 =>
gb v105 true (evBin .eql v107 (AV.int .i64 0)) fun v108 =>
gb v105 true (some v108) fun v109 =>
gb v109 false (evFa 3 v1) fun v110 =>
gb v109 false (evLd false 1 v110 h) fun v111 =>
gb v109 false (some v8) fun v112 =>
gb v109 false (evBin .sub v112 (AV.int .i64 1)) fun v113 =>
gb v109 false (evIxs 9 v111 v113) fun v114 =>
gb v109 false (evLd true 9 v114 h) fun v115 =>
gh v109 false (callAny E (callW E) 0 none true 24 [v115] h) h fun v116 h3 =>
gb v109 false (evUn .not v116) fun v117 =>
gb v105 true (evPick v109 (AV.bool true) v117) fun v118 =>
ob (evPick v105 v118 (AV.bool false)) fun v119 =>
gb v119 false (evLd true 9 v9 h3) fun v121 =>
gh v119 false (callAny E (callW E) 0 none true 22 [v121] h3) h3 fun v122 h4 =>
gb v119 false (some v122) fun v123 =>
gb v123 true (evFa 3 v1) fun v124 =>
gb v123 true (evLd false 1 v124 h4) fun v125 =>
gb v123 true (evFa 6 v9) fun v126 =>
gb v123 true (evLd false 1 v126 h4) fun v127 =>
gb v123 true (evIxs 9 v125 v127) fun v128 =>
gb v123 true (evFa 0 v128) fun v129 =>
gb v123 true (evLd false 1 v129 h4) fun v130 =>
gb v123 true (evBin .eql v130 (AV.int .i64 32)) fun v131 =>
gb v119 false (evPick v123 v131 (AV.bool false)) fun v132 =>
ob (evPick v119 (AV.bool true) v132) fun v133 =>
cnd v133
 ((expo1 h4 (AV.int .i64 80)))
 ((q14_11 v1 v3 v92 v93 v94 h4))
noncomputable def q14_12k (s : St) : OX := q14_12 (s 1) (s 3) (s 8) (s 9) (s 92) (s 93) (s 94) s.h
theorem q14_12_eq (s : St) : W E 0 c_q14_12 s q14_11k (exitTo 5 q14_11k (exitTo 4 q14_8k xN)) (finP [.t 2]) = q14_12k s :=
  by kernel_rfl
noncomputable def q14_13 (v1 v3 v8 v9 v92 v93 v94 : AV) (h : Heap) : OX :=
ob (evLd true 5 v1 h) fun v99 =>
ob (evLd true 9 v9 h) fun v100 =>
oh (callAny E (callW E) 0 none true 63 [v99, v100] h) fun v101 h5 =>
ob (evUn .not v101) fun v102 =>
cnd v102
 ((expo1 h5 (AV.int .i64 80)))
 ((q14_12 v1 v3 v8 v9 v92 v93 v94 h5))
noncomputable def q14_13k (s : St) : OX := q14_13 (s 1) (s 3) (s 8) (s 9) (s 92) (s 93) (s 94) s.h
theorem q14_13_eq (s : St) : W E 0 c_q14_13 s q14_11k (exitTo 5 q14_11k (exitTo 4 q14_8k xN)) (finP [.t 2]) = q14_13k s :=
  (W_seq (k := q14_12k) (fun s => q14_12_eq s)).trans (by kernel_rfl)
noncomputable def q14_14 (v1 v3 v92 v93 v94 : AV) (h : Heap) : OX :=
ob (evIxs 9 v92 v94) fun v97 =>
ob (evLd true 9 v97 h) fun v98 =>
oh (newC 0 (some 1) [(.int .i64 0), (.int .i64 0), (.int .i64 0), (.int .i64 0), (.int .i64 0), (.int .i64 0), (.int .i64 0), (.str []), .nils] h) fun v9 h6 =>
oh (evSt 9 v9 v98 h6) fun _ h7 =>
(q14_13 v1 v3 v94 v9 v92 v93 v94 h7)
noncomputable def q14_14k (s : St) : OX := q14_14 (s 1) (s 3) (s 92) (s 93) (s 94) s.h
theorem q14_14_eq (s : St) : W E 0 c_q14_14 s q14_11k (exitTo 5 q14_11k (exitTo 4 q14_8k xN)) (finP [.t 2]) = q14_14k s :=
  (W_seq (k := q14_13k) (fun s => q14_13_eq s)).trans (by kernel_rfl)
theorem q14_15_eq (s : St) : W E 0 c_q14_15 s q14_11k (exitTo 4 q14_8k xN) (finP [.t 2]) = q14_14k s :=
  W_block.trans (q14_14_eq s)
theorem q14_16_eq (s : St) : W E 0 c_q14_16 s q14_L10k (exitTo 4 q14_8k xN) (finP [.t 2]) = q14_14k s :=
  (W_seq (k := q14_11k) (fun s => q14_11_eq s)).trans (q14_15_eq s)
noncomputable def q14_17 (v1 v3 v92 v93 v94 v95 : AV) (h : Heap) : OX :=
cnd v95
 ((q14_14 v1 v3 v92 v93 v94 h))
 ((q14_8 v1 v3 h))
noncomputable def q14_17k (s : St) : OX := q14_17 (s 1) (s 3) (s 92) (s 93) (s 94) (s 95) s.h
theorem q14_17_eq (s : St) : W E 0 c_q14_17 s q14_L10k (exitTo 4 q14_8k xN) (finP [.t 2]) = q14_17k s :=
  (W_seq (k := q14_14k) (fun s => q14_16_eq s)).trans (by kernel_rfl)
noncomputable def q14_18 (v1 v3 v92 v93 v94 : AV) (h : Heap) : OX :=
ob (evBin .lss v94 v93) fun v95 =>
(q14_17 v1 v3 v92 v93 v94 v95 h)
noncomputable def q14_18k (s : St) : OX := q14_18 (s 1) (s 3) (s 92) (s 93) (s 94) s.h
theorem q14_18_eq (s : St) : W E 0 c_q14_18 s q14_L10k (exitTo 4 q14_8k xN) (finP [.t 2]) = q14_18k s :=
  (W_seq (k := q14_17k) (fun s => q14_17_eq s)).trans (by kernel_rfl)
theorem q14_L10_go (v1 v3 v92 v93 v94 : AV) (h : Heap) : q14_L10 v1 v3 v92 v93 v94 h = (q14_18 v1 v3 v92 v93 v94 h) :=
  W_loop.trans ((W_congr _ _ _ (n' := q14_L10k) (fun s => q14_L10_eq s)).trans ((q14_18_eq _).trans (by kernel_rfl)))
theorem q14_19_eq (s : St) : W E 0 c_q14_19 s q14_8k xN (finP [.t 2]) = q14_L10k s :=
  W_block.trans (q14_L10_eq s)
noncomputable def q14_20 (v1 v3 : AV) (h : Heap) : OX :=
ob (evFa 3 v1) fun v91 =>
ob (evLd false 1 v91 h) fun v92 =>
ob (evLen 1 v92 h) fun v93 =>
(q14_L10 v1 v3 v92 v93 (AV.int .i64 0) h)
noncomputable def q14_20k (s : St) : OX := q14_20 (s 1) (s 3) s.h
theorem q14_20_eq (s : St) : W E 0 c_q14_20 s q14_8k xN (finP [.t 2]) = q14_20k s :=
  (W_seq (k := q14_L10k) (fun s => q14_19_eq s)).trans (by kernel_rfl)
theorem q14_21_eq (s : St) : W E 0 c_q14_21 s (finP [.t 2]) xN (finP [.t 2]) = q14_20k s :=
  (W_seq (k := q14_8k) (fun s => q14_9_eq s)).trans (q14_20_eq s)
noncomputable def q14_L22 (v1 v3 v62 v63 v64 : AV) (h : Heap) : OX :=
  W E 0 c_q14_L22 ⟨[(1, v1), (3, v3), (62, v62), (63, v63), (64, v64)], h⟩ q14_20k (exitTo 2 q14_20k xN) (finP [.t 2])
noncomputable def q14_L22k (s : St) : OX := q14_L22 (s 1) (s 3) (s 62) (s 63) (s 64) s.h
theorem q14_L22_eq (s : St) : W E 0 c_q14_L22 s q14_20k (exitTo 2 q14_20k xN) (finP [.t 2]) = q14_L22k s := W_loop_live.trans (by kernel_rfl)
noncomputable def q14_23 (v1 v3 v62 v63 v64 : AV) (h : Heap) : OX :=
ob (evBin .add v64 (AV.int .i64 1)) fun v90 =>
(q14_L22 v1 v3 v62 v63 v90 h)
noncomputable def q14_23k (s : St) : OX := q14_23 (s 1) (s 3) (s 62) (s 63) (s 64) s.h
theorem q14_23_eq (s : St) : W E 0 c_q14_23 s q14_L22k (exitTo 2 q14_20k xN) (finP [.t 2]) = q14_23k s :=
  by kernel_rfl
noncomputable def q14_24 (v1 v3 v62 v63 v64 : AV) (h : Heap) : OX :=
ob (evIxs 1 v62 v64) fun v67 =>
ob (evLd false 1 v67 h) fun v68 =>
ob (evBin .lss v68 (AV.int .i64 0)) fun v70 =>
gb v70 false (some v68) fun v72 =>
gb v70 false (evFa 0 v1) fun v73 =>
gb v70 false (evLd false 1 v73 h) fun v74 =>
gb v70 false (evLen 1 v74 h) fun v75 =>
gb v70 false (evBin .geq v72 v75) fun v76 =>
ob (evPick v70 (AV.bool true) v76) fun v77 =>
gb v77 false (evFa 1 v1) fun v79 =>
gb v77 false (evLd false 1 v79 h) fun v80 =>
gb v77 false (some v64) fun v81 =>
gb v77 false (evSlcO 1 v80 none (some v81)) fun v82 =>
gb v77 false (some v68) fun v83 =>
gh v77 false (callAny E (callW E) 0 none true 46 [v82, v83] h) h fun v84 h8 =>
ob (evPick v77 (AV.bool true) v84) fun v85 =>
gb v85 false (some v64) fun v87 =>
gb v85 false (evBin .gtr v87 (AV.int .i64 20)) fun v88 =>
ob (evPick v85 (AV.bool true) v88) fun v89 =>
cnd v89
 ((expo1 h8 (AV.int .i64 80)))
 ((q14_23 v1 v3 v62 v63 v64 h8))
noncomputable def q14_24k (s : St) : OX := q14_24 (s 1) (s 3) (s 62) (s 63) (s 64) s.h
theorem q14_24_eq (s : St) : W E 0 c_q14_24 s q14_L22k (exitTo 2 q14_20k xN) (finP [.t 2]) = q14_24k s :=
  (W_seq (k := q14_23k) (fun s => q14_23_eq s)).trans (by kernel_rfl)
noncomputable def q14_25 (v1 v3 v62 v63 v64 v65 : AV) (h : Heap) : OX :=
cnd v65
 ((q14_24 v1 v3 v62 v63 v64 h))
 ((q14_20 v1 v3 h))
noncomputable def q14_25k (s : St) : OX := q14_25 (s 1) (s 3) (s 62) (s 63) (s 64) (s 65) s.h
theorem q14_25_eq (s : St) : W E 0 c_q14_25 s q14_L22k (exitTo 2 q14_20k xN) (finP [.t 2]) = q14_25k s :=
  (W_seq (k := q14_24k) (fun s => q14_24_eq s)).trans (by kernel_rfl)
noncomputable def q14_26 (v1 v3 v62 v63 v64 : AV) (h : Heap) : OX :=
ob (evBin .lss v64 v63) fun v65 =>
(q14_25 v1 v3 v62 v63 v64 v65 h)
noncomputable def q14_26k (s : St) : OX := q14_26 (s 1) (s 3) (s 62) (s 63) (s 64) s.h
theorem q14_26_eq (s : St) : W E 0 c_q14_26 s q14_L22k (exitTo 2 q14_20k xN) (finP [.t 2]) = q14_26k s :=
  (W_seq (k := q14_25k) (fun s => q14_25_eq s)).trans (by kernel_rfl)
theorem q14_L22_go (v1 v3 v62 v63 v64 : AV) (h : Heap) : q14_L22 v1 v3 v62 v63 v64 h = (q14_26 v1 v3 v62 v63 v64 h) :=
  W_loop.trans ((W_congr _ _ _ (n' := q14_L22k) (fun s => q14_L22_eq s)).trans ((q14_26_eq _).trans (by kernel_rfl)))
theorem q14_27_eq (s : St) : W E 0 c_q14_27 s q14_20k xN (finP [.t 2]) = q14_L22k s :=
  W_block.trans (q14_L22_eq s)
noncomputable def q14_28 (v1 v3 : AV) (h : Heap) : OX :=
ob (evFa 1 v1) fun v61 =>
ob (evLd false 1 v61 h) fun v62 =>
ob (evLen 1 v62 h) fun v63 =>
(q14_L22 v1 v3 v62 v63 (AV.int .i64 0) h)
noncomputable def q14_28k (s : St) : OX := q14_28 (s 1) (s 3) s.h
theorem q14_28_eq (s : St) : W E 0 c_q14_28 s q14_20k xN (finP [.t 2]) = q14_28k s :=
  (W_seq (k := q14_L22k) (fun s => q14_27_eq s)).trans (by kernel_rfl)
theorem q14_29_eq (s : St) : W E 0 c_q14_29 s (finP [.t 2]) xN (finP [.t 2]) = q14_28k s :=
  (W_seq (k := q14_20k) (fun s => q14_21_eq s)).trans (q14_28_eq s)
noncomputable def q14_L30 (v1 v3 v48 v49 v50 : AV) (h : Heap) : OX :=
  W E 0 c_q14_L30 ⟨[(1, v1), (3, v3), (48, v48), (49, v49), (50, v50)], h⟩ q14_28k (exitTo 0 q14_28k xN) (finP [.t 2])
noncomputable def q14_L30k (s : St) : OX := q14_L30 (s 1) (s 3) (s 48) (s 49) (s 50) s.h
theorem q14_L30_eq (s : St) : W E 0 c_q14_L30 s q14_28k (exitTo 0 q14_28k xN) (finP [.t 2]) = q14_L30k s := W_loop_live.trans (by kernel_rfl)
noncomputable def q14_31 (v1 v3 v48 v49 v50 : AV) (h : Heap) : OX :=
ob (evBin .add v50 (AV.int .i64 1)) fun v60 =>
(q14_L30 v1 v3 v48 v49 v60 h)
noncomputable def q14_31k (s : St) : OX := q14_31 (s 1) (s 3) (s 48) (s 49) (s 50) s.h
theorem q14_31_eq (s : St) : W E 0 c_q14_31 s q14_L30k (exitTo 0 q14_28k xN) (finP [.t 2]) = q14_31k s :=
  by kernel_rfl
noncomputable def q14_32 (v1 v3 v48 v49 v50 : AV) (h : Heap) : OX :=
ob (evIxs 1 v48 v50) fun v52 =>
ob (evLd false 1 v52 h) fun v53 =>
ob (evBin .lss v53 (AV.int .i64 1)) fun v55 =>
gb v55 false (some v53) fun v57 =>
gb v55 false (evBin .gtr v57 (AV.int .i64 3)) fun v58 =>
ob (evPick v55 (AV.bool true) v58) fun v59 =>
cnd v59
 ((expo1 h (AV.int .i64 80)))
 ((q14_31 v1 v3 v48 v49 v50 h))
noncomputable def q14_32k (s : St) : OX := q14_32 (s 1) (s 3) (s 48) (s 49) (s 50) s.h
theorem q14_32_eq (s : St) : W E 0 c_q14_32 s q14_L30k (exitTo 0 q14_28k xN) (finP [.t 2]) = q14_32k s :=
  (W_seq (k := q14_31k) (fun s => q14_31_eq s)).trans (by kernel_rfl)
noncomputable def q14_33 (v1 v3 v48 v49 v50 v51 : AV) (h : Heap) : OX :=
cnd v51
 ((q14_32 v1 v3 v48 v49 v50 h))
 ((q14_28 v1 v3 h))
noncomputable def q14_33k (s : St) : OX := q14_33 (s 1) (s 3) (s 48) (s 49) (s 50) (s 51) s.h
theorem q14_33_eq (s : St) : W E 0 c_q14_33 s q14_L30k (exitTo 0 q14_28k xN) (finP [.t 2]) = q14_33k s :=
  (W_seq (k := q14_32k) (fun s => q14_32_eq s)).trans (by kernel_rfl)
noncomputable def q14_34 (v1 v3 v48 v49 v50 : AV) (h : Heap) : OX :=
ob (evBin .lss v50 v49) fun v51 =>
(q14_33 v1 v3 v48 v49 v50 v51 h)
noncomputable def q14_34k (s : St) : OX := q14_34 (s 1) (s 3) (s 48) (s 49) (s 50) s.h
theorem q14_34_eq (s : St) : W E 0 c_q14_34 s q14_L30k (exitTo 0 q14_28k xN) (finP [.t 2]) = q14_34k s :=
  (W_seq (k := q14_33k) (fun s => q14_33_eq s)).trans (by kernel_rfl)
theorem q14_L30_go (v1 v3 v48 v49 v50 : AV) (h : Heap) : q14_L30 v1 v3 v48 v49 v50 h = (q14_34 v1 v3 v48 v49 v50 h) :=
  W_loop.trans ((W_congr _ _ _ (n' := q14_L30k) (fun s => q14_L30_eq s)).trans ((q14_34_eq _).trans (by kernel_rfl)))
theorem q14_35_eq (s : St) : W E 0 c_q14_35 s q14_28k xN (finP [.t 2]) = q14_L30k s :=
  W_block.trans (q14_L30_eq s)
noncomputable def q14_36 (v1 v3 : AV) (h : Heap) : OX :=
ob (evFa 0 v1) fun v47 =>
ob (evLd false 1 v47 h) fun v48 =>
ob (evLen 1 v48 h) fun v49 =>
(q14_L30 v1 v3 v48 v49 (AV.int .i64 0) h)
noncomputable def q14_36k (s : St) : OX := q14_36 (s 1) (s 3) s.h
theorem q14_36_eq (s : St) : W E 0 c_q14_36 s q14_28k xN (finP [.t 2]) = q14_36k s :=
  (W_seq (k := q14_L30k) (fun s => q14_35_eq s)).trans (by kernel_rfl)
theorem q14_37_eq (s : St) : W E 0 c_q14_37 s (finP [.t 2]) xN (finP [.t 2]) = q14_36k s :=
  (W_seq (k := q14_28k) (fun s => q14_29_eq s)).trans (q14_36_eq s)
noncomputable def q14_38 (v1 v3 : AV) (h : Heap) : OX :=
ob (evBin .lss v3 (AV.int .i64 1)) fun v16 =>
gb v16 false (some v3) fun v18 =>
gb v16 false (evBin .gtr v18 (AV.int .i64 20000)) fun v19 =>
ob (evPick v16 (AV.bool true) v19) fun v20 =>
gb v20 false (evFa 0 v1) fun v22 =>
gb v20 false (evLd false 1 v22 h) fun v23 =>
gb v20 false (evLen 1 v23 h) fun v24 =>
gb v20 false (evBin .gtr v24 (AV.int .i64 20000)) fun v25 =>
ob (evPick v20 (AV.bool true) v25) fun v26 =>
gb v26 false (evFa 2 v1) fun v28 =>
gb v26 false (evLd false 1 v28 h) fun v29 =>
gb v26 false (evBin .lss v29 (AV.int .i64 0)) fun v30 =>
ob (evPick v26 (AV.bool true) v30) fun v31 =>
gb v31 false (evFa 2 v1) fun v33 =>
gb v31 false (evLd false 1 v33 h) fun v34 =>
gb v31 false (evBin .gtr v34 (AV.int .i64 3)) fun v35 =>
ob (evPick v31 (AV.bool true) v35) fun v36 =>
gb v36 false (evFa 3 v1) fun v38 =>
gb v36 false (evLd false 1 v38 h) fun v39 =>
gb v36 false (some v3) fun v40 =>
gb v36 false (evBin .sub v40 (AV.int .i64 1)) fun v41 =>
gb v36 false (evIxs 9 v39 v41) fun v42 =>
gb v36 false (evLd true 9 v42 h) fun v43 =>
gh v36 false (callAny E (callW E) 0 none true 24 [v43] h) h fun v44 h9 =>
gb v36 false (evUn .not v44) fun v45 =>
ob (evPick v36 (AV.bool true) v45) fun v46 =>
cnd v46
 ((expo1 h9 (AV.int .i64 80)))
 ((q14_36 v1 v3 h9))
noncomputable def q14_38k (s : St) : OX := q14_38 (s 1) (s 3) s.h
theorem q14_38_eq (s : St) : W E 0 c_q14_38 s (finP [.t 2]) xN (finP [.t 2]) = q14_38k s :=
  (W_seq (k := q14_36k) (fun s => q14_37_eq s)).trans (by kernel_rfl)
noncomputable def q14_39 (v1 : AV) (h : Heap) : OX :=
ob (evFa 3 v1) fun v12 =>
ob (evLd false 1 v12 h) fun v13 =>
ob (evLen 1 v13 h) fun v14 =>
(q14_38 v1 v14 h)
noncomputable def q14_39k (s : St) : OX := q14_39 (s 1) s.h
theorem q14_39_eq (s : St) : W E 0 c_q14_39 s (finP [.t 2]) xN (finP [.t 2]) = q14_39k s :=
  (W_seq (k := q14_38k) (fun s => q14_38_eq s)).trans (by kernel_rfl)
noncomputable def q14_40 (v0 : AV) (h : Heap) : OX :=
oh (newC 0 (some 0) (cellsOf v0) h) fun v1 h10 =>
(q14_39 v1 h10)
noncomputable def q14_40k (s : St) : OX := q14_40 (s 0) s.h
theorem q14_40_eq (s : St) : W E 0 c_q14_40 s (finP [.t 2]) xN (finP [.t 2]) = q14_40k s :=
  (W_seq (k := q14_39k) (fun s => q14_39_eq s)).trans (by kernel_rfl)
@[simp] theorem pure_8 : E.pure 8 = true := rfl
theorem x_q14 (v0 : AV) : (callW E).p 8 [v0] = q14_40 v0 [⟨0, .dead⟩, ⟨0, .dead⟩, ⟨0, .dead⟩] :=
  (callP_W (cf := c_q14) (by kernel_rfl) rfl).trans ((q14_40_eq _).trans (by kernel_rfl))
noncomputable def q16_1 (h : Heap) : OX :=
(expo1 h (AV.int .i64 (-1)))
noncomputable def q16_1k (s : St) : OX := q16_1 s.h
theorem q16_1_eq (s : St) : W E 0 c_q16_1 s (finP [.t 2]) xN (finP [.t 2]) = q16_1k s :=
  by kernel_rfl
noncomputable def q16_2 (v1 : AV) (h : Heap) : OX :=
ob (evLd true 9 v1 h) fun v22 =>
oh (callAny E (callW E) 0 none true 17 [v22] h) fun v23 h1 =>
cnd v23
 (ob (evFa 1 v1) fun v24 =>
ob (evLd false 1 v24 h1) fun v25 =>
(expo1 h1 v25))
 ((q16_1 h1))
noncomputable def q16_2k (s : St) : OX := q16_2 (s 1) s.h
theorem q16_2_eq (s : St) : W E 0 c_q16_2 s (finP [.t 2]) xN (finP [.t 2]) = q16_2k s :=
  (W_seq (k := q16_1k) (fun s => q16_1_eq s)).trans (by kernel_rfl)
noncomputable def q16_3 (v1 v5 : AV) (h : Heap) : OX :=
cnd v5
 (ob (evFa 1 v1) fun v20 =>
ob (evLd false 1 v20 h) fun v21 =>
(expo1 h v21))
 ((q16_2 v1 h))
noncomputable def q16_3k (s : St) : OX := q16_3 (s 1) (s 5) s.h
theorem q16_3_eq (s : St) : W E 0 c_q16_3 s q16_2k (exitTo 0 q16_2k xN) (finP [.t 2]) = q16_3k s :=
  by kernel_rfl
noncomputable def q16_4 (v1 v4 : AV) (h : Heap) : OX :=
ob (evBin .eql v4 (AV.int .i64 1)) fun v6 =>
cnd v6
 ((q16_3 v1 v6 h))
 (ob (evBin .eql v4 (AV.int .i64 2)) fun v7 =>
cnd v7
 ((q16_3 v1 v7 h))
 (ob (evBin .eql v4 (AV.int .i64 3)) fun v8 =>
cnd v8
 ((q16_3 v1 v8 h))
 (ob (evBin .eql v4 (AV.int .i64 4)) fun v9 =>
cnd v9
 ((q16_3 v1 v9 h))
 (ob (evBin .eql v4 (AV.int .i64 5)) fun v10 =>
cnd v10
 ((q16_3 v1 v10 h))
 (ob (evBin .eql v4 (AV.int .i64 6)) fun v11 =>
cnd v11
 ((q16_3 v1 v11 h))
 (ob (evBin .eql v4 (AV.int .i64 13)) fun v12 =>
cnd v12
 ((q16_3 v1 v12 h))
 (ob (evBin .eql v4 (AV.int .i64 15)) fun v13 =>
cnd v13
 ((q16_3 v1 v13 h))
 (ob (evBin .eql v4 (AV.int .i64 16)) fun v14 =>
cnd v14
 ((q16_3 v1 v14 h))
 (ob (evBin .eql v4 (AV.int .i64 18)) fun v15 =>
cnd v15
 ((q16_3 v1 v15 h))
 (ob (evBin .eql v4 (AV.int .i64 20)) fun v16 =>
cnd v16
 ((q16_3 v1 v16 h))
 (ob (evBin .eql v4 (AV.int .i64 21)) fun v17 =>
cnd v17
 ((q16_3 v1 v17 h))
 (ob (evBin .eql v4 (AV.int .i64 22)) fun v18 =>
cnd v18
 ((q16_3 v1 v18 h))
 (ob (evBin .eql v4 (AV.int .i64 32)) fun v19 =>
(q16_3 v1 v19 h))))))))))))))
noncomputable def q16_4k (s : St) : OX := q16_4 (s 1) (s 4) s.h
theorem q16_4_eq (s : St) : W E 0 c_q16_4 s q16_2k (exitTo 0 q16_2k xN) (finP [.t 2]) = q16_4k s :=
  (W_seq (k := q16_3k) (fun s => q16_3_eq s)).trans (by kernel_rfl)
theorem q16_5_eq (s : St) : W E 0 c_q16_5 s q16_2k xN (finP [.t 2]) = q16_4k s :=
  W_block.trans (q16_4_eq s)
noncomputable def q16_6 (v1 : AV) (h : Heap) : OX :=
ob (evFa 0 v1) fun v3 =>
ob (evLd false 1 v3 h) fun v4 =>
(q16_4 v1 v4 h)
noncomputable def q16_6k (s : St) : OX := q16_6 (s 1) s.h
theorem q16_6_eq (s : St) : W E 0 c_q16_6 s q16_2k xN (finP [.t 2]) = q16_6k s :=
  (W_seq (k := q16_4k) (fun s => q16_5_eq s)).trans (by kernel_rfl)
theorem q16_7_eq (s : St) : W E 0 c_q16_7 s (finP [.t 2]) xN (finP [.t 2]) = q16_6k s :=
  (W_seq (k := q16_2k) (fun s => q16_2_eq s)).trans (q16_6_eq s)
noncomputable def q16_8 (v0 : AV) (h : Heap) : OX :=
oh (newC 0 (some 0) (cellsOf v0) h) fun v1 h2 =>
(q16_6 v1 h2)
noncomputable def q16_8k (s : St) : OX := q16_8 (s 0) s.h
theorem q16_8_eq (s : St) : W E 0 c_q16_8 s (finP [.t 2]) xN (finP [.t 2]) = q16_8k s :=
  (W_seq (k := q16_6k) (fun s => q16_7_eq s)).trans (by kernel_rfl)
@[simp] theorem pure_9 : E.pure 9 = true := rfl
theorem x_q16 (v0 : AV) : (callW E).p 9 [v0] = q16_8 v0 [⟨0, .dead⟩] :=
  (callP_W (cf := c_q16) (by kernel_rfl) rfl).trans ((q16_8_eq _).trans (by kernel_rfl))
noncomputable def q20_1 (h : Heap) : OX :=
(expo1 h AV.nils)
noncomputable def q20_1k (s : St) : OX := q20_1 s.h
theorem q20_1_eq (s : St) : W E 0 c_q20_1 s (finP [.t 2]) xN (finP [.t 2]) = q20_1k s :=
  by kernel_rfl
noncomputable def q20_2 (v1 : AV) (h : Heap) : OX :=
ob (evFa 2 v1) fun v58 =>
ob (evLd false 1 v58 h) fun v59 =>
ob (evFa 3 v1) fun v60 =>
ob (evLd false 1 v60 h) fun v61 =>
oh (buildSC 0 (some 6) 1 2 [(.int .i64 0)] [(0, v59), (1, v61)] h) fun v62 h1 =>
(expo1 h1 v62)
noncomputable def q20_2k (s : St) : OX := q20_2 (s 1) s.h
theorem q20_2_eq (s : St) : W E 0 c_q20_2 s q20_1k (exitTo 0 q20_1k xN) (finP [.t 2]) = q20_2k s :=
  by kernel_rfl
noncomputable def q20_3 (v1 : AV) (h : Heap) : OX :=
ob (evFa 3 v1) fun v52 =>
ob (evLd false 1 v52 h) fun v53 =>
ob (evBin .lss v53 (AV.int .i64 0)) fun v54 =>
cnd v54
 (ob (evFa 2 v1) fun v55 =>
ob (evLd false 1 v55 h) fun v56 =>
oh (buildSC 0 (some 5) 1 1 [(.int .i64 0)] [(0, v56)] h) fun v57 h2 =>
(expo1 h2 v57))
 ((q20_2 v1 h))
noncomputable def q20_3k (s : St) : OX := q20_3 (s 1) s.h
theorem q20_3_eq (s : St) : W E 0 c_q20_3 s q20_1k (exitTo 0 q20_1k xN) (finP [.t 2]) = q20_3k s :=
  (W_seq (k := q20_2k) (fun s => q20_2_eq s)).trans (by kernel_rfl)
noncomputable def q20_4 (v1 v4 v50 : AV) (h : Heap) : OX :=
cnd v50
 ((q20_3 v1 h))
 (ob (evBin .eql v4 (AV.int .i64 30)) fun v64 =>
cnd v64
 (ob (evFa 2 v1) fun v65 =>
ob (evLd false 1 v65 h) fun v66 =>
ob (evBin .geq v66 (AV.int .i64 0)) fun v67 =>
cnd v67
 (ob (evFa 2 v1) fun v68 =>
ob (evLd false 1 v68 h) fun v69 =>
oh (buildSC 0 (some 7) 1 1 [(.int .i64 0)] [(0, v69)] h) fun v70 h3 =>
(expo1 h3 v70))
 ((q20_1 h)))
 ((q20_1 h)))
noncomputable def q20_4k (s : St) : OX := q20_4 (s 1) (s 4) (s 50) s.h
theorem q20_4_eq (s : St) : W E 0 c_q20_4 s q20_1k (exitTo 0 q20_1k xN) (finP [.t 2]) = q20_4k s :=
  (W_cond (q20_3_eq s) rfl).trans (by kernel_rfl)
noncomputable def q20_5 (v1 v4 : AV) (h : Heap) : OX :=
ob (evBin .eql v4 (AV.int .i64 29)) fun v51 =>
(q20_4 v1 v4 v51 h)
noncomputable def q20_5k (s : St) : OX := q20_5 (s 1) (s 4) s.h
theorem q20_5_eq (s : St) : W E 0 c_q20_5 s q20_1k (exitTo 0 q20_1k xN) (finP [.t 2]) = q20_5k s :=
  (W_seq (k := q20_4k) (fun s => q20_4_eq s)).trans (by kernel_rfl)
noncomputable def q20_6 (v1 v4 v42 : AV) (h : Heap) : OX :=
cnd v42
 (ob (evFa 8 v1) fun v47 =>
ob (evLd false 1 v47 h) fun v48 =>
oh (callAny E (callW E) 0 (some 4) false 39 [v48] h) fun v49 h4 =>
(expo1 h4 v49))
 ((q20_5 v1 v4 h))
noncomputable def q20_6k (s : St) : OX := q20_6 (s 1) (s 4) (s 42) s.h
theorem q20_6_eq (s : St) : W E 0 c_q20_6 s q20_1k (exitTo 0 q20_1k xN) (finP [.t 2]) = q20_6k s :=
  (W_cond rfl (q20_5_eq s)).trans (by kernel_rfl)
noncomputable def q20_7 (v1 v4 : AV) (h : Heap) : OX :=
ob (evBin .eql v4 (AV.int .i64 23)) fun v43 =>
cnd v43
 ((q20_6 v1 v4 v43 h))
 (ob (evBin .eql v4 (AV.int .i64 24)) fun v44 =>
cnd v44
 ((q20_6 v1 v4 v44 h))
 (ob (evBin .eql v4 (AV.int .i64 25)) fun v45 =>
cnd v45
 ((q20_6 v1 v4 v45 h))
 (ob (evBin .eql v4 (AV.int .i64 26)) fun v46 =>
(q20_6 v1 v4 v46 h))))
noncomputable def q20_7k (s : St) : OX := q20_7 (s 1) (s 4) s.h
theorem q20_7_eq (s : St) : W E 0 c_q20_7 s q20_1k (exitTo 0 q20_1k xN) (finP [.t 2]) = q20_7k s :=
  (W_seq (k := q20_6k) (fun s => q20_6_eq s)).trans (by kernel_rfl)
noncomputable def q20_8 (v1 v4 v33 : AV) (h : Heap) : OX :=
cnd v33
 (ob (evFa 2 v1) fun v35 =>
ob (evLd false 1 v35 h) fun v36 =>
ob (evFa 3 v1) fun v37 =>
ob (evLd false 1 v37 h) fun v38 =>
ob (evFa 4 v1) fun v39 =>
ob (evLd false 1 v39 h) fun v40 =>
oh (buildSC 0 (some 3) 1 3 [(.int .i64 0)] [(0, v36), (1, v38), (2, v40)] h) fun v41 h5 =>
(expo1 h5 v41))
 ((q20_7 v1 v4 h))
noncomputable def q20_8k (s : St) : OX := q20_8 (s 1) (s 4) (s 33) s.h
theorem q20_8_eq (s : St) : W E 0 c_q20_8 s q20_1k (exitTo 0 q20_1k xN) (finP [.t 2]) = q20_8k s :=
  (W_cond rfl (q20_7_eq s)).trans (by kernel_rfl)
noncomputable def q20_9 (v1 v4 : AV) (h : Heap) : OX :=
ob (evBin .eql v4 (AV.int .i64 14)) fun v34 =>
(q20_8 v1 v4 v34 h)
noncomputable def q20_9k (s : St) : OX := q20_9 (s 1) (s 4) s.h
theorem q20_9_eq (s : St) : W E 0 c_q20_9 s q20_1k (exitTo 0 q20_1k xN) (finP [.t 2]) = q20_9k s :=
  (W_seq (k := q20_8k) (fun s => q20_8_eq s)).trans (by kernel_rfl)
noncomputable def q20_10 (v1 v4 v21 : AV) (h : Heap) : OX :=
cnd v21
 (ob (evFa 2 v1) fun v28 =>
ob (evLd false 1 v28 h) fun v29 =>
ob (evFa 3 v1) fun v30 =>
ob (evLd false 1 v30 h) fun v31 =>
oh (buildSC 0 (some 2) 1 2 [(.int .i64 0)] [(0, v29), (1, v31)] h) fun v32 h6 =>
(expo1 h6 v32))
 ((q20_9 v1 v4 h))
noncomputable def q20_10k (s : St) : OX := q20_10 (s 1) (s 4) (s 21) s.h
theorem q20_10_eq (s : St) : W E 0 c_q20_10 s q20_1k (exitTo 0 q20_1k xN) (finP [.t 2]) = q20_10k s :=
  (W_cond rfl (q20_9_eq s)).trans (by kernel_rfl)
noncomputable def q20_11 (v1 v4 : AV) (h : Heap) : OX :=
ob (evBin .eql v4 (AV.int .i64 5)) fun v22 =>
cnd v22
 ((q20_10 v1 v4 v22 h))
 (ob (evBin .eql v4 (AV.int .i64 9)) fun v23 =>
cnd v23
 ((q20_10 v1 v4 v23 h))
 (ob (evBin .eql v4 (AV.int .i64 11)) fun v24 =>
cnd v24
 ((q20_10 v1 v4 v24 h))
 (ob (evBin .eql v4 (AV.int .i64 13)) fun v25 =>
cnd v25
 ((q20_10 v1 v4 v25 h))
 (ob (evBin .eql v4 (AV.int .i64 17)) fun v26 =>
cnd v26
 ((q20_10 v1 v4 v26 h))
 (ob (evBin .eql v4 (AV.int .i64 28)) fun v27 =>
(q20_10 v1 v4 v27 h))))))
noncomputable def q20_11k (s : St) : OX := q20_11 (s 1) (s 4) s.h
theorem q20_11_eq (s : St) : W E 0 c_q20_11 s q20_1k (exitTo 0 q20_1k xN) (finP [.t 2]) = q20_11k s :=
  (W_seq (k := q20_10k) (fun s => q20_10_eq s)).trans (by kernel_rfl)
noncomputable def q20_12 (v1 v4 v5 : AV) (h : Heap) : OX :=
cnd v5
 (ob (evFa 2 v1) fun v18 =>
ob (evLd false 1 v18 h) fun v19 =>
oh (buildSC 0 (some 1) 1 1 [(.int .i64 0)] [(0, v19)] h) fun v20 h7 =>
(expo1 h7 v20))
 ((q20_11 v1 v4 h))
noncomputable def q20_12k (s : St) : OX := q20_12 (s 1) (s 4) (s 5) s.h
theorem q20_12_eq (s : St) : W E 0 c_q20_12 s q20_1k (exitTo 0 q20_1k xN) (finP [.t 2]) = q20_12k s :=
  (W_cond rfl (q20_11_eq s)).trans (by kernel_rfl)
noncomputable def q20_13 (v1 v4 : AV) (h : Heap) : OX :=
ob (evBin .eql v4 (AV.int .i64 4)) fun v6 =>
cnd v6
 ((q20_12 v1 v4 v6 h))
 (ob (evBin .eql v4 (AV.int .i64 6)) fun v7 =>
cnd v7
 ((q20_12 v1 v4 v7 h))
 (ob (evBin .eql v4 (AV.int .i64 7)) fun v8 =>
cnd v8
 ((q20_12 v1 v4 v8 h))
 (ob (evBin .eql v4 (AV.int .i64 8)) fun v9 =>
cnd v9
 ((q20_12 v1 v4 v9 h))
 (ob (evBin .eql v4 (AV.int .i64 10)) fun v10 =>
cnd v10
 ((q20_12 v1 v4 v10 h))
 (ob (evBin .eql v4 (AV.int .i64 12)) fun v11 =>
cnd v11
 ((q20_12 v1 v4 v11 h))
 (ob (evBin .eql v4 (AV.int .i64 15)) fun v12 =>
cnd v12
 ((q20_12 v1 v4 v12 h))
 (ob (evBin .eql v4 (AV.int .i64 16)) fun v13 =>
cnd v13
 ((q20_12 v1 v4 v13 h))
 (ob (evBin .eql v4 (AV.int .i64 19)) fun v14 =>
cnd v14
 ((q20_12 v1 v4 v14 h))
 (ob (evBin .eql v4 (AV.int .i64 21)) fun v15 =>
cnd v15
 ((q20_12 v1 v4 v15 h))
 (ob (evBin .eql v4 (AV.int .i64 22)) fun v16 =>
cnd v16
 ((q20_12 v1 v4 v16 h))
 (ob (evBin .eql v4 (AV.int .i64 31)) fun v17 =>
(q20_12 v1 v4 v17 h))))))))))))
noncomputable def q20_13k (s : St) : OX := q20_13 (s 1) (s 4) s.h
theorem q20_13_eq (s : St) : W E 0 c_q20_13 s q20_1k (exitTo 0 q20_1k xN) (finP [.t 2]) = q20_13k s :=
  (W_seq (k := q20_12k) (fun s => q20_12_eq s)).trans (by kernel_rfl)
theorem q20_14_eq (s : St) : W E 0 c_q20_14 s q20_1k xN (finP [.t 2]) = q20_13k s :=
  W_block.trans (q20_13_eq s)
noncomputable def q20_15 (v1 : AV) (h : Heap) : OX :=
ob (evFa 0 v1) fun v3 =>
ob (evLd false 1 v3 h) fun v4 =>
(q20_13 v1 v4 h)
noncomputable def q20_15k (s : St) : OX := q20_15 (s 1) s.h
theorem q20_15_eq (s : St) : W E 0 c_q20_15 s q20_1k xN (finP [.t 2]) = q20_15k s :=
  (W_seq (k := q20_13k) (fun s => q20_14_eq s)).trans (by kernel_rfl)
theorem q20_16_eq (s : St) : W E 0 c_q20_16 s (finP [.t 2]) xN (finP [.t 2]) = q20_15k s :=
  (W_seq (k := q20_1k) (fun s => q20_1_eq s)).trans (q20_15_eq s)
noncomputable def q20_17 (v0 : AV) (h : Heap) : OX :=
oh (newC 0 (some 0) (cellsOf v0) h) fun v1 h8 =>
(q20_15 v1 h8)
noncomputable def q20_17k (s : St) : OX := q20_17 (s 0) s.h
theorem q20_17_eq (s : St) : W E 0 c_q20_17 s (finP [.t 2]) xN (finP [.t 2]) = q20_17k s :=
  (W_seq (k := q20_15k) (fun s => q20_16_eq s)).trans (by kernel_rfl)
@[simp] theorem pure_10 : E.pure 10 = true := rfl
theorem x_q20 (v0 : AV) : (callW E).p 10 [v0] = q20_17 v0 [⟨0, .dead⟩, ⟨0, .dead⟩, ⟨0, .dead⟩, ⟨0, .dead⟩, ⟨0, .dead⟩, ⟨0, .dead⟩, ⟨0, .dead⟩, ⟨0, .dead⟩] :=
  (callP_W (cf := c_q20) (by kernel_rfl) rfl).trans ((q20_17_eq _).trans (by kernel_rfl))
noncomputable def q71_1 (v1 v2 : AV) (h : Heap) : OX :=
ob (evFa 0 v2) fun v14 =>
ob (evLd false 1 v14 h) fun v15 =>
ob (evIxs 1 v15 v1) fun v17 =>
ob (evLd false 1 v17 h) fun v18 =>
(expo1 h v18)
noncomputable def q71_1k (s : St) : OX := q71_1 (s 1) (s 2) s.h
theorem q71_1_eq (s : St) : W E 0 c_q71_1 s (finP [.t 4]) xN (finP [.t 4]) = q71_1k s :=
  by kernel_rfl
noncomputable def q71_2 (v1 v2 : AV) (h : Heap) : OX :=
ob (evBin .lss v1 (AV.int .i64 0)) fun v6 =>
gb v6 false (some v1) fun v8 =>
gb v6 false (evFa 0 v2) fun v9 =>
gb v6 false (evLd false 1 v9 h) fun v10 =>
gb v6 false (evLen 1 v10 h) fun v11 =>
gb v6 false (evBin .geq v8 v11) fun v12 =>
ob (evPick v6 (AV.bool true) v12) fun v13 =>
cnd v13
 ((expo1 h (AV.int .i64 0)))
 ((q71_1 v1 v2 h))
noncomputable def q71_2k (s : St) : OX := q71_2 (s 1) (s 2) s.h
theorem q71_2_eq (s : St) : W E 0 c_q71_2 s (finP [.t 4]) xN (finP [.t 4]) = q71_2k s :=
  (W_seq (k := q71_1k) (fun s => q71_1_eq s)).trans (by kernel_rfl)
noncomputable def q71_3 (v0 v1 : AV) (h : Heap) : OX :=
oh (newC 0 (some 0) (cellsOf v0) h) fun v2 h1 =>
(q71_2 v1 v2 h1)
noncomputable def q71_3k (s : St) : OX := q71_3 (s 0) (s 1) s.h
theorem q71_3_eq (s : St) : W E 0 c_q71_3 s (finP [.t 4]) xN (finP [.t 4]) = q71_3k s :=
  (W_seq (k := q71_2k) (fun s => q71_2_eq s)).trans (by kernel_rfl)
@[simp] theorem pure_48 : E.pure 48 = true := rfl
theorem x_q71 (v0 v1 : AV) : (callW E).p 48 [v0, v1] = q71_3 v0 v1 [⟨0, .dead⟩] :=
  (callP_W (cf := c_q71) (by kernel_rfl) rfl).trans ((q71_3_eq _).trans (by kernel_rfl))
noncomputable def q70_1 (h : Heap) : OX :=
(expo1 h (AV.bool false))
noncomputable def q70_1k (s : St) : OX := q70_1 s.h
theorem q70_1_eq (s : St) : W E 0 c_q70_1 s (finP [.t 4]) xN (finP [.t 4]) = q70_1k s :=
  by kernel_rfl
noncomputable def q70_L2 (v0 v1 v5 : AV) (h : Heap) : OX :=
  W E 0 c_q70_L2 ⟨[(0, v0), (1, v1), (5, v5)], h⟩ q70_1k (exitTo 0 q70_1k xN) (finP [.t 4])
noncomputable def q70_L2k (s : St) : OX := q70_L2 (s 0) (s 1) (s 5) s.h
theorem q70_L2_eq (s : St) : W E 0 c_q70_L2 s q70_1k (exitTo 0 q70_1k xN) (finP [.t 4]) = q70_L2k s := W_loop_live.trans (by kernel_rfl)
noncomputable def q70_3 (v0 v1 v5 : AV) (h : Heap) : OX :=
ob (evBin .add v5 (AV.int .i64 1)) fun v11 =>
(q70_L2 v0 v1 v11 h)
noncomputable def q70_3k (s : St) : OX := q70_3 (s 0) (s 1) (s 5) s.h
theorem q70_3_eq (s : St) : W E 0 c_q70_3 s q70_L2k (exitTo 0 q70_1k xN) (finP [.t 4]) = q70_3k s :=
  by kernel_rfl
noncomputable def q70_4 (v0 v1 v5 : AV) (h : Heap) : OX :=
ob (evIxs 1 v1 v5) fun v14 =>
ob (evLd false 1 v14 h) fun v15 =>
ob (evBin .eql v15 v0) fun v17 =>
cnd v17
 ((expo1 h (AV.bool true)))
 ((q70_3 v0 v1 v5 h))
noncomputable def q70_4k (s : St) : OX := q70_4 (s 0) (s 1) (s 5) s.h
theorem q70_4_eq (s : St) : W E 0 c_q70_4 s q70_L2k (exitTo 0 q70_1k xN) (finP [.t 4]) = q70_4k s :=
  (W_seq (k := q70_3k) (fun s => q70_3_eq s)).trans (by kernel_rfl)
noncomputable def q70_5 (v0 v1 v5 : AV) (h : Heap) : OX :=
ob (evLen 1 v1 h) fun v8 =>
ob (evBin .lss v5 v8) fun v9 =>
cnd v9
 ((q70_4 v0 v1 v5 h))
 ((q70_1 h))
noncomputable def q70_5k (s : St) : OX := q70_5 (s 0) (s 1) (s 5) s.h
theorem q70_5_eq (s : St) : W E 0 c_q70_5 s q70_L2k (exitTo 0 q70_1k xN) (finP [.t 4]) = q70_5k s :=
  (W_seq (k := q70_4k) (fun s => q70_4_eq s)).trans (by kernel_rfl)
theorem q70_L2_go (v0 v1 v5 : AV) (h : Heap) : q70_L2 v0 v1 v5 h = (q70_5 v0 v1 v5 h) :=
  W_loop.trans ((W_congr _ _ _ (n' := q70_L2k) (fun s => q70_L2_eq s)).trans ((q70_5_eq _).trans (by kernel_rfl)))
theorem q70_6_eq (s : St) : W E 0 c_q70_6 s q70_1k xN (finP [.t 4]) = q70_L2k s :=
  W_block.trans (q70_L2_eq s)
noncomputable def q70_7 (v0 v1 : AV) (h : Heap) : OX :=
(q70_L2 v0 v1 (AV.int .i64 0) h)
noncomputable def q70_7k (s : St) : OX := q70_7 (s 0) (s 1) s.h
theorem q70_7_eq (s : St) : W E 0 c_q70_7 s q70_1k xN (finP [.t 4]) = q70_7k s :=
  (W_seq (k := q70_L2k) (fun s => q70_6_eq s)).trans (by kernel_rfl)
theorem q70_8_eq (s : St) : W E 0 c_q70_8 s (finP [.t 4]) xN (finP [.t 4]) = q70_7k s :=
  (W_seq (k := q70_1k) (fun s => q70_1_eq s)).trans (q70_7_eq s)
noncomputable def q70_9 (v0 v1 : AV) (h : Heap) : OX :=
(q70_7 v0 v1 h)
noncomputable def q70_9k (s : St) : OX := q70_9 (s 0) (s 1) s.h
theorem q70_9_eq (s : St) : W E 0 c_q70_9 s (finP [.t 4]) xN (finP [.t 4]) = q70_9k s :=
  (W_seq (k := q70_7k) (fun s => q70_8_eq s)).trans (by kernel_rfl)
@[simp] theorem pure_42 : E.pure 42 = true := rfl
theorem x_q70 (v0 v1 : AV) : (callW E).p 42 [v0, v1] = q70_9 v0 v1 [] :=
  (callP_W (cf := c_q70) (by kernel_rfl) rfl).trans ((q70_9_eq _).trans (by kernel_rfl))
end Go.Vm
