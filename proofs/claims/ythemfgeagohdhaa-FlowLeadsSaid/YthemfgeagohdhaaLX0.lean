/- Functions of the machine as plain functions that go on with what follows. -/
import Derived.Test.YthemfgeagohdhaaLEnv
namespace Go.Vm

noncomputable def regletlaw11_FlowLeads_1 (v1 v2 : AV) (h : Heap) : Option (Ex AV) :=
ob (evLd true 5 v2 h) fun v63 =>
ofp (fpCall E (callW E) 0 none true 102 [v63] h) fun f1 =>
oh (callAny E (callW E) 0 none true 102 [v63] h) fun v64 h1 =>
ob (evLd true 5 v2 h1) fun v65 =>
ofp (fpCall E (callW E) 0 none true 106 [v65] h1) fun f3 =>
oh (callAny E (callW E) 0 none true 106 [v65] h1) fun v66 h2 =>
ofp (fpCall E (callW E) 0 none true 11 [v64, v66] h2) fun f4 =>
oh (callAny E (callW E) 0 none true 11 [v64, v66] h2) fun v67 h3 =>
ofp (fgd v67 true (some (ids1 v2, []))) fun f6 =>
gb v67 true (evLd true 5 v2 h3) fun v69 =>
ofp (fgd v67 true (some ([], []))) fun f7 =>
gb v67 true (some v1) fun v70 =>
ofp (fgd v67 true (fpCall E (callW E) 0 none true 81 [v69, v70] h3)) fun f8 =>
gh v67 true (callAny E (callW E) 0 none true 81 [v69, v70] h3) h3 fun v71 h4 =>
ofp (fgd v67 true (some (ids1 v2, []))) fun f9 =>
gb v67 true (evLd true 5 v2 h4) fun v72 =>
ofp (fgd v67 true (some ([], []))) fun f10 =>
gb v67 true (some v1) fun v73 =>
ofp (fgd v67 true (fpCall E (callW E) 0 none true 95 [v72, v73] h4)) fun f11 =>
gh v67 true (callAny E (callW E) 0 none true 95 [v72, v73] h4) h4 fun v74 h5 =>
ofp (fgd v67 true (fpCall E (callW E) 0 none true 11 [v71, v74] h5)) fun f12 =>
gh v67 true (callAny E (callW E) 0 none true 11 [v71, v74] h5) h5 fun v75 h6 =>
ob (evPick v67 v75 (AV.bool false)) fun v76 =>
okK (pairsOk [(ids1 v2, []), f1, (ids1 v2, []), f3, f4, ([], []), f6, f7, f8, f9, f10, f11, f12, ([], []), ([], [])] [(1, 2), (8, 9)]) <|
(expo1 h6 v76)

theorem regletlaw11_FlowLeads_1_eq (s : St) : W E 0 c_regletlaw11_FlowLeads_1 s (finP [.t 4]) (fun _ _ => none) (finP [.t 4]) = regletlaw11_FlowLeads_1 (tget s.t 1) (tget s.t 2) s.h :=
  by kernel_rfl

noncomputable def regletlaw11_FlowLeads_L2 (v1 v2 v6 v7 v49 v50 : AV) (h : Heap) : Option (Ex AV) :=
  W E 0 c_regletlaw11_FlowLeads_L2 ⟨[(1, v1), (2, v2), (6, v6), (7, v7), (49, v49), (50, v50)], h⟩ (fun s => regletlaw11_FlowLeads_1 (tget s.t 1) (tget s.t 2) s.h) (exitTo 2 (fun s => regletlaw11_FlowLeads_1 (tget s.t 1) (tget s.t 2) s.h) (fun _ _ => none)) (finP [.t 4])

theorem regletlaw11_FlowLeads_L2_eq (s : St) : W E 0 c_regletlaw11_FlowLeads_L2 s (fun s => regletlaw11_FlowLeads_1 (tget s.t 1) (tget s.t 2) s.h) (exitTo 2 (fun s => regletlaw11_FlowLeads_1 (tget s.t 1) (tget s.t 2) s.h) (fun _ _ => none)) (finP [.t 4]) = regletlaw11_FlowLeads_L2 (tget s.t 1) (tget s.t 2) (tget s.t 6) (tget s.t 7) (tget s.t 49) (tget s.t 50) s.h := W_loop_live.trans (by kernel_rfl)

noncomputable def regletlaw11_FlowLeads_3 (v1 v2 v6 v7 v49 v50 : AV) (h : Heap) : Option (Ex AV) :=
ob (evBin .add v50 (AV.int .i64 1)) fun v62 =>
(regletlaw11_FlowLeads_L2 v1 v2 v6 v7 v49 v62 h)

theorem regletlaw11_FlowLeads_3_eq (s : St) : W E 0 c_regletlaw11_FlowLeads_3 s (fun s => regletlaw11_FlowLeads_L2 (tget s.t 1) (tget s.t 2) (tget s.t 6) (tget s.t 7) (tget s.t 49) (tget s.t 50) s.h) (exitTo 2 (fun s => regletlaw11_FlowLeads_1 (tget s.t 1) (tget s.t 2) s.h) (fun _ _ => none)) (finP [.t 4]) = regletlaw11_FlowLeads_3 (tget s.t 1) (tget s.t 2) (tget s.t 6) (tget s.t 7) (tget s.t 49) (tget s.t 50) s.h :=
  by kernel_rfl

noncomputable def regletlaw11_FlowLeads_4 (v1 v2 v6 v7 v49 v50 : AV) (h : Heap) : Option (Ex AV) :=
ob (evIxs 1 v6 v50) fun v55 =>
ob (evLd false 1 v55 h) fun v56 =>
ob (evIxs 1 v7 v50) fun v59 =>
ob (evLd false 1 v59 h) fun v60 =>
ob (evEqb true v56 v60) fun v61 =>
cnd v61
 ((expo1 h (AV.bool false)))
 ((regletlaw11_FlowLeads_3 v1 v2 v6 v7 v49 v50 h))

theorem regletlaw11_FlowLeads_4_eq (s : St) : W E 0 c_regletlaw11_FlowLeads_4 s (fun s => regletlaw11_FlowLeads_L2 (tget s.t 1) (tget s.t 2) (tget s.t 6) (tget s.t 7) (tget s.t 49) (tget s.t 50) s.h) (exitTo 2 (fun s => regletlaw11_FlowLeads_1 (tget s.t 1) (tget s.t 2) s.h) (fun _ _ => none)) (finP [.t 4]) = regletlaw11_FlowLeads_4 (tget s.t 1) (tget s.t 2) (tget s.t 6) (tget s.t 7) (tget s.t 49) (tget s.t 50) s.h :=
  (W_seq (k := (fun s => regletlaw11_FlowLeads_3 (tget s.t 1) (tget s.t 2) (tget s.t 6) (tget s.t 7) (tget s.t 49) (tget s.t 50) s.h)) (fun s => regletlaw11_FlowLeads_3_eq s)).trans (by kernel_rfl)

noncomputable def regletlaw11_FlowLeads_5 (v1 v2 v6 v7 v49 v50 v51 : AV) (h : Heap) : Option (Ex AV) :=
cnd v51
 ((regletlaw11_FlowLeads_4 v1 v2 v6 v7 v49 v50 h))
 ((regletlaw11_FlowLeads_1 v1 v2 h))

theorem regletlaw11_FlowLeads_5_eq (s : St) : W E 0 c_regletlaw11_FlowLeads_5 s (fun s => regletlaw11_FlowLeads_L2 (tget s.t 1) (tget s.t 2) (tget s.t 6) (tget s.t 7) (tget s.t 49) (tget s.t 50) s.h) (exitTo 2 (fun s => regletlaw11_FlowLeads_1 (tget s.t 1) (tget s.t 2) s.h) (fun _ _ => none)) (finP [.t 4]) = regletlaw11_FlowLeads_5 (tget s.t 1) (tget s.t 2) (tget s.t 6) (tget s.t 7) (tget s.t 49) (tget s.t 50) (tget s.t 51) s.h :=
  (W_seq (k := (fun s => regletlaw11_FlowLeads_4 (tget s.t 1) (tget s.t 2) (tget s.t 6) (tget s.t 7) (tget s.t 49) (tget s.t 50) s.h)) (fun s => regletlaw11_FlowLeads_4_eq s)).trans (by kernel_rfl)

noncomputable def regletlaw11_FlowLeads_6 (v1 v2 v6 v7 v49 v50 : AV) (h : Heap) : Option (Ex AV) :=
ob (evBin .lss v50 v49) fun v51 =>
(regletlaw11_FlowLeads_5 v1 v2 v6 v7 v49 v50 v51 h)

theorem regletlaw11_FlowLeads_6_eq (s : St) : W E 0 c_regletlaw11_FlowLeads_6 s (fun s => regletlaw11_FlowLeads_L2 (tget s.t 1) (tget s.t 2) (tget s.t 6) (tget s.t 7) (tget s.t 49) (tget s.t 50) s.h) (exitTo 2 (fun s => regletlaw11_FlowLeads_1 (tget s.t 1) (tget s.t 2) s.h) (fun _ _ => none)) (finP [.t 4]) = regletlaw11_FlowLeads_6 (tget s.t 1) (tget s.t 2) (tget s.t 6) (tget s.t 7) (tget s.t 49) (tget s.t 50) s.h :=
  (W_seq (k := (fun s => regletlaw11_FlowLeads_5 (tget s.t 1) (tget s.t 2) (tget s.t 6) (tget s.t 7) (tget s.t 49) (tget s.t 50) (tget s.t 51) s.h)) (fun s => regletlaw11_FlowLeads_5_eq s)).trans (by kernel_rfl)

theorem regletlaw11_FlowLeads_L2_go (v1 v2 v6 v7 v49 v50 : AV) (h : Heap) : regletlaw11_FlowLeads_L2 v1 v2 v6 v7 v49 v50 h = (regletlaw11_FlowLeads_6 v1 v2 v6 v7 v49 v50 h) :=
  W_loop.trans ((W_congr _ _ _ (n' := (fun s => regletlaw11_FlowLeads_L2 (tget s.t 1) (tget s.t 2) (tget s.t 6) (tget s.t 7) (tget s.t 49) (tget s.t 50) s.h)) (fun s => regletlaw11_FlowLeads_L2_eq s)).trans ((regletlaw11_FlowLeads_6_eq _).trans (by kernel_rfl)))

theorem regletlaw11_FlowLeads_7_eq (s : St) : W E 0 c_regletlaw11_FlowLeads_7 s (fun s => regletlaw11_FlowLeads_1 (tget s.t 1) (tget s.t 2) s.h) (fun _ _ => none) (finP [.t 4]) = regletlaw11_FlowLeads_L2 (tget s.t 1) (tget s.t 2) (tget s.t 6) (tget s.t 7) (tget s.t 49) (tget s.t 50) s.h :=
  W_block.trans (regletlaw11_FlowLeads_L2_eq s)

noncomputable def regletlaw11_FlowLeads_8 (v1 v2 v6 v7 : AV) (h : Heap) : Option (Ex AV) :=
ob (evLen 1 v6 h) fun v49 =>
(regletlaw11_FlowLeads_L2 v1 v2 v6 v7 v49 (AV.int .i64 0) h)

theorem regletlaw11_FlowLeads_8_eq (s : St) : W E 0 c_regletlaw11_FlowLeads_8 s (fun s => regletlaw11_FlowLeads_1 (tget s.t 1) (tget s.t 2) s.h) (fun _ _ => none) (finP [.t 4]) = regletlaw11_FlowLeads_8 (tget s.t 1) (tget s.t 2) (tget s.t 6) (tget s.t 7) s.h :=
  (W_seq (k := (fun s => regletlaw11_FlowLeads_L2 (tget s.t 1) (tget s.t 2) (tget s.t 6) (tget s.t 7) (tget s.t 49) (tget s.t 50) s.h)) (fun s => regletlaw11_FlowLeads_7_eq s)).trans (by kernel_rfl)

theorem regletlaw11_FlowLeads_9_eq (s : St) : W E 0 c_regletlaw11_FlowLeads_9 s (finP [.t 4]) (fun _ _ => none) (finP [.t 4]) = regletlaw11_FlowLeads_8 (tget s.t 1) (tget s.t 2) (tget s.t 6) (tget s.t 7) s.h :=
  (W_seq (k := (fun s => regletlaw11_FlowLeads_1 (tget s.t 1) (tget s.t 2) s.h)) (fun s => regletlaw11_FlowLeads_1_eq s)).trans (regletlaw11_FlowLeads_8_eq s)

noncomputable def regletlaw11_FlowLeads_10 (v1 v2 v6 v7 : AV) (h : Heap) : Option (Ex AV) :=
ob (evLen 1 v6 h) fun v44 =>
ob (evLen 1 v7 h) fun v46 =>
ob (evBin .neq v44 v46) fun v47 =>
cnd v47
 ((expo1 h (AV.bool false)))
 ((regletlaw11_FlowLeads_8 v1 v2 v6 v7 h))

theorem regletlaw11_FlowLeads_10_eq (s : St) : W E 0 c_regletlaw11_FlowLeads_10 s (finP [.t 4]) (fun _ _ => none) (finP [.t 4]) = regletlaw11_FlowLeads_10 (tget s.t 1) (tget s.t 2) (tget s.t 6) (tget s.t 7) s.h :=
  (W_seq (k := (fun s => regletlaw11_FlowLeads_8 (tget s.t 1) (tget s.t 2) (tget s.t 6) (tget s.t 7) s.h)) (fun s => regletlaw11_FlowLeads_9_eq s)).trans (by kernel_rfl)

noncomputable def regletlaw11_FlowLeads_11 (v1 v2 : AV) (h : Heap) : Option (Ex AV) :=
ob (evLd true 5 v2 h) fun v39 =>
ofp (fpCall E (callW E) 0 none true 101 [v39] h) fun f1 =>
oh (callAny E (callW E) 0 none true 101 [v39] h) fun v40 h7 =>
ob (evLd true 5 v2 h7) fun v41 =>
ofp (fpCall E (callW E) 0 none true 104 [v41] h7) fun f3 =>
oh (callAny E (callW E) 0 none true 104 [v41] h7) fun v42 h8 =>
okK (pairsOk [(ids1 v2, []), f1, (ids1 v2, []), f3, ([], []), ([], [])] [(1, 2)]) <|
(regletlaw11_FlowLeads_10 v1 v2 v40 v42 h8)

theorem regletlaw11_FlowLeads_11_eq (s : St) : W E 0 c_regletlaw11_FlowLeads_11 s (finP [.t 4]) (fun _ _ => none) (finP [.t 4]) = regletlaw11_FlowLeads_11 (tget s.t 1) (tget s.t 2) s.h :=
  (W_seq (k := (fun s => regletlaw11_FlowLeads_10 (tget s.t 1) (tget s.t 2) (tget s.t 6) (tget s.t 7) s.h)) (fun s => regletlaw11_FlowLeads_10_eq s)).trans (by kernel_rfl)

noncomputable def regletlaw11_FlowLeads_L12 (v1 v2 v5 : AV) (h : Heap) : Option (Ex AV) :=
  W E 0 c_regletlaw11_FlowLeads_L12 ⟨[(1, v1), (2, v2), (5, v5)], h⟩ (fun s => regletlaw11_FlowLeads_11 (tget s.t 1) (tget s.t 2) s.h) (exitTo 0 (fun s => regletlaw11_FlowLeads_11 (tget s.t 1) (tget s.t 2) s.h) (fun _ _ => none)) (finP [.t 4])

theorem regletlaw11_FlowLeads_L12_eq (s : St) : W E 0 c_regletlaw11_FlowLeads_L12 s (fun s => regletlaw11_FlowLeads_11 (tget s.t 1) (tget s.t 2) s.h) (exitTo 0 (fun s => regletlaw11_FlowLeads_11 (tget s.t 1) (tget s.t 2) s.h) (fun _ _ => none)) (finP [.t 4]) = regletlaw11_FlowLeads_L12 (tget s.t 1) (tget s.t 2) (tget s.t 5) s.h := W_loop_live.trans (by kernel_rfl)

noncomputable def regletlaw11_FlowLeads_13 (v1 v2 v5 : AV) (h : Heap) : Option (Ex AV) :=
ob (evBin .add v5 (AV.int .i64 1)) fun v20 =>
(regletlaw11_FlowLeads_L12 v1 v2 v20 h)

theorem regletlaw11_FlowLeads_13_eq (s : St) : W E 0 c_regletlaw11_FlowLeads_13 s (fun s => regletlaw11_FlowLeads_L12 (tget s.t 1) (tget s.t 2) (tget s.t 5) s.h) (exitTo 0 (fun s => regletlaw11_FlowLeads_11 (tget s.t 1) (tget s.t 2) s.h) (fun _ _ => none)) (finP [.t 4]) = regletlaw11_FlowLeads_13 (tget s.t 1) (tget s.t 2) (tget s.t 5) s.h :=
  by kernel_rfl

noncomputable def regletlaw11_FlowLeads_14 (v1 v2 v5 : AV) (h : Heap) : Option (Ex AV) :=
ob (evLd true 5 v2 h) fun v21 =>
ofp (fpCall E (callW E) 0 none true 81 [v21, v5] h) fun f2 =>
oh (callAny E (callW E) 0 none true 81 [v21, v5] h) fun v23 h9 =>
ob (evLd true 5 v2 h9) fun v24 =>
ofp (fpCall E (callW E) 0 none true 95 [v24, v5] h9) fun f5 =>
oh (callAny E (callW E) 0 none true 95 [v24, v5] h9) fun v26 h10 =>
ofp (fpCall E (callW E) 0 none true 11 [v23, v26] h10) fun f6 =>
oh (callAny E (callW E) 0 none true 11 [v23, v26] h10) fun v27 h11 =>
ob (evUn .not v27) fun v28 =>
ofp (fgd v28 false (some (ids1 v2, []))) fun f9 =>
gb v28 false (evLd true 5 v2 h11) fun v30 =>
ofp (fgd v28 false (some ([], []))) fun f10 =>
gb v28 false (some v5) fun v31 =>
ofp (fgd v28 false (fpCall E (callW E) 0 none true 79 [v30, v31] h11)) fun f11 =>
gh v28 false (callAny E (callW E) 0 none true 79 [v30, v31] h11) h11 fun v32 h12 =>
ofp (fgd v28 false (some (ids1 v2, []))) fun f12 =>
gb v28 false (evLd true 5 v2 h12) fun v33 =>
ofp (fgd v28 false (some ([], []))) fun f13 =>
gb v28 false (some v5) fun v34 =>
ofp (fgd v28 false (fpCall E (callW E) 0 none true 92 [v33, v34] h12)) fun f14 =>
gh v28 false (callAny E (callW E) 0 none true 92 [v33, v34] h12) h12 fun v35 h13 =>
ofp (fgd v28 false (fpCall E (callW E) 0 none true 11 [v32, v35] h13)) fun f15 =>
gh v28 false (callAny E (callW E) 0 none true 11 [v32, v35] h13) h13 fun v36 h14 =>
ofp (fgd v28 false (some ([], []))) fun f16 =>
gb v28 false (evUn .not v36) fun v37 =>
ob (evPick v28 (AV.bool true) v37) fun v38 =>
okK (pairsOk [(ids1 v2, []), ([], []), f2, (ids1 v2, []), ([], []), f5, f6, ([], []), ([], []), f9, f10, f11, f12, f13, f14, f15, f16, ([], [])] [(2, 3), (11, 12)]) <|
cnd v38
 ((expo1 h14 (AV.bool false)))
 ((regletlaw11_FlowLeads_13 v1 v2 v5 h14))

theorem regletlaw11_FlowLeads_14_eq (s : St) : W E 0 c_regletlaw11_FlowLeads_14 s (fun s => regletlaw11_FlowLeads_L12 (tget s.t 1) (tget s.t 2) (tget s.t 5) s.h) (exitTo 0 (fun s => regletlaw11_FlowLeads_11 (tget s.t 1) (tget s.t 2) s.h) (fun _ _ => none)) (finP [.t 4]) = regletlaw11_FlowLeads_14 (tget s.t 1) (tget s.t 2) (tget s.t 5) s.h :=
  (W_seq (k := (fun s => regletlaw11_FlowLeads_13 (tget s.t 1) (tget s.t 2) (tget s.t 5) s.h)) (fun s => regletlaw11_FlowLeads_13_eq s)).trans (by kernel_rfl)

noncomputable def regletlaw11_FlowLeads_15 (v1 v2 v5 : AV) (h : Heap) : Option (Ex AV) :=
ob (evFa 3 v2) fun v15 =>
ob (evLd false 1 v15 h) fun v16 =>
ob (evLen 1 v16 h) fun v17 =>
ob (evBin .leq v5 v17) fun v18 =>
cnd v18
 ((regletlaw11_FlowLeads_14 v1 v2 v5 h))
 ((regletlaw11_FlowLeads_11 v1 v2 h))

theorem regletlaw11_FlowLeads_15_eq (s : St) : W E 0 c_regletlaw11_FlowLeads_15 s (fun s => regletlaw11_FlowLeads_L12 (tget s.t 1) (tget s.t 2) (tget s.t 5) s.h) (exitTo 0 (fun s => regletlaw11_FlowLeads_11 (tget s.t 1) (tget s.t 2) s.h) (fun _ _ => none)) (finP [.t 4]) = regletlaw11_FlowLeads_15 (tget s.t 1) (tget s.t 2) (tget s.t 5) s.h :=
  (W_seq (k := (fun s => regletlaw11_FlowLeads_14 (tget s.t 1) (tget s.t 2) (tget s.t 5) s.h)) (fun s => regletlaw11_FlowLeads_14_eq s)).trans (by kernel_rfl)

theorem regletlaw11_FlowLeads_L12_go (v1 v2 v5 : AV) (h : Heap) : regletlaw11_FlowLeads_L12 v1 v2 v5 h = (regletlaw11_FlowLeads_15 v1 v2 v5 h) :=
  W_loop.trans ((W_congr _ _ _ (n' := (fun s => regletlaw11_FlowLeads_L12 (tget s.t 1) (tget s.t 2) (tget s.t 5) s.h)) (fun s => regletlaw11_FlowLeads_L12_eq s)).trans ((regletlaw11_FlowLeads_15_eq _).trans (by kernel_rfl)))

theorem regletlaw11_FlowLeads_16_eq (s : St) : W E 0 c_regletlaw11_FlowLeads_16 s (fun s => regletlaw11_FlowLeads_11 (tget s.t 1) (tget s.t 2) s.h) (fun _ _ => none) (finP [.t 4]) = regletlaw11_FlowLeads_L12 (tget s.t 1) (tget s.t 2) (tget s.t 5) s.h :=
  W_block.trans (regletlaw11_FlowLeads_L12_eq s)

noncomputable def regletlaw11_FlowLeads_17 (v1 v2 : AV) (h : Heap) : Option (Ex AV) :=
(regletlaw11_FlowLeads_L12 v1 v2 (AV.int .i64 (-1)) h)

theorem regletlaw11_FlowLeads_17_eq (s : St) : W E 0 c_regletlaw11_FlowLeads_17 s (fun s => regletlaw11_FlowLeads_11 (tget s.t 1) (tget s.t 2) s.h) (fun _ _ => none) (finP [.t 4]) = regletlaw11_FlowLeads_17 (tget s.t 1) (tget s.t 2) s.h :=
  (W_seq (k := (fun s => regletlaw11_FlowLeads_L12 (tget s.t 1) (tget s.t 2) (tget s.t 5) s.h)) (fun s => regletlaw11_FlowLeads_16_eq s)).trans (by kernel_rfl)

theorem regletlaw11_FlowLeads_18_eq (s : St) : W E 0 c_regletlaw11_FlowLeads_18 s (finP [.t 4]) (fun _ _ => none) (finP [.t 4]) = regletlaw11_FlowLeads_17 (tget s.t 1) (tget s.t 2) s.h :=
  (W_seq (k := (fun s => regletlaw11_FlowLeads_11 (tget s.t 1) (tget s.t 2) s.h)) (fun s => regletlaw11_FlowLeads_11_eq s)).trans (regletlaw11_FlowLeads_17_eq s)

noncomputable def regletlaw11_FlowLeads_19 (v1 v2 : AV) (h : Heap) : Option (Ex AV) :=
ob (evLd true 5 v2 h) fun v11 =>
oh (callAny E (callW E) 0 none true 98 [v11] h) fun v12 h15 =>
ob (evUn .not v12) fun v13 =>
cnd v13
 ((expo1 h15 (AV.bool true)))
 ((regletlaw11_FlowLeads_17 v1 v2 h15))

theorem regletlaw11_FlowLeads_19_eq (s : St) : W E 0 c_regletlaw11_FlowLeads_19 s (finP [.t 4]) (fun _ _ => none) (finP [.t 4]) = regletlaw11_FlowLeads_19 (tget s.t 1) (tget s.t 2) s.h :=
  (W_seq (k := (fun s => regletlaw11_FlowLeads_17 (tget s.t 1) (tget s.t 2) s.h)) (fun s => regletlaw11_FlowLeads_18_eq s)).trans (by kernel_rfl)

noncomputable def regletlaw11_FlowLeads_20 (v1 v2 : AV) (h : Heap) : Option (Ex AV) :=
oh (callAny E (callW E) 0 none true 97 [] h) fun v9 h16 =>
ob (evUn .not v9) fun v10 =>
cnd v10
 ((expo1 h16 (AV.bool false)))
 ((regletlaw11_FlowLeads_19 v1 v2 h16))

theorem regletlaw11_FlowLeads_20_eq (s : St) : W E 0 c_regletlaw11_FlowLeads_20 s (finP [.t 4]) (fun _ _ => none) (finP [.t 4]) = regletlaw11_FlowLeads_20 (tget s.t 1) (tget s.t 2) s.h :=
  (W_seq (k := (fun s => regletlaw11_FlowLeads_19 (tget s.t 1) (tget s.t 2) s.h)) (fun s => regletlaw11_FlowLeads_19_eq s)).trans (by kernel_rfl)

noncomputable def regletlaw11_FlowLeads_21 (v0 v1 : AV) (h : Heap) : Option (Ex AV) :=
oh (newC 0 (some 0) (cellsOf v0) h) fun v2 h17 =>
(regletlaw11_FlowLeads_20 v1 v2 h17)

theorem regletlaw11_FlowLeads_21_eq (s : St) : W E 0 c_regletlaw11_FlowLeads_21 s (finP [.t 4]) (fun _ _ => none) (finP [.t 4]) = regletlaw11_FlowLeads_21 (tget s.t 0) (tget s.t 1) s.h :=
  (W_seq (k := (fun s => regletlaw11_FlowLeads_20 (tget s.t 1) (tget s.t 2) s.h)) (fun s => regletlaw11_FlowLeads_20_eq s)).trans (by kernel_rfl)

@[simp] theorem pure_107 : E.pure 107 = true := rfl

theorem x_regletlaw11_FlowLeads (v0 v1 : AV) : (callW E).p 107 [v0, v1] = regletlaw11_FlowLeads_21 v0 v1 [⟨0, .dead⟩] :=
  (callP_W (cf := c_regletlaw11_FlowLeads) (by kernel_rfl) rfl).trans ((regletlaw11_FlowLeads_21_eq _).trans (by kernel_rfl))

@[simp] theorem pure_97 : E.pure 97 = true := rfl

noncomputable def regletlaw11_light_1 (v0 : AV) (h : Heap) : Option (Ex AV) :=
oh (newC 0 (some 0) (cellsOf v0) h) fun v1 h1 =>
ob (evFa 3 v1) fun v3 =>
ob (evLd false 1 v3 h1) fun v4 =>
ob (evLen 1 v4 h1) fun v5 =>
ob (evBin .leq v5 (AV.int .i64 400)) fun v6 =>
gb v6 true (evFa 0 v1) fun v8 =>
gb v6 true (evLd false 1 v8 h1) fun v9 =>
gb v6 true (evLen 1 v9 h1) fun v10 =>
gb v6 true (evBin .leq v10 (AV.int .i64 100)) fun v11 =>
ob (evPick v6 v11 (AV.bool false)) fun v12 =>
gb v12 true (evFa 4 v1) fun v14 =>
gb v12 true (evLd false 1 v14 h1) fun v15 =>
gb v12 true (evLen 1 v15 h1) fun v16 =>
gb v12 true (evBin .leq v16 (AV.int .i64 100)) fun v17 =>
ob (evPick v12 v17 (AV.bool false)) fun v18 =>
(expo1 h1 v18)

theorem regletlaw11_light_1_eq (s : St) : W E 0 c_regletlaw11_light_1 s (finP [.t 2]) (fun _ _ => none) (finP [.t 2]) = regletlaw11_light_1 (tget s.t 0) s.h :=
  by kernel_rfl

@[simp] theorem pure_98 : E.pure 98 = true := rfl

theorem x_regletlaw11_light (v0 : AV) : (callW E).p 98 [v0] = regletlaw11_light_1 v0 [⟨0, .dead⟩] :=
  (callP_W (cf := c_regletlaw11_light) (by kernel_rfl) rfl).trans ((regletlaw11_light_1_eq _).trans (by kernel_rfl))

noncomputable def regletref10_Ints_1 (h : Heap) : Option (Ex AV) :=
(expo1 h (AV.bool true))

theorem regletref10_Ints_1_eq (s : St) : W E 0 c_regletref10_Ints_1 s (finP [.t 4]) (fun _ _ => none) (finP [.t 4]) = regletref10_Ints_1 s.h :=
  by kernel_rfl

noncomputable def regletref10_Ints_L2 (v0 v1 v5 : AV) (h : Heap) : Option (Ex AV) :=
  W E 0 c_regletref10_Ints_L2 ⟨[(0, v0), (1, v1), (5, v5)], h⟩ (fun s => regletref10_Ints_1 s.h) (exitTo 0 (fun s => regletref10_Ints_1 s.h) (fun _ _ => none)) (finP [.t 4])

theorem regletref10_Ints_L2_eq (s : St) : W E 0 c_regletref10_Ints_L2 s (fun s => regletref10_Ints_1 s.h) (exitTo 0 (fun s => regletref10_Ints_1 s.h) (fun _ _ => none)) (finP [.t 4]) = regletref10_Ints_L2 (tget s.t 0) (tget s.t 1) (tget s.t 5) s.h := W_loop_live.trans (by kernel_rfl)

noncomputable def regletref10_Ints_3 (v0 v1 v5 : AV) (h : Heap) : Option (Ex AV) :=
ob (evBin .add v5 (AV.int .i64 1)) fun v16 =>
(regletref10_Ints_L2 v0 v1 v16 h)

theorem regletref10_Ints_3_eq (s : St) : W E 0 c_regletref10_Ints_3 s (fun s => regletref10_Ints_L2 (tget s.t 0) (tget s.t 1) (tget s.t 5) s.h) (exitTo 0 (fun s => regletref10_Ints_1 s.h) (fun _ _ => none)) (finP [.t 4]) = regletref10_Ints_3 (tget s.t 0) (tget s.t 1) (tget s.t 5) s.h :=
  by kernel_rfl

noncomputable def regletref10_Ints_4 (v0 v1 v5 : AV) (h : Heap) : Option (Ex AV) :=
ob (evIxs 1 v0 v5) fun v19 =>
ob (evLd false 1 v19 h) fun v20 =>
ob (evIxs 1 v1 v5) fun v23 =>
ob (evLd false 1 v23 h) fun v24 =>
ob (evBin .neq v20 v24) fun v25 =>
cnd v25
 ((expo1 h (AV.bool false)))
 ((regletref10_Ints_3 v0 v1 v5 h))

theorem regletref10_Ints_4_eq (s : St) : W E 0 c_regletref10_Ints_4 s (fun s => regletref10_Ints_L2 (tget s.t 0) (tget s.t 1) (tget s.t 5) s.h) (exitTo 0 (fun s => regletref10_Ints_1 s.h) (fun _ _ => none)) (finP [.t 4]) = regletref10_Ints_4 (tget s.t 0) (tget s.t 1) (tget s.t 5) s.h :=
  (W_seq (k := (fun s => regletref10_Ints_3 (tget s.t 0) (tget s.t 1) (tget s.t 5) s.h)) (fun s => regletref10_Ints_3_eq s)).trans (by kernel_rfl)

noncomputable def regletref10_Ints_5 (v0 v1 v5 : AV) (h : Heap) : Option (Ex AV) :=
ob (evLen 1 v0 h) fun v13 =>
ob (evBin .lss v5 v13) fun v14 =>
cnd v14
 ((regletref10_Ints_4 v0 v1 v5 h))
 ((regletref10_Ints_1 h))

theorem regletref10_Ints_5_eq (s : St) : W E 0 c_regletref10_Ints_5 s (fun s => regletref10_Ints_L2 (tget s.t 0) (tget s.t 1) (tget s.t 5) s.h) (exitTo 0 (fun s => regletref10_Ints_1 s.h) (fun _ _ => none)) (finP [.t 4]) = regletref10_Ints_5 (tget s.t 0) (tget s.t 1) (tget s.t 5) s.h :=
  (W_seq (k := (fun s => regletref10_Ints_4 (tget s.t 0) (tget s.t 1) (tget s.t 5) s.h)) (fun s => regletref10_Ints_4_eq s)).trans (by kernel_rfl)

theorem regletref10_Ints_L2_go (v0 v1 v5 : AV) (h : Heap) : regletref10_Ints_L2 v0 v1 v5 h = (regletref10_Ints_5 v0 v1 v5 h) :=
  W_loop.trans ((W_congr _ _ _ (n' := (fun s => regletref10_Ints_L2 (tget s.t 0) (tget s.t 1) (tget s.t 5) s.h)) (fun s => regletref10_Ints_L2_eq s)).trans ((regletref10_Ints_5_eq _).trans (by kernel_rfl)))

theorem regletref10_Ints_6_eq (s : St) : W E 0 c_regletref10_Ints_6 s (fun s => regletref10_Ints_1 s.h) (fun _ _ => none) (finP [.t 4]) = regletref10_Ints_L2 (tget s.t 0) (tget s.t 1) (tget s.t 5) s.h :=
  W_block.trans (regletref10_Ints_L2_eq s)

noncomputable def regletref10_Ints_7 (v0 v1 : AV) (h : Heap) : Option (Ex AV) :=
(regletref10_Ints_L2 v0 v1 (AV.int .i64 0) h)

theorem regletref10_Ints_7_eq (s : St) : W E 0 c_regletref10_Ints_7 s (fun s => regletref10_Ints_1 s.h) (fun _ _ => none) (finP [.t 4]) = regletref10_Ints_7 (tget s.t 0) (tget s.t 1) s.h :=
  (W_seq (k := (fun s => regletref10_Ints_L2 (tget s.t 0) (tget s.t 1) (tget s.t 5) s.h)) (fun s => regletref10_Ints_6_eq s)).trans (by kernel_rfl)

theorem regletref10_Ints_8_eq (s : St) : W E 0 c_regletref10_Ints_8 s (finP [.t 4]) (fun _ _ => none) (finP [.t 4]) = regletref10_Ints_7 (tget s.t 0) (tget s.t 1) s.h :=
  (W_seq (k := (fun s => regletref10_Ints_1 s.h)) (fun s => regletref10_Ints_1_eq s)).trans (regletref10_Ints_7_eq s)

noncomputable def regletref10_Ints_9 (v0 v1 : AV) (h : Heap) : Option (Ex AV) :=
ob (evLen 1 v0 h) fun v7 =>
ob (evLen 1 v1 h) fun v9 =>
ob (evBin .neq v7 v9) fun v10 =>
cnd v10
 ((expo1 h (AV.bool false)))
 ((regletref10_Ints_7 v0 v1 h))

theorem regletref10_Ints_9_eq (s : St) : W E 0 c_regletref10_Ints_9 s (finP [.t 4]) (fun _ _ => none) (finP [.t 4]) = regletref10_Ints_9 (tget s.t 0) (tget s.t 1) s.h :=
  (W_seq (k := (fun s => regletref10_Ints_7 (tget s.t 0) (tget s.t 1) s.h)) (fun s => regletref10_Ints_8_eq s)).trans (by kernel_rfl)

noncomputable def regletref10_Ints_10 (v0 v1 : AV) (h : Heap) : Option (Ex AV) :=
(regletref10_Ints_9 v0 v1 h)

theorem regletref10_Ints_10_eq (s : St) : W E 0 c_regletref10_Ints_10 s (finP [.t 4]) (fun _ _ => none) (finP [.t 4]) = regletref10_Ints_10 (tget s.t 0) (tget s.t 1) s.h :=
  (W_seq (k := (fun s => regletref10_Ints_9 (tget s.t 0) (tget s.t 1) s.h)) (fun s => regletref10_Ints_9_eq s)).trans (by kernel_rfl)

@[simp] theorem pure_11 : E.pure 11 = true := rfl

theorem x_regletref10_Ints (v0 v1 : AV) : (callW E).p 11 [v0, v1] = regletref10_Ints_10 v0 v1 [] :=
  (callP_W (cf := c_regletref10_Ints) (by kernel_rfl) rfl).trans ((regletref10_Ints_10_eq _).trans (by kernel_rfl))

noncomputable def flow_Next_1 (v6 : AV) (h : Heap) : Option (Ex AV) :=
(expo1 h v6)

theorem flow_Next_1_eq (s : St) : W E 0 c_flow_Next_1 s (finP [.t 4]) (fun _ _ => none) (finP [.t 4]) = flow_Next_1 (tget s.t 6) s.h :=
  by kernel_rfl

noncomputable def flow_Next_2 (v5 v6 : AV) (h : Heap) : Option (Ex AV) :=
ob (evLd true 9 v5 h) fun v29 =>
oh (callAny E (callW E) 0 none true 22 [v29] h) fun v30 h1 =>
gb v30 true (some v6) fun v32 =>
gb v30 true (evFa 6 v5) fun v33 =>
gb v30 true (evLd false 1 v33 h1) fun v34 =>
gh v30 true (callAny E (callW E) 0 none true 46 [v32, v34] h1) h1 fun v35 h2 =>
gb v30 true (evUn .not v35) fun v36 =>
ob (evPick v30 v36 (AV.bool false)) fun v37 =>
cnd v37
 (ob (evFa 6 v5) fun v39 =>
ob (evLd false 1 v39 h2) fun v40 =>
oh (buildSC 0 (some 4) 1 1 [(.int .i64 0)] [(0, v40)] h2) fun v41 h3 =>
oh (evApp 0 (some 5) 1 8 v6 v41 h3) fun v42 h4 =>
(flow_Next_1 v42 h4))
 ((flow_Next_1 v6 h2))

theorem flow_Next_2_eq (s : St) : W E 0 c_flow_Next_2 s (finP [.t 4]) (fun _ _ => none) (finP [.t 4]) = flow_Next_2 (tget s.t 5) (tget s.t 6) s.h :=
  (W_seq (k := (fun s => flow_Next_1 (tget s.t 6) s.h)) (fun s => flow_Next_1_eq s)).trans (by kernel_rfl)

noncomputable def flow_Next_3 (v1 v5 v6 : AV) (h : Heap) : Option (Ex AV) :=
ob (evLd true 9 v5 h) fun v21 =>
oh (callAny E (callW E) 0 none true 24 [v21] h) fun v22 h5 =>
ob (evUn .not v22) fun v23 =>
cnd v23
 (ob (evBin .add v1 (AV.int .i64 1)) fun v26 =>
oh (buildSC 0 (some 2) 1 1 [(.int .i64 0)] [(0, v26)] h5) fun v27 h6 =>
oh (evApp 0 (some 3) 1 8 v6 v27 h6) fun v28 h7 =>
(flow_Next_2 v5 v28 h7))
 ((flow_Next_2 v5 v6 h5))

theorem flow_Next_3_eq (s : St) : W E 0 c_flow_Next_3 s (finP [.t 4]) (fun _ _ => none) (finP [.t 4]) = flow_Next_3 (tget s.t 1) (tget s.t 5) (tget s.t 6) s.h :=
  (W_seq (k := (fun s => flow_Next_2 (tget s.t 5) (tget s.t 6) s.h)) (fun s => flow_Next_2_eq s)).trans (by kernel_rfl)

noncomputable def flow_Next_4 (v1 v5 : AV) (h : Heap) : Option (Ex AV) :=
(flow_Next_3 v1 v5 AV.nils h)

theorem flow_Next_4_eq (s : St) : W E 0 c_flow_Next_4 s (finP [.t 4]) (fun _ _ => none) (finP [.t 4]) = flow_Next_4 (tget s.t 1) (tget s.t 5) s.h :=
  (W_seq (k := (fun s => flow_Next_3 (tget s.t 1) (tget s.t 5) (tget s.t 6) s.h)) (fun s => flow_Next_3_eq s)).trans (by kernel_rfl)

noncomputable def flow_Next_5 (v1 v2 : AV) (h : Heap) : Option (Ex AV) :=
ob (evFa 3 v2) fun v16 =>
ob (evLd false 1 v16 h) fun v17 =>
ob (evIxs 9 v17 v1) fun v19 =>
ob (evLd true 9 v19 h) fun v20 =>
oh (newC 0 (some 1) [(.int .i64 0), (.int .i64 0), (.int .i64 0), (.int .i64 0), (.int .i64 0), (.int .i64 0), (.int .i64 0), (.str []), .nils] h) fun v5 h8 =>
oh (evSt 9 v5 v20 h8) fun _ h9 =>
(flow_Next_4 v1 v5 h9)

theorem flow_Next_5_eq (s : St) : W E 0 c_flow_Next_5 s (finP [.t 4]) (fun _ _ => none) (finP [.t 4]) = flow_Next_5 (tget s.t 1) (tget s.t 2) s.h :=
  (W_seq (k := (fun s => flow_Next_4 (tget s.t 1) (tget s.t 5) s.h)) (fun s => flow_Next_4_eq s)).trans (by kernel_rfl)

noncomputable def flow_Next_6 (v1 v2 : AV) (h : Heap) : Option (Ex AV) :=
ob (evBin .lss v1 (AV.int .i64 0)) fun v8 =>
gb v8 false (some v1) fun v10 =>
gb v8 false (evFa 3 v2) fun v11 =>
gb v8 false (evLd false 1 v11 h) fun v12 =>
gb v8 false (evLen 1 v12 h) fun v13 =>
gb v8 false (evBin .geq v10 v13) fun v14 =>
ob (evPick v8 (AV.bool true) v14) fun v15 =>
cnd v15
 ((expo1 h AV.nils))
 ((flow_Next_5 v1 v2 h))

theorem flow_Next_6_eq (s : St) : W E 0 c_flow_Next_6 s (finP [.t 4]) (fun _ _ => none) (finP [.t 4]) = flow_Next_6 (tget s.t 1) (tget s.t 2) s.h :=
  (W_seq (k := (fun s => flow_Next_5 (tget s.t 1) (tget s.t 2) s.h)) (fun s => flow_Next_5_eq s)).trans (by kernel_rfl)

noncomputable def flow_Next_7 (v0 v1 : AV) (h : Heap) : Option (Ex AV) :=
oh (newC 0 (some 0) (cellsOf v0) h) fun v2 h10 =>
(flow_Next_6 v1 v2 h10)

theorem flow_Next_7_eq (s : St) : W E 0 c_flow_Next_7 s (finP [.t 4]) (fun _ _ => none) (finP [.t 4]) = flow_Next_7 (tget s.t 0) (tget s.t 1) s.h :=
  (W_seq (k := (fun s => flow_Next_6 (tget s.t 1) (tget s.t 2) s.h)) (fun s => flow_Next_6_eq s)).trans (by kernel_rfl)

@[simp] theorem pure_81 : E.pure 81 = true := rfl

theorem x_flow_Next (v0 v1 : AV) : (callW E).p 81 [v0, v1] = flow_Next_7 v0 v1 [⟨0, .dead⟩, ⟨0, .dead⟩, ⟨0, .dead⟩, ⟨0, .dead⟩, ⟨0, .dead⟩, ⟨0, .dead⟩] :=
  (callP_W (cf := c_flow_Next) (by kernel_rfl) rfl).trans ((flow_Next_7_eq _).trans (by kernel_rfl))

noncomputable def regletref11_Next_1 (v6 : AV) (h : Heap) : Option (Ex AV) :=
(expo1 h v6)

theorem regletref11_Next_1_eq (s : St) : W E 0 c_regletref11_Next_1 s (finP [.t 4]) (fun _ _ => none) (finP [.t 4]) = regletref11_Next_1 (tget s.t 6) s.h :=
  by kernel_rfl

noncomputable def regletref11_Next_2 (v5 v6 : AV) (h : Heap) : Option (Ex AV) :=
ob (evFa 0 v5) fun v28 =>
ob (evLd false 1 v28 h) fun v29 =>
oh (callAny E (callW E) 0 none true 23 [v29] h) fun v30 h1 =>
gb v30 true (some v6) fun v32 =>
gb v30 true (evFa 6 v5) fun v33 =>
gb v30 true (evLd false 1 v33 h1) fun v34 =>
gh v30 true (callAny E (callW E) 0 none true 96 [v32, v34] h1) h1 fun v35 h2 =>
gb v30 true (evUn .not v35) fun v36 =>
ob (evPick v30 v36 (AV.bool false)) fun v37 =>
cnd v37
 (ob (evFa 6 v5) fun v39 =>
ob (evLd false 1 v39 h2) fun v40 =>
oh (buildSC 0 (some 3) 1 1 [(.int .i64 0)] [(0, v40)] h2) fun v41 h3 =>
oh (evApp 0 (some 4) 1 8 v6 v41 h3) fun v42 h4 =>
(regletref11_Next_1 v42 h4))
 ((regletref11_Next_1 v6 h2))

theorem regletref11_Next_2_eq (s : St) : W E 0 c_regletref11_Next_2 s (finP [.t 4]) (fun _ _ => none) (finP [.t 4]) = regletref11_Next_2 (tget s.t 5) (tget s.t 6) s.h :=
  (W_seq (k := (fun s => regletref11_Next_1 (tget s.t 6) s.h)) (fun s => regletref11_Next_1_eq s)).trans (by kernel_rfl)

noncomputable def regletref11_Next_3 (v1 v5 v6 : AV) (h : Heap) : Option (Ex AV) :=
ob (evFa 0 v5) fun v21 =>
ob (evLd false 1 v21 h) fun v22 =>
oh (callAny E (callW E) 0 none true 25 [v22] h) fun v23 h5 =>
ob (evUn .not v23) fun v24 =>
cnd v24
 (ob (evBin .add v1 (AV.int .i64 1)) fun v26 =>
oh (buildSC 0 (some 2) 1 1 [(.int .i64 0)] [(0, v26)] h5) fun v27 h6 =>
(regletref11_Next_2 v5 v27 h6))
 ((regletref11_Next_2 v5 v6 h5))

theorem regletref11_Next_3_eq (s : St) : W E 0 c_regletref11_Next_3 s (finP [.t 4]) (fun _ _ => none) (finP [.t 4]) = regletref11_Next_3 (tget s.t 1) (tget s.t 5) (tget s.t 6) s.h :=
  (W_seq (k := (fun s => regletref11_Next_2 (tget s.t 5) (tget s.t 6) s.h)) (fun s => regletref11_Next_2_eq s)).trans (by kernel_rfl)

noncomputable def regletref11_Next_4 (v1 v5 : AV) (h : Heap) : Option (Ex AV) :=
(regletref11_Next_3 v1 v5 AV.nils h)

theorem regletref11_Next_4_eq (s : St) : W E 0 c_regletref11_Next_4 s (finP [.t 4]) (fun _ _ => none) (finP [.t 4]) = regletref11_Next_4 (tget s.t 1) (tget s.t 5) s.h :=
  (W_seq (k := (fun s => regletref11_Next_3 (tget s.t 1) (tget s.t 5) (tget s.t 6) s.h)) (fun s => regletref11_Next_3_eq s)).trans (by kernel_rfl)

noncomputable def regletref11_Next_5 (v1 v2 : AV) (h : Heap) : Option (Ex AV) :=
ob (evFa 3 v2) fun v16 =>
ob (evLd false 1 v16 h) fun v17 =>
ob (evIxs 9 v17 v1) fun v19 =>
ob (evLd true 9 v19 h) fun v20 =>
oh (newC 0 (some 1) [(.int .i64 0), (.int .i64 0), (.int .i64 0), (.int .i64 0), (.int .i64 0), (.int .i64 0), (.int .i64 0), (.str []), .nils] h) fun v5 h7 =>
oh (evSt 9 v5 v20 h7) fun _ h8 =>
(regletref11_Next_4 v1 v5 h8)

theorem regletref11_Next_5_eq (s : St) : W E 0 c_regletref11_Next_5 s (finP [.t 4]) (fun _ _ => none) (finP [.t 4]) = regletref11_Next_5 (tget s.t 1) (tget s.t 2) s.h :=
  (W_seq (k := (fun s => regletref11_Next_4 (tget s.t 1) (tget s.t 5) s.h)) (fun s => regletref11_Next_4_eq s)).trans (by kernel_rfl)

noncomputable def regletref11_Next_6 (v1 v2 : AV) (h : Heap) : Option (Ex AV) :=
ob (evBin .lss v1 (AV.int .i64 0)) fun v8 =>
gb v8 false (some v1) fun v10 =>
gb v8 false (evFa 3 v2) fun v11 =>
gb v8 false (evLd false 1 v11 h) fun v12 =>
gb v8 false (evLen 1 v12 h) fun v13 =>
gb v8 false (evBin .geq v10 v13) fun v14 =>
ob (evPick v8 (AV.bool true) v14) fun v15 =>
cnd v15
 ((expo1 h AV.nils))
 ((regletref11_Next_5 v1 v2 h))

theorem regletref11_Next_6_eq (s : St) : W E 0 c_regletref11_Next_6 s (finP [.t 4]) (fun _ _ => none) (finP [.t 4]) = regletref11_Next_6 (tget s.t 1) (tget s.t 2) s.h :=
  (W_seq (k := (fun s => regletref11_Next_5 (tget s.t 1) (tget s.t 2) s.h)) (fun s => regletref11_Next_5_eq s)).trans (by kernel_rfl)

noncomputable def regletref11_Next_7 (v0 v1 : AV) (h : Heap) : Option (Ex AV) :=
oh (newC 0 (some 0) (cellsOf v0) h) fun v2 h9 =>
(regletref11_Next_6 v1 v2 h9)

theorem regletref11_Next_7_eq (s : St) : W E 0 c_regletref11_Next_7 s (finP [.t 4]) (fun _ _ => none) (finP [.t 4]) = regletref11_Next_7 (tget s.t 0) (tget s.t 1) s.h :=
  (W_seq (k := (fun s => regletref11_Next_6 (tget s.t 1) (tget s.t 2) s.h)) (fun s => regletref11_Next_6_eq s)).trans (by kernel_rfl)

@[simp] theorem pure_95 : E.pure 95 = true := rfl

theorem x_regletref11_Next (v0 v1 : AV) : (callW E).p 95 [v0, v1] = regletref11_Next_7 v0 v1 [⟨0, .dead⟩, ⟨0, .dead⟩, ⟨0, .dead⟩, ⟨0, .dead⟩, ⟨0, .dead⟩] :=
  (callP_W (cf := c_regletref11_Next) (by kernel_rfl) rfl).trans ((regletref11_Next_7_eq _).trans (by kernel_rfl))

noncomputable def flow_Caught_1 (v5 : AV) (h : Heap) : Option (Ex AV) :=
(expo1 h v5)

theorem flow_Caught_1_eq (s : St) : W E 0 c_flow_Caught_1 s (finP [.t 4]) (fun _ _ => none) (finP [.t 4]) = flow_Caught_1 (tget s.t 5) s.h :=
  by kernel_rfl

noncomputable def flow_Caught_L2 (v1 v5 v27 v28 v29 : AV) (h : Heap) : Option (Ex AV) :=
  W E 0 c_flow_Caught_L2 ⟨[(1, v1), (5, v5), (27, v27), (28, v28), (29, v29)], h⟩ (fun s => flow_Caught_1 (tget s.t 5) s.h) (exitTo 0 (fun s => flow_Caught_1 (tget s.t 5) s.h) (fun _ _ => none)) (finP [.t 4])

theorem flow_Caught_L2_eq (s : St) : W E 0 c_flow_Caught_L2 s (fun s => flow_Caught_1 (tget s.t 5) s.h) (exitTo 0 (fun s => flow_Caught_1 (tget s.t 5) s.h) (fun _ _ => none)) (finP [.t 4]) = flow_Caught_L2 (tget s.t 1) (tget s.t 5) (tget s.t 27) (tget s.t 28) (tget s.t 29) s.h := W_loop_live.trans (by kernel_rfl)

noncomputable def flow_Caught_3 (v1 v5 v27 v28 v29 : AV) (h : Heap) : Option (Ex AV) :=
ob (evBin .add v29 (AV.int .i64 1)) fun v56 =>
(flow_Caught_L2 v1 v5 v27 v28 v56 h)

theorem flow_Caught_3_eq (s : St) : W E 0 c_flow_Caught_3 s (fun s => flow_Caught_L2 (tget s.t 1) (tget s.t 5) (tget s.t 27) (tget s.t 28) (tget s.t 29) s.h) (exitTo 0 (fun s => flow_Caught_1 (tget s.t 5) s.h) (fun _ _ => none)) (finP [.t 4]) = flow_Caught_3 (tget s.t 1) (tget s.t 5) (tget s.t 27) (tget s.t 28) (tget s.t 29) s.h :=
  by kernel_rfl

noncomputable def flow_Caught_4 (v1 v5 v7 v27 v28 v29 : AV) (h : Heap) : Option (Ex AV) :=
ob (evFa 3 v7) fun v53 =>
ob (evLd false 1 v53 h) fun v54 =>
ob (evBin .eql v54 (AV.str [])) fun v55 =>
cnd v55
 ((flow_Caught_1 v5 h))
 ((flow_Caught_3 v1 v5 v27 v28 v29 h))

theorem flow_Caught_4_eq (s : St) : W E 0 c_flow_Caught_4 s (fun s => flow_Caught_3 (tget s.t 1) (tget s.t 5) (tget s.t 27) (tget s.t 28) (tget s.t 29) s.h) (exitTo 1 (fun s => flow_Caught_3 (tget s.t 1) (tget s.t 5) (tget s.t 27) (tget s.t 28) (tget s.t 29) s.h) (exitTo 0 (fun s => flow_Caught_1 (tget s.t 5) s.h) (fun _ _ => none))) (finP [.t 4]) = flow_Caught_4 (tget s.t 1) (tget s.t 5) (tget s.t 7) (tget s.t 27) (tget s.t 28) (tget s.t 29) s.h :=
  by kernel_rfl

noncomputable def flow_Caught_5 (v1 v5 v7 v27 v28 v29 : AV) (h : Heap) : Option (Ex AV) :=
ob (evFa 2 v7) fun v44 =>
ob (evLd false 1 v44 h) fun v45 =>
oh (callAny E (callW E) 0 none true 46 [v5, v45] h) fun v46 h1 =>
ob (evUn .not v46) fun v47 =>
cnd v47
 (ob (evFa 2 v7) fun v49 =>
ob (evLd false 1 v49 h1) fun v50 =>
oh (buildSC 0 (some 2) 1 1 [(.int .i64 0)] [(0, v50)] h1) fun v51 h2 =>
oh (evApp 0 (some 3) 1 8 v5 v51 h2) fun v52 h3 =>
(flow_Caught_4 v1 v52 v7 v27 v28 v29 h3))
 ((flow_Caught_4 v1 v5 v7 v27 v28 v29 h1))

theorem flow_Caught_5_eq (s : St) : W E 0 c_flow_Caught_5 s (fun s => flow_Caught_3 (tget s.t 1) (tget s.t 5) (tget s.t 27) (tget s.t 28) (tget s.t 29) s.h) (exitTo 1 (fun s => flow_Caught_3 (tget s.t 1) (tget s.t 5) (tget s.t 27) (tget s.t 28) (tget s.t 29) s.h) (exitTo 0 (fun s => flow_Caught_1 (tget s.t 5) s.h) (fun _ _ => none))) (finP [.t 4]) = flow_Caught_5 (tget s.t 1) (tget s.t 5) (tget s.t 7) (tget s.t 27) (tget s.t 28) (tget s.t 29) s.h :=
  (W_seq (k := (fun s => flow_Caught_4 (tget s.t 1) (tget s.t 5) (tget s.t 7) (tget s.t 27) (tget s.t 28) (tget s.t 29) s.h)) (fun s => flow_Caught_4_eq s)).trans (by kernel_rfl)

noncomputable def flow_Caught_6 (v1 v5 v7 v27 v28 v29 : AV) (h : Heap) : Option (Ex AV) :=
ob (evFa 0 v7) fun v34 =>
ob (evLd false 1 v34 h) fun v35 =>
ob (evBin .lss v1 v35) fun v36 =>
gb v36 false (some v1) fun v38 =>
gb v36 false (evFa 1 v7) fun v39 =>
gb v36 false (evLd false 1 v39 h) fun v40 =>
gb v36 false (evBin .geq v38 v40) fun v41 =>
ob (evPick v36 (AV.bool true) v41) fun v42 =>
cnd v42
 ((flow_Caught_3 v1 v5 v27 v28 v29 h))
 ((flow_Caught_5 v1 v5 v7 v27 v28 v29 h))

theorem flow_Caught_6_eq (s : St) : W E 0 c_flow_Caught_6 s (fun s => flow_Caught_3 (tget s.t 1) (tget s.t 5) (tget s.t 27) (tget s.t 28) (tget s.t 29) s.h) (exitTo 1 (fun s => flow_Caught_3 (tget s.t 1) (tget s.t 5) (tget s.t 27) (tget s.t 28) (tget s.t 29) s.h) (exitTo 0 (fun s => flow_Caught_1 (tget s.t 5) s.h) (fun _ _ => none))) (finP [.t 4]) = flow_Caught_6 (tget s.t 1) (tget s.t 5) (tget s.t 7) (tget s.t 27) (tget s.t 28) (tget s.t 29) s.h :=
  (W_seq (k := (fun s => flow_Caught_5 (tget s.t 1) (tget s.t 5) (tget s.t 7) (tget s.t 27) (tget s.t 28) (tget s.t 29) s.h)) (fun s => flow_Caught_5_eq s)).trans (by kernel_rfl)

noncomputable def flow_Caught_7 (v1 v5 v27 v28 v29 : AV) (h : Heap) : Option (Ex AV) :=
ob (evIxs 4 v27 v29) fun v31 =>
ob (evLd true 4 v31 h) fun v32 =>
oh (newC 0 (some 1) [(.int .i64 0), (.int .i64 0), (.int .i64 0), (.str [])] h) fun v7 h4 =>
oh (evSt 4 v7 v32 h4) fun _ h5 =>
(flow_Caught_6 v1 v5 v7 v27 v28 v29 h5)

theorem flow_Caught_7_eq (s : St) : W E 0 c_flow_Caught_7 s (fun s => flow_Caught_3 (tget s.t 1) (tget s.t 5) (tget s.t 27) (tget s.t 28) (tget s.t 29) s.h) (exitTo 1 (fun s => flow_Caught_3 (tget s.t 1) (tget s.t 5) (tget s.t 27) (tget s.t 28) (tget s.t 29) s.h) (exitTo 0 (fun s => flow_Caught_1 (tget s.t 5) s.h) (fun _ _ => none))) (finP [.t 4]) = flow_Caught_7 (tget s.t 1) (tget s.t 5) (tget s.t 27) (tget s.t 28) (tget s.t 29) s.h :=
  (W_seq (k := (fun s => flow_Caught_6 (tget s.t 1) (tget s.t 5) (tget s.t 7) (tget s.t 27) (tget s.t 28) (tget s.t 29) s.h)) (fun s => flow_Caught_6_eq s)).trans (by kernel_rfl)

theorem flow_Caught_8_eq (s : St) : W E 0 c_flow_Caught_8 s (fun s => flow_Caught_3 (tget s.t 1) (tget s.t 5) (tget s.t 27) (tget s.t 28) (tget s.t 29) s.h) (exitTo 0 (fun s => flow_Caught_1 (tget s.t 5) s.h) (fun _ _ => none)) (finP [.t 4]) = flow_Caught_7 (tget s.t 1) (tget s.t 5) (tget s.t 27) (tget s.t 28) (tget s.t 29) s.h :=
  W_block.trans (flow_Caught_7_eq s)

theorem flow_Caught_9_eq (s : St) : W E 0 c_flow_Caught_9 s (fun s => flow_Caught_L2 (tget s.t 1) (tget s.t 5) (tget s.t 27) (tget s.t 28) (tget s.t 29) s.h) (exitTo 0 (fun s => flow_Caught_1 (tget s.t 5) s.h) (fun _ _ => none)) (finP [.t 4]) = flow_Caught_7 (tget s.t 1) (tget s.t 5) (tget s.t 27) (tget s.t 28) (tget s.t 29) s.h :=
  (W_seq (k := (fun s => flow_Caught_3 (tget s.t 1) (tget s.t 5) (tget s.t 27) (tget s.t 28) (tget s.t 29) s.h)) (fun s => flow_Caught_3_eq s)).trans (flow_Caught_8_eq s)

noncomputable def flow_Caught_10 (v1 v5 v27 v28 v29 v30 : AV) (h : Heap) : Option (Ex AV) :=
cnd v30
 ((flow_Caught_7 v1 v5 v27 v28 v29 h))
 ((flow_Caught_1 v5 h))

theorem flow_Caught_10_eq (s : St) : W E 0 c_flow_Caught_10 s (fun s => flow_Caught_L2 (tget s.t 1) (tget s.t 5) (tget s.t 27) (tget s.t 28) (tget s.t 29) s.h) (exitTo 0 (fun s => flow_Caught_1 (tget s.t 5) s.h) (fun _ _ => none)) (finP [.t 4]) = flow_Caught_10 (tget s.t 1) (tget s.t 5) (tget s.t 27) (tget s.t 28) (tget s.t 29) (tget s.t 30) s.h :=
  (W_seq (k := (fun s => flow_Caught_7 (tget s.t 1) (tget s.t 5) (tget s.t 27) (tget s.t 28) (tget s.t 29) s.h)) (fun s => flow_Caught_9_eq s)).trans (by kernel_rfl)

noncomputable def flow_Caught_11 (v1 v5 v27 v28 v29 : AV) (h : Heap) : Option (Ex AV) :=
ob (evBin .lss v29 v28) fun v30 =>
(flow_Caught_10 v1 v5 v27 v28 v29 v30 h)

theorem flow_Caught_11_eq (s : St) : W E 0 c_flow_Caught_11 s (fun s => flow_Caught_L2 (tget s.t 1) (tget s.t 5) (tget s.t 27) (tget s.t 28) (tget s.t 29) s.h) (exitTo 0 (fun s => flow_Caught_1 (tget s.t 5) s.h) (fun _ _ => none)) (finP [.t 4]) = flow_Caught_11 (tget s.t 1) (tget s.t 5) (tget s.t 27) (tget s.t 28) (tget s.t 29) s.h :=
  (W_seq (k := (fun s => flow_Caught_10 (tget s.t 1) (tget s.t 5) (tget s.t 27) (tget s.t 28) (tget s.t 29) (tget s.t 30) s.h)) (fun s => flow_Caught_10_eq s)).trans (by kernel_rfl)

theorem flow_Caught_L2_go (v1 v5 v27 v28 v29 : AV) (h : Heap) : flow_Caught_L2 v1 v5 v27 v28 v29 h = (flow_Caught_11 v1 v5 v27 v28 v29 h) :=
  W_loop.trans ((W_congr _ _ _ (n' := (fun s => flow_Caught_L2 (tget s.t 1) (tget s.t 5) (tget s.t 27) (tget s.t 28) (tget s.t 29) s.h)) (fun s => flow_Caught_L2_eq s)).trans ((flow_Caught_11_eq _).trans (by kernel_rfl)))

theorem flow_Caught_12_eq (s : St) : W E 0 c_flow_Caught_12 s (fun s => flow_Caught_1 (tget s.t 5) s.h) (fun _ _ => none) (finP [.t 4]) = flow_Caught_L2 (tget s.t 1) (tget s.t 5) (tget s.t 27) (tget s.t 28) (tget s.t 29) s.h :=
  W_block.trans (flow_Caught_L2_eq s)

noncomputable def flow_Caught_13 (v1 v2 v5 : AV) (h : Heap) : Option (Ex AV) :=
ob (evFa 4 v2) fun v26 =>
ob (evLd false 1 v26 h) fun v27 =>
ob (evLen 1 v27 h) fun v28 =>
(flow_Caught_L2 v1 v5 v27 v28 (AV.int .i64 0) h)

theorem flow_Caught_13_eq (s : St) : W E 0 c_flow_Caught_13 s (fun s => flow_Caught_1 (tget s.t 5) s.h) (fun _ _ => none) (finP [.t 4]) = flow_Caught_13 (tget s.t 1) (tget s.t 2) (tget s.t 5) s.h :=
  (W_seq (k := (fun s => flow_Caught_L2 (tget s.t 1) (tget s.t 5) (tget s.t 27) (tget s.t 28) (tget s.t 29) s.h)) (fun s => flow_Caught_12_eq s)).trans (by kernel_rfl)

theorem flow_Caught_14_eq (s : St) : W E 0 c_flow_Caught_14 s (finP [.t 4]) (fun _ _ => none) (finP [.t 4]) = flow_Caught_13 (tget s.t 1) (tget s.t 2) (tget s.t 5) s.h :=
  (W_seq (k := (fun s => flow_Caught_1 (tget s.t 5) s.h)) (fun s => flow_Caught_1_eq s)).trans (flow_Caught_13_eq s)

noncomputable def flow_Caught_15 (v1 v2 : AV) (h : Heap) : Option (Ex AV) :=
(flow_Caught_13 v1 v2 AV.nils h)

theorem flow_Caught_15_eq (s : St) : W E 0 c_flow_Caught_15 s (finP [.t 4]) (fun _ _ => none) (finP [.t 4]) = flow_Caught_15 (tget s.t 1) (tget s.t 2) s.h :=
  (W_seq (k := (fun s => flow_Caught_13 (tget s.t 1) (tget s.t 2) (tget s.t 5) s.h)) (fun s => flow_Caught_14_eq s)).trans (by kernel_rfl)

noncomputable def flow_Caught_16 (v1 v2 : AV) (h : Heap) : Option (Ex AV) :=
ob (evBin .lss v1 (AV.int .i64 0)) fun v9 =>
gb v9 false (some v1) fun v11 =>
gb v9 false (evFa 3 v2) fun v12 =>
gb v9 false (evLd false 1 v12 h) fun v13 =>
gb v9 false (evLen 1 v13 h) fun v14 =>
gb v9 false (evBin .geq v11 v14) fun v15 =>
ob (evPick v9 (AV.bool true) v15) fun v16 =>
gb v16 false (evFa 3 v2) fun v18 =>
gb v16 false (evLd false 1 v18 h) fun v19 =>
gb v16 false (some v1) fun v20 =>
gb v16 false (evIxs 9 v19 v20) fun v21 =>
gb v16 false (evLd true 9 v21 h) fun v22 =>
gh v16 false (callAny E (callW E) 0 none true 18 [v22] h) h fun v23 h6 =>
gb v16 false (evUn .not v23) fun v24 =>
ob (evPick v16 (AV.bool true) v24) fun v25 =>
cnd v25
 ((expo1 h6 AV.nils))
 ((flow_Caught_15 v1 v2 h6))

theorem flow_Caught_16_eq (s : St) : W E 0 c_flow_Caught_16 s (finP [.t 4]) (fun _ _ => none) (finP [.t 4]) = flow_Caught_16 (tget s.t 1) (tget s.t 2) s.h :=
  (W_seq (k := (fun s => flow_Caught_15 (tget s.t 1) (tget s.t 2) s.h)) (fun s => flow_Caught_15_eq s)).trans (by kernel_rfl)

noncomputable def flow_Caught_17 (v0 v1 : AV) (h : Heap) : Option (Ex AV) :=
oh (newC 0 (some 0) (cellsOf v0) h) fun v2 h7 =>
(flow_Caught_16 v1 v2 h7)

theorem flow_Caught_17_eq (s : St) : W E 0 c_flow_Caught_17 s (finP [.t 4]) (fun _ _ => none) (finP [.t 4]) = flow_Caught_17 (tget s.t 0) (tget s.t 1) s.h :=
  (W_seq (k := (fun s => flow_Caught_16 (tget s.t 1) (tget s.t 2) s.h)) (fun s => flow_Caught_16_eq s)).trans (by kernel_rfl)

@[simp] theorem pure_79 : E.pure 79 = true := rfl

theorem x_flow_Caught (v0 v1 : AV) : (callW E).p 79 [v0, v1] = flow_Caught_17 v0 v1 [⟨0, .dead⟩, ⟨0, .dead⟩, ⟨0, .dead⟩, ⟨0, .dead⟩] :=
  (callP_W (cf := c_flow_Caught) (by kernel_rfl) rfl).trans ((flow_Caught_17_eq _).trans (by kernel_rfl))

noncomputable def regletref11_Caught_1 (v5 : AV) (h : Heap) : Option (Ex AV) :=
(expo1 h v5)

theorem regletref11_Caught_1_eq (s : St) : W E 0 c_regletref11_Caught_1 s (finP [.t 4]) (fun _ _ => none) (finP [.t 4]) = regletref11_Caught_1 (tget s.t 5) s.h :=
  by kernel_rfl

noncomputable def regletref11_Caught_L2 (v1 v2 v5 v6 : AV) (h : Heap) : Option (Ex AV) :=
  W E 0 c_regletref11_Caught_L2 ⟨[(1, v1), (2, v2), (5, v5), (6, v6)], h⟩ (fun s => regletref11_Caught_1 (tget s.t 5) s.h) (exitTo 0 (fun s => regletref11_Caught_1 (tget s.t 5) s.h) (fun _ _ => none)) (finP [.t 4])

theorem regletref11_Caught_L2_eq (s : St) : W E 0 c_regletref11_Caught_L2 s (fun s => regletref11_Caught_1 (tget s.t 5) s.h) (exitTo 0 (fun s => regletref11_Caught_1 (tget s.t 5) s.h) (fun _ _ => none)) (finP [.t 4]) = regletref11_Caught_L2 (tget s.t 1) (tget s.t 2) (tget s.t 5) (tget s.t 6) s.h := W_loop_live.trans (by kernel_rfl)

noncomputable def regletref11_Caught_3 (v1 v2 v5 v6 : AV) (h : Heap) : Option (Ex AV) :=
ob (evBin .add v6 (AV.int .i64 1)) fun v33 =>
(regletref11_Caught_L2 v1 v2 v5 v33 h)

theorem regletref11_Caught_3_eq (s : St) : W E 0 c_regletref11_Caught_3 s (fun s => regletref11_Caught_L2 (tget s.t 1) (tget s.t 2) (tget s.t 5) (tget s.t 6) s.h) (exitTo 0 (fun s => regletref11_Caught_1 (tget s.t 5) s.h) (fun _ _ => none)) (finP [.t 4]) = regletref11_Caught_3 (tget s.t 1) (tget s.t 2) (tget s.t 5) (tget s.t 6) s.h :=
  by kernel_rfl

noncomputable def regletref11_Caught_4 (v1 v2 v5 v6 v7 : AV) (h : Heap) : Option (Ex AV) :=
ob (evFa 3 v7) fun v59 =>
ob (evLd false 1 v59 h) fun v60 =>
ob (evBin .eql v60 (AV.str [])) fun v61 =>
cnd v61
 ((expo1 h v5))
 ((regletref11_Caught_3 v1 v2 v5 v6 h))

theorem regletref11_Caught_4_eq (s : St) : W E 0 c_regletref11_Caught_4 s (fun s => regletref11_Caught_3 (tget s.t 1) (tget s.t 2) (tget s.t 5) (tget s.t 6) s.h) (exitTo 1 (fun s => regletref11_Caught_3 (tget s.t 1) (tget s.t 2) (tget s.t 5) (tget s.t 6) s.h) (exitTo 0 (fun s => regletref11_Caught_1 (tget s.t 5) s.h) (fun _ _ => none))) (finP [.t 4]) = regletref11_Caught_4 (tget s.t 1) (tget s.t 2) (tget s.t 5) (tget s.t 6) (tget s.t 7) s.h :=
  by kernel_rfl

noncomputable def regletref11_Caught_5 (v1 v2 v5 v6 v7 : AV) (h : Heap) : Option (Ex AV) :=
ob (evFa 2 v7) fun v50 =>
ob (evLd false 1 v50 h) fun v51 =>
oh (callAny E (callW E) 0 none true 96 [v5, v51] h) fun v52 h1 =>
ob (evUn .not v52) fun v53 =>
cnd v53
 (ob (evFa 2 v7) fun v55 =>
ob (evLd false 1 v55 h1) fun v56 =>
oh (buildSC 0 (some 2) 1 1 [(.int .i64 0)] [(0, v56)] h1) fun v57 h2 =>
oh (evApp 0 (some 3) 1 8 v5 v57 h2) fun v58 h3 =>
(regletref11_Caught_4 v1 v2 v58 v6 v7 h3))
 ((regletref11_Caught_4 v1 v2 v5 v6 v7 h1))

theorem regletref11_Caught_5_eq (s : St) : W E 0 c_regletref11_Caught_5 s (fun s => regletref11_Caught_3 (tget s.t 1) (tget s.t 2) (tget s.t 5) (tget s.t 6) s.h) (exitTo 1 (fun s => regletref11_Caught_3 (tget s.t 1) (tget s.t 2) (tget s.t 5) (tget s.t 6) s.h) (exitTo 0 (fun s => regletref11_Caught_1 (tget s.t 5) s.h) (fun _ _ => none))) (finP [.t 4]) = regletref11_Caught_5 (tget s.t 1) (tget s.t 2) (tget s.t 5) (tget s.t 6) (tget s.t 7) s.h :=
  (W_seq (k := (fun s => regletref11_Caught_4 (tget s.t 1) (tget s.t 2) (tget s.t 5) (tget s.t 6) (tget s.t 7) s.h)) (fun s => regletref11_Caught_4_eq s)).trans (by kernel_rfl)

noncomputable def regletref11_Caught_6 (v1 v2 v5 v6 v7 v48 : AV) (h : Heap) : Option (Ex AV) :=
cnd v48
 ((regletref11_Caught_5 v1 v2 v5 v6 v7 h))
 ((regletref11_Caught_3 v1 v2 v5 v6 h))

theorem regletref11_Caught_6_eq (s : St) : W E 0 c_regletref11_Caught_6 s (fun s => regletref11_Caught_3 (tget s.t 1) (tget s.t 2) (tget s.t 5) (tget s.t 6) s.h) (exitTo 1 (fun s => regletref11_Caught_3 (tget s.t 1) (tget s.t 2) (tget s.t 5) (tget s.t 6) s.h) (exitTo 0 (fun s => regletref11_Caught_1 (tget s.t 5) s.h) (fun _ _ => none))) (finP [.t 4]) = regletref11_Caught_6 (tget s.t 1) (tget s.t 2) (tget s.t 5) (tget s.t 6) (tget s.t 7) (tget s.t 48) s.h :=
  (W_cond (regletref11_Caught_5_eq s) rfl).trans (by kernel_rfl)

noncomputable def regletref11_Caught_7 (v1 v2 v5 v6 v7 : AV) (h : Heap) : Option (Ex AV) :=
ob (evFa 0 v7) fun v39 =>
ob (evLd false 1 v39 h) fun v40 =>
ob (evBin .leq v40 v1) fun v42 =>
gb v42 true (some v1) fun v44 =>
gb v42 true (evFa 1 v7) fun v45 =>
gb v42 true (evLd false 1 v45 h) fun v46 =>
gb v42 true (evBin .lss v44 v46) fun v47 =>
ob (evPick v42 v47 (AV.bool false)) fun v48 =>
(regletref11_Caught_6 v1 v2 v5 v6 v7 v48 h)

theorem regletref11_Caught_7_eq (s : St) : W E 0 c_regletref11_Caught_7 s (fun s => regletref11_Caught_3 (tget s.t 1) (tget s.t 2) (tget s.t 5) (tget s.t 6) s.h) (exitTo 1 (fun s => regletref11_Caught_3 (tget s.t 1) (tget s.t 2) (tget s.t 5) (tget s.t 6) s.h) (exitTo 0 (fun s => regletref11_Caught_1 (tget s.t 5) s.h) (fun _ _ => none))) (finP [.t 4]) = regletref11_Caught_7 (tget s.t 1) (tget s.t 2) (tget s.t 5) (tget s.t 6) (tget s.t 7) s.h :=
  (W_seq (k := (fun s => regletref11_Caught_6 (tget s.t 1) (tget s.t 2) (tget s.t 5) (tget s.t 6) (tget s.t 7) (tget s.t 48) s.h)) (fun s => regletref11_Caught_6_eq s)).trans (by kernel_rfl)

noncomputable def regletref11_Caught_8 (v1 v2 v5 v6 : AV) (h : Heap) : Option (Ex AV) :=
ob (evFa 4 v2) fun v34 =>
ob (evLd false 1 v34 h) fun v35 =>
ob (evIxs 4 v35 v6) fun v37 =>
ob (evLd true 4 v37 h) fun v38 =>
oh (newC 0 (some 1) [(.int .i64 0), (.int .i64 0), (.int .i64 0), (.str [])] h) fun v7 h4 =>
oh (evSt 4 v7 v38 h4) fun _ h5 =>
(regletref11_Caught_7 v1 v2 v5 v6 v7 h5)

theorem regletref11_Caught_8_eq (s : St) : W E 0 c_regletref11_Caught_8 s (fun s => regletref11_Caught_3 (tget s.t 1) (tget s.t 2) (tget s.t 5) (tget s.t 6) s.h) (exitTo 1 (fun s => regletref11_Caught_3 (tget s.t 1) (tget s.t 2) (tget s.t 5) (tget s.t 6) s.h) (exitTo 0 (fun s => regletref11_Caught_1 (tget s.t 5) s.h) (fun _ _ => none))) (finP [.t 4]) = regletref11_Caught_8 (tget s.t 1) (tget s.t 2) (tget s.t 5) (tget s.t 6) s.h :=
  (W_seq (k := (fun s => regletref11_Caught_7 (tget s.t 1) (tget s.t 2) (tget s.t 5) (tget s.t 6) (tget s.t 7) s.h)) (fun s => regletref11_Caught_7_eq s)).trans (by kernel_rfl)

theorem regletref11_Caught_9_eq (s : St) : W E 0 c_regletref11_Caught_9 s (fun s => regletref11_Caught_3 (tget s.t 1) (tget s.t 2) (tget s.t 5) (tget s.t 6) s.h) (exitTo 0 (fun s => regletref11_Caught_1 (tget s.t 5) s.h) (fun _ _ => none)) (finP [.t 4]) = regletref11_Caught_8 (tget s.t 1) (tget s.t 2) (tget s.t 5) (tget s.t 6) s.h :=
  W_block.trans (regletref11_Caught_8_eq s)

theorem regletref11_Caught_10_eq (s : St) : W E 0 c_regletref11_Caught_10 s (fun s => regletref11_Caught_L2 (tget s.t 1) (tget s.t 2) (tget s.t 5) (tget s.t 6) s.h) (exitTo 0 (fun s => regletref11_Caught_1 (tget s.t 5) s.h) (fun _ _ => none)) (finP [.t 4]) = regletref11_Caught_8 (tget s.t 1) (tget s.t 2) (tget s.t 5) (tget s.t 6) s.h :=
  (W_seq (k := (fun s => regletref11_Caught_3 (tget s.t 1) (tget s.t 2) (tget s.t 5) (tget s.t 6) s.h)) (fun s => regletref11_Caught_3_eq s)).trans (regletref11_Caught_9_eq s)

noncomputable def regletref11_Caught_11 (v1 v2 v5 v6 : AV) (h : Heap) : Option (Ex AV) :=
ob (evFa 4 v2) fun v28 =>
ob (evLd false 1 v28 h) fun v29 =>
ob (evLen 1 v29 h) fun v30 =>
ob (evBin .lss v6 v30) fun v31 =>
cnd v31
 ((regletref11_Caught_8 v1 v2 v5 v6 h))
 ((regletref11_Caught_1 v5 h))

theorem regletref11_Caught_11_eq (s : St) : W E 0 c_regletref11_Caught_11 s (fun s => regletref11_Caught_L2 (tget s.t 1) (tget s.t 2) (tget s.t 5) (tget s.t 6) s.h) (exitTo 0 (fun s => regletref11_Caught_1 (tget s.t 5) s.h) (fun _ _ => none)) (finP [.t 4]) = regletref11_Caught_11 (tget s.t 1) (tget s.t 2) (tget s.t 5) (tget s.t 6) s.h :=
  (W_seq (k := (fun s => regletref11_Caught_8 (tget s.t 1) (tget s.t 2) (tget s.t 5) (tget s.t 6) s.h)) (fun s => regletref11_Caught_10_eq s)).trans (by kernel_rfl)

theorem regletref11_Caught_L2_go (v1 v2 v5 v6 : AV) (h : Heap) : regletref11_Caught_L2 v1 v2 v5 v6 h = (regletref11_Caught_11 v1 v2 v5 v6 h) :=
  W_loop.trans ((W_congr _ _ _ (n' := (fun s => regletref11_Caught_L2 (tget s.t 1) (tget s.t 2) (tget s.t 5) (tget s.t 6) s.h)) (fun s => regletref11_Caught_L2_eq s)).trans ((regletref11_Caught_11_eq _).trans (by kernel_rfl)))

theorem regletref11_Caught_12_eq (s : St) : W E 0 c_regletref11_Caught_12 s (fun s => regletref11_Caught_1 (tget s.t 5) s.h) (fun _ _ => none) (finP [.t 4]) = regletref11_Caught_L2 (tget s.t 1) (tget s.t 2) (tget s.t 5) (tget s.t 6) s.h :=
  W_block.trans (regletref11_Caught_L2_eq s)

noncomputable def regletref11_Caught_13 (v1 v2 v5 : AV) (h : Heap) : Option (Ex AV) :=
(regletref11_Caught_L2 v1 v2 v5 (AV.int .i64 0) h)

theorem regletref11_Caught_13_eq (s : St) : W E 0 c_regletref11_Caught_13 s (fun s => regletref11_Caught_1 (tget s.t 5) s.h) (fun _ _ => none) (finP [.t 4]) = regletref11_Caught_13 (tget s.t 1) (tget s.t 2) (tget s.t 5) s.h :=
  (W_seq (k := (fun s => regletref11_Caught_L2 (tget s.t 1) (tget s.t 2) (tget s.t 5) (tget s.t 6) s.h)) (fun s => regletref11_Caught_12_eq s)).trans (by kernel_rfl)

theorem regletref11_Caught_14_eq (s : St) : W E 0 c_regletref11_Caught_14 s (finP [.t 4]) (fun _ _ => none) (finP [.t 4]) = regletref11_Caught_13 (tget s.t 1) (tget s.t 2) (tget s.t 5) s.h :=
  (W_seq (k := (fun s => regletref11_Caught_1 (tget s.t 5) s.h)) (fun s => regletref11_Caught_1_eq s)).trans (regletref11_Caught_13_eq s)

noncomputable def regletref11_Caught_15 (v1 v2 v5 : AV) (h : Heap) : Option (Ex AV) :=
ob (evBin .lss v1 (AV.int .i64 0)) fun v9 =>
gb v9 false (some v1) fun v11 =>
gb v9 false (evFa 3 v2) fun v12 =>
gb v9 false (evLd false 1 v12 h) fun v13 =>
gb v9 false (evLen 1 v13 h) fun v14 =>
gb v9 false (evBin .geq v11 v14) fun v15 =>
ob (evPick v9 (AV.bool true) v15) fun v16 =>
gb v16 false (evFa 3 v2) fun v18 =>
gb v16 false (evLd false 1 v18 h) fun v19 =>
gb v16 false (some v1) fun v20 =>
gb v16 false (evIxs 9 v19 v20) fun v21 =>
gb v16 false (evFa 0 v21) fun v22 =>
gb v16 false (evLd false 1 v22 h) fun v23 =>
gh v16 false (callAny E (callW E) 0 none true 19 [v23] h) h fun v24 h6 =>
gb v16 false (evUn .not v24) fun v25 =>
ob (evPick v16 (AV.bool true) v25) fun v26 =>
cnd v26
 ((expo1 h6 AV.nils))
 ((regletref11_Caught_13 v1 v2 v5 h6))

theorem regletref11_Caught_15_eq (s : St) : W E 0 c_regletref11_Caught_15 s (finP [.t 4]) (fun _ _ => none) (finP [.t 4]) = regletref11_Caught_15 (tget s.t 1) (tget s.t 2) (tget s.t 5) s.h :=
  (W_seq (k := (fun s => regletref11_Caught_13 (tget s.t 1) (tget s.t 2) (tget s.t 5) s.h)) (fun s => regletref11_Caught_14_eq s)).trans (by kernel_rfl)

noncomputable def regletref11_Caught_16 (v1 v2 : AV) (h : Heap) : Option (Ex AV) :=
(regletref11_Caught_15 v1 v2 AV.nils h)

theorem regletref11_Caught_16_eq (s : St) : W E 0 c_regletref11_Caught_16 s (finP [.t 4]) (fun _ _ => none) (finP [.t 4]) = regletref11_Caught_16 (tget s.t 1) (tget s.t 2) s.h :=
  (W_seq (k := (fun s => regletref11_Caught_15 (tget s.t 1) (tget s.t 2) (tget s.t 5) s.h)) (fun s => regletref11_Caught_15_eq s)).trans (by kernel_rfl)

noncomputable def regletref11_Caught_17 (v0 v1 : AV) (h : Heap) : Option (Ex AV) :=
oh (newC 0 (some 0) (cellsOf v0) h) fun v2 h7 =>
(regletref11_Caught_16 v1 v2 h7)

theorem regletref11_Caught_17_eq (s : St) : W E 0 c_regletref11_Caught_17 s (finP [.t 4]) (fun _ _ => none) (finP [.t 4]) = regletref11_Caught_17 (tget s.t 0) (tget s.t 1) s.h :=
  (W_seq (k := (fun s => regletref11_Caught_16 (tget s.t 1) (tget s.t 2) s.h)) (fun s => regletref11_Caught_16_eq s)).trans (by kernel_rfl)

@[simp] theorem pure_92 : E.pure 92 = true := rfl

theorem x_regletref11_Caught (v0 v1 : AV) : (callW E).p 92 [v0, v1] = regletref11_Caught_17 v0 v1 [⟨0, .dead⟩, ⟨0, .dead⟩, ⟨0, .dead⟩, ⟨0, .dead⟩] :=
  (callP_W (cf := c_regletref11_Caught) (by kernel_rfl) rfl).trans ((regletref11_Caught_17_eq _).trans (by kernel_rfl))

noncomputable def flow_Reach_1 (v3 : AV) (h : Heap) : Option (Ex AV) :=
(expo1 h v3)

theorem flow_Reach_1_eq (s : St) : W E 0 c_flow_Reach_1 s (finP [.t 2]) (fun _ _ => none) (finP [.t 2]) = flow_Reach_1 (tget s.t 3) s.h :=
  by kernel_rfl

noncomputable def flow_Reach_L2 (v1 v3 v4 : AV) (h : Heap) : Option (Ex AV) :=
  W E 0 c_flow_Reach_L2 ⟨[(1, v1), (3, v3), (4, v4)], h⟩ (fun s => flow_Reach_1 (tget s.t 3) s.h) (exitTo 0 (fun s => flow_Reach_1 (tget s.t 3) s.h) (fun _ _ => none)) (finP [.t 2])

theorem flow_Reach_L2_eq (s : St) : W E 0 c_flow_Reach_L2 s (fun s => flow_Reach_1 (tget s.t 3) s.h) (exitTo 0 (fun s => flow_Reach_1 (tget s.t 3) s.h) (fun _ _ => none)) (finP [.t 2]) = flow_Reach_L2 (tget s.t 1) (tget s.t 3) (tget s.t 4) s.h := W_loop_live.trans (by kernel_rfl)

noncomputable def flow_Reach_3 (v1 v3 v4 v5 : AV) (h : Heap) : Option (Ex AV) :=
ob (evIxs 1 v3 v5) fun v41 =>
oh (evSt 1 v41 (AV.bool true) h) fun _ h1 =>
ob (evLd true 5 v1 h1) fun v43 =>
oh (callAny E (callW E) 0 none true 81 [v43, v5] h1) fun v45 h2 =>
oh (evApp 0 (some 3) 1 8 v4 v45 h2) fun v46 h3 =>
ob (evLd true 5 v1 h3) fun v48 =>
oh (callAny E (callW E) 0 none true 79 [v48, v5] h3) fun v50 h4 =>
oh (evApp 0 (some 4) 1 8 v46 v50 h4) fun v51 h5 =>
(flow_Reach_L2 v1 v3 v51 h5)

theorem flow_Reach_3_eq (s : St) : W E 0 c_flow_Reach_3 s (fun s => flow_Reach_L2 (tget s.t 1) (tget s.t 3) (tget s.t 4) s.h) (exitTo 1 (fun s => flow_Reach_L2 (tget s.t 1) (tget s.t 3) (tget s.t 4) s.h) (exitTo 0 (fun s => flow_Reach_1 (tget s.t 3) s.h) (fun _ _ => none))) (finP [.t 2]) = flow_Reach_3 (tget s.t 1) (tget s.t 3) (tget s.t 4) (tget s.t 5) s.h :=
  by kernel_rfl

noncomputable def flow_Reach_4 (v1 v3 v4 v5 : AV) (h : Heap) : Option (Ex AV) :=
ob (evBin .lss v5 (AV.int .i64 0)) fun v26 =>
gb v26 false (some v5) fun v28 =>
gb v26 false (some v3) fun v29 =>
gb v26 false (evLen 1 v29 h) fun v30 =>
gb v26 false (evBin .geq v28 v30) fun v31 =>
ob (evPick v26 (AV.bool true) v31) fun v32 =>
gb v32 false (some v3) fun v34 =>
gb v32 false (some v5) fun v35 =>
gb v32 false (evIxs 1 v34 v35) fun v36 =>
gb v32 false (evLd false 1 v36 h) fun v37 =>
ob (evPick v32 (AV.bool true) v37) fun v38 =>
cnd v38
 ((flow_Reach_L2 v1 v3 v4 h))
 ((flow_Reach_3 v1 v3 v4 v5 h))

theorem flow_Reach_4_eq (s : St) : W E 0 c_flow_Reach_4 s (fun s => flow_Reach_L2 (tget s.t 1) (tget s.t 3) (tget s.t 4) s.h) (exitTo 1 (fun s => flow_Reach_L2 (tget s.t 1) (tget s.t 3) (tget s.t 4) s.h) (exitTo 0 (fun s => flow_Reach_1 (tget s.t 3) s.h) (fun _ _ => none))) (finP [.t 2]) = flow_Reach_4 (tget s.t 1) (tget s.t 3) (tget s.t 4) (tget s.t 5) s.h :=
  (W_seq (k := (fun s => flow_Reach_3 (tget s.t 1) (tget s.t 3) (tget s.t 4) (tget s.t 5) s.h)) (fun s => flow_Reach_3_eq s)).trans (by kernel_rfl)

noncomputable def flow_Reach_5 (v1 v3 v4 v5 : AV) (h : Heap) : Option (Ex AV) :=
ob (evLen 1 v4 h) fun v22 =>
ob (evBin .sub v22 (AV.int .i64 1)) fun v23 =>
ob (evSlcO 1 v4 none (some v23)) fun v24 =>
(flow_Reach_4 v1 v3 v24 v5 h)

theorem flow_Reach_5_eq (s : St) : W E 0 c_flow_Reach_5 s (fun s => flow_Reach_L2 (tget s.t 1) (tget s.t 3) (tget s.t 4) s.h) (exitTo 1 (fun s => flow_Reach_L2 (tget s.t 1) (tget s.t 3) (tget s.t 4) s.h) (exitTo 0 (fun s => flow_Reach_1 (tget s.t 3) s.h) (fun _ _ => none))) (finP [.t 2]) = flow_Reach_5 (tget s.t 1) (tget s.t 3) (tget s.t 4) (tget s.t 5) s.h :=
  (W_seq (k := (fun s => flow_Reach_4 (tget s.t 1) (tget s.t 3) (tget s.t 4) (tget s.t 5) s.h)) (fun s => flow_Reach_4_eq s)).trans (by kernel_rfl)

noncomputable def flow_Reach_6 (v1 v3 v4 : AV) (h : Heap) : Option (Ex AV) :=
ob (evLen 1 v4 h) fun v16 =>
ob (evBin .sub v16 (AV.int .i64 1)) fun v17 =>
ob (evIxs 1 v4 v17) fun v18 =>
ob (evLd false 1 v18 h) fun v19 =>
(flow_Reach_5 v1 v3 v4 v19 h)

theorem flow_Reach_6_eq (s : St) : W E 0 c_flow_Reach_6 s (fun s => flow_Reach_L2 (tget s.t 1) (tget s.t 3) (tget s.t 4) s.h) (exitTo 1 (fun s => flow_Reach_L2 (tget s.t 1) (tget s.t 3) (tget s.t 4) s.h) (exitTo 0 (fun s => flow_Reach_1 (tget s.t 3) s.h) (fun _ _ => none))) (finP [.t 2]) = flow_Reach_6 (tget s.t 1) (tget s.t 3) (tget s.t 4) s.h :=
  (W_seq (k := (fun s => flow_Reach_5 (tget s.t 1) (tget s.t 3) (tget s.t 4) (tget s.t 5) s.h)) (fun s => flow_Reach_5_eq s)).trans (by kernel_rfl)

theorem flow_Reach_7_eq (s : St) : W E 0 c_flow_Reach_7 s (fun s => flow_Reach_L2 (tget s.t 1) (tget s.t 3) (tget s.t 4) s.h) (exitTo 0 (fun s => flow_Reach_1 (tget s.t 3) s.h) (fun _ _ => none)) (finP [.t 2]) = flow_Reach_6 (tget s.t 1) (tget s.t 3) (tget s.t 4) s.h :=
  W_block.trans (flow_Reach_6_eq s)

noncomputable def flow_Reach_8 (v1 v3 v4 : AV) (h : Heap) : Option (Ex AV) :=
ob (evLen 1 v4 h) fun v12 =>
ob (evBin .gtr v12 (AV.int .i64 0)) fun v13 =>
cnd v13
 ((flow_Reach_6 v1 v3 v4 h))
 ((flow_Reach_1 v3 h))

theorem flow_Reach_8_eq (s : St) : W E 0 c_flow_Reach_8 s (fun s => flow_Reach_L2 (tget s.t 1) (tget s.t 3) (tget s.t 4) s.h) (exitTo 0 (fun s => flow_Reach_1 (tget s.t 3) s.h) (fun _ _ => none)) (finP [.t 2]) = flow_Reach_8 (tget s.t 1) (tget s.t 3) (tget s.t 4) s.h :=
  (W_seq (k := (fun s => flow_Reach_6 (tget s.t 1) (tget s.t 3) (tget s.t 4) s.h)) (fun s => flow_Reach_7_eq s)).trans (by kernel_rfl)

theorem flow_Reach_L2_go (v1 v3 v4 : AV) (h : Heap) : flow_Reach_L2 v1 v3 v4 h = (flow_Reach_8 v1 v3 v4 h) :=
  W_loop.trans ((W_congr _ _ _ (n' := (fun s => flow_Reach_L2 (tget s.t 1) (tget s.t 3) (tget s.t 4) s.h)) (fun s => flow_Reach_L2_eq s)).trans ((flow_Reach_8_eq _).trans (by kernel_rfl)))

theorem flow_Reach_9_eq (s : St) : W E 0 c_flow_Reach_9 s (fun s => flow_Reach_1 (tget s.t 3) s.h) (fun _ _ => none) (finP [.t 2]) = flow_Reach_L2 (tget s.t 1) (tget s.t 3) (tget s.t 4) s.h :=
  W_block.trans (flow_Reach_L2_eq s)

theorem flow_Reach_10_eq (s : St) : W E 0 c_flow_Reach_10 s (finP [.t 2]) (fun _ _ => none) (finP [.t 2]) = flow_Reach_L2 (tget s.t 1) (tget s.t 3) (tget s.t 4) s.h :=
  (W_seq (k := (fun s => flow_Reach_1 (tget s.t 3) s.h)) (fun s => flow_Reach_1_eq s)).trans (flow_Reach_9_eq s)

noncomputable def flow_Reach_11 (v1 v3 : AV) (h : Heap) : Option (Ex AV) :=
oh (buildSC 0 (some 2) 1 1 [(.int .i64 0)] [(0, (AV.int .i64 0))] h) fun v10 h6 =>
(flow_Reach_L2 v1 v3 v10 h6)

theorem flow_Reach_11_eq (s : St) : W E 0 c_flow_Reach_11 s (finP [.t 2]) (fun _ _ => none) (finP [.t 2]) = flow_Reach_11 (tget s.t 1) (tget s.t 3) s.h :=
  (W_seq (k := (fun s => flow_Reach_L2 (tget s.t 1) (tget s.t 3) (tget s.t 4) s.h)) (fun s => flow_Reach_10_eq s)).trans (by kernel_rfl)

noncomputable def flow_Reach_12 (v1 : AV) (h : Heap) : Option (Ex AV) :=
ob (evFa 3 v1) fun v6 =>
ob (evLd false 1 v6 h) fun v7 =>
ob (evLen 1 v7 h) fun v8 =>
oh (mkSC 0 (some 1) 1 1 [(.bool false)] v8 v8 h) fun v9 h7 =>
(flow_Reach_11 v1 v9 h7)

theorem flow_Reach_12_eq (s : St) : W E 0 c_flow_Reach_12 s (finP [.t 2]) (fun _ _ => none) (finP [.t 2]) = flow_Reach_12 (tget s.t 1) s.h :=
  (W_seq (k := (fun s => flow_Reach_11 (tget s.t 1) (tget s.t 3) s.h)) (fun s => flow_Reach_11_eq s)).trans (by kernel_rfl)

noncomputable def flow_Reach_13 (v0 : AV) (h : Heap) : Option (Ex AV) :=
oh (newC 0 (some 0) (cellsOf v0) h) fun v1 h8 =>
(flow_Reach_12 v1 h8)

theorem flow_Reach_13_eq (s : St) : W E 0 c_flow_Reach_13 s (finP [.t 2]) (fun _ _ => none) (finP [.t 2]) = flow_Reach_13 (tget s.t 0) s.h :=
  (W_seq (k := (fun s => flow_Reach_12 (tget s.t 1) s.h)) (fun s => flow_Reach_12_eq s)).trans (by kernel_rfl)

@[simp] theorem pure_101 : E.pure 101 = true := rfl

theorem x_flow_Reach (v0 : AV) : (callW E).p 101 [v0] = flow_Reach_13 v0 [⟨0, .dead⟩, ⟨0, .dead⟩, ⟨0, .dead⟩, ⟨0, .dead⟩, ⟨0, .dead⟩] :=
  (callP_W (cf := c_flow_Reach) (by kernel_rfl) rfl).trans ((flow_Reach_13_eq _).trans (by kernel_rfl))

noncomputable def regletref11_Reach_1 (v3 : AV) (h : Heap) : Option (Ex AV) :=
(expo1 h v3)

theorem regletref11_Reach_1_eq (s : St) : W E 0 c_regletref11_Reach_1 s (finP [.t 2]) (fun _ _ => none) (finP [.t 2]) = regletref11_Reach_1 (tget s.t 3) s.h :=
  by kernel_rfl

noncomputable def regletref11_Reach_L2 (v1 v3 v4 : AV) (h : Heap) : Option (Ex AV) :=
  W E 0 c_regletref11_Reach_L2 ⟨[(1, v1), (3, v3), (4, v4)], h⟩ (fun s => regletref11_Reach_1 (tget s.t 3) s.h) (exitTo 0 (fun s => regletref11_Reach_1 (tget s.t 3) s.h) (fun _ _ => none)) (finP [.t 2])

theorem regletref11_Reach_L2_eq (s : St) : W E 0 c_regletref11_Reach_L2 s (fun s => regletref11_Reach_1 (tget s.t 3) s.h) (exitTo 0 (fun s => regletref11_Reach_1 (tget s.t 3) s.h) (fun _ _ => none)) (finP [.t 2]) = regletref11_Reach_L2 (tget s.t 1) (tget s.t 3) (tget s.t 4) s.h := W_loop_live.trans (by kernel_rfl)

noncomputable def regletref11_Reach_L3 (v1 v3 v4 v5 : AV) (h : Heap) : Option (Ex AV) :=
  W E 0 c_regletref11_Reach_L3 ⟨[(1, v1), (3, v3), (4, v4), (5, v5)], h⟩ (fun s => regletref11_Reach_L2 (tget s.t 1) (tget s.t 3) (tget s.t 4) s.h) (exitTo 2 (fun s => regletref11_Reach_L2 (tget s.t 1) (tget s.t 3) (tget s.t 4) s.h) (exitTo 1 (fun s => regletref11_Reach_L2 (tget s.t 1) (tget s.t 3) (tget s.t 4) s.h) (exitTo 0 (fun s => regletref11_Reach_1 (tget s.t 3) s.h) (fun _ _ => none)))) (finP [.t 2])

theorem regletref11_Reach_L3_eq (s : St) : W E 0 c_regletref11_Reach_L3 s (fun s => regletref11_Reach_L2 (tget s.t 1) (tget s.t 3) (tget s.t 4) s.h) (exitTo 2 (fun s => regletref11_Reach_L2 (tget s.t 1) (tget s.t 3) (tget s.t 4) s.h) (exitTo 1 (fun s => regletref11_Reach_L2 (tget s.t 1) (tget s.t 3) (tget s.t 4) s.h) (exitTo 0 (fun s => regletref11_Reach_1 (tget s.t 3) s.h) (fun _ _ => none)))) (finP [.t 2]) = regletref11_Reach_L3 (tget s.t 1) (tget s.t 3) (tget s.t 4) (tget s.t 5) s.h := W_loop_live.trans (by kernel_rfl)

noncomputable def regletref11_Reach_4 (v1 v3 v4 v5 : AV) (h : Heap) : Option (Ex AV) :=
ob (evBin .add v5 (AV.int .i64 1)) fun v23 =>
(regletref11_Reach_L3 v1 v3 v4 v23 h)

theorem regletref11_Reach_4_eq (s : St) : W E 0 c_regletref11_Reach_4 s (fun s => regletref11_Reach_L3 (tget s.t 1) (tget s.t 3) (tget s.t 4) (tget s.t 5) s.h) (exitTo 2 (fun s => regletref11_Reach_L2 (tget s.t 1) (tget s.t 3) (tget s.t 4) s.h) (exitTo 1 (fun s => regletref11_Reach_L2 (tget s.t 1) (tget s.t 3) (tget s.t 4) s.h) (exitTo 0 (fun s => regletref11_Reach_1 (tget s.t 3) s.h) (fun _ _ => none)))) (finP [.t 2]) = regletref11_Reach_4 (tget s.t 1) (tget s.t 3) (tget s.t 4) (tget s.t 5) s.h :=
  by kernel_rfl

noncomputable def regletref11_Reach_L5 (v1 v3 v4 v5 v6 v7 : AV) (h : Heap) : Option (Ex AV) :=
  W E 0 c_regletref11_Reach_L5 ⟨[(1, v1), (3, v3), (4, v4), (5, v5), (6, v6), (7, v7)], h⟩ (fun s => regletref11_Reach_4 (tget s.t 1) (tget s.t 3) (tget s.t 4) (tget s.t 5) s.h) (exitTo 4 (fun s => regletref11_Reach_4 (tget s.t 1) (tget s.t 3) (tget s.t 4) (tget s.t 5) s.h) (exitTo 3 (fun s => regletref11_Reach_4 (tget s.t 1) (tget s.t 3) (tget s.t 4) (tget s.t 5) s.h) (exitTo 2 (fun s => regletref11_Reach_L2 (tget s.t 1) (tget s.t 3) (tget s.t 4) s.h) (exitTo 1 (fun s => regletref11_Reach_L2 (tget s.t 1) (tget s.t 3) (tget s.t 4) s.h) (exitTo 0 (fun s => regletref11_Reach_1 (tget s.t 3) s.h) (fun _ _ => none)))))) (finP [.t 2])

theorem regletref11_Reach_L5_eq (s : St) : W E 0 c_regletref11_Reach_L5 s (fun s => regletref11_Reach_4 (tget s.t 1) (tget s.t 3) (tget s.t 4) (tget s.t 5) s.h) (exitTo 4 (fun s => regletref11_Reach_4 (tget s.t 1) (tget s.t 3) (tget s.t 4) (tget s.t 5) s.h) (exitTo 3 (fun s => regletref11_Reach_4 (tget s.t 1) (tget s.t 3) (tget s.t 4) (tget s.t 5) s.h) (exitTo 2 (fun s => regletref11_Reach_L2 (tget s.t 1) (tget s.t 3) (tget s.t 4) s.h) (exitTo 1 (fun s => regletref11_Reach_L2 (tget s.t 1) (tget s.t 3) (tget s.t 4) s.h) (exitTo 0 (fun s => regletref11_Reach_1 (tget s.t 3) s.h) (fun _ _ => none)))))) (finP [.t 2]) = regletref11_Reach_L5 (tget s.t 1) (tget s.t 3) (tget s.t 4) (tget s.t 5) (tget s.t 6) (tget s.t 7) s.h := W_loop_live.trans (by kernel_rfl)

noncomputable def regletref11_Reach_6 (v1 v3 v4 v5 v6 v7 : AV) (h : Heap) : Option (Ex AV) :=
ob (evBin .add v7 (AV.int .i64 1)) fun v37 =>
(regletref11_Reach_L5 v1 v3 v4 v5 v6 v37 h)

theorem regletref11_Reach_6_eq (s : St) : W E 0 c_regletref11_Reach_6 s (fun s => regletref11_Reach_L5 (tget s.t 1) (tget s.t 3) (tget s.t 4) (tget s.t 5) (tget s.t 6) (tget s.t 7) s.h) (exitTo 4 (fun s => regletref11_Reach_4 (tget s.t 1) (tget s.t 3) (tget s.t 4) (tget s.t 5) s.h) (exitTo 3 (fun s => regletref11_Reach_4 (tget s.t 1) (tget s.t 3) (tget s.t 4) (tget s.t 5) s.h) (exitTo 2 (fun s => regletref11_Reach_L2 (tget s.t 1) (tget s.t 3) (tget s.t 4) s.h) (exitTo 1 (fun s => regletref11_Reach_L2 (tget s.t 1) (tget s.t 3) (tget s.t 4) s.h) (exitTo 0 (fun s => regletref11_Reach_1 (tget s.t 3) s.h) (fun _ _ => none)))))) (finP [.t 2]) = regletref11_Reach_6 (tget s.t 1) (tget s.t 3) (tget s.t 4) (tget s.t 5) (tget s.t 6) (tget s.t 7) s.h :=
  by kernel_rfl

noncomputable def regletref11_Reach_7 (v1 v3 v4 v5 v6 v7 : AV) (h : Heap) : Option (Ex AV) :=
ob (evIxs 1 v6 v7) fun v40 =>
ob (evLd false 1 v40 h) fun v41 =>
ob (evBin .geq v41 (AV.int .i64 0)) fun v42 =>
gb v42 true (some v6) fun v44 =>
gb v42 true (some v7) fun v45 =>
gb v42 true (evIxs 1 v44 v45) fun v46 =>
gb v42 true (evLd false 1 v46 h) fun v47 =>
gb v42 true (some v3) fun v48 =>
gb v42 true (evLen 1 v48 h) fun v49 =>
gb v42 true (evBin .lss v47 v49) fun v50 =>
ob (evPick v42 v50 (AV.bool false)) fun v51 =>
gb v51 true (some v3) fun v53 =>
gb v51 true (some v6) fun v54 =>
gb v51 true (some v7) fun v55 =>
gb v51 true (evIxs 1 v54 v55) fun v56 =>
gb v51 true (evLd false 1 v56 h) fun v57 =>
gb v51 true (evIxs 1 v53 v57) fun v58 =>
gb v51 true (evLd false 1 v58 h) fun v59 =>
gb v51 true (evUn .not v59) fun v60 =>
ob (evPick v51 v60 (AV.bool false)) fun v61 =>
cnd v61
 (ob (evIxs 1 v6 v7) fun v65 =>
ob (evLd false 1 v65 h) fun v66 =>
ob (evIxs 1 v3 v66) fun v67 =>
oh (evSt 1 v67 (AV.bool true) h) fun _ h1 =>
(regletref11_Reach_6 v1 v3 (AV.bool true) v5 v6 v7 h1))
 ((regletref11_Reach_6 v1 v3 v4 v5 v6 v7 h))

theorem regletref11_Reach_7_eq (s : St) : W E 0 c_regletref11_Reach_7 s (fun s => regletref11_Reach_L5 (tget s.t 1) (tget s.t 3) (tget s.t 4) (tget s.t 5) (tget s.t 6) (tget s.t 7) s.h) (exitTo 4 (fun s => regletref11_Reach_4 (tget s.t 1) (tget s.t 3) (tget s.t 4) (tget s.t 5) s.h) (exitTo 3 (fun s => regletref11_Reach_4 (tget s.t 1) (tget s.t 3) (tget s.t 4) (tget s.t 5) s.h) (exitTo 2 (fun s => regletref11_Reach_L2 (tget s.t 1) (tget s.t 3) (tget s.t 4) s.h) (exitTo 1 (fun s => regletref11_Reach_L2 (tget s.t 1) (tget s.t 3) (tget s.t 4) s.h) (exitTo 0 (fun s => regletref11_Reach_1 (tget s.t 3) s.h) (fun _ _ => none)))))) (finP [.t 2]) = regletref11_Reach_7 (tget s.t 1) (tget s.t 3) (tget s.t 4) (tget s.t 5) (tget s.t 6) (tget s.t 7) s.h :=
  (W_seq (k := (fun s => regletref11_Reach_6 (tget s.t 1) (tget s.t 3) (tget s.t 4) (tget s.t 5) (tget s.t 6) (tget s.t 7) s.h)) (fun s => regletref11_Reach_6_eq s)).trans (by kernel_rfl)

noncomputable def regletref11_Reach_8 (v1 v3 v4 v5 v6 v7 : AV) (h : Heap) : Option (Ex AV) :=
ob (evLen 1 v6 h) fun v34 =>
ob (evBin .lss v7 v34) fun v35 =>
cnd v35
 ((regletref11_Reach_7 v1 v3 v4 v5 v6 v7 h))
 ((regletref11_Reach_4 v1 v3 v4 v5 h))

theorem regletref11_Reach_8_eq (s : St) : W E 0 c_regletref11_Reach_8 s (fun s => regletref11_Reach_L5 (tget s.t 1) (tget s.t 3) (tget s.t 4) (tget s.t 5) (tget s.t 6) (tget s.t 7) s.h) (exitTo 4 (fun s => regletref11_Reach_4 (tget s.t 1) (tget s.t 3) (tget s.t 4) (tget s.t 5) s.h) (exitTo 3 (fun s => regletref11_Reach_4 (tget s.t 1) (tget s.t 3) (tget s.t 4) (tget s.t 5) s.h) (exitTo 2 (fun s => regletref11_Reach_L2 (tget s.t 1) (tget s.t 3) (tget s.t 4) s.h) (exitTo 1 (fun s => regletref11_Reach_L2 (tget s.t 1) (tget s.t 3) (tget s.t 4) s.h) (exitTo 0 (fun s => regletref11_Reach_1 (tget s.t 3) s.h) (fun _ _ => none)))))) (finP [.t 2]) = regletref11_Reach_8 (tget s.t 1) (tget s.t 3) (tget s.t 4) (tget s.t 5) (tget s.t 6) (tget s.t 7) s.h :=
  (W_seq (k := (fun s => regletref11_Reach_7 (tget s.t 1) (tget s.t 3) (tget s.t 4) (tget s.t 5) (tget s.t 6) (tget s.t 7) s.h)) (fun s => regletref11_Reach_7_eq s)).trans (by kernel_rfl)

theorem regletref11_Reach_L5_go (v1 v3 v4 v5 v6 v7 : AV) (h : Heap) : regletref11_Reach_L5 v1 v3 v4 v5 v6 v7 h = (regletref11_Reach_8 v1 v3 v4 v5 v6 v7 h) :=
  W_loop.trans ((W_congr _ _ _ (n' := (fun s => regletref11_Reach_L5 (tget s.t 1) (tget s.t 3) (tget s.t 4) (tget s.t 5) (tget s.t 6) (tget s.t 7) s.h)) (fun s => regletref11_Reach_L5_eq s)).trans ((regletref11_Reach_8_eq _).trans (by kernel_rfl)))

theorem regletref11_Reach_9_eq (s : St) : W E 0 c_regletref11_Reach_9 s (fun s => regletref11_Reach_4 (tget s.t 1) (tget s.t 3) (tget s.t 4) (tget s.t 5) s.h) (exitTo 3 (fun s => regletref11_Reach_4 (tget s.t 1) (tget s.t 3) (tget s.t 4) (tget s.t 5) s.h) (exitTo 2 (fun s => regletref11_Reach_L2 (tget s.t 1) (tget s.t 3) (tget s.t 4) s.h) (exitTo 1 (fun s => regletref11_Reach_L2 (tget s.t 1) (tget s.t 3) (tget s.t 4) s.h) (exitTo 0 (fun s => regletref11_Reach_1 (tget s.t 3) s.h) (fun _ _ => none))))) (finP [.t 2]) = regletref11_Reach_L5 (tget s.t 1) (tget s.t 3) (tget s.t 4) (tget s.t 5) (tget s.t 6) (tget s.t 7) s.h :=
  W_block.trans (regletref11_Reach_L5_eq s)

noncomputable def regletref11_Reach_10 (v1 v3 v4 v5 v6 : AV) (h : Heap) : Option (Ex AV) :=
(regletref11_Reach_L5 v1 v3 v4 v5 v6 (AV.int .i64 0) h)

theorem regletref11_Reach_10_eq (s : St) : W E 0 c_regletref11_Reach_10 s (fun s => regletref11_Reach_4 (tget s.t 1) (tget s.t 3) (tget s.t 4) (tget s.t 5) s.h) (exitTo 3 (fun s => regletref11_Reach_4 (tget s.t 1) (tget s.t 3) (tget s.t 4) (tget s.t 5) s.h) (exitTo 2 (fun s => regletref11_Reach_L2 (tget s.t 1) (tget s.t 3) (tget s.t 4) s.h) (exitTo 1 (fun s => regletref11_Reach_L2 (tget s.t 1) (tget s.t 3) (tget s.t 4) s.h) (exitTo 0 (fun s => regletref11_Reach_1 (tget s.t 3) s.h) (fun _ _ => none))))) (finP [.t 2]) = regletref11_Reach_10 (tget s.t 1) (tget s.t 3) (tget s.t 4) (tget s.t 5) (tget s.t 6) s.h :=
  (W_seq (k := (fun s => regletref11_Reach_L5 (tget s.t 1) (tget s.t 3) (tget s.t 4) (tget s.t 5) (tget s.t 6) (tget s.t 7) s.h)) (fun s => regletref11_Reach_9_eq s)).trans (by kernel_rfl)

noncomputable def regletref11_Reach_11 (v1 v3 v4 v5 : AV) (h : Heap) : Option (Ex AV) :=
ob (evLd true 5 v1 h) fun v29 =>
oh (callAny E (callW E) 0 none true 105 [v29, v5] h) fun v31 h2 =>
(regletref11_Reach_10 v1 v3 v4 v5 v31 h2)

theorem regletref11_Reach_11_eq (s : St) : W E 0 c_regletref11_Reach_11 s (fun s => regletref11_Reach_4 (tget s.t 1) (tget s.t 3) (tget s.t 4) (tget s.t 5) s.h) (exitTo 3 (fun s => regletref11_Reach_4 (tget s.t 1) (tget s.t 3) (tget s.t 4) (tget s.t 5) s.h) (exitTo 2 (fun s => regletref11_Reach_L2 (tget s.t 1) (tget s.t 3) (tget s.t 4) s.h) (exitTo 1 (fun s => regletref11_Reach_L2 (tget s.t 1) (tget s.t 3) (tget s.t 4) s.h) (exitTo 0 (fun s => regletref11_Reach_1 (tget s.t 3) s.h) (fun _ _ => none))))) (finP [.t 2]) = regletref11_Reach_11 (tget s.t 1) (tget s.t 3) (tget s.t 4) (tget s.t 5) s.h :=
  (W_seq (k := (fun s => regletref11_Reach_10 (tget s.t 1) (tget s.t 3) (tget s.t 4) (tget s.t 5) (tget s.t 6) s.h)) (fun s => regletref11_Reach_10_eq s)).trans (by kernel_rfl)

noncomputable def regletref11_Reach_12 (v1 v3 v4 v5 : AV) (h : Heap) : Option (Ex AV) :=
ob (evIxs 1 v3 v5) fun v26 =>
ob (evLd false 1 v26 h) fun v27 =>
ob (evUn .not v27) fun v28 =>
cnd v28
 ((regletref11_Reach_4 v1 v3 v4 v5 h))
 ((regletref11_Reach_11 v1 v3 v4 v5 h))

theorem regletref11_Reach_12_eq (s : St) : W E 0 c_regletref11_Reach_12 s (fun s => regletref11_Reach_4 (tget s.t 1) (tget s.t 3) (tget s.t 4) (tget s.t 5) s.h) (exitTo 3 (fun s => regletref11_Reach_4 (tget s.t 1) (tget s.t 3) (tget s.t 4) (tget s.t 5) s.h) (exitTo 2 (fun s => regletref11_Reach_L2 (tget s.t 1) (tget s.t 3) (tget s.t 4) s.h) (exitTo 1 (fun s => regletref11_Reach_L2 (tget s.t 1) (tget s.t 3) (tget s.t 4) s.h) (exitTo 0 (fun s => regletref11_Reach_1 (tget s.t 3) s.h) (fun _ _ => none))))) (finP [.t 2]) = regletref11_Reach_12 (tget s.t 1) (tget s.t 3) (tget s.t 4) (tget s.t 5) s.h :=
  (W_seq (k := (fun s => regletref11_Reach_11 (tget s.t 1) (tget s.t 3) (tget s.t 4) (tget s.t 5) s.h)) (fun s => regletref11_Reach_11_eq s)).trans (by kernel_rfl)

theorem regletref11_Reach_13_eq (s : St) : W E 0 c_regletref11_Reach_13 s (fun s => regletref11_Reach_4 (tget s.t 1) (tget s.t 3) (tget s.t 4) (tget s.t 5) s.h) (exitTo 2 (fun s => regletref11_Reach_L2 (tget s.t 1) (tget s.t 3) (tget s.t 4) s.h) (exitTo 1 (fun s => regletref11_Reach_L2 (tget s.t 1) (tget s.t 3) (tget s.t 4) s.h) (exitTo 0 (fun s => regletref11_Reach_1 (tget s.t 3) s.h) (fun _ _ => none)))) (finP [.t 2]) = regletref11_Reach_12 (tget s.t 1) (tget s.t 3) (tget s.t 4) (tget s.t 5) s.h :=
  W_block.trans (regletref11_Reach_12_eq s)

theorem regletref11_Reach_14_eq (s : St) : W E 0 c_regletref11_Reach_14 s (fun s => regletref11_Reach_L3 (tget s.t 1) (tget s.t 3) (tget s.t 4) (tget s.t 5) s.h) (exitTo 2 (fun s => regletref11_Reach_L2 (tget s.t 1) (tget s.t 3) (tget s.t 4) s.h) (exitTo 1 (fun s => regletref11_Reach_L2 (tget s.t 1) (tget s.t 3) (tget s.t 4) s.h) (exitTo 0 (fun s => regletref11_Reach_1 (tget s.t 3) s.h) (fun _ _ => none)))) (finP [.t 2]) = regletref11_Reach_12 (tget s.t 1) (tget s.t 3) (tget s.t 4) (tget s.t 5) s.h :=
  (W_seq (k := (fun s => regletref11_Reach_4 (tget s.t 1) (tget s.t 3) (tget s.t 4) (tget s.t 5) s.h)) (fun s => regletref11_Reach_4_eq s)).trans (regletref11_Reach_13_eq s)

noncomputable def regletref11_Reach_15 (v1 v3 v4 v5 : AV) (h : Heap) : Option (Ex AV) :=
ob (evLen 1 v3 h) fun v20 =>
ob (evBin .lss v5 v20) fun v21 =>
cnd v21
 ((regletref11_Reach_12 v1 v3 v4 v5 h))
 ((regletref11_Reach_L2 v1 v3 v4 h))

theorem regletref11_Reach_15_eq (s : St) : W E 0 c_regletref11_Reach_15 s (fun s => regletref11_Reach_L3 (tget s.t 1) (tget s.t 3) (tget s.t 4) (tget s.t 5) s.h) (exitTo 2 (fun s => regletref11_Reach_L2 (tget s.t 1) (tget s.t 3) (tget s.t 4) s.h) (exitTo 1 (fun s => regletref11_Reach_L2 (tget s.t 1) (tget s.t 3) (tget s.t 4) s.h) (exitTo 0 (fun s => regletref11_Reach_1 (tget s.t 3) s.h) (fun _ _ => none)))) (finP [.t 2]) = regletref11_Reach_15 (tget s.t 1) (tget s.t 3) (tget s.t 4) (tget s.t 5) s.h :=
  (W_seq (k := (fun s => regletref11_Reach_12 (tget s.t 1) (tget s.t 3) (tget s.t 4) (tget s.t 5) s.h)) (fun s => regletref11_Reach_14_eq s)).trans (by kernel_rfl)

theorem regletref11_Reach_L3_go (v1 v3 v4 v5 : AV) (h : Heap) : regletref11_Reach_L3 v1 v3 v4 v5 h = (regletref11_Reach_15 v1 v3 v4 v5 h) :=
  W_loop.trans ((W_congr _ _ _ (n' := (fun s => regletref11_Reach_L3 (tget s.t 1) (tget s.t 3) (tget s.t 4) (tget s.t 5) s.h)) (fun s => regletref11_Reach_L3_eq s)).trans ((regletref11_Reach_15_eq _).trans (by kernel_rfl)))

theorem regletref11_Reach_16_eq (s : St) : W E 0 c_regletref11_Reach_16 s (fun s => regletref11_Reach_L2 (tget s.t 1) (tget s.t 3) (tget s.t 4) s.h) (exitTo 1 (fun s => regletref11_Reach_L2 (tget s.t 1) (tget s.t 3) (tget s.t 4) s.h) (exitTo 0 (fun s => regletref11_Reach_1 (tget s.t 3) s.h) (fun _ _ => none))) (finP [.t 2]) = regletref11_Reach_L3 (tget s.t 1) (tget s.t 3) (tget s.t 4) (tget s.t 5) s.h :=
  W_block.trans (regletref11_Reach_L3_eq s)

noncomputable def regletref11_Reach_17 (v1 v3 v4 : AV) (h : Heap) : Option (Ex AV) :=
(regletref11_Reach_L3 v1 v3 v4 (AV.int .i64 0) h)

theorem regletref11_Reach_17_eq (s : St) : W E 0 c_regletref11_Reach_17 s (fun s => regletref11_Reach_L2 (tget s.t 1) (tget s.t 3) (tget s.t 4) s.h) (exitTo 1 (fun s => regletref11_Reach_L2 (tget s.t 1) (tget s.t 3) (tget s.t 4) s.h) (exitTo 0 (fun s => regletref11_Reach_1 (tget s.t 3) s.h) (fun _ _ => none))) (finP [.t 2]) = regletref11_Reach_17 (tget s.t 1) (tget s.t 3) (tget s.t 4) s.h :=
  (W_seq (k := (fun s => regletref11_Reach_L3 (tget s.t 1) (tget s.t 3) (tget s.t 4) (tget s.t 5) s.h)) (fun s => regletref11_Reach_16_eq s)).trans (by kernel_rfl)

noncomputable def regletref11_Reach_18 (v1 v3 : AV) (h : Heap) : Option (Ex AV) :=
(regletref11_Reach_17 v1 v3 (AV.bool false) h)

theorem regletref11_Reach_18_eq (s : St) : W E 0 c_regletref11_Reach_18 s (fun s => regletref11_Reach_L2 (tget s.t 1) (tget s.t 3) (tget s.t 4) s.h) (exitTo 1 (fun s => regletref11_Reach_L2 (tget s.t 1) (tget s.t 3) (tget s.t 4) s.h) (exitTo 0 (fun s => regletref11_Reach_1 (tget s.t 3) s.h) (fun _ _ => none))) (finP [.t 2]) = regletref11_Reach_18 (tget s.t 1) (tget s.t 3) s.h :=
  (W_seq (k := (fun s => regletref11_Reach_17 (tget s.t 1) (tget s.t 3) (tget s.t 4) s.h)) (fun s => regletref11_Reach_17_eq s)).trans (by kernel_rfl)

theorem regletref11_Reach_19_eq (s : St) : W E 0 c_regletref11_Reach_19 s (fun s => regletref11_Reach_L2 (tget s.t 1) (tget s.t 3) (tget s.t 4) s.h) (exitTo 0 (fun s => regletref11_Reach_1 (tget s.t 3) s.h) (fun _ _ => none)) (finP [.t 2]) = regletref11_Reach_18 (tget s.t 1) (tget s.t 3) s.h :=
  W_block.trans (regletref11_Reach_18_eq s)

noncomputable def regletref11_Reach_20 (v1 v3 v4 : AV) (h : Heap) : Option (Ex AV) :=
cnd v4
 ((regletref11_Reach_18 v1 v3 h))
 ((regletref11_Reach_1 v3 h))

theorem regletref11_Reach_20_eq (s : St) : W E 0 c_regletref11_Reach_20 s (fun s => regletref11_Reach_L2 (tget s.t 1) (tget s.t 3) (tget s.t 4) s.h) (exitTo 0 (fun s => regletref11_Reach_1 (tget s.t 3) s.h) (fun _ _ => none)) (finP [.t 2]) = regletref11_Reach_20 (tget s.t 1) (tget s.t 3) (tget s.t 4) s.h :=
  (W_seq (k := (fun s => regletref11_Reach_18 (tget s.t 1) (tget s.t 3) s.h)) (fun s => regletref11_Reach_19_eq s)).trans (by kernel_rfl)

theorem regletref11_Reach_L2_go (v1 v3 v4 : AV) (h : Heap) : regletref11_Reach_L2 v1 v3 v4 h = (regletref11_Reach_20 v1 v3 v4 h) :=
  W_loop.trans ((W_congr _ _ _ (n' := (fun s => regletref11_Reach_L2 (tget s.t 1) (tget s.t 3) (tget s.t 4) s.h)) (fun s => regletref11_Reach_L2_eq s)).trans ((regletref11_Reach_20_eq _).trans (by kernel_rfl)))

theorem regletref11_Reach_21_eq (s : St) : W E 0 c_regletref11_Reach_21 s (fun s => regletref11_Reach_1 (tget s.t 3) s.h) (fun _ _ => none) (finP [.t 2]) = regletref11_Reach_L2 (tget s.t 1) (tget s.t 3) (tget s.t 4) s.h :=
  W_block.trans (regletref11_Reach_L2_eq s)

noncomputable def regletref11_Reach_22 (v1 v3 : AV) (h : Heap) : Option (Ex AV) :=
(regletref11_Reach_L2 v1 v3 (AV.bool true) h)

theorem regletref11_Reach_22_eq (s : St) : W E 0 c_regletref11_Reach_22 s (fun s => regletref11_Reach_1 (tget s.t 3) s.h) (fun _ _ => none) (finP [.t 2]) = regletref11_Reach_22 (tget s.t 1) (tget s.t 3) s.h :=
  (W_seq (k := (fun s => regletref11_Reach_L2 (tget s.t 1) (tget s.t 3) (tget s.t 4) s.h)) (fun s => regletref11_Reach_21_eq s)).trans (by kernel_rfl)

theorem regletref11_Reach_23_eq (s : St) : W E 0 c_regletref11_Reach_23 s (finP [.t 2]) (fun _ _ => none) (finP [.t 2]) = regletref11_Reach_22 (tget s.t 1) (tget s.t 3) s.h :=
  (W_seq (k := (fun s => regletref11_Reach_1 (tget s.t 3) s.h)) (fun s => regletref11_Reach_1_eq s)).trans (regletref11_Reach_22_eq s)

noncomputable def regletref11_Reach_24 (v1 v3 : AV) (h : Heap) : Option (Ex AV) :=
ob (evLen 1 v3 h) fun v13 =>
ob (evBin .gtr v13 (AV.int .i64 0)) fun v14 =>
cnd v14
 (ob (evIxs 1 v3 (AV.int .i64 0)) fun v16 =>
oh (evSt 1 v16 (AV.bool true) h) fun _ h3 =>
(regletref11_Reach_22 v1 v3 h3))
 ((regletref11_Reach_22 v1 v3 h))

theorem regletref11_Reach_24_eq (s : St) : W E 0 c_regletref11_Reach_24 s (finP [.t 2]) (fun _ _ => none) (finP [.t 2]) = regletref11_Reach_24 (tget s.t 1) (tget s.t 3) s.h :=
  (W_seq (k := (fun s => regletref11_Reach_22 (tget s.t 1) (tget s.t 3) s.h)) (fun s => regletref11_Reach_23_eq s)).trans (by kernel_rfl)

noncomputable def regletref11_Reach_25 (v1 : AV) (h : Heap) : Option (Ex AV) :=
ob (evFa 3 v1) fun v8 =>
ob (evLd false 1 v8 h) fun v9 =>
ob (evLen 1 v9 h) fun v10 =>
oh (mkSC 0 (some 1) 1 1 [(.bool false)] v10 v10 h) fun v11 h4 =>
(regletref11_Reach_24 v1 v11 h4)

theorem regletref11_Reach_25_eq (s : St) : W E 0 c_regletref11_Reach_25 s (finP [.t 2]) (fun _ _ => none) (finP [.t 2]) = regletref11_Reach_25 (tget s.t 1) s.h :=
  (W_seq (k := (fun s => regletref11_Reach_24 (tget s.t 1) (tget s.t 3) s.h)) (fun s => regletref11_Reach_24_eq s)).trans (by kernel_rfl)

noncomputable def regletref11_Reach_26 (v0 : AV) (h : Heap) : Option (Ex AV) :=
oh (newC 0 (some 0) (cellsOf v0) h) fun v1 h5 =>
(regletref11_Reach_25 v1 h5)

theorem regletref11_Reach_26_eq (s : St) : W E 0 c_regletref11_Reach_26 s (finP [.t 2]) (fun _ _ => none) (finP [.t 2]) = regletref11_Reach_26 (tget s.t 0) s.h :=
  (W_seq (k := (fun s => regletref11_Reach_25 (tget s.t 1) s.h)) (fun s => regletref11_Reach_25_eq s)).trans (by kernel_rfl)

@[simp] theorem pure_104 : E.pure 104 = true := rfl

theorem x_regletref11_Reach (v0 : AV) : (callW E).p 104 [v0] = regletref11_Reach_26 v0 [⟨0, .dead⟩, ⟨0, .dead⟩] :=
  (callP_W (cf := c_regletref11_Reach) (by kernel_rfl) rfl).trans ((regletref11_Reach_26_eq _).trans (by kernel_rfl))

noncomputable def flow_Heads_1 (v10 : AV) (h : Heap) : Option (Ex AV) :=
(expo1 h v10)

theorem flow_Heads_1_eq (s : St) : W E 0 c_flow_Heads_1 s (finP [.t 2]) (fun _ _ => none) (finP [.t 2]) = flow_Heads_1 (tget s.t 10) s.h :=
  by kernel_rfl

noncomputable def flow_Heads_L2 (v3 v10 v96 v97 : AV) (h : Heap) : Option (Ex AV) :=
  W E 0 c_flow_Heads_L2 ⟨[(3, v3), (10, v10), (96, v96), (97, v97)], h⟩ (fun s => flow_Heads_1 (tget s.t 10) s.h) (exitTo 6 (fun s => flow_Heads_1 (tget s.t 10) s.h) (fun _ _ => none)) (finP [.t 2])

theorem flow_Heads_L2_eq (s : St) : W E 0 c_flow_Heads_L2 s (fun s => flow_Heads_1 (tget s.t 10) s.h) (exitTo 6 (fun s => flow_Heads_1 (tget s.t 10) s.h) (fun _ _ => none)) (finP [.t 2]) = flow_Heads_L2 (tget s.t 3) (tget s.t 10) (tget s.t 96) (tget s.t 97) s.h := W_loop_live.trans (by kernel_rfl)

noncomputable def flow_Heads_3 (v3 v10 v96 v97 : AV) (h : Heap) : Option (Ex AV) :=
ob (evBin .add v97 (AV.int .i64 1)) fun v108 =>
(flow_Heads_L2 v3 v10 v96 v108 h)

theorem flow_Heads_3_eq (s : St) : W E 0 c_flow_Heads_3 s (fun s => flow_Heads_L2 (tget s.t 3) (tget s.t 10) (tget s.t 96) (tget s.t 97) s.h) (exitTo 6 (fun s => flow_Heads_1 (tget s.t 10) s.h) (fun _ _ => none)) (finP [.t 2]) = flow_Heads_3 (tget s.t 3) (tget s.t 10) (tget s.t 96) (tget s.t 97) s.h :=
  by kernel_rfl

noncomputable def flow_Heads_4 (v3 v10 v96 v97 : AV) (h : Heap) : Option (Ex AV) :=
ob (evIxs 1 v3 v97) fun v102 =>
ob (evLd false 1 v102 h) fun v103 =>
cnd v103
 (oh (buildSC 0 (some 5) 1 1 [(.int .i64 0)] [(0, v97)] h) fun v106 h1 =>
oh (evApp 0 (some 6) 1 8 v10 v106 h1) fun v107 h2 =>
(flow_Heads_3 v3 v107 v96 v97 h2))
 ((flow_Heads_3 v3 v10 v96 v97 h))

theorem flow_Heads_4_eq (s : St) : W E 0 c_flow_Heads_4 s (fun s => flow_Heads_L2 (tget s.t 3) (tget s.t 10) (tget s.t 96) (tget s.t 97) s.h) (exitTo 6 (fun s => flow_Heads_1 (tget s.t 10) s.h) (fun _ _ => none)) (finP [.t 2]) = flow_Heads_4 (tget s.t 3) (tget s.t 10) (tget s.t 96) (tget s.t 97) s.h :=
  (W_seq (k := (fun s => flow_Heads_3 (tget s.t 3) (tget s.t 10) (tget s.t 96) (tget s.t 97) s.h)) (fun s => flow_Heads_3_eq s)).trans (by kernel_rfl)

noncomputable def flow_Heads_5 (v3 v10 v96 v97 v98 : AV) (h : Heap) : Option (Ex AV) :=
cnd v98
 ((flow_Heads_4 v3 v10 v96 v97 h))
 ((flow_Heads_1 v10 h))

theorem flow_Heads_5_eq (s : St) : W E 0 c_flow_Heads_5 s (fun s => flow_Heads_L2 (tget s.t 3) (tget s.t 10) (tget s.t 96) (tget s.t 97) s.h) (exitTo 6 (fun s => flow_Heads_1 (tget s.t 10) s.h) (fun _ _ => none)) (finP [.t 2]) = flow_Heads_5 (tget s.t 3) (tget s.t 10) (tget s.t 96) (tget s.t 97) (tget s.t 98) s.h :=
  (W_seq (k := (fun s => flow_Heads_4 (tget s.t 3) (tget s.t 10) (tget s.t 96) (tget s.t 97) s.h)) (fun s => flow_Heads_4_eq s)).trans (by kernel_rfl)

noncomputable def flow_Heads_6 (v3 v10 v96 v97 : AV) (h : Heap) : Option (Ex AV) :=
ob (evBin .lss v97 v96) fun v98 =>
(flow_Heads_5 v3 v10 v96 v97 v98 h)

theorem flow_Heads_6_eq (s : St) : W E 0 c_flow_Heads_6 s (fun s => flow_Heads_L2 (tget s.t 3) (tget s.t 10) (tget s.t 96) (tget s.t 97) s.h) (exitTo 6 (fun s => flow_Heads_1 (tget s.t 10) s.h) (fun _ _ => none)) (finP [.t 2]) = flow_Heads_6 (tget s.t 3) (tget s.t 10) (tget s.t 96) (tget s.t 97) s.h :=
  (W_seq (k := (fun s => flow_Heads_5 (tget s.t 3) (tget s.t 10) (tget s.t 96) (tget s.t 97) (tget s.t 98) s.h)) (fun s => flow_Heads_5_eq s)).trans (by kernel_rfl)

theorem flow_Heads_L2_go (v3 v10 v96 v97 : AV) (h : Heap) : flow_Heads_L2 v3 v10 v96 v97 h = (flow_Heads_6 v3 v10 v96 v97 h) :=
  W_loop.trans ((W_congr _ _ _ (n' := (fun s => flow_Heads_L2 (tget s.t 3) (tget s.t 10) (tget s.t 96) (tget s.t 97) s.h)) (fun s => flow_Heads_L2_eq s)).trans ((flow_Heads_6_eq _).trans (by kernel_rfl)))

theorem flow_Heads_7_eq (s : St) : W E 0 c_flow_Heads_7 s (fun s => flow_Heads_1 (tget s.t 10) s.h) (fun _ _ => none) (finP [.t 2]) = flow_Heads_L2 (tget s.t 3) (tget s.t 10) (tget s.t 96) (tget s.t 97) s.h :=
  W_block.trans (flow_Heads_L2_eq s)

noncomputable def flow_Heads_8 (v1 v3 v10 : AV) (h : Heap) : Option (Ex AV) :=
ob (evFa 3 v1) fun v94 =>
ob (evLd false 1 v94 h) fun v95 =>
ob (evLen 1 v95 h) fun v96 =>
(flow_Heads_L2 v3 v10 v96 (AV.int .i64 0) h)

theorem flow_Heads_8_eq (s : St) : W E 0 c_flow_Heads_8 s (fun s => flow_Heads_1 (tget s.t 10) s.h) (fun _ _ => none) (finP [.t 2]) = flow_Heads_8 (tget s.t 1) (tget s.t 3) (tget s.t 10) s.h :=
  (W_seq (k := (fun s => flow_Heads_L2 (tget s.t 3) (tget s.t 10) (tget s.t 96) (tget s.t 97) s.h)) (fun s => flow_Heads_7_eq s)).trans (by kernel_rfl)

theorem flow_Heads_9_eq (s : St) : W E 0 c_flow_Heads_9 s (finP [.t 2]) (fun _ _ => none) (finP [.t 2]) = flow_Heads_8 (tget s.t 1) (tget s.t 3) (tget s.t 10) s.h :=
  (W_seq (k := (fun s => flow_Heads_1 (tget s.t 10) s.h)) (fun s => flow_Heads_1_eq s)).trans (flow_Heads_8_eq s)

noncomputable def flow_Heads_10 (v1 v3 : AV) (h : Heap) : Option (Ex AV) :=
(flow_Heads_8 v1 v3 AV.nils h)

theorem flow_Heads_10_eq (s : St) : W E 0 c_flow_Heads_10 s (finP [.t 2]) (fun _ _ => none) (finP [.t 2]) = flow_Heads_10 (tget s.t 1) (tget s.t 3) s.h :=
  (W_seq (k := (fun s => flow_Heads_8 (tget s.t 1) (tget s.t 3) (tget s.t 10) s.h)) (fun s => flow_Heads_9_eq s)).trans (by kernel_rfl)

noncomputable def flow_Heads_L11 (v1 v3 v62 v63 v64 : AV) (h : Heap) : Option (Ex AV) :=
  W E 0 c_flow_Heads_L11 ⟨[(1, v1), (3, v3), (62, v62), (63, v63), (64, v64)], h⟩ (fun s => flow_Heads_10 (tget s.t 1) (tget s.t 3) s.h) (exitTo 2 (fun s => flow_Heads_10 (tget s.t 1) (tget s.t 3) s.h) (fun _ _ => none)) (finP [.t 2])

theorem flow_Heads_L11_eq (s : St) : W E 0 c_flow_Heads_L11 s (fun s => flow_Heads_10 (tget s.t 1) (tget s.t 3) s.h) (exitTo 2 (fun s => flow_Heads_10 (tget s.t 1) (tget s.t 3) s.h) (fun _ _ => none)) (finP [.t 2]) = flow_Heads_L11 (tget s.t 1) (tget s.t 3) (tget s.t 62) (tget s.t 63) (tget s.t 64) s.h := W_loop_live.trans (by kernel_rfl)

noncomputable def flow_Heads_12 (v1 v3 v62 v63 v64 : AV) (h : Heap) : Option (Ex AV) :=
ob (evBin .add v64 (AV.int .i64 1)) fun v93 =>
(flow_Heads_L11 v1 v3 v62 v63 v93 h)

theorem flow_Heads_12_eq (s : St) : W E 0 c_flow_Heads_12 s (fun s => flow_Heads_L11 (tget s.t 1) (tget s.t 3) (tget s.t 62) (tget s.t 63) (tget s.t 64) s.h) (exitTo 2 (fun s => flow_Heads_10 (tget s.t 1) (tget s.t 3) s.h) (fun _ _ => none)) (finP [.t 2]) = flow_Heads_12 (tget s.t 1) (tget s.t 3) (tget s.t 62) (tget s.t 63) (tget s.t 64) s.h :=
  by kernel_rfl

noncomputable def flow_Heads_L13 (v1 v3 v62 v63 v64 v74 v75 v76 : AV) (h : Heap) : Option (Ex AV) :=
  W E 0 c_flow_Heads_L13 ⟨[(1, v1), (3, v3), (62, v62), (63, v63), (64, v64), (74, v74), (75, v75), (76, v76)], h⟩ (fun s => flow_Heads_12 (tget s.t 1) (tget s.t 3) (tget s.t 62) (tget s.t 63) (tget s.t 64) s.h) (exitTo 4 (fun s => flow_Heads_12 (tget s.t 1) (tget s.t 3) (tget s.t 62) (tget s.t 63) (tget s.t 64) s.h) (exitTo 3 (fun s => flow_Heads_12 (tget s.t 1) (tget s.t 3) (tget s.t 62) (tget s.t 63) (tget s.t 64) s.h) (exitTo 2 (fun s => flow_Heads_10 (tget s.t 1) (tget s.t 3) s.h) (fun _ _ => none)))) (finP [.t 2])

theorem flow_Heads_L13_eq (s : St) : W E 0 c_flow_Heads_L13 s (fun s => flow_Heads_12 (tget s.t 1) (tget s.t 3) (tget s.t 62) (tget s.t 63) (tget s.t 64) s.h) (exitTo 4 (fun s => flow_Heads_12 (tget s.t 1) (tget s.t 3) (tget s.t 62) (tget s.t 63) (tget s.t 64) s.h) (exitTo 3 (fun s => flow_Heads_12 (tget s.t 1) (tget s.t 3) (tget s.t 62) (tget s.t 63) (tget s.t 64) s.h) (exitTo 2 (fun s => flow_Heads_10 (tget s.t 1) (tget s.t 3) s.h) (fun _ _ => none)))) (finP [.t 2]) = flow_Heads_L13 (tget s.t 1) (tget s.t 3) (tget s.t 62) (tget s.t 63) (tget s.t 64) (tget s.t 74) (tget s.t 75) (tget s.t 76) s.h := W_loop_live.trans (by kernel_rfl)

noncomputable def flow_Heads_14 (v1 v3 v62 v63 v64 v74 v75 v76 : AV) (h : Heap) : Option (Ex AV) :=
ob (evBin .add v76 (AV.int .i64 1)) fun v92 =>
(flow_Heads_L13 v1 v3 v62 v63 v64 v74 v75 v92 h)

theorem flow_Heads_14_eq (s : St) : W E 0 c_flow_Heads_14 s (fun s => flow_Heads_L13 (tget s.t 1) (tget s.t 3) (tget s.t 62) (tget s.t 63) (tget s.t 64) (tget s.t 74) (tget s.t 75) (tget s.t 76) s.h) (exitTo 4 (fun s => flow_Heads_12 (tget s.t 1) (tget s.t 3) (tget s.t 62) (tget s.t 63) (tget s.t 64) s.h) (exitTo 3 (fun s => flow_Heads_12 (tget s.t 1) (tget s.t 3) (tget s.t 62) (tget s.t 63) (tget s.t 64) s.h) (exitTo 2 (fun s => flow_Heads_10 (tget s.t 1) (tget s.t 3) s.h) (fun _ _ => none)))) (finP [.t 2]) = flow_Heads_14 (tget s.t 1) (tget s.t 3) (tget s.t 62) (tget s.t 63) (tget s.t 64) (tget s.t 74) (tget s.t 75) (tget s.t 76) s.h :=
  by kernel_rfl

noncomputable def flow_Heads_15 (v1 v3 v62 v63 v64 v74 v75 v76 : AV) (h : Heap) : Option (Ex AV) :=
ob (evIxs 1 v74 v76) fun v78 =>
ob (evLd false 1 v78 h) fun v79 =>
ob (evBin .geq v79 (AV.int .i64 0)) fun v81 =>
gb v81 true (some v79) fun v83 =>
gb v81 true (evFa 3 v1) fun v84 =>
gb v81 true (evLd false 1 v84 h) fun v85 =>
gb v81 true (evLen 1 v85 h) fun v86 =>
gb v81 true (evBin .lss v83 v86) fun v87 =>
ob (evPick v81 v87 (AV.bool false)) fun v88 =>
cnd v88
 (ob (evIxs 1 v3 v79) fun v91 =>
oh (evSt 1 v91 (AV.bool true) h) fun _ h3 =>
(flow_Heads_14 v1 v3 v62 v63 v64 v74 v75 v76 h3))
 ((flow_Heads_14 v1 v3 v62 v63 v64 v74 v75 v76 h))

theorem flow_Heads_15_eq (s : St) : W E 0 c_flow_Heads_15 s (fun s => flow_Heads_L13 (tget s.t 1) (tget s.t 3) (tget s.t 62) (tget s.t 63) (tget s.t 64) (tget s.t 74) (tget s.t 75) (tget s.t 76) s.h) (exitTo 4 (fun s => flow_Heads_12 (tget s.t 1) (tget s.t 3) (tget s.t 62) (tget s.t 63) (tget s.t 64) s.h) (exitTo 3 (fun s => flow_Heads_12 (tget s.t 1) (tget s.t 3) (tget s.t 62) (tget s.t 63) (tget s.t 64) s.h) (exitTo 2 (fun s => flow_Heads_10 (tget s.t 1) (tget s.t 3) s.h) (fun _ _ => none)))) (finP [.t 2]) = flow_Heads_15 (tget s.t 1) (tget s.t 3) (tget s.t 62) (tget s.t 63) (tget s.t 64) (tget s.t 74) (tget s.t 75) (tget s.t 76) s.h :=
  (W_seq (k := (fun s => flow_Heads_14 (tget s.t 1) (tget s.t 3) (tget s.t 62) (tget s.t 63) (tget s.t 64) (tget s.t 74) (tget s.t 75) (tget s.t 76) s.h)) (fun s => flow_Heads_14_eq s)).trans (by kernel_rfl)

noncomputable def flow_Heads_16 (v1 v3 v62 v63 v64 v74 v75 v76 v77 : AV) (h : Heap) : Option (Ex AV) :=
cnd v77
 ((flow_Heads_15 v1 v3 v62 v63 v64 v74 v75 v76 h))
 ((flow_Heads_12 v1 v3 v62 v63 v64 h))

theorem flow_Heads_16_eq (s : St) : W E 0 c_flow_Heads_16 s (fun s => flow_Heads_L13 (tget s.t 1) (tget s.t 3) (tget s.t 62) (tget s.t 63) (tget s.t 64) (tget s.t 74) (tget s.t 75) (tget s.t 76) s.h) (exitTo 4 (fun s => flow_Heads_12 (tget s.t 1) (tget s.t 3) (tget s.t 62) (tget s.t 63) (tget s.t 64) s.h) (exitTo 3 (fun s => flow_Heads_12 (tget s.t 1) (tget s.t 3) (tget s.t 62) (tget s.t 63) (tget s.t 64) s.h) (exitTo 2 (fun s => flow_Heads_10 (tget s.t 1) (tget s.t 3) s.h) (fun _ _ => none)))) (finP [.t 2]) = flow_Heads_16 (tget s.t 1) (tget s.t 3) (tget s.t 62) (tget s.t 63) (tget s.t 64) (tget s.t 74) (tget s.t 75) (tget s.t 76) (tget s.t 77) s.h :=
  (W_seq (k := (fun s => flow_Heads_15 (tget s.t 1) (tget s.t 3) (tget s.t 62) (tget s.t 63) (tget s.t 64) (tget s.t 74) (tget s.t 75) (tget s.t 76) s.h)) (fun s => flow_Heads_15_eq s)).trans (by kernel_rfl)

noncomputable def flow_Heads_17 (v1 v3 v62 v63 v64 v74 v75 v76 : AV) (h : Heap) : Option (Ex AV) :=
ob (evBin .lss v76 v75) fun v77 =>
(flow_Heads_16 v1 v3 v62 v63 v64 v74 v75 v76 v77 h)

theorem flow_Heads_17_eq (s : St) : W E 0 c_flow_Heads_17 s (fun s => flow_Heads_L13 (tget s.t 1) (tget s.t 3) (tget s.t 62) (tget s.t 63) (tget s.t 64) (tget s.t 74) (tget s.t 75) (tget s.t 76) s.h) (exitTo 4 (fun s => flow_Heads_12 (tget s.t 1) (tget s.t 3) (tget s.t 62) (tget s.t 63) (tget s.t 64) s.h) (exitTo 3 (fun s => flow_Heads_12 (tget s.t 1) (tget s.t 3) (tget s.t 62) (tget s.t 63) (tget s.t 64) s.h) (exitTo 2 (fun s => flow_Heads_10 (tget s.t 1) (tget s.t 3) s.h) (fun _ _ => none)))) (finP [.t 2]) = flow_Heads_17 (tget s.t 1) (tget s.t 3) (tget s.t 62) (tget s.t 63) (tget s.t 64) (tget s.t 74) (tget s.t 75) (tget s.t 76) s.h :=
  (W_seq (k := (fun s => flow_Heads_16 (tget s.t 1) (tget s.t 3) (tget s.t 62) (tget s.t 63) (tget s.t 64) (tget s.t 74) (tget s.t 75) (tget s.t 76) (tget s.t 77) s.h)) (fun s => flow_Heads_16_eq s)).trans (by kernel_rfl)

theorem flow_Heads_L13_go (v1 v3 v62 v63 v64 v74 v75 v76 : AV) (h : Heap) : flow_Heads_L13 v1 v3 v62 v63 v64 v74 v75 v76 h = (flow_Heads_17 v1 v3 v62 v63 v64 v74 v75 v76 h) :=
  W_loop.trans ((W_congr _ _ _ (n' := (fun s => flow_Heads_L13 (tget s.t 1) (tget s.t 3) (tget s.t 62) (tget s.t 63) (tget s.t 64) (tget s.t 74) (tget s.t 75) (tget s.t 76) s.h)) (fun s => flow_Heads_L13_eq s)).trans ((flow_Heads_17_eq _).trans (by kernel_rfl)))

theorem flow_Heads_18_eq (s : St) : W E 0 c_flow_Heads_18 s (fun s => flow_Heads_12 (tget s.t 1) (tget s.t 3) (tget s.t 62) (tget s.t 63) (tget s.t 64) s.h) (exitTo 3 (fun s => flow_Heads_12 (tget s.t 1) (tget s.t 3) (tget s.t 62) (tget s.t 63) (tget s.t 64) s.h) (exitTo 2 (fun s => flow_Heads_10 (tget s.t 1) (tget s.t 3) s.h) (fun _ _ => none))) (finP [.t 2]) = flow_Heads_L13 (tget s.t 1) (tget s.t 3) (tget s.t 62) (tget s.t 63) (tget s.t 64) (tget s.t 74) (tget s.t 75) (tget s.t 76) s.h :=
  W_block.trans (flow_Heads_L13_eq s)

noncomputable def flow_Heads_19 (v1 v3 v7 v62 v63 v64 : AV) (h : Heap) : Option (Ex AV) :=
ob (evFa 0 v7) fun v68 =>
ob (evLd false 1 v68 h) fun v69 =>
ob (evFa 1 v7) fun v70 =>
ob (evLd false 1 v70 h) fun v71 =>
ob (evFa 2 v7) fun v72 =>
ob (evLd false 1 v72 h) fun v73 =>
oh (buildSC 0 (some 4) 1 3 [(.int .i64 0)] [(0, v69), (1, v71), (2, v73)] h) fun v74 h4 =>
ob (evLen 1 v74 h4) fun v75 =>
(flow_Heads_L13 v1 v3 v62 v63 v64 v74 v75 (AV.int .i64 0) h4)

theorem flow_Heads_19_eq (s : St) : W E 0 c_flow_Heads_19 s (fun s => flow_Heads_12 (tget s.t 1) (tget s.t 3) (tget s.t 62) (tget s.t 63) (tget s.t 64) s.h) (exitTo 3 (fun s => flow_Heads_12 (tget s.t 1) (tget s.t 3) (tget s.t 62) (tget s.t 63) (tget s.t 64) s.h) (exitTo 2 (fun s => flow_Heads_10 (tget s.t 1) (tget s.t 3) s.h) (fun _ _ => none))) (finP [.t 2]) = flow_Heads_19 (tget s.t 1) (tget s.t 3) (tget s.t 7) (tget s.t 62) (tget s.t 63) (tget s.t 64) s.h :=
  (W_seq (k := (fun s => flow_Heads_L13 (tget s.t 1) (tget s.t 3) (tget s.t 62) (tget s.t 63) (tget s.t 64) (tget s.t 74) (tget s.t 75) (tget s.t 76) s.h)) (fun s => flow_Heads_18_eq s)).trans (by kernel_rfl)

noncomputable def flow_Heads_20 (v1 v3 v62 v63 v64 : AV) (h : Heap) : Option (Ex AV) :=
ob (evIxs 4 v62 v64) fun v66 =>
ob (evLd true 4 v66 h) fun v67 =>
oh (newC 0 (some 3) [(.int .i64 0), (.int .i64 0), (.int .i64 0), (.str [])] h) fun v7 h5 =>
oh (evSt 4 v7 v67 h5) fun _ h6 =>
(flow_Heads_19 v1 v3 v7 v62 v63 v64 h6)

theorem flow_Heads_20_eq (s : St) : W E 0 c_flow_Heads_20 s (fun s => flow_Heads_12 (tget s.t 1) (tget s.t 3) (tget s.t 62) (tget s.t 63) (tget s.t 64) s.h) (exitTo 3 (fun s => flow_Heads_12 (tget s.t 1) (tget s.t 3) (tget s.t 62) (tget s.t 63) (tget s.t 64) s.h) (exitTo 2 (fun s => flow_Heads_10 (tget s.t 1) (tget s.t 3) s.h) (fun _ _ => none))) (finP [.t 2]) = flow_Heads_20 (tget s.t 1) (tget s.t 3) (tget s.t 62) (tget s.t 63) (tget s.t 64) s.h :=
  (W_seq (k := (fun s => flow_Heads_19 (tget s.t 1) (tget s.t 3) (tget s.t 7) (tget s.t 62) (tget s.t 63) (tget s.t 64) s.h)) (fun s => flow_Heads_19_eq s)).trans (by kernel_rfl)

theorem flow_Heads_21_eq (s : St) : W E 0 c_flow_Heads_21 s (fun s => flow_Heads_12 (tget s.t 1) (tget s.t 3) (tget s.t 62) (tget s.t 63) (tget s.t 64) s.h) (exitTo 2 (fun s => flow_Heads_10 (tget s.t 1) (tget s.t 3) s.h) (fun _ _ => none)) (finP [.t 2]) = flow_Heads_20 (tget s.t 1) (tget s.t 3) (tget s.t 62) (tget s.t 63) (tget s.t 64) s.h :=
  W_block.trans (flow_Heads_20_eq s)

theorem flow_Heads_22_eq (s : St) : W E 0 c_flow_Heads_22 s (fun s => flow_Heads_L11 (tget s.t 1) (tget s.t 3) (tget s.t 62) (tget s.t 63) (tget s.t 64) s.h) (exitTo 2 (fun s => flow_Heads_10 (tget s.t 1) (tget s.t 3) s.h) (fun _ _ => none)) (finP [.t 2]) = flow_Heads_20 (tget s.t 1) (tget s.t 3) (tget s.t 62) (tget s.t 63) (tget s.t 64) s.h :=
  (W_seq (k := (fun s => flow_Heads_12 (tget s.t 1) (tget s.t 3) (tget s.t 62) (tget s.t 63) (tget s.t 64) s.h)) (fun s => flow_Heads_12_eq s)).trans (flow_Heads_21_eq s)

noncomputable def flow_Heads_23 (v1 v3 v62 v63 v64 v65 : AV) (h : Heap) : Option (Ex AV) :=
cnd v65
 ((flow_Heads_20 v1 v3 v62 v63 v64 h))
 ((flow_Heads_10 v1 v3 h))

theorem flow_Heads_23_eq (s : St) : W E 0 c_flow_Heads_23 s (fun s => flow_Heads_L11 (tget s.t 1) (tget s.t 3) (tget s.t 62) (tget s.t 63) (tget s.t 64) s.h) (exitTo 2 (fun s => flow_Heads_10 (tget s.t 1) (tget s.t 3) s.h) (fun _ _ => none)) (finP [.t 2]) = flow_Heads_23 (tget s.t 1) (tget s.t 3) (tget s.t 62) (tget s.t 63) (tget s.t 64) (tget s.t 65) s.h :=
  (W_seq (k := (fun s => flow_Heads_20 (tget s.t 1) (tget s.t 3) (tget s.t 62) (tget s.t 63) (tget s.t 64) s.h)) (fun s => flow_Heads_22_eq s)).trans (by kernel_rfl)

noncomputable def flow_Heads_24 (v1 v3 v62 v63 v64 : AV) (h : Heap) : Option (Ex AV) :=
ob (evBin .lss v64 v63) fun v65 =>
(flow_Heads_23 v1 v3 v62 v63 v64 v65 h)

theorem flow_Heads_24_eq (s : St) : W E 0 c_flow_Heads_24 s (fun s => flow_Heads_L11 (tget s.t 1) (tget s.t 3) (tget s.t 62) (tget s.t 63) (tget s.t 64) s.h) (exitTo 2 (fun s => flow_Heads_10 (tget s.t 1) (tget s.t 3) s.h) (fun _ _ => none)) (finP [.t 2]) = flow_Heads_24 (tget s.t 1) (tget s.t 3) (tget s.t 62) (tget s.t 63) (tget s.t 64) s.h :=
  (W_seq (k := (fun s => flow_Heads_23 (tget s.t 1) (tget s.t 3) (tget s.t 62) (tget s.t 63) (tget s.t 64) (tget s.t 65) s.h)) (fun s => flow_Heads_23_eq s)).trans (by kernel_rfl)

theorem flow_Heads_L11_go (v1 v3 v62 v63 v64 : AV) (h : Heap) : flow_Heads_L11 v1 v3 v62 v63 v64 h = (flow_Heads_24 v1 v3 v62 v63 v64 h) :=
  W_loop.trans ((W_congr _ _ _ (n' := (fun s => flow_Heads_L11 (tget s.t 1) (tget s.t 3) (tget s.t 62) (tget s.t 63) (tget s.t 64) s.h)) (fun s => flow_Heads_L11_eq s)).trans ((flow_Heads_24_eq _).trans (by kernel_rfl)))

theorem flow_Heads_25_eq (s : St) : W E 0 c_flow_Heads_25 s (fun s => flow_Heads_10 (tget s.t 1) (tget s.t 3) s.h) (fun _ _ => none) (finP [.t 2]) = flow_Heads_L11 (tget s.t 1) (tget s.t 3) (tget s.t 62) (tget s.t 63) (tget s.t 64) s.h :=
  W_block.trans (flow_Heads_L11_eq s)

noncomputable def flow_Heads_26 (v1 v3 : AV) (h : Heap) : Option (Ex AV) :=
ob (evFa 4 v1) fun v61 =>
ob (evLd false 1 v61 h) fun v62 =>
ob (evLen 1 v62 h) fun v63 =>
(flow_Heads_L11 v1 v3 v62 v63 (AV.int .i64 0) h)

theorem flow_Heads_26_eq (s : St) : W E 0 c_flow_Heads_26 s (fun s => flow_Heads_10 (tget s.t 1) (tget s.t 3) s.h) (fun _ _ => none) (finP [.t 2]) = flow_Heads_26 (tget s.t 1) (tget s.t 3) s.h :=
  (W_seq (k := (fun s => flow_Heads_L11 (tget s.t 1) (tget s.t 3) (tget s.t 62) (tget s.t 63) (tget s.t 64) s.h)) (fun s => flow_Heads_25_eq s)).trans (by kernel_rfl)

theorem flow_Heads_27_eq (s : St) : W E 0 c_flow_Heads_27 s (finP [.t 2]) (fun _ _ => none) (finP [.t 2]) = flow_Heads_26 (tget s.t 1) (tget s.t 3) s.h :=
  (W_seq (k := (fun s => flow_Heads_10 (tget s.t 1) (tget s.t 3) s.h)) (fun s => flow_Heads_10_eq s)).trans (flow_Heads_26_eq s)

noncomputable def flow_Heads_L28 (v1 v3 v24 v25 v26 : AV) (h : Heap) : Option (Ex AV) :=
  W E 0 c_flow_Heads_L28 ⟨[(1, v1), (3, v3), (24, v24), (25, v25), (26, v26)], h⟩ (fun s => flow_Heads_26 (tget s.t 1) (tget s.t 3) s.h) (exitTo 0 (fun s => flow_Heads_26 (tget s.t 1) (tget s.t 3) s.h) (fun _ _ => none)) (finP [.t 2])

theorem flow_Heads_L28_eq (s : St) : W E 0 c_flow_Heads_L28 s (fun s => flow_Heads_26 (tget s.t 1) (tget s.t 3) s.h) (exitTo 0 (fun s => flow_Heads_26 (tget s.t 1) (tget s.t 3) s.h) (fun _ _ => none)) (finP [.t 2]) = flow_Heads_L28 (tget s.t 1) (tget s.t 3) (tget s.t 24) (tget s.t 25) (tget s.t 26) s.h := W_loop_live.trans (by kernel_rfl)

noncomputable def flow_Heads_29 (v1 v3 v24 v25 v26 : AV) (h : Heap) : Option (Ex AV) :=
ob (evBin .add v26 (AV.int .i64 1)) fun v60 =>
(flow_Heads_L28 v1 v3 v24 v25 v60 h)

theorem flow_Heads_29_eq (s : St) : W E 0 c_flow_Heads_29 s (fun s => flow_Heads_L28 (tget s.t 1) (tget s.t 3) (tget s.t 24) (tget s.t 25) (tget s.t 26) s.h) (exitTo 0 (fun s => flow_Heads_26 (tget s.t 1) (tget s.t 3) s.h) (fun _ _ => none)) (finP [.t 2]) = flow_Heads_29 (tget s.t 1) (tget s.t 3) (tget s.t 24) (tget s.t 25) (tget s.t 26) s.h :=
  by kernel_rfl

noncomputable def flow_Heads_30 (v1 v3 v4 v5 v24 v25 v26 : AV) (h : Heap) : Option (Ex AV) :=
ob (evLd true 9 v5 h) fun v50 =>
oh (callAny E (callW E) 0 none true 22 [v50] h) fun v51 h7 =>
gb v51 false (evLd true 9 v5 h7) fun v53 =>
gh v51 false (callAny E (callW E) 0 none true 24 [v53] h7) h7 fun v54 h8 =>
ob (evPick v51 (AV.bool true) v54) fun v55 =>
cnd v55
 (ob (evBin .add v4 (AV.int .i64 1)) fun v58 =>
ob (evIxs 1 v3 v58) fun v59 =>
oh (evSt 1 v59 (AV.bool true) h8) fun _ h9 =>
(flow_Heads_29 v1 v3 v24 v25 v26 h9))
 ((flow_Heads_29 v1 v3 v24 v25 v26 h8))

theorem flow_Heads_30_eq (s : St) : W E 0 c_flow_Heads_30 s (fun s => flow_Heads_29 (tget s.t 1) (tget s.t 3) (tget s.t 24) (tget s.t 25) (tget s.t 26) s.h) (exitTo 1 (fun s => flow_Heads_29 (tget s.t 1) (tget s.t 3) (tget s.t 24) (tget s.t 25) (tget s.t 26) s.h) (exitTo 0 (fun s => flow_Heads_26 (tget s.t 1) (tget s.t 3) s.h) (fun _ _ => none))) (finP [.t 2]) = flow_Heads_30 (tget s.t 1) (tget s.t 3) (tget s.t 4) (tget s.t 5) (tget s.t 24) (tget s.t 25) (tget s.t 26) s.h :=
  by kernel_rfl

noncomputable def flow_Heads_31 (v1 v3 v4 v5 v24 v25 v26 : AV) (h : Heap) : Option (Ex AV) :=
ob (evLd true 9 v5 h) fun v31 =>
oh (callAny E (callW E) 0 none true 22 [v31] h) fun v32 h10 =>
gb v32 true (evFa 6 v5) fun v34 =>
gb v32 true (evLd false 1 v34 h10) fun v35 =>
gb v32 true (evBin .geq v35 (AV.int .i64 0)) fun v36 =>
ob (evPick v32 v36 (AV.bool false)) fun v37 =>
gb v37 true (evFa 6 v5) fun v39 =>
gb v37 true (evLd false 1 v39 h10) fun v40 =>
gb v37 true (evFa 3 v1) fun v41 =>
gb v37 true (evLd false 1 v41 h10) fun v42 =>
gb v37 true (evLen 1 v42 h10) fun v43 =>
gb v37 true (evBin .lss v40 v43) fun v44 =>
ob (evPick v37 v44 (AV.bool false)) fun v45 =>
cnd v45
 (ob (evFa 6 v5) fun v47 =>
ob (evLd false 1 v47 h10) fun v48 =>
ob (evIxs 1 v3 v48) fun v49 =>
oh (evSt 1 v49 (AV.bool true) h10) fun _ h11 =>
(flow_Heads_30 v1 v3 v4 v5 v24 v25 v26 h11))
 ((flow_Heads_30 v1 v3 v4 v5 v24 v25 v26 h10))

theorem flow_Heads_31_eq (s : St) : W E 0 c_flow_Heads_31 s (fun s => flow_Heads_29 (tget s.t 1) (tget s.t 3) (tget s.t 24) (tget s.t 25) (tget s.t 26) s.h) (exitTo 1 (fun s => flow_Heads_29 (tget s.t 1) (tget s.t 3) (tget s.t 24) (tget s.t 25) (tget s.t 26) s.h) (exitTo 0 (fun s => flow_Heads_26 (tget s.t 1) (tget s.t 3) s.h) (fun _ _ => none))) (finP [.t 2]) = flow_Heads_31 (tget s.t 1) (tget s.t 3) (tget s.t 4) (tget s.t 5) (tget s.t 24) (tget s.t 25) (tget s.t 26) s.h :=
  (W_seq (k := (fun s => flow_Heads_30 (tget s.t 1) (tget s.t 3) (tget s.t 4) (tget s.t 5) (tget s.t 24) (tget s.t 25) (tget s.t 26) s.h)) (fun s => flow_Heads_30_eq s)).trans (by kernel_rfl)

noncomputable def flow_Heads_32 (v1 v3 v24 v25 v26 : AV) (h : Heap) : Option (Ex AV) :=
ob (evIxs 9 v24 v26) fun v29 =>
ob (evLd true 9 v29 h) fun v30 =>
oh (newC 0 (some 2) [(.int .i64 0), (.int .i64 0), (.int .i64 0), (.int .i64 0), (.int .i64 0), (.int .i64 0), (.int .i64 0), (.str []), .nils] h) fun v5 h12 =>
oh (evSt 9 v5 v30 h12) fun _ h13 =>
(flow_Heads_31 v1 v3 v26 v5 v24 v25 v26 h13)

theorem flow_Heads_32_eq (s : St) : W E 0 c_flow_Heads_32 s (fun s => flow_Heads_29 (tget s.t 1) (tget s.t 3) (tget s.t 24) (tget s.t 25) (tget s.t 26) s.h) (exitTo 1 (fun s => flow_Heads_29 (tget s.t 1) (tget s.t 3) (tget s.t 24) (tget s.t 25) (tget s.t 26) s.h) (exitTo 0 (fun s => flow_Heads_26 (tget s.t 1) (tget s.t 3) s.h) (fun _ _ => none))) (finP [.t 2]) = flow_Heads_32 (tget s.t 1) (tget s.t 3) (tget s.t 24) (tget s.t 25) (tget s.t 26) s.h :=
  (W_seq (k := (fun s => flow_Heads_31 (tget s.t 1) (tget s.t 3) (tget s.t 4) (tget s.t 5) (tget s.t 24) (tget s.t 25) (tget s.t 26) s.h)) (fun s => flow_Heads_31_eq s)).trans (by kernel_rfl)

theorem flow_Heads_33_eq (s : St) : W E 0 c_flow_Heads_33 s (fun s => flow_Heads_29 (tget s.t 1) (tget s.t 3) (tget s.t 24) (tget s.t 25) (tget s.t 26) s.h) (exitTo 0 (fun s => flow_Heads_26 (tget s.t 1) (tget s.t 3) s.h) (fun _ _ => none)) (finP [.t 2]) = flow_Heads_32 (tget s.t 1) (tget s.t 3) (tget s.t 24) (tget s.t 25) (tget s.t 26) s.h :=
  W_block.trans (flow_Heads_32_eq s)

theorem flow_Heads_34_eq (s : St) : W E 0 c_flow_Heads_34 s (fun s => flow_Heads_L28 (tget s.t 1) (tget s.t 3) (tget s.t 24) (tget s.t 25) (tget s.t 26) s.h) (exitTo 0 (fun s => flow_Heads_26 (tget s.t 1) (tget s.t 3) s.h) (fun _ _ => none)) (finP [.t 2]) = flow_Heads_32 (tget s.t 1) (tget s.t 3) (tget s.t 24) (tget s.t 25) (tget s.t 26) s.h :=
  (W_seq (k := (fun s => flow_Heads_29 (tget s.t 1) (tget s.t 3) (tget s.t 24) (tget s.t 25) (tget s.t 26) s.h)) (fun s => flow_Heads_29_eq s)).trans (flow_Heads_33_eq s)

noncomputable def flow_Heads_35 (v1 v3 v24 v25 v26 v27 : AV) (h : Heap) : Option (Ex AV) :=
cnd v27
 ((flow_Heads_32 v1 v3 v24 v25 v26 h))
 ((flow_Heads_26 v1 v3 h))

theorem flow_Heads_35_eq (s : St) : W E 0 c_flow_Heads_35 s (fun s => flow_Heads_L28 (tget s.t 1) (tget s.t 3) (tget s.t 24) (tget s.t 25) (tget s.t 26) s.h) (exitTo 0 (fun s => flow_Heads_26 (tget s.t 1) (tget s.t 3) s.h) (fun _ _ => none)) (finP [.t 2]) = flow_Heads_35 (tget s.t 1) (tget s.t 3) (tget s.t 24) (tget s.t 25) (tget s.t 26) (tget s.t 27) s.h :=
  (W_seq (k := (fun s => flow_Heads_32 (tget s.t 1) (tget s.t 3) (tget s.t 24) (tget s.t 25) (tget s.t 26) s.h)) (fun s => flow_Heads_34_eq s)).trans (by kernel_rfl)

noncomputable def flow_Heads_36 (v1 v3 v24 v25 v26 : AV) (h : Heap) : Option (Ex AV) :=
ob (evBin .lss v26 v25) fun v27 =>
(flow_Heads_35 v1 v3 v24 v25 v26 v27 h)

theorem flow_Heads_36_eq (s : St) : W E 0 c_flow_Heads_36 s (fun s => flow_Heads_L28 (tget s.t 1) (tget s.t 3) (tget s.t 24) (tget s.t 25) (tget s.t 26) s.h) (exitTo 0 (fun s => flow_Heads_26 (tget s.t 1) (tget s.t 3) s.h) (fun _ _ => none)) (finP [.t 2]) = flow_Heads_36 (tget s.t 1) (tget s.t 3) (tget s.t 24) (tget s.t 25) (tget s.t 26) s.h :=
  (W_seq (k := (fun s => flow_Heads_35 (tget s.t 1) (tget s.t 3) (tget s.t 24) (tget s.t 25) (tget s.t 26) (tget s.t 27) s.h)) (fun s => flow_Heads_35_eq s)).trans (by kernel_rfl)

theorem flow_Heads_L28_go (v1 v3 v24 v25 v26 : AV) (h : Heap) : flow_Heads_L28 v1 v3 v24 v25 v26 h = (flow_Heads_36 v1 v3 v24 v25 v26 h) :=
  W_loop.trans ((W_congr _ _ _ (n' := (fun s => flow_Heads_L28 (tget s.t 1) (tget s.t 3) (tget s.t 24) (tget s.t 25) (tget s.t 26) s.h)) (fun s => flow_Heads_L28_eq s)).trans ((flow_Heads_36_eq _).trans (by kernel_rfl)))

theorem flow_Heads_37_eq (s : St) : W E 0 c_flow_Heads_37 s (fun s => flow_Heads_26 (tget s.t 1) (tget s.t 3) s.h) (fun _ _ => none) (finP [.t 2]) = flow_Heads_L28 (tget s.t 1) (tget s.t 3) (tget s.t 24) (tget s.t 25) (tget s.t 26) s.h :=
  W_block.trans (flow_Heads_L28_eq s)

noncomputable def flow_Heads_38 (v1 v3 : AV) (h : Heap) : Option (Ex AV) :=
ob (evFa 3 v1) fun v23 =>
ob (evLd false 1 v23 h) fun v24 =>
ob (evLen 1 v24 h) fun v25 =>
(flow_Heads_L28 v1 v3 v24 v25 (AV.int .i64 0) h)

theorem flow_Heads_38_eq (s : St) : W E 0 c_flow_Heads_38 s (fun s => flow_Heads_26 (tget s.t 1) (tget s.t 3) s.h) (fun _ _ => none) (finP [.t 2]) = flow_Heads_38 (tget s.t 1) (tget s.t 3) s.h :=
  (W_seq (k := (fun s => flow_Heads_L28 (tget s.t 1) (tget s.t 3) (tget s.t 24) (tget s.t 25) (tget s.t 26) s.h)) (fun s => flow_Heads_37_eq s)).trans (by kernel_rfl)

theorem flow_Heads_39_eq (s : St) : W E 0 c_flow_Heads_39 s (finP [.t 2]) (fun _ _ => none) (finP [.t 2]) = flow_Heads_38 (tget s.t 1) (tget s.t 3) s.h :=
  (W_seq (k := (fun s => flow_Heads_26 (tget s.t 1) (tget s.t 3) s.h)) (fun s => flow_Heads_27_eq s)).trans (flow_Heads_38_eq s)

noncomputable def flow_Heads_40 (v1 v3 : AV) (h : Heap) : Option (Ex AV) :=
ob (evFa 3 v1) fun v17 =>
ob (evLd false 1 v17 h) fun v18 =>
ob (evLen 1 v18 h) fun v19 =>
ob (evBin .gtr v19 (AV.int .i64 0)) fun v20 =>
cnd v20
 (ob (evIxs 1 v3 (AV.int .i64 0)) fun v22 =>
oh (evSt 1 v22 (AV.bool true) h) fun _ h14 =>
(flow_Heads_38 v1 v3 h14))
 ((flow_Heads_38 v1 v3 h))

theorem flow_Heads_40_eq (s : St) : W E 0 c_flow_Heads_40 s (finP [.t 2]) (fun _ _ => none) (finP [.t 2]) = flow_Heads_40 (tget s.t 1) (tget s.t 3) s.h :=
  (W_seq (k := (fun s => flow_Heads_38 (tget s.t 1) (tget s.t 3) s.h)) (fun s => flow_Heads_39_eq s)).trans (by kernel_rfl)

noncomputable def flow_Heads_41 (v1 : AV) (h : Heap) : Option (Ex AV) :=
ob (evFa 3 v1) fun v12 =>
ob (evLd false 1 v12 h) fun v13 =>
ob (evLen 1 v13 h) fun v14 =>
ob (evBin .add v14 (AV.int .i64 1)) fun v15 =>
oh (mkSC 0 (some 1) 1 1 [(.bool false)] v15 v15 h) fun v16 h15 =>
(flow_Heads_40 v1 v16 h15)

theorem flow_Heads_41_eq (s : St) : W E 0 c_flow_Heads_41 s (finP [.t 2]) (fun _ _ => none) (finP [.t 2]) = flow_Heads_41 (tget s.t 1) s.h :=
  (W_seq (k := (fun s => flow_Heads_40 (tget s.t 1) (tget s.t 3) s.h)) (fun s => flow_Heads_40_eq s)).trans (by kernel_rfl)

noncomputable def flow_Heads_42 (v0 : AV) (h : Heap) : Option (Ex AV) :=
oh (newC 0 (some 0) (cellsOf v0) h) fun v1 h16 =>
(flow_Heads_41 v1 h16)

theorem flow_Heads_42_eq (s : St) : W E 0 c_flow_Heads_42 s (finP [.t 2]) (fun _ _ => none) (finP [.t 2]) = flow_Heads_42 (tget s.t 0) s.h :=
  (W_seq (k := (fun s => flow_Heads_41 (tget s.t 1) s.h)) (fun s => flow_Heads_41_eq s)).trans (by kernel_rfl)

@[simp] theorem pure_102 : E.pure 102 = true := rfl

theorem x_flow_Heads (v0 : AV) : (callW E).p 102 [v0] = flow_Heads_42 v0 [⟨0, .dead⟩, ⟨0, .dead⟩, ⟨0, .dead⟩, ⟨0, .dead⟩, ⟨0, .dead⟩, ⟨0, .dead⟩, ⟨0, .dead⟩] :=
  (callP_W (cf := c_flow_Heads) (by kernel_rfl) rfl).trans ((flow_Heads_42_eq _).trans (by kernel_rfl))

noncomputable def regletref11_Heads_1 (v3 : AV) (h : Heap) : Option (Ex AV) :=
(expo1 h v3)

theorem regletref11_Heads_1_eq (s : St) : W E 0 c_regletref11_Heads_1 s (finP [.t 2]) (fun _ _ => none) (finP [.t 2]) = regletref11_Heads_1 (tget s.t 3) s.h :=
  by kernel_rfl

noncomputable def regletref11_Heads_L2 (v1 v3 v4 : AV) (h : Heap) : Option (Ex AV) :=
  W E 0 c_regletref11_Heads_L2 ⟨[(1, v1), (3, v3), (4, v4)], h⟩ (fun s => regletref11_Heads_1 (tget s.t 3) s.h) (exitTo 0 (fun s => regletref11_Heads_1 (tget s.t 3) s.h) (fun _ _ => none)) (finP [.t 2])

theorem regletref11_Heads_L2_eq (s : St) : W E 0 c_regletref11_Heads_L2 s (fun s => regletref11_Heads_1 (tget s.t 3) s.h) (exitTo 0 (fun s => regletref11_Heads_1 (tget s.t 3) s.h) (fun _ _ => none)) (finP [.t 2]) = regletref11_Heads_L2 (tget s.t 1) (tget s.t 3) (tget s.t 4) s.h := W_loop_live.trans (by kernel_rfl)

noncomputable def regletref11_Heads_3 (v1 v3 v4 : AV) (h : Heap) : Option (Ex AV) :=
ob (evBin .add v4 (AV.int .i64 1)) fun v15 =>
(regletref11_Heads_L2 v1 v3 v15 h)

theorem regletref11_Heads_3_eq (s : St) : W E 0 c_regletref11_Heads_3 s (fun s => regletref11_Heads_L2 (tget s.t 1) (tget s.t 3) (tget s.t 4) s.h) (exitTo 0 (fun s => regletref11_Heads_1 (tget s.t 3) s.h) (fun _ _ => none)) (finP [.t 2]) = regletref11_Heads_3 (tget s.t 1) (tget s.t 3) (tget s.t 4) s.h :=
  by kernel_rfl

noncomputable def regletref11_Heads_4 (v1 v3 v4 v5 : AV) (h : Heap) : Option (Ex AV) :=
cnd v5
 (oh (buildSC 0 (some 1) 1 1 [(.int .i64 0)] [(0, v4)] h) fun v103 h1 =>
oh (evApp 0 (some 2) 1 8 v3 v103 h1) fun v104 h2 =>
(regletref11_Heads_3 v1 v104 v4 h2))
 ((regletref11_Heads_3 v1 v3 v4 h))

theorem regletref11_Heads_4_eq (s : St) : W E 0 c_regletref11_Heads_4 s (fun s => regletref11_Heads_3 (tget s.t 1) (tget s.t 3) (tget s.t 4) s.h) (exitTo 1 (fun s => regletref11_Heads_3 (tget s.t 1) (tget s.t 3) (tget s.t 4) s.h) (exitTo 0 (fun s => regletref11_Heads_1 (tget s.t 3) s.h) (fun _ _ => none))) (finP [.t 2]) = regletref11_Heads_4 (tget s.t 1) (tget s.t 3) (tget s.t 4) (tget s.t 5) s.h :=
  by kernel_rfl

noncomputable def regletref11_Heads_L5 (v1 v3 v4 v5 v8 : AV) (h : Heap) : Option (Ex AV) :=
  W E 0 c_regletref11_Heads_L5 ⟨[(1, v1), (3, v3), (4, v4), (5, v5), (8, v8)], h⟩ (fun s => regletref11_Heads_4 (tget s.t 1) (tget s.t 3) (tget s.t 4) (tget s.t 5) s.h) (exitTo 4 (fun s => regletref11_Heads_4 (tget s.t 1) (tget s.t 3) (tget s.t 4) (tget s.t 5) s.h) (exitTo 1 (fun s => regletref11_Heads_3 (tget s.t 1) (tget s.t 3) (tget s.t 4) s.h) (exitTo 0 (fun s => regletref11_Heads_1 (tget s.t 3) s.h) (fun _ _ => none)))) (finP [.t 2])

theorem regletref11_Heads_L5_eq (s : St) : W E 0 c_regletref11_Heads_L5 s (fun s => regletref11_Heads_4 (tget s.t 1) (tget s.t 3) (tget s.t 4) (tget s.t 5) s.h) (exitTo 4 (fun s => regletref11_Heads_4 (tget s.t 1) (tget s.t 3) (tget s.t 4) (tget s.t 5) s.h) (exitTo 1 (fun s => regletref11_Heads_3 (tget s.t 1) (tget s.t 3) (tget s.t 4) s.h) (exitTo 0 (fun s => regletref11_Heads_1 (tget s.t 3) s.h) (fun _ _ => none)))) (finP [.t 2]) = regletref11_Heads_L5 (tget s.t 1) (tget s.t 3) (tget s.t 4) (tget s.t 5) (tget s.t 8) s.h := W_loop_live.trans (by kernel_rfl)

noncomputable def regletref11_Heads_6 (v1 v3 v4 v5 v8 : AV) (h : Heap) : Option (Ex AV) :=
ob (evBin .add v8 (AV.int .i64 1)) fun v71 =>
(regletref11_Heads_L5 v1 v3 v4 v5 v71 h)

theorem regletref11_Heads_6_eq (s : St) : W E 0 c_regletref11_Heads_6 s (fun s => regletref11_Heads_L5 (tget s.t 1) (tget s.t 3) (tget s.t 4) (tget s.t 5) (tget s.t 8) s.h) (exitTo 4 (fun s => regletref11_Heads_4 (tget s.t 1) (tget s.t 3) (tget s.t 4) (tget s.t 5) s.h) (exitTo 1 (fun s => regletref11_Heads_3 (tget s.t 1) (tget s.t 3) (tget s.t 4) s.h) (exitTo 0 (fun s => regletref11_Heads_1 (tget s.t 3) s.h) (fun _ _ => none)))) (finP [.t 2]) = regletref11_Heads_6 (tget s.t 1) (tget s.t 3) (tget s.t 4) (tget s.t 5) (tget s.t 8) s.h :=
  by kernel_rfl

noncomputable def regletref11_Heads_7 (v1 v3 v4 v8 : AV) (h : Heap) : Option (Ex AV) :=
ob (evFa 4 v1) fun v72 =>
ob (evLd false 1 v72 h) fun v73 =>
ob (evIxs 4 v73 v8) fun v75 =>
ob (evFa 0 v75) fun v76 =>
ob (evLd false 1 v76 h) fun v77 =>
ob (evBin .eql v77 v4) fun v79 =>
gb v79 false (evFa 4 v1) fun v81 =>
gb v79 false (evLd false 1 v81 h) fun v82 =>
gb v79 false (some v8) fun v83 =>
gb v79 false (evIxs 4 v82 v83) fun v84 =>
gb v79 false (evFa 1 v84) fun v85 =>
gb v79 false (evLd false 1 v85 h) fun v86 =>
gb v79 false (some v4) fun v87 =>
gb v79 false (evBin .eql v86 v87) fun v88 =>
ob (evPick v79 (AV.bool true) v88) fun v89 =>
gb v89 false (evFa 4 v1) fun v91 =>
gb v89 false (evLd false 1 v91 h) fun v92 =>
gb v89 false (some v8) fun v93 =>
gb v89 false (evIxs 4 v92 v93) fun v94 =>
gb v89 false (evFa 2 v94) fun v95 =>
gb v89 false (evLd false 1 v95 h) fun v96 =>
gb v89 false (some v4) fun v97 =>
gb v89 false (evBin .eql v96 v97) fun v98 =>
ob (evPick v89 (AV.bool true) v98) fun v99 =>
(regletref11_Heads_6 v1 v3 v4 v99 v8 h)

theorem regletref11_Heads_7_eq (s : St) : W E 0 c_regletref11_Heads_7 s (fun s => regletref11_Heads_L5 (tget s.t 1) (tget s.t 3) (tget s.t 4) (tget s.t 5) (tget s.t 8) s.h) (exitTo 4 (fun s => regletref11_Heads_4 (tget s.t 1) (tget s.t 3) (tget s.t 4) (tget s.t 5) s.h) (exitTo 1 (fun s => regletref11_Heads_3 (tget s.t 1) (tget s.t 3) (tget s.t 4) s.h) (exitTo 0 (fun s => regletref11_Heads_1 (tget s.t 3) s.h) (fun _ _ => none)))) (finP [.t 2]) = regletref11_Heads_7 (tget s.t 1) (tget s.t 3) (tget s.t 4) (tget s.t 8) s.h :=
  (W_seq (k := (fun s => regletref11_Heads_6 (tget s.t 1) (tget s.t 3) (tget s.t 4) (tget s.t 5) (tget s.t 8) s.h)) (fun s => regletref11_Heads_6_eq s)).trans (by kernel_rfl)

noncomputable def regletref11_Heads_8 (v1 v3 v4 v5 v8 : AV) (h : Heap) : Option (Ex AV) :=
ob (evFa 4 v1) fun v62 =>
ob (evLd false 1 v62 h) fun v63 =>
ob (evLen 1 v63 h) fun v64 =>
ob (evBin .lss v8 v64) fun v65 =>
gb v65 true (some v5) fun v67 =>
gb v65 true (evUn .not v67) fun v68 =>
ob (evPick v65 v68 (AV.bool false)) fun v69 =>
cnd v69
 ((regletref11_Heads_7 v1 v3 v4 v8 h))
 ((regletref11_Heads_4 v1 v3 v4 v5 h))

theorem regletref11_Heads_8_eq (s : St) : W E 0 c_regletref11_Heads_8 s (fun s => regletref11_Heads_L5 (tget s.t 1) (tget s.t 3) (tget s.t 4) (tget s.t 5) (tget s.t 8) s.h) (exitTo 4 (fun s => regletref11_Heads_4 (tget s.t 1) (tget s.t 3) (tget s.t 4) (tget s.t 5) s.h) (exitTo 1 (fun s => regletref11_Heads_3 (tget s.t 1) (tget s.t 3) (tget s.t 4) s.h) (exitTo 0 (fun s => regletref11_Heads_1 (tget s.t 3) s.h) (fun _ _ => none)))) (finP [.t 2]) = regletref11_Heads_8 (tget s.t 1) (tget s.t 3) (tget s.t 4) (tget s.t 5) (tget s.t 8) s.h :=
  (W_seq (k := (fun s => regletref11_Heads_7 (tget s.t 1) (tget s.t 3) (tget s.t 4) (tget s.t 8) s.h)) (fun s => regletref11_Heads_7_eq s)).trans (by kernel_rfl)

theorem regletref11_Heads_L5_go (v1 v3 v4 v5 v8 : AV) (h : Heap) : regletref11_Heads_L5 v1 v3 v4 v5 v8 h = (regletref11_Heads_8 v1 v3 v4 v5 v8 h) :=
  W_loop.trans ((W_congr _ _ _ (n' := (fun s => regletref11_Heads_L5 (tget s.t 1) (tget s.t 3) (tget s.t 4) (tget s.t 5) (tget s.t 8) s.h)) (fun s => regletref11_Heads_L5_eq s)).trans ((regletref11_Heads_8_eq _).trans (by kernel_rfl)))

theorem regletref11_Heads_9_eq (s : St) : W E 0 c_regletref11_Heads_9 s (fun s => regletref11_Heads_4 (tget s.t 1) (tget s.t 3) (tget s.t 4) (tget s.t 5) s.h) (exitTo 1 (fun s => regletref11_Heads_3 (tget s.t 1) (tget s.t 3) (tget s.t 4) s.h) (exitTo 0 (fun s => regletref11_Heads_1 (tget s.t 3) s.h) (fun _ _ => none))) (finP [.t 2]) = regletref11_Heads_L5 (tget s.t 1) (tget s.t 3) (tget s.t 4) (tget s.t 5) (tget s.t 8) s.h :=
  W_block.trans (regletref11_Heads_L5_eq s)

noncomputable def regletref11_Heads_10 (v1 v3 v4 v5 : AV) (h : Heap) : Option (Ex AV) :=
(regletref11_Heads_L5 v1 v3 v4 v5 (AV.int .i64 0) h)

theorem regletref11_Heads_10_eq (s : St) : W E 0 c_regletref11_Heads_10 s (fun s => regletref11_Heads_4 (tget s.t 1) (tget s.t 3) (tget s.t 4) (tget s.t 5) s.h) (exitTo 1 (fun s => regletref11_Heads_3 (tget s.t 1) (tget s.t 3) (tget s.t 4) s.h) (exitTo 0 (fun s => regletref11_Heads_1 (tget s.t 3) s.h) (fun _ _ => none))) (finP [.t 2]) = regletref11_Heads_10 (tget s.t 1) (tget s.t 3) (tget s.t 4) (tget s.t 5) s.h :=
  (W_seq (k := (fun s => regletref11_Heads_L5 (tget s.t 1) (tget s.t 3) (tget s.t 4) (tget s.t 5) (tget s.t 8) s.h)) (fun s => regletref11_Heads_9_eq s)).trans (by kernel_rfl)

theorem regletref11_Heads_11_eq (s : St) : W E 0 c_regletref11_Heads_11 s (fun s => regletref11_Heads_3 (tget s.t 1) (tget s.t 3) (tget s.t 4) s.h) (exitTo 1 (fun s => regletref11_Heads_3 (tget s.t 1) (tget s.t 3) (tget s.t 4) s.h) (exitTo 0 (fun s => regletref11_Heads_1 (tget s.t 3) s.h) (fun _ _ => none))) (finP [.t 2]) = regletref11_Heads_10 (tget s.t 1) (tget s.t 3) (tget s.t 4) (tget s.t 5) s.h :=
  (W_seq (k := (fun s => regletref11_Heads_4 (tget s.t 1) (tget s.t 3) (tget s.t 4) (tget s.t 5) s.h)) (fun s => regletref11_Heads_4_eq s)).trans (regletref11_Heads_10_eq s)

noncomputable def regletref11_Heads_L12 (v1 v3 v4 v5 v7 : AV) (h : Heap) : Option (Ex AV) :=
  W E 0 c_regletref11_Heads_L12 ⟨[(1, v1), (3, v3), (4, v4), (5, v5), (7, v7)], h⟩ (fun s => regletref11_Heads_10 (tget s.t 1) (tget s.t 3) (tget s.t 4) (tget s.t 5) s.h) (exitTo 2 (fun s => regletref11_Heads_10 (tget s.t 1) (tget s.t 3) (tget s.t 4) (tget s.t 5) s.h) (exitTo 1 (fun s => regletref11_Heads_3 (tget s.t 1) (tget s.t 3) (tget s.t 4) s.h) (exitTo 0 (fun s => regletref11_Heads_1 (tget s.t 3) s.h) (fun _ _ => none)))) (finP [.t 2])

theorem regletref11_Heads_L12_eq (s : St) : W E 0 c_regletref11_Heads_L12 s (fun s => regletref11_Heads_10 (tget s.t 1) (tget s.t 3) (tget s.t 4) (tget s.t 5) s.h) (exitTo 2 (fun s => regletref11_Heads_10 (tget s.t 1) (tget s.t 3) (tget s.t 4) (tget s.t 5) s.h) (exitTo 1 (fun s => regletref11_Heads_3 (tget s.t 1) (tget s.t 3) (tget s.t 4) s.h) (exitTo 0 (fun s => regletref11_Heads_1 (tget s.t 3) s.h) (fun _ _ => none)))) (finP [.t 2]) = regletref11_Heads_L12 (tget s.t 1) (tget s.t 3) (tget s.t 4) (tget s.t 5) (tget s.t 7) s.h := W_loop_live.trans (by kernel_rfl)

noncomputable def regletref11_Heads_13 (v1 v3 v4 v5 v7 : AV) (h : Heap) : Option (Ex AV) :=
ob (evBin .add v7 (AV.int .i64 1)) fun v43 =>
(regletref11_Heads_L12 v1 v3 v4 v5 v43 h)

theorem regletref11_Heads_13_eq (s : St) : W E 0 c_regletref11_Heads_13 s (fun s => regletref11_Heads_L12 (tget s.t 1) (tget s.t 3) (tget s.t 4) (tget s.t 5) (tget s.t 7) s.h) (exitTo 2 (fun s => regletref11_Heads_10 (tget s.t 1) (tget s.t 3) (tget s.t 4) (tget s.t 5) s.h) (exitTo 1 (fun s => regletref11_Heads_3 (tget s.t 1) (tget s.t 3) (tget s.t 4) s.h) (exitTo 0 (fun s => regletref11_Heads_1 (tget s.t 3) s.h) (fun _ _ => none)))) (finP [.t 2]) = regletref11_Heads_13 (tget s.t 1) (tget s.t 3) (tget s.t 4) (tget s.t 5) (tget s.t 7) s.h :=
  by kernel_rfl

noncomputable def regletref11_Heads_14 (v1 v3 v4 v7 : AV) (h : Heap) : Option (Ex AV) :=
ob (evFa 3 v1) fun v44 =>
ob (evLd false 1 v44 h) fun v45 =>
ob (evIxs 9 v45 v7) fun v47 =>
ob (evFa 0 v47) fun v48 =>
ob (evLd false 1 v48 h) fun v49 =>
oh (callAny E (callW E) 0 none true 23 [v49] h) fun v50 h3 =>
gb v50 true (evFa 3 v1) fun v52 =>
gb v50 true (evLd false 1 v52 h3) fun v53 =>
gb v50 true (some v7) fun v54 =>
gb v50 true (evIxs 9 v53 v54) fun v55 =>
gb v50 true (evFa 6 v55) fun v56 =>
gb v50 true (evLd false 1 v56 h3) fun v57 =>
gb v50 true (some v4) fun v58 =>
gb v50 true (evBin .eql v57 v58) fun v59 =>
ob (evPick v50 v59 (AV.bool false)) fun v60 =>
(regletref11_Heads_13 v1 v3 v4 v60 v7 h3)

theorem regletref11_Heads_14_eq (s : St) : W E 0 c_regletref11_Heads_14 s (fun s => regletref11_Heads_L12 (tget s.t 1) (tget s.t 3) (tget s.t 4) (tget s.t 5) (tget s.t 7) s.h) (exitTo 2 (fun s => regletref11_Heads_10 (tget s.t 1) (tget s.t 3) (tget s.t 4) (tget s.t 5) s.h) (exitTo 1 (fun s => regletref11_Heads_3 (tget s.t 1) (tget s.t 3) (tget s.t 4) s.h) (exitTo 0 (fun s => regletref11_Heads_1 (tget s.t 3) s.h) (fun _ _ => none)))) (finP [.t 2]) = regletref11_Heads_14 (tget s.t 1) (tget s.t 3) (tget s.t 4) (tget s.t 7) s.h :=
  (W_seq (k := (fun s => regletref11_Heads_13 (tget s.t 1) (tget s.t 3) (tget s.t 4) (tget s.t 5) (tget s.t 7) s.h)) (fun s => regletref11_Heads_13_eq s)).trans (by kernel_rfl)

noncomputable def regletref11_Heads_15 (v1 v3 v4 v5 v7 : AV) (h : Heap) : Option (Ex AV) :=
ob (evFa 3 v1) fun v34 =>
ob (evLd false 1 v34 h) fun v35 =>
ob (evLen 1 v35 h) fun v36 =>
ob (evBin .lss v7 v36) fun v37 =>
gb v37 true (some v5) fun v39 =>
gb v37 true (evUn .not v39) fun v40 =>
ob (evPick v37 v40 (AV.bool false)) fun v41 =>
cnd v41
 ((regletref11_Heads_14 v1 v3 v4 v7 h))
 ((regletref11_Heads_10 v1 v3 v4 v5 h))

theorem regletref11_Heads_15_eq (s : St) : W E 0 c_regletref11_Heads_15 s (fun s => regletref11_Heads_L12 (tget s.t 1) (tget s.t 3) (tget s.t 4) (tget s.t 5) (tget s.t 7) s.h) (exitTo 2 (fun s => regletref11_Heads_10 (tget s.t 1) (tget s.t 3) (tget s.t 4) (tget s.t 5) s.h) (exitTo 1 (fun s => regletref11_Heads_3 (tget s.t 1) (tget s.t 3) (tget s.t 4) s.h) (exitTo 0 (fun s => regletref11_Heads_1 (tget s.t 3) s.h) (fun _ _ => none)))) (finP [.t 2]) = regletref11_Heads_15 (tget s.t 1) (tget s.t 3) (tget s.t 4) (tget s.t 5) (tget s.t 7) s.h :=
  (W_seq (k := (fun s => regletref11_Heads_14 (tget s.t 1) (tget s.t 3) (tget s.t 4) (tget s.t 7) s.h)) (fun s => regletref11_Heads_14_eq s)).trans (by kernel_rfl)

theorem regletref11_Heads_L12_go (v1 v3 v4 v5 v7 : AV) (h : Heap) : regletref11_Heads_L12 v1 v3 v4 v5 v7 h = (regletref11_Heads_15 v1 v3 v4 v5 v7 h) :=
  W_loop.trans ((W_congr _ _ _ (n' := (fun s => regletref11_Heads_L12 (tget s.t 1) (tget s.t 3) (tget s.t 4) (tget s.t 5) (tget s.t 7) s.h)) (fun s => regletref11_Heads_L12_eq s)).trans ((regletref11_Heads_15_eq _).trans (by kernel_rfl)))

theorem regletref11_Heads_16_eq (s : St) : W E 0 c_regletref11_Heads_16 s (fun s => regletref11_Heads_10 (tget s.t 1) (tget s.t 3) (tget s.t 4) (tget s.t 5) s.h) (exitTo 1 (fun s => regletref11_Heads_3 (tget s.t 1) (tget s.t 3) (tget s.t 4) s.h) (exitTo 0 (fun s => regletref11_Heads_1 (tget s.t 3) s.h) (fun _ _ => none))) (finP [.t 2]) = regletref11_Heads_L12 (tget s.t 1) (tget s.t 3) (tget s.t 4) (tget s.t 5) (tget s.t 7) s.h :=
  W_block.trans (regletref11_Heads_L12_eq s)

noncomputable def regletref11_Heads_17 (v1 v3 v4 v5 : AV) (h : Heap) : Option (Ex AV) :=
(regletref11_Heads_L12 v1 v3 v4 v5 (AV.int .i64 0) h)

theorem regletref11_Heads_17_eq (s : St) : W E 0 c_regletref11_Heads_17 s (fun s => regletref11_Heads_10 (tget s.t 1) (tget s.t 3) (tget s.t 4) (tget s.t 5) s.h) (exitTo 1 (fun s => regletref11_Heads_3 (tget s.t 1) (tget s.t 3) (tget s.t 4) s.h) (exitTo 0 (fun s => regletref11_Heads_1 (tget s.t 3) s.h) (fun _ _ => none))) (finP [.t 2]) = regletref11_Heads_17 (tget s.t 1) (tget s.t 3) (tget s.t 4) (tget s.t 5) s.h :=
  (W_seq (k := (fun s => regletref11_Heads_L12 (tget s.t 1) (tget s.t 3) (tget s.t 4) (tget s.t 5) (tget s.t 7) s.h)) (fun s => regletref11_Heads_16_eq s)).trans (by kernel_rfl)

theorem regletref11_Heads_18_eq (s : St) : W E 0 c_regletref11_Heads_18 s (fun s => regletref11_Heads_3 (tget s.t 1) (tget s.t 3) (tget s.t 4) s.h) (exitTo 1 (fun s => regletref11_Heads_3 (tget s.t 1) (tget s.t 3) (tget s.t 4) s.h) (exitTo 0 (fun s => regletref11_Heads_1 (tget s.t 3) s.h) (fun _ _ => none))) (finP [.t 2]) = regletref11_Heads_17 (tget s.t 1) (tget s.t 3) (tget s.t 4) (tget s.t 5) s.h :=
  (W_seq (k := (fun s => regletref11_Heads_10 (tget s.t 1) (tget s.t 3) (tget s.t 4) (tget s.t 5) s.h)) (fun s => regletref11_Heads_11_eq s)).trans (regletref11_Heads_17_eq s)

noncomputable def regletref11_Heads_19 (v1 v3 v4 v5 : AV) (h : Heap) : Option (Ex AV) :=
ob (evBin .gtr v4 (AV.int .i64 0)) fun v19 =>
cnd v19
 (ob (evFa 3 v1) fun v20 =>
ob (evLd false 1 v20 h) fun v21 =>
ob (evBin .sub v4 (AV.int .i64 1)) fun v23 =>
ob (evIxs 9 v21 v23) fun v24 =>
ob (evFa 0 v24) fun v25 =>
ob (evLd false 1 v25 h) fun v26 =>
oh (callAny E (callW E) 0 none true 23 [v26] h) fun v28 h4 =>
gb v28 false (some v26) fun v30 =>
gh v28 false (callAny E (callW E) 0 none true 25 [v30] h4) h4 fun v31 h5 =>
ob (evPick v28 (AV.bool true) v31) fun v32 =>
(regletref11_Heads_17 v1 v3 v4 v32 h5))
 ((regletref11_Heads_17 v1 v3 v4 v5 h))

theorem regletref11_Heads_19_eq (s : St) : W E 0 c_regletref11_Heads_19 s (fun s => regletref11_Heads_3 (tget s.t 1) (tget s.t 3) (tget s.t 4) s.h) (exitTo 1 (fun s => regletref11_Heads_3 (tget s.t 1) (tget s.t 3) (tget s.t 4) s.h) (exitTo 0 (fun s => regletref11_Heads_1 (tget s.t 3) s.h) (fun _ _ => none))) (finP [.t 2]) = regletref11_Heads_19 (tget s.t 1) (tget s.t 3) (tget s.t 4) (tget s.t 5) s.h :=
  (W_seq (k := (fun s => regletref11_Heads_17 (tget s.t 1) (tget s.t 3) (tget s.t 4) (tget s.t 5) s.h)) (fun s => regletref11_Heads_18_eq s)).trans (by kernel_rfl)

noncomputable def regletref11_Heads_20 (v1 v3 v4 : AV) (h : Heap) : Option (Ex AV) :=
ob (evBin .eql v4 (AV.int .i64 0)) fun v17 =>
(regletref11_Heads_19 v1 v3 v4 v17 h)

theorem regletref11_Heads_20_eq (s : St) : W E 0 c_regletref11_Heads_20 s (fun s => regletref11_Heads_3 (tget s.t 1) (tget s.t 3) (tget s.t 4) s.h) (exitTo 1 (fun s => regletref11_Heads_3 (tget s.t 1) (tget s.t 3) (tget s.t 4) s.h) (exitTo 0 (fun s => regletref11_Heads_1 (tget s.t 3) s.h) (fun _ _ => none))) (finP [.t 2]) = regletref11_Heads_20 (tget s.t 1) (tget s.t 3) (tget s.t 4) s.h :=
  (W_seq (k := (fun s => regletref11_Heads_19 (tget s.t 1) (tget s.t 3) (tget s.t 4) (tget s.t 5) s.h)) (fun s => regletref11_Heads_19_eq s)).trans (by kernel_rfl)

theorem regletref11_Heads_21_eq (s : St) : W E 0 c_regletref11_Heads_21 s (fun s => regletref11_Heads_3 (tget s.t 1) (tget s.t 3) (tget s.t 4) s.h) (exitTo 0 (fun s => regletref11_Heads_1 (tget s.t 3) s.h) (fun _ _ => none)) (finP [.t 2]) = regletref11_Heads_20 (tget s.t 1) (tget s.t 3) (tget s.t 4) s.h :=
  W_block.trans (regletref11_Heads_20_eq s)

theorem regletref11_Heads_22_eq (s : St) : W E 0 c_regletref11_Heads_22 s (fun s => regletref11_Heads_L2 (tget s.t 1) (tget s.t 3) (tget s.t 4) s.h) (exitTo 0 (fun s => regletref11_Heads_1 (tget s.t 3) s.h) (fun _ _ => none)) (finP [.t 2]) = regletref11_Heads_20 (tget s.t 1) (tget s.t 3) (tget s.t 4) s.h :=
  (W_seq (k := (fun s => regletref11_Heads_3 (tget s.t 1) (tget s.t 3) (tget s.t 4) s.h)) (fun s => regletref11_Heads_3_eq s)).trans (regletref11_Heads_21_eq s)

noncomputable def regletref11_Heads_23 (v1 v3 v4 : AV) (h : Heap) : Option (Ex AV) :=
ob (evFa 3 v1) fun v10 =>
ob (evLd false 1 v10 h) fun v11 =>
ob (evLen 1 v11 h) fun v12 =>
ob (evBin .lss v4 v12) fun v13 =>
cnd v13
 ((regletref11_Heads_20 v1 v3 v4 h))
 ((regletref11_Heads_1 v3 h))

theorem regletref11_Heads_23_eq (s : St) : W E 0 c_regletref11_Heads_23 s (fun s => regletref11_Heads_L2 (tget s.t 1) (tget s.t 3) (tget s.t 4) s.h) (exitTo 0 (fun s => regletref11_Heads_1 (tget s.t 3) s.h) (fun _ _ => none)) (finP [.t 2]) = regletref11_Heads_23 (tget s.t 1) (tget s.t 3) (tget s.t 4) s.h :=
  (W_seq (k := (fun s => regletref11_Heads_20 (tget s.t 1) (tget s.t 3) (tget s.t 4) s.h)) (fun s => regletref11_Heads_22_eq s)).trans (by kernel_rfl)

theorem regletref11_Heads_L2_go (v1 v3 v4 : AV) (h : Heap) : regletref11_Heads_L2 v1 v3 v4 h = (regletref11_Heads_23 v1 v3 v4 h) :=
  W_loop.trans ((W_congr _ _ _ (n' := (fun s => regletref11_Heads_L2 (tget s.t 1) (tget s.t 3) (tget s.t 4) s.h)) (fun s => regletref11_Heads_L2_eq s)).trans ((regletref11_Heads_23_eq _).trans (by kernel_rfl)))

theorem regletref11_Heads_24_eq (s : St) : W E 0 c_regletref11_Heads_24 s (fun s => regletref11_Heads_1 (tget s.t 3) s.h) (fun _ _ => none) (finP [.t 2]) = regletref11_Heads_L2 (tget s.t 1) (tget s.t 3) (tget s.t 4) s.h :=
  W_block.trans (regletref11_Heads_L2_eq s)

noncomputable def regletref11_Heads_25 (v1 v3 : AV) (h : Heap) : Option (Ex AV) :=
(regletref11_Heads_L2 v1 v3 (AV.int .i64 0) h)

theorem regletref11_Heads_25_eq (s : St) : W E 0 c_regletref11_Heads_25 s (fun s => regletref11_Heads_1 (tget s.t 3) s.h) (fun _ _ => none) (finP [.t 2]) = regletref11_Heads_25 (tget s.t 1) (tget s.t 3) s.h :=
  (W_seq (k := (fun s => regletref11_Heads_L2 (tget s.t 1) (tget s.t 3) (tget s.t 4) s.h)) (fun s => regletref11_Heads_24_eq s)).trans (by kernel_rfl)

theorem regletref11_Heads_26_eq (s : St) : W E 0 c_regletref11_Heads_26 s (finP [.t 2]) (fun _ _ => none) (finP [.t 2]) = regletref11_Heads_25 (tget s.t 1) (tget s.t 3) s.h :=
  (W_seq (k := (fun s => regletref11_Heads_1 (tget s.t 3) s.h)) (fun s => regletref11_Heads_1_eq s)).trans (regletref11_Heads_25_eq s)

noncomputable def regletref11_Heads_27 (v1 : AV) (h : Heap) : Option (Ex AV) :=
(regletref11_Heads_25 v1 AV.nils h)

theorem regletref11_Heads_27_eq (s : St) : W E 0 c_regletref11_Heads_27 s (finP [.t 2]) (fun _ _ => none) (finP [.t 2]) = regletref11_Heads_27 (tget s.t 1) s.h :=
  (W_seq (k := (fun s => regletref11_Heads_25 (tget s.t 1) (tget s.t 3) s.h)) (fun s => regletref11_Heads_26_eq s)).trans (by kernel_rfl)

noncomputable def regletref11_Heads_28 (v0 : AV) (h : Heap) : Option (Ex AV) :=
oh (newC 0 (some 0) (cellsOf v0) h) fun v1 h6 =>
(regletref11_Heads_27 v1 h6)

theorem regletref11_Heads_28_eq (s : St) : W E 0 c_regletref11_Heads_28 s (finP [.t 2]) (fun _ _ => none) (finP [.t 2]) = regletref11_Heads_28 (tget s.t 0) s.h :=
  (W_seq (k := (fun s => regletref11_Heads_27 (tget s.t 1) s.h)) (fun s => regletref11_Heads_27_eq s)).trans (by kernel_rfl)

@[simp] theorem pure_106 : E.pure 106 = true := rfl

theorem x_regletref11_Heads (v0 : AV) : (callW E).p 106 [v0] = regletref11_Heads_28 v0 [⟨0, .dead⟩, ⟨0, .dead⟩, ⟨0, .dead⟩] :=
  (callP_W (cf := c_regletref11_Heads) (by kernel_rfl) rfl).trans ((regletref11_Heads_28_eq _).trans (by kernel_rfl))

@[simp] theorem pure_100 : E.pure 100 = true := rfl

noncomputable def regletref10_Throws_1 (v0 : AV) (h : Heap) : Option (Ex AV) :=
ob (evBin .geq v0 (AV.int .i64 7)) fun v4 =>
gb v4 true (some v0) fun v6 =>
gb v4 true (evBin .leq v6 (AV.int .i64 12)) fun v7 =>
ob (evPick v4 v7 (AV.bool false)) fun v8 =>
gb v8 false (some v0) fun v10 =>
gh v8 false (buildSC 0 (some 0) 1 3 [(.int .i64 0)] [(0, (AV.int .i64 20)), (1, (AV.int .i64 21)), (2, (AV.int .i64 31))] h) h fun v11 h1 =>
gh v8 false (callAny E (callW E) 0 none true 42 [v10, v11] h1) h1 fun v12 h2 =>
ob (evPick v8 (AV.bool true) v12) fun v13 =>
gb v13 false (some v0) fun v15 =>
gh v13 false (callAny E (callW E) 0 none true 7 [v15] h2) h2 fun v16 h3 =>
ob (evPick v13 (AV.bool true) v16) fun v17 =>
(expo1 h3 v17)

theorem regletref10_Throws_1_eq (s : St) : W E 0 c_regletref10_Throws_1 s (finP [.t 2]) (fun _ _ => none) (finP [.t 2]) = regletref10_Throws_1 (tget s.t 0) s.h :=
  by kernel_rfl

@[simp] theorem pure_19 : E.pure 19 = true := rfl

theorem x_regletref10_Throws (v0 : AV) : (callW E).p 19 [v0] = regletref10_Throws_1 v0 [⟨0, .dead⟩] :=
  (callP_W (cf := c_regletref10_Throws) (by kernel_rfl) rfl).trans ((regletref10_Throws_1_eq _).trans (by kernel_rfl))

noncomputable def regletref10_Leads_1 (v0 : AV) (h : Heap) : Option (Ex AV) :=
oh (buildSC 0 (some 0) 1 3 [(.int .i64 0)] [(0, (AV.int .i64 27)), (1, (AV.int .i64 28)), (2, (AV.int .i64 29))] h) fun v4 h1 =>
oh (callAny E (callW E) 0 none true 42 [v0, v4] h1) fun v5 h2 =>
(expo1 h2 v5)

theorem regletref10_Leads_1_eq (s : St) : W E 0 c_regletref10_Leads_1 s (finP [.t 2]) (fun _ _ => none) (finP [.t 2]) = regletref10_Leads_1 (tget s.t 0) s.h :=
  by kernel_rfl

@[simp] theorem pure_23 : E.pure 23 = true := rfl

theorem x_regletref10_Leads (v0 : AV) : (callW E).p 23 [v0] = regletref10_Leads_1 v0 [⟨0, .dead⟩] :=
  (callP_W (cf := c_regletref10_Leads) (by kernel_rfl) rfl).trans ((regletref10_Leads_1_eq _).trans (by kernel_rfl))

noncomputable def regletref10_Ends_1 (v0 : AV) (h : Heap) : Option (Ex AV) :=
oh (buildSC 0 (some 0) 1 3 [(.int .i64 0)] [(0, (AV.int .i64 27)), (1, (AV.int .i64 30)), (2, (AV.int .i64 31))] h) fun v4 h1 =>
oh (callAny E (callW E) 0 none true 42 [v0, v4] h1) fun v5 h2 =>
(expo1 h2 v5)

theorem regletref10_Ends_1_eq (s : St) : W E 0 c_regletref10_Ends_1 s (finP [.t 2]) (fun _ _ => none) (finP [.t 2]) = regletref10_Ends_1 (tget s.t 0) s.h :=
  by kernel_rfl

@[simp] theorem pure_25 : E.pure 25 = true := rfl

theorem x_regletref10_Ends (v0 : AV) : (callW E).p 25 [v0] = regletref10_Ends_1 v0 [⟨0, .dead⟩] :=
  (callP_W (cf := c_regletref10_Ends) (by kernel_rfl) rfl).trans ((regletref10_Ends_1_eq _).trans (by kernel_rfl))

noncomputable def ins_Ends_1 (v0 : AV) (h : Heap) : Option (Ex AV) :=
oh (newC 0 (some 0) (cellsOf v0) h) fun v1 h1 =>
ob (evFa 0 v1) fun v3 =>
ob (evLd false 1 v3 h1) fun v4 =>
ob (evBin .eql v4 (AV.int .i64 27)) fun v5 =>
gb v5 false (evFa 0 v1) fun v7 =>
gb v5 false (evLd false 1 v7 h1) fun v8 =>
gb v5 false (evBin .eql v8 (AV.int .i64 30)) fun v9 =>
ob (evPick v5 (AV.bool true) v9) fun v10 =>
gb v10 false (evFa 0 v1) fun v12 =>
gb v10 false (evLd false 1 v12 h1) fun v13 =>
gb v10 false (evBin .eql v13 (AV.int .i64 31)) fun v14 =>
ob (evPick v10 (AV.bool true) v14) fun v15 =>
(expo1 h1 v15)

theorem ins_Ends_1_eq (s : St) : W E 0 c_ins_Ends_1 s (finP [.t 2]) (fun _ _ => none) (finP [.t 2]) = ins_Ends_1 (tget s.t 0) s.h :=
  by kernel_rfl

@[simp] theorem pure_24 : E.pure 24 = true := rfl

theorem x_ins_Ends (v0 : AV) : (callW E).p 24 [v0] = ins_Ends_1 v0 [⟨0, .dead⟩] :=
  (callP_W (cf := c_ins_Ends) (by kernel_rfl) rfl).trans ((ins_Ends_1_eq _).trans (by kernel_rfl))

noncomputable def ins_Leads_1 (v0 : AV) (h : Heap) : Option (Ex AV) :=
oh (newC 0 (some 0) (cellsOf v0) h) fun v1 h1 =>
ob (evFa 0 v1) fun v3 =>
ob (evLd false 1 v3 h1) fun v4 =>
ob (evBin .eql v4 (AV.int .i64 27)) fun v5 =>
gb v5 false (evFa 0 v1) fun v7 =>
gb v5 false (evLd false 1 v7 h1) fun v8 =>
gb v5 false (evBin .eql v8 (AV.int .i64 28)) fun v9 =>
ob (evPick v5 (AV.bool true) v9) fun v10 =>
gb v10 false (evFa 0 v1) fun v12 =>
gb v10 false (evLd false 1 v12 h1) fun v13 =>
gb v10 false (evBin .eql v13 (AV.int .i64 29)) fun v14 =>
ob (evPick v10 (AV.bool true) v14) fun v15 =>
(expo1 h1 v15)

theorem ins_Leads_1_eq (s : St) : W E 0 c_ins_Leads_1 s (finP [.t 2]) (fun _ _ => none) (finP [.t 2]) = ins_Leads_1 (tget s.t 0) s.h :=
  by kernel_rfl

@[simp] theorem pure_22 : E.pure 22 = true := rfl

theorem x_ins_Leads (v0 : AV) : (callW E).p 22 [v0] = ins_Leads_1 v0 [⟨0, .dead⟩] :=
  (callP_W (cf := c_ins_Leads) (by kernel_rfl) rfl).trans ((ins_Leads_1_eq _).trans (by kernel_rfl))

noncomputable def slices_Contains_int_int_1 (v0 v1 : AV) (h : Heap) : Option (Ex AV) :=
oh (callAny E (callW E) 0 none true 45 [v0, v1] h) fun v7 h1 =>
ob (evBin .geq v7 (AV.int .i64 0)) fun v8 =>
(expo1 h1 v8)

theorem slices_Contains_int_int_1_eq (s : St) : W E 0 c_slices_Contains_int_int_1 s (finP [.t 4]) (fun _ _ => none) (finP [.t 4]) = slices_Contains_int_int_1 (tget s.t 0) (tget s.t 1) s.h :=
  by kernel_rfl

@[simp] theorem pure_46 : E.pure 46 = true := rfl

theorem x_slices_Contains_int_int (v0 v1 : AV) : (callW E).p 46 [v0, v1] = slices_Contains_int_int_1 v0 v1 [] :=
  (callP_W (cf := c_slices_Contains_int_int) (by kernel_rfl) rfl).trans ((slices_Contains_int_int_1_eq _).trans (by kernel_rfl))

noncomputable def regletref11_in_1 (h : Heap) : Option (Ex AV) :=
(expo1 h (AV.bool false))

theorem regletref11_in_1_eq (s : St) : W E 0 c_regletref11_in_1 s (finP [.t 4]) (fun _ _ => none) (finP [.t 4]) = regletref11_in_1 s.h :=
  by kernel_rfl

noncomputable def regletref11_in_L2 (v0 v1 v5 : AV) (h : Heap) : Option (Ex AV) :=
  W E 0 c_regletref11_in_L2 ⟨[(0, v0), (1, v1), (5, v5)], h⟩ (fun s => regletref11_in_1 s.h) (exitTo 0 (fun s => regletref11_in_1 s.h) (fun _ _ => none)) (finP [.t 4])

theorem regletref11_in_L2_eq (s : St) : W E 0 c_regletref11_in_L2 s (fun s => regletref11_in_1 s.h) (exitTo 0 (fun s => regletref11_in_1 s.h) (fun _ _ => none)) (finP [.t 4]) = regletref11_in_L2 (tget s.t 0) (tget s.t 1) (tget s.t 5) s.h := W_loop_live.trans (by kernel_rfl)

noncomputable def regletref11_in_3 (v0 v1 v5 : AV) (h : Heap) : Option (Ex AV) :=
ob (evBin .add v5 (AV.int .i64 1)) fun v11 =>
(regletref11_in_L2 v0 v1 v11 h)

theorem regletref11_in_3_eq (s : St) : W E 0 c_regletref11_in_3 s (fun s => regletref11_in_L2 (tget s.t 0) (tget s.t 1) (tget s.t 5) s.h) (exitTo 0 (fun s => regletref11_in_1 s.h) (fun _ _ => none)) (finP [.t 4]) = regletref11_in_3 (tget s.t 0) (tget s.t 1) (tget s.t 5) s.h :=
  by kernel_rfl

noncomputable def regletref11_in_4 (v0 v1 v5 : AV) (h : Heap) : Option (Ex AV) :=
ob (evIxs 1 v0 v5) fun v14 =>
ob (evLd false 1 v14 h) fun v15 =>
ob (evBin .eql v15 v1) fun v17 =>
cnd v17
 ((expo1 h (AV.bool true)))
 ((regletref11_in_3 v0 v1 v5 h))

theorem regletref11_in_4_eq (s : St) : W E 0 c_regletref11_in_4 s (fun s => regletref11_in_L2 (tget s.t 0) (tget s.t 1) (tget s.t 5) s.h) (exitTo 0 (fun s => regletref11_in_1 s.h) (fun _ _ => none)) (finP [.t 4]) = regletref11_in_4 (tget s.t 0) (tget s.t 1) (tget s.t 5) s.h :=
  (W_seq (k := (fun s => regletref11_in_3 (tget s.t 0) (tget s.t 1) (tget s.t 5) s.h)) (fun s => regletref11_in_3_eq s)).trans (by kernel_rfl)

noncomputable def regletref11_in_5 (v0 v1 v5 : AV) (h : Heap) : Option (Ex AV) :=
ob (evLen 1 v0 h) fun v8 =>
ob (evBin .lss v5 v8) fun v9 =>
cnd v9
 ((regletref11_in_4 v0 v1 v5 h))
 ((regletref11_in_1 h))

theorem regletref11_in_5_eq (s : St) : W E 0 c_regletref11_in_5 s (fun s => regletref11_in_L2 (tget s.t 0) (tget s.t 1) (tget s.t 5) s.h) (exitTo 0 (fun s => regletref11_in_1 s.h) (fun _ _ => none)) (finP [.t 4]) = regletref11_in_5 (tget s.t 0) (tget s.t 1) (tget s.t 5) s.h :=
  (W_seq (k := (fun s => regletref11_in_4 (tget s.t 0) (tget s.t 1) (tget s.t 5) s.h)) (fun s => regletref11_in_4_eq s)).trans (by kernel_rfl)

theorem regletref11_in_L2_go (v0 v1 v5 : AV) (h : Heap) : regletref11_in_L2 v0 v1 v5 h = (regletref11_in_5 v0 v1 v5 h) :=
  W_loop.trans ((W_congr _ _ _ (n' := (fun s => regletref11_in_L2 (tget s.t 0) (tget s.t 1) (tget s.t 5) s.h)) (fun s => regletref11_in_L2_eq s)).trans ((regletref11_in_5_eq _).trans (by kernel_rfl)))

theorem regletref11_in_6_eq (s : St) : W E 0 c_regletref11_in_6 s (fun s => regletref11_in_1 s.h) (fun _ _ => none) (finP [.t 4]) = regletref11_in_L2 (tget s.t 0) (tget s.t 1) (tget s.t 5) s.h :=
  W_block.trans (regletref11_in_L2_eq s)

noncomputable def regletref11_in_7 (v0 v1 : AV) (h : Heap) : Option (Ex AV) :=
(regletref11_in_L2 v0 v1 (AV.int .i64 0) h)

theorem regletref11_in_7_eq (s : St) : W E 0 c_regletref11_in_7 s (fun s => regletref11_in_1 s.h) (fun _ _ => none) (finP [.t 4]) = regletref11_in_7 (tget s.t 0) (tget s.t 1) s.h :=
  (W_seq (k := (fun s => regletref11_in_L2 (tget s.t 0) (tget s.t 1) (tget s.t 5) s.h)) (fun s => regletref11_in_6_eq s)).trans (by kernel_rfl)

theorem regletref11_in_8_eq (s : St) : W E 0 c_regletref11_in_8 s (finP [.t 4]) (fun _ _ => none) (finP [.t 4]) = regletref11_in_7 (tget s.t 0) (tget s.t 1) s.h :=
  (W_seq (k := (fun s => regletref11_in_1 s.h)) (fun s => regletref11_in_1_eq s)).trans (regletref11_in_7_eq s)

noncomputable def regletref11_in_9 (v0 v1 : AV) (h : Heap) : Option (Ex AV) :=
(regletref11_in_7 v0 v1 h)

theorem regletref11_in_9_eq (s : St) : W E 0 c_regletref11_in_9 s (finP [.t 4]) (fun _ _ => none) (finP [.t 4]) = regletref11_in_9 (tget s.t 0) (tget s.t 1) s.h :=
  (W_seq (k := (fun s => regletref11_in_7 (tget s.t 0) (tget s.t 1) s.h)) (fun s => regletref11_in_8_eq s)).trans (by kernel_rfl)

@[simp] theorem pure_96 : E.pure 96 = true := rfl

theorem x_regletref11_in (v0 v1 : AV) : (callW E).p 96 [v0, v1] = regletref11_in_9 v0 v1 [] :=
  (callP_W (cf := c_regletref11_in) (by kernel_rfl) rfl).trans ((regletref11_in_9_eq _).trans (by kernel_rfl))

noncomputable def ins_Throws_1 (v0 : AV) (h : Heap) : Option (Ex AV) :=
oh (newC 0 (some 0) (cellsOf v0) h) fun v1 h1 =>
ob (evFa 0 v1) fun v3 =>
ob (evLd false 1 v3 h1) fun v4 =>
ob (evBin .geq v4 (AV.int .i64 7)) fun v5 =>
gb v5 true (evFa 0 v1) fun v7 =>
gb v5 true (evLd false 1 v7 h1) fun v8 =>
gb v5 true (evBin .leq v8 (AV.int .i64 12)) fun v9 =>
ob (evPick v5 v9 (AV.bool false)) fun v10 =>
gb v10 false (evFa 0 v1) fun v12 =>
gb v10 false (evLd false 1 v12 h1) fun v13 =>
gb v10 false (evBin .eql v13 (AV.int .i64 20)) fun v14 =>
ob (evPick v10 (AV.bool true) v14) fun v15 =>
gb v15 false (evFa 0 v1) fun v17 =>
gb v15 false (evLd false 1 v17 h1) fun v18 =>
gb v15 false (evBin .eql v18 (AV.int .i64 21)) fun v19 =>
ob (evPick v15 (AV.bool true) v19) fun v20 =>
gb v20 false (evFa 0 v1) fun v22 =>
gb v20 false (evLd false 1 v22 h1) fun v23 =>
gb v20 false (evBin .eql v23 (AV.int .i64 31)) fun v24 =>
ob (evPick v20 (AV.bool true) v24) fun v25 =>
gb v25 false (evLd true 9 v1 h1) fun v27 =>
gh v25 false (callAny E (callW E) 0 none true 17 [v27] h1) h1 fun v28 h2 =>
ob (evPick v25 (AV.bool true) v28) fun v29 =>
(expo1 h2 v29)

theorem ins_Throws_1_eq (s : St) : W E 0 c_ins_Throws_1 s (finP [.t 2]) (fun _ _ => none) (finP [.t 2]) = ins_Throws_1 (tget s.t 0) s.h :=
  by kernel_rfl

@[simp] theorem pure_18 : E.pure 18 = true := rfl

theorem x_ins_Throws (v0 : AV) : (callW E).p 18 [v0] = ins_Throws_1 v0 [⟨0, .dead⟩] :=
  (callP_W (cf := c_ins_Throws) (by kernel_rfl) rfl).trans ((ins_Throws_1_eq _).trans (by kernel_rfl))

noncomputable def regletref11_All_1 (v0 v1 : AV) (h : Heap) : Option (Ex AV) :=
oh (newC 0 (some 0) (cellsOf v0) h) fun v2 h1 =>
ob (evLd true 5 v2 h1) fun v5 =>
ofp (fpCall E (callW E) 0 (some 1) false 95 [v5, v1] h1) fun f2 =>
oh (callAny E (callW E) 0 (some 1) false 95 [v5, v1] h1) fun v7 h2 =>
ob (evLd true 5 v2 h2) fun v8 =>
ofp (fpCall E (callW E) 0 none true 92 [v8, v1] h2) fun f5 =>
oh (callAny E (callW E) 0 none true 92 [v8, v1] h2) fun v10 h3 =>
oh (evApp 0 (some 2) 1 8 v7 v10 h3) fun v11 h4 =>
okK (pairsOk [(ids1 v2, []), ([], []), f2, (ids1 v2, []), ([], []), f5, (ids1 v10, ids1 v7 ++ [0 + 2]), ([], [])] [(2, 3)]) <|
(expo1 h4 v11)

theorem regletref11_All_1_eq (s : St) : W E 0 c_regletref11_All_1 s (finP [.t 4]) (fun _ _ => none) (finP [.t 4]) = regletref11_All_1 (tget s.t 0) (tget s.t 1) s.h :=
  by kernel_rfl

@[simp] theorem pure_105 : E.pure 105 = true := rfl

theorem x_regletref11_All (v0 v1 : AV) : (callW E).p 105 [v0, v1] = regletref11_All_1 v0 v1 [⟨0, .dead⟩, ⟨0, .dead⟩, ⟨0, .dead⟩] :=
  (callP_W (cf := c_regletref11_All) (by kernel_rfl) rfl).trans ((regletref11_All_1_eq _).trans (by kernel_rfl))

@[simp] theorem pure_13 : E.pure 13 = true := rfl

@[simp] theorem pure_8 : E.pure 8 = true := rfl

noncomputable def regletref10_in_1 (h : Heap) : Option (Ex AV) :=
(expo1 h (AV.bool false))

theorem regletref10_in_1_eq (s : St) : W E 0 c_regletref10_in_1 s (finP [.t 4]) (fun _ _ => none) (finP [.t 4]) = regletref10_in_1 s.h :=
  by kernel_rfl

noncomputable def regletref10_in_L2 (v0 v1 v5 : AV) (h : Heap) : Option (Ex AV) :=
  W E 0 c_regletref10_in_L2 ⟨[(0, v0), (1, v1), (5, v5)], h⟩ (fun s => regletref10_in_1 s.h) (exitTo 0 (fun s => regletref10_in_1 s.h) (fun _ _ => none)) (finP [.t 4])

theorem regletref10_in_L2_eq (s : St) : W E 0 c_regletref10_in_L2 s (fun s => regletref10_in_1 s.h) (exitTo 0 (fun s => regletref10_in_1 s.h) (fun _ _ => none)) (finP [.t 4]) = regletref10_in_L2 (tget s.t 0) (tget s.t 1) (tget s.t 5) s.h := W_loop_live.trans (by kernel_rfl)

noncomputable def regletref10_in_3 (v0 v1 v5 : AV) (h : Heap) : Option (Ex AV) :=
ob (evBin .add v5 (AV.int .i64 1)) fun v11 =>
(regletref10_in_L2 v0 v1 v11 h)

theorem regletref10_in_3_eq (s : St) : W E 0 c_regletref10_in_3 s (fun s => regletref10_in_L2 (tget s.t 0) (tget s.t 1) (tget s.t 5) s.h) (exitTo 0 (fun s => regletref10_in_1 s.h) (fun _ _ => none)) (finP [.t 4]) = regletref10_in_3 (tget s.t 0) (tget s.t 1) (tget s.t 5) s.h :=
  by kernel_rfl

noncomputable def regletref10_in_4 (v0 v1 v5 : AV) (h : Heap) : Option (Ex AV) :=
ob (evIxs 1 v1 v5) fun v14 =>
ob (evLd false 1 v14 h) fun v15 =>
ob (evBin .eql v15 v0) fun v17 =>
cnd v17
 ((expo1 h (AV.bool true)))
 ((regletref10_in_3 v0 v1 v5 h))

theorem regletref10_in_4_eq (s : St) : W E 0 c_regletref10_in_4 s (fun s => regletref10_in_L2 (tget s.t 0) (tget s.t 1) (tget s.t 5) s.h) (exitTo 0 (fun s => regletref10_in_1 s.h) (fun _ _ => none)) (finP [.t 4]) = regletref10_in_4 (tget s.t 0) (tget s.t 1) (tget s.t 5) s.h :=
  (W_seq (k := (fun s => regletref10_in_3 (tget s.t 0) (tget s.t 1) (tget s.t 5) s.h)) (fun s => regletref10_in_3_eq s)).trans (by kernel_rfl)

noncomputable def regletref10_in_5 (v0 v1 v5 : AV) (h : Heap) : Option (Ex AV) :=
ob (evLen 1 v1 h) fun v8 =>
ob (evBin .lss v5 v8) fun v9 =>
cnd v9
 ((regletref10_in_4 v0 v1 v5 h))
 ((regletref10_in_1 h))

theorem regletref10_in_5_eq (s : St) : W E 0 c_regletref10_in_5 s (fun s => regletref10_in_L2 (tget s.t 0) (tget s.t 1) (tget s.t 5) s.h) (exitTo 0 (fun s => regletref10_in_1 s.h) (fun _ _ => none)) (finP [.t 4]) = regletref10_in_5 (tget s.t 0) (tget s.t 1) (tget s.t 5) s.h :=
  (W_seq (k := (fun s => regletref10_in_4 (tget s.t 0) (tget s.t 1) (tget s.t 5) s.h)) (fun s => regletref10_in_4_eq s)).trans (by kernel_rfl)

theorem regletref10_in_L2_go (v0 v1 v5 : AV) (h : Heap) : regletref10_in_L2 v0 v1 v5 h = (regletref10_in_5 v0 v1 v5 h) :=
  W_loop.trans ((W_congr _ _ _ (n' := (fun s => regletref10_in_L2 (tget s.t 0) (tget s.t 1) (tget s.t 5) s.h)) (fun s => regletref10_in_L2_eq s)).trans ((regletref10_in_5_eq _).trans (by kernel_rfl)))

theorem regletref10_in_6_eq (s : St) : W E 0 c_regletref10_in_6 s (fun s => regletref10_in_1 s.h) (fun _ _ => none) (finP [.t 4]) = regletref10_in_L2 (tget s.t 0) (tget s.t 1) (tget s.t 5) s.h :=
  W_block.trans (regletref10_in_L2_eq s)

noncomputable def regletref10_in_7 (v0 v1 : AV) (h : Heap) : Option (Ex AV) :=
(regletref10_in_L2 v0 v1 (AV.int .i64 0) h)

theorem regletref10_in_7_eq (s : St) : W E 0 c_regletref10_in_7 s (fun s => regletref10_in_1 s.h) (fun _ _ => none) (finP [.t 4]) = regletref10_in_7 (tget s.t 0) (tget s.t 1) s.h :=
  (W_seq (k := (fun s => regletref10_in_L2 (tget s.t 0) (tget s.t 1) (tget s.t 5) s.h)) (fun s => regletref10_in_6_eq s)).trans (by kernel_rfl)

theorem regletref10_in_8_eq (s : St) : W E 0 c_regletref10_in_8 s (finP [.t 4]) (fun _ _ => none) (finP [.t 4]) = regletref10_in_7 (tget s.t 0) (tget s.t 1) s.h :=
  (W_seq (k := (fun s => regletref10_in_1 s.h)) (fun s => regletref10_in_1_eq s)).trans (regletref10_in_7_eq s)

noncomputable def regletref10_in_9 (v0 v1 : AV) (h : Heap) : Option (Ex AV) :=
(regletref10_in_7 v0 v1 h)

theorem regletref10_in_9_eq (s : St) : W E 0 c_regletref10_in_9 s (finP [.t 4]) (fun _ _ => none) (finP [.t 4]) = regletref10_in_9 (tget s.t 0) (tget s.t 1) s.h :=
  (W_seq (k := (fun s => regletref10_in_7 (tget s.t 0) (tget s.t 1) s.h)) (fun s => regletref10_in_8_eq s)).trans (by kernel_rfl)

@[simp] theorem pure_42 : E.pure 42 = true := rfl

theorem x_regletref10_in (v0 v1 : AV) : (callW E).p 42 [v0, v1] = regletref10_in_9 v0 v1 [] :=
  (callP_W (cf := c_regletref10_in) (by kernel_rfl) rfl).trans ((regletref10_in_9_eq _).trans (by kernel_rfl))

noncomputable def regletref10_Calls_1 (v0 : AV) (h : Heap) : Option (Ex AV) :=
ob (evBin .geq v0 (AV.int .i64 23)) fun v4 =>
gb v4 true (some v0) fun v6 =>
gb v4 true (evBin .leq v6 (AV.int .i64 26)) fun v7 =>
ob (evPick v4 v7 (AV.bool false)) fun v8 =>
(expo1 h v8)

theorem regletref10_Calls_1_eq (s : St) : W E 0 c_regletref10_Calls_1 s (finP [.t 2]) (fun _ _ => none) (finP [.t 2]) = regletref10_Calls_1 (tget s.t 0) s.h :=
  by kernel_rfl

@[simp] theorem pure_7 : E.pure 7 = true := rfl

theorem x_regletref10_Calls (v0 : AV) : (callW E).p 7 [v0] = regletref10_Calls_1 v0 [] :=
  (callP_W (cf := c_regletref10_Calls) (by kernel_rfl) rfl).trans ((regletref10_Calls_1_eq _).trans (by kernel_rfl))

noncomputable def slices_Index_int_int_1 (h : Heap) : Option (Ex AV) :=
(expo1 h (AV.int .i64 (-1)))

theorem slices_Index_int_int_1_eq (s : St) : W E 0 c_slices_Index_int_int_1 s (finP [.t 4]) (fun _ _ => none) (finP [.t 4]) = slices_Index_int_int_1 s.h :=
  by kernel_rfl

noncomputable def slices_Index_int_int_L2 (v0 v1 v7 v8 : AV) (h : Heap) : Option (Ex AV) :=
  W E 0 c_slices_Index_int_int_L2 ⟨[(0, v0), (1, v1), (7, v7), (8, v8)], h⟩ (fun s => slices_Index_int_int_1 s.h) (exitTo 0 (fun s => slices_Index_int_int_1 s.h) (fun _ _ => none)) (finP [.t 4])

theorem slices_Index_int_int_L2_eq (s : St) : W E 0 c_slices_Index_int_int_L2 s (fun s => slices_Index_int_int_1 s.h) (exitTo 0 (fun s => slices_Index_int_int_1 s.h) (fun _ _ => none)) (finP [.t 4]) = slices_Index_int_int_L2 (tget s.t 0) (tget s.t 1) (tget s.t 7) (tget s.t 8) s.h := W_loop_live.trans (by kernel_rfl)

noncomputable def slices_Index_int_int_3 (v0 v1 v7 v8 : AV) (h : Heap) : Option (Ex AV) :=
ob (evBin .add v8 (AV.int .i64 1)) fun v18 =>
(slices_Index_int_int_L2 v0 v1 v7 v18 h)

theorem slices_Index_int_int_3_eq (s : St) : W E 0 c_slices_Index_int_int_3 s (fun s => slices_Index_int_int_L2 (tget s.t 0) (tget s.t 1) (tget s.t 7) (tget s.t 8) s.h) (exitTo 0 (fun s => slices_Index_int_int_1 s.h) (fun _ _ => none)) (finP [.t 4]) = slices_Index_int_int_3 (tget s.t 0) (tget s.t 1) (tget s.t 7) (tget s.t 8) s.h :=
  by kernel_rfl

noncomputable def slices_Index_int_int_4 (v0 v1 v7 v8 : AV) (h : Heap) : Option (Ex AV) :=
ob (evIxs 1 v0 v8) fun v14 =>
ob (evLd false 1 v14 h) fun v15 =>
ob (evBin .eql v1 v15) fun v16 =>
cnd v16
 ((expo1 h v8))
 ((slices_Index_int_int_3 v0 v1 v7 v8 h))

theorem slices_Index_int_int_4_eq (s : St) : W E 0 c_slices_Index_int_int_4 s (fun s => slices_Index_int_int_L2 (tget s.t 0) (tget s.t 1) (tget s.t 7) (tget s.t 8) s.h) (exitTo 0 (fun s => slices_Index_int_int_1 s.h) (fun _ _ => none)) (finP [.t 4]) = slices_Index_int_int_4 (tget s.t 0) (tget s.t 1) (tget s.t 7) (tget s.t 8) s.h :=
  (W_seq (k := (fun s => slices_Index_int_int_3 (tget s.t 0) (tget s.t 1) (tget s.t 7) (tget s.t 8) s.h)) (fun s => slices_Index_int_int_3_eq s)).trans (by kernel_rfl)

noncomputable def slices_Index_int_int_5 (v0 v1 v7 v8 v9 : AV) (h : Heap) : Option (Ex AV) :=
cnd v9
 ((slices_Index_int_int_4 v0 v1 v7 v8 h))
 ((slices_Index_int_int_1 h))

theorem slices_Index_int_int_5_eq (s : St) : W E 0 c_slices_Index_int_int_5 s (fun s => slices_Index_int_int_L2 (tget s.t 0) (tget s.t 1) (tget s.t 7) (tget s.t 8) s.h) (exitTo 0 (fun s => slices_Index_int_int_1 s.h) (fun _ _ => none)) (finP [.t 4]) = slices_Index_int_int_5 (tget s.t 0) (tget s.t 1) (tget s.t 7) (tget s.t 8) (tget s.t 9) s.h :=
  (W_seq (k := (fun s => slices_Index_int_int_4 (tget s.t 0) (tget s.t 1) (tget s.t 7) (tget s.t 8) s.h)) (fun s => slices_Index_int_int_4_eq s)).trans (by kernel_rfl)

noncomputable def slices_Index_int_int_6 (v0 v1 v7 v8 : AV) (h : Heap) : Option (Ex AV) :=
ob (evBin .lss v8 v7) fun v9 =>
(slices_Index_int_int_5 v0 v1 v7 v8 v9 h)

theorem slices_Index_int_int_6_eq (s : St) : W E 0 c_slices_Index_int_int_6 s (fun s => slices_Index_int_int_L2 (tget s.t 0) (tget s.t 1) (tget s.t 7) (tget s.t 8) s.h) (exitTo 0 (fun s => slices_Index_int_int_1 s.h) (fun _ _ => none)) (finP [.t 4]) = slices_Index_int_int_6 (tget s.t 0) (tget s.t 1) (tget s.t 7) (tget s.t 8) s.h :=
  (W_seq (k := (fun s => slices_Index_int_int_5 (tget s.t 0) (tget s.t 1) (tget s.t 7) (tget s.t 8) (tget s.t 9) s.h)) (fun s => slices_Index_int_int_5_eq s)).trans (by kernel_rfl)

theorem slices_Index_int_int_L2_go (v0 v1 v7 v8 : AV) (h : Heap) : slices_Index_int_int_L2 v0 v1 v7 v8 h = (slices_Index_int_int_6 v0 v1 v7 v8 h) :=
  W_loop.trans ((W_congr _ _ _ (n' := (fun s => slices_Index_int_int_L2 (tget s.t 0) (tget s.t 1) (tget s.t 7) (tget s.t 8) s.h)) (fun s => slices_Index_int_int_L2_eq s)).trans ((slices_Index_int_int_6_eq _).trans (by kernel_rfl)))

theorem slices_Index_int_int_7_eq (s : St) : W E 0 c_slices_Index_int_int_7 s (fun s => slices_Index_int_int_1 s.h) (fun _ _ => none) (finP [.t 4]) = slices_Index_int_int_L2 (tget s.t 0) (tget s.t 1) (tget s.t 7) (tget s.t 8) s.h :=
  W_block.trans (slices_Index_int_int_L2_eq s)

noncomputable def slices_Index_int_int_8 (v0 v1 : AV) (h : Heap) : Option (Ex AV) :=
ob (evLen 1 v0 h) fun v7 =>
(slices_Index_int_int_L2 v0 v1 v7 (AV.int .i64 0) h)

theorem slices_Index_int_int_8_eq (s : St) : W E 0 c_slices_Index_int_int_8 s (fun s => slices_Index_int_int_1 s.h) (fun _ _ => none) (finP [.t 4]) = slices_Index_int_int_8 (tget s.t 0) (tget s.t 1) s.h :=
  (W_seq (k := (fun s => slices_Index_int_int_L2 (tget s.t 0) (tget s.t 1) (tget s.t 7) (tget s.t 8) s.h)) (fun s => slices_Index_int_int_7_eq s)).trans (by kernel_rfl)

theorem slices_Index_int_int_9_eq (s : St) : W E 0 c_slices_Index_int_int_9 s (finP [.t 4]) (fun _ _ => none) (finP [.t 4]) = slices_Index_int_int_8 (tget s.t 0) (tget s.t 1) s.h :=
  (W_seq (k := (fun s => slices_Index_int_int_1 s.h)) (fun s => slices_Index_int_int_1_eq s)).trans (slices_Index_int_int_8_eq s)

noncomputable def slices_Index_int_int_10 (v0 v1 : AV) (h : Heap) : Option (Ex AV) :=
(slices_Index_int_int_8 v0 v1 h)

theorem slices_Index_int_int_10_eq (s : St) : W E 0 c_slices_Index_int_int_10 s (finP [.t 4]) (fun _ _ => none) (finP [.t 4]) = slices_Index_int_int_10 (tget s.t 0) (tget s.t 1) s.h :=
  (W_seq (k := (fun s => slices_Index_int_int_8 (tget s.t 0) (tget s.t 1) s.h)) (fun s => slices_Index_int_int_9_eq s)).trans (by kernel_rfl)

@[simp] theorem pure_45 : E.pure 45 = true := rfl

theorem x_slices_Index_int_int (v0 v1 : AV) : (callW E).p 45 [v0, v1] = slices_Index_int_int_10 v0 v1 [] :=
  (callP_W (cf := c_slices_Index_int_int) (by kernel_rfl) rfl).trans ((slices_Index_int_int_10_eq _).trans (by kernel_rfl))

noncomputable def ins_Calls_1 (v0 : AV) (h : Heap) : Option (Ex AV) :=
oh (newC 0 (some 0) (cellsOf v0) h) fun v1 h1 =>
ob (evFa 0 v1) fun v3 =>
ob (evLd false 1 v3 h1) fun v4 =>
ob (evBin .geq v4 (AV.int .i64 23)) fun v5 =>
gb v5 true (evFa 0 v1) fun v7 =>
gb v5 true (evLd false 1 v7 h1) fun v8 =>
gb v5 true (evBin .leq v8 (AV.int .i64 26)) fun v9 =>
ob (evPick v5 v9 (AV.bool false)) fun v10 =>
(expo1 h1 v10)

theorem ins_Calls_1_eq (s : St) : W E 0 c_ins_Calls_1 s (finP [.t 2]) (fun _ _ => none) (finP [.t 2]) = ins_Calls_1 (tget s.t 0) s.h :=
  by kernel_rfl

@[simp] theorem pure_17 : E.pure 17 = true := rfl

theorem x_ins_Calls (v0 : AV) : (callW E).p 17 [v0] = ins_Calls_1 v0 [⟨0, .dead⟩] :=
  (callP_W (cf := c_ins_Calls) (by kernel_rfl) rfl).trans ((ins_Calls_1_eq _).trans (by kernel_rfl))

@[simp] theorem pure_39 : E.pure 39 = true := rfl

@[simp] theorem pure_40 : E.pure 40 = true := rfl

@[simp] theorem pure_41 : E.pure 41 = true := rfl

@[simp] theorem pure_63 : E.pure 63 = true := rfl

@[simp] theorem pure_47 : E.pure 47 = true := rfl

@[simp] theorem pure_50 : E.pure 50 = true := rfl

@[simp] theorem pure_37 : E.pure 37 = true := rfl

@[simp] theorem pure_51 : E.pure 51 = true := rfl

@[simp] theorem pure_44 : E.pure 44 = true := rfl

@[simp] theorem pure_60 : E.pure 60 = true := rfl


end Go.Vm
