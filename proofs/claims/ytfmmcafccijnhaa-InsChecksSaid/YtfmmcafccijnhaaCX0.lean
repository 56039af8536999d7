/- Functions of the machine as plain functions that go on with what follows. -/
import Derived.Test.YtfmmcafccijnhaaCEnv
namespace Go.Vm

noncomputable def regletlaw10_InsChecks_1 (v1 : AV) (h : Heap) : Option (Ex AV) :=
ob (evLd true 5 v1 h) fun v27 =>
ofp (fpCall E (callW E) 0 none true 8 [v27] h) fun f1 =>
oh (callAny E (callW E) 0 none true 8 [v27] h) fun v28 h1 =>
ob (evLd true 5 v1 h1) fun v29 =>
ofp (fpCall E (callW E) 0 none true 29 [v29] h1) fun f3 =>
oh (callAny E (callW E) 0 none true 29 [v29] h1) fun v30 h2 =>
ob (evBin .eql v28 v30) fun v31 =>
okK (pairsOk [(ids1 v1, []), f1, (ids1 v1, []), f3, ([], []), ([], [])] [(1, 2)]) <|
(expo1 h2 v31)

theorem regletlaw10_InsChecks_1_eq (s : St) : W E 0 c_regletlaw10_InsChecks_1 s (finP [.t 2]) (fun _ _ => none) (finP [.t 2]) = regletlaw10_InsChecks_1 (tget s.t 1) s.h :=
  by kernel_rfl

noncomputable def regletlaw10_InsChecks_2 (v1 : AV) (h : Heap) : Option (Ex AV) :=
ob (evFa 3 v1) fun v5 =>
ob (evLd false 1 v5 h) fun v6 =>
ob (evLen 1 v6 h) fun v7 =>
ob (evBin .gtr v7 (AV.int .i64 30000)) fun v8 =>
gb v8 false (evFa 0 v1) fun v10 =>
gb v8 false (evLd false 1 v10 h) fun v11 =>
gb v8 false (evLen 1 v11 h) fun v12 =>
gb v8 false (evBin .gtr v12 (AV.int .i64 30000)) fun v13 =>
ob (evPick v8 (AV.bool true) v13) fun v14 =>
gb v14 false (evFa 1 v1) fun v16 =>
gb v14 false (evLd false 1 v16 h) fun v17 =>
gb v14 false (evLen 1 v17 h) fun v18 =>
gb v14 false (evBin .gtr v18 (AV.int .i64 1000)) fun v19 =>
ob (evPick v14 (AV.bool true) v19) fun v20 =>
gb v20 false (evFa 4 v1) fun v22 =>
gb v20 false (evLd false 1 v22 h) fun v23 =>
gb v20 false (evLen 1 v23 h) fun v24 =>
gb v20 false (evBin .gtr v24 (AV.int .i64 10000)) fun v25 =>
ob (evPick v20 (AV.bool true) v25) fun v26 =>
cnd v26
 ((expo1 h (AV.bool true)))
 ((regletlaw10_InsChecks_1 v1 h))

theorem regletlaw10_InsChecks_2_eq (s : St) : W E 0 c_regletlaw10_InsChecks_2 s (finP [.t 2]) (fun _ _ => none) (finP [.t 2]) = regletlaw10_InsChecks_2 (tget s.t 1) s.h :=
  (W_seq (k := (fun s => regletlaw10_InsChecks_1 (tget s.t 1) s.h)) (fun s => regletlaw10_InsChecks_1_eq s)).trans (by kernel_rfl)

noncomputable def regletlaw10_InsChecks_3 (v1 : AV) (h : Heap) : Option (Ex AV) :=
oh (callAny E (callW E) 0 none true 4 [] h) fun v3 h3 =>
ob (evUn .not v3) fun v4 =>
cnd v4
 ((expo1 h3 (AV.bool false)))
 ((regletlaw10_InsChecks_2 v1 h3))

theorem regletlaw10_InsChecks_3_eq (s : St) : W E 0 c_regletlaw10_InsChecks_3 s (finP [.t 2]) (fun _ _ => none) (finP [.t 2]) = regletlaw10_InsChecks_3 (tget s.t 1) s.h :=
  (W_seq (k := (fun s => regletlaw10_InsChecks_2 (tget s.t 1) s.h)) (fun s => regletlaw10_InsChecks_2_eq s)).trans (by kernel_rfl)

noncomputable def regletlaw10_InsChecks_4 (v0 : AV) (h : Heap) : Option (Ex AV) :=
oh (newC 0 (some 0) (cellsOf v0) h) fun v1 h4 =>
(regletlaw10_InsChecks_3 v1 h4)

theorem regletlaw10_InsChecks_4_eq (s : St) : W E 0 c_regletlaw10_InsChecks_4 s (finP [.t 2]) (fun _ _ => none) (finP [.t 2]) = regletlaw10_InsChecks_4 (tget s.t 0) s.h :=
  (W_seq (k := (fun s => regletlaw10_InsChecks_3 (tget s.t 1) s.h)) (fun s => regletlaw10_InsChecks_3_eq s)).trans (by kernel_rfl)

@[simp] theorem pure_30 : E.pure 30 = true := rfl

theorem x_regletlaw10_InsChecks (v0 : AV) : (callW E).p 30 [v0] = regletlaw10_InsChecks_4 v0 [⟨0, .dead⟩] :=
  (callP_W (cf := c_regletlaw10_InsChecks) (by kernel_rfl) rfl).trans ((regletlaw10_InsChecks_4_eq _).trans (by kernel_rfl))

noncomputable def regletlaw10_holds_1 (h : Heap) : Option (Ex AV) :=
ob (evBuild [(.int .i64 0), (.int .i64 0), (.int .i64 0), (.int .i64 0), (.int .i64 0), (.int .i64 0), (.int .i64 0), (.str []), .nils] [(0, 1, (AV.int .i64 14)), (2, 1, (AV.int .i64 1)), (3, 1, (AV.int .i64 2)), (4, 1, (AV.int .i64 3))]) fun v2 =>
oh (callAny E (callW E) 0 none true 10 [v2] h) fun v3 h1 =>
ob (evLen 1 v3 h1) fun v5 =>
ob (evBin .eql v5 (AV.int .i64 3)) fun v6 =>
gb v6 true (some v3) fun v8 =>
gb v6 true (evIxs 1 v8 (AV.int .i64 2)) fun v9 =>
gb v6 true (evLd false 1 v9 h1) fun v10 =>
gb v6 true (evBin .eql v10 (AV.int .i64 3)) fun v11 =>
ob (evPick v6 v11 (AV.bool false)) fun v12 =>
gb v12 true (evBuild [(.int .i64 0), (.int .i64 0), (.int .i64 0), (.int .i64 0), (.int .i64 0), (.int .i64 0), (.int .i64 0), (.str []), .nils] [(0, 1, (AV.int .i64 23)), (1, 1, (AV.int .i64 (-1)))]) fun v14 =>
gh v12 true (callAny E (callW E) 0 none true 9 [v14] h1) h1 fun v15 h2 =>
gb v12 true (evBin .eql v15 (AV.int .i64 (-1))) fun v16 =>
ob (evPick v12 v16 (AV.bool false)) fun v17 =>
gb v17 true (evBuild [(.int .i64 0), (.int .i64 0), (.int .i64 0), (.int .i64 0), (.int .i64 0), (.int .i64 0), (.int .i64 0), (.str []), .nils] [(0, 1, (AV.int .i64 33))]) fun v19 =>
gh v17 true (buildSC 0 (some 0) 9 1 [(.int .i64 0), (.int .i64 0), (.int .i64 0), (.int .i64 0), (.int .i64 0), (.int .i64 0), (.int .i64 0), (.str []), .nils] [(0, v19)] h2) h2 fun v20 h3 =>
gb v17 true (evBuild [.nils, .nils, (.int .i64 0), .nils, .nils] [(3, 1, v20)]) fun v21 =>
gh v17 true (callAny E (callW E) 0 none true 8 [v21] h3) h3 fun v22 h4 =>
gb v17 true (evBin .eql v22 (AV.int .i64 80)) fun v23 =>
ob (evPick v17 v23 (AV.bool false)) fun v24 =>
gb v24 true (evBuild [(.int .i64 0), (.int .i64 0), (.int .i64 0), (.int .i64 0), (.int .i64 0), (.int .i64 0), (.int .i64 0), (.str []), .nils] [(0, 1, (AV.int .i64 30)), (2, 1, (AV.int .i64 (-1)))]) fun v26 =>
gh v24 true (buildSC 0 (some 1) 9 1 [(.int .i64 0), (.int .i64 0), (.int .i64 0), (.int .i64 0), (.int .i64 0), (.int .i64 0), (.int .i64 0), (.str []), .nils] [(0, v26)] h4) h4 fun v27 h5 =>
gb v24 true (evBuild [.nils, .nils, (.int .i64 0), .nils, .nils] [(3, 1, v27)]) fun v28 =>
gh v24 true (callAny E (callW E) 0 none true 8 [v28] h5) h5 fun v29 h6 =>
gb v24 true (evBin .eql v29 (AV.int .i64 0)) fun v30 =>
ob (evPick v24 v30 (AV.bool false)) fun v31 =>
(expo1 h6 v31)

theorem regletlaw10_holds_1_eq (s : St) : W E 0 c_regletlaw10_holds_1 s (finP [.t 0]) (fun _ _ => none) (finP [.t 0]) = regletlaw10_holds_1 s.h :=
  by kernel_rfl

@[simp] theorem pure_4 : E.pure 4 = true := rfl

theorem x_regletlaw10_holds : (callW E).p 4 [] = regletlaw10_holds_1 [⟨0, .dead⟩, ⟨0, .dead⟩] :=
  (callP_W (cf := c_regletlaw10_holds) (by kernel_rfl) rfl).trans ((regletlaw10_holds_1_eq _).trans (by kernel_rfl))

noncomputable def ins_Check_1 (h : Heap) : Option (Ex AV) :=
(expo1 h (AV.int .i64 0))

theorem ins_Check_1_eq (s : St) : W E 0 c_ins_Check_1 s (finP [.t 2]) (fun _ _ => none) (finP [.t 2]) = ins_Check_1 s.h :=
  by kernel_rfl

noncomputable def ins_Check_L2 (v1 v3 v136 v137 v138 : AV) (h : Heap) : Option (Ex AV) :=
  W E 0 c_ins_Check_L2 ⟨[(1, v1), (3, v3), (136, v136), (137, v137), (138, v138)], h⟩ (fun s => ins_Check_1 s.h) (exitTo 6 (fun s => ins_Check_1 s.h) (fun _ _ => none)) (finP [.t 2])

theorem ins_Check_L2_eq (s : St) : W E 0 c_ins_Check_L2 s (fun s => ins_Check_1 s.h) (exitTo 6 (fun s => ins_Check_1 s.h) (fun _ _ => none)) (finP [.t 2]) = ins_Check_L2 (tget s.t 1) (tget s.t 3) (tget s.t 136) (tget s.t 137) (tget s.t 138) s.h := W_loop_live.trans (by kernel_rfl)

noncomputable def ins_Check_3 (v1 v3 v136 v137 v138 : AV) (h : Heap) : Option (Ex AV) :=
ob (evBin .add v138 (AV.int .i64 1)) fun v179 =>
(ins_Check_L2 v1 v3 v136 v137 v179 h)

theorem ins_Check_3_eq (s : St) : W E 0 c_ins_Check_3 s (fun s => ins_Check_L2 (tget s.t 1) (tget s.t 3) (tget s.t 136) (tget s.t 137) (tget s.t 138) s.h) (exitTo 6 (fun s => ins_Check_1 s.h) (fun _ _ => none)) (finP [.t 2]) = ins_Check_3 (tget s.t 1) (tget s.t 3) (tget s.t 136) (tget s.t 137) (tget s.t 138) s.h :=
  by kernel_rfl

noncomputable def ins_Check_4 (v1 v3 v136 v137 v138 : AV) (h : Heap) : Option (Ex AV) :=
ob (evIxs 4 v136 v138) fun v140 =>
ob (evLd true 4 v140 h) fun v141 =>
oh (newC 0 (some 2) [(.int .i64 0), (.int .i64 0), (.int .i64 0), (.str [])] h) fun v11 h1 =>
oh (evSt 4 v11 v141 h1) fun _ h2 =>
ob (evFa 0 v11) fun v142 =>
ob (evLd false 1 v142 h2) fun v143 =>
ob (evBin .lss v143 (AV.int .i64 0)) fun v144 =>
gb v144 false (evFa 0 v11) fun v146 =>
gb v144 false (evLd false 1 v146 h2) fun v147 =>
gb v144 false (evFa 1 v11) fun v148 =>
gb v144 false (evLd false 1 v148 h2) fun v149 =>
gb v144 false (evBin .geq v147 v149) fun v150 =>
ob (evPick v144 (AV.bool true) v150) fun v151 =>
gb v151 false (evFa 1 v11) fun v153 =>
gb v151 false (evLd false 1 v153 h2) fun v154 =>
gb v151 false (some v3) fun v155 =>
gb v151 false (evBin .gtr v154 v155) fun v156 =>
ob (evPick v151 (AV.bool true) v156) fun v157 =>
gb v157 false (evFa 2 v11) fun v159 =>
gb v157 false (evLd false 1 v159 h2) fun v160 =>
gb v157 false (evBin .lss v160 (AV.int .i64 0)) fun v161 =>
ob (evPick v157 (AV.bool true) v161) fun v162 =>
gb v162 false (evFa 2 v11) fun v164 =>
gb v162 false (evLd false 1 v164 h2) fun v165 =>
gb v162 false (some v3) fun v166 =>
gb v162 false (evBin .geq v165 v166) fun v167 =>
ob (evPick v162 (AV.bool true) v167) fun v168 =>
gb v168 false (evFa 3 v1) fun v170 =>
gb v168 false (evLd false 1 v170 h2) fun v171 =>
gb v168 false (evFa 2 v11) fun v172 =>
gb v168 false (evLd false 1 v172 h2) fun v173 =>
gb v168 false (evIxs 9 v171 v173) fun v174 =>
gb v168 false (evFa 0 v174) fun v175 =>
gb v168 false (evLd false 1 v175 h2) fun v176 =>
gb v168 false (evBin .neq v176 (AV.int .i64 32)) fun v177 =>
ob (evPick v168 (AV.bool true) v177) fun v178 =>
cnd v178
 ((expo1 h2 (AV.int .i64 80)))
 ((ins_Check_3 v1 v3 v136 v137 v138 h2))

theorem ins_Check_4_eq (s : St) : W E 0 c_ins_Check_4 s (fun s => ins_Check_L2 (tget s.t 1) (tget s.t 3) (tget s.t 136) (tget s.t 137) (tget s.t 138) s.h) (exitTo 6 (fun s => ins_Check_1 s.h) (fun _ _ => none)) (finP [.t 2]) = ins_Check_4 (tget s.t 1) (tget s.t 3) (tget s.t 136) (tget s.t 137) (tget s.t 138) s.h :=
  (W_seq (k := (fun s => ins_Check_3 (tget s.t 1) (tget s.t 3) (tget s.t 136) (tget s.t 137) (tget s.t 138) s.h)) (fun s => ins_Check_3_eq s)).trans (by kernel_rfl)

noncomputable def ins_Check_5 (v1 v3 v136 v137 v138 v139 : AV) (h : Heap) : Option (Ex AV) :=
cnd v139
 ((ins_Check_4 v1 v3 v136 v137 v138 h))
 ((ins_Check_1 h))

theorem ins_Check_5_eq (s : St) : W E 0 c_ins_Check_5 s (fun s => ins_Check_L2 (tget s.t 1) (tget s.t 3) (tget s.t 136) (tget s.t 137) (tget s.t 138) s.h) (exitTo 6 (fun s => ins_Check_1 s.h) (fun _ _ => none)) (finP [.t 2]) = ins_Check_5 (tget s.t 1) (tget s.t 3) (tget s.t 136) (tget s.t 137) (tget s.t 138) (tget s.t 139) s.h :=
  (W_seq (k := (fun s => ins_Check_4 (tget s.t 1) (tget s.t 3) (tget s.t 136) (tget s.t 137) (tget s.t 138) s.h)) (fun s => ins_Check_4_eq s)).trans (by kernel_rfl)

noncomputable def ins_Check_6 (v1 v3 v136 v137 v138 : AV) (h : Heap) : Option (Ex AV) :=
ob (evBin .lss v138 v137) fun v139 =>
(ins_Check_5 v1 v3 v136 v137 v138 v139 h)

theorem ins_Check_6_eq (s : St) : W E 0 c_ins_Check_6 s (fun s => ins_Check_L2 (tget s.t 1) (tget s.t 3) (tget s.t 136) (tget s.t 137) (tget s.t 138) s.h) (exitTo 6 (fun s => ins_Check_1 s.h) (fun _ _ => none)) (finP [.t 2]) = ins_Check_6 (tget s.t 1) (tget s.t 3) (tget s.t 136) (tget s.t 137) (tget s.t 138) s.h :=
  (W_seq (k := (fun s => ins_Check_5 (tget s.t 1) (tget s.t 3) (tget s.t 136) (tget s.t 137) (tget s.t 138) (tget s.t 139) s.h)) (fun s => ins_Check_5_eq s)).trans (by kernel_rfl)

theorem ins_Check_L2_go (v1 v3 v136 v137 v138 : AV) (h : Heap) : ins_Check_L2 v1 v3 v136 v137 v138 h = (ins_Check_6 v1 v3 v136 v137 v138 h) :=
  W_loop.trans ((W_congr _ _ _ (n' := (fun s => ins_Check_L2 (tget s.t 1) (tget s.t 3) (tget s.t 136) (tget s.t 137) (tget s.t 138) s.h)) (fun s => ins_Check_L2_eq s)).trans ((ins_Check_6_eq _).trans (by kernel_rfl)))

theorem ins_Check_7_eq (s : St) : W E 0 c_ins_Check_7 s (fun s => ins_Check_1 s.h) (fun _ _ => none) (finP [.t 2]) = ins_Check_L2 (tget s.t 1) (tget s.t 3) (tget s.t 136) (tget s.t 137) (tget s.t 138) s.h :=
  W_block.trans (ins_Check_L2_eq s)

noncomputable def ins_Check_8 (v1 v3 : AV) (h : Heap) : Option (Ex AV) :=
ob (evFa 4 v1) fun v135 =>
ob (evLd false 1 v135 h) fun v136 =>
ob (evLen 1 v136 h) fun v137 =>
(ins_Check_L2 v1 v3 v136 v137 (AV.int .i64 0) h)

theorem ins_Check_8_eq (s : St) : W E 0 c_ins_Check_8 s (fun s => ins_Check_1 s.h) (fun _ _ => none) (finP [.t 2]) = ins_Check_8 (tget s.t 1) (tget s.t 3) s.h :=
  (W_seq (k := (fun s => ins_Check_L2 (tget s.t 1) (tget s.t 3) (tget s.t 136) (tget s.t 137) (tget s.t 138) s.h)) (fun s => ins_Check_7_eq s)).trans (by kernel_rfl)

theorem ins_Check_9_eq (s : St) : W E 0 c_ins_Check_9 s (finP [.t 2]) (fun _ _ => none) (finP [.t 2]) = ins_Check_8 (tget s.t 1) (tget s.t 3) s.h :=
  (W_seq (k := (fun s => ins_Check_1 s.h)) (fun s => ins_Check_1_eq s)).trans (ins_Check_8_eq s)

noncomputable def ins_Check_L10 (v1 v3 v92 v93 v94 : AV) (h : Heap) : Option (Ex AV) :=
  W E 0 c_ins_Check_L10 ⟨[(1, v1), (3, v3), (92, v92), (93, v93), (94, v94)], h⟩ (fun s => ins_Check_8 (tget s.t 1) (tget s.t 3) s.h) (exitTo 4 (fun s => ins_Check_8 (tget s.t 1) (tget s.t 3) s.h) (fun _ _ => none)) (finP [.t 2])

theorem ins_Check_L10_eq (s : St) : W E 0 c_ins_Check_L10 s (fun s => ins_Check_8 (tget s.t 1) (tget s.t 3) s.h) (exitTo 4 (fun s => ins_Check_8 (tget s.t 1) (tget s.t 3) s.h) (fun _ _ => none)) (finP [.t 2]) = ins_Check_L10 (tget s.t 1) (tget s.t 3) (tget s.t 92) (tget s.t 93) (tget s.t 94) s.h := W_loop_live.trans (by kernel_rfl)

noncomputable def ins_Check_11 (v1 v3 v92 v93 v94 : AV) (h : Heap) : Option (Ex AV) :=
ob (evBin .add v94 (AV.int .i64 1)) fun v134 =>
(ins_Check_L10 v1 v3 v92 v93 v134 h)

theorem ins_Check_11_eq (s : St) : W E 0 c_ins_Check_11 s (fun s => ins_Check_L10 (tget s.t 1) (tget s.t 3) (tget s.t 92) (tget s.t 93) (tget s.t 94) s.h) (exitTo 4 (fun s => ins_Check_8 (tget s.t 1) (tget s.t 3) s.h) (fun _ _ => none)) (finP [.t 2]) = ins_Check_11 (tget s.t 1) (tget s.t 3) (tget s.t 92) (tget s.t 93) (tget s.t 94) s.h :=
  by kernel_rfl

noncomputable def ins_Check_12 (v1 v3 v8 v9 v92 v93 v94 : AV) (h : Heap) : Option (Ex AV) :=
ob (evFa 0 v9) fun v103 =>
ob (evLd false 1 v103 h) fun v104 =>
ob (evBin .eql v104 (AV.int .i64 32)) fun v105 =>
gb v105 true (some v8) fun v107 =>
gb v105 true (evBin .eql v107 (AV.int .i64 0)) fun v108 =>
gb v105 true (some v108) fun v109 =>
gb v109 false (evFa 3 v1) fun v110 =>
gb v109 false (evLd false 1 v110 h) fun v111 =>
gb v109 false (some v8) fun v112 =>
gb v109 false (evBin .sub v112 (AV.int .i64 1)) fun v113 =>
gb v109 false (evIxs 9 v111 v113) fun v114 =>
gb v109 false (evLd true 9 v114 h) fun v115 =>
gh v109 false (callAny E (callW E) 0 none true 24 [v115] h) h fun v116 h3 =>
gb v109 false (evUn .not v116) fun v117 =>
gb v105 true (evPick v109 (AV.bool true) v117) fun v118 =>
ob (evPick v105 v118 (AV.bool false)) fun v119 =>
gb v119 false (evLd true 9 v9 h3) fun v121 =>
gh v119 false (callAny E (callW E) 0 none true 22 [v121] h3) h3 fun v122 h4 =>
gb v119 false (some v122) fun v123 =>
gb v123 true (evFa 3 v1) fun v124 =>
gb v123 true (evLd false 1 v124 h4) fun v125 =>
gb v123 true (evFa 6 v9) fun v126 =>
gb v123 true (evLd false 1 v126 h4) fun v127 =>
gb v123 true (evIxs 9 v125 v127) fun v128 =>
gb v123 true (evFa 0 v128) fun v129 =>
gb v123 true (evLd false 1 v129 h4) fun v130 =>
gb v123 true (evBin .eql v130 (AV.int .i64 32)) fun v131 =>
gb v119 false (evPick v123 v131 (AV.bool false)) fun v132 =>
ob (evPick v119 (AV.bool true) v132) fun v133 =>
cnd v133
 ((expo1 h4 (AV.int .i64 80)))
 ((ins_Check_11 v1 v3 v92 v93 v94 h4))

theorem ins_Check_12_eq (s : St) : W E 0 c_ins_Check_12 s (fun s => ins_Check_11 (tget s.t 1) (tget s.t 3) (tget s.t 92) (tget s.t 93) (tget s.t 94) s.h) (exitTo 5 (fun s => ins_Check_11 (tget s.t 1) (tget s.t 3) (tget s.t 92) (tget s.t 93) (tget s.t 94) s.h) (exitTo 4 (fun s => ins_Check_8 (tget s.t 1) (tget s.t 3) s.h) (fun _ _ => none))) (finP [.t 2]) = ins_Check_12 (tget s.t 1) (tget s.t 3) (tget s.t 8) (tget s.t 9) (tget s.t 92) (tget s.t 93) (tget s.t 94) s.h :=
  by kernel_rfl

noncomputable def ins_Check_13 (v1 v3 v8 v9 v92 v93 v94 : AV) (h : Heap) : Option (Ex AV) :=
ob (evLd true 5 v1 h) fun v99 =>
ob (evLd true 9 v9 h) fun v100 =>
oh (callAny E (callW E) 0 none true 63 [v99, v100] h) fun v101 h5 =>
ob (evUn .not v101) fun v102 =>
cnd v102
 ((expo1 h5 (AV.int .i64 80)))
 ((ins_Check_12 v1 v3 v8 v9 v92 v93 v94 h5))

theorem ins_Check_13_eq (s : St) : W E 0 c_ins_Check_13 s (fun s => ins_Check_11 (tget s.t 1) (tget s.t 3) (tget s.t 92) (tget s.t 93) (tget s.t 94) s.h) (exitTo 5 (fun s => ins_Check_11 (tget s.t 1) (tget s.t 3) (tget s.t 92) (tget s.t 93) (tget s.t 94) s.h) (exitTo 4 (fun s => ins_Check_8 (tget s.t 1) (tget s.t 3) s.h) (fun _ _ => none))) (finP [.t 2]) = ins_Check_13 (tget s.t 1) (tget s.t 3) (tget s.t 8) (tget s.t 9) (tget s.t 92) (tget s.t 93) (tget s.t 94) s.h :=
  (W_seq (k := (fun s => ins_Check_12 (tget s.t 1) (tget s.t 3) (tget s.t 8) (tget s.t 9) (tget s.t 92) (tget s.t 93) (tget s.t 94) s.h)) (fun s => ins_Check_12_eq s)).trans (by kernel_rfl)

noncomputable def ins_Check_14 (v1 v3 v92 v93 v94 : AV) (h : Heap) : Option (Ex AV) :=
ob (evIxs 9 v92 v94) fun v97 =>
ob (evLd true 9 v97 h) fun v98 =>
oh (newC 0 (some 1) [(.int .i64 0), (.int .i64 0), (.int .i64 0), (.int .i64 0), (.int .i64 0), (.int .i64 0), (.int .i64 0), (.str []), .nils] h) fun v9 h6 =>
oh (evSt 9 v9 v98 h6) fun _ h7 =>
(ins_Check_13 v1 v3 v94 v9 v92 v93 v94 h7)

theorem ins_Check_14_eq (s : St) : W E 0 c_ins_Check_14 s (fun s => ins_Check_11 (tget s.t 1) (tget s.t 3) (tget s.t 92) (tget s.t 93) (tget s.t 94) s.h) (exitTo 5 (fun s => ins_Check_11 (tget s.t 1) (tget s.t 3) (tget s.t 92) (tget s.t 93) (tget s.t 94) s.h) (exitTo 4 (fun s => ins_Check_8 (tget s.t 1) (tget s.t 3) s.h) (fun _ _ => none))) (finP [.t 2]) = ins_Check_14 (tget s.t 1) (tget s.t 3) (tget s.t 92) (tget s.t 93) (tget s.t 94) s.h :=
  (W_seq (k := (fun s => ins_Check_13 (tget s.t 1) (tget s.t 3) (tget s.t 8) (tget s.t 9) (tget s.t 92) (tget s.t 93) (tget s.t 94) s.h)) (fun s => ins_Check_13_eq s)).trans (by kernel_rfl)

theorem ins_Check_15_eq (s : St) : W E 0 c_ins_Check_15 s (fun s => ins_Check_11 (tget s.t 1) (tget s.t 3) (tget s.t 92) (tget s.t 93) (tget s.t 94) s.h) (exitTo 4 (fun s => ins_Check_8 (tget s.t 1) (tget s.t 3) s.h) (fun _ _ => none)) (finP [.t 2]) = ins_Check_14 (tget s.t 1) (tget s.t 3) (tget s.t 92) (tget s.t 93) (tget s.t 94) s.h :=
  W_block.trans (ins_Check_14_eq s)

theorem ins_Check_16_eq (s : St) : W E 0 c_ins_Check_16 s (fun s => ins_Check_L10 (tget s.t 1) (tget s.t 3) (tget s.t 92) (tget s.t 93) (tget s.t 94) s.h) (exitTo 4 (fun s => ins_Check_8 (tget s.t 1) (tget s.t 3) s.h) (fun _ _ => none)) (finP [.t 2]) = ins_Check_14 (tget s.t 1) (tget s.t 3) (tget s.t 92) (tget s.t 93) (tget s.t 94) s.h :=
  (W_seq (k := (fun s => ins_Check_11 (tget s.t 1) (tget s.t 3) (tget s.t 92) (tget s.t 93) (tget s.t 94) s.h)) (fun s => ins_Check_11_eq s)).trans (ins_Check_15_eq s)

noncomputable def ins_Check_17 (v1 v3 v92 v93 v94 v95 : AV) (h : Heap) : Option (Ex AV) :=
cnd v95
 ((ins_Check_14 v1 v3 v92 v93 v94 h))
 ((ins_Check_8 v1 v3 h))

theorem ins_Check_17_eq (s : St) : W E 0 c_ins_Check_17 s (fun s => ins_Check_L10 (tget s.t 1) (tget s.t 3) (tget s.t 92) (tget s.t 93) (tget s.t 94) s.h) (exitTo 4 (fun s => ins_Check_8 (tget s.t 1) (tget s.t 3) s.h) (fun _ _ => none)) (finP [.t 2]) = ins_Check_17 (tget s.t 1) (tget s.t 3) (tget s.t 92) (tget s.t 93) (tget s.t 94) (tget s.t 95) s.h :=
  (W_seq (k := (fun s => ins_Check_14 (tget s.t 1) (tget s.t 3) (tget s.t 92) (tget s.t 93) (tget s.t 94) s.h)) (fun s => ins_Check_16_eq s)).trans (by kernel_rfl)

noncomputable def ins_Check_18 (v1 v3 v92 v93 v94 : AV) (h : Heap) : Option (Ex AV) :=
ob (evBin .lss v94 v93) fun v95 =>
(ins_Check_17 v1 v3 v92 v93 v94 v95 h)

theorem ins_Check_18_eq (s : St) : W E 0 c_ins_Check_18 s (fun s => ins_Check_L10 (tget s.t 1) (tget s.t 3) (tget s.t 92) (tget s.t 93) (tget s.t 94) s.h) (exitTo 4 (fun s => ins_Check_8 (tget s.t 1) (tget s.t 3) s.h) (fun _ _ => none)) (finP [.t 2]) = ins_Check_18 (tget s.t 1) (tget s.t 3) (tget s.t 92) (tget s.t 93) (tget s.t 94) s.h :=
  (W_seq (k := (fun s => ins_Check_17 (tget s.t 1) (tget s.t 3) (tget s.t 92) (tget s.t 93) (tget s.t 94) (tget s.t 95) s.h)) (fun s => ins_Check_17_eq s)).trans (by kernel_rfl)

theorem ins_Check_L10_go (v1 v3 v92 v93 v94 : AV) (h : Heap) : ins_Check_L10 v1 v3 v92 v93 v94 h = (ins_Check_18 v1 v3 v92 v93 v94 h) :=
  W_loop.trans ((W_congr _ _ _ (n' := (fun s => ins_Check_L10 (tget s.t 1) (tget s.t 3) (tget s.t 92) (tget s.t 93) (tget s.t 94) s.h)) (fun s => ins_Check_L10_eq s)).trans ((ins_Check_18_eq _).trans (by kernel_rfl)))

theorem ins_Check_19_eq (s : St) : W E 0 c_ins_Check_19 s (fun s => ins_Check_8 (tget s.t 1) (tget s.t 3) s.h) (fun _ _ => none) (finP [.t 2]) = ins_Check_L10 (tget s.t 1) (tget s.t 3) (tget s.t 92) (tget s.t 93) (tget s.t 94) s.h :=
  W_block.trans (ins_Check_L10_eq s)

noncomputable def ins_Check_20 (v1 v3 : AV) (h : Heap) : Option (Ex AV) :=
ob (evFa 3 v1) fun v91 =>
ob (evLd false 1 v91 h) fun v92 =>
ob (evLen 1 v92 h) fun v93 =>
(ins_Check_L10 v1 v3 v92 v93 (AV.int .i64 0) h)

theorem ins_Check_20_eq (s : St) : W E 0 c_ins_Check_20 s (fun s => ins_Check_8 (tget s.t 1) (tget s.t 3) s.h) (fun _ _ => none) (finP [.t 2]) = ins_Check_20 (tget s.t 1) (tget s.t 3) s.h :=
  (W_seq (k := (fun s => ins_Check_L10 (tget s.t 1) (tget s.t 3) (tget s.t 92) (tget s.t 93) (tget s.t 94) s.h)) (fun s => ins_Check_19_eq s)).trans (by kernel_rfl)

theorem ins_Check_21_eq (s : St) : W E 0 c_ins_Check_21 s (finP [.t 2]) (fun _ _ => none) (finP [.t 2]) = ins_Check_20 (tget s.t 1) (tget s.t 3) s.h :=
  (W_seq (k := (fun s => ins_Check_8 (tget s.t 1) (tget s.t 3) s.h)) (fun s => ins_Check_9_eq s)).trans (ins_Check_20_eq s)

noncomputable def ins_Check_L22 (v1 v3 v62 v63 v64 : AV) (h : Heap) : Option (Ex AV) :=
  W E 0 c_ins_Check_L22 ⟨[(1, v1), (3, v3), (62, v62), (63, v63), (64, v64)], h⟩ (fun s => ins_Check_20 (tget s.t 1) (tget s.t 3) s.h) (exitTo 2 (fun s => ins_Check_20 (tget s.t 1) (tget s.t 3) s.h) (fun _ _ => none)) (finP [.t 2])

theorem ins_Check_L22_eq (s : St) : W E 0 c_ins_Check_L22 s (fun s => ins_Check_20 (tget s.t 1) (tget s.t 3) s.h) (exitTo 2 (fun s => ins_Check_20 (tget s.t 1) (tget s.t 3) s.h) (fun _ _ => none)) (finP [.t 2]) = ins_Check_L22 (tget s.t 1) (tget s.t 3) (tget s.t 62) (tget s.t 63) (tget s.t 64) s.h := W_loop_live.trans (by kernel_rfl)

noncomputable def ins_Check_23 (v1 v3 v62 v63 v64 : AV) (h : Heap) : Option (Ex AV) :=
ob (evBin .add v64 (AV.int .i64 1)) fun v90 =>
(ins_Check_L22 v1 v3 v62 v63 v90 h)

theorem ins_Check_23_eq (s : St) : W E 0 c_ins_Check_23 s (fun s => ins_Check_L22 (tget s.t 1) (tget s.t 3) (tget s.t 62) (tget s.t 63) (tget s.t 64) s.h) (exitTo 2 (fun s => ins_Check_20 (tget s.t 1) (tget s.t 3) s.h) (fun _ _ => none)) (finP [.t 2]) = ins_Check_23 (tget s.t 1) (tget s.t 3) (tget s.t 62) (tget s.t 63) (tget s.t 64) s.h :=
  by kernel_rfl

noncomputable def ins_Check_24 (v1 v3 v62 v63 v64 : AV) (h : Heap) : Option (Ex AV) :=
ob (evIxs 1 v62 v64) fun v67 =>
ob (evLd false 1 v67 h) fun v68 =>
ob (evBin .lss v68 (AV.int .i64 0)) fun v70 =>
gb v70 false (some v68) fun v72 =>
gb v70 false (evFa 0 v1) fun v73 =>
gb v70 false (evLd false 1 v73 h) fun v74 =>
gb v70 false (evLen 1 v74 h) fun v75 =>
gb v70 false (evBin .geq v72 v75) fun v76 =>
ob (evPick v70 (AV.bool true) v76) fun v77 =>
gb v77 false (evFa 1 v1) fun v79 =>
gb v77 false (evLd false 1 v79 h) fun v80 =>
gb v77 false (some v64) fun v81 =>
gb v77 false (evSlcO 1 v80 none (some v81)) fun v82 =>
gb v77 false (some v68) fun v83 =>
gh v77 false (callAny E (callW E) 0 none true 46 [v82, v83] h) h fun v84 h8 =>
ob (evPick v77 (AV.bool true) v84) fun v85 =>
gb v85 false (some v64) fun v87 =>
gb v85 false (evBin .gtr v87 (AV.int .i64 20)) fun v88 =>
ob (evPick v85 (AV.bool true) v88) fun v89 =>
cnd v89
 ((expo1 h8 (AV.int .i64 80)))
 ((ins_Check_23 v1 v3 v62 v63 v64 h8))

theorem ins_Check_24_eq (s : St) : W E 0 c_ins_Check_24 s (fun s => ins_Check_L22 (tget s.t 1) (tget s.t 3) (tget s.t 62) (tget s.t 63) (tget s.t 64) s.h) (exitTo 2 (fun s => ins_Check_20 (tget s.t 1) (tget s.t 3) s.h) (fun _ _ => none)) (finP [.t 2]) = ins_Check_24 (tget s.t 1) (tget s.t 3) (tget s.t 62) (tget s.t 63) (tget s.t 64) s.h :=
  (W_seq (k := (fun s => ins_Check_23 (tget s.t 1) (tget s.t 3) (tget s.t 62) (tget s.t 63) (tget s.t 64) s.h)) (fun s => ins_Check_23_eq s)).trans (by kernel_rfl)

noncomputable def ins_Check_25 (v1 v3 v62 v63 v64 v65 : AV) (h : Heap) : Option (Ex AV) :=
cnd v65
 ((ins_Check_24 v1 v3 v62 v63 v64 h))
 ((ins_Check_20 v1 v3 h))

theorem ins_Check_25_eq (s : St) : W E 0 c_ins_Check_25 s (fun s => ins_Check_L22 (tget s.t 1) (tget s.t 3) (tget s.t 62) (tget s.t 63) (tget s.t 64) s.h) (exitTo 2 (fun s => ins_Check_20 (tget s.t 1) (tget s.t 3) s.h) (fun _ _ => none)) (finP [.t 2]) = ins_Check_25 (tget s.t 1) (tget s.t 3) (tget s.t 62) (tget s.t 63) (tget s.t 64) (tget s.t 65) s.h :=
  (W_seq (k := (fun s => ins_Check_24 (tget s.t 1) (tget s.t 3) (tget s.t 62) (tget s.t 63) (tget s.t 64) s.h)) (fun s => ins_Check_24_eq s)).trans (by kernel_rfl)

noncomputable def ins_Check_26 (v1 v3 v62 v63 v64 : AV) (h : Heap) : Option (Ex AV) :=
ob (evBin .lss v64 v63) fun v65 =>
(ins_Check_25 v1 v3 v62 v63 v64 v65 h)

theorem ins_Check_26_eq (s : St) : W E 0 c_ins_Check_26 s (fun s => ins_Check_L22 (tget s.t 1) (tget s.t 3) (tget s.t 62) (tget s.t 63) (tget s.t 64) s.h) (exitTo 2 (fun s => ins_Check_20 (tget s.t 1) (tget s.t 3) s.h) (fun _ _ => none)) (finP [.t 2]) = ins_Check_26 (tget s.t 1) (tget s.t 3) (tget s.t 62) (tget s.t 63) (tget s.t 64) s.h :=
  (W_seq (k := (fun s => ins_Check_25 (tget s.t 1) (tget s.t 3) (tget s.t 62) (tget s.t 63) (tget s.t 64) (tget s.t 65) s.h)) (fun s => ins_Check_25_eq s)).trans (by kernel_rfl)

theorem ins_Check_L22_go (v1 v3 v62 v63 v64 : AV) (h : Heap) : ins_Check_L22 v1 v3 v62 v63 v64 h = (ins_Check_26 v1 v3 v62 v63 v64 h) :=
  W_loop.trans ((W_congr _ _ _ (n' := (fun s => ins_Check_L22 (tget s.t 1) (tget s.t 3) (tget s.t 62) (tget s.t 63) (tget s.t 64) s.h)) (fun s => ins_Check_L22_eq s)).trans ((ins_Check_26_eq _).trans (by kernel_rfl)))

theorem ins_Check_27_eq (s : St) : W E 0 c_ins_Check_27 s (fun s => ins_Check_20 (tget s.t 1) (tget s.t 3) s.h) (fun _ _ => none) (finP [.t 2]) = ins_Check_L22 (tget s.t 1) (tget s.t 3) (tget s.t 62) (tget s.t 63) (tget s.t 64) s.h :=
  W_block.trans (ins_Check_L22_eq s)

noncomputable def ins_Check_28 (v1 v3 : AV) (h : Heap) : Option (Ex AV) :=
ob (evFa 1 v1) fun v61 =>
ob (evLd false 1 v61 h) fun v62 =>
ob (evLen 1 v62 h) fun v63 =>
(ins_Check_L22 v1 v3 v62 v63 (AV.int .i64 0) h)

theorem ins_Check_28_eq (s : St) : W E 0 c_ins_Check_28 s (fun s => ins_Check_20 (tget s.t 1) (tget s.t 3) s.h) (fun _ _ => none) (finP [.t 2]) = ins_Check_28 (tget s.t 1) (tget s.t 3) s.h :=
  (W_seq (k := (fun s => ins_Check_L22 (tget s.t 1) (tget s.t 3) (tget s.t 62) (tget s.t 63) (tget s.t 64) s.h)) (fun s => ins_Check_27_eq s)).trans (by kernel_rfl)

theorem ins_Check_29_eq (s : St) : W E 0 c_ins_Check_29 s (finP [.t 2]) (fun _ _ => none) (finP [.t 2]) = ins_Check_28 (tget s.t 1) (tget s.t 3) s.h :=
  (W_seq (k := (fun s => ins_Check_20 (tget s.t 1) (tget s.t 3) s.h)) (fun s => ins_Check_21_eq s)).trans (ins_Check_28_eq s)

noncomputable def ins_Check_L30 (v1 v3 v48 v49 v50 : AV) (h : Heap) : Option (Ex AV) :=
  W E 0 c_ins_Check_L30 ⟨[(1, v1), (3, v3), (48, v48), (49, v49), (50, v50)], h⟩ (fun s => ins_Check_28 (tget s.t 1) (tget s.t 3) s.h) (exitTo 0 (fun s => ins_Check_28 (tget s.t 1) (tget s.t 3) s.h) (fun _ _ => none)) (finP [.t 2])

theorem ins_Check_L30_eq (s : St) : W E 0 c_ins_Check_L30 s (fun s => ins_Check_28 (tget s.t 1) (tget s.t 3) s.h) (exitTo 0 (fun s => ins_Check_28 (tget s.t 1) (tget s.t 3) s.h) (fun _ _ => none)) (finP [.t 2]) = ins_Check_L30 (tget s.t 1) (tget s.t 3) (tget s.t 48) (tget s.t 49) (tget s.t 50) s.h := W_loop_live.trans (by kernel_rfl)

noncomputable def ins_Check_31 (v1 v3 v48 v49 v50 : AV) (h : Heap) : Option (Ex AV) :=
ob (evBin .add v50 (AV.int .i64 1)) fun v60 =>
(ins_Check_L30 v1 v3 v48 v49 v60 h)

theorem ins_Check_31_eq (s : St) : W E 0 c_ins_Check_31 s (fun s => ins_Check_L30 (tget s.t 1) (tget s.t 3) (tget s.t 48) (tget s.t 49) (tget s.t 50) s.h) (exitTo 0 (fun s => ins_Check_28 (tget s.t 1) (tget s.t 3) s.h) (fun _ _ => none)) (finP [.t 2]) = ins_Check_31 (tget s.t 1) (tget s.t 3) (tget s.t 48) (tget s.t 49) (tget s.t 50) s.h :=
  by kernel_rfl

noncomputable def ins_Check_32 (v1 v3 v48 v49 v50 : AV) (h : Heap) : Option (Ex AV) :=
ob (evIxs 1 v48 v50) fun v52 =>
ob (evLd false 1 v52 h) fun v53 =>
ob (evBin .lss v53 (AV.int .i64 1)) fun v55 =>
gb v55 false (some v53) fun v57 =>
gb v55 false (evBin .gtr v57 (AV.int .i64 3)) fun v58 =>
ob (evPick v55 (AV.bool true) v58) fun v59 =>
cnd v59
 ((expo1 h (AV.int .i64 80)))
 ((ins_Check_31 v1 v3 v48 v49 v50 h))

theorem ins_Check_32_eq (s : St) : W E 0 c_ins_Check_32 s (fun s => ins_Check_L30 (tget s.t 1) (tget s.t 3) (tget s.t 48) (tget s.t 49) (tget s.t 50) s.h) (exitTo 0 (fun s => ins_Check_28 (tget s.t 1) (tget s.t 3) s.h) (fun _ _ => none)) (finP [.t 2]) = ins_Check_32 (tget s.t 1) (tget s.t 3) (tget s.t 48) (tget s.t 49) (tget s.t 50) s.h :=
  (W_seq (k := (fun s => ins_Check_31 (tget s.t 1) (tget s.t 3) (tget s.t 48) (tget s.t 49) (tget s.t 50) s.h)) (fun s => ins_Check_31_eq s)).trans (by kernel_rfl)

noncomputable def ins_Check_33 (v1 v3 v48 v49 v50 v51 : AV) (h : Heap) : Option (Ex AV) :=
cnd v51
 ((ins_Check_32 v1 v3 v48 v49 v50 h))
 ((ins_Check_28 v1 v3 h))

theorem ins_Check_33_eq (s : St) : W E 0 c_ins_Check_33 s (fun s => ins_Check_L30 (tget s.t 1) (tget s.t 3) (tget s.t 48) (tget s.t 49) (tget s.t 50) s.h) (exitTo 0 (fun s => ins_Check_28 (tget s.t 1) (tget s.t 3) s.h) (fun _ _ => none)) (finP [.t 2]) = ins_Check_33 (tget s.t 1) (tget s.t 3) (tget s.t 48) (tget s.t 49) (tget s.t 50) (tget s.t 51) s.h :=
  (W_seq (k := (fun s => ins_Check_32 (tget s.t 1) (tget s.t 3) (tget s.t 48) (tget s.t 49) (tget s.t 50) s.h)) (fun s => ins_Check_32_eq s)).trans (by kernel_rfl)

noncomputable def ins_Check_34 (v1 v3 v48 v49 v50 : AV) (h : Heap) : Option (Ex AV) :=
ob (evBin .lss v50 v49) fun v51 =>
(ins_Check_33 v1 v3 v48 v49 v50 v51 h)

theorem ins_Check_34_eq (s : St) : W E 0 c_ins_Check_34 s (fun s => ins_Check_L30 (tget s.t 1) (tget s.t 3) (tget s.t 48) (tget s.t 49) (tget s.t 50) s.h) (exitTo 0 (fun s => ins_Check_28 (tget s.t 1) (tget s.t 3) s.h) (fun _ _ => none)) (finP [.t 2]) = ins_Check_34 (tget s.t 1) (tget s.t 3) (tget s.t 48) (tget s.t 49) (tget s.t 50) s.h :=
  (W_seq (k := (fun s => ins_Check_33 (tget s.t 1) (tget s.t 3) (tget s.t 48) (tget s.t 49) (tget s.t 50) (tget s.t 51) s.h)) (fun s => ins_Check_33_eq s)).trans (by kernel_rfl)

theorem ins_Check_L30_go (v1 v3 v48 v49 v50 : AV) (h : Heap) : ins_Check_L30 v1 v3 v48 v49 v50 h = (ins_Check_34 v1 v3 v48 v49 v50 h) :=
  W_loop.trans ((W_congr _ _ _ (n' := (fun s => ins_Check_L30 (tget s.t 1) (tget s.t 3) (tget s.t 48) (tget s.t 49) (tget s.t 50) s.h)) (fun s => ins_Check_L30_eq s)).trans ((ins_Check_34_eq _).trans (by kernel_rfl)))

theorem ins_Check_35_eq (s : St) : W E 0 c_ins_Check_35 s (fun s => ins_Check_28 (tget s.t 1) (tget s.t 3) s.h) (fun _ _ => none) (finP [.t 2]) = ins_Check_L30 (tget s.t 1) (tget s.t 3) (tget s.t 48) (tget s.t 49) (tget s.t 50) s.h :=
  W_block.trans (ins_Check_L30_eq s)

noncomputable def ins_Check_36 (v1 v3 : AV) (h : Heap) : Option (Ex AV) :=
ob (evFa 0 v1) fun v47 =>
ob (evLd false 1 v47 h) fun v48 =>
ob (evLen 1 v48 h) fun v49 =>
(ins_Check_L30 v1 v3 v48 v49 (AV.int .i64 0) h)

theorem ins_Check_36_eq (s : St) : W E 0 c_ins_Check_36 s (fun s => ins_Check_28 (tget s.t 1) (tget s.t 3) s.h) (fun _ _ => none) (finP [.t 2]) = ins_Check_36 (tget s.t 1) (tget s.t 3) s.h :=
  (W_seq (k := (fun s => ins_Check_L30 (tget s.t 1) (tget s.t 3) (tget s.t 48) (tget s.t 49) (tget s.t 50) s.h)) (fun s => ins_Check_35_eq s)).trans (by kernel_rfl)

theorem ins_Check_37_eq (s : St) : W E 0 c_ins_Check_37 s (finP [.t 2]) (fun _ _ => none) (finP [.t 2]) = ins_Check_36 (tget s.t 1) (tget s.t 3) s.h :=
  (W_seq (k := (fun s => ins_Check_28 (tget s.t 1) (tget s.t 3) s.h)) (fun s => ins_Check_29_eq s)).trans (ins_Check_36_eq s)

noncomputable def ins_Check_38 (v1 v3 : AV) (h : Heap) : Option (Ex AV) :=
ob (evBin .lss v3 (AV.int .i64 1)) fun v16 =>
gb v16 false (some v3) fun v18 =>
gb v16 false (evBin .gtr v18 (AV.int .i64 20000)) fun v19 =>
ob (evPick v16 (AV.bool true) v19) fun v20 =>
gb v20 false (evFa 0 v1) fun v22 =>
gb v20 false (evLd false 1 v22 h) fun v23 =>
gb v20 false (evLen 1 v23 h) fun v24 =>
gb v20 false (evBin .gtr v24 (AV.int .i64 20000)) fun v25 =>
ob (evPick v20 (AV.bool true) v25) fun v26 =>
gb v26 false (evFa 2 v1) fun v28 =>
gb v26 false (evLd false 1 v28 h) fun v29 =>
gb v26 false (evBin .lss v29 (AV.int .i64 0)) fun v30 =>
ob (evPick v26 (AV.bool true) v30) fun v31 =>
gb v31 false (evFa 2 v1) fun v33 =>
gb v31 false (evLd false 1 v33 h) fun v34 =>
gb v31 false (evBin .gtr v34 (AV.int .i64 3)) fun v35 =>
ob (evPick v31 (AV.bool true) v35) fun v36 =>
gb v36 false (evFa 3 v1) fun v38 =>
gb v36 false (evLd false 1 v38 h) fun v39 =>
gb v36 false (some v3) fun v40 =>
gb v36 false (evBin .sub v40 (AV.int .i64 1)) fun v41 =>
gb v36 false (evIxs 9 v39 v41) fun v42 =>
gb v36 false (evLd true 9 v42 h) fun v43 =>
gh v36 false (callAny E (callW E) 0 none true 24 [v43] h) h fun v44 h9 =>
gb v36 false (evUn .not v44) fun v45 =>
ob (evPick v36 (AV.bool true) v45) fun v46 =>
cnd v46
 ((expo1 h9 (AV.int .i64 80)))
 ((ins_Check_36 v1 v3 h9))

theorem ins_Check_38_eq (s : St) : W E 0 c_ins_Check_38 s (finP [.t 2]) (fun _ _ => none) (finP [.t 2]) = ins_Check_38 (tget s.t 1) (tget s.t 3) s.h :=
  (W_seq (k := (fun s => ins_Check_36 (tget s.t 1) (tget s.t 3) s.h)) (fun s => ins_Check_37_eq s)).trans (by kernel_rfl)

noncomputable def ins_Check_39 (v1 : AV) (h : Heap) : Option (Ex AV) :=
ob (evFa 3 v1) fun v12 =>
ob (evLd false 1 v12 h) fun v13 =>
ob (evLen 1 v13 h) fun v14 =>
(ins_Check_38 v1 v14 h)

theorem ins_Check_39_eq (s : St) : W E 0 c_ins_Check_39 s (finP [.t 2]) (fun _ _ => none) (finP [.t 2]) = ins_Check_39 (tget s.t 1) s.h :=
  (W_seq (k := (fun s => ins_Check_38 (tget s.t 1) (tget s.t 3) s.h)) (fun s => ins_Check_38_eq s)).trans (by kernel_rfl)

noncomputable def ins_Check_40 (v0 : AV) (h : Heap) : Option (Ex AV) :=
oh (newC 0 (some 0) (cellsOf v0) h) fun v1 h10 =>
(ins_Check_39 v1 h10)

theorem ins_Check_40_eq (s : St) : W E 0 c_ins_Check_40 s (finP [.t 2]) (fun _ _ => none) (finP [.t 2]) = ins_Check_40 (tget s.t 0) s.h :=
  (W_seq (k := (fun s => ins_Check_39 (tget s.t 1) s.h)) (fun s => ins_Check_39_eq s)).trans (by kernel_rfl)

@[simp] theorem pure_8 : E.pure 8 = true := rfl

theorem x_ins_Check (v0 : AV) : (callW E).p 8 [v0] = ins_Check_40 v0 [⟨0, .dead⟩, ⟨0, .dead⟩, ⟨0, .dead⟩] :=
  (callP_W (cf := c_ins_Check) (by kernel_rfl) rfl).trans ((ins_Check_40_eq _).trans (by kernel_rfl))

noncomputable def ins_Def_1 (h : Heap) : Option (Ex AV) :=
(expo1 h (AV.int .i64 (-1)))

theorem ins_Def_1_eq (s : St) : W E 0 c_ins_Def_1 s (finP [.t 2]) (fun _ _ => none) (finP [.t 2]) = ins_Def_1 s.h :=
  by kernel_rfl

noncomputable def ins_Def_2 (v1 : AV) (h : Heap) : Option (Ex AV) :=
ob (evLd true 9 v1 h) fun v22 =>
oh (callAny E (callW E) 0 none true 17 [v22] h) fun v23 h1 =>
cnd v23
 (ob (evFa 1 v1) fun v24 =>
ob (evLd false 1 v24 h1) fun v25 =>
(expo1 h1 v25))
 ((ins_Def_1 h1))

theorem ins_Def_2_eq (s : St) : W E 0 c_ins_Def_2 s (finP [.t 2]) (fun _ _ => none) (finP [.t 2]) = ins_Def_2 (tget s.t 1) s.h :=
  (W_seq (k := (fun s => ins_Def_1 s.h)) (fun s => ins_Def_1_eq s)).trans (by kernel_rfl)

noncomputable def ins_Def_3 (v1 v5 : AV) (h : Heap) : Option (Ex AV) :=
cnd v5
 (ob (evFa 1 v1) fun v20 =>
ob (evLd false 1 v20 h) fun v21 =>
(expo1 h v21))
 ((ins_Def_2 v1 h))

theorem ins_Def_3_eq (s : St) : W E 0 c_ins_Def_3 s (fun s => ins_Def_2 (tget s.t 1) s.h) (exitTo 0 (fun s => ins_Def_2 (tget s.t 1) s.h) (fun _ _ => none)) (finP [.t 2]) = ins_Def_3 (tget s.t 1) (tget s.t 5) s.h :=
  by kernel_rfl

noncomputable def ins_Def_4 (v1 v4 : AV) (h : Heap) : Option (Ex AV) :=
ob (evBin .eql v4 (AV.int .i64 1)) fun v6 =>
cnd v6
 ((ins_Def_3 v1 v6 h))
 (ob (evBin .eql v4 (AV.int .i64 2)) fun v7 =>
cnd v7
 ((ins_Def_3 v1 v7 h))
 (ob (evBin .eql v4 (AV.int .i64 3)) fun v8 =>
cnd v8
 ((ins_Def_3 v1 v8 h))
 (ob (evBin .eql v4 (AV.int .i64 4)) fun v9 =>
cnd v9
 ((ins_Def_3 v1 v9 h))
 (ob (evBin .eql v4 (AV.int .i64 5)) fun v10 =>
cnd v10
 ((ins_Def_3 v1 v10 h))
 (ob (evBin .eql v4 (AV.int .i64 6)) fun v11 =>
cnd v11
 ((ins_Def_3 v1 v11 h))
 (ob (evBin .eql v4 (AV.int .i64 13)) fun v12 =>
cnd v12
 ((ins_Def_3 v1 v12 h))
 (ob (evBin .eql v4 (AV.int .i64 15)) fun v13 =>
cnd v13
 ((ins_Def_3 v1 v13 h))
 (ob (evBin .eql v4 (AV.int .i64 16)) fun v14 =>
cnd v14
 ((ins_Def_3 v1 v14 h))
 (ob (evBin .eql v4 (AV.int .i64 18)) fun v15 =>
cnd v15
 ((ins_Def_3 v1 v15 h))
 (ob (evBin .eql v4 (AV.int .i64 20)) fun v16 =>
cnd v16
 ((ins_Def_3 v1 v16 h))
 (ob (evBin .eql v4 (AV.int .i64 21)) fun v17 =>
cnd v17
 ((ins_Def_3 v1 v17 h))
 (ob (evBin .eql v4 (AV.int .i64 22)) fun v18 =>
cnd v18
 ((ins_Def_3 v1 v18 h))
 (ob (evBin .eql v4 (AV.int .i64 32)) fun v19 =>
(ins_Def_3 v1 v19 h))))))))))))))

theorem ins_Def_4_eq (s : St) : W E 0 c_ins_Def_4 s (fun s => ins_Def_2 (tget s.t 1) s.h) (exitTo 0 (fun s => ins_Def_2 (tget s.t 1) s.h) (fun _ _ => none)) (finP [.t 2]) = ins_Def_4 (tget s.t 1) (tget s.t 4) s.h :=
  (W_seq (k := (fun s => ins_Def_3 (tget s.t 1) (tget s.t 5) s.h)) (fun s => ins_Def_3_eq s)).trans (by kernel_rfl)

theorem ins_Def_5_eq (s : St) : W E 0 c_ins_Def_5 s (fun s => ins_Def_2 (tget s.t 1) s.h) (fun _ _ => none) (finP [.t 2]) = ins_Def_4 (tget s.t 1) (tget s.t 4) s.h :=
  W_block.trans (ins_Def_4_eq s)

noncomputable def ins_Def_6 (v1 : AV) (h : Heap) : Option (Ex AV) :=
ob (evFa 0 v1) fun v3 =>
ob (evLd false 1 v3 h) fun v4 =>
(ins_Def_4 v1 v4 h)

theorem ins_Def_6_eq (s : St) : W E 0 c_ins_Def_6 s (fun s => ins_Def_2 (tget s.t 1) s.h) (fun _ _ => none) (finP [.t 2]) = ins_Def_6 (tget s.t 1) s.h :=
  (W_seq (k := (fun s => ins_Def_4 (tget s.t 1) (tget s.t 4) s.h)) (fun s => ins_Def_5_eq s)).trans (by kernel_rfl)

theorem ins_Def_7_eq (s : St) : W E 0 c_ins_Def_7 s (finP [.t 2]) (fun _ _ => none) (finP [.t 2]) = ins_Def_6 (tget s.t 1) s.h :=
  (W_seq (k := (fun s => ins_Def_2 (tget s.t 1) s.h)) (fun s => ins_Def_2_eq s)).trans (ins_Def_6_eq s)

noncomputable def ins_Def_8 (v0 : AV) (h : Heap) : Option (Ex AV) :=
oh (newC 0 (some 0) (cellsOf v0) h) fun v1 h2 =>
(ins_Def_6 v1 h2)

theorem ins_Def_8_eq (s : St) : W E 0 c_ins_Def_8 s (finP [.t 2]) (fun _ _ => none) (finP [.t 2]) = ins_Def_8 (tget s.t 0) s.h :=
  (W_seq (k := (fun s => ins_Def_6 (tget s.t 1) s.h)) (fun s => ins_Def_7_eq s)).trans (by kernel_rfl)

@[simp] theorem pure_9 : E.pure 9 = true := rfl

theorem x_ins_Def (v0 : AV) : (callW E).p 9 [v0] = ins_Def_8 v0 [⟨0, .dead⟩] :=
  (callP_W (cf := c_ins_Def) (by kernel_rfl) rfl).trans ((ins_Def_8_eq _).trans (by kernel_rfl))

noncomputable def ins_Uses_1 (h : Heap) : Option (Ex AV) :=
(expo1 h AV.nils)

theorem ins_Uses_1_eq (s : St) : W E 0 c_ins_Uses_1 s (finP [.t 2]) (fun _ _ => none) (finP [.t 2]) = ins_Uses_1 s.h :=
  by kernel_rfl

noncomputable def ins_Uses_2 (v1 : AV) (h : Heap) : Option (Ex AV) :=
ob (evFa 2 v1) fun v58 =>
ob (evLd false 1 v58 h) fun v59 =>
ob (evFa 3 v1) fun v60 =>
ob (evLd false 1 v60 h) fun v61 =>
oh (buildSC 0 (some 6) 1 2 [(.int .i64 0)] [(0, v59), (1, v61)] h) fun v62 h1 =>
(expo1 h1 v62)

theorem ins_Uses_2_eq (s : St) : W E 0 c_ins_Uses_2 s (fun s => ins_Uses_1 s.h) (exitTo 0 (fun s => ins_Uses_1 s.h) (fun _ _ => none)) (finP [.t 2]) = ins_Uses_2 (tget s.t 1) s.h :=
  by kernel_rfl

noncomputable def ins_Uses_3 (v1 : AV) (h : Heap) : Option (Ex AV) :=
ob (evFa 3 v1) fun v52 =>
ob (evLd false 1 v52 h) fun v53 =>
ob (evBin .lss v53 (AV.int .i64 0)) fun v54 =>
cnd v54
 (ob (evFa 2 v1) fun v55 =>
ob (evLd false 1 v55 h) fun v56 =>
oh (buildSC 0 (some 5) 1 1 [(.int .i64 0)] [(0, v56)] h) fun v57 h2 =>
(expo1 h2 v57))
 ((ins_Uses_2 v1 h))

theorem ins_Uses_3_eq (s : St) : W E 0 c_ins_Uses_3 s (fun s => ins_Uses_1 s.h) (exitTo 0 (fun s => ins_Uses_1 s.h) (fun _ _ => none)) (finP [.t 2]) = ins_Uses_3 (tget s.t 1) s.h :=
  (W_seq (k := (fun s => ins_Uses_2 (tget s.t 1) s.h)) (fun s => ins_Uses_2_eq s)).trans (by kernel_rfl)

noncomputable def ins_Uses_4 (v1 v4 v50 : AV) (h : Heap) : Option (Ex AV) :=
cnd v50
 ((ins_Uses_3 v1 h))
 (ob (evBin .eql v4 (AV.int .i64 30)) fun v64 =>
cnd v64
 (ob (evFa 2 v1) fun v65 =>
ob (evLd false 1 v65 h) fun v66 =>
ob (evBin .geq v66 (AV.int .i64 0)) fun v67 =>
cnd v67
 (ob (evFa 2 v1) fun v68 =>
ob (evLd false 1 v68 h) fun v69 =>
oh (buildSC 0 (some 7) 1 1 [(.int .i64 0)] [(0, v69)] h) fun v70 h3 =>
(expo1 h3 v70))
 ((ins_Uses_1 h)))
 ((ins_Uses_1 h)))

theorem ins_Uses_4_eq (s : St) : W E 0 c_ins_Uses_4 s (fun s => ins_Uses_1 s.h) (exitTo 0 (fun s => ins_Uses_1 s.h) (fun _ _ => none)) (finP [.t 2]) = ins_Uses_4 (tget s.t 1) (tget s.t 4) (tget s.t 50) s.h :=
  (W_cond (ins_Uses_3_eq s) rfl).trans (by kernel_rfl)

noncomputable def ins_Uses_5 (v1 v4 : AV) (h : Heap) : Option (Ex AV) :=
ob (evBin .eql v4 (AV.int .i64 29)) fun v51 =>
(ins_Uses_4 v1 v4 v51 h)

theorem ins_Uses_5_eq (s : St) : W E 0 c_ins_Uses_5 s (fun s => ins_Uses_1 s.h) (exitTo 0 (fun s => ins_Uses_1 s.h) (fun _ _ => none)) (finP [.t 2]) = ins_Uses_5 (tget s.t 1) (tget s.t 4) s.h :=
  (W_seq (k := (fun s => ins_Uses_4 (tget s.t 1) (tget s.t 4) (tget s.t 50) s.h)) (fun s => ins_Uses_4_eq s)).trans (by kernel_rfl)

noncomputable def ins_Uses_6 (v1 v4 v42 : AV) (h : Heap) : Option (Ex AV) :=
cnd v42
 (ob (evFa 8 v1) fun v47 =>
ob (evLd false 1 v47 h) fun v48 =>
oh (callAny E (callW E) 0 (some 4) false 39 [v48] h) fun v49 h4 =>
(expo1 h4 v49))
 ((ins_Uses_5 v1 v4 h))

theorem ins_Uses_6_eq (s : St) : W E 0 c_ins_Uses_6 s (fun s => ins_Uses_1 s.h) (exitTo 0 (fun s => ins_Uses_1 s.h) (fun _ _ => none)) (finP [.t 2]) = ins_Uses_6 (tget s.t 1) (tget s.t 4) (tget s.t 42) s.h :=
  (W_cond rfl (ins_Uses_5_eq s)).trans (by kernel_rfl)

noncomputable def ins_Uses_7 (v1 v4 : AV) (h : Heap) : Option (Ex AV) :=
ob (evBin .eql v4 (AV.int .i64 23)) fun v43 =>
cnd v43
 ((ins_Uses_6 v1 v4 v43 h))
 (ob (evBin .eql v4 (AV.int .i64 24)) fun v44 =>
cnd v44
 ((ins_Uses_6 v1 v4 v44 h))
 (ob (evBin .eql v4 (AV.int .i64 25)) fun v45 =>
cnd v45
 ((ins_Uses_6 v1 v4 v45 h))
 (ob (evBin .eql v4 (AV.int .i64 26)) fun v46 =>
(ins_Uses_6 v1 v4 v46 h))))

theorem ins_Uses_7_eq (s : St) : W E 0 c_ins_Uses_7 s (fun s => ins_Uses_1 s.h) (exitTo 0 (fun s => ins_Uses_1 s.h) (fun _ _ => none)) (finP [.t 2]) = ins_Uses_7 (tget s.t 1) (tget s.t 4) s.h :=
  (W_seq (k := (fun s => ins_Uses_6 (tget s.t 1) (tget s.t 4) (tget s.t 42) s.h)) (fun s => ins_Uses_6_eq s)).trans (by kernel_rfl)

noncomputable def ins_Uses_8 (v1 v4 v33 : AV) (h : Heap) : Option (Ex AV) :=
cnd v33
 (ob (evFa 2 v1) fun v35 =>
ob (evLd false 1 v35 h) fun v36 =>
ob (evFa 3 v1) fun v37 =>
ob (evLd false 1 v37 h) fun v38 =>
ob (evFa 4 v1) fun v39 =>
ob (evLd false 1 v39 h) fun v40 =>
oh (buildSC 0 (some 3) 1 3 [(.int .i64 0)] [(0, v36), (1, v38), (2, v40)] h) fun v41 h5 =>
(expo1 h5 v41))
 ((ins_Uses_7 v1 v4 h))

theorem ins_Uses_8_eq (s : St) : W E 0 c_ins_Uses_8 s (fun s => ins_Uses_1 s.h) (exitTo 0 (fun s => ins_Uses_1 s.h) (fun _ _ => none)) (finP [.t 2]) = ins_Uses_8 (tget s.t 1) (tget s.t 4) (tget s.t 33) s.h :=
  (W_cond rfl (ins_Uses_7_eq s)).trans (by kernel_rfl)

noncomputable def ins_Uses_9 (v1 v4 : AV) (h : Heap) : Option (Ex AV) :=
ob (evBin .eql v4 (AV.int .i64 14)) fun v34 =>
(ins_Uses_8 v1 v4 v34 h)

theorem ins_Uses_9_eq (s : St) : W E 0 c_ins_Uses_9 s (fun s => ins_Uses_1 s.h) (exitTo 0 (fun s => ins_Uses_1 s.h) (fun _ _ => none)) (finP [.t 2]) = ins_Uses_9 (tget s.t 1) (tget s.t 4) s.h :=
  (W_seq (k := (fun s => ins_Uses_8 (tget s.t 1) (tget s.t 4) (tget s.t 33) s.h)) (fun s => ins_Uses_8_eq s)).trans (by kernel_rfl)

noncomputable def ins_Uses_10 (v1 v4 v21 : AV) (h : Heap) : Option (Ex AV) :=
cnd v21
 (ob (evFa 2 v1) fun v28 =>
ob (evLd false 1 v28 h) fun v29 =>
ob (evFa 3 v1) fun v30 =>
ob (evLd false 1 v30 h) fun v31 =>
oh (buildSC 0 (some 2) 1 2 [(.int .i64 0)] [(0, v29), (1, v31)] h) fun v32 h6 =>
(expo1 h6 v32))
 ((ins_Uses_9 v1 v4 h))

theorem ins_Uses_10_eq (s : St) : W E 0 c_ins_Uses_10 s (fun s => ins_Uses_1 s.h) (exitTo 0 (fun s => ins_Uses_1 s.h) (fun _ _ => none)) (finP [.t 2]) = ins_Uses_10 (tget s.t 1) (tget s.t 4) (tget s.t 21) s.h :=
  (W_cond rfl (ins_Uses_9_eq s)).trans (by kernel_rfl)

noncomputable def ins_Uses_11 (v1 v4 : AV) (h : Heap) : Option (Ex AV) :=
ob (evBin .eql v4 (AV.int .i64 5)) fun v22 =>
cnd v22
 ((ins_Uses_10 v1 v4 v22 h))
 (ob (evBin .eql v4 (AV.int .i64 9)) fun v23 =>
cnd v23
 ((ins_Uses_10 v1 v4 v23 h))
 (ob (evBin .eql v4 (AV.int .i64 11)) fun v24 =>
cnd v24
 ((ins_Uses_10 v1 v4 v24 h))
 (ob (evBin .eql v4 (AV.int .i64 13)) fun v25 =>
cnd v25
 ((ins_Uses_10 v1 v4 v25 h))
 (ob (evBin .eql v4 (AV.int .i64 17)) fun v26 =>
cnd v26
 ((ins_Uses_10 v1 v4 v26 h))
 (ob (evBin .eql v4 (AV.int .i64 28)) fun v27 =>
(ins_Uses_10 v1 v4 v27 h))))))

theorem ins_Uses_11_eq (s : St) : W E 0 c_ins_Uses_11 s (fun s => ins_Uses_1 s.h) (exitTo 0 (fun s => ins_Uses_1 s.h) (fun _ _ => none)) (finP [.t 2]) = ins_Uses_11 (tget s.t 1) (tget s.t 4) s.h :=
  (W_seq (k := (fun s => ins_Uses_10 (tget s.t 1) (tget s.t 4) (tget s.t 21) s.h)) (fun s => ins_Uses_10_eq s)).trans (by kernel_rfl)

noncomputable def ins_Uses_12 (v1 v4 v5 : AV) (h : Heap) : Option (Ex AV) :=
cnd v5
 (ob (evFa 2 v1) fun v18 =>
ob (evLd false 1 v18 h) fun v19 =>
oh (buildSC 0 (some 1) 1 1 [(.int .i64 0)] [(0, v19)] h) fun v20 h7 =>
(expo1 h7 v20))
 ((ins_Uses_11 v1 v4 h))

theorem ins_Uses_12_eq (s : St) : W E 0 c_ins_Uses_12 s (fun s => ins_Uses_1 s.h) (exitTo 0 (fun s => ins_Uses_1 s.h) (fun _ _ => none)) (finP [.t 2]) = ins_Uses_12 (tget s.t 1) (tget s.t 4) (tget s.t 5) s.h :=
  (W_cond rfl (ins_Uses_11_eq s)).trans (by kernel_rfl)

noncomputable def ins_Uses_13 (v1 v4 : AV) (h : Heap) : Option (Ex AV) :=
ob (evBin .eql v4 (AV.int .i64 4)) fun v6 =>
cnd v6
 ((ins_Uses_12 v1 v4 v6 h))
 (ob (evBin .eql v4 (AV.int .i64 6)) fun v7 =>
cnd v7
 ((ins_Uses_12 v1 v4 v7 h))
 (ob (evBin .eql v4 (AV.int .i64 7)) fun v8 =>
cnd v8
 ((ins_Uses_12 v1 v4 v8 h))
 (ob (evBin .eql v4 (AV.int .i64 8)) fun v9 =>
cnd v9
 ((ins_Uses_12 v1 v4 v9 h))
 (ob (evBin .eql v4 (AV.int .i64 10)) fun v10 =>
cnd v10
 ((ins_Uses_12 v1 v4 v10 h))
 (ob (evBin .eql v4 (AV.int .i64 12)) fun v11 =>
cnd v11
 ((ins_Uses_12 v1 v4 v11 h))
 (ob (evBin .eql v4 (AV.int .i64 15)) fun v12 =>
cnd v12
 ((ins_Uses_12 v1 v4 v12 h))
 (ob (evBin .eql v4 (AV.int .i64 16)) fun v13 =>
cnd v13
 ((ins_Uses_12 v1 v4 v13 h))
 (ob (evBin .eql v4 (AV.int .i64 19)) fun v14 =>
cnd v14
 ((ins_Uses_12 v1 v4 v14 h))
 (ob (evBin .eql v4 (AV.int .i64 21)) fun v15 =>
cnd v15
 ((ins_Uses_12 v1 v4 v15 h))
 (ob (evBin .eql v4 (AV.int .i64 22)) fun v16 =>
cnd v16
 ((ins_Uses_12 v1 v4 v16 h))
 (ob (evBin .eql v4 (AV.int .i64 31)) fun v17 =>
(ins_Uses_12 v1 v4 v17 h))))))))))))

theorem ins_Uses_13_eq (s : St) : W E 0 c_ins_Uses_13 s (fun s => ins_Uses_1 s.h) (exitTo 0 (fun s => ins_Uses_1 s.h) (fun _ _ => none)) (finP [.t 2]) = ins_Uses_13 (tget s.t 1) (tget s.t 4) s.h :=
  (W_seq (k := (fun s => ins_Uses_12 (tget s.t 1) (tget s.t 4) (tget s.t 5) s.h)) (fun s => ins_Uses_12_eq s)).trans (by kernel_rfl)

theorem ins_Uses_14_eq (s : St) : W E 0 c_ins_Uses_14 s (fun s => ins_Uses_1 s.h) (fun _ _ => none) (finP [.t 2]) = ins_Uses_13 (tget s.t 1) (tget s.t 4) s.h :=
  W_block.trans (ins_Uses_13_eq s)

noncomputable def ins_Uses_15 (v1 : AV) (h : Heap) : Option (Ex AV) :=
ob (evFa 0 v1) fun v3 =>
ob (evLd false 1 v3 h) fun v4 =>
(ins_Uses_13 v1 v4 h)

theorem ins_Uses_15_eq (s : St) : W E 0 c_ins_Uses_15 s (fun s => ins_Uses_1 s.h) (fun _ _ => none) (finP [.t 2]) = ins_Uses_15 (tget s.t 1) s.h :=
  (W_seq (k := (fun s => ins_Uses_13 (tget s.t 1) (tget s.t 4) s.h)) (fun s => ins_Uses_14_eq s)).trans (by kernel_rfl)

theorem ins_Uses_16_eq (s : St) : W E 0 c_ins_Uses_16 s (finP [.t 2]) (fun _ _ => none) (finP [.t 2]) = ins_Uses_15 (tget s.t 1) s.h :=
  (W_seq (k := (fun s => ins_Uses_1 s.h)) (fun s => ins_Uses_1_eq s)).trans (ins_Uses_15_eq s)

noncomputable def ins_Uses_17 (v0 : AV) (h : Heap) : Option (Ex AV) :=
oh (newC 0 (some 0) (cellsOf v0) h) fun v1 h8 =>
(ins_Uses_15 v1 h8)

theorem ins_Uses_17_eq (s : St) : W E 0 c_ins_Uses_17 s (finP [.t 2]) (fun _ _ => none) (finP [.t 2]) = ins_Uses_17 (tget s.t 0) s.h :=
  (W_seq (k := (fun s => ins_Uses_15 (tget s.t 1) s.h)) (fun s => ins_Uses_16_eq s)).trans (by kernel_rfl)

@[simp] theorem pure_10 : E.pure 10 = true := rfl

theorem x_ins_Uses (v0 : AV) : (callW E).p 10 [v0] = ins_Uses_17 v0 [⟨0, .dead⟩, ⟨0, .dead⟩, ⟨0, .dead⟩, ⟨0, .dead⟩, ⟨0, .dead⟩, ⟨0, .dead⟩, ⟨0, .dead⟩, ⟨0, .dead⟩] :=
  (callP_W (cf := c_ins_Uses) (by kernel_rfl) rfl).trans ((ins_Uses_17_eq _).trans (by kernel_rfl))

noncomputable def ins_Calls_1 (v0 : AV) (h : Heap) : Option (Ex AV) :=
oh (newC 0 (some 0) (cellsOf v0) h) fun v1 h1 =>
ob (evFa 0 v1) fun v3 =>
ob (evLd false 1 v3 h1) fun v4 =>
ob (evBin .geq v4 (AV.int .i64 23)) fun v5 =>
gb v5 true (evFa 0 v1) fun v7 =>
gb v5 true (evLd false 1 v7 h1) fun v8 =>
gb v5 true (evBin .leq v8 (AV.int .i64 26)) fun v9 =>
ob (evPick v5 v9 (AV.bool false)) fun v10 =>
(expo1 h1 v10)

theorem ins_Calls_1_eq (s : St) : W E 0 c_ins_Calls_1 s (finP [.t 2]) (fun _ _ => none) (finP [.t 2]) = ins_Calls_1 (tget s.t 0) s.h :=
  by kernel_rfl

@[simp] theorem pure_17 : E.pure 17 = true := rfl

theorem x_ins_Calls (v0 : AV) : (callW E).p 17 [v0] = ins_Calls_1 v0 [⟨0, .dead⟩] :=
  (callP_W (cf := c_ins_Calls) (by kernel_rfl) rfl).trans ((ins_Calls_1_eq _).trans (by kernel_rfl))

noncomputable def ins_Leads_1 (v0 : AV) (h : Heap) : Option (Ex AV) :=
oh (newC 0 (some 0) (cellsOf v0) h) fun v1 h1 =>
ob (evFa 0 v1) fun v3 =>
ob (evLd false 1 v3 h1) fun v4 =>
ob (evBin .eql v4 (AV.int .i64 27)) fun v5 =>
gb v5 false (evFa 0 v1) fun v7 =>
gb v5 false (evLd false 1 v7 h1) fun v8 =>
gb v5 false (evBin .eql v8 (AV.int .i64 28)) fun v9 =>
ob (evPick v5 (AV.bool true) v9) fun v10 =>
gb v10 false (evFa 0 v1) fun v12 =>
gb v10 false (evLd false 1 v12 h1) fun v13 =>
gb v10 false (evBin .eql v13 (AV.int .i64 29)) fun v14 =>
ob (evPick v10 (AV.bool true) v14) fun v15 =>
(expo1 h1 v15)

theorem ins_Leads_1_eq (s : St) : W E 0 c_ins_Leads_1 s (finP [.t 2]) (fun _ _ => none) (finP [.t 2]) = ins_Leads_1 (tget s.t 0) s.h :=
  by kernel_rfl

@[simp] theorem pure_22 : E.pure 22 = true := rfl

theorem x_ins_Leads (v0 : AV) : (callW E).p 22 [v0] = ins_Leads_1 v0 [⟨0, .dead⟩] :=
  (callP_W (cf := c_ins_Leads) (by kernel_rfl) rfl).trans ((ins_Leads_1_eq _).trans (by kernel_rfl))

noncomputable def regletref10_Leads_1 (v0 : AV) (h : Heap) : Option (Ex AV) :=
oh (buildSC 0 (some 0) 1 3 [(.int .i64 0)] [(0, (AV.int .i64 27)), (1, (AV.int .i64 28)), (2, (AV.int .i64 29))] h) fun v4 h1 =>
oh (callAny E (callW E) 0 none true 42 [v0, v4] h1) fun v5 h2 =>
(expo1 h2 v5)

theorem regletref10_Leads_1_eq (s : St) : W E 0 c_regletref10_Leads_1 s (finP [.t 2]) (fun _ _ => none) (finP [.t 2]) = regletref10_Leads_1 (tget s.t 0) s.h :=
  by kernel_rfl

@[simp] theorem pure_23 : E.pure 23 = true := rfl

theorem x_regletref10_Leads (v0 : AV) : (callW E).p 23 [v0] = regletref10_Leads_1 v0 [⟨0, .dead⟩] :=
  (callP_W (cf := c_regletref10_Leads) (by kernel_rfl) rfl).trans ((regletref10_Leads_1_eq _).trans (by kernel_rfl))

noncomputable def ins_Ends_1 (v0 : AV) (h : Heap) : Option (Ex AV) :=
oh (newC 0 (some 0) (cellsOf v0) h) fun v1 h1 =>
ob (evFa 0 v1) fun v3 =>
ob (evLd false 1 v3 h1) fun v4 =>
ob (evBin .eql v4 (AV.int .i64 27)) fun v5 =>
gb v5 false (evFa 0 v1) fun v7 =>
gb v5 false (evLd false 1 v7 h1) fun v8 =>
gb v5 false (evBin .eql v8 (AV.int .i64 30)) fun v9 =>
ob (evPick v5 (AV.bool true) v9) fun v10 =>
gb v10 false (evFa 0 v1) fun v12 =>
gb v10 false (evLd false 1 v12 h1) fun v13 =>
gb v10 false (evBin .eql v13 (AV.int .i64 31)) fun v14 =>
ob (evPick v10 (AV.bool true) v14) fun v15 =>
(expo1 h1 v15)

theorem ins_Ends_1_eq (s : St) : W E 0 c_ins_Ends_1 s (finP [.t 2]) (fun _ _ => none) (finP [.t 2]) = ins_Ends_1 (tget s.t 0) s.h :=
  by kernel_rfl

@[simp] theorem pure_24 : E.pure 24 = true := rfl

theorem x_ins_Ends (v0 : AV) : (callW E).p 24 [v0] = ins_Ends_1 v0 [⟨0, .dead⟩] :=
  (callP_W (cf := c_ins_Ends) (by kernel_rfl) rfl).trans ((ins_Ends_1_eq _).trans (by kernel_rfl))

noncomputable def regletref10_Ends_1 (v0 : AV) (h : Heap) : Option (Ex AV) :=
oh (buildSC 0 (some 0) 1 3 [(.int .i64 0)] [(0, (AV.int .i64 27)), (1, (AV.int .i64 30)), (2, (AV.int .i64 31))] h) fun v4 h1 =>
oh (callAny E (callW E) 0 none true 42 [v0, v4] h1) fun v5 h2 =>
(expo1 h2 v5)

theorem regletref10_Ends_1_eq (s : St) : W E 0 c_regletref10_Ends_1 s (finP [.t 2]) (fun _ _ => none) (finP [.t 2]) = regletref10_Ends_1 (tget s.t 0) s.h :=
  by kernel_rfl

@[simp] theorem pure_25 : E.pure 25 = true := rfl

theorem x_regletref10_Ends (v0 : AV) : (callW E).p 25 [v0] = regletref10_Ends_1 v0 [⟨0, .dead⟩] :=
  (callP_W (cf := c_regletref10_Ends) (by kernel_rfl) rfl).trans ((regletref10_Ends_1_eq _).trans (by kernel_rfl))

noncomputable def regletref10_Check_1 (h : Heap) : Option (Ex AV) :=
(expo1 h (AV.int .i64 0))

theorem regletref10_Check_1_eq (s : St) : W E 0 c_regletref10_Check_1 s (finP [.t 2]) (fun _ _ => none) (finP [.t 2]) = regletref10_Check_1 s.h :=
  by kernel_rfl

noncomputable def regletref10_Check_L2 (v1 v3 v8 : AV) (h : Heap) : Option (Ex AV) :=
  W E 0 c_regletref10_Check_L2 ⟨[(1, v1), (3, v3), (8, v8)], h⟩ (fun s => regletref10_Check_1 s.h) (exitTo 6 (fun s => regletref10_Check_1 s.h) (fun _ _ => none)) (finP [.t 2])

theorem regletref10_Check_L2_eq (s : St) : W E 0 c_regletref10_Check_L2 s (fun s => regletref10_Check_1 s.h) (exitTo 6 (fun s => regletref10_Check_1 s.h) (fun _ _ => none)) (finP [.t 2]) = regletref10_Check_L2 (tget s.t 1) (tget s.t 3) (tget s.t 8) s.h := W_loop_live.trans (by kernel_rfl)

noncomputable def regletref10_Check_3 (v1 v3 v8 : AV) (h : Heap) : Option (Ex AV) :=
ob (evBin .add v8 (AV.int .i64 1)) fun v155 =>
(regletref10_Check_L2 v1 v3 v155 h)

theorem regletref10_Check_3_eq (s : St) : W E 0 c_regletref10_Check_3 s (fun s => regletref10_Check_L2 (tget s.t 1) (tget s.t 3) (tget s.t 8) s.h) (exitTo 6 (fun s => regletref10_Check_1 s.h) (fun _ _ => none)) (finP [.t 2]) = regletref10_Check_3 (tget s.t 1) (tget s.t 3) (tget s.t 8) s.h :=
  by kernel_rfl

noncomputable def regletref10_Check_4 (v1 v3 v8 : AV) (h : Heap) : Option (Ex AV) :=
ob (evFa 4 v1) fun v156 =>
ob (evLd false 1 v156 h) fun v157 =>
ob (evIxs 4 v157 v8) fun v159 =>
ob (evLd true 4 v159 h) fun v160 =>
oh (newC 0 (some 2) [(.int .i64 0), (.int .i64 0), (.int .i64 0), (.str [])] h) fun v9 h1 =>
oh (evSt 4 v9 v160 h1) fun _ h2 =>
ob (evFa 0 v9) fun v161 =>
ob (evLd false 1 v161 h2) fun v162 =>
ob (evBin .lss v162 (AV.int .i64 0)) fun v163 =>
gb v163 false (evFa 0 v9) fun v165 =>
gb v163 false (evLd false 1 v165 h2) fun v166 =>
gb v163 false (evFa 1 v9) fun v167 =>
gb v163 false (evLd false 1 v167 h2) fun v168 =>
gb v163 false (evBin .geq v166 v168) fun v169 =>
ob (evPick v163 (AV.bool true) v169) fun v170 =>
gb v170 false (evFa 1 v9) fun v172 =>
gb v170 false (evLd false 1 v172 h2) fun v173 =>
gb v170 false (some v3) fun v174 =>
gb v170 false (evBin .gtr v173 v174) fun v175 =>
ob (evPick v170 (AV.bool true) v175) fun v176 =>
gb v176 false (evLd true 5 v1 h2) fun v178 =>
gb v176 false (evFa 2 v9) fun v179 =>
gb v176 false (evLd false 1 v179 h2) fun v180 =>
gh v176 false (callAny E (callW E) 0 none true 49 [v178, v180] h2) h2 fun v181 h3 =>
gb v176 false (evUn .not v181) fun v182 =>
ob (evPick v176 (AV.bool true) v182) fun v183 =>
gb v183 false (evFa 3 v1) fun v185 =>
gb v183 false (evLd false 1 v185 h3) fun v186 =>
gb v183 false (evFa 2 v9) fun v187 =>
gb v183 false (evLd false 1 v187 h3) fun v188 =>
gb v183 false (evIxs 9 v186 v188) fun v189 =>
gb v183 false (evFa 0 v189) fun v190 =>
gb v183 false (evLd false 1 v190 h3) fun v191 =>
gb v183 false (evBin .neq v191 (AV.int .i64 32)) fun v192 =>
ob (evPick v183 (AV.bool true) v192) fun v193 =>
cnd v193
 ((expo1 h3 (AV.int .i64 80)))
 ((regletref10_Check_3 v1 v3 v8 h3))

theorem regletref10_Check_4_eq (s : St) : W E 0 c_regletref10_Check_4 s (fun s => regletref10_Check_L2 (tget s.t 1) (tget s.t 3) (tget s.t 8) s.h) (exitTo 6 (fun s => regletref10_Check_1 s.h) (fun _ _ => none)) (finP [.t 2]) = regletref10_Check_4 (tget s.t 1) (tget s.t 3) (tget s.t 8) s.h :=
  (W_seq (k := (fun s => regletref10_Check_3 (tget s.t 1) (tget s.t 3) (tget s.t 8) s.h)) (fun s => regletref10_Check_3_eq s)).trans (by kernel_rfl)

noncomputable def regletref10_Check_5 (v1 v3 v8 : AV) (h : Heap) : Option (Ex AV) :=
ob (evFa 4 v1) fun v150 =>
ob (evLd false 1 v150 h) fun v151 =>
ob (evLen 1 v151 h) fun v152 =>
ob (evBin .lss v8 v152) fun v153 =>
cnd v153
 ((regletref10_Check_4 v1 v3 v8 h))
 ((regletref10_Check_1 h))

theorem regletref10_Check_5_eq (s : St) : W E 0 c_regletref10_Check_5 s (fun s => regletref10_Check_L2 (tget s.t 1) (tget s.t 3) (tget s.t 8) s.h) (exitTo 6 (fun s => regletref10_Check_1 s.h) (fun _ _ => none)) (finP [.t 2]) = regletref10_Check_5 (tget s.t 1) (tget s.t 3) (tget s.t 8) s.h :=
  (W_seq (k := (fun s => regletref10_Check_4 (tget s.t 1) (tget s.t 3) (tget s.t 8) s.h)) (fun s => regletref10_Check_4_eq s)).trans (by kernel_rfl)

theorem regletref10_Check_L2_go (v1 v3 v8 : AV) (h : Heap) : regletref10_Check_L2 v1 v3 v8 h = (regletref10_Check_5 v1 v3 v8 h) :=
  W_loop.trans ((W_congr _ _ _ (n' := (fun s => regletref10_Check_L2 (tget s.t 1) (tget s.t 3) (tget s.t 8) s.h)) (fun s => regletref10_Check_L2_eq s)).trans ((regletref10_Check_5_eq _).trans (by kernel_rfl)))

theorem regletref10_Check_6_eq (s : St) : W E 0 c_regletref10_Check_6 s (fun s => regletref10_Check_1 s.h) (fun _ _ => none) (finP [.t 2]) = regletref10_Check_L2 (tget s.t 1) (tget s.t 3) (tget s.t 8) s.h :=
  W_block.trans (regletref10_Check_L2_eq s)

noncomputable def regletref10_Check_7 (v1 v3 : AV) (h : Heap) : Option (Ex AV) :=
(regletref10_Check_L2 v1 v3 (AV.int .i64 0) h)

theorem regletref10_Check_7_eq (s : St) : W E 0 c_regletref10_Check_7 s (fun s => regletref10_Check_1 s.h) (fun _ _ => none) (finP [.t 2]) = regletref10_Check_7 (tget s.t 1) (tget s.t 3) s.h :=
  (W_seq (k := (fun s => regletref10_Check_L2 (tget s.t 1) (tget s.t 3) (tget s.t 8) s.h)) (fun s => regletref10_Check_6_eq s)).trans (by kernel_rfl)

theorem regletref10_Check_8_eq (s : St) : W E 0 c_regletref10_Check_8 s (finP [.t 2]) (fun _ _ => none) (finP [.t 2]) = regletref10_Check_7 (tget s.t 1) (tget s.t 3) s.h :=
  (W_seq (k := (fun s => regletref10_Check_1 s.h)) (fun s => regletref10_Check_1_eq s)).trans (regletref10_Check_7_eq s)

noncomputable def regletref10_Check_L9 (v1 v3 v6 : AV) (h : Heap) : Option (Ex AV) :=
  W E 0 c_regletref10_Check_L9 ⟨[(1, v1), (3, v3), (6, v6)], h⟩ (fun s => regletref10_Check_7 (tget s.t 1) (tget s.t 3) s.h) (exitTo 4 (fun s => regletref10_Check_7 (tget s.t 1) (tget s.t 3) s.h) (fun _ _ => none)) (finP [.t 2])

theorem regletref10_Check_L9_eq (s : St) : W E 0 c_regletref10_Check_L9 s (fun s => regletref10_Check_7 (tget s.t 1) (tget s.t 3) s.h) (exitTo 4 (fun s => regletref10_Check_7 (tget s.t 1) (tget s.t 3) s.h) (fun _ _ => none)) (finP [.t 2]) = regletref10_Check_L9 (tget s.t 1) (tget s.t 3) (tget s.t 6) s.h := W_loop_live.trans (by kernel_rfl)

noncomputable def regletref10_Check_10 (v1 v3 v6 : AV) (h : Heap) : Option (Ex AV) :=
ob (evBin .add v6 (AV.int .i64 1)) fun v104 =>
(regletref10_Check_L9 v1 v3 v104 h)

theorem regletref10_Check_10_eq (s : St) : W E 0 c_regletref10_Check_10 s (fun s => regletref10_Check_L9 (tget s.t 1) (tget s.t 3) (tget s.t 6) s.h) (exitTo 4 (fun s => regletref10_Check_7 (tget s.t 1) (tget s.t 3) s.h) (fun _ _ => none)) (finP [.t 2]) = regletref10_Check_10 (tget s.t 1) (tget s.t 3) (tget s.t 6) s.h :=
  by kernel_rfl

noncomputable def regletref10_Check_11 (v1 v3 v6 : AV) (h : Heap) : Option (Ex AV) :=
ob (evFa 3 v1) fun v105 =>
ob (evLd false 1 v105 h) fun v106 =>
ob (evIxs 9 v106 v6) fun v108 =>
ob (evLd true 9 v108 h) fun v109 =>
oh (newC 0 (some 1) [(.int .i64 0), (.int .i64 0), (.int .i64 0), (.int .i64 0), (.int .i64 0), (.int .i64 0), (.int .i64 0), (.str []), .nils] h) fun v7 h4 =>
oh (evSt 9 v7 v109 h4) fun _ h5 =>
ob (evLd true 5 v1 h5) fun v110 =>
ob (evLd true 9 v7 h5) fun v111 =>
oh (callAny E (callW E) 0 none true 64 [v110, v111] h5) fun v112 h6 =>
ob (evUn .not v112) fun v113 =>
gb v113 false (evFa 0 v7) fun v115 =>
gb v113 false (evLd false 1 v115 h6) fun v116 =>
gb v113 false (evBin .eql v116 (AV.int .i64 32)) fun v117 =>
gb v113 false (some v117) fun v118 =>
gb v118 true (some v6) fun v119 =>
gb v118 true (evBin .eql v119 (AV.int .i64 0)) fun v120 =>
gb v118 true (some v120) fun v121 =>
gb v121 false (evFa 3 v1) fun v122 =>
gb v121 false (evLd false 1 v122 h6) fun v123 =>
gb v121 false (some v6) fun v124 =>
gb v121 false (evBin .sub v124 (AV.int .i64 1)) fun v125 =>
gb v121 false (evIxs 9 v123 v125) fun v126 =>
gb v121 false (evFa 0 v126) fun v127 =>
gb v121 false (evLd false 1 v127 h6) fun v128 =>
gh v121 false (callAny E (callW E) 0 none true 25 [v128] h6) h6 fun v129 h7 =>
gb v121 false (evUn .not v129) fun v130 =>
gb v118 true (evPick v121 (AV.bool true) v130) fun v131 =>
gb v113 false (evPick v118 v131 (AV.bool false)) fun v132 =>
ob (evPick v113 (AV.bool true) v132) fun v133 =>
gb v133 false (evFa 0 v7) fun v135 =>
gb v133 false (evLd false 1 v135 h7) fun v136 =>
gh v133 false (callAny E (callW E) 0 none true 23 [v136] h7) h7 fun v137 h8 =>
gb v133 false (some v137) fun v138 =>
gb v138 true (evFa 3 v1) fun v139 =>
gb v138 true (evLd false 1 v139 h8) fun v140 =>
gb v138 true (evFa 6 v7) fun v141 =>
gb v138 true (evLd false 1 v141 h8) fun v142 =>
gb v138 true (evIxs 9 v140 v142) fun v143 =>
gb v138 true (evFa 0 v143) fun v144 =>
gb v138 true (evLd false 1 v144 h8) fun v145 =>
gb v138 true (evBin .eql v145 (AV.int .i64 32)) fun v146 =>
gb v133 false (evPick v138 v146 (AV.bool false)) fun v147 =>
ob (evPick v133 (AV.bool true) v147) fun v148 =>
cnd v148
 ((expo1 h8 (AV.int .i64 80)))
 ((regletref10_Check_10 v1 v3 v6 h8))

theorem regletref10_Check_11_eq (s : St) : W E 0 c_regletref10_Check_11 s (fun s => regletref10_Check_L9 (tget s.t 1) (tget s.t 3) (tget s.t 6) s.h) (exitTo 4 (fun s => regletref10_Check_7 (tget s.t 1) (tget s.t 3) s.h) (fun _ _ => none)) (finP [.t 2]) = regletref10_Check_11 (tget s.t 1) (tget s.t 3) (tget s.t 6) s.h :=
  (W_seq (k := (fun s => regletref10_Check_10 (tget s.t 1) (tget s.t 3) (tget s.t 6) s.h)) (fun s => regletref10_Check_10_eq s)).trans (by kernel_rfl)

noncomputable def regletref10_Check_12 (v1 v3 v6 : AV) (h : Heap) : Option (Ex AV) :=
ob (evBin .lss v6 v3) fun v102 =>
cnd v102
 ((regletref10_Check_11 v1 v3 v6 h))
 ((regletref10_Check_7 v1 v3 h))

theorem regletref10_Check_12_eq (s : St) : W E 0 c_regletref10_Check_12 s (fun s => regletref10_Check_L9 (tget s.t 1) (tget s.t 3) (tget s.t 6) s.h) (exitTo 4 (fun s => regletref10_Check_7 (tget s.t 1) (tget s.t 3) s.h) (fun _ _ => none)) (finP [.t 2]) = regletref10_Check_12 (tget s.t 1) (tget s.t 3) (tget s.t 6) s.h :=
  (W_seq (k := (fun s => regletref10_Check_11 (tget s.t 1) (tget s.t 3) (tget s.t 6) s.h)) (fun s => regletref10_Check_11_eq s)).trans (by kernel_rfl)

theorem regletref10_Check_L9_go (v1 v3 v6 : AV) (h : Heap) : regletref10_Check_L9 v1 v3 v6 h = (regletref10_Check_12 v1 v3 v6 h) :=
  W_loop.trans ((W_congr _ _ _ (n' := (fun s => regletref10_Check_L9 (tget s.t 1) (tget s.t 3) (tget s.t 6) s.h)) (fun s => regletref10_Check_L9_eq s)).trans ((regletref10_Check_12_eq _).trans (by kernel_rfl)))

theorem regletref10_Check_13_eq (s : St) : W E 0 c_regletref10_Check_13 s (fun s => regletref10_Check_7 (tget s.t 1) (tget s.t 3) s.h) (fun _ _ => none) (finP [.t 2]) = regletref10_Check_L9 (tget s.t 1) (tget s.t 3) (tget s.t 6) s.h :=
  W_block.trans (regletref10_Check_L9_eq s)

noncomputable def regletref10_Check_14 (v1 v3 : AV) (h : Heap) : Option (Ex AV) :=
(regletref10_Check_L9 v1 v3 (AV.int .i64 0) h)

theorem regletref10_Check_14_eq (s : St) : W E 0 c_regletref10_Check_14 s (fun s => regletref10_Check_7 (tget s.t 1) (tget s.t 3) s.h) (fun _ _ => none) (finP [.t 2]) = regletref10_Check_14 (tget s.t 1) (tget s.t 3) s.h :=
  (W_seq (k := (fun s => regletref10_Check_L9 (tget s.t 1) (tget s.t 3) (tget s.t 6) s.h)) (fun s => regletref10_Check_13_eq s)).trans (by kernel_rfl)

theorem regletref10_Check_15_eq (s : St) : W E 0 c_regletref10_Check_15 s (finP [.t 2]) (fun _ _ => none) (finP [.t 2]) = regletref10_Check_14 (tget s.t 1) (tget s.t 3) s.h :=
  (W_seq (k := (fun s => regletref10_Check_7 (tget s.t 1) (tget s.t 3) s.h)) (fun s => regletref10_Check_8_eq s)).trans (regletref10_Check_14_eq s)

noncomputable def regletref10_Check_L16 (v1 v3 v5 : AV) (h : Heap) : Option (Ex AV) :=
  W E 0 c_regletref10_Check_L16 ⟨[(1, v1), (3, v3), (5, v5)], h⟩ (fun s => regletref10_Check_14 (tget s.t 1) (tget s.t 3) s.h) (exitTo 2 (fun s => regletref10_Check_14 (tget s.t 1) (tget s.t 3) s.h) (fun _ _ => none)) (finP [.t 2])

theorem regletref10_Check_L16_eq (s : St) : W E 0 c_regletref10_Check_L16 s (fun s => regletref10_Check_14 (tget s.t 1) (tget s.t 3) s.h) (exitTo 2 (fun s => regletref10_Check_14 (tget s.t 1) (tget s.t 3) s.h) (fun _ _ => none)) (finP [.t 2]) = regletref10_Check_L16 (tget s.t 1) (tget s.t 3) (tget s.t 5) s.h := W_loop_live.trans (by kernel_rfl)

noncomputable def regletref10_Check_17 (v1 v3 v5 : AV) (h : Heap) : Option (Ex AV) :=
ob (evBin .add v5 (AV.int .i64 1)) fun v79 =>
(regletref10_Check_L16 v1 v3 v79 h)

theorem regletref10_Check_17_eq (s : St) : W E 0 c_regletref10_Check_17 s (fun s => regletref10_Check_L16 (tget s.t 1) (tget s.t 3) (tget s.t 5) s.h) (exitTo 2 (fun s => regletref10_Check_14 (tget s.t 1) (tget s.t 3) s.h) (fun _ _ => none)) (finP [.t 2]) = regletref10_Check_17 (tget s.t 1) (tget s.t 3) (tget s.t 5) s.h :=
  by kernel_rfl

noncomputable def regletref10_Check_18 (v1 v3 v5 : AV) (h : Heap) : Option (Ex AV) :=
ob (evLd true 5 v1 h) fun v80 =>
ob (evFa 1 v1) fun v81 =>
ob (evLd false 1 v81 h) fun v82 =>
ob (evIxs 1 v82 v5) fun v84 =>
ob (evLd false 1 v84 h) fun v85 =>
oh (callAny E (callW E) 0 none true 48 [v80, v85] h) fun v86 h9 =>
ob (evBin .eql v86 (AV.int .i64 0)) fun v87 =>
gb v87 false (evFa 1 v1) fun v89 =>
gb v87 false (evLd false 1 v89 h9) fun v90 =>
gb v87 false (some v5) fun v91 =>
gb v87 false (evIxs 1 v90 v91) fun v92 =>
gb v87 false (evLd false 1 v92 h9) fun v93 =>
gb v87 false (evFa 1 v1) fun v94 =>
gb v87 false (evLd false 1 v94 h9) fun v95 =>
gb v87 false (some v5) fun v96 =>
gb v87 false (evSlcO 1 v95 none (some v96)) fun v97 =>
gh v87 false (callAny E (callW E) 0 none true 42 [v93, v97] h9) h9 fun v98 h10 =>
ob (evPick v87 (AV.bool true) v98) fun v99 =>
cnd v99
 ((expo1 h10 (AV.int .i64 80)))
 ((regletref10_Check_17 v1 v3 v5 h10))

theorem regletref10_Check_18_eq (s : St) : W E 0 c_regletref10_Check_18 s (fun s => regletref10_Check_L16 (tget s.t 1) (tget s.t 3) (tget s.t 5) s.h) (exitTo 2 (fun s => regletref10_Check_14 (tget s.t 1) (tget s.t 3) s.h) (fun _ _ => none)) (finP [.t 2]) = regletref10_Check_18 (tget s.t 1) (tget s.t 3) (tget s.t 5) s.h :=
  (W_seq (k := (fun s => regletref10_Check_17 (tget s.t 1) (tget s.t 3) (tget s.t 5) s.h)) (fun s => regletref10_Check_17_eq s)).trans (by kernel_rfl)

noncomputable def regletref10_Check_19 (v1 v3 v5 : AV) (h : Heap) : Option (Ex AV) :=
ob (evFa 1 v1) fun v74 =>
ob (evLd false 1 v74 h) fun v75 =>
ob (evLen 1 v75 h) fun v76 =>
ob (evBin .lss v5 v76) fun v77 =>
cnd v77
 ((regletref10_Check_18 v1 v3 v5 h))
 ((regletref10_Check_14 v1 v3 h))

theorem regletref10_Check_19_eq (s : St) : W E 0 c_regletref10_Check_19 s (fun s => regletref10_Check_L16 (tget s.t 1) (tget s.t 3) (tget s.t 5) s.h) (exitTo 2 (fun s => regletref10_Check_14 (tget s.t 1) (tget s.t 3) s.h) (fun _ _ => none)) (finP [.t 2]) = regletref10_Check_19 (tget s.t 1) (tget s.t 3) (tget s.t 5) s.h :=
  (W_seq (k := (fun s => regletref10_Check_18 (tget s.t 1) (tget s.t 3) (tget s.t 5) s.h)) (fun s => regletref10_Check_18_eq s)).trans (by kernel_rfl)

theorem regletref10_Check_L16_go (v1 v3 v5 : AV) (h : Heap) : regletref10_Check_L16 v1 v3 v5 h = (regletref10_Check_19 v1 v3 v5 h) :=
  W_loop.trans ((W_congr _ _ _ (n' := (fun s => regletref10_Check_L16 (tget s.t 1) (tget s.t 3) (tget s.t 5) s.h)) (fun s => regletref10_Check_L16_eq s)).trans ((regletref10_Check_19_eq _).trans (by kernel_rfl)))

theorem regletref10_Check_20_eq (s : St) : W E 0 c_regletref10_Check_20 s (fun s => regletref10_Check_14 (tget s.t 1) (tget s.t 3) s.h) (fun _ _ => none) (finP [.t 2]) = regletref10_Check_L16 (tget s.t 1) (tget s.t 3) (tget s.t 5) s.h :=
  W_block.trans (regletref10_Check_L16_eq s)

noncomputable def regletref10_Check_21 (v1 v3 : AV) (h : Heap) : Option (Ex AV) :=
(regletref10_Check_L16 v1 v3 (AV.int .i64 0) h)

theorem regletref10_Check_21_eq (s : St) : W E 0 c_regletref10_Check_21 s (fun s => regletref10_Check_14 (tget s.t 1) (tget s.t 3) s.h) (fun _ _ => none) (finP [.t 2]) = regletref10_Check_21 (tget s.t 1) (tget s.t 3) s.h :=
  (W_seq (k := (fun s => regletref10_Check_L16 (tget s.t 1) (tget s.t 3) (tget s.t 5) s.h)) (fun s => regletref10_Check_20_eq s)).trans (by kernel_rfl)

theorem regletref10_Check_22_eq (s : St) : W E 0 c_regletref10_Check_22 s (finP [.t 2]) (fun _ _ => none) (finP [.t 2]) = regletref10_Check_21 (tget s.t 1) (tget s.t 3) s.h :=
  (W_seq (k := (fun s => regletref10_Check_14 (tget s.t 1) (tget s.t 3) s.h)) (fun s => regletref10_Check_15_eq s)).trans (regletref10_Check_21_eq s)

noncomputable def regletref10_Check_L23 (v1 v3 v4 : AV) (h : Heap) : Option (Ex AV) :=
  W E 0 c_regletref10_Check_L23 ⟨[(1, v1), (3, v3), (4, v4)], h⟩ (fun s => regletref10_Check_21 (tget s.t 1) (tget s.t 3) s.h) (exitTo 0 (fun s => regletref10_Check_21 (tget s.t 1) (tget s.t 3) s.h) (fun _ _ => none)) (finP [.t 2])

theorem regletref10_Check_L23_eq (s : St) : W E 0 c_regletref10_Check_L23 s (fun s => regletref10_Check_21 (tget s.t 1) (tget s.t 3) s.h) (exitTo 0 (fun s => regletref10_Check_21 (tget s.t 1) (tget s.t 3) s.h) (fun _ _ => none)) (finP [.t 2]) = regletref10_Check_L23 (tget s.t 1) (tget s.t 3) (tget s.t 4) s.h := W_loop_live.trans (by kernel_rfl)

noncomputable def regletref10_Check_24 (v1 v3 v4 : AV) (h : Heap) : Option (Ex AV) :=
ob (evBin .add v4 (AV.int .i64 1)) fun v58 =>
(regletref10_Check_L23 v1 v3 v58 h)

theorem regletref10_Check_24_eq (s : St) : W E 0 c_regletref10_Check_24 s (fun s => regletref10_Check_L23 (tget s.t 1) (tget s.t 3) (tget s.t 4) s.h) (exitTo 0 (fun s => regletref10_Check_21 (tget s.t 1) (tget s.t 3) s.h) (fun _ _ => none)) (finP [.t 2]) = regletref10_Check_24 (tget s.t 1) (tget s.t 3) (tget s.t 4) s.h :=
  by kernel_rfl

noncomputable def regletref10_Check_25 (v1 v3 v4 : AV) (h : Heap) : Option (Ex AV) :=
ob (evFa 0 v1) fun v59 =>
ob (evLd false 1 v59 h) fun v60 =>
ob (evIxs 1 v60 v4) fun v62 =>
ob (evLd false 1 v62 h) fun v63 =>
ob (evBin .lss v63 (AV.int .i64 1)) fun v64 =>
gb v64 false (evFa 0 v1) fun v66 =>
gb v64 false (evLd false 1 v66 h) fun v67 =>
gb v64 false (some v4) fun v68 =>
gb v64 false (evIxs 1 v67 v68) fun v69 =>
gb v64 false (evLd false 1 v69 h) fun v70 =>
gb v64 false (evBin .gtr v70 (AV.int .i64 3)) fun v71 =>
ob (evPick v64 (AV.bool true) v71) fun v72 =>
cnd v72
 ((expo1 h (AV.int .i64 80)))
 ((regletref10_Check_24 v1 v3 v4 h))

theorem regletref10_Check_25_eq (s : St) : W E 0 c_regletref10_Check_25 s (fun s => regletref10_Check_L23 (tget s.t 1) (tget s.t 3) (tget s.t 4) s.h) (exitTo 0 (fun s => regletref10_Check_21 (tget s.t 1) (tget s.t 3) s.h) (fun _ _ => none)) (finP [.t 2]) = regletref10_Check_25 (tget s.t 1) (tget s.t 3) (tget s.t 4) s.h :=
  (W_seq (k := (fun s => regletref10_Check_24 (tget s.t 1) (tget s.t 3) (tget s.t 4) s.h)) (fun s => regletref10_Check_24_eq s)).trans (by kernel_rfl)

noncomputable def regletref10_Check_26 (v1 v3 v4 : AV) (h : Heap) : Option (Ex AV) :=
ob (evFa 0 v1) fun v53 =>
ob (evLd false 1 v53 h) fun v54 =>
ob (evLen 1 v54 h) fun v55 =>
ob (evBin .lss v4 v55) fun v56 =>
cnd v56
 ((regletref10_Check_25 v1 v3 v4 h))
 ((regletref10_Check_21 v1 v3 h))

theorem regletref10_Check_26_eq (s : St) : W E 0 c_regletref10_Check_26 s (fun s => regletref10_Check_L23 (tget s.t 1) (tget s.t 3) (tget s.t 4) s.h) (exitTo 0 (fun s => regletref10_Check_21 (tget s.t 1) (tget s.t 3) s.h) (fun _ _ => none)) (finP [.t 2]) = regletref10_Check_26 (tget s.t 1) (tget s.t 3) (tget s.t 4) s.h :=
  (W_seq (k := (fun s => regletref10_Check_25 (tget s.t 1) (tget s.t 3) (tget s.t 4) s.h)) (fun s => regletref10_Check_25_eq s)).trans (by kernel_rfl)

theorem regletref10_Check_L23_go (v1 v3 v4 : AV) (h : Heap) : regletref10_Check_L23 v1 v3 v4 h = (regletref10_Check_26 v1 v3 v4 h) :=
  W_loop.trans ((W_congr _ _ _ (n' := (fun s => regletref10_Check_L23 (tget s.t 1) (tget s.t 3) (tget s.t 4) s.h)) (fun s => regletref10_Check_L23_eq s)).trans ((regletref10_Check_26_eq _).trans (by kernel_rfl)))

theorem regletref10_Check_27_eq (s : St) : W E 0 c_regletref10_Check_27 s (fun s => regletref10_Check_21 (tget s.t 1) (tget s.t 3) s.h) (fun _ _ => none) (finP [.t 2]) = regletref10_Check_L23 (tget s.t 1) (tget s.t 3) (tget s.t 4) s.h :=
  W_block.trans (regletref10_Check_L23_eq s)

noncomputable def regletref10_Check_28 (v1 v3 : AV) (h : Heap) : Option (Ex AV) :=
(regletref10_Check_L23 v1 v3 (AV.int .i64 0) h)

theorem regletref10_Check_28_eq (s : St) : W E 0 c_regletref10_Check_28 s (fun s => regletref10_Check_21 (tget s.t 1) (tget s.t 3) s.h) (fun _ _ => none) (finP [.t 2]) = regletref10_Check_28 (tget s.t 1) (tget s.t 3) s.h :=
  (W_seq (k := (fun s => regletref10_Check_L23 (tget s.t 1) (tget s.t 3) (tget s.t 4) s.h)) (fun s => regletref10_Check_27_eq s)).trans (by kernel_rfl)

theorem regletref10_Check_29_eq (s : St) : W E 0 c_regletref10_Check_29 s (finP [.t 2]) (fun _ _ => none) (finP [.t 2]) = regletref10_Check_28 (tget s.t 1) (tget s.t 3) s.h :=
  (W_seq (k := (fun s => regletref10_Check_21 (tget s.t 1) (tget s.t 3) s.h)) (fun s => regletref10_Check_22_eq s)).trans (regletref10_Check_28_eq s)

noncomputable def regletref10_Check_30 (v1 v3 : AV) (h : Heap) : Option (Ex AV) :=
ob (evBin .eql v3 (AV.int .i64 0)) fun v14 =>
gb v14 false (some v3) fun v16 =>
gb v14 false (evBin .gtr v16 (AV.int .i64 20000)) fun v17 =>
ob (evPick v14 (AV.bool true) v17) fun v18 =>
gb v18 false (evFa 0 v1) fun v20 =>
gb v18 false (evLd false 1 v20 h) fun v21 =>
gb v18 false (evLen 1 v21 h) fun v22 =>
gb v18 false (evBin .gtr v22 (AV.int .i64 20000)) fun v23 =>
ob (evPick v18 (AV.bool true) v23) fun v24 =>
gb v24 false (evFa 1 v1) fun v26 =>
gb v24 false (evLd false 1 v26 h) fun v27 =>
gb v24 false (evLen 1 v27 h) fun v28 =>
gb v24 false (evBin .gtr v28 (AV.int .i64 21)) fun v29 =>
ob (evPick v24 (AV.bool true) v29) fun v30 =>
gb v30 false (evFa 2 v1) fun v32 =>
gb v30 false (evLd false 1 v32 h) fun v33 =>
gb v30 false (evBin .lss v33 (AV.int .i64 0)) fun v34 =>
ob (evPick v30 (AV.bool true) v34) fun v35 =>
gb v35 false (evFa 2 v1) fun v37 =>
gb v35 false (evLd false 1 v37 h) fun v38 =>
gb v35 false (evBin .gtr v38 (AV.int .i64 3)) fun v39 =>
ob (evPick v35 (AV.bool true) v39) fun v40 =>
gb v40 false (evFa 3 v1) fun v42 =>
gb v40 false (evLd false 1 v42 h) fun v43 =>
gb v40 false (some v3) fun v44 =>
gb v40 false (evBin .sub v44 (AV.int .i64 1)) fun v45 =>
gb v40 false (evIxs 9 v43 v45) fun v46 =>
gb v40 false (evFa 0 v46) fun v47 =>
gb v40 false (evLd false 1 v47 h) fun v48 =>
gh v40 false (callAny E (callW E) 0 none true 25 [v48] h) h fun v49 h11 =>
gb v40 false (evUn .not v49) fun v50 =>
ob (evPick v40 (AV.bool true) v50) fun v51 =>
cnd v51
 ((expo1 h11 (AV.int .i64 80)))
 ((regletref10_Check_28 v1 v3 h11))

theorem regletref10_Check_30_eq (s : St) : W E 0 c_regletref10_Check_30 s (finP [.t 2]) (fun _ _ => none) (finP [.t 2]) = regletref10_Check_30 (tget s.t 1) (tget s.t 3) s.h :=
  (W_seq (k := (fun s => regletref10_Check_28 (tget s.t 1) (tget s.t 3) s.h)) (fun s => regletref10_Check_29_eq s)).trans (by kernel_rfl)

noncomputable def regletref10_Check_31 (v1 : AV) (h : Heap) : Option (Ex AV) :=
ob (evFa 3 v1) fun v10 =>
ob (evLd false 1 v10 h) fun v11 =>
ob (evLen 1 v11 h) fun v12 =>
(regletref10_Check_30 v1 v12 h)

theorem regletref10_Check_31_eq (s : St) : W E 0 c_regletref10_Check_31 s (finP [.t 2]) (fun _ _ => none) (finP [.t 2]) = regletref10_Check_31 (tget s.t 1) s.h :=
  (W_seq (k := (fun s => regletref10_Check_30 (tget s.t 1) (tget s.t 3) s.h)) (fun s => regletref10_Check_30_eq s)).trans (by kernel_rfl)

noncomputable def regletref10_Check_32 (v0 : AV) (h : Heap) : Option (Ex AV) :=
oh (newC 0 (some 0) (cellsOf v0) h) fun v1 h12 =>
(regletref10_Check_31 v1 h12)

theorem regletref10_Check_32_eq (s : St) : W E 0 c_regletref10_Check_32 s (finP [.t 2]) (fun _ _ => none) (finP [.t 2]) = regletref10_Check_32 (tget s.t 0) s.h :=
  (W_seq (k := (fun s => regletref10_Check_31 (tget s.t 1) s.h)) (fun s => regletref10_Check_31_eq s)).trans (by kernel_rfl)

@[simp] theorem pure_29 : E.pure 29 = true := rfl

theorem x_regletref10_Check (v0 : AV) : (callW E).p 29 [v0] = regletref10_Check_32 v0 [⟨0, .dead⟩, ⟨0, .dead⟩, ⟨0, .dead⟩] :=
  (callP_W (cf := c_regletref10_Check) (by kernel_rfl) rfl).trans ((regletref10_Check_32_eq _).trans (by kernel_rfl))

noncomputable def desc_Name_1 (h : Heap) : Option (Ex AV) :=
(expo1 h (AV.bool true))

theorem desc_Name_1_eq (s : St) : W E 0 c_desc_Name_1 s (finP [.t 4]) (fun _ _ => none) (finP [.t 4]) = desc_Name_1 s.h :=
  by kernel_rfl

noncomputable def desc_Name_L2 (v1 v17 v18 v19 : AV) (h : Heap) : Option (Ex AV) :=
  W E 0 c_desc_Name_L2 ⟨[(1, v1), (17, v17), (18, v18), (19, v19)], h⟩ (fun s => desc_Name_1 s.h) (exitTo 0 (fun s => desc_Name_1 s.h) (fun _ _ => none)) (finP [.t 4])

theorem desc_Name_L2_eq (s : St) : W E 0 c_desc_Name_L2 s (fun s => desc_Name_1 s.h) (exitTo 0 (fun s => desc_Name_1 s.h) (fun _ _ => none)) (finP [.t 4]) = desc_Name_L2 (tget s.t 1) (tget s.t 17) (tget s.t 18) (tget s.t 19) s.h := W_loop_live.trans (by kernel_rfl)

noncomputable def desc_Name_3 (v1 v17 v18 v19 : AV) (h : Heap) : Option (Ex AV) :=
ob (evBin .add v19 (AV.int .i64 1)) fun v71 =>
(desc_Name_L2 v1 v17 v18 v71 h)

theorem desc_Name_3_eq (s : St) : W E 0 c_desc_Name_3 s (fun s => desc_Name_L2 (tget s.t 1) (tget s.t 17) (tget s.t 18) (tget s.t 19) s.h) (exitTo 0 (fun s => desc_Name_1 s.h) (fun _ _ => none)) (finP [.t 4]) = desc_Name_3 (tget s.t 1) (tget s.t 17) (tget s.t 18) (tget s.t 19) s.h :=
  by kernel_rfl

noncomputable def desc_Name_4 (v1 v17 v18 v19 : AV) (h : Heap) : Option (Ex AV) :=
ob (evIxs 1 v17 v19) fun v21 =>
ob (evLd false 1 v21 h) fun v22 =>
ob (evBin .geq v22 (AV.int .u8 97)) fun v24 =>
gb v24 true (some v22) fun v26 =>
gb v24 true (evBin .leq v26 (AV.int .u8 122)) fun v27 =>
ob (evPick v24 v27 (AV.bool false)) fun v28 =>
gb v28 false (some v22) fun v30 =>
gb v28 false (evBin .geq v30 (AV.int .u8 65)) fun v31 =>
gb v28 false (some v31) fun v32 =>
gb v32 true (some v22) fun v33 =>
gb v32 true (evBin .leq v33 (AV.int .u8 90)) fun v34 =>
gb v28 false (evPick v32 v34 (AV.bool false)) fun v35 =>
ob (evPick v28 (AV.bool true) v35) fun v36 =>
gb v36 false (some v22) fun v38 =>
gb v36 false (evBin .geq v38 (AV.int .u8 48)) fun v39 =>
gb v36 false (some v39) fun v40 =>
gb v40 true (some v22) fun v41 =>
gb v40 true (evBin .leq v41 (AV.int .u8 57)) fun v42 =>
gb v36 false (evPick v40 v42 (AV.bool false)) fun v43 =>
ob (evPick v36 (AV.bool true) v43) fun v44 =>
gb v44 false (some v22) fun v46 =>
gb v44 false (evBin .eql v46 (AV.int .u8 95)) fun v47 =>
ob (evPick v44 (AV.bool true) v47) fun v48 =>
gb v48 false (some v22) fun v50 =>
gb v48 false (evBin .eql v50 (AV.int .u8 36)) fun v51 =>
ob (evPick v48 (AV.bool true) v51) fun v52 =>
gb v52 false (some v22) fun v54 =>
gb v52 false (evBin .eql v54 (AV.int .u8 47)) fun v55 =>
ob (evPick v52 (AV.bool true) v55) fun v56 =>
ob (evUn .not v56) fun v58 =>
gb v58 true (some v1) fun v60 =>
gb v58 true (some v60) fun v61 =>
gb v61 true (some v22) fun v62 =>
gb v61 true (evBin .eql v62 (AV.int .u8 60)) fun v63 =>
gb v61 true (some v63) fun v64 =>
gb v64 false (some v22) fun v65 =>
gb v64 false (evBin .eql v65 (AV.int .u8 62)) fun v66 =>
gb v61 true (evPick v64 (AV.bool true) v66) fun v67 =>
gb v58 true (evPick v61 v67 (AV.bool false)) fun v68 =>
gb v58 true (evUn .not v68) fun v69 =>
ob (evPick v58 v69 (AV.bool false)) fun v70 =>
cnd v70
 ((expo1 h (AV.bool false)))
 ((desc_Name_3 v1 v17 v18 v19 h))

theorem desc_Name_4_eq (s : St) : W E 0 c_desc_Name_4 s (fun s => desc_Name_L2 (tget s.t 1) (tget s.t 17) (tget s.t 18) (tget s.t 19) s.h) (exitTo 0 (fun s => desc_Name_1 s.h) (fun _ _ => none)) (finP [.t 4]) = desc_Name_4 (tget s.t 1) (tget s.t 17) (tget s.t 18) (tget s.t 19) s.h :=
  (W_seq (k := (fun s => desc_Name_3 (tget s.t 1) (tget s.t 17) (tget s.t 18) (tget s.t 19) s.h)) (fun s => desc_Name_3_eq s)).trans (by kernel_rfl)

noncomputable def desc_Name_5 (v1 v17 v18 v19 v20 : AV) (h : Heap) : Option (Ex AV) :=
cnd v20
 ((desc_Name_4 v1 v17 v18 v19 h))
 ((desc_Name_1 h))

theorem desc_Name_5_eq (s : St) : W E 0 c_desc_Name_5 s (fun s => desc_Name_L2 (tget s.t 1) (tget s.t 17) (tget s.t 18) (tget s.t 19) s.h) (exitTo 0 (fun s => desc_Name_1 s.h) (fun _ _ => none)) (finP [.t 4]) = desc_Name_5 (tget s.t 1) (tget s.t 17) (tget s.t 18) (tget s.t 19) (tget s.t 20) s.h :=
  (W_seq (k := (fun s => desc_Name_4 (tget s.t 1) (tget s.t 17) (tget s.t 18) (tget s.t 19) s.h)) (fun s => desc_Name_4_eq s)).trans (by kernel_rfl)

noncomputable def desc_Name_6 (v1 v17 v18 v19 : AV) (h : Heap) : Option (Ex AV) :=
ob (evBin .lss v19 v18) fun v20 =>
(desc_Name_5 v1 v17 v18 v19 v20 h)

theorem desc_Name_6_eq (s : St) : W E 0 c_desc_Name_6 s (fun s => desc_Name_L2 (tget s.t 1) (tget s.t 17) (tget s.t 18) (tget s.t 19) s.h) (exitTo 0 (fun s => desc_Name_1 s.h) (fun _ _ => none)) (finP [.t 4]) = desc_Name_6 (tget s.t 1) (tget s.t 17) (tget s.t 18) (tget s.t 19) s.h :=
  (W_seq (k := (fun s => desc_Name_5 (tget s.t 1) (tget s.t 17) (tget s.t 18) (tget s.t 19) (tget s.t 20) s.h)) (fun s => desc_Name_5_eq s)).trans (by kernel_rfl)

theorem desc_Name_L2_go (v1 v17 v18 v19 : AV) (h : Heap) : desc_Name_L2 v1 v17 v18 v19 h = (desc_Name_6 v1 v17 v18 v19 h) :=
  W_loop.trans ((W_congr _ _ _ (n' := (fun s => desc_Name_L2 (tget s.t 1) (tget s.t 17) (tget s.t 18) (tget s.t 19) s.h)) (fun s => desc_Name_L2_eq s)).trans ((desc_Name_6_eq _).trans (by kernel_rfl)))

theorem desc_Name_7_eq (s : St) : W E 0 c_desc_Name_7 s (fun s => desc_Name_1 s.h) (fun _ _ => none) (finP [.t 4]) = desc_Name_L2 (tget s.t 1) (tget s.t 17) (tget s.t 18) (tget s.t 19) s.h :=
  W_block.trans (desc_Name_L2_eq s)

noncomputable def desc_Name_8 (v0 v1 : AV) (h : Heap) : Option (Ex AV) :=
oh (s2bC 0 (some 0) v0 h) fun v17 h1 =>
ob (evLen 1 v17 h1) fun v18 =>
(desc_Name_L2 v1 v17 v18 (AV.int .i64 0) h1)

theorem desc_Name_8_eq (s : St) : W E 0 c_desc_Name_8 s (fun s => desc_Name_1 s.h) (fun _ _ => none) (finP [.t 4]) = desc_Name_8 (tget s.t 0) (tget s.t 1) s.h :=
  (W_seq (k := (fun s => desc_Name_L2 (tget s.t 1) (tget s.t 17) (tget s.t 18) (tget s.t 19) s.h)) (fun s => desc_Name_7_eq s)).trans (by kernel_rfl)

theorem desc_Name_9_eq (s : St) : W E 0 c_desc_Name_9 s (finP [.t 4]) (fun _ _ => none) (finP [.t 4]) = desc_Name_8 (tget s.t 0) (tget s.t 1) s.h :=
  (W_seq (k := (fun s => desc_Name_1 s.h)) (fun s => desc_Name_1_eq s)).trans (desc_Name_8_eq s)

noncomputable def desc_Name_10 (v0 v1 : AV) (h : Heap) : Option (Ex AV) :=
ob (evLen 0 v0 h) fun v9 =>
ob (evBin .lss v9 (AV.int .i64 1)) fun v10 =>
gb v10 false (some v0) fun v12 =>
gb v10 false (evLen 0 v12 h) fun v13 =>
gb v10 false (evBin .gtr v13 (AV.int .i64 60)) fun v14 =>
ob (evPick v10 (AV.bool true) v14) fun v15 =>
cnd v15
 ((expo1 h (AV.bool false)))
 ((desc_Name_8 v0 v1 h))

theorem desc_Name_10_eq (s : St) : W E 0 c_desc_Name_10 s (finP [.t 4]) (fun _ _ => none) (finP [.t 4]) = desc_Name_10 (tget s.t 0) (tget s.t 1) s.h :=
  (W_seq (k := (fun s => desc_Name_8 (tget s.t 0) (tget s.t 1) s.h)) (fun s => desc_Name_9_eq s)).trans (by kernel_rfl)

noncomputable def desc_Name_11 (v0 v1 : AV) (h : Heap) : Option (Ex AV) :=
(desc_Name_10 v0 v1 h)

theorem desc_Name_11_eq (s : St) : W E 0 c_desc_Name_11 s (finP [.t 4]) (fun _ _ => none) (finP [.t 4]) = desc_Name_11 (tget s.t 0) (tget s.t 1) s.h :=
  (W_seq (k := (fun s => desc_Name_10 (tget s.t 0) (tget s.t 1) s.h)) (fun s => desc_Name_10_eq s)).trans (by kernel_rfl)

@[simp] theorem pure_60 : E.pure 60 = true := rfl

theorem x_desc_Name (v0 v1 : AV) : (callW E).p 60 [v0, v1] = desc_Name_11 v0 v1 [⟨0, .dead⟩] :=
  (callP_W (cf := c_desc_Name) (by kernel_rfl) rfl).trans ((desc_Name_11_eq _).trans (by kernel_rfl))

noncomputable def desc_Type_1 (v0 : AV) (h : Heap) : Option (Ex AV) :=
ob (evBin .neq v0 (AV.str [])) fun v4 =>
gb v4 true (some v0) fun v6 =>
gh v4 true (callAny E (callW E) 0 none true 44 [v6] h) h fun v7 h1 =>
gb v4 true (some v0) fun v8 =>
gb v4 true (evLen 0 v8 h1) fun v9 =>
gb v4 true (evBin .eql v7 v9) fun v10 =>
ob (evPick v4 v10 (AV.bool false)) fun v11 =>
(expo1 h1 v11)

theorem desc_Type_1_eq (s : St) : W E 0 c_desc_Type_1 s (finP [.t 2]) (fun _ _ => none) (finP [.t 2]) = desc_Type_1 (tget s.t 0) s.h :=
  by kernel_rfl

@[simp] theorem pure_37 : E.pure 37 = true := rfl

theorem x_desc_Type (v0 : AV) : (callW E).p 37 [v0] = desc_Type_1 v0 [] :=
  (callP_W (cf := c_desc_Type) (by kernel_rfl) rfl).trans ((desc_Type_1_eq _).trans (by kernel_rfl))

noncomputable def regletref10_row_1 (v0 v3 : AV) (h : Heap) : Option (Ex AV) :=
ob (evIxs 1 v3 v0) fun v15 =>
ob (evLd false 1 v15 h) fun v16 =>
(expo1 h v16)

theorem regletref10_row_1_eq (s : St) : W E 0 c_regletref10_row_1 s (finP [.t 2]) (fun _ _ => none) (finP [.t 2]) = regletref10_row_1 (tget s.t 0) (tget s.t 3) s.h :=
  by kernel_rfl

noncomputable def regletref10_row_2 (v0 v3 : AV) (h : Heap) : Option (Ex AV) :=
ob (evBin .lss v0 (AV.int .i64 1)) fun v6 =>
gb v6 false (some v0) fun v8 =>
gb v6 false (some v3) fun v9 =>
gb v6 false (evLen 1 v9 h) fun v10 =>
gb v6 false (evBin .geq v8 v10) fun v11 =>
ob (evPick v6 (AV.bool true) v11) fun v12 =>
cnd v12
 ((expo1 h (AV.str [])))
 ((regletref10_row_1 v0 v3 h))

theorem regletref10_row_2_eq (s : St) : W E 0 c_regletref10_row_2 s (finP [.t 2]) (fun _ _ => none) (finP [.t 2]) = regletref10_row_2 (tget s.t 0) (tget s.t 3) s.h :=
  (W_seq (k := (fun s => regletref10_row_1 (tget s.t 0) (tget s.t 3) s.h)) (fun s => regletref10_row_1_eq s)).trans (by kernel_rfl)

noncomputable def regletref10_row_3 (v0 : AV) (h : Heap) : Option (Ex AV) :=
oh (buildSC 0 (some 0) 1 34 [(.str [])] [(0, (AV.str [])), (1, (AV.str [110, 45, 45, 45])), (2, (AV.str [51, 45, 45, 45])), (3, (AV.str [51, 45, 45, 45])), (4, (AV.str [42, 61, 45, 45])), (5, (AV.str [63, 63, 63, 63])), (6, (AV.str [63, 63, 63, 63])), (7, (AV.str [45, 110, 45, 45])), (8, (AV.str [45, 51, 45, 45])), (9, (AV.str [45, 51, 49, 45])), (10, (AV.str [45, 49, 45, 45])), (11, (AV.str [45, 51, 51, 45])), (12, (AV.str [45, 51, 45, 45])), (13, (AV.str [42, 51, 49, 45])), (14, (AV.str [45, 51, 49, 42])), (15, (AV.str [49, 51, 45, 45])), (16, (AV.str [42, 51, 45, 45])), (17, (AV.str [45, 51, 42, 45])), (18, (AV.str [42, 45, 45, 45])), (19, (AV.str [45, 42, 45, 45])), (20, (AV.str [51, 45, 45, 45])), (21, (AV.str [51, 49, 45, 45])), (22, (AV.str [49, 51, 45, 45])), (23, (AV.str [63, 63, 63, 63])), (24, (AV.str [63, 63, 63, 63])), (25, (AV.str [63, 63, 63, 63])), (26, (AV.str [63, 63, 63, 63])), (27, (AV.str [45, 45, 45, 45])), (28, (AV.str [45, 49, 49, 45])), (29, (AV.str [45, 51, 63, 45])), (30, (AV.str [45, 63, 45, 45])), (31, (AV.str [45, 51, 45, 45])), (32, (AV.str [51, 45, 45, 45])), (33, (AV.str [45, 45, 45, 45]))] h) fun v4 h1 =>
(regletref10_row_2 v0 v4 h1)

theorem regletref10_row_3_eq (s : St) : W E 0 c_regletref10_row_3 s (finP [.t 2]) (fun _ _ => none) (finP [.t 2]) = regletref10_row_3 (tget s.t 0) s.h :=
  (W_seq (k := (fun s => regletref10_row_2 (tget s.t 0) (tget s.t 3) s.h)) (fun s => regletref10_row_2_eq s)).trans (by kernel_rfl)

noncomputable def regletref10_row_4 (v0 : AV) (h : Heap) : Option (Ex AV) :=
(regletref10_row_3 v0 h)

theorem regletref10_row_4_eq (s : St) : W E 0 c_regletref10_row_4 s (finP [.t 2]) (fun _ _ => none) (finP [.t 2]) = regletref10_row_4 (tget s.t 0) s.h :=
  (W_seq (k := (fun s => regletref10_row_3 (tget s.t 0) s.h)) (fun s => regletref10_row_3_eq s)).trans (by kernel_rfl)

@[simp] theorem pure_38 : E.pure 38 = true := rfl

theorem x_regletref10_row (v0 : AV) : (callW E).p 38 [v0] = regletref10_row_4 v0 [⟨0, .dead⟩] :=
  (callP_W (cf := c_regletref10_row) (by kernel_rfl) rfl).trans ((regletref10_row_4_eq _).trans (by kernel_rfl))

noncomputable def slices_Contains_int_int_1 (v0 v1 : AV) (h : Heap) : Option (Ex AV) :=
oh (callAny E (callW E) 0 none true 45 [v0, v1] h) fun v7 h1 =>
ob (evBin .geq v7 (AV.int .i64 0)) fun v8 =>
(expo1 h1 v8)

theorem slices_Contains_int_int_1_eq (s : St) : W E 0 c_slices_Contains_int_int_1 s (finP [.t 4]) (fun _ _ => none) (finP [.t 4]) = slices_Contains_int_int_1 (tget s.t 0) (tget s.t 1) s.h :=
  by kernel_rfl

@[simp] theorem pure_46 : E.pure 46 = true := rfl

theorem x_slices_Contains_int_int (v0 v1 : AV) : (callW E).p 46 [v0, v1] = slices_Contains_int_int_1 v0 v1 [] :=
  (callP_W (cf := c_slices_Contains_int_int) (by kernel_rfl) rfl).trans ((slices_Contains_int_int_1_eq _).trans (by kernel_rfl))

noncomputable def ins_right_1 (v2 v3 : AV) (h : Heap) : Option (Ex AV) :=
ob (evLd true 9 v3 h) fun v183 =>
oh (callAny E (callW E) 0 none true 22 [v183] h) fun v184 h1 =>
ob (evUn .not v184) fun v185 =>
gb v185 false (evFa 6 v3) fun v187 =>
gb v185 false (evLd false 1 v187 h1) fun v188 =>
gb v185 false (evBin .geq v188 (AV.int .i64 0)) fun v189 =>
gb v185 false (some v189) fun v190 =>
gb v190 true (evFa 6 v3) fun v191 =>
gb v190 true (evLd false 1 v191 h1) fun v192 =>
gb v190 true (evFa 3 v2) fun v193 =>
gb v190 true (evLd false 1 v193 h1) fun v194 =>
gb v190 true (evLen 1 v194 h1) fun v195 =>
gb v190 true (evBin .lss v192 v195) fun v196 =>
gb v185 false (evPick v190 v196 (AV.bool false)) fun v197 =>
ob (evPick v185 (AV.bool true) v197) fun v198 =>
(expo1 h1 v198)

theorem ins_right_1_eq (s : St) : W E 0 c_ins_right_1 s (finP [.t 4]) (fun _ _ => none) (finP [.t 4]) = ins_right_1 (tget s.t 2) (tget s.t 3) s.h :=
  by kernel_rfl

noncomputable def ins_right_2 (v2 v3 : AV) (h : Heap) : Option (Ex AV) :=
ob (evFa 0 v3) fun v105 =>
ob (evLd false 1 v105 h) fun v106 =>
ob (evBin .eql v106 (AV.int .i64 1)) fun v108 =>
cnd v108
 (ob (evFa 0 v2) fun v109 =>
ob (evLd false 1 v109 h) fun v110 =>
ob (evFa 1 v3) fun v111 =>
ob (evLd false 1 v111 h) fun v112 =>
ob (evIxs 1 v110 v112) fun v113 =>
ob (evLd false 1 v113 h) fun v114 =>
ob (evBin .neq v114 (AV.int .i64 3)) fun v115 =>
gb v115 true (evFa 0 v2) fun v117 =>
gb v115 true (evLd false 1 v117 h) fun v118 =>
gb v115 true (evFa 1 v3) fun v119 =>
gb v115 true (evLd false 1 v119 h) fun v120 =>
gb v115 true (evIxs 1 v118 v120) fun v121 =>
gb v115 true (evLd false 1 v121 h) fun v122 =>
gb v115 true (evBin .eql v122 (AV.int .i64 2)) fun v123 =>
gb v115 true (some v123) fun v124 =>
gb v124 false (evFa 5 v3) fun v125 =>
gb v124 false (evLd false 1 v125 h) fun v126 =>
gb v124 false (evFa 5 v3) fun v127 =>
gb v124 false (evLd false 1 v127 h) fun v128 =>
gb v124 false (evCvi .i32 v128) fun v129 =>
gb v124 false (evCvi .i64 v129) fun v130 =>
gb v124 false (evBin .eql v126 v130) fun v131 =>
gb v115 true (evPick v124 (AV.bool true) v131) fun v132 =>
ob (evPick v115 v132 (AV.bool false)) fun v133 =>
(expo1 h v133))
 (ob (evBin .eql v106 (AV.int .i64 4)) fun v135 =>
cnd v135
 (ob (evFa 0 v2) fun v136 =>
ob (evLd false 1 v136 h) fun v137 =>
ob (evFa 1 v3) fun v138 =>
ob (evLd false 1 v138 h) fun v139 =>
ob (evIxs 1 v137 v139) fun v140 =>
ob (evLd false 1 v140 h) fun v141 =>
ob (evFa 0 v2) fun v142 =>
ob (evLd false 1 v142 h) fun v143 =>
ob (evFa 2 v3) fun v144 =>
ob (evLd false 1 v144 h) fun v145 =>
ob (evIxs 1 v143 v145) fun v146 =>
ob (evLd false 1 v146 h) fun v147 =>
ob (evBin .eql v141 v147) fun v148 =>
(expo1 h v148))
 (ob (evBin .eql v106 (AV.int .i64 7)) fun v150 =>
cnd v150
 (ob (evFa 0 v2) fun v151 =>
ob (evLd false 1 v151 h) fun v152 =>
ob (evFa 2 v3) fun v153 =>
ob (evLd false 1 v153 h) fun v154 =>
ob (evIxs 1 v152 v154) fun v155 =>
ob (evLd false 1 v155 h) fun v156 =>
ob (evBin .neq v156 (AV.int .i64 3)) fun v157 =>
(expo1 h v157))
 (ob (evBin .eql v106 (AV.int .i64 30)) fun v159 =>
cnd v159
 (ob (evFa 2 v3) fun v160 =>
ob (evLd false 1 v160 h) fun v161 =>
ob (evBin .eql v161 (AV.int .i64 (-1))) fun v162 =>
ob (evFa 2 v2) fun v163 =>
ob (evLd false 1 v163 h) fun v164 =>
ob (evBin .eql v164 (AV.int .i64 0)) fun v165 =>
ob (evEqb false v162 v165) fun v166 =>
gb v166 true (evFa 2 v3) fun v168 =>
gb v166 true (evLd false 1 v168 h) fun v169 =>
gb v166 true (evBin .eql v169 (AV.int .i64 (-1))) fun v170 =>
gb v166 true (some v170) fun v171 =>
gb v171 false (evFa 0 v2) fun v172 =>
gb v171 false (evLd false 1 v172 h) fun v173 =>
gb v171 false (evFa 2 v3) fun v174 =>
gb v171 false (evLd false 1 v174 h) fun v175 =>
gb v171 false (evIxs 1 v173 v175) fun v176 =>
gb v171 false (evLd false 1 v176 h) fun v177 =>
gb v171 false (evFa 2 v2) fun v178 =>
gb v171 false (evLd false 1 v178 h) fun v179 =>
gb v171 false (evBin .eql v177 v179) fun v180 =>
gb v166 true (evPick v171 (AV.bool true) v180) fun v181 =>
ob (evPick v166 v181 (AV.bool false)) fun v182 =>
(expo1 h v182))
 ((ins_right_1 v2 v3 h)))))

theorem ins_right_2_eq (s : St) : W E 0 c_ins_right_2 s (finP [.t 4]) (fun _ _ => none) (finP [.t 4]) = ins_right_2 (tget s.t 2) (tget s.t 3) s.h :=
  (W_seq (k := (fun s => ins_right_1 (tget s.t 2) (tget s.t 3) s.h)) (fun s => ins_right_1_eq s)).trans (by kernel_rfl)

noncomputable def ins_right_L3 (v2 v3 v63 v64 v65 : AV) (h : Heap) : Option (Ex AV) :=
  W E 0 c_ins_right_L3 ⟨[(2, v2), (3, v3), (63, v63), (64, v64), (65, v65)], h⟩ (fun s => ins_right_2 (tget s.t 2) (tget s.t 3) s.h) (exitTo 2 (fun s => ins_right_2 (tget s.t 2) (tget s.t 3) s.h) (fun _ _ => none)) (finP [.t 4])

theorem ins_right_L3_eq (s : St) : W E 0 c_ins_right_L3 s (fun s => ins_right_2 (tget s.t 2) (tget s.t 3) s.h) (exitTo 2 (fun s => ins_right_2 (tget s.t 2) (tget s.t 3) s.h) (fun _ _ => none)) (finP [.t 4]) = ins_right_L3 (tget s.t 2) (tget s.t 3) (tget s.t 63) (tget s.t 64) (tget s.t 65) s.h := W_loop_live.trans (by kernel_rfl)

noncomputable def ins_right_4 (v2 v3 v63 v64 v65 : AV) (h : Heap) : Option (Ex AV) :=
ob (evBin .add v65 (AV.int .i64 1)) fun v104 =>
(ins_right_L3 v2 v3 v63 v64 v104 h)

theorem ins_right_4_eq (s : St) : W E 0 c_ins_right_4 s (fun s => ins_right_L3 (tget s.t 2) (tget s.t 3) (tget s.t 63) (tget s.t 64) (tget s.t 65) s.h) (exitTo 2 (fun s => ins_right_2 (tget s.t 2) (tget s.t 3) s.h) (fun _ _ => none)) (finP [.t 4]) = ins_right_4 (tget s.t 2) (tget s.t 3) (tget s.t 63) (tget s.t 64) (tget s.t 65) s.h :=
  by kernel_rfl

noncomputable def ins_right_5 (v2 v3 v9 v10 v63 v64 v65 : AV) (h : Heap) : Option (Ex AV) :=
ob (evBin .lss v10 (AV.int .i64 0)) fun v74 =>
gb v74 false (some v10) fun v76 =>
gb v74 false (evFa 0 v2) fun v77 =>
gb v74 false (evLd false 1 v77 h) fun v78 =>
gb v74 false (evLen 1 v78 h) fun v79 =>
gb v74 false (evBin .geq v76 v79) fun v80 =>
ob (evPick v74 (AV.bool true) v80) fun v81 =>
gb v81 false (some v9) fun v83 =>
gb v81 false (evBin .eql v83 (AV.int .i64 0)) fun v84 =>
gb v81 false (some v84) fun v85 =>
gb v85 true (evFa 0 v3) fun v86 =>
gb v85 true (evLd false 1 v86 h) fun v87 =>
gb v85 true (evBin .eql v87 (AV.int .i64 24)) fun v88 =>
gb v85 true (some v88) fun v89 =>
gb v89 false (evFa 0 v3) fun v90 =>
gb v89 false (evLd false 1 v90 h) fun v91 =>
gb v89 false (evBin .eql v91 (AV.int .i64 25)) fun v92 =>
gb v85 true (evPick v89 (AV.bool true) v92) fun v93 =>
gb v81 false (evPick v85 v93 (AV.bool false)) fun v94 =>
gb v81 false (some v94) fun v95 =>
gb v95 true (evFa 0 v2) fun v96 =>
gb v95 true (evLd false 1 v96 h) fun v97 =>
gb v95 true (some v10) fun v98 =>
gb v95 true (evIxs 1 v97 v98) fun v99 =>
gb v95 true (evLd false 1 v99 h) fun v100 =>
gb v95 true (evBin .neq v100 (AV.int .i64 3)) fun v101 =>
gb v81 false (evPick v95 v101 (AV.bool false)) fun v102 =>
ob (evPick v81 (AV.bool true) v102) fun v103 =>
cnd v103
 ((expo1 h (AV.bool false)))
 ((ins_right_4 v2 v3 v63 v64 v65 h))

theorem ins_right_5_eq (s : St) : W E 0 c_ins_right_5 s (fun s => ins_right_4 (tget s.t 2) (tget s.t 3) (tget s.t 63) (tget s.t 64) (tget s.t 65) s.h) (exitTo 3 (fun s => ins_right_4 (tget s.t 2) (tget s.t 3) (tget s.t 63) (tget s.t 64) (tget s.t 65) s.h) (exitTo 2 (fun s => ins_right_2 (tget s.t 2) (tget s.t 3) s.h) (fun _ _ => none))) (finP [.t 4]) = ins_right_5 (tget s.t 2) (tget s.t 3) (tget s.t 9) (tget s.t 10) (tget s.t 63) (tget s.t 64) (tget s.t 65) s.h :=
  by kernel_rfl

noncomputable def ins_right_6 (v2 v3 v9 v10 v63 v64 v65 : AV) (h : Heap) : Option (Ex AV) :=
ob (evLd true 9 v3 h) fun v70 =>
oh (callAny E (callW E) 0 none true 17 [v70] h) fun v71 h2 =>
ob (evUn .not v71) fun v72 =>
cnd v72
 ((ins_right_2 v2 v3 h2))
 ((ins_right_5 v2 v3 v9 v10 v63 v64 v65 h2))

theorem ins_right_6_eq (s : St) : W E 0 c_ins_right_6 s (fun s => ins_right_4 (tget s.t 2) (tget s.t 3) (tget s.t 63) (tget s.t 64) (tget s.t 65) s.h) (exitTo 3 (fun s => ins_right_4 (tget s.t 2) (tget s.t 3) (tget s.t 63) (tget s.t 64) (tget s.t 65) s.h) (exitTo 2 (fun s => ins_right_2 (tget s.t 2) (tget s.t 3) s.h) (fun _ _ => none))) (finP [.t 4]) = ins_right_6 (tget s.t 2) (tget s.t 3) (tget s.t 9) (tget s.t 10) (tget s.t 63) (tget s.t 64) (tget s.t 65) s.h :=
  (W_seq (k := (fun s => ins_right_5 (tget s.t 2) (tget s.t 3) (tget s.t 9) (tget s.t 10) (tget s.t 63) (tget s.t 64) (tget s.t 65) s.h)) (fun s => ins_right_5_eq s)).trans (by kernel_rfl)

noncomputable def ins_right_7 (v2 v3 v63 v64 v65 : AV) (h : Heap) : Option (Ex AV) :=
ob (evIxs 1 v63 v65) fun v68 =>
ob (evLd false 1 v68 h) fun v69 =>
(ins_right_6 v2 v3 v65 v69 v63 v64 v65 h)

theorem ins_right_7_eq (s : St) : W E 0 c_ins_right_7 s (fun s => ins_right_4 (tget s.t 2) (tget s.t 3) (tget s.t 63) (tget s.t 64) (tget s.t 65) s.h) (exitTo 3 (fun s => ins_right_4 (tget s.t 2) (tget s.t 3) (tget s.t 63) (tget s.t 64) (tget s.t 65) s.h) (exitTo 2 (fun s => ins_right_2 (tget s.t 2) (tget s.t 3) s.h) (fun _ _ => none))) (finP [.t 4]) = ins_right_7 (tget s.t 2) (tget s.t 3) (tget s.t 63) (tget s.t 64) (tget s.t 65) s.h :=
  (W_seq (k := (fun s => ins_right_6 (tget s.t 2) (tget s.t 3) (tget s.t 9) (tget s.t 10) (tget s.t 63) (tget s.t 64) (tget s.t 65) s.h)) (fun s => ins_right_6_eq s)).trans (by kernel_rfl)

theorem ins_right_8_eq (s : St) : W E 0 c_ins_right_8 s (fun s => ins_right_4 (tget s.t 2) (tget s.t 3) (tget s.t 63) (tget s.t 64) (tget s.t 65) s.h) (exitTo 2 (fun s => ins_right_2 (tget s.t 2) (tget s.t 3) s.h) (fun _ _ => none)) (finP [.t 4]) = ins_right_7 (tget s.t 2) (tget s.t 3) (tget s.t 63) (tget s.t 64) (tget s.t 65) s.h :=
  W_block.trans (ins_right_7_eq s)

theorem ins_right_9_eq (s : St) : W E 0 c_ins_right_9 s (fun s => ins_right_L3 (tget s.t 2) (tget s.t 3) (tget s.t 63) (tget s.t 64) (tget s.t 65) s.h) (exitTo 2 (fun s => ins_right_2 (tget s.t 2) (tget s.t 3) s.h) (fun _ _ => none)) (finP [.t 4]) = ins_right_7 (tget s.t 2) (tget s.t 3) (tget s.t 63) (tget s.t 64) (tget s.t 65) s.h :=
  (W_seq (k := (fun s => ins_right_4 (tget s.t 2) (tget s.t 3) (tget s.t 63) (tget s.t 64) (tget s.t 65) s.h)) (fun s => ins_right_4_eq s)).trans (ins_right_8_eq s)

noncomputable def ins_right_10 (v2 v3 v63 v64 v65 v66 : AV) (h : Heap) : Option (Ex AV) :=
cnd v66
 ((ins_right_7 v2 v3 v63 v64 v65 h))
 ((ins_right_2 v2 v3 h))

theorem ins_right_10_eq (s : St) : W E 0 c_ins_right_10 s (fun s => ins_right_L3 (tget s.t 2) (tget s.t 3) (tget s.t 63) (tget s.t 64) (tget s.t 65) s.h) (exitTo 2 (fun s => ins_right_2 (tget s.t 2) (tget s.t 3) s.h) (fun _ _ => none)) (finP [.t 4]) = ins_right_10 (tget s.t 2) (tget s.t 3) (tget s.t 63) (tget s.t 64) (tget s.t 65) (tget s.t 66) s.h :=
  (W_seq (k := (fun s => ins_right_7 (tget s.t 2) (tget s.t 3) (tget s.t 63) (tget s.t 64) (tget s.t 65) s.h)) (fun s => ins_right_9_eq s)).trans (by kernel_rfl)

noncomputable def ins_right_11 (v2 v3 v63 v64 v65 : AV) (h : Heap) : Option (Ex AV) :=
ob (evBin .lss v65 v64) fun v66 =>
(ins_right_10 v2 v3 v63 v64 v65 v66 h)

theorem ins_right_11_eq (s : St) : W E 0 c_ins_right_11 s (fun s => ins_right_L3 (tget s.t 2) (tget s.t 3) (tget s.t 63) (tget s.t 64) (tget s.t 65) s.h) (exitTo 2 (fun s => ins_right_2 (tget s.t 2) (tget s.t 3) s.h) (fun _ _ => none)) (finP [.t 4]) = ins_right_11 (tget s.t 2) (tget s.t 3) (tget s.t 63) (tget s.t 64) (tget s.t 65) s.h :=
  (W_seq (k := (fun s => ins_right_10 (tget s.t 2) (tget s.t 3) (tget s.t 63) (tget s.t 64) (tget s.t 65) (tget s.t 66) s.h)) (fun s => ins_right_10_eq s)).trans (by kernel_rfl)

theorem ins_right_L3_go (v2 v3 v63 v64 v65 : AV) (h : Heap) : ins_right_L3 v2 v3 v63 v64 v65 h = (ins_right_11 v2 v3 v63 v64 v65 h) :=
  W_loop.trans ((W_congr _ _ _ (n' := (fun s => ins_right_L3 (tget s.t 2) (tget s.t 3) (tget s.t 63) (tget s.t 64) (tget s.t 65) s.h)) (fun s => ins_right_L3_eq s)).trans ((ins_right_11_eq _).trans (by kernel_rfl)))

theorem ins_right_12_eq (s : St) : W E 0 c_ins_right_12 s (fun s => ins_right_2 (tget s.t 2) (tget s.t 3) s.h) (fun _ _ => none) (finP [.t 4]) = ins_right_L3 (tget s.t 2) (tget s.t 3) (tget s.t 63) (tget s.t 64) (tget s.t 65) s.h :=
  W_block.trans (ins_right_L3_eq s)

noncomputable def ins_right_13 (v2 v3 : AV) (h : Heap) : Option (Ex AV) :=
ob (evFa 8 v3) fun v62 =>
ob (evLd false 1 v62 h) fun v63 =>
ob (evLen 1 v63 h) fun v64 =>
(ins_right_L3 v2 v3 v63 v64 (AV.int .i64 0) h)

theorem ins_right_13_eq (s : St) : W E 0 c_ins_right_13 s (fun s => ins_right_2 (tget s.t 2) (tget s.t 3) s.h) (fun _ _ => none) (finP [.t 4]) = ins_right_13 (tget s.t 2) (tget s.t 3) s.h :=
  (W_seq (k := (fun s => ins_right_L3 (tget s.t 2) (tget s.t 3) (tget s.t 63) (tget s.t 64) (tget s.t 65) s.h)) (fun s => ins_right_12_eq s)).trans (by kernel_rfl)

theorem ins_right_14_eq (s : St) : W E 0 c_ins_right_14 s (finP [.t 4]) (fun _ _ => none) (finP [.t 4]) = ins_right_13 (tget s.t 2) (tget s.t 3) s.h :=
  (W_seq (k := (fun s => ins_right_2 (tget s.t 2) (tget s.t 3) s.h)) (fun s => ins_right_2_eq s)).trans (ins_right_13_eq s)

noncomputable def ins_right_L15 (v2 v3 v5 v26 v27 : AV) (h : Heap) : Option (Ex AV) :=
  W E 0 c_ins_right_L15 ⟨[(2, v2), (3, v3), (5, v5), (26, v26), (27, v27)], h⟩ (fun s => ins_right_13 (tget s.t 2) (tget s.t 3) s.h) (exitTo 0 (fun s => ins_right_13 (tget s.t 2) (tget s.t 3) s.h) (fun _ _ => none)) (finP [.t 4])

theorem ins_right_L15_eq (s : St) : W E 0 c_ins_right_L15 s (fun s => ins_right_13 (tget s.t 2) (tget s.t 3) s.h) (exitTo 0 (fun s => ins_right_13 (tget s.t 2) (tget s.t 3) s.h) (fun _ _ => none)) (finP [.t 4]) = ins_right_L15 (tget s.t 2) (tget s.t 3) (tget s.t 5) (tget s.t 26) (tget s.t 27) s.h := W_loop_live.trans (by kernel_rfl)

noncomputable def ins_right_16 (v2 v3 v5 v26 v27 : AV) (h : Heap) : Option (Ex AV) :=
ob (evBin .add v27 (AV.int .i64 1)) fun v61 =>
(ins_right_L15 v2 v3 v5 v26 v61 h)

theorem ins_right_16_eq (s : St) : W E 0 c_ins_right_16 s (fun s => ins_right_L15 (tget s.t 2) (tget s.t 3) (tget s.t 5) (tget s.t 26) (tget s.t 27) s.h) (exitTo 0 (fun s => ins_right_13 (tget s.t 2) (tget s.t 3) s.h) (fun _ _ => none)) (finP [.t 4]) = ins_right_16 (tget s.t 2) (tget s.t 3) (tget s.t 5) (tget s.t 26) (tget s.t 27) s.h :=
  by kernel_rfl

noncomputable def ins_right_17 (v2 v3 v5 v7 v8 v26 v27 : AV) (h : Heap) : Option (Ex AV) :=
ob (evBin .lss v8 (AV.int .i64 0)) fun v36 =>
gb v36 false (some v8) fun v38 =>
gb v36 false (evFa 0 v2) fun v39 =>
gb v36 false (evLd false 1 v39 h) fun v40 =>
gb v36 false (evLen 1 v40 h) fun v41 =>
gb v36 false (evBin .geq v38 v41) fun v42 =>
ob (evPick v36 (AV.bool true) v42) fun v43 =>
gb v43 false (some v7) fun v45 =>
gb v43 false (evIxa 4 1 v5 v45) fun v46 =>
gb v43 false (evLd false 1 v46 h) fun v47 =>
gb v43 false (evBin .gtr v47 (AV.int .i64 0)) fun v48 =>
gb v43 false (some v48) fun v49 =>
gb v49 true (evFa 0 v2) fun v50 =>
gb v49 true (evLd false 1 v50 h) fun v51 =>
gb v49 true (some v8) fun v52 =>
gb v49 true (evIxs 1 v51 v52) fun v53 =>
gb v49 true (evLd false 1 v53 h) fun v54 =>
gb v49 true (some v7) fun v55 =>
gb v49 true (evIxa 4 1 v5 v55) fun v56 =>
gb v49 true (evLd false 1 v56 h) fun v57 =>
gb v49 true (evBin .neq v54 v57) fun v58 =>
gb v43 false (evPick v49 v58 (AV.bool false)) fun v59 =>
ob (evPick v43 (AV.bool true) v59) fun v60 =>
cnd v60
 ((expo1 h (AV.bool false)))
 ((ins_right_16 v2 v3 v5 v26 v27 h))

theorem ins_right_17_eq (s : St) : W E 0 c_ins_right_17 s (fun s => ins_right_16 (tget s.t 2) (tget s.t 3) (tget s.t 5) (tget s.t 26) (tget s.t 27) s.h) (exitTo 1 (fun s => ins_right_16 (tget s.t 2) (tget s.t 3) (tget s.t 5) (tget s.t 26) (tget s.t 27) s.h) (exitTo 0 (fun s => ins_right_13 (tget s.t 2) (tget s.t 3) s.h) (fun _ _ => none))) (finP [.t 4]) = ins_right_17 (tget s.t 2) (tget s.t 3) (tget s.t 5) (tget s.t 7) (tget s.t 8) (tget s.t 26) (tget s.t 27) s.h :=
  by kernel_rfl

noncomputable def ins_right_18 (v2 v3 v5 v7 v8 v26 v27 : AV) (h : Heap) : Option (Ex AV) :=
ob (evIxa 4 1 v5 v7) fun v32 =>
ob (evLd false 1 v32 h) fun v33 =>
ob (evBin .lss v33 (AV.int .i64 0)) fun v34 =>
cnd v34
 ((ins_right_16 v2 v3 v5 v26 v27 h))
 ((ins_right_17 v2 v3 v5 v7 v8 v26 v27 h))

theorem ins_right_18_eq (s : St) : W E 0 c_ins_right_18 s (fun s => ins_right_16 (tget s.t 2) (tget s.t 3) (tget s.t 5) (tget s.t 26) (tget s.t 27) s.h) (exitTo 1 (fun s => ins_right_16 (tget s.t 2) (tget s.t 3) (tget s.t 5) (tget s.t 26) (tget s.t 27) s.h) (exitTo 0 (fun s => ins_right_13 (tget s.t 2) (tget s.t 3) s.h) (fun _ _ => none))) (finP [.t 4]) = ins_right_18 (tget s.t 2) (tget s.t 3) (tget s.t 5) (tget s.t 7) (tget s.t 8) (tget s.t 26) (tget s.t 27) s.h :=
  (W_seq (k := (fun s => ins_right_17 (tget s.t 2) (tget s.t 3) (tget s.t 5) (tget s.t 7) (tget s.t 8) (tget s.t 26) (tget s.t 27) s.h)) (fun s => ins_right_17_eq s)).trans (by kernel_rfl)

noncomputable def ins_right_19 (v2 v3 v5 v26 v27 : AV) (h : Heap) : Option (Ex AV) :=
ob (evIxv false 4 1 v26 v27) fun v30 =>
(ins_right_18 v2 v3 v5 v27 v30 v26 v27 h)

theorem ins_right_19_eq (s : St) : W E 0 c_ins_right_19 s (fun s => ins_right_16 (tget s.t 2) (tget s.t 3) (tget s.t 5) (tget s.t 26) (tget s.t 27) s.h) (exitTo 1 (fun s => ins_right_16 (tget s.t 2) (tget s.t 3) (tget s.t 5) (tget s.t 26) (tget s.t 27) s.h) (exitTo 0 (fun s => ins_right_13 (tget s.t 2) (tget s.t 3) s.h) (fun _ _ => none))) (finP [.t 4]) = ins_right_19 (tget s.t 2) (tget s.t 3) (tget s.t 5) (tget s.t 26) (tget s.t 27) s.h :=
  (W_seq (k := (fun s => ins_right_18 (tget s.t 2) (tget s.t 3) (tget s.t 5) (tget s.t 7) (tget s.t 8) (tget s.t 26) (tget s.t 27) s.h)) (fun s => ins_right_18_eq s)).trans (by kernel_rfl)

theorem ins_right_20_eq (s : St) : W E 0 c_ins_right_20 s (fun s => ins_right_16 (tget s.t 2) (tget s.t 3) (tget s.t 5) (tget s.t 26) (tget s.t 27) s.h) (exitTo 0 (fun s => ins_right_13 (tget s.t 2) (tget s.t 3) s.h) (fun _ _ => none)) (finP [.t 4]) = ins_right_19 (tget s.t 2) (tget s.t 3) (tget s.t 5) (tget s.t 26) (tget s.t 27) s.h :=
  W_block.trans (ins_right_19_eq s)

theorem ins_right_21_eq (s : St) : W E 0 c_ins_right_21 s (fun s => ins_right_L15 (tget s.t 2) (tget s.t 3) (tget s.t 5) (tget s.t 26) (tget s.t 27) s.h) (exitTo 0 (fun s => ins_right_13 (tget s.t 2) (tget s.t 3) s.h) (fun _ _ => none)) (finP [.t 4]) = ins_right_19 (tget s.t 2) (tget s.t 3) (tget s.t 5) (tget s.t 26) (tget s.t 27) s.h :=
  (W_seq (k := (fun s => ins_right_16 (tget s.t 2) (tget s.t 3) (tget s.t 5) (tget s.t 26) (tget s.t 27) s.h)) (fun s => ins_right_16_eq s)).trans (ins_right_20_eq s)

noncomputable def ins_right_22 (v2 v3 v5 v26 v27 v28 : AV) (h : Heap) : Option (Ex AV) :=
cnd v28
 ((ins_right_19 v2 v3 v5 v26 v27 h))
 ((ins_right_13 v2 v3 h))

theorem ins_right_22_eq (s : St) : W E 0 c_ins_right_22 s (fun s => ins_right_L15 (tget s.t 2) (tget s.t 3) (tget s.t 5) (tget s.t 26) (tget s.t 27) s.h) (exitTo 0 (fun s => ins_right_13 (tget s.t 2) (tget s.t 3) s.h) (fun _ _ => none)) (finP [.t 4]) = ins_right_22 (tget s.t 2) (tget s.t 3) (tget s.t 5) (tget s.t 26) (tget s.t 27) (tget s.t 28) s.h :=
  (W_seq (k := (fun s => ins_right_19 (tget s.t 2) (tget s.t 3) (tget s.t 5) (tget s.t 26) (tget s.t 27) s.h)) (fun s => ins_right_21_eq s)).trans (by kernel_rfl)

noncomputable def ins_right_23 (v2 v3 v5 v26 v27 : AV) (h : Heap) : Option (Ex AV) :=
ob (evBin .lss v27 (AV.int .i64 4)) fun v28 =>
(ins_right_22 v2 v3 v5 v26 v27 v28 h)

theorem ins_right_23_eq (s : St) : W E 0 c_ins_right_23 s (fun s => ins_right_L15 (tget s.t 2) (tget s.t 3) (tget s.t 5) (tget s.t 26) (tget s.t 27) s.h) (exitTo 0 (fun s => ins_right_13 (tget s.t 2) (tget s.t 3) s.h) (fun _ _ => none)) (finP [.t 4]) = ins_right_23 (tget s.t 2) (tget s.t 3) (tget s.t 5) (tget s.t 26) (tget s.t 27) s.h :=
  (W_seq (k := (fun s => ins_right_22 (tget s.t 2) (tget s.t 3) (tget s.t 5) (tget s.t 26) (tget s.t 27) (tget s.t 28) s.h)) (fun s => ins_right_22_eq s)).trans (by kernel_rfl)

theorem ins_right_L15_go (v2 v3 v5 v26 v27 : AV) (h : Heap) : ins_right_L15 v2 v3 v5 v26 v27 h = (ins_right_23 v2 v3 v5 v26 v27 h) :=
  W_loop.trans ((W_congr _ _ _ (n' := (fun s => ins_right_L15 (tget s.t 2) (tget s.t 3) (tget s.t 5) (tget s.t 26) (tget s.t 27) s.h)) (fun s => ins_right_L15_eq s)).trans ((ins_right_23_eq _).trans (by kernel_rfl)))

theorem ins_right_24_eq (s : St) : W E 0 c_ins_right_24 s (fun s => ins_right_13 (tget s.t 2) (tget s.t 3) s.h) (fun _ _ => none) (finP [.t 4]) = ins_right_L15 (tget s.t 2) (tget s.t 3) (tget s.t 5) (tget s.t 26) (tget s.t 27) s.h :=
  W_block.trans (ins_right_L15_eq s)

noncomputable def ins_right_25 (v2 v3 v5 : AV) (h : Heap) : Option (Ex AV) :=
ob (evFa 1 v3) fun v18 =>
ob (evLd false 1 v18 h) fun v19 =>
ob (evFa 2 v3) fun v20 =>
ob (evLd false 1 v20 h) fun v21 =>
ob (evFa 3 v3) fun v22 =>
ob (evLd false 1 v22 h) fun v23 =>
ob (evFa 4 v3) fun v24 =>
ob (evLd false 1 v24 h) fun v25 =>
ob (evBuild [(.int .i64 0), (.int .i64 0), (.int .i64 0), (.int .i64 0)] [(0, 1, v19), (1, 1, v21), (2, 1, v23), (3, 1, v25)]) fun v26 =>
(ins_right_L15 v2 v3 v5 v26 (AV.int .i64 0) h)

theorem ins_right_25_eq (s : St) : W E 0 c_ins_right_25 s (fun s => ins_right_13 (tget s.t 2) (tget s.t 3) s.h) (fun _ _ => none) (finP [.t 4]) = ins_right_25 (tget s.t 2) (tget s.t 3) (tget s.t 5) s.h :=
  (W_seq (k := (fun s => ins_right_L15 (tget s.t 2) (tget s.t 3) (tget s.t 5) (tget s.t 26) (tget s.t 27) s.h)) (fun s => ins_right_24_eq s)).trans (by kernel_rfl)

theorem ins_right_26_eq (s : St) : W E 0 c_ins_right_26 s (finP [.t 4]) (fun _ _ => none) (finP [.t 4]) = ins_right_25 (tget s.t 2) (tget s.t 3) (tget s.t 5) s.h :=
  (W_seq (k := (fun s => ins_right_13 (tget s.t 2) (tget s.t 3) s.h)) (fun s => ins_right_14_eq s)).trans (ins_right_25_eq s)

noncomputable def ins_right_27 (v2 v3 v5 v6 : AV) (h : Heap) : Option (Ex AV) :=
ob (evUn .not v6) fun v17 =>
cnd v17
 ((expo1 h (AV.bool false)))
 ((ins_right_25 v2 v3 v5 h))

theorem ins_right_27_eq (s : St) : W E 0 c_ins_right_27 s (finP [.t 4]) (fun _ _ => none) (finP [.t 4]) = ins_right_27 (tget s.t 2) (tget s.t 3) (tget s.t 5) (tget s.t 6) s.h :=
  (W_seq (k := (fun s => ins_right_25 (tget s.t 2) (tget s.t 3) (tget s.t 5) s.h)) (fun s => ins_right_26_eq s)).trans (by kernel_rfl)

noncomputable def ins_right_28 (v2 v3 : AV) (h : Heap) : Option (Ex AV) :=
ob (evLd true 9 v3 h) fun v12 =>
oh (callAny E (callW E) 0 none true 47 [v12] h) fun v13 h3 =>
ob (evExt 0 v13) fun v14 =>
ob (evExt 1 v13) fun v15 =>
oh (newC 0 (some 2) [(.int .i64 0), (.int .i64 0), (.int .i64 0), (.int .i64 0)] h3) fun v5 h4 =>
oh (evSt 4 v5 v14 h4) fun _ h5 =>
(ins_right_27 v2 v3 v5 v15 h5)

theorem ins_right_28_eq (s : St) : W E 0 c_ins_right_28 s (finP [.t 4]) (fun _ _ => none) (finP [.t 4]) = ins_right_28 (tget s.t 2) (tget s.t 3) s.h :=
  (W_seq (k := (fun s => ins_right_27 (tget s.t 2) (tget s.t 3) (tget s.t 5) (tget s.t 6) s.h)) (fun s => ins_right_27_eq s)).trans (by kernel_rfl)

noncomputable def ins_right_29 (v0 v1 : AV) (h : Heap) : Option (Ex AV) :=
oh (newC 0 (some 0) (cellsOf v0) h) fun v2 h6 =>
oh (newC 0 (some 1) (cellsOf v1) h6) fun v3 h7 =>
(ins_right_28 v2 v3 h7)

theorem ins_right_29_eq (s : St) : W E 0 c_ins_right_29 s (finP [.t 4]) (fun _ _ => none) (finP [.t 4]) = ins_right_29 (tget s.t 0) (tget s.t 1) s.h :=
  (W_seq (k := (fun s => ins_right_28 (tget s.t 2) (tget s.t 3) s.h)) (fun s => ins_right_28_eq s)).trans (by kernel_rfl)

@[simp] theorem pure_63 : E.pure 63 = true := rfl

theorem x_ins_right (v0 v1 : AV) : (callW E).p 63 [v0, v1] = ins_right_29 v0 v1 [⟨0, .dead⟩, ⟨0, .dead⟩, ⟨0, .dead⟩] :=
  (callP_W (cf := c_ins_right) (by kernel_rfl) rfl).trans ((ins_right_29_eq _).trans (by kernel_rfl))

noncomputable def slices_Clone_int_int_1 (v0 : AV) (h : Heap) : Option (Ex AV) :=
oh (buildSC 0 (some 0) 1 0 [(.int .i64 0)] [] h) fun v5 h1 =>
oh (evApp 0 (some 1) 1 8 v5 v0 h1) fun v7 h2 =>
(expo1 h2 v7)

theorem slices_Clone_int_int_1_eq (s : St) : W E 0 c_slices_Clone_int_int_1 s (finP [.t 2]) (fun _ _ => none) (finP [.t 2]) = slices_Clone_int_int_1 (tget s.t 0) s.h :=
  by kernel_rfl

noncomputable def slices_Clone_int_int_2 (v0 : AV) (h : Heap) : Option (Ex AV) :=
ob (evEqnB 1 false v0 AV.nils) fun v4 =>
cnd v4
 ((expo1 h AV.nils))
 ((slices_Clone_int_int_1 v0 h))

theorem slices_Clone_int_int_2_eq (s : St) : W E 0 c_slices_Clone_int_int_2 s (finP [.t 2]) (fun _ _ => none) (finP [.t 2]) = slices_Clone_int_int_2 (tget s.t 0) s.h :=
  (W_seq (k := (fun s => slices_Clone_int_int_1 (tget s.t 0) s.h)) (fun s => slices_Clone_int_int_1_eq s)).trans (by kernel_rfl)

noncomputable def slices_Clone_int_int_3 (v0 : AV) (h : Heap) : Option (Ex AV) :=
(slices_Clone_int_int_2 v0 h)

theorem slices_Clone_int_int_3_eq (s : St) : W E 0 c_slices_Clone_int_int_3 s (finP [.t 2]) (fun _ _ => none) (finP [.t 2]) = slices_Clone_int_int_3 (tget s.t 0) s.h :=
  (W_seq (k := (fun s => slices_Clone_int_int_2 (tget s.t 0) s.h)) (fun s => slices_Clone_int_int_2_eq s)).trans (by kernel_rfl)

@[simp] theorem pure_39 : E.pure 39 = true := rfl

theorem x_slices_Clone_int_int (v0 : AV) : (callW E).p 39 [v0] = slices_Clone_int_int_3 v0 [⟨0, .dead⟩, ⟨0, .dead⟩] :=
  (callP_W (cf := c_slices_Clone_int_int) (by kernel_rfl) rfl).trans ((slices_Clone_int_int_3_eq _).trans (by kernel_rfl))

noncomputable def regletref10_in_1 (h : Heap) : Option (Ex AV) :=
(expo1 h (AV.bool false))

theorem regletref10_in_1_eq (s : St) : W E 0 c_regletref10_in_1 s (finP [.t 4]) (fun _ _ => none) (finP [.t 4]) = regletref10_in_1 s.h :=
  by kernel_rfl

noncomputable def regletref10_in_L2 (v0 v1 v5 : AV) (h : Heap) : Option (Ex AV) :=
  W E 0 c_regletref10_in_L2 ⟨[(0, v0), (1, v1), (5, v5)], h⟩ (fun s => regletref10_in_1 s.h) (exitTo 0 (fun s => regletref10_in_1 s.h) (fun _ _ => none)) (finP [.t 4])

theorem regletref10_in_L2_eq (s : St) : W E 0 c_regletref10_in_L2 s (fun s => regletref10_in_1 s.h) (exitTo 0 (fun s => regletref10_in_1 s.h) (fun _ _ => none)) (finP [.t 4]) = regletref10_in_L2 (tget s.t 0) (tget s.t 1) (tget s.t 5) s.h := W_loop_live.trans (by kernel_rfl)

noncomputable def regletref10_in_3 (v0 v1 v5 : AV) (h : Heap) : Option (Ex AV) :=
ob (evBin .add v5 (AV.int .i64 1)) fun v11 =>
(regletref10_in_L2 v0 v1 v11 h)

theorem regletref10_in_3_eq (s : St) : W E 0 c_regletref10_in_3 s (fun s => regletref10_in_L2 (tget s.t 0) (tget s.t 1) (tget s.t 5) s.h) (exitTo 0 (fun s => regletref10_in_1 s.h) (fun _ _ => none)) (finP [.t 4]) = regletref10_in_3 (tget s.t 0) (tget s.t 1) (tget s.t 5) s.h :=
  by kernel_rfl

noncomputable def regletref10_in_4 (v0 v1 v5 : AV) (h : Heap) : Option (Ex AV) :=
ob (evIxs 1 v1 v5) fun v14 =>
ob (evLd false 1 v14 h) fun v15 =>
ob (evBin .eql v15 v0) fun v17 =>
cnd v17
 ((expo1 h (AV.bool true)))
 ((regletref10_in_3 v0 v1 v5 h))

theorem regletref10_in_4_eq (s : St) : W E 0 c_regletref10_in_4 s (fun s => regletref10_in_L2 (tget s.t 0) (tget s.t 1) (tget s.t 5) s.h) (exitTo 0 (fun s => regletref10_in_1 s.h) (fun _ _ => none)) (finP [.t 4]) = regletref10_in_4 (tget s.t 0) (tget s.t 1) (tget s.t 5) s.h :=
  (W_seq (k := (fun s => regletref10_in_3 (tget s.t 0) (tget s.t 1) (tget s.t 5) s.h)) (fun s => regletref10_in_3_eq s)).trans (by kernel_rfl)

noncomputable def regletref10_in_5 (v0 v1 v5 : AV) (h : Heap) : Option (Ex AV) :=
ob (evLen 1 v1 h) fun v8 =>
ob (evBin .lss v5 v8) fun v9 =>
cnd v9
 ((regletref10_in_4 v0 v1 v5 h))
 ((regletref10_in_1 h))

theorem regletref10_in_5_eq (s : St) : W E 0 c_regletref10_in_5 s (fun s => regletref10_in_L2 (tget s.t 0) (tget s.t 1) (tget s.t 5) s.h) (exitTo 0 (fun s => regletref10_in_1 s.h) (fun _ _ => none)) (finP [.t 4]) = regletref10_in_5 (tget s.t 0) (tget s.t 1) (tget s.t 5) s.h :=
  (W_seq (k := (fun s => regletref10_in_4 (tget s.t 0) (tget s.t 1) (tget s.t 5) s.h)) (fun s => regletref10_in_4_eq s)).trans (by kernel_rfl)

theorem regletref10_in_L2_go (v0 v1 v5 : AV) (h : Heap) : regletref10_in_L2 v0 v1 v5 h = (regletref10_in_5 v0 v1 v5 h) :=
  W_loop.trans ((W_congr _ _ _ (n' := (fun s => regletref10_in_L2 (tget s.t 0) (tget s.t 1) (tget s.t 5) s.h)) (fun s => regletref10_in_L2_eq s)).trans ((regletref10_in_5_eq _).trans (by kernel_rfl)))

theorem regletref10_in_6_eq (s : St) : W E 0 c_regletref10_in_6 s (fun s => regletref10_in_1 s.h) (fun _ _ => none) (finP [.t 4]) = regletref10_in_L2 (tget s.t 0) (tget s.t 1) (tget s.t 5) s.h :=
  W_block.trans (regletref10_in_L2_eq s)

noncomputable def regletref10_in_7 (v0 v1 : AV) (h : Heap) : Option (Ex AV) :=
(regletref10_in_L2 v0 v1 (AV.int .i64 0) h)

theorem regletref10_in_7_eq (s : St) : W E 0 c_regletref10_in_7 s (fun s => regletref10_in_1 s.h) (fun _ _ => none) (finP [.t 4]) = regletref10_in_7 (tget s.t 0) (tget s.t 1) s.h :=
  (W_seq (k := (fun s => regletref10_in_L2 (tget s.t 0) (tget s.t 1) (tget s.t 5) s.h)) (fun s => regletref10_in_6_eq s)).trans (by kernel_rfl)

theorem regletref10_in_8_eq (s : St) : W E 0 c_regletref10_in_8 s (finP [.t 4]) (fun _ _ => none) (finP [.t 4]) = regletref10_in_7 (tget s.t 0) (tget s.t 1) s.h :=
  (W_seq (k := (fun s => regletref10_in_1 s.h)) (fun s => regletref10_in_1_eq s)).trans (regletref10_in_7_eq s)

noncomputable def regletref10_in_9 (v0 v1 : AV) (h : Heap) : Option (Ex AV) :=
(regletref10_in_7 v0 v1 h)

theorem regletref10_in_9_eq (s : St) : W E 0 c_regletref10_in_9 s (finP [.t 4]) (fun _ _ => none) (finP [.t 4]) = regletref10_in_9 (tget s.t 0) (tget s.t 1) s.h :=
  (W_seq (k := (fun s => regletref10_in_7 (tget s.t 0) (tget s.t 1) s.h)) (fun s => regletref10_in_8_eq s)).trans (by kernel_rfl)

@[simp] theorem pure_42 : E.pure 42 = true := rfl

theorem x_regletref10_in (v0 v1 : AV) : (callW E).p 42 [v0, v1] = regletref10_in_9 v0 v1 [] :=
  (callP_W (cf := c_regletref10_in) (by kernel_rfl) rfl).trans ((regletref10_in_9_eq _).trans (by kernel_rfl))

noncomputable def regletref10_kind_1 (v1 v2 : AV) (h : Heap) : Option (Ex AV) :=
ob (evFa 0 v2) fun v14 =>
ob (evLd false 1 v14 h) fun v15 =>
ob (evIxs 1 v15 v1) fun v17 =>
ob (evLd false 1 v17 h) fun v18 =>
(expo1 h v18)

theorem regletref10_kind_1_eq (s : St) : W E 0 c_regletref10_kind_1 s (finP [.t 4]) (fun _ _ => none) (finP [.t 4]) = regletref10_kind_1 (tget s.t 1) (tget s.t 2) s.h :=
  by kernel_rfl

noncomputable def regletref10_kind_2 (v1 v2 : AV) (h : Heap) : Option (Ex AV) :=
ob (evBin .lss v1 (AV.int .i64 0)) fun v6 =>
gb v6 false (some v1) fun v8 =>
gb v6 false (evFa 0 v2) fun v9 =>
gb v6 false (evLd false 1 v9 h) fun v10 =>
gb v6 false (evLen 1 v10 h) fun v11 =>
gb v6 false (evBin .geq v8 v11) fun v12 =>
ob (evPick v6 (AV.bool true) v12) fun v13 =>
cnd v13
 ((expo1 h (AV.int .i64 0)))
 ((regletref10_kind_1 v1 v2 h))

theorem regletref10_kind_2_eq (s : St) : W E 0 c_regletref10_kind_2 s (finP [.t 4]) (fun _ _ => none) (finP [.t 4]) = regletref10_kind_2 (tget s.t 1) (tget s.t 2) s.h :=
  (W_seq (k := (fun s => regletref10_kind_1 (tget s.t 1) (tget s.t 2) s.h)) (fun s => regletref10_kind_1_eq s)).trans (by kernel_rfl)

noncomputable def regletref10_kind_3 (v0 v1 : AV) (h : Heap) : Option (Ex AV) :=
oh (newC 0 (some 0) (cellsOf v0) h) fun v2 h1 =>
(regletref10_kind_2 v1 v2 h1)

theorem regletref10_kind_3_eq (s : St) : W E 0 c_regletref10_kind_3 s (finP [.t 4]) (fun _ _ => none) (finP [.t 4]) = regletref10_kind_3 (tget s.t 0) (tget s.t 1) s.h :=
  (W_seq (k := (fun s => regletref10_kind_2 (tget s.t 1) (tget s.t 2) s.h)) (fun s => regletref10_kind_2_eq s)).trans (by kernel_rfl)

@[simp] theorem pure_48 : E.pure 48 = true := rfl

theorem x_regletref10_kind (v0 v1 : AV) : (callW E).p 48 [v0, v1] = regletref10_kind_3 v0 v1 [⟨0, .dead⟩] :=
  (callP_W (cf := c_regletref10_kind) (by kernel_rfl) rfl).trans ((regletref10_kind_3_eq _).trans (by kernel_rfl))

noncomputable def regletref10_one_1 (h : Heap) : Option (Ex AV) :=
(expo1 h (AV.bool true))

theorem regletref10_one_1_eq (s : St) : W E 0 c_regletref10_one_1 s (finP [.t 4]) (fun _ _ => none) (finP [.t 4]) = regletref10_one_1 s.h :=
  by kernel_rfl

noncomputable def regletref10_one_2 (v2 v3 : AV) (h : Heap) : Option (Ex AV) :=
ob (evFa 2 v3) fun v215 =>
ob (evLd false 1 v215 h) fun v216 =>
ob (evBin .neq v216 (AV.int .i64 (-1))) fun v217 =>
ofp (fgd v217 true (some (ids1 v2, []))) fun f4 =>
gb v217 true (evLd true 5 v2 h) fun v219 =>
ofp (fgd v217 true (some ([], []))) fun f5 =>
gb v217 true (evFa 2 v3) fun v220 =>
ofp (fgd v217 true (some (ids1 v220, []))) fun f6 =>
gb v217 true (evLd false 1 v220 h) fun v221 =>
ofp (fgd v217 true (fpCall E (callW E) 0 none true 48 [v219, v221] h)) fun f7 =>
gh v217 true (callAny E (callW E) 0 none true 48 [v219, v221] h) h fun v222 h1 =>
ofp (fgd v217 true (some ([], []))) fun f8 =>
gb v217 true (evFa 2 v2) fun v223 =>
ofp (fgd v217 true (some (ids1 v223, []))) fun f9 =>
gb v217 true (evLd false 1 v223 h1) fun v224 =>
ofp (fgd v217 true (some ([], []))) fun f10 =>
gb v217 true (evBin .eql v222 v224) fun v225 =>
ob (evPick v217 v225 (AV.bool false)) fun v226 =>
okK (pairsOk [([], []), (ids1 v215, []), ([], []), ([], []), f4, f5, f6, f7, f8, f9, f10, ([], []), ([], [])] [(7, 9)]) <|
(expo1 h1 v226)

theorem regletref10_one_2_eq (s : St) : W E 0 c_regletref10_one_2 s (fun s => regletref10_one_1 s.h) (exitTo 2 (fun s => regletref10_one_1 s.h) (fun _ _ => none)) (finP [.t 4]) = regletref10_one_2 (tget s.t 2) (tget s.t 3) s.h :=
  by kernel_rfl

noncomputable def regletref10_one_3 (v2 v3 : AV) (h : Heap) : Option (Ex AV) :=
ob (evFa 2 v2) fun v209 =>
ob (evLd false 1 v209 h) fun v210 =>
ob (evBin .eql v210 (AV.int .i64 0)) fun v211 =>
cnd v211
 (ob (evFa 2 v3) fun v212 =>
ob (evLd false 1 v212 h) fun v213 =>
ob (evBin .eql v213 (AV.int .i64 (-1))) fun v214 =>
(expo1 h v214))
 ((regletref10_one_2 v2 v3 h))

theorem regletref10_one_3_eq (s : St) : W E 0 c_regletref10_one_3 s (fun s => regletref10_one_1 s.h) (exitTo 2 (fun s => regletref10_one_1 s.h) (fun _ _ => none)) (finP [.t 4]) = regletref10_one_3 (tget s.t 2) (tget s.t 3) s.h :=
  (W_seq (k := (fun s => regletref10_one_2 (tget s.t 2) (tget s.t 3) s.h)) (fun s => regletref10_one_2_eq s)).trans (by kernel_rfl)

noncomputable def regletref10_one_4 (v2 v3 v207 : AV) (h : Heap) : Option (Ex AV) :=
cnd v207
 ((regletref10_one_3 v2 v3 h))
 ((regletref10_one_1 h))

theorem regletref10_one_4_eq (s : St) : W E 0 c_regletref10_one_4 s (fun s => regletref10_one_1 s.h) (exitTo 2 (fun s => regletref10_one_1 s.h) (fun _ _ => none)) (finP [.t 4]) = regletref10_one_4 (tget s.t 2) (tget s.t 3) (tget s.t 207) s.h :=
  (W_cond (regletref10_one_3_eq s) rfl).trans (by kernel_rfl)

noncomputable def regletref10_one_5 (v2 v3 v55 : AV) (h : Heap) : Option (Ex AV) :=
ob (evBin .eql v55 (AV.int .i64 30)) fun v208 =>
(regletref10_one_4 v2 v3 v208 h)

theorem regletref10_one_5_eq (s : St) : W E 0 c_regletref10_one_5 s (fun s => regletref10_one_1 s.h) (exitTo 2 (fun s => regletref10_one_1 s.h) (fun _ _ => none)) (finP [.t 4]) = regletref10_one_5 (tget s.t 2) (tget s.t 3) (tget s.t 55) s.h :=
  (W_seq (k := (fun s => regletref10_one_4 (tget s.t 2) (tget s.t 3) (tget s.t 207) s.h)) (fun s => regletref10_one_4_eq s)).trans (by kernel_rfl)

noncomputable def regletref10_one_6 (v2 v3 v55 v179 : AV) (h : Heap) : Option (Ex AV) :=
cnd v179
 (ob (evFa 5 v3) fun v181 =>
ob (evLd false 1 v181 h) fun v182 =>
ob (evBin .eql v182 (AV.int .i64 0)) fun v183 =>
gb v183 false (evFa 5 v3) fun v185 =>
gb v183 false (evLd false 1 v185 h) fun v186 =>
gb v183 false (evBin .eql v186 (AV.int .i64 1)) fun v187 =>
ob (evPick v183 (AV.bool true) v187) fun v188 =>
gb v188 true (evFa 3 v3) fun v190 =>
gb v188 true (evLd false 1 v190 h) fun v191 =>
gb v188 true (evBin .eql v191 (AV.int .i64 (-1))) fun v192 =>
gb v188 true (some v192) fun v193 =>
gb v193 false (evLd true 5 v2 h) fun v194 =>
gb v193 false (evFa 3 v3) fun v195 =>
gb v193 false (evLd false 1 v195 h) fun v196 =>
gh v193 false (callAny E (callW E) 0 none true 48 [v194, v196] h) h fun v197 h2 =>
gb v193 false (evBin .eql v197 (AV.int .i64 3)) fun v198 =>
gb v188 true (evPick v193 (AV.bool true) v198) fun v199 =>
ob (evPick v188 v199 (AV.bool false)) fun v200 =>
gb v200 true (evLd true 5 v2 h2) fun v202 =>
gb v200 true (evFa 6 v3) fun v203 =>
gb v200 true (evLd false 1 v203 h2) fun v204 =>
gh v200 true (callAny E (callW E) 0 none true 49 [v202, v204] h2) h2 fun v205 h3 =>
ob (evPick v200 v205 (AV.bool false)) fun v206 =>
(expo1 h3 v206))
 ((regletref10_one_5 v2 v3 v55 h))

theorem regletref10_one_6_eq (s : St) : W E 0 c_regletref10_one_6 s (fun s => regletref10_one_1 s.h) (exitTo 2 (fun s => regletref10_one_1 s.h) (fun _ _ => none)) (finP [.t 4]) = regletref10_one_6 (tget s.t 2) (tget s.t 3) (tget s.t 55) (tget s.t 179) s.h :=
  (W_cond rfl (regletref10_one_5_eq s)).trans (by kernel_rfl)

noncomputable def regletref10_one_7 (v2 v3 v55 : AV) (h : Heap) : Option (Ex AV) :=
ob (evBin .eql v55 (AV.int .i64 29)) fun v180 =>
(regletref10_one_6 v2 v3 v55 v180 h)

theorem regletref10_one_7_eq (s : St) : W E 0 c_regletref10_one_7 s (fun s => regletref10_one_1 s.h) (exitTo 2 (fun s => regletref10_one_1 s.h) (fun _ _ => none)) (finP [.t 4]) = regletref10_one_7 (tget s.t 2) (tget s.t 3) (tget s.t 55) s.h :=
  (W_seq (k := (fun s => regletref10_one_6 (tget s.t 2) (tget s.t 3) (tget s.t 55) (tget s.t 179) s.h)) (fun s => regletref10_one_6_eq s)).trans (by kernel_rfl)

noncomputable def regletref10_one_8 (v2 v3 v55 v173 : AV) (h : Heap) : Option (Ex AV) :=
cnd v173
 (ob (evLd true 5 v2 h) fun v175 =>
ob (evFa 6 v3) fun v176 =>
ob (evLd false 1 v176 h) fun v177 =>
oh (callAny E (callW E) 0 none true 49 [v175, v177] h) fun v178 h4 =>
(expo1 h4 v178))
 ((regletref10_one_7 v2 v3 v55 h))

theorem regletref10_one_8_eq (s : St) : W E 0 c_regletref10_one_8 s (fun s => regletref10_one_1 s.h) (exitTo 2 (fun s => regletref10_one_1 s.h) (fun _ _ => none)) (finP [.t 4]) = regletref10_one_8 (tget s.t 2) (tget s.t 3) (tget s.t 55) (tget s.t 173) s.h :=
  (W_cond rfl (regletref10_one_7_eq s)).trans (by kernel_rfl)

noncomputable def regletref10_one_9 (v2 v3 v55 : AV) (h : Heap) : Option (Ex AV) :=
ob (evBin .eql v55 (AV.int .i64 27)) fun v174 =>
(regletref10_one_8 v2 v3 v55 v174 h)

theorem regletref10_one_9_eq (s : St) : W E 0 c_regletref10_one_9 s (fun s => regletref10_one_1 s.h) (exitTo 2 (fun s => regletref10_one_1 s.h) (fun _ _ => none)) (finP [.t 4]) = regletref10_one_9 (tget s.t 2) (tget s.t 3) (tget s.t 55) s.h :=
  (W_seq (k := (fun s => regletref10_one_8 (tget s.t 2) (tget s.t 3) (tget s.t 55) (tget s.t 173) s.h)) (fun s => regletref10_one_8_eq s)).trans (by kernel_rfl)

noncomputable def regletref10_one_10 (v2 v3 v55 v157 : AV) (h : Heap) : Option (Ex AV) :=
cnd v157
 (ob (evFa 5 v3) fun v159 =>
ob (evLd false 1 v159 h) fun v160 =>
ob (evBin .geq v160 (AV.int .i64 0)) fun v161 =>
gb v161 true (evFa 5 v3) fun v163 =>
gb v161 true (evLd false 1 v163 h) fun v164 =>
gb v161 true (evBin .leq v164 (AV.int .i64 5)) fun v165 =>
ob (evPick v161 v165 (AV.bool false)) fun v166 =>
gb v166 true (evLd true 5 v2 h) fun v168 =>
gb v166 true (evFa 6 v3) fun v169 =>
gb v166 true (evLd false 1 v169 h) fun v170 =>
gh v166 true (callAny E (callW E) 0 none true 49 [v168, v170] h) h fun v171 h5 =>
ob (evPick v166 v171 (AV.bool false)) fun v172 =>
(expo1 h5 v172))
 ((regletref10_one_9 v2 v3 v55 h))

theorem regletref10_one_10_eq (s : St) : W E 0 c_regletref10_one_10 s (fun s => regletref10_one_1 s.h) (exitTo 2 (fun s => regletref10_one_1 s.h) (fun _ _ => none)) (finP [.t 4]) = regletref10_one_10 (tget s.t 2) (tget s.t 3) (tget s.t 55) (tget s.t 157) s.h :=
  (W_cond rfl (regletref10_one_9_eq s)).trans (by kernel_rfl)

noncomputable def regletref10_one_11 (v2 v3 v55 : AV) (h : Heap) : Option (Ex AV) :=
ob (evBin .eql v55 (AV.int .i64 28)) fun v158 =>
(regletref10_one_10 v2 v3 v55 v158 h)

theorem regletref10_one_11_eq (s : St) : W E 0 c_regletref10_one_11 s (fun s => regletref10_one_1 s.h) (exitTo 2 (fun s => regletref10_one_1 s.h) (fun _ _ => none)) (finP [.t 4]) = regletref10_one_11 (tget s.t 2) (tget s.t 3) (tget s.t 55) s.h :=
  (W_seq (k := (fun s => regletref10_one_10 (tget s.t 2) (tget s.t 3) (tget s.t 55) (tget s.t 157) s.h)) (fun s => regletref10_one_10_eq s)).trans (by kernel_rfl)

noncomputable def regletref10_one_12 (v2 v3 v55 v149 : AV) (h : Heap) : Option (Ex AV) :=
cnd v149
 (ob (evLd true 5 v2 h) fun v154 =>
ob (evLd true 9 v3 h) fun v155 =>
oh (callAny E (callW E) 0 none true 68 [v154, v155] h) fun v156 h6 =>
(expo1 h6 v156))
 ((regletref10_one_11 v2 v3 v55 h))

theorem regletref10_one_12_eq (s : St) : W E 0 c_regletref10_one_12 s (fun s => regletref10_one_1 s.h) (exitTo 2 (fun s => regletref10_one_1 s.h) (fun _ _ => none)) (finP [.t 4]) = regletref10_one_12 (tget s.t 2) (tget s.t 3) (tget s.t 55) (tget s.t 149) s.h :=
  (W_cond rfl (regletref10_one_11_eq s)).trans (by kernel_rfl)

noncomputable def regletref10_one_13 (v2 v3 v55 : AV) (h : Heap) : Option (Ex AV) :=
ob (evBin .eql v55 (AV.int .i64 23)) fun v150 =>
cnd v150
 ((regletref10_one_12 v2 v3 v55 v150 h))
 (ob (evBin .eql v55 (AV.int .i64 24)) fun v151 =>
cnd v151
 ((regletref10_one_12 v2 v3 v55 v151 h))
 (ob (evBin .eql v55 (AV.int .i64 25)) fun v152 =>
cnd v152
 ((regletref10_one_12 v2 v3 v55 v152 h))
 (ob (evBin .eql v55 (AV.int .i64 26)) fun v153 =>
(regletref10_one_12 v2 v3 v55 v153 h))))

theorem regletref10_one_13_eq (s : St) : W E 0 c_regletref10_one_13 s (fun s => regletref10_one_1 s.h) (exitTo 2 (fun s => regletref10_one_1 s.h) (fun _ _ => none)) (finP [.t 4]) = regletref10_one_13 (tget s.t 2) (tget s.t 3) (tget s.t 55) s.h :=
  (W_seq (k := (fun s => regletref10_one_12 (tget s.t 2) (tget s.t 3) (tget s.t 55) (tget s.t 149) s.h)) (fun s => regletref10_one_12_eq s)).trans (by kernel_rfl)

noncomputable def regletref10_one_14 (v2 v3 v55 v143 : AV) (h : Heap) : Option (Ex AV) :=
cnd v143
 (ob (evFa 5 v3) fun v146 =>
ob (evLd false 1 v146 h) fun v147 =>
ob (evBin .geq v147 (AV.int .i64 0)) fun v148 =>
(expo1 h v148))
 ((regletref10_one_13 v2 v3 v55 h))

theorem regletref10_one_14_eq (s : St) : W E 0 c_regletref10_one_14 s (fun s => regletref10_one_1 s.h) (exitTo 2 (fun s => regletref10_one_1 s.h) (fun _ _ => none)) (finP [.t 4]) = regletref10_one_14 (tget s.t 2) (tget s.t 3) (tget s.t 55) (tget s.t 143) s.h :=
  (W_cond rfl (regletref10_one_13_eq s)).trans (by kernel_rfl)

noncomputable def regletref10_one_15 (v2 v3 v55 : AV) (h : Heap) : Option (Ex AV) :=
ob (evBin .eql v55 (AV.int .i64 16)) fun v144 =>
cnd v144
 ((regletref10_one_14 v2 v3 v55 v144 h))
 (ob (evBin .eql v55 (AV.int .i64 17)) fun v145 =>
(regletref10_one_14 v2 v3 v55 v145 h))

theorem regletref10_one_15_eq (s : St) : W E 0 c_regletref10_one_15 s (fun s => regletref10_one_1 s.h) (exitTo 2 (fun s => regletref10_one_1 s.h) (fun _ _ => none)) (finP [.t 4]) = regletref10_one_15 (tget s.t 2) (tget s.t 3) (tget s.t 55) s.h :=
  (W_seq (k := (fun s => regletref10_one_14 (tget s.t 2) (tget s.t 3) (tget s.t 55) (tget s.t 143) s.h)) (fun s => regletref10_one_14_eq s)).trans (by kernel_rfl)

noncomputable def regletref10_one_16 (v2 v3 v55 v136 : AV) (h : Heap) : Option (Ex AV) :=
cnd v136
 (ob (evFa 7 v3) fun v140 =>
ob (evLd false 1 v140 h) fun v141 =>
oh (callAny E (callW E) 0 none true 67 [v141] h) fun v142 h7 =>
(expo1 h7 v142))
 ((regletref10_one_15 v2 v3 v55 h))

theorem regletref10_one_16_eq (s : St) : W E 0 c_regletref10_one_16 s (fun s => regletref10_one_1 s.h) (exitTo 2 (fun s => regletref10_one_1 s.h) (fun _ _ => none)) (finP [.t 4]) = regletref10_one_16 (tget s.t 2) (tget s.t 3) (tget s.t 55) (tget s.t 136) s.h :=
  (W_cond rfl (regletref10_one_15_eq s)).trans (by kernel_rfl)

noncomputable def regletref10_one_17 (v2 v3 v55 : AV) (h : Heap) : Option (Ex AV) :=
ob (evBin .eql v55 (AV.int .i64 12)) fun v137 =>
cnd v137
 ((regletref10_one_16 v2 v3 v55 v137 h))
 (ob (evBin .eql v55 (AV.int .i64 21)) fun v138 =>
cnd v138
 ((regletref10_one_16 v2 v3 v55 v138 h))
 (ob (evBin .eql v55 (AV.int .i64 22)) fun v139 =>
(regletref10_one_16 v2 v3 v55 v139 h)))

theorem regletref10_one_17_eq (s : St) : W E 0 c_regletref10_one_17 s (fun s => regletref10_one_1 s.h) (exitTo 2 (fun s => regletref10_one_1 s.h) (fun _ _ => none)) (finP [.t 4]) = regletref10_one_17 (tget s.t 2) (tget s.t 3) (tget s.t 55) s.h :=
  (W_seq (k := (fun s => regletref10_one_16 (tget s.t 2) (tget s.t 3) (tget s.t 55) (tget s.t 136) s.h)) (fun s => regletref10_one_16_eq s)).trans (by kernel_rfl)

noncomputable def regletref10_one_18 (v2 v3 v8 v9 v10 v55 v112 : AV) (h : Heap) : Option (Ex AV) :=
cnd v112
 (ob (evBin .gtr v8 (AV.int .i64 0)) fun v115 =>
gb v115 true (some v9) fun v117 =>
gb v115 true (evBin .eql v117 (AV.int .i64 0)) fun v118 =>
ob (evPick v115 v118 (AV.bool false)) fun v119 =>
gb v119 true (evLd true 5 v2 h) fun v121 =>
gb v119 true (evFa 1 v3) fun v122 =>
gb v119 true (evLd false 1 v122 h) fun v123 =>
gh v119 true (callAny E (callW E) 0 none true 48 [v121, v123] h) h fun v124 h8 =>
gb v119 true (some v10) fun v125 =>
gb v119 true (evBin .eql v124 v125) fun v126 =>
ob (evPick v119 v126 (AV.bool false)) fun v127 =>
gb v127 true (evLd true 5 v2 h8) fun v129 =>
gb v127 true (evFa 2 v3) fun v130 =>
gb v127 true (evLd false 1 v130 h8) fun v131 =>
gh v127 true (callAny E (callW E) 0 none true 48 [v129, v131] h8) h8 fun v132 h9 =>
gb v127 true (some v8) fun v133 =>
gb v127 true (evBin .eql v132 v133) fun v134 =>
ob (evPick v127 v134 (AV.bool false)) fun v135 =>
(expo1 h9 v135))
 ((regletref10_one_17 v2 v3 v55 h))

theorem regletref10_one_18_eq (s : St) : W E 0 c_regletref10_one_18 s (fun s => regletref10_one_1 s.h) (exitTo 2 (fun s => regletref10_one_1 s.h) (fun _ _ => none)) (finP [.t 4]) = regletref10_one_18 (tget s.t 2) (tget s.t 3) (tget s.t 8) (tget s.t 9) (tget s.t 10) (tget s.t 55) (tget s.t 112) s.h :=
  (W_cond rfl (regletref10_one_17_eq s)).trans (by kernel_rfl)

noncomputable def regletref10_one_19 (v2 v3 v8 v9 v10 v55 : AV) (h : Heap) : Option (Ex AV) :=
ob (evBin .eql v55 (AV.int .i64 6)) fun v113 =>
(regletref10_one_18 v2 v3 v8 v9 v10 v55 v113 h)

theorem regletref10_one_19_eq (s : St) : W E 0 c_regletref10_one_19 s (fun s => regletref10_one_1 s.h) (exitTo 2 (fun s => regletref10_one_1 s.h) (fun _ _ => none)) (finP [.t 4]) = regletref10_one_19 (tget s.t 2) (tget s.t 3) (tget s.t 8) (tget s.t 9) (tget s.t 10) (tget s.t 55) s.h :=
  (W_seq (k := (fun s => regletref10_one_18 (tget s.t 2) (tget s.t 3) (tget s.t 8) (tget s.t 9) (tget s.t 10) (tget s.t 55) (tget s.t 112) s.h)) (fun s => regletref10_one_18_eq s)).trans (by kernel_rfl)

noncomputable def regletref10_one_20 (v2 v3 v8 v9 v10 v55 v84 : AV) (h : Heap) : Option (Ex AV) :=
cnd v84
 (ob (evBin .gtr v9 (AV.int .i64 0)) fun v87 =>
gb v87 true (evLd true 5 v2 h) fun v89 =>
gb v87 true (evFa 1 v3) fun v90 =>
gb v87 true (evLd false 1 v90 h) fun v91 =>
gh v87 true (callAny E (callW E) 0 none true 48 [v89, v91] h) h fun v92 h10 =>
gb v87 true (some v10) fun v93 =>
gb v87 true (evBin .eql v92 v93) fun v94 =>
ob (evPick v87 v94 (AV.bool false)) fun v95 =>
gb v95 true (evLd true 5 v2 h10) fun v97 =>
gb v95 true (evFa 2 v3) fun v98 =>
gb v95 true (evLd false 1 v98 h10) fun v99 =>
gh v95 true (callAny E (callW E) 0 none true 48 [v97, v99] h10) h10 fun v100 h11 =>
gb v95 true (some v8) fun v101 =>
gb v95 true (evBin .eql v100 v101) fun v102 =>
ob (evPick v95 v102 (AV.bool false)) fun v103 =>
gb v103 true (evLd true 5 v2 h11) fun v105 =>
gb v103 true (evFa 3 v3) fun v106 =>
gb v103 true (evLd false 1 v106 h11) fun v107 =>
gh v103 true (callAny E (callW E) 0 none true 48 [v105, v107] h11) h11 fun v108 h12 =>
gb v103 true (some v9) fun v109 =>
gb v103 true (evBin .eql v108 v109) fun v110 =>
ob (evPick v103 v110 (AV.bool false)) fun v111 =>
(expo1 h12 v111))
 ((regletref10_one_19 v2 v3 v8 v9 v10 v55 h))

theorem regletref10_one_20_eq (s : St) : W E 0 c_regletref10_one_20 s (fun s => regletref10_one_1 s.h) (exitTo 2 (fun s => regletref10_one_1 s.h) (fun _ _ => none)) (finP [.t 4]) = regletref10_one_20 (tget s.t 2) (tget s.t 3) (tget s.t 8) (tget s.t 9) (tget s.t 10) (tget s.t 55) (tget s.t 84) s.h :=
  (W_cond rfl (regletref10_one_19_eq s)).trans (by kernel_rfl)

noncomputable def regletref10_one_21 (v2 v3 v8 v9 v10 v55 : AV) (h : Heap) : Option (Ex AV) :=
ob (evBin .eql v55 (AV.int .i64 5)) fun v85 =>
(regletref10_one_20 v2 v3 v8 v9 v10 v55 v85 h)

theorem regletref10_one_21_eq (s : St) : W E 0 c_regletref10_one_21 s (fun s => regletref10_one_1 s.h) (exitTo 2 (fun s => regletref10_one_1 s.h) (fun _ _ => none)) (finP [.t 4]) = regletref10_one_21 (tget s.t 2) (tget s.t 3) (tget s.t 8) (tget s.t 9) (tget s.t 10) (tget s.t 55) s.h :=
  (W_seq (k := (fun s => regletref10_one_20 (tget s.t 2) (tget s.t 3) (tget s.t 8) (tget s.t 9) (tget s.t 10) (tget s.t 55) (tget s.t 84) s.h)) (fun s => regletref10_one_20_eq s)).trans (by kernel_rfl)

noncomputable def regletref10_one_22 (v2 v3 v8 v9 v10 v55 v73 : AV) (h : Heap) : Option (Ex AV) :=
cnd v73
 (ob (evLd true 5 v2 h) fun v75 =>
ob (evFa 1 v3) fun v76 =>
ob (evLd false 1 v76 h) fun v77 =>
ofp (fpCall E (callW E) 0 none true 48 [v75, v77] h) fun f3 =>
oh (callAny E (callW E) 0 none true 48 [v75, v77] h) fun v78 h13 =>
ob (evLd true 5 v2 h13) fun v79 =>
ob (evFa 2 v3) fun v80 =>
ob (evLd false 1 v80 h13) fun v81 =>
ofp (fpCall E (callW E) 0 none true 48 [v79, v81] h13) fun f7 =>
oh (callAny E (callW E) 0 none true 48 [v79, v81] h13) fun v82 h14 =>
ob (evBin .eql v78 v82) fun v83 =>
okK (pairsOk [(ids1 v2, []), ([], []), (ids1 v76, []), f3, (ids1 v2, []), ([], []), (ids1 v80, []), f7, ([], []), ([], [])] [(3, 4), (3, 6)]) <|
(expo1 h14 v83))
 ((regletref10_one_21 v2 v3 v8 v9 v10 v55 h))

theorem regletref10_one_22_eq (s : St) : W E 0 c_regletref10_one_22 s (fun s => regletref10_one_1 s.h) (exitTo 2 (fun s => regletref10_one_1 s.h) (fun _ _ => none)) (finP [.t 4]) = regletref10_one_22 (tget s.t 2) (tget s.t 3) (tget s.t 8) (tget s.t 9) (tget s.t 10) (tget s.t 55) (tget s.t 73) s.h :=
  (W_cond rfl (regletref10_one_21_eq s)).trans (by kernel_rfl)

noncomputable def regletref10_one_23 (v2 v3 v8 v9 v10 v55 : AV) (h : Heap) : Option (Ex AV) :=
ob (evBin .eql v55 (AV.int .i64 4)) fun v74 =>
(regletref10_one_22 v2 v3 v8 v9 v10 v55 v74 h)

theorem regletref10_one_23_eq (s : St) : W E 0 c_regletref10_one_23 s (fun s => regletref10_one_1 s.h) (exitTo 2 (fun s => regletref10_one_1 s.h) (fun _ _ => none)) (finP [.t 4]) = regletref10_one_23 (tget s.t 2) (tget s.t 3) (tget s.t 8) (tget s.t 9) (tget s.t 10) (tget s.t 55) s.h :=
  (W_seq (k := (fun s => regletref10_one_22 (tget s.t 2) (tget s.t 3) (tget s.t 8) (tget s.t 9) (tget s.t 10) (tget s.t 55) (tget s.t 73) s.h)) (fun s => regletref10_one_22_eq s)).trans (by kernel_rfl)

noncomputable def regletref10_one_24 (v2 v3 v8 v9 v10 v55 v56 : AV) (h : Heap) : Option (Ex AV) :=
cnd v56
 (ob (evLd true 5 v2 h) fun v58 =>
ob (evFa 1 v3) fun v59 =>
ob (evLd false 1 v59 h) fun v60 =>
oh (callAny E (callW E) 0 none true 48 [v58, v60] h) fun v61 h15 =>
ob (evBin .eql v61 (AV.int .i64 2)) fun v62 =>
gb v62 false (evFa 5 v3) fun v64 =>
gb v62 false (evLd false 1 v64 h15) fun v65 =>
gb v62 false (evBin .geq v65 (AV.int .i64 (-2147483648))) fun v66 =>
gb v62 false (some v66) fun v67 =>
gb v67 true (evFa 5 v3) fun v68 =>
gb v67 true (evLd false 1 v68 h15) fun v69 =>
gb v67 true (evBin .lss v69 (AV.int .i64 2147483648)) fun v70 =>
gb v62 false (evPick v67 v70 (AV.bool false)) fun v71 =>
ob (evPick v62 (AV.bool true) v71) fun v72 =>
(expo1 h15 v72))
 ((regletref10_one_23 v2 v3 v8 v9 v10 v55 h))

theorem regletref10_one_24_eq (s : St) : W E 0 c_regletref10_one_24 s (fun s => regletref10_one_1 s.h) (exitTo 2 (fun s => regletref10_one_1 s.h) (fun _ _ => none)) (finP [.t 4]) = regletref10_one_24 (tget s.t 2) (tget s.t 3) (tget s.t 8) (tget s.t 9) (tget s.t 10) (tget s.t 55) (tget s.t 56) s.h :=
  (W_cond rfl (regletref10_one_23_eq s)).trans (by kernel_rfl)

noncomputable def regletref10_one_25 (v2 v3 v8 v9 v10 v55 : AV) (h : Heap) : Option (Ex AV) :=
ob (evBin .eql v55 (AV.int .i64 1)) fun v57 =>
(regletref10_one_24 v2 v3 v8 v9 v10 v55 v57 h)

theorem regletref10_one_25_eq (s : St) : W E 0 c_regletref10_one_25 s (fun s => regletref10_one_1 s.h) (exitTo 2 (fun s => regletref10_one_1 s.h) (fun _ _ => none)) (finP [.t 4]) = regletref10_one_25 (tget s.t 2) (tget s.t 3) (tget s.t 8) (tget s.t 9) (tget s.t 10) (tget s.t 55) s.h :=
  (W_seq (k := (fun s => regletref10_one_24 (tget s.t 2) (tget s.t 3) (tget s.t 8) (tget s.t 9) (tget s.t 10) (tget s.t 55) (tget s.t 56) s.h)) (fun s => regletref10_one_24_eq s)).trans (by kernel_rfl)

theorem regletref10_one_26_eq (s : St) : W E 0 c_regletref10_one_26 s (fun s => regletref10_one_1 s.h) (fun _ _ => none) (finP [.t 4]) = regletref10_one_25 (tget s.t 2) (tget s.t 3) (tget s.t 8) (tget s.t 9) (tget s.t 10) (tget s.t 55) s.h :=
  W_block.trans (regletref10_one_25_eq s)

noncomputable def regletref10_one_27 (v2 v3 v8 v9 v10 : AV) (h : Heap) : Option (Ex AV) :=
ob (evFa 0 v3) fun v54 =>
ob (evLd false 1 v54 h) fun v55 =>
(regletref10_one_25 v2 v3 v8 v9 v10 v55 h)

theorem regletref10_one_27_eq (s : St) : W E 0 c_regletref10_one_27 s (fun s => regletref10_one_1 s.h) (fun _ _ => none) (finP [.t 4]) = regletref10_one_27 (tget s.t 2) (tget s.t 3) (tget s.t 8) (tget s.t 9) (tget s.t 10) s.h :=
  (W_seq (k := (fun s => regletref10_one_25 (tget s.t 2) (tget s.t 3) (tget s.t 8) (tget s.t 9) (tget s.t 10) (tget s.t 55) s.h)) (fun s => regletref10_one_26_eq s)).trans (by kernel_rfl)

theorem regletref10_one_28_eq (s : St) : W E 0 c_regletref10_one_28 s (finP [.t 4]) (fun _ _ => none) (finP [.t 4]) = regletref10_one_27 (tget s.t 2) (tget s.t 3) (tget s.t 8) (tget s.t 9) (tget s.t 10) s.h :=
  (W_seq (k := (fun s => regletref10_one_1 s.h)) (fun s => regletref10_one_1_eq s)).trans (regletref10_one_27_eq s)

noncomputable def regletref10_one_29 (v2 v3 v8 v9 v10 : AV) (h : Heap) : Option (Ex AV) :=
ob (evFa 5 v3) fun v39 =>
ob (evLd false 1 v39 h) fun v40 =>
ob (evBin .geq v40 (AV.int .i64 0)) fun v41 =>
gb v41 true (evFa 5 v3) fun v43 =>
gb v41 true (evLd false 1 v43 h) fun v44 =>
gb v41 true (evBin .lss v44 (AV.int .i64 1000)) fun v45 =>
ob (evPick v41 v45 (AV.bool false)) fun v46 =>
cnd v46
 (ob (evFa 5 v3) fun v48 =>
ob (evLd false 1 v48 h) fun v49 =>
oh (callAny E (callW E) 0 none true 66 [v49] h) fun v50 h16 =>
ob (evExt 0 v50) fun v51 =>
ob (evExt 1 v50) fun v52 =>
ob (evExt 2 v50) fun v53 =>
(regletref10_one_27 v2 v3 v51 v52 v53 h16))
 ((regletref10_one_27 v2 v3 v8 v9 v10 h))

theorem regletref10_one_29_eq (s : St) : W E 0 c_regletref10_one_29 s (finP [.t 4]) (fun _ _ => none) (finP [.t 4]) = regletref10_one_29 (tget s.t 2) (tget s.t 3) (tget s.t 8) (tget s.t 9) (tget s.t 10) s.h :=
  (W_seq (k := (fun s => regletref10_one_27 (tget s.t 2) (tget s.t 3) (tget s.t 8) (tget s.t 9) (tget s.t 10) s.h)) (fun s => regletref10_one_28_eq s)).trans (by kernel_rfl)

noncomputable def regletref10_one_30 (v2 v3 : AV) (h : Heap) : Option (Ex AV) :=
(regletref10_one_29 v2 v3 (AV.int .i64 0) (AV.int .i64 0) (AV.int .i64 0) h)

theorem regletref10_one_30_eq (s : St) : W E 0 c_regletref10_one_30 s (finP [.t 4]) (fun _ _ => none) (finP [.t 4]) = regletref10_one_30 (tget s.t 2) (tget s.t 3) s.h :=
  (W_seq (k := (fun s => regletref10_one_29 (tget s.t 2) (tget s.t 3) (tget s.t 8) (tget s.t 9) (tget s.t 10) s.h)) (fun s => regletref10_one_29_eq s)).trans (by kernel_rfl)

noncomputable def regletref10_one_L31 (v2 v3 v5 v6 v7 : AV) (h : Heap) : Option (Ex AV) :=
  W E 0 c_regletref10_one_L31 ⟨[(2, v2), (3, v3), (5, v5), (6, v6), (7, v7)], h⟩ (fun s => regletref10_one_30 (tget s.t 2) (tget s.t 3) s.h) (exitTo 0 (fun s => regletref10_one_30 (tget s.t 2) (tget s.t 3) s.h) (fun _ _ => none)) (finP [.t 4])

theorem regletref10_one_L31_eq (s : St) : W E 0 c_regletref10_one_L31 s (fun s => regletref10_one_30 (tget s.t 2) (tget s.t 3) s.h) (exitTo 0 (fun s => regletref10_one_30 (tget s.t 2) (tget s.t 3) s.h) (fun _ _ => none)) (finP [.t 4]) = regletref10_one_L31 (tget s.t 2) (tget s.t 3) (tget s.t 5) (tget s.t 6) (tget s.t 7) s.h := W_loop_live.trans (by kernel_rfl)

noncomputable def regletref10_one_32 (v2 v3 v5 v6 v7 : AV) (h : Heap) : Option (Ex AV) :=
ob (evBin .add v7 (AV.int .i64 1)) fun v28 =>
(regletref10_one_L31 v2 v3 v5 v6 v28 h)

theorem regletref10_one_32_eq (s : St) : W E 0 c_regletref10_one_32 s (fun s => regletref10_one_L31 (tget s.t 2) (tget s.t 3) (tget s.t 5) (tget s.t 6) (tget s.t 7) s.h) (exitTo 0 (fun s => regletref10_one_30 (tget s.t 2) (tget s.t 3) s.h) (fun _ _ => none)) (finP [.t 4]) = regletref10_one_32 (tget s.t 2) (tget s.t 3) (tget s.t 5) (tget s.t 6) (tget s.t 7) s.h :=
  by kernel_rfl

noncomputable def regletref10_one_33 (v2 v3 v5 v6 v7 : AV) (h : Heap) : Option (Ex AV) :=
ob (evLd true 5 v2 h) fun v29 =>
ob (evIxs 1 v6 v7) fun v32 =>
ob (evLd false 1 v32 h) fun v33 =>
ob (evIxstr v5 v7) fun v36 =>
oh (callAny E (callW E) 0 none true 65 [v29, v33, v36] h) fun v37 h17 =>
ob (evUn .not v37) fun v38 =>
cnd v38
 ((expo1 h17 (AV.bool false)))
 ((regletref10_one_32 v2 v3 v5 v6 v7 h17))

theorem regletref10_one_33_eq (s : St) : W E 0 c_regletref10_one_33 s (fun s => regletref10_one_L31 (tget s.t 2) (tget s.t 3) (tget s.t 5) (tget s.t 6) (tget s.t 7) s.h) (exitTo 0 (fun s => regletref10_one_30 (tget s.t 2) (tget s.t 3) s.h) (fun _ _ => none)) (finP [.t 4]) = regletref10_one_33 (tget s.t 2) (tget s.t 3) (tget s.t 5) (tget s.t 6) (tget s.t 7) s.h :=
  (W_seq (k := (fun s => regletref10_one_32 (tget s.t 2) (tget s.t 3) (tget s.t 5) (tget s.t 6) (tget s.t 7) s.h)) (fun s => regletref10_one_32_eq s)).trans (by kernel_rfl)

noncomputable def regletref10_one_34 (v2 v3 v5 v6 v7 : AV) (h : Heap) : Option (Ex AV) :=
ob (evBin .lss v7 (AV.int .i64 4)) fun v26 =>
cnd v26
 ((regletref10_one_33 v2 v3 v5 v6 v7 h))
 ((regletref10_one_30 v2 v3 h))

theorem regletref10_one_34_eq (s : St) : W E 0 c_regletref10_one_34 s (fun s => regletref10_one_L31 (tget s.t 2) (tget s.t 3) (tget s.t 5) (tget s.t 6) (tget s.t 7) s.h) (exitTo 0 (fun s => regletref10_one_30 (tget s.t 2) (tget s.t 3) s.h) (fun _ _ => none)) (finP [.t 4]) = regletref10_one_34 (tget s.t 2) (tget s.t 3) (tget s.t 5) (tget s.t 6) (tget s.t 7) s.h :=
  (W_seq (k := (fun s => regletref10_one_33 (tget s.t 2) (tget s.t 3) (tget s.t 5) (tget s.t 6) (tget s.t 7) s.h)) (fun s => regletref10_one_33_eq s)).trans (by kernel_rfl)

theorem regletref10_one_L31_go (v2 v3 v5 v6 v7 : AV) (h : Heap) : regletref10_one_L31 v2 v3 v5 v6 v7 h = (regletref10_one_34 v2 v3 v5 v6 v7 h) :=
  W_loop.trans ((W_congr _ _ _ (n' := (fun s => regletref10_one_L31 (tget s.t 2) (tget s.t 3) (tget s.t 5) (tget s.t 6) (tget s.t 7) s.h)) (fun s => regletref10_one_L31_eq s)).trans ((regletref10_one_34_eq _).trans (by kernel_rfl)))

theorem regletref10_one_35_eq (s : St) : W E 0 c_regletref10_one_35 s (fun s => regletref10_one_30 (tget s.t 2) (tget s.t 3) s.h) (fun _ _ => none) (finP [.t 4]) = regletref10_one_L31 (tget s.t 2) (tget s.t 3) (tget s.t 5) (tget s.t 6) (tget s.t 7) s.h :=
  W_block.trans (regletref10_one_L31_eq s)

noncomputable def regletref10_one_36 (v2 v3 v5 v6 : AV) (h : Heap) : Option (Ex AV) :=
(regletref10_one_L31 v2 v3 v5 v6 (AV.int .i64 0) h)

theorem regletref10_one_36_eq (s : St) : W E 0 c_regletref10_one_36 s (fun s => regletref10_one_30 (tget s.t 2) (tget s.t 3) s.h) (fun _ _ => none) (finP [.t 4]) = regletref10_one_36 (tget s.t 2) (tget s.t 3) (tget s.t 5) (tget s.t 6) s.h :=
  (W_seq (k := (fun s => regletref10_one_L31 (tget s.t 2) (tget s.t 3) (tget s.t 5) (tget s.t 6) (tget s.t 7) s.h)) (fun s => regletref10_one_35_eq s)).trans (by kernel_rfl)

theorem regletref10_one_37_eq (s : St) : W E 0 c_regletref10_one_37 s (finP [.t 4]) (fun _ _ => none) (finP [.t 4]) = regletref10_one_36 (tget s.t 2) (tget s.t 3) (tget s.t 5) (tget s.t 6) s.h :=
  (W_seq (k := (fun s => regletref10_one_30 (tget s.t 2) (tget s.t 3) s.h)) (fun s => regletref10_one_30_eq s)).trans (regletref10_one_36_eq s)

noncomputable def regletref10_one_38 (v2 v3 v5 : AV) (h : Heap) : Option (Ex AV) :=
ob (evFa 1 v3) fun v16 =>
ob (evLd false 1 v16 h) fun v17 =>
ob (evFa 2 v3) fun v18 =>
ob (evLd false 1 v18 h) fun v19 =>
ob (evFa 3 v3) fun v20 =>
ob (evLd false 1 v20 h) fun v21 =>
ob (evFa 4 v3) fun v22 =>
ob (evLd false 1 v22 h) fun v23 =>
oh (buildSC 0 (some 2) 1 4 [(.int .i64 0)] [(0, v17), (1, v19), (2, v21), (3, v23)] h) fun v24 h18 =>
(regletref10_one_36 v2 v3 v5 v24 h18)

theorem regletref10_one_38_eq (s : St) : W E 0 c_regletref10_one_38 s (finP [.t 4]) (fun _ _ => none) (finP [.t 4]) = regletref10_one_38 (tget s.t 2) (tget s.t 3) (tget s.t 5) s.h :=
  (W_seq (k := (fun s => regletref10_one_36 (tget s.t 2) (tget s.t 3) (tget s.t 5) (tget s.t 6) s.h)) (fun s => regletref10_one_37_eq s)).trans (by kernel_rfl)

noncomputable def regletref10_one_39 (v2 v3 v5 : AV) (h : Heap) : Option (Ex AV) :=
ob (evBin .eql v5 (AV.str [])) fun v15 =>
cnd v15
 ((expo1 h (AV.bool false)))
 ((regletref10_one_38 v2 v3 v5 h))

theorem regletref10_one_39_eq (s : St) : W E 0 c_regletref10_one_39 s (finP [.t 4]) (fun _ _ => none) (finP [.t 4]) = regletref10_one_39 (tget s.t 2) (tget s.t 3) (tget s.t 5) s.h :=
  (W_seq (k := (fun s => regletref10_one_38 (tget s.t 2) (tget s.t 3) (tget s.t 5) s.h)) (fun s => regletref10_one_38_eq s)).trans (by kernel_rfl)

noncomputable def regletref10_one_40 (v2 v3 : AV) (h : Heap) : Option (Ex AV) :=
ob (evFa 0 v3) fun v11 =>
ob (evLd false 1 v11 h) fun v12 =>
oh (callAny E (callW E) 0 none true 38 [v12] h) fun v13 h19 =>
(regletref10_one_39 v2 v3 v13 h19)

theorem regletref10_one_40_eq (s : St) : W E 0 c_regletref10_one_40 s (finP [.t 4]) (fun _ _ => none) (finP [.t 4]) = regletref10_one_40 (tget s.t 2) (tget s.t 3) s.h :=
  (W_seq (k := (fun s => regletref10_one_39 (tget s.t 2) (tget s.t 3) (tget s.t 5) s.h)) (fun s => regletref10_one_39_eq s)).trans (by kernel_rfl)

noncomputable def regletref10_one_41 (v0 v1 : AV) (h : Heap) : Option (Ex AV) :=
oh (newC 0 (some 0) (cellsOf v0) h) fun v2 h20 =>
oh (newC 0 (some 1) (cellsOf v1) h20) fun v3 h21 =>
(regletref10_one_40 v2 v3 h21)

theorem regletref10_one_41_eq (s : St) : W E 0 c_regletref10_one_41 s (finP [.t 4]) (fun _ _ => none) (finP [.t 4]) = regletref10_one_41 (tget s.t 0) (tget s.t 1) s.h :=
  (W_seq (k := (fun s => regletref10_one_40 (tget s.t 2) (tget s.t 3) s.h)) (fun s => regletref10_one_40_eq s)).trans (by kernel_rfl)

@[simp] theorem pure_64 : E.pure 64 = true := rfl

theorem x_regletref10_one (v0 v1 : AV) : (callW E).p 64 [v0, v1] = regletref10_one_41 v0 v1 [⟨0, .dead⟩, ⟨0, .dead⟩, ⟨0, .dead⟩] :=
  (callP_W (cf := c_regletref10_one) (by kernel_rfl) rfl).trans ((regletref10_one_41_eq _).trans (by kernel_rfl))

noncomputable def regletref10_place_1 (v0 v1 : AV) (h : Heap) : Option (Ex AV) :=
oh (newC 0 (some 0) (cellsOf v0) h) fun v2 h1 =>
ob (evBin .geq v1 (AV.int .i64 0)) fun v6 =>
gb v6 true (some v1) fun v8 =>
gb v6 true (evFa 3 v2) fun v9 =>
gb v6 true (evLd false 1 v9 h1) fun v10 =>
gb v6 true (evLen 1 v10 h1) fun v11 =>
gb v6 true (evBin .lss v8 v11) fun v12 =>
ob (evPick v6 v12 (AV.bool false)) fun v13 =>
(expo1 h1 v13)

theorem regletref10_place_1_eq (s : St) : W E 0 c_regletref10_place_1 s (finP [.t 4]) (fun _ _ => none) (finP [.t 4]) = regletref10_place_1 (tget s.t 0) (tget s.t 1) s.h :=
  by kernel_rfl

@[simp] theorem pure_49 : E.pure 49 = true := rfl

theorem x_regletref10_place (v0 v1 : AV) : (callW E).p 49 [v0, v1] = regletref10_place_1 v0 v1 [⟨0, .dead⟩] :=
  (callP_W (cf := c_regletref10_place) (by kernel_rfl) rfl).trans ((regletref10_place_1_eq _).trans (by kernel_rfl))

noncomputable def regletref02_Name_1 (v0 : AV) (h : Heap) : Option (Ex AV) :=
ob (evBin .neq v0 (AV.str [])) fun v25 =>
gb v25 true (some v0) fun v27 =>
gb v25 true (evLen 0 v27 h) fun v28 =>
gb v25 true (evBin .leq v28 (AV.int .i64 60)) fun v29 =>
ob (evPick v25 v29 (AV.bool false)) fun v30 =>
(expo1 h v30)

theorem regletref02_Name_1_eq (s : St) : W E 0 c_regletref02_Name_1 s (finP [.t 4]) (fun _ _ => none) (finP [.t 4]) = regletref02_Name_1 (tget s.t 0) s.h :=
  by kernel_rfl

noncomputable def regletref02_Name_L2 (v0 v5 v6 : AV) (h : Heap) : Option (Ex AV) :=
  W E 0 c_regletref02_Name_L2 ⟨[(0, v0), (5, v5), (6, v6)], h⟩ (fun s => regletref02_Name_1 (tget s.t 0) s.h) (exitTo 0 (fun s => regletref02_Name_1 (tget s.t 0) s.h) (fun _ _ => none)) (finP [.t 4])

theorem regletref02_Name_L2_eq (s : St) : W E 0 c_regletref02_Name_L2 s (fun s => regletref02_Name_1 (tget s.t 0) s.h) (exitTo 0 (fun s => regletref02_Name_1 (tget s.t 0) s.h) (fun _ _ => none)) (finP [.t 4]) = regletref02_Name_L2 (tget s.t 0) (tget s.t 5) (tget s.t 6) s.h := W_loop_live.trans (by kernel_rfl)

noncomputable def regletref02_Name_3 (v0 v5 v6 : AV) (h : Heap) : Option (Ex AV) :=
ob (evBin .add v6 (AV.int .i64 1)) fun v15 =>
(regletref02_Name_L2 v0 v5 v15 h)

theorem regletref02_Name_3_eq (s : St) : W E 0 c_regletref02_Name_3 s (fun s => regletref02_Name_L2 (tget s.t 0) (tget s.t 5) (tget s.t 6) s.h) (exitTo 0 (fun s => regletref02_Name_1 (tget s.t 0) s.h) (fun _ _ => none)) (finP [.t 4]) = regletref02_Name_3 (tget s.t 0) (tget s.t 5) (tget s.t 6) s.h :=
  by kernel_rfl

noncomputable def regletref02_Name_4 (v0 v5 v6 : AV) (h : Heap) : Option (Ex AV) :=
ob (evBin .add v6 (AV.int .i64 1)) fun v20 =>
ob (evSls v0 (some v6) (some v20)) fun v21 =>
oh (callAny E (callW E) 0 none true 53 [v5, v21] h) fun v22 h1 =>
ob (evUn .not v22) fun v23 =>
cnd v23
 ((expo1 h1 (AV.bool false)))
 ((regletref02_Name_3 v0 v5 v6 h1))

theorem regletref02_Name_4_eq (s : St) : W E 0 c_regletref02_Name_4 s (fun s => regletref02_Name_L2 (tget s.t 0) (tget s.t 5) (tget s.t 6) s.h) (exitTo 0 (fun s => regletref02_Name_1 (tget s.t 0) s.h) (fun _ _ => none)) (finP [.t 4]) = regletref02_Name_4 (tget s.t 0) (tget s.t 5) (tget s.t 6) s.h :=
  (W_seq (k := (fun s => regletref02_Name_3 (tget s.t 0) (tget s.t 5) (tget s.t 6) s.h)) (fun s => regletref02_Name_3_eq s)).trans (by kernel_rfl)

noncomputable def regletref02_Name_5 (v0 v5 v6 : AV) (h : Heap) : Option (Ex AV) :=
ob (evLen 0 v0 h) fun v12 =>
ob (evBin .lss v6 v12) fun v13 =>
cnd v13
 ((regletref02_Name_4 v0 v5 v6 h))
 ((regletref02_Name_1 v0 h))

theorem regletref02_Name_5_eq (s : St) : W E 0 c_regletref02_Name_5 s (fun s => regletref02_Name_L2 (tget s.t 0) (tget s.t 5) (tget s.t 6) s.h) (exitTo 0 (fun s => regletref02_Name_1 (tget s.t 0) s.h) (fun _ _ => none)) (finP [.t 4]) = regletref02_Name_5 (tget s.t 0) (tget s.t 5) (tget s.t 6) s.h :=
  (W_seq (k := (fun s => regletref02_Name_4 (tget s.t 0) (tget s.t 5) (tget s.t 6) s.h)) (fun s => regletref02_Name_4_eq s)).trans (by kernel_rfl)

theorem regletref02_Name_L2_go (v0 v5 v6 : AV) (h : Heap) : regletref02_Name_L2 v0 v5 v6 h = (regletref02_Name_5 v0 v5 v6 h) :=
  W_loop.trans ((W_congr _ _ _ (n' := (fun s => regletref02_Name_L2 (tget s.t 0) (tget s.t 5) (tget s.t 6) s.h)) (fun s => regletref02_Name_L2_eq s)).trans ((regletref02_Name_5_eq _).trans (by kernel_rfl)))

theorem regletref02_Name_6_eq (s : St) : W E 0 c_regletref02_Name_6 s (fun s => regletref02_Name_1 (tget s.t 0) s.h) (fun _ _ => none) (finP [.t 4]) = regletref02_Name_L2 (tget s.t 0) (tget s.t 5) (tget s.t 6) s.h :=
  W_block.trans (regletref02_Name_L2_eq s)

noncomputable def regletref02_Name_7 (v0 v5 : AV) (h : Heap) : Option (Ex AV) :=
(regletref02_Name_L2 v0 v5 (AV.int .i64 0) h)

theorem regletref02_Name_7_eq (s : St) : W E 0 c_regletref02_Name_7 s (fun s => regletref02_Name_1 (tget s.t 0) s.h) (fun _ _ => none) (finP [.t 4]) = regletref02_Name_7 (tget s.t 0) (tget s.t 5) s.h :=
  (W_seq (k := (fun s => regletref02_Name_L2 (tget s.t 0) (tget s.t 5) (tget s.t 6) s.h)) (fun s => regletref02_Name_6_eq s)).trans (by kernel_rfl)

theorem regletref02_Name_8_eq (s : St) : W E 0 c_regletref02_Name_8 s (finP [.t 4]) (fun _ _ => none) (finP [.t 4]) = regletref02_Name_7 (tget s.t 0) (tget s.t 5) s.h :=
  (W_seq (k := (fun s => regletref02_Name_1 (tget s.t 0) s.h)) (fun s => regletref02_Name_1_eq s)).trans (regletref02_Name_7_eq s)

noncomputable def regletref02_Name_9 (v0 v1 v5 : AV) (h : Heap) : Option (Ex AV) :=
cnd v1
 (ob (evBin .add v5 (AV.str [60, 62])) fun v9 =>
(regletref02_Name_7 v0 v9 h))
 ((regletref02_Name_7 v0 v5 h))

theorem regletref02_Name_9_eq (s : St) : W E 0 c_regletref02_Name_9 s (finP [.t 4]) (fun _ _ => none) (finP [.t 4]) = regletref02_Name_9 (tget s.t 0) (tget s.t 1) (tget s.t 5) s.h :=
  (W_seq (k := (fun s => regletref02_Name_7 (tget s.t 0) (tget s.t 5) s.h)) (fun s => regletref02_Name_8_eq s)).trans (by kernel_rfl)

noncomputable def regletref02_Name_10 (v0 v1 : AV) (h : Heap) : Option (Ex AV) :=
(regletref02_Name_9 v0 v1 (AV.str [97, 98, 99, 100, 101, 102, 103, 104, 105, 106, 107, 108, 109, 110, 111, 112, 113, 114, 115, 116, 117, 118, 119, 120, 121, 122, 65, 66, 67, 68, 69, 70, 71, 72, 73, 74, 75, 76, 77, 78, 79, 80, 81, 82, 83, 84, 85, 86, 87, 88, 89, 90, 48, 49, 50, 51, 52, 53, 54, 55, 56, 57, 95, 36, 47]) h)

theorem regletref02_Name_10_eq (s : St) : W E 0 c_regletref02_Name_10 s (finP [.t 4]) (fun _ _ => none) (finP [.t 4]) = regletref02_Name_10 (tget s.t 0) (tget s.t 1) s.h :=
  (W_seq (k := (fun s => regletref02_Name_9 (tget s.t 0) (tget s.t 1) (tget s.t 5) s.h)) (fun s => regletref02_Name_9_eq s)).trans (by kernel_rfl)

noncomputable def regletref02_Name_11 (v0 v1 : AV) (h : Heap) : Option (Ex AV) :=
(regletref02_Name_10 v0 v1 h)

theorem regletref02_Name_11_eq (s : St) : W E 0 c_regletref02_Name_11 s (finP [.t 4]) (fun _ _ => none) (finP [.t 4]) = regletref02_Name_11 (tget s.t 0) (tget s.t 1) s.h :=
  (W_seq (k := (fun s => regletref02_Name_10 (tget s.t 0) (tget s.t 1) s.h)) (fun s => regletref02_Name_10_eq s)).trans (by kernel_rfl)

@[simp] theorem pure_69 : E.pure 69 = true := rfl

theorem x_regletref02_Name (v0 v1 : AV) : (callW E).p 69 [v0, v1] = regletref02_Name_11 v0 v1 [] :=
  (callP_W (cf := c_regletref02_Name) (by kernel_rfl) rfl).trans ((regletref02_Name_11_eq _).trans (by kernel_rfl))

noncomputable def regletref02_Type_1 (v0 : AV) (h : Heap) : Option (Ex AV) :=
ob (evLen 0 v0 h) fun v28 =>
ob (evBin .gtr v28 (AV.int .i64 2)) fun v29 =>
gb v29 true (some v0) fun v31 =>
gb v29 true (evIxstr v31 (AV.int .i64 0)) fun v32 =>
gb v29 true (evBin .eql v32 (AV.int .u8 76)) fun v33 =>
ob (evPick v29 v33 (AV.bool false)) fun v34 =>
gb v34 true (some v0) fun v36 =>
gb v34 true (some v0) fun v37 =>
gb v34 true (evLen 0 v37 h) fun v38 =>
gb v34 true (evBin .sub v38 (AV.int .i64 1)) fun v39 =>
gb v34 true (evIxstr v36 v39) fun v40 =>
gb v34 true (evBin .eql v40 (AV.int .u8 59)) fun v41 =>
ob (evPick v34 v41 (AV.bool false)) fun v42 =>
gb v42 true (some v0) fun v44 =>
gb v42 true (some v0) fun v45 =>
gb v42 true (evLen 0 v45 h) fun v46 =>
gb v42 true (evBin .sub v46 (AV.int .i64 1)) fun v47 =>
gb v42 true (evSls v44 (some (AV.int .i64 1)) (some v47)) fun v48 =>
gh v42 true (callAny E (callW E) 0 none true 69 [v48, (AV.bool false)] h) h fun v49 h1 =>
ob (evPick v42 v49 (AV.bool false)) fun v50 =>
(expo1 h1 v50)

theorem regletref02_Type_1_eq (s : St) : W E 0 c_regletref02_Type_1 s (finP [.t 2]) (fun _ _ => none) (finP [.t 2]) = regletref02_Type_1 (tget s.t 0) s.h :=
  by kernel_rfl

noncomputable def regletref02_Type_2 (v0 : AV) (h : Heap) : Option (Ex AV) :=
ob (evBin .eql v0 (AV.str [73])) fun v22 =>
gb v22 false (some v0) fun v24 =>
gb v22 false (evBin .eql v24 (AV.str [74])) fun v25 =>
ob (evPick v22 (AV.bool true) v25) fun v26 =>
cnd v26
 ((expo1 h (AV.bool true)))
 ((regletref02_Type_1 v0 h))

theorem regletref02_Type_2_eq (s : St) : W E 0 c_regletref02_Type_2 s (finP [.t 2]) (fun _ _ => none) (finP [.t 2]) = regletref02_Type_2 (tget s.t 0) s.h :=
  (W_seq (k := (fun s => regletref02_Type_1 (tget s.t 0) s.h)) (fun s => regletref02_Type_1_eq s)).trans (by kernel_rfl)

noncomputable def regletref02_Type_3 (v0 v3 : AV) (h : Heap) : Option (Ex AV) :=
ob (evBin .gtr v3 (AV.int .i64 8)) fun v20 =>
cnd v20
 ((expo1 h (AV.bool false)))
 ((regletref02_Type_2 v0 h))

theorem regletref02_Type_3_eq (s : St) : W E 0 c_regletref02_Type_3 s (finP [.t 2]) (fun _ _ => none) (finP [.t 2]) = regletref02_Type_3 (tget s.t 0) (tget s.t 3) s.h :=
  (W_seq (k := (fun s => regletref02_Type_2 (tget s.t 0) s.h)) (fun s => regletref02_Type_2_eq s)).trans (by kernel_rfl)

noncomputable def regletref02_Type_4 (v0 v3 : AV) (h : Heap) : Option (Ex AV) :=
ob (evSls v0 (some v3) none) fun v18 =>
(regletref02_Type_3 v18 v3 h)

theorem regletref02_Type_4_eq (s : St) : W E 0 c_regletref02_Type_4 s (finP [.t 2]) (fun _ _ => none) (finP [.t 2]) = regletref02_Type_4 (tget s.t 0) (tget s.t 3) s.h :=
  (W_seq (k := (fun s => regletref02_Type_3 (tget s.t 0) (tget s.t 3) s.h)) (fun s => regletref02_Type_3_eq s)).trans (by kernel_rfl)

noncomputable def regletref02_Type_L5 (v0 v3 : AV) (h : Heap) : Option (Ex AV) :=
  W E 0 c_regletref02_Type_L5 ⟨[(0, v0), (3, v3)], h⟩ (fun s => regletref02_Type_4 (tget s.t 0) (tget s.t 3) s.h) (exitTo 0 (fun s => regletref02_Type_4 (tget s.t 0) (tget s.t 3) s.h) (fun _ _ => none)) (finP [.t 2])

theorem regletref02_Type_L5_eq (s : St) : W E 0 c_regletref02_Type_L5 s (fun s => regletref02_Type_4 (tget s.t 0) (tget s.t 3) s.h) (exitTo 0 (fun s => regletref02_Type_4 (tget s.t 0) (tget s.t 3) s.h) (fun _ _ => none)) (finP [.t 2]) = regletref02_Type_L5 (tget s.t 0) (tget s.t 3) s.h := W_loop_live.trans (by kernel_rfl)

noncomputable def regletref02_Type_6 (v0 v3 : AV) (h : Heap) : Option (Ex AV) :=
ob (evBin .add v3 (AV.int .i64 1)) fun v15 =>
(regletref02_Type_L5 v0 v15 h)

theorem regletref02_Type_6_eq (s : St) : W E 0 c_regletref02_Type_6 s (fun s => regletref02_Type_L5 (tget s.t 0) (tget s.t 3) s.h) (exitTo 0 (fun s => regletref02_Type_4 (tget s.t 0) (tget s.t 3) s.h) (fun _ _ => none)) (finP [.t 2]) = regletref02_Type_6 (tget s.t 0) (tget s.t 3) s.h :=
  by kernel_rfl

noncomputable def regletref02_Type_7 (v0 v3 : AV) (h : Heap) : Option (Ex AV) :=
ob (evLen 0 v0 h) fun v6 =>
ob (evBin .lss v3 v6) fun v7 =>
gb v7 true (some v0) fun v9 =>
gb v7 true (some v3) fun v10 =>
gb v7 true (evIxstr v9 v10) fun v11 =>
gb v7 true (evBin .eql v11 (AV.int .u8 91)) fun v12 =>
ob (evPick v7 v12 (AV.bool false)) fun v13 =>
cnd v13
 ((regletref02_Type_6 v0 v3 h))
 ((regletref02_Type_4 v0 v3 h))

theorem regletref02_Type_7_eq (s : St) : W E 0 c_regletref02_Type_7 s (fun s => regletref02_Type_L5 (tget s.t 0) (tget s.t 3) s.h) (exitTo 0 (fun s => regletref02_Type_4 (tget s.t 0) (tget s.t 3) s.h) (fun _ _ => none)) (finP [.t 2]) = regletref02_Type_7 (tget s.t 0) (tget s.t 3) s.h :=
  (W_seq (k := (fun s => regletref02_Type_6 (tget s.t 0) (tget s.t 3) s.h)) (fun s => regletref02_Type_6_eq s)).trans (by kernel_rfl)

theorem regletref02_Type_L5_go (v0 v3 : AV) (h : Heap) : regletref02_Type_L5 v0 v3 h = (regletref02_Type_7 v0 v3 h) :=
  W_loop.trans ((W_congr _ _ _ (n' := (fun s => regletref02_Type_L5 (tget s.t 0) (tget s.t 3) s.h)) (fun s => regletref02_Type_L5_eq s)).trans ((regletref02_Type_7_eq _).trans (by kernel_rfl)))

theorem regletref02_Type_8_eq (s : St) : W E 0 c_regletref02_Type_8 s (fun s => regletref02_Type_4 (tget s.t 0) (tget s.t 3) s.h) (fun _ _ => none) (finP [.t 2]) = regletref02_Type_L5 (tget s.t 0) (tget s.t 3) s.h :=
  W_block.trans (regletref02_Type_L5_eq s)

theorem regletref02_Type_9_eq (s : St) : W E 0 c_regletref02_Type_9 s (finP [.t 2]) (fun _ _ => none) (finP [.t 2]) = regletref02_Type_L5 (tget s.t 0) (tget s.t 3) s.h :=
  (W_seq (k := (fun s => regletref02_Type_4 (tget s.t 0) (tget s.t 3) s.h)) (fun s => regletref02_Type_4_eq s)).trans (regletref02_Type_8_eq s)

noncomputable def regletref02_Type_10 (v0 : AV) (h : Heap) : Option (Ex AV) :=
(regletref02_Type_L5 v0 (AV.int .i64 0) h)

theorem regletref02_Type_10_eq (s : St) : W E 0 c_regletref02_Type_10 s (finP [.t 2]) (fun _ _ => none) (finP [.t 2]) = regletref02_Type_10 (tget s.t 0) s.h :=
  (W_seq (k := (fun s => regletref02_Type_L5 (tget s.t 0) (tget s.t 3) s.h)) (fun s => regletref02_Type_9_eq s)).trans (by kernel_rfl)

noncomputable def regletref02_Type_11 (v0 : AV) (h : Heap) : Option (Ex AV) :=
(regletref02_Type_10 v0 h)

theorem regletref02_Type_11_eq (s : St) : W E 0 c_regletref02_Type_11 s (finP [.t 2]) (fun _ _ => none) (finP [.t 2]) = regletref02_Type_11 (tget s.t 0) s.h :=
  (W_seq (k := (fun s => regletref02_Type_10 (tget s.t 0) s.h)) (fun s => regletref02_Type_10_eq s)).trans (by kernel_rfl)

@[simp] theorem pure_67 : E.pure 67 = true := rfl

theorem x_regletref02_Type (v0 : AV) : (callW E).p 67 [v0] = regletref02_Type_11 v0 [] :=
  (callP_W (cf := c_regletref02_Type) (by kernel_rfl) rfl).trans ((regletref02_Type_11_eq _).trans (by kernel_rfl))

noncomputable def desc_take_1 (h : Heap) : Option (Ex AV) :=
(expo1 h (AV.int .i64 0))

theorem desc_take_1_eq (s : St) : W E 0 c_desc_take_1 s (finP [.t 2]) (fun _ _ => none) (finP [.t 2]) = desc_take_1 s.h :=
  by kernel_rfl

noncomputable def desc_take_L2 (v0 v3 v4 : AV) (h : Heap) : Option (Ex AV) :=
  W E 0 c_desc_take_L2 ⟨[(0, v0), (3, v3), (4, v4)], h⟩ (fun s => desc_take_1 s.h) (exitTo 3 (fun s => desc_take_1 s.h) (exitTo 2 (fun s => desc_take_1 s.h) (fun _ _ => none))) (finP [.t 2])

theorem desc_take_L2_eq (s : St) : W E 0 c_desc_take_L2 s (fun s => desc_take_1 s.h) (exitTo 3 (fun s => desc_take_1 s.h) (exitTo 2 (fun s => desc_take_1 s.h) (fun _ _ => none))) (finP [.t 2]) = desc_take_L2 (tget s.t 0) (tget s.t 3) (tget s.t 4) s.h := W_loop_live.trans (by kernel_rfl)

noncomputable def desc_take_3 (v0 v3 v4 : AV) (h : Heap) : Option (Ex AV) :=
ob (evBin .add v4 (AV.int .i64 1)) fun v42 =>
(desc_take_L2 v0 v3 v42 h)

theorem desc_take_3_eq (s : St) : W E 0 c_desc_take_3 s (fun s => desc_take_L2 (tget s.t 0) (tget s.t 3) (tget s.t 4) s.h) (exitTo 3 (fun s => desc_take_1 s.h) (exitTo 2 (fun s => desc_take_1 s.h) (fun _ _ => none))) (finP [.t 2]) = desc_take_3 (tget s.t 0) (tget s.t 3) (tget s.t 4) s.h :=
  by kernel_rfl

noncomputable def desc_take_4 (h : Heap) : Option (Ex AV) :=
(expo1 h (AV.int .i64 0))

theorem desc_take_4_eq (s : St) : W E 0 c_desc_take_4 s (fun s => desc_take_3 (tget s.t 0) (tget s.t 3) (tget s.t 4) s.h) (exitTo 4 (fun s => desc_take_3 (tget s.t 0) (tget s.t 3) (tget s.t 4) s.h) (exitTo 3 (fun s => desc_take_1 s.h) (exitTo 2 (fun s => desc_take_1 s.h) (fun _ _ => none)))) (finP [.t 2]) = desc_take_4 s.h :=
  by kernel_rfl

noncomputable def desc_take_5 (v0 v3 v4 : AV) (h : Heap) : Option (Ex AV) :=
ob (evBin .add v3 (AV.int .i64 1)) fun v49 =>
ob (evSls v0 (some v49) (some v4)) fun v51 =>
oh (callAny E (callW E) 0 none true 60 [v51, (AV.bool false)] h) fun v52 h1 =>
cnd v52
 (ob (evBin .add v4 (AV.int .i64 1)) fun v54 =>
(expo1 h1 v54))
 ((desc_take_4 h1))

theorem desc_take_5_eq (s : St) : W E 0 c_desc_take_5 s (fun s => desc_take_3 (tget s.t 0) (tget s.t 3) (tget s.t 4) s.h) (exitTo 4 (fun s => desc_take_3 (tget s.t 0) (tget s.t 3) (tget s.t 4) s.h) (exitTo 3 (fun s => desc_take_1 s.h) (exitTo 2 (fun s => desc_take_1 s.h) (fun _ _ => none)))) (finP [.t 2]) = desc_take_5 (tget s.t 0) (tget s.t 3) (tget s.t 4) s.h :=
  (W_seq (k := (fun s => desc_take_4 s.h)) (fun s => desc_take_4_eq s)).trans (by kernel_rfl)

noncomputable def desc_take_6 (v0 v3 v4 v46 : AV) (h : Heap) : Option (Ex AV) :=
cnd v46
 ((desc_take_5 v0 v3 v4 h))
 ((desc_take_3 v0 v3 v4 h))

theorem desc_take_6_eq (s : St) : W E 0 c_desc_take_6 s (fun s => desc_take_3 (tget s.t 0) (tget s.t 3) (tget s.t 4) s.h) (exitTo 4 (fun s => desc_take_3 (tget s.t 0) (tget s.t 3) (tget s.t 4) s.h) (exitTo 3 (fun s => desc_take_1 s.h) (exitTo 2 (fun s => desc_take_1 s.h) (fun _ _ => none)))) (finP [.t 2]) = desc_take_6 (tget s.t 0) (tget s.t 3) (tget s.t 4) (tget s.t 46) s.h :=
  (W_cond (desc_take_5_eq s) rfl).trans (by kernel_rfl)

noncomputable def desc_take_7 (v0 v3 v4 : AV) (h : Heap) : Option (Ex AV) :=
ob (evIxstr v0 v4) fun v45 =>
ob (evBin .eql v45 (AV.int .u8 59)) fun v46 =>
(desc_take_6 v0 v3 v4 v46 h)

theorem desc_take_7_eq (s : St) : W E 0 c_desc_take_7 s (fun s => desc_take_3 (tget s.t 0) (tget s.t 3) (tget s.t 4) s.h) (exitTo 4 (fun s => desc_take_3 (tget s.t 0) (tget s.t 3) (tget s.t 4) s.h) (exitTo 3 (fun s => desc_take_1 s.h) (exitTo 2 (fun s => desc_take_1 s.h) (fun _ _ => none)))) (finP [.t 2]) = desc_take_7 (tget s.t 0) (tget s.t 3) (tget s.t 4) s.h :=
  (W_seq (k := (fun s => desc_take_6 (tget s.t 0) (tget s.t 3) (tget s.t 4) (tget s.t 46) s.h)) (fun s => desc_take_6_eq s)).trans (by kernel_rfl)

theorem desc_take_8_eq (s : St) : W E 0 c_desc_take_8 s (fun s => desc_take_3 (tget s.t 0) (tget s.t 3) (tget s.t 4) s.h) (exitTo 3 (fun s => desc_take_1 s.h) (exitTo 2 (fun s => desc_take_1 s.h) (fun _ _ => none))) (finP [.t 2]) = desc_take_7 (tget s.t 0) (tget s.t 3) (tget s.t 4) s.h :=
  W_block.trans (desc_take_7_eq s)

theorem desc_take_9_eq (s : St) : W E 0 c_desc_take_9 s (fun s => desc_take_L2 (tget s.t 0) (tget s.t 3) (tget s.t 4) s.h) (exitTo 3 (fun s => desc_take_1 s.h) (exitTo 2 (fun s => desc_take_1 s.h) (fun _ _ => none))) (finP [.t 2]) = desc_take_7 (tget s.t 0) (tget s.t 3) (tget s.t 4) s.h :=
  (W_seq (k := (fun s => desc_take_3 (tget s.t 0) (tget s.t 3) (tget s.t 4) s.h)) (fun s => desc_take_3_eq s)).trans (desc_take_8_eq s)

noncomputable def desc_take_10 (v0 v3 v4 : AV) (h : Heap) : Option (Ex AV) :=
ob (evLen 0 v0 h) fun v39 =>
ob (evBin .lss v4 v39) fun v40 =>
cnd v40
 ((desc_take_7 v0 v3 v4 h))
 ((desc_take_1 h))

theorem desc_take_10_eq (s : St) : W E 0 c_desc_take_10 s (fun s => desc_take_L2 (tget s.t 0) (tget s.t 3) (tget s.t 4) s.h) (exitTo 3 (fun s => desc_take_1 s.h) (exitTo 2 (fun s => desc_take_1 s.h) (fun _ _ => none))) (finP [.t 2]) = desc_take_10 (tget s.t 0) (tget s.t 3) (tget s.t 4) s.h :=
  (W_seq (k := (fun s => desc_take_7 (tget s.t 0) (tget s.t 3) (tget s.t 4) s.h)) (fun s => desc_take_9_eq s)).trans (by kernel_rfl)

theorem desc_take_L2_go (v0 v3 v4 : AV) (h : Heap) : desc_take_L2 v0 v3 v4 h = (desc_take_10 v0 v3 v4 h) :=
  W_loop.trans ((W_congr _ _ _ (n' := (fun s => desc_take_L2 (tget s.t 0) (tget s.t 3) (tget s.t 4) s.h)) (fun s => desc_take_L2_eq s)).trans ((desc_take_10_eq _).trans (by kernel_rfl)))

theorem desc_take_11_eq (s : St) : W E 0 c_desc_take_11 s (fun s => desc_take_1 s.h) (exitTo 2 (fun s => desc_take_1 s.h) (fun _ _ => none)) (finP [.t 2]) = desc_take_L2 (tget s.t 0) (tget s.t 3) (tget s.t 4) s.h :=
  W_block.trans (desc_take_L2_eq s)

noncomputable def desc_take_12 (v0 v3 : AV) (h : Heap) : Option (Ex AV) :=
ob (evBin .add v3 (AV.int .i64 1)) fun v36 =>
(desc_take_L2 v0 v3 v36 h)

theorem desc_take_12_eq (s : St) : W E 0 c_desc_take_12 s (fun s => desc_take_1 s.h) (exitTo 2 (fun s => desc_take_1 s.h) (fun _ _ => none)) (finP [.t 2]) = desc_take_12 (tget s.t 0) (tget s.t 3) s.h :=
  (W_seq (k := (fun s => desc_take_L2 (tget s.t 0) (tget s.t 3) (tget s.t 4) s.h)) (fun s => desc_take_11_eq s)).trans (by kernel_rfl)

noncomputable def desc_take_13 (v0 v3 v33 : AV) (h : Heap) : Option (Ex AV) :=
cnd v33
 ((desc_take_12 v0 v3 h))
 ((desc_take_1 h))

theorem desc_take_13_eq (s : St) : W E 0 c_desc_take_13 s (fun s => desc_take_1 s.h) (exitTo 2 (fun s => desc_take_1 s.h) (fun _ _ => none)) (finP [.t 2]) = desc_take_13 (tget s.t 0) (tget s.t 3) (tget s.t 33) s.h :=
  (W_cond (desc_take_12_eq s) rfl).trans (by kernel_rfl)

noncomputable def desc_take_14 (v0 v3 v27 : AV) (h : Heap) : Option (Ex AV) :=
ob (evBin .eql v27 (AV.int .u8 76)) fun v34 =>
(desc_take_13 v0 v3 v34 h)

theorem desc_take_14_eq (s : St) : W E 0 c_desc_take_14 s (fun s => desc_take_1 s.h) (exitTo 2 (fun s => desc_take_1 s.h) (fun _ _ => none)) (finP [.t 2]) = desc_take_14 (tget s.t 0) (tget s.t 3) (tget s.t 27) s.h :=
  (W_seq (k := (fun s => desc_take_13 (tget s.t 0) (tget s.t 3) (tget s.t 33) s.h)) (fun s => desc_take_13_eq s)).trans (by kernel_rfl)

noncomputable def desc_take_15 (v0 v3 v27 v28 : AV) (h : Heap) : Option (Ex AV) :=
cnd v28
 (ob (evBin .add v3 (AV.int .i64 1)) fun v32 =>
(expo1 h v32))
 ((desc_take_14 v0 v3 v27 h))

theorem desc_take_15_eq (s : St) : W E 0 c_desc_take_15 s (fun s => desc_take_1 s.h) (exitTo 2 (fun s => desc_take_1 s.h) (fun _ _ => none)) (finP [.t 2]) = desc_take_15 (tget s.t 0) (tget s.t 3) (tget s.t 27) (tget s.t 28) s.h :=
  (W_cond rfl (desc_take_14_eq s)).trans (by kernel_rfl)

noncomputable def desc_take_16 (v0 v3 v27 : AV) (h : Heap) : Option (Ex AV) :=
ob (evBin .eql v27 (AV.int .u8 73)) fun v29 =>
cnd v29
 ((desc_take_15 v0 v3 v27 v29 h))
 (ob (evBin .eql v27 (AV.int .u8 74)) fun v30 =>
(desc_take_15 v0 v3 v27 v30 h))

theorem desc_take_16_eq (s : St) : W E 0 c_desc_take_16 s (fun s => desc_take_1 s.h) (exitTo 2 (fun s => desc_take_1 s.h) (fun _ _ => none)) (finP [.t 2]) = desc_take_16 (tget s.t 0) (tget s.t 3) (tget s.t 27) s.h :=
  (W_seq (k := (fun s => desc_take_15 (tget s.t 0) (tget s.t 3) (tget s.t 27) (tget s.t 28) s.h)) (fun s => desc_take_15_eq s)).trans (by kernel_rfl)

theorem desc_take_17_eq (s : St) : W E 0 c_desc_take_17 s (fun s => desc_take_1 s.h) (fun _ _ => none) (finP [.t 2]) = desc_take_16 (tget s.t 0) (tget s.t 3) (tget s.t 27) s.h :=
  W_block.trans (desc_take_16_eq s)

noncomputable def desc_take_18 (v0 v3 : AV) (h : Heap) : Option (Ex AV) :=
ob (evIxstr v0 v3) fun v27 =>
(desc_take_16 v0 v3 v27 h)

theorem desc_take_18_eq (s : St) : W E 0 c_desc_take_18 s (fun s => desc_take_1 s.h) (fun _ _ => none) (finP [.t 2]) = desc_take_18 (tget s.t 0) (tget s.t 3) s.h :=
  (W_seq (k := (fun s => desc_take_16 (tget s.t 0) (tget s.t 3) (tget s.t 27) s.h)) (fun s => desc_take_17_eq s)).trans (by kernel_rfl)

theorem desc_take_19_eq (s : St) : W E 0 c_desc_take_19 s (finP [.t 2]) (fun _ _ => none) (finP [.t 2]) = desc_take_18 (tget s.t 0) (tget s.t 3) s.h :=
  (W_seq (k := (fun s => desc_take_1 s.h)) (fun s => desc_take_1_eq s)).trans (desc_take_18_eq s)

noncomputable def desc_take_20 (v0 v3 : AV) (h : Heap) : Option (Ex AV) :=
ob (evBin .gtr v3 (AV.int .i64 8)) fun v18 =>
gb v18 false (some v3) fun v20 =>
gb v18 false (some v0) fun v21 =>
gb v18 false (evLen 0 v21 h) fun v22 =>
gb v18 false (evBin .eql v20 v22) fun v23 =>
ob (evPick v18 (AV.bool true) v23) fun v24 =>
cnd v24
 ((expo1 h (AV.int .i64 0)))
 ((desc_take_18 v0 v3 h))

theorem desc_take_20_eq (s : St) : W E 0 c_desc_take_20 s (finP [.t 2]) (fun _ _ => none) (finP [.t 2]) = desc_take_20 (tget s.t 0) (tget s.t 3) s.h :=
  (W_seq (k := (fun s => desc_take_18 (tget s.t 0) (tget s.t 3) s.h)) (fun s => desc_take_19_eq s)).trans (by kernel_rfl)

noncomputable def desc_take_L21 (v0 v3 : AV) (h : Heap) : Option (Ex AV) :=
  W E 0 c_desc_take_L21 ⟨[(0, v0), (3, v3)], h⟩ (fun s => desc_take_20 (tget s.t 0) (tget s.t 3) s.h) (exitTo 0 (fun s => desc_take_20 (tget s.t 0) (tget s.t 3) s.h) (fun _ _ => none)) (finP [.t 2])

theorem desc_take_L21_eq (s : St) : W E 0 c_desc_take_L21 s (fun s => desc_take_20 (tget s.t 0) (tget s.t 3) s.h) (exitTo 0 (fun s => desc_take_20 (tget s.t 0) (tget s.t 3) s.h) (fun _ _ => none)) (finP [.t 2]) = desc_take_L21 (tget s.t 0) (tget s.t 3) s.h := W_loop_live.trans (by kernel_rfl)

noncomputable def desc_take_22 (v0 v3 : AV) (h : Heap) : Option (Ex AV) :=
ob (evBin .add v3 (AV.int .i64 1)) fun v16 =>
(desc_take_L21 v0 v16 h)

theorem desc_take_22_eq (s : St) : W E 0 c_desc_take_22 s (fun s => desc_take_L21 (tget s.t 0) (tget s.t 3) s.h) (exitTo 0 (fun s => desc_take_20 (tget s.t 0) (tget s.t 3) s.h) (fun _ _ => none)) (finP [.t 2]) = desc_take_22 (tget s.t 0) (tget s.t 3) s.h :=
  by kernel_rfl

noncomputable def desc_take_23 (v0 v3 : AV) (h : Heap) : Option (Ex AV) :=
ob (evLen 0 v0 h) fun v7 =>
ob (evBin .lss v3 v7) fun v8 =>
gb v8 true (some v0) fun v10 =>
gb v8 true (some v3) fun v11 =>
gb v8 true (evIxstr v10 v11) fun v12 =>
gb v8 true (evBin .eql v12 (AV.int .u8 91)) fun v13 =>
ob (evPick v8 v13 (AV.bool false)) fun v14 =>
cnd v14
 ((desc_take_22 v0 v3 h))
 ((desc_take_20 v0 v3 h))

theorem desc_take_23_eq (s : St) : W E 0 c_desc_take_23 s (fun s => desc_take_L21 (tget s.t 0) (tget s.t 3) s.h) (exitTo 0 (fun s => desc_take_20 (tget s.t 0) (tget s.t 3) s.h) (fun _ _ => none)) (finP [.t 2]) = desc_take_23 (tget s.t 0) (tget s.t 3) s.h :=
  (W_seq (k := (fun s => desc_take_22 (tget s.t 0) (tget s.t 3) s.h)) (fun s => desc_take_22_eq s)).trans (by kernel_rfl)

theorem desc_take_L21_go (v0 v3 : AV) (h : Heap) : desc_take_L21 v0 v3 h = (desc_take_23 v0 v3 h) :=
  W_loop.trans ((W_congr _ _ _ (n' := (fun s => desc_take_L21 (tget s.t 0) (tget s.t 3) s.h)) (fun s => desc_take_L21_eq s)).trans ((desc_take_23_eq _).trans (by kernel_rfl)))

theorem desc_take_24_eq (s : St) : W E 0 c_desc_take_24 s (fun s => desc_take_20 (tget s.t 0) (tget s.t 3) s.h) (fun _ _ => none) (finP [.t 2]) = desc_take_L21 (tget s.t 0) (tget s.t 3) s.h :=
  W_block.trans (desc_take_L21_eq s)

theorem desc_take_25_eq (s : St) : W E 0 c_desc_take_25 s (finP [.t 2]) (fun _ _ => none) (finP [.t 2]) = desc_take_L21 (tget s.t 0) (tget s.t 3) s.h :=
  (W_seq (k := (fun s => desc_take_20 (tget s.t 0) (tget s.t 3) s.h)) (fun s => desc_take_20_eq s)).trans (desc_take_24_eq s)

noncomputable def desc_take_26 (v0 : AV) (h : Heap) : Option (Ex AV) :=
(desc_take_L21 v0 (AV.int .i64 0) h)

theorem desc_take_26_eq (s : St) : W E 0 c_desc_take_26 s (finP [.t 2]) (fun _ _ => none) (finP [.t 2]) = desc_take_26 (tget s.t 0) s.h :=
  (W_seq (k := (fun s => desc_take_L21 (tget s.t 0) (tget s.t 3) s.h)) (fun s => desc_take_25_eq s)).trans (by kernel_rfl)

noncomputable def desc_take_27 (v0 : AV) (h : Heap) : Option (Ex AV) :=
(desc_take_26 v0 h)

theorem desc_take_27_eq (s : St) : W E 0 c_desc_take_27 s (finP [.t 2]) (fun _ _ => none) (finP [.t 2]) = desc_take_27 (tget s.t 0) s.h :=
  (W_seq (k := (fun s => desc_take_26 (tget s.t 0) s.h)) (fun s => desc_take_26_eq s)).trans (by kernel_rfl)

@[simp] theorem pure_44 : E.pure 44 = true := rfl

theorem x_desc_take (v0 : AV) : (callW E).p 44 [v0] = desc_take_27 v0 [] :=
  (callP_W (cf := c_desc_take) (by kernel_rfl) rfl).trans ((desc_take_27_eq _).trans (by kernel_rfl))

noncomputable def slices_Index_int_int_1 (h : Heap) : Option (Ex AV) :=
(expo1 h (AV.int .i64 (-1)))

theorem slices_Index_int_int_1_eq (s : St) : W E 0 c_slices_Index_int_int_1 s (finP [.t 4]) (fun _ _ => none) (finP [.t 4]) = slices_Index_int_int_1 s.h :=
  by kernel_rfl

noncomputable def slices_Index_int_int_L2 (v0 v1 v7 v8 : AV) (h : Heap) : Option (Ex AV) :=
  W E 0 c_slices_Index_int_int_L2 ⟨[(0, v0), (1, v1), (7, v7), (8, v8)], h⟩ (fun s => slices_Index_int_int_1 s.h) (exitTo 0 (fun s => slices_Index_int_int_1 s.h) (fun _ _ => none)) (finP [.t 4])

theorem slices_Index_int_int_L2_eq (s : St) : W E 0 c_slices_Index_int_int_L2 s (fun s => slices_Index_int_int_1 s.h) (exitTo 0 (fun s => slices_Index_int_int_1 s.h) (fun _ _ => none)) (finP [.t 4]) = slices_Index_int_int_L2 (tget s.t 0) (tget s.t 1) (tget s.t 7) (tget s.t 8) s.h := W_loop_live.trans (by kernel_rfl)

noncomputable def slices_Index_int_int_3 (v0 v1 v7 v8 : AV) (h : Heap) : Option (Ex AV) :=
ob (evBin .add v8 (AV.int .i64 1)) fun v18 =>
(slices_Index_int_int_L2 v0 v1 v7 v18 h)

theorem slices_Index_int_int_3_eq (s : St) : W E 0 c_slices_Index_int_int_3 s (fun s => slices_Index_int_int_L2 (tget s.t 0) (tget s.t 1) (tget s.t 7) (tget s.t 8) s.h) (exitTo 0 (fun s => slices_Index_int_int_1 s.h) (fun _ _ => none)) (finP [.t 4]) = slices_Index_int_int_3 (tget s.t 0) (tget s.t 1) (tget s.t 7) (tget s.t 8) s.h :=
  by kernel_rfl

noncomputable def slices_Index_int_int_4 (v0 v1 v7 v8 : AV) (h : Heap) : Option (Ex AV) :=
ob (evIxs 1 v0 v8) fun v14 =>
ob (evLd false 1 v14 h) fun v15 =>
ob (evBin .eql v1 v15) fun v16 =>
cnd v16
 ((expo1 h v8))
 ((slices_Index_int_int_3 v0 v1 v7 v8 h))

theorem slices_Index_int_int_4_eq (s : St) : W E 0 c_slices_Index_int_int_4 s (fun s => slices_Index_int_int_L2 (tget s.t 0) (tget s.t 1) (tget s.t 7) (tget s.t 8) s.h) (exitTo 0 (fun s => slices_Index_int_int_1 s.h) (fun _ _ => none)) (finP [.t 4]) = slices_Index_int_int_4 (tget s.t 0) (tget s.t 1) (tget s.t 7) (tget s.t 8) s.h :=
  (W_seq (k := (fun s => slices_Index_int_int_3 (tget s.t 0) (tget s.t 1) (tget s.t 7) (tget s.t 8) s.h)) (fun s => slices_Index_int_int_3_eq s)).trans (by kernel_rfl)

noncomputable def slices_Index_int_int_5 (v0 v1 v7 v8 v9 : AV) (h : Heap) : Option (Ex AV) :=
cnd v9
 ((slices_Index_int_int_4 v0 v1 v7 v8 h))
 ((slices_Index_int_int_1 h))

theorem slices_Index_int_int_5_eq (s : St) : W E 0 c_slices_Index_int_int_5 s (fun s => slices_Index_int_int_L2 (tget s.t 0) (tget s.t 1) (tget s.t 7) (tget s.t 8) s.h) (exitTo 0 (fun s => slices_Index_int_int_1 s.h) (fun _ _ => none)) (finP [.t 4]) = slices_Index_int_int_5 (tget s.t 0) (tget s.t 1) (tget s.t 7) (tget s.t 8) (tget s.t 9) s.h :=
  (W_seq (k := (fun s => slices_Index_int_int_4 (tget s.t 0) (tget s.t 1) (tget s.t 7) (tget s.t 8) s.h)) (fun s => slices_Index_int_int_4_eq s)).trans (by kernel_rfl)

noncomputable def slices_Index_int_int_6 (v0 v1 v7 v8 : AV) (h : Heap) : Option (Ex AV) :=
ob (evBin .lss v8 v7) fun v9 =>
(slices_Index_int_int_5 v0 v1 v7 v8 v9 h)

theorem slices_Index_int_int_6_eq (s : St) : W E 0 c_slices_Index_int_int_6 s (fun s => slices_Index_int_int_L2 (tget s.t 0) (tget s.t 1) (tget s.t 7) (tget s.t 8) s.h) (exitTo 0 (fun s => slices_Index_int_int_1 s.h) (fun _ _ => none)) (finP [.t 4]) = slices_Index_int_int_6 (tget s.t 0) (tget s.t 1) (tget s.t 7) (tget s.t 8) s.h :=
  (W_seq (k := (fun s => slices_Index_int_int_5 (tget s.t 0) (tget s.t 1) (tget s.t 7) (tget s.t 8) (tget s.t 9) s.h)) (fun s => slices_Index_int_int_5_eq s)).trans (by kernel_rfl)

theorem slices_Index_int_int_L2_go (v0 v1 v7 v8 : AV) (h : Heap) : slices_Index_int_int_L2 v0 v1 v7 v8 h = (slices_Index_int_int_6 v0 v1 v7 v8 h) :=
  W_loop.trans ((W_congr _ _ _ (n' := (fun s => slices_Index_int_int_L2 (tget s.t 0) (tget s.t 1) (tget s.t 7) (tget s.t 8) s.h)) (fun s => slices_Index_int_int_L2_eq s)).trans ((slices_Index_int_int_6_eq _).trans (by kernel_rfl)))

theorem slices_Index_int_int_7_eq (s : St) : W E 0 c_slices_Index_int_int_7 s (fun s => slices_Index_int_int_1 s.h) (fun _ _ => none) (finP [.t 4]) = slices_Index_int_int_L2 (tget s.t 0) (tget s.t 1) (tget s.t 7) (tget s.t 8) s.h :=
  W_block.trans (slices_Index_int_int_L2_eq s)

noncomputable def slices_Index_int_int_8 (v0 v1 : AV) (h : Heap) : Option (Ex AV) :=
ob (evLen 1 v0 h) fun v7 =>
(slices_Index_int_int_L2 v0 v1 v7 (AV.int .i64 0) h)

theorem slices_Index_int_int_8_eq (s : St) : W E 0 c_slices_Index_int_int_8 s (fun s => slices_Index_int_int_1 s.h) (fun _ _ => none) (finP [.t 4]) = slices_Index_int_int_8 (tget s.t 0) (tget s.t 1) s.h :=
  (W_seq (k := (fun s => slices_Index_int_int_L2 (tget s.t 0) (tget s.t 1) (tget s.t 7) (tget s.t 8) s.h)) (fun s => slices_Index_int_int_7_eq s)).trans (by kernel_rfl)

theorem slices_Index_int_int_9_eq (s : St) : W E 0 c_slices_Index_int_int_9 s (finP [.t 4]) (fun _ _ => none) (finP [.t 4]) = slices_Index_int_int_8 (tget s.t 0) (tget s.t 1) s.h :=
  (W_seq (k := (fun s => slices_Index_int_int_1 s.h)) (fun s => slices_Index_int_int_1_eq s)).trans (slices_Index_int_int_8_eq s)

noncomputable def slices_Index_int_int_10 (v0 v1 : AV) (h : Heap) : Option (Ex AV) :=
(slices_Index_int_int_8 v0 v1 h)

theorem slices_Index_int_int_10_eq (s : St) : W E 0 c_slices_Index_int_int_10 s (finP [.t 4]) (fun _ _ => none) (finP [.t 4]) = slices_Index_int_int_10 (tget s.t 0) (tget s.t 1) s.h :=
  (W_seq (k := (fun s => slices_Index_int_int_8 (tget s.t 0) (tget s.t 1) s.h)) (fun s => slices_Index_int_int_9_eq s)).trans (by kernel_rfl)

@[simp] theorem pure_45 : E.pure 45 = true := rfl

theorem x_slices_Index_int_int (v0 v1 : AV) : (callW E).p 45 [v0, v1] = slices_Index_int_int_10 v0 v1 [] :=
  (callP_W (cf := c_slices_Index_int_int) (by kernel_rfl) rfl).trans ((slices_Index_int_int_10_eq _).trans (by kernel_rfl))

noncomputable def ins_kinds_1 (v1 v2 : AV) (h : Heap) : Option (Ex AV) :=
ob (evLd true 9 v1 h) fun v138 =>
oh (callAny E (callW E) 0 none true 51 [v138] h) fun v139 h1 =>
ob (evExt 0 v139) fun v140 =>
ob (evExt 1 v139) fun v141 =>
oh (evSt 4 v2 v140 h1) fun _ h2 =>
(ob (evLd true 4 v2 h2) fun r0 =>
  expo1 h2 (.tup [r0, v141]))

theorem ins_kinds_1_eq (s : St) : W E 0 c_ins_kinds_1 s (finP [.cell 2 true 4, .t 3]) (fun _ _ => none) (finP [.cell 2 true 4, .t 3]) = ins_kinds_1 (tget s.t 1) (tget s.t 2) s.h :=
  by kernel_rfl

noncomputable def ins_kinds_2 (v1 v2 v134 : AV) (h : Heap) : Option (Ex AV) :=
cnd v134
 (ob (evBuild [(.int .i64 0), (.int .i64 0), (.int .i64 0), (.int .i64 0)] [(0, 1, (AV.int .i64 (-1))), (1, 1, (AV.int .i64 (-1))), (2, 1, (AV.int .i64 (-1))), (3, 1, (AV.int .i64 (-1)))]) fun v137 =>
oh (evSt 4 v2 v137 h) fun _ h3 =>
(ob (evLd true 4 v2 h3) fun r0 =>
  expo1 h3 (.tup [r0, (AV.bool true)])))
 ((ins_kinds_1 v1 v2 h))

theorem ins_kinds_2_eq (s : St) : W E 0 c_ins_kinds_2 s (fun s => ins_kinds_1 (tget s.t 1) (tget s.t 2) s.h) (exitTo 0 (fun s => ins_kinds_1 (tget s.t 1) (tget s.t 2) s.h) (fun _ _ => none)) (finP [.cell 2 true 4, .t 3]) = ins_kinds_2 (tget s.t 1) (tget s.t 2) (tget s.t 134) s.h :=
  by kernel_rfl

noncomputable def ins_kinds_3 (v1 v2 v11 : AV) (h : Heap) : Option (Ex AV) :=
ob (evBin .eql v11 (AV.int .i64 27)) fun v135 =>
cnd v135
 ((ins_kinds_2 v1 v2 v135 h))
 (ob (evBin .eql v11 (AV.int .i64 33)) fun v136 =>
(ins_kinds_2 v1 v2 v136 h))

theorem ins_kinds_3_eq (s : St) : W E 0 c_ins_kinds_3 s (fun s => ins_kinds_1 (tget s.t 1) (tget s.t 2) s.h) (exitTo 0 (fun s => ins_kinds_1 (tget s.t 1) (tget s.t 2) s.h) (fun _ _ => none)) (finP [.cell 2 true 4, .t 3]) = ins_kinds_3 (tget s.t 1) (tget s.t 2) (tget s.t 11) s.h :=
  (W_seq (k := (fun s => ins_kinds_2 (tget s.t 1) (tget s.t 2) (tget s.t 134) s.h)) (fun s => ins_kinds_2_eq s)).trans (by kernel_rfl)

noncomputable def ins_kinds_4 (v1 v2 v11 v123 : AV) (h : Heap) : Option (Ex AV) :=
cnd v123
 (ob (evBuild [(.int .i64 0), (.int .i64 0), (.int .i64 0), (.int .i64 0)] [(0, 1, (AV.int .i64 (-1))), (1, 1, (AV.int .i64 1)), (2, 1, (AV.int .i64 1)), (3, 1, (AV.int .i64 (-1)))]) fun v125 =>
ob (evFa 5 v1) fun v126 =>
ob (evLd false 1 v126 h) fun v127 =>
ob (evBin .geq v127 (AV.int .i64 0)) fun v128 =>
ofp (fgd v128 true (some ([], []))) fun f5 =>
gb v128 true (evFa 5 v1) fun v130 =>
ofp (fgd v128 true (some (ids1 v130, []))) fun f6 =>
gb v128 true (evLd false 1 v130 h) fun v131 =>
ofp (fgd v128 true (some ([], []))) fun f7 =>
gb v128 true (evBin .leq v131 (AV.int .i64 5)) fun v132 =>
ob (evPick v128 v132 (AV.bool false)) fun v133 =>
oh (evSt 4 v2 v125 h) fun _ h4 =>
okK (pairsOk [([], []), ([], []), (ids1 v126, []), ([], []), ([], []), f5, f6, f7, ([], []), ([], ids1 v2), ([], [])] [(6, 9)]) <|
(ob (evLd true 4 v2 h4) fun r0 =>
  expo1 h4 (.tup [r0, v133])))
 ((ins_kinds_3 v1 v2 v11 h))

theorem ins_kinds_4_eq (s : St) : W E 0 c_ins_kinds_4 s (fun s => ins_kinds_1 (tget s.t 1) (tget s.t 2) s.h) (exitTo 0 (fun s => ins_kinds_1 (tget s.t 1) (tget s.t 2) s.h) (fun _ _ => none)) (finP [.cell 2 true 4, .t 3]) = ins_kinds_4 (tget s.t 1) (tget s.t 2) (tget s.t 11) (tget s.t 123) s.h :=
  (W_cond rfl (ins_kinds_3_eq s)).trans (by kernel_rfl)

noncomputable def ins_kinds_5 (v1 v2 v11 : AV) (h : Heap) : Option (Ex AV) :=
ob (evBin .eql v11 (AV.int .i64 28)) fun v124 =>
(ins_kinds_4 v1 v2 v11 v124 h)

theorem ins_kinds_5_eq (s : St) : W E 0 c_ins_kinds_5 s (fun s => ins_kinds_1 (tget s.t 1) (tget s.t 2) s.h) (exitTo 0 (fun s => ins_kinds_1 (tget s.t 1) (tget s.t 2) s.h) (fun _ _ => none)) (finP [.cell 2 true 4, .t 3]) = ins_kinds_5 (tget s.t 1) (tget s.t 2) (tget s.t 11) s.h :=
  (W_seq (k := (fun s => ins_kinds_4 (tget s.t 1) (tget s.t 2) (tget s.t 11) (tget s.t 123) s.h)) (fun s => ins_kinds_4_eq s)).trans (by kernel_rfl)

noncomputable def ins_kinds_6 (v1 v2 v11 v117 : AV) (h : Heap) : Option (Ex AV) :=
cnd v117
 (ob (evBuild [(.int .i64 0), (.int .i64 0), (.int .i64 0), (.int .i64 0)] [(0, 1, (AV.int .i64 3)), (1, 1, (AV.int .i64 1)), (2, 1, (AV.int .i64 (-1))), (3, 1, (AV.int .i64 (-1)))]) fun v119 =>
ob (evFa 7 v1) fun v120 =>
ob (evLd false 1 v120 h) fun v121 =>
oh (callAny E (callW E) 0 none true 37 [v121] h) fun v122 h5 =>
oh (evSt 4 v2 v119 h5) fun _ h6 =>
(ob (evLd true 4 v2 h6) fun r0 =>
  expo1 h6 (.tup [r0, v122])))
 ((ins_kinds_5 v1 v2 v11 h))

theorem ins_kinds_6_eq (s : St) : W E 0 c_ins_kinds_6 s (fun s => ins_kinds_1 (tget s.t 1) (tget s.t 2) s.h) (exitTo 0 (fun s => ins_kinds_1 (tget s.t 1) (tget s.t 2) s.h) (fun _ _ => none)) (finP [.cell 2 true 4, .t 3]) = ins_kinds_6 (tget s.t 1) (tget s.t 2) (tget s.t 11) (tget s.t 117) s.h :=
  (W_cond rfl (ins_kinds_5_eq s)).trans (by kernel_rfl)

noncomputable def ins_kinds_7 (v1 v2 v11 : AV) (h : Heap) : Option (Ex AV) :=
ob (evBin .eql v11 (AV.int .i64 21)) fun v118 =>
(ins_kinds_6 v1 v2 v11 v118 h)

theorem ins_kinds_7_eq (s : St) : W E 0 c_ins_kinds_7 s (fun s => ins_kinds_1 (tget s.t 1) (tget s.t 2) s.h) (exitTo 0 (fun s => ins_kinds_1 (tget s.t 1) (tget s.t 2) s.h) (fun _ _ => none)) (finP [.cell 2 true 4, .t 3]) = ins_kinds_7 (tget s.t 1) (tget s.t 2) (tget s.t 11) s.h :=
  (W_seq (k := (fun s => ins_kinds_6 (tget s.t 1) (tget s.t 2) (tget s.t 11) (tget s.t 117) s.h)) (fun s => ins_kinds_6_eq s)).trans (by kernel_rfl)

noncomputable def ins_kinds_8 (v1 v2 v11 v114 : AV) (h : Heap) : Option (Ex AV) :=
cnd v114
 (ob (evBuild [(.int .i64 0), (.int .i64 0), (.int .i64 0), (.int .i64 0)] [(0, 1, (AV.int .i64 (-1))), (1, 1, (AV.int .i64 0)), (2, 1, (AV.int .i64 (-1))), (3, 1, (AV.int .i64 (-1)))]) fun v116 =>
oh (evSt 4 v2 v116 h) fun _ h7 =>
(ob (evLd true 4 v2 h7) fun r0 =>
  expo1 h7 (.tup [r0, (AV.bool true)])))
 ((ins_kinds_7 v1 v2 v11 h))

theorem ins_kinds_8_eq (s : St) : W E 0 c_ins_kinds_8 s (fun s => ins_kinds_1 (tget s.t 1) (tget s.t 2) s.h) (exitTo 0 (fun s => ins_kinds_1 (tget s.t 1) (tget s.t 2) s.h) (fun _ _ => none)) (finP [.cell 2 true 4, .t 3]) = ins_kinds_8 (tget s.t 1) (tget s.t 2) (tget s.t 11) (tget s.t 114) s.h :=
  (W_cond rfl (ins_kinds_7_eq s)).trans (by kernel_rfl)

noncomputable def ins_kinds_9 (v1 v2 v11 : AV) (h : Heap) : Option (Ex AV) :=
ob (evBin .eql v11 (AV.int .i64 19)) fun v115 =>
(ins_kinds_8 v1 v2 v11 v115 h)

theorem ins_kinds_9_eq (s : St) : W E 0 c_ins_kinds_9 s (fun s => ins_kinds_1 (tget s.t 1) (tget s.t 2) s.h) (exitTo 0 (fun s => ins_kinds_1 (tget s.t 1) (tget s.t 2) s.h) (fun _ _ => none)) (finP [.cell 2 true 4, .t 3]) = ins_kinds_9 (tget s.t 1) (tget s.t 2) (tget s.t 11) s.h :=
  (W_seq (k := (fun s => ins_kinds_8 (tget s.t 1) (tget s.t 2) (tget s.t 11) (tget s.t 114) s.h)) (fun s => ins_kinds_8_eq s)).trans (by kernel_rfl)

noncomputable def ins_kinds_10 (v1 v2 v11 v108 : AV) (h : Heap) : Option (Ex AV) :=
cnd v108
 (ob (evBuild [(.int .i64 0), (.int .i64 0), (.int .i64 0), (.int .i64 0)] [(0, 1, (AV.int .i64 (-1))), (1, 1, (AV.int .i64 3)), (2, 1, (AV.int .i64 0)), (3, 1, (AV.int .i64 (-1)))]) fun v110 =>
ob (evFa 5 v1) fun v111 =>
ob (evLd false 1 v111 h) fun v112 =>
ob (evBin .geq v112 (AV.int .i64 0)) fun v113 =>
oh (evSt 4 v2 v110 h) fun _ h8 =>
okK (pairsOk [([], []), ([], []), (ids1 v111, []), ([], []), ([], ids1 v2), ([], [])] [(2, 4)]) <|
(ob (evLd true 4 v2 h8) fun r0 =>
  expo1 h8 (.tup [r0, v113])))
 ((ins_kinds_9 v1 v2 v11 h))

theorem ins_kinds_10_eq (s : St) : W E 0 c_ins_kinds_10 s (fun s => ins_kinds_1 (tget s.t 1) (tget s.t 2) s.h) (exitTo 0 (fun s => ins_kinds_1 (tget s.t 1) (tget s.t 2) s.h) (fun _ _ => none)) (finP [.cell 2 true 4, .t 3]) = ins_kinds_10 (tget s.t 1) (tget s.t 2) (tget s.t 11) (tget s.t 108) s.h :=
  (W_cond rfl (ins_kinds_9_eq s)).trans (by kernel_rfl)

noncomputable def ins_kinds_11 (v1 v2 v11 : AV) (h : Heap) : Option (Ex AV) :=
ob (evBin .eql v11 (AV.int .i64 17)) fun v109 =>
(ins_kinds_10 v1 v2 v11 v109 h)

theorem ins_kinds_11_eq (s : St) : W E 0 c_ins_kinds_11 s (fun s => ins_kinds_1 (tget s.t 1) (tget s.t 2) s.h) (exitTo 0 (fun s => ins_kinds_1 (tget s.t 1) (tget s.t 2) s.h) (fun _ _ => none)) (finP [.cell 2 true 4, .t 3]) = ins_kinds_11 (tget s.t 1) (tget s.t 2) (tget s.t 11) s.h :=
  (W_seq (k := (fun s => ins_kinds_10 (tget s.t 1) (tget s.t 2) (tget s.t 11) (tget s.t 108) s.h)) (fun s => ins_kinds_10_eq s)).trans (by kernel_rfl)

noncomputable def ins_kinds_12 (v1 v2 v11 v102 : AV) (h : Heap) : Option (Ex AV) :=
cnd v102
 (ob (evBuild [(.int .i64 0), (.int .i64 0), (.int .i64 0), (.int .i64 0)] [(0, 1, (AV.int .i64 0)), (1, 1, (AV.int .i64 3)), (2, 1, (AV.int .i64 (-1))), (3, 1, (AV.int .i64 (-1)))]) fun v104 =>
ob (evFa 5 v1) fun v105 =>
ob (evLd false 1 v105 h) fun v106 =>
ob (evBin .geq v106 (AV.int .i64 0)) fun v107 =>
oh (evSt 4 v2 v104 h) fun _ h9 =>
okK (pairsOk [([], []), ([], []), (ids1 v105, []), ([], []), ([], ids1 v2), ([], [])] [(2, 4)]) <|
(ob (evLd true 4 v2 h9) fun r0 =>
  expo1 h9 (.tup [r0, v107])))
 ((ins_kinds_11 v1 v2 v11 h))

theorem ins_kinds_12_eq (s : St) : W E 0 c_ins_kinds_12 s (fun s => ins_kinds_1 (tget s.t 1) (tget s.t 2) s.h) (exitTo 0 (fun s => ins_kinds_1 (tget s.t 1) (tget s.t 2) s.h) (fun _ _ => none)) (finP [.cell 2 true 4, .t 3]) = ins_kinds_12 (tget s.t 1) (tget s.t 2) (tget s.t 11) (tget s.t 102) s.h :=
  (W_cond rfl (ins_kinds_11_eq s)).trans (by kernel_rfl)

noncomputable def ins_kinds_13 (v1 v2 v11 : AV) (h : Heap) : Option (Ex AV) :=
ob (evBin .eql v11 (AV.int .i64 16)) fun v103 =>
(ins_kinds_12 v1 v2 v11 v103 h)

theorem ins_kinds_13_eq (s : St) : W E 0 c_ins_kinds_13 s (fun s => ins_kinds_1 (tget s.t 1) (tget s.t 2) s.h) (exitTo 0 (fun s => ins_kinds_1 (tget s.t 1) (tget s.t 2) s.h) (fun _ _ => none)) (finP [.cell 2 true 4, .t 3]) = ins_kinds_13 (tget s.t 1) (tget s.t 2) (tget s.t 11) s.h :=
  (W_seq (k := (fun s => ins_kinds_12 (tget s.t 1) (tget s.t 2) (tget s.t 11) (tget s.t 102) s.h)) (fun s => ins_kinds_12_eq s)).trans (by kernel_rfl)

noncomputable def ins_kinds_14 (v1 v2 v11 v99 : AV) (h : Heap) : Option (Ex AV) :=
cnd v99
 (ob (evBuild [(.int .i64 0), (.int .i64 0), (.int .i64 0), (.int .i64 0)] [(0, 1, (AV.int .i64 1)), (1, 1, (AV.int .i64 3)), (2, 1, (AV.int .i64 (-1))), (3, 1, (AV.int .i64 (-1)))]) fun v101 =>
oh (evSt 4 v2 v101 h) fun _ h10 =>
(ob (evLd true 4 v2 h10) fun r0 =>
  expo1 h10 (.tup [r0, (AV.bool true)])))
 ((ins_kinds_13 v1 v2 v11 h))

theorem ins_kinds_14_eq (s : St) : W E 0 c_ins_kinds_14 s (fun s => ins_kinds_1 (tget s.t 1) (tget s.t 2) s.h) (exitTo 0 (fun s => ins_kinds_1 (tget s.t 1) (tget s.t 2) s.h) (fun _ _ => none)) (finP [.cell 2 true 4, .t 3]) = ins_kinds_14 (tget s.t 1) (tget s.t 2) (tget s.t 11) (tget s.t 99) s.h :=
  (W_cond rfl (ins_kinds_13_eq s)).trans (by kernel_rfl)

noncomputable def ins_kinds_15 (v1 v2 v11 : AV) (h : Heap) : Option (Ex AV) :=
ob (evBin .eql v11 (AV.int .i64 15)) fun v100 =>
(ins_kinds_14 v1 v2 v11 v100 h)

theorem ins_kinds_15_eq (s : St) : W E 0 c_ins_kinds_15 s (fun s => ins_kinds_1 (tget s.t 1) (tget s.t 2) s.h) (exitTo 0 (fun s => ins_kinds_1 (tget s.t 1) (tget s.t 2) s.h) (fun _ _ => none)) (finP [.cell 2 true 4, .t 3]) = ins_kinds_15 (tget s.t 1) (tget s.t 2) (tget s.t 11) s.h :=
  (W_seq (k := (fun s => ins_kinds_14 (tget s.t 1) (tget s.t 2) (tget s.t 11) (tget s.t 99) s.h)) (fun s => ins_kinds_14_eq s)).trans (by kernel_rfl)

noncomputable def ins_kinds_16 (v1 v2 v11 v96 : AV) (h : Heap) : Option (Ex AV) :=
cnd v96
 (ob (evBuild [(.int .i64 0), (.int .i64 0), (.int .i64 0), (.int .i64 0)] [(0, 1, (AV.int .i64 (-1))), (1, 1, (AV.int .i64 3)), (2, 1, (AV.int .i64 1)), (3, 1, (AV.int .i64 0))]) fun v98 =>
oh (evSt 4 v2 v98 h) fun _ h11 =>
(ob (evLd true 4 v2 h11) fun r0 =>
  expo1 h11 (.tup [r0, (AV.bool true)])))
 ((ins_kinds_15 v1 v2 v11 h))

theorem ins_kinds_16_eq (s : St) : W E 0 c_ins_kinds_16 s (fun s => ins_kinds_1 (tget s.t 1) (tget s.t 2) s.h) (exitTo 0 (fun s => ins_kinds_1 (tget s.t 1) (tget s.t 2) s.h) (fun _ _ => none)) (finP [.cell 2 true 4, .t 3]) = ins_kinds_16 (tget s.t 1) (tget s.t 2) (tget s.t 11) (tget s.t 96) s.h :=
  (W_cond rfl (ins_kinds_15_eq s)).trans (by kernel_rfl)

noncomputable def ins_kinds_17 (v1 v2 v11 : AV) (h : Heap) : Option (Ex AV) :=
ob (evBin .eql v11 (AV.int .i64 14)) fun v97 =>
(ins_kinds_16 v1 v2 v11 v97 h)

theorem ins_kinds_17_eq (s : St) : W E 0 c_ins_kinds_17 s (fun s => ins_kinds_1 (tget s.t 1) (tget s.t 2) s.h) (exitTo 0 (fun s => ins_kinds_1 (tget s.t 1) (tget s.t 2) s.h) (fun _ _ => none)) (finP [.cell 2 true 4, .t 3]) = ins_kinds_17 (tget s.t 1) (tget s.t 2) (tget s.t 11) s.h :=
  (W_seq (k := (fun s => ins_kinds_16 (tget s.t 1) (tget s.t 2) (tget s.t 11) (tget s.t 96) s.h)) (fun s => ins_kinds_16_eq s)).trans (by kernel_rfl)

noncomputable def ins_kinds_18 (v1 v2 v11 v93 : AV) (h : Heap) : Option (Ex AV) :=
cnd v93
 (ob (evBuild [(.int .i64 0), (.int .i64 0), (.int .i64 0), (.int .i64 0)] [(0, 1, (AV.int .i64 0)), (1, 1, (AV.int .i64 3)), (2, 1, (AV.int .i64 1)), (3, 1, (AV.int .i64 (-1)))]) fun v95 =>
oh (evSt 4 v2 v95 h) fun _ h12 =>
(ob (evLd true 4 v2 h12) fun r0 =>
  expo1 h12 (.tup [r0, (AV.bool true)])))
 ((ins_kinds_17 v1 v2 v11 h))

theorem ins_kinds_18_eq (s : St) : W E 0 c_ins_kinds_18 s (fun s => ins_kinds_1 (tget s.t 1) (tget s.t 2) s.h) (exitTo 0 (fun s => ins_kinds_1 (tget s.t 1) (tget s.t 2) s.h) (fun _ _ => none)) (finP [.cell 2 true 4, .t 3]) = ins_kinds_18 (tget s.t 1) (tget s.t 2) (tget s.t 11) (tget s.t 93) s.h :=
  (W_cond rfl (ins_kinds_17_eq s)).trans (by kernel_rfl)

noncomputable def ins_kinds_19 (v1 v2 v11 : AV) (h : Heap) : Option (Ex AV) :=
ob (evBin .eql v11 (AV.int .i64 13)) fun v94 =>
(ins_kinds_18 v1 v2 v11 v94 h)

theorem ins_kinds_19_eq (s : St) : W E 0 c_ins_kinds_19 s (fun s => ins_kinds_1 (tget s.t 1) (tget s.t 2) s.h) (exitTo 0 (fun s => ins_kinds_1 (tget s.t 1) (tget s.t 2) s.h) (fun _ _ => none)) (finP [.cell 2 true 4, .t 3]) = ins_kinds_19 (tget s.t 1) (tget s.t 2) (tget s.t 11) s.h :=
  (W_seq (k := (fun s => ins_kinds_18 (tget s.t 1) (tget s.t 2) (tget s.t 11) (tget s.t 93) s.h)) (fun s => ins_kinds_18_eq s)).trans (by kernel_rfl)

noncomputable def ins_kinds_20 (v1 v2 v11 v90 : AV) (h : Heap) : Option (Ex AV) :=
cnd v90
 (ob (evBuild [(.int .i64 0), (.int .i64 0), (.int .i64 0), (.int .i64 0)] [(0, 1, (AV.int .i64 (-1))), (1, 1, (AV.int .i64 3)), (2, 1, (AV.int .i64 3)), (3, 1, (AV.int .i64 (-1)))]) fun v92 =>
oh (evSt 4 v2 v92 h) fun _ h13 =>
(ob (evLd true 4 v2 h13) fun r0 =>
  expo1 h13 (.tup [r0, (AV.bool true)])))
 ((ins_kinds_19 v1 v2 v11 h))

theorem ins_kinds_20_eq (s : St) : W E 0 c_ins_kinds_20 s (fun s => ins_kinds_1 (tget s.t 1) (tget s.t 2) s.h) (exitTo 0 (fun s => ins_kinds_1 (tget s.t 1) (tget s.t 2) s.h) (fun _ _ => none)) (finP [.cell 2 true 4, .t 3]) = ins_kinds_20 (tget s.t 1) (tget s.t 2) (tget s.t 11) (tget s.t 90) s.h :=
  (W_cond rfl (ins_kinds_19_eq s)).trans (by kernel_rfl)

noncomputable def ins_kinds_21 (v1 v2 v11 : AV) (h : Heap) : Option (Ex AV) :=
ob (evBin .eql v11 (AV.int .i64 11)) fun v91 =>
(ins_kinds_20 v1 v2 v11 v91 h)

theorem ins_kinds_21_eq (s : St) : W E 0 c_ins_kinds_21 s (fun s => ins_kinds_1 (tget s.t 1) (tget s.t 2) s.h) (exitTo 0 (fun s => ins_kinds_1 (tget s.t 1) (tget s.t 2) s.h) (fun _ _ => none)) (finP [.cell 2 true 4, .t 3]) = ins_kinds_21 (tget s.t 1) (tget s.t 2) (tget s.t 11) s.h :=
  (W_seq (k := (fun s => ins_kinds_20 (tget s.t 1) (tget s.t 2) (tget s.t 11) (tget s.t 90) s.h)) (fun s => ins_kinds_20_eq s)).trans (by kernel_rfl)

noncomputable def ins_kinds_22 (v1 v2 v11 v87 : AV) (h : Heap) : Option (Ex AV) :=
cnd v87
 (ob (evBuild [(.int .i64 0), (.int .i64 0), (.int .i64 0), (.int .i64 0)] [(0, 1, (AV.int .i64 (-1))), (1, 1, (AV.int .i64 1)), (2, 1, (AV.int .i64 (-1))), (3, 1, (AV.int .i64 (-1)))]) fun v89 =>
oh (evSt 4 v2 v89 h) fun _ h14 =>
(ob (evLd true 4 v2 h14) fun r0 =>
  expo1 h14 (.tup [r0, (AV.bool true)])))
 ((ins_kinds_21 v1 v2 v11 h))

theorem ins_kinds_22_eq (s : St) : W E 0 c_ins_kinds_22 s (fun s => ins_kinds_1 (tget s.t 1) (tget s.t 2) s.h) (exitTo 0 (fun s => ins_kinds_1 (tget s.t 1) (tget s.t 2) s.h) (fun _ _ => none)) (finP [.cell 2 true 4, .t 3]) = ins_kinds_22 (tget s.t 1) (tget s.t 2) (tget s.t 11) (tget s.t 87) s.h :=
  (W_cond rfl (ins_kinds_21_eq s)).trans (by kernel_rfl)

noncomputable def ins_kinds_23 (v1 v2 v11 : AV) (h : Heap) : Option (Ex AV) :=
ob (evBin .eql v11 (AV.int .i64 10)) fun v88 =>
(ins_kinds_22 v1 v2 v11 v88 h)

theorem ins_kinds_23_eq (s : St) : W E 0 c_ins_kinds_23 s (fun s => ins_kinds_1 (tget s.t 1) (tget s.t 2) s.h) (exitTo 0 (fun s => ins_kinds_1 (tget s.t 1) (tget s.t 2) s.h) (fun _ _ => none)) (finP [.cell 2 true 4, .t 3]) = ins_kinds_23 (tget s.t 1) (tget s.t 2) (tget s.t 11) s.h :=
  (W_seq (k := (fun s => ins_kinds_22 (tget s.t 1) (tget s.t 2) (tget s.t 11) (tget s.t 87) s.h)) (fun s => ins_kinds_22_eq s)).trans (by kernel_rfl)

noncomputable def ins_kinds_24 (v1 v2 v11 v84 : AV) (h : Heap) : Option (Ex AV) :=
cnd v84
 (ob (evBuild [(.int .i64 0), (.int .i64 0), (.int .i64 0), (.int .i64 0)] [(0, 1, (AV.int .i64 (-1))), (1, 1, (AV.int .i64 3)), (2, 1, (AV.int .i64 1)), (3, 1, (AV.int .i64 (-1)))]) fun v86 =>
oh (evSt 4 v2 v86 h) fun _ h15 =>
(ob (evLd true 4 v2 h15) fun r0 =>
  expo1 h15 (.tup [r0, (AV.bool true)])))
 ((ins_kinds_23 v1 v2 v11 h))

theorem ins_kinds_24_eq (s : St) : W E 0 c_ins_kinds_24 s (fun s => ins_kinds_1 (tget s.t 1) (tget s.t 2) s.h) (exitTo 0 (fun s => ins_kinds_1 (tget s.t 1) (tget s.t 2) s.h) (fun _ _ => none)) (finP [.cell 2 true 4, .t 3]) = ins_kinds_24 (tget s.t 1) (tget s.t 2) (tget s.t 11) (tget s.t 84) s.h :=
  (W_cond rfl (ins_kinds_23_eq s)).trans (by kernel_rfl)

noncomputable def ins_kinds_25 (v1 v2 v11 : AV) (h : Heap) : Option (Ex AV) :=
ob (evBin .eql v11 (AV.int .i64 9)) fun v85 =>
(ins_kinds_24 v1 v2 v11 v85 h)

theorem ins_kinds_25_eq (s : St) : W E 0 c_ins_kinds_25 s (fun s => ins_kinds_1 (tget s.t 1) (tget s.t 2) s.h) (exitTo 0 (fun s => ins_kinds_1 (tget s.t 1) (tget s.t 2) s.h) (fun _ _ => none)) (finP [.cell 2 true 4, .t 3]) = ins_kinds_25 (tget s.t 1) (tget s.t 2) (tget s.t 11) s.h :=
  (W_seq (k := (fun s => ins_kinds_24 (tget s.t 1) (tget s.t 2) (tget s.t 11) (tget s.t 84) s.h)) (fun s => ins_kinds_24_eq s)).trans (by kernel_rfl)

noncomputable def ins_kinds_26 (v1 v2 v11 v78 : AV) (h : Heap) : Option (Ex AV) :=
cnd v78
 (ob (evBuild [(.int .i64 0), (.int .i64 0), (.int .i64 0), (.int .i64 0)] [(0, 1, (AV.int .i64 1)), (1, 1, (AV.int .i64 3)), (2, 1, (AV.int .i64 (-1))), (3, 1, (AV.int .i64 (-1)))]) fun v80 =>
ob (evFa 7 v1) fun v81 =>
ob (evLd false 1 v81 h) fun v82 =>
oh (callAny E (callW E) 0 none true 37 [v82] h) fun v83 h16 =>
oh (evSt 4 v2 v80 h16) fun _ h17 =>
(ob (evLd true 4 v2 h17) fun r0 =>
  expo1 h17 (.tup [r0, v83])))
 ((ins_kinds_25 v1 v2 v11 h))

theorem ins_kinds_26_eq (s : St) : W E 0 c_ins_kinds_26 s (fun s => ins_kinds_1 (tget s.t 1) (tget s.t 2) s.h) (exitTo 0 (fun s => ins_kinds_1 (tget s.t 1) (tget s.t 2) s.h) (fun _ _ => none)) (finP [.cell 2 true 4, .t 3]) = ins_kinds_26 (tget s.t 1) (tget s.t 2) (tget s.t 11) (tget s.t 78) s.h :=
  (W_cond rfl (ins_kinds_25_eq s)).trans (by kernel_rfl)

noncomputable def ins_kinds_27 (v1 v2 v11 : AV) (h : Heap) : Option (Ex AV) :=
ob (evBin .eql v11 (AV.int .i64 22)) fun v79 =>
(ins_kinds_26 v1 v2 v11 v79 h)

theorem ins_kinds_27_eq (s : St) : W E 0 c_ins_kinds_27 s (fun s => ins_kinds_1 (tget s.t 1) (tget s.t 2) s.h) (exitTo 0 (fun s => ins_kinds_1 (tget s.t 1) (tget s.t 2) s.h) (fun _ _ => none)) (finP [.cell 2 true 4, .t 3]) = ins_kinds_27 (tget s.t 1) (tget s.t 2) (tget s.t 11) s.h :=
  (W_seq (k := (fun s => ins_kinds_26 (tget s.t 1) (tget s.t 2) (tget s.t 11) (tget s.t 78) s.h)) (fun s => ins_kinds_26_eq s)).trans (by kernel_rfl)

noncomputable def ins_kinds_28 (v1 v2 v11 v72 : AV) (h : Heap) : Option (Ex AV) :=
cnd v72
 (ob (evBuild [(.int .i64 0), (.int .i64 0), (.int .i64 0), (.int .i64 0)] [(0, 1, (AV.int .i64 (-1))), (1, 1, (AV.int .i64 3)), (2, 1, (AV.int .i64 (-1))), (3, 1, (AV.int .i64 (-1)))]) fun v74 =>
ob (evFa 7 v1) fun v75 =>
ob (evLd false 1 v75 h) fun v76 =>
oh (callAny E (callW E) 0 none true 37 [v76] h) fun v77 h18 =>
oh (evSt 4 v2 v74 h18) fun _ h19 =>
(ob (evLd true 4 v2 h19) fun r0 =>
  expo1 h19 (.tup [r0, v77])))
 ((ins_kinds_27 v1 v2 v11 h))

theorem ins_kinds_28_eq (s : St) : W E 0 c_ins_kinds_28 s (fun s => ins_kinds_1 (tget s.t 1) (tget s.t 2) s.h) (exitTo 0 (fun s => ins_kinds_1 (tget s.t 1) (tget s.t 2) s.h) (fun _ _ => none)) (finP [.cell 2 true 4, .t 3]) = ins_kinds_28 (tget s.t 1) (tget s.t 2) (tget s.t 11) (tget s.t 72) s.h :=
  (W_cond rfl (ins_kinds_27_eq s)).trans (by kernel_rfl)

noncomputable def ins_kinds_29 (v1 v2 v11 : AV) (h : Heap) : Option (Ex AV) :=
ob (evBin .eql v11 (AV.int .i64 12)) fun v73 =>
(ins_kinds_28 v1 v2 v11 v73 h)

theorem ins_kinds_29_eq (s : St) : W E 0 c_ins_kinds_29 s (fun s => ins_kinds_1 (tget s.t 1) (tget s.t 2) s.h) (exitTo 0 (fun s => ins_kinds_1 (tget s.t 1) (tget s.t 2) s.h) (fun _ _ => none)) (finP [.cell 2 true 4, .t 3]) = ins_kinds_29 (tget s.t 1) (tget s.t 2) (tget s.t 11) s.h :=
  (W_seq (k := (fun s => ins_kinds_28 (tget s.t 1) (tget s.t 2) (tget s.t 11) (tget s.t 72) s.h)) (fun s => ins_kinds_28_eq s)).trans (by kernel_rfl)

noncomputable def ins_kinds_30 (v1 v2 v11 v68 : AV) (h : Heap) : Option (Ex AV) :=
cnd v68
 (ob (evBuild [(.int .i64 0), (.int .i64 0), (.int .i64 0), (.int .i64 0)] [(0, 1, (AV.int .i64 (-1))), (1, 1, (AV.int .i64 3)), (2, 1, (AV.int .i64 (-1))), (3, 1, (AV.int .i64 (-1)))]) fun v71 =>
oh (evSt 4 v2 v71 h) fun _ h20 =>
(ob (evLd true 4 v2 h20) fun r0 =>
  expo1 h20 (.tup [r0, (AV.bool true)])))
 ((ins_kinds_29 v1 v2 v11 h))

theorem ins_kinds_30_eq (s : St) : W E 0 c_ins_kinds_30 s (fun s => ins_kinds_1 (tget s.t 1) (tget s.t 2) s.h) (exitTo 0 (fun s => ins_kinds_1 (tget s.t 1) (tget s.t 2) s.h) (fun _ _ => none)) (finP [.cell 2 true 4, .t 3]) = ins_kinds_30 (tget s.t 1) (tget s.t 2) (tget s.t 11) (tget s.t 68) s.h :=
  (W_cond rfl (ins_kinds_29_eq s)).trans (by kernel_rfl)

noncomputable def ins_kinds_31 (v1 v2 v11 : AV) (h : Heap) : Option (Ex AV) :=
ob (evBin .eql v11 (AV.int .i64 8)) fun v69 =>
cnd v69
 ((ins_kinds_30 v1 v2 v11 v69 h))
 (ob (evBin .eql v11 (AV.int .i64 31)) fun v70 =>
(ins_kinds_30 v1 v2 v11 v70 h))

theorem ins_kinds_31_eq (s : St) : W E 0 c_ins_kinds_31 s (fun s => ins_kinds_1 (tget s.t 1) (tget s.t 2) s.h) (exitTo 0 (fun s => ins_kinds_1 (tget s.t 1) (tget s.t 2) s.h) (fun _ _ => none)) (finP [.cell 2 true 4, .t 3]) = ins_kinds_31 (tget s.t 1) (tget s.t 2) (tget s.t 11) s.h :=
  (W_seq (k := (fun s => ins_kinds_30 (tget s.t 1) (tget s.t 2) (tget s.t 11) (tget s.t 68) s.h)) (fun s => ins_kinds_30_eq s)).trans (by kernel_rfl)

noncomputable def ins_kinds_32 (v1 v2 v11 v65 : AV) (h : Heap) : Option (Ex AV) :=
cnd v65
 (ob (evBuild [(.int .i64 0), (.int .i64 0), (.int .i64 0), (.int .i64 0)] [(0, 1, (AV.int .i64 (-1))), (1, 1, (AV.int .i64 0)), (2, 1, (AV.int .i64 (-1))), (3, 1, (AV.int .i64 (-1)))]) fun v67 =>
oh (evSt 4 v2 v67 h) fun _ h21 =>
(ob (evLd true 4 v2 h21) fun r0 =>
  expo1 h21 (.tup [r0, (AV.bool true)])))
 ((ins_kinds_31 v1 v2 v11 h))

theorem ins_kinds_32_eq (s : St) : W E 0 c_ins_kinds_32 s (fun s => ins_kinds_1 (tget s.t 1) (tget s.t 2) s.h) (exitTo 0 (fun s => ins_kinds_1 (tget s.t 1) (tget s.t 2) s.h) (fun _ _ => none)) (finP [.cell 2 true 4, .t 3]) = ins_kinds_32 (tget s.t 1) (tget s.t 2) (tget s.t 11) (tget s.t 65) s.h :=
  (W_cond rfl (ins_kinds_31_eq s)).trans (by kernel_rfl)

noncomputable def ins_kinds_33 (v1 v2 v11 : AV) (h : Heap) : Option (Ex AV) :=
ob (evBin .eql v11 (AV.int .i64 7)) fun v66 =>
(ins_kinds_32 v1 v2 v11 v66 h)

theorem ins_kinds_33_eq (s : St) : W E 0 c_ins_kinds_33 s (fun s => ins_kinds_1 (tget s.t 1) (tget s.t 2) s.h) (exitTo 0 (fun s => ins_kinds_1 (tget s.t 1) (tget s.t 2) s.h) (fun _ _ => none)) (finP [.cell 2 true 4, .t 3]) = ins_kinds_33 (tget s.t 1) (tget s.t 2) (tget s.t 11) s.h :=
  (W_seq (k := (fun s => ins_kinds_32 (tget s.t 1) (tget s.t 2) (tget s.t 11) (tget s.t 65) s.h)) (fun s => ins_kinds_32_eq s)).trans (by kernel_rfl)

noncomputable def ins_kinds_34 (v1 v2 v11 v47 : AV) (h : Heap) : Option (Ex AV) :=
cnd v47
 (ob (evFa 5 v1) fun v50 =>
ob (evLd false 1 v50 h) fun v51 =>
oh (callAny E (callW E) 0 none true 50 [v51] h) fun v52 h22 =>
ob (evExt 0 v52) fun v53 =>
ob (evExt 1 v52) fun v54 =>
ob (evExt 2 v52) fun v55 =>
ob (evBuild [(.int .i64 0), (.int .i64 0), (.int .i64 0), (.int .i64 0)] [(0, 1, v55), (1, 1, v53), (2, 1, (AV.int .i64 (-1))), (3, 1, (AV.int .i64 (-1)))]) fun v58 =>
ob (evBin .neq v53 (AV.int .i64 0)) fun v60 =>
gb v60 true (some v54) fun v62 =>
gb v60 true (evBin .eql v62 (AV.int .i64 0)) fun v63 =>
ob (evPick v60 v63 (AV.bool false)) fun v64 =>
oh (evSt 4 v2 v58 h22) fun _ h23 =>
(ob (evLd true 4 v2 h23) fun r0 =>
  expo1 h23 (.tup [r0, v64])))
 ((ins_kinds_33 v1 v2 v11 h))

theorem ins_kinds_34_eq (s : St) : W E 0 c_ins_kinds_34 s (fun s => ins_kinds_1 (tget s.t 1) (tget s.t 2) s.h) (exitTo 0 (fun s => ins_kinds_1 (tget s.t 1) (tget s.t 2) s.h) (fun _ _ => none)) (finP [.cell 2 true 4, .t 3]) = ins_kinds_34 (tget s.t 1) (tget s.t 2) (tget s.t 11) (tget s.t 47) s.h :=
  (W_cond rfl (ins_kinds_33_eq s)).trans (by kernel_rfl)

noncomputable def ins_kinds_35 (v1 v2 v11 : AV) (h : Heap) : Option (Ex AV) :=
ob (evBin .eql v11 (AV.int .i64 6)) fun v48 =>
(ins_kinds_34 v1 v2 v11 v48 h)

theorem ins_kinds_35_eq (s : St) : W E 0 c_ins_kinds_35 s (fun s => ins_kinds_1 (tget s.t 1) (tget s.t 2) s.h) (exitTo 0 (fun s => ins_kinds_1 (tget s.t 1) (tget s.t 2) s.h) (fun _ _ => none)) (finP [.cell 2 true 4, .t 3]) = ins_kinds_35 (tget s.t 1) (tget s.t 2) (tget s.t 11) s.h :=
  (W_seq (k := (fun s => ins_kinds_34 (tget s.t 1) (tget s.t 2) (tget s.t 11) (tget s.t 47) s.h)) (fun s => ins_kinds_34_eq s)).trans (by kernel_rfl)

noncomputable def ins_kinds_36 (v1 v2 v11 v25 : AV) (h : Heap) : Option (Ex AV) :=
cnd v25
 (ob (evFa 5 v1) fun v28 =>
ob (evLd false 1 v28 h) fun v29 =>
oh (callAny E (callW E) 0 none true 50 [v29] h) fun v30 h24 =>
ob (evExt 0 v30) fun v31 =>
ob (evExt 1 v30) fun v32 =>
ob (evExt 2 v30) fun v33 =>
ob (evBuild [(.int .i64 0), (.int .i64 0), (.int .i64 0), (.int .i64 0)] [(0, 1, v33), (1, 1, v31), (2, 1, v32), (3, 1, (AV.int .i64 (-1)))]) fun v37 =>
ob (evFa 5 v1) fun v38 =>
ob (evLd false 1 v38 h24) fun v39 =>
ob (evFa 5 v1) fun v40 =>
ob (evLd false 1 v40 h24) fun v41 =>
ob (evBin .eql v39 v41) fun v42 =>
gb v42 true (some v32) fun v44 =>
gb v42 true (evBin .neq v44 (AV.int .i64 0)) fun v45 =>
ob (evPick v42 v45 (AV.bool false)) fun v46 =>
oh (evSt 4 v2 v37 h24) fun _ h25 =>
(ob (evLd true 4 v2 h25) fun r0 =>
  expo1 h25 (.tup [r0, v46])))
 ((ins_kinds_35 v1 v2 v11 h))

theorem ins_kinds_36_eq (s : St) : W E 0 c_ins_kinds_36 s (fun s => ins_kinds_1 (tget s.t 1) (tget s.t 2) s.h) (exitTo 0 (fun s => ins_kinds_1 (tget s.t 1) (tget s.t 2) s.h) (fun _ _ => none)) (finP [.cell 2 true 4, .t 3]) = ins_kinds_36 (tget s.t 1) (tget s.t 2) (tget s.t 11) (tget s.t 25) s.h :=
  (W_cond rfl (ins_kinds_35_eq s)).trans (by kernel_rfl)

noncomputable def ins_kinds_37 (v1 v2 v11 : AV) (h : Heap) : Option (Ex AV) :=
ob (evBin .eql v11 (AV.int .i64 5)) fun v26 =>
(ins_kinds_36 v1 v2 v11 v26 h)

theorem ins_kinds_37_eq (s : St) : W E 0 c_ins_kinds_37 s (fun s => ins_kinds_1 (tget s.t 1) (tget s.t 2) s.h) (exitTo 0 (fun s => ins_kinds_1 (tget s.t 1) (tget s.t 2) s.h) (fun _ _ => none)) (finP [.cell 2 true 4, .t 3]) = ins_kinds_37 (tget s.t 1) (tget s.t 2) (tget s.t 11) s.h :=
  (W_seq (k := (fun s => ins_kinds_36 (tget s.t 1) (tget s.t 2) (tget s.t 11) (tget s.t 25) s.h)) (fun s => ins_kinds_36_eq s)).trans (by kernel_rfl)

noncomputable def ins_kinds_38 (v1 v2 v11 v22 : AV) (h : Heap) : Option (Ex AV) :=
cnd v22
 (ob (evBuild [(.int .i64 0), (.int .i64 0), (.int .i64 0), (.int .i64 0)] [(0, 1, (AV.int .i64 0)), (1, 1, (AV.int .i64 0)), (2, 1, (AV.int .i64 (-1))), (3, 1, (AV.int .i64 (-1)))]) fun v24 =>
oh (evSt 4 v2 v24 h) fun _ h26 =>
(ob (evLd true 4 v2 h26) fun r0 =>
  expo1 h26 (.tup [r0, (AV.bool true)])))
 ((ins_kinds_37 v1 v2 v11 h))

theorem ins_kinds_38_eq (s : St) : W E 0 c_ins_kinds_38 s (fun s => ins_kinds_1 (tget s.t 1) (tget s.t 2) s.h) (exitTo 0 (fun s => ins_kinds_1 (tget s.t 1) (tget s.t 2) s.h) (fun _ _ => none)) (finP [.cell 2 true 4, .t 3]) = ins_kinds_38 (tget s.t 1) (tget s.t 2) (tget s.t 11) (tget s.t 22) s.h :=
  (W_cond rfl (ins_kinds_37_eq s)).trans (by kernel_rfl)

noncomputable def ins_kinds_39 (v1 v2 v11 : AV) (h : Heap) : Option (Ex AV) :=
ob (evBin .eql v11 (AV.int .i64 4)) fun v23 =>
(ins_kinds_38 v1 v2 v11 v23 h)

theorem ins_kinds_39_eq (s : St) : W E 0 c_ins_kinds_39 s (fun s => ins_kinds_1 (tget s.t 1) (tget s.t 2) s.h) (exitTo 0 (fun s => ins_kinds_1 (tget s.t 1) (tget s.t 2) s.h) (fun _ _ => none)) (finP [.cell 2 true 4, .t 3]) = ins_kinds_39 (tget s.t 1) (tget s.t 2) (tget s.t 11) s.h :=
  (W_seq (k := (fun s => ins_kinds_38 (tget s.t 1) (tget s.t 2) (tget s.t 11) (tget s.t 22) s.h)) (fun s => ins_kinds_38_eq s)).trans (by kernel_rfl)

noncomputable def ins_kinds_40 (v1 v2 v11 v16 : AV) (h : Heap) : Option (Ex AV) :=
cnd v16
 (ob (evBuild [(.int .i64 0), (.int .i64 0), (.int .i64 0), (.int .i64 0)] [(0, 1, (AV.int .i64 3)), (1, 1, (AV.int .i64 (-1))), (2, 1, (AV.int .i64 (-1))), (3, 1, (AV.int .i64 (-1)))]) fun v21 =>
oh (evSt 4 v2 v21 h) fun _ h27 =>
(ob (evLd true 4 v2 h27) fun r0 =>
  expo1 h27 (.tup [r0, (AV.bool true)])))
 ((ins_kinds_39 v1 v2 v11 h))

theorem ins_kinds_40_eq (s : St) : W E 0 c_ins_kinds_40 s (fun s => ins_kinds_1 (tget s.t 1) (tget s.t 2) s.h) (exitTo 0 (fun s => ins_kinds_1 (tget s.t 1) (tget s.t 2) s.h) (fun _ _ => none)) (finP [.cell 2 true 4, .t 3]) = ins_kinds_40 (tget s.t 1) (tget s.t 2) (tget s.t 11) (tget s.t 16) s.h :=
  (W_cond rfl (ins_kinds_39_eq s)).trans (by kernel_rfl)

noncomputable def ins_kinds_41 (v1 v2 v11 : AV) (h : Heap) : Option (Ex AV) :=
ob (evBin .eql v11 (AV.int .i64 2)) fun v17 =>
cnd v17
 ((ins_kinds_40 v1 v2 v11 v17 h))
 (ob (evBin .eql v11 (AV.int .i64 3)) fun v18 =>
cnd v18
 ((ins_kinds_40 v1 v2 v11 v18 h))
 (ob (evBin .eql v11 (AV.int .i64 20)) fun v19 =>
cnd v19
 ((ins_kinds_40 v1 v2 v11 v19 h))
 (ob (evBin .eql v11 (AV.int .i64 32)) fun v20 =>
(ins_kinds_40 v1 v2 v11 v20 h))))

theorem ins_kinds_41_eq (s : St) : W E 0 c_ins_kinds_41 s (fun s => ins_kinds_1 (tget s.t 1) (tget s.t 2) s.h) (exitTo 0 (fun s => ins_kinds_1 (tget s.t 1) (tget s.t 2) s.h) (fun _ _ => none)) (finP [.cell 2 true 4, .t 3]) = ins_kinds_41 (tget s.t 1) (tget s.t 2) (tget s.t 11) s.h :=
  (W_seq (k := (fun s => ins_kinds_40 (tget s.t 1) (tget s.t 2) (tget s.t 11) (tget s.t 16) s.h)) (fun s => ins_kinds_40_eq s)).trans (by kernel_rfl)

noncomputable def ins_kinds_42 (v1 v2 v11 v12 : AV) (h : Heap) : Option (Ex AV) :=
cnd v12
 (ob (evBuild [(.int .i64 0), (.int .i64 0), (.int .i64 0), (.int .i64 0)] [(0, 1, (AV.int .i64 0)), (1, 1, (AV.int .i64 (-1))), (2, 1, (AV.int .i64 (-1))), (3, 1, (AV.int .i64 (-1)))]) fun v15 =>
oh (evSt 4 v2 v15 h) fun _ h28 =>
(ob (evLd true 4 v2 h28) fun r0 =>
  expo1 h28 (.tup [r0, (AV.bool true)])))
 ((ins_kinds_41 v1 v2 v11 h))

theorem ins_kinds_42_eq (s : St) : W E 0 c_ins_kinds_42 s (fun s => ins_kinds_1 (tget s.t 1) (tget s.t 2) s.h) (exitTo 0 (fun s => ins_kinds_1 (tget s.t 1) (tget s.t 2) s.h) (fun _ _ => none)) (finP [.cell 2 true 4, .t 3]) = ins_kinds_42 (tget s.t 1) (tget s.t 2) (tget s.t 11) (tget s.t 12) s.h :=
  (W_cond rfl (ins_kinds_41_eq s)).trans (by kernel_rfl)

noncomputable def ins_kinds_43 (v1 v2 v11 : AV) (h : Heap) : Option (Ex AV) :=
ob (evBin .eql v11 (AV.int .i64 1)) fun v13 =>
cnd v13
 ((ins_kinds_42 v1 v2 v11 v13 h))
 (ob (evBin .eql v11 (AV.int .i64 18)) fun v14 =>
(ins_kinds_42 v1 v2 v11 v14 h))

theorem ins_kinds_43_eq (s : St) : W E 0 c_ins_kinds_43 s (fun s => ins_kinds_1 (tget s.t 1) (tget s.t 2) s.h) (exitTo 0 (fun s => ins_kinds_1 (tget s.t 1) (tget s.t 2) s.h) (fun _ _ => none)) (finP [.cell 2 true 4, .t 3]) = ins_kinds_43 (tget s.t 1) (tget s.t 2) (tget s.t 11) s.h :=
  (W_seq (k := (fun s => ins_kinds_42 (tget s.t 1) (tget s.t 2) (tget s.t 11) (tget s.t 12) s.h)) (fun s => ins_kinds_42_eq s)).trans (by kernel_rfl)

theorem ins_kinds_44_eq (s : St) : W E 0 c_ins_kinds_44 s (fun s => ins_kinds_1 (tget s.t 1) (tget s.t 2) s.h) (fun _ _ => none) (finP [.cell 2 true 4, .t 3]) = ins_kinds_43 (tget s.t 1) (tget s.t 2) (tget s.t 11) s.h :=
  W_block.trans (ins_kinds_43_eq s)

noncomputable def ins_kinds_45 (v1 v2 : AV) (h : Heap) : Option (Ex AV) :=
ob (evFa 0 v1) fun v10 =>
ob (evLd false 1 v10 h) fun v11 =>
(ins_kinds_43 v1 v2 v11 h)

theorem ins_kinds_45_eq (s : St) : W E 0 c_ins_kinds_45 s (fun s => ins_kinds_1 (tget s.t 1) (tget s.t 2) s.h) (fun _ _ => none) (finP [.cell 2 true 4, .t 3]) = ins_kinds_45 (tget s.t 1) (tget s.t 2) s.h :=
  (W_seq (k := (fun s => ins_kinds_43 (tget s.t 1) (tget s.t 2) (tget s.t 11) s.h)) (fun s => ins_kinds_44_eq s)).trans (by kernel_rfl)

theorem ins_kinds_46_eq (s : St) : W E 0 c_ins_kinds_46 s (finP [.cell 2 true 4, .t 3]) (fun _ _ => none) (finP [.cell 2 true 4, .t 3]) = ins_kinds_45 (tget s.t 1) (tget s.t 2) s.h :=
  (W_seq (k := (fun s => ins_kinds_1 (tget s.t 1) (tget s.t 2) s.h)) (fun s => ins_kinds_1_eq s)).trans (ins_kinds_45_eq s)

noncomputable def ins_kinds_47 (v0 : AV) (h : Heap) : Option (Ex AV) :=
oh (newC 0 (some 0) (cellsOf v0) h) fun v1 h29 =>
oh (newC 0 (some 1) [(.int .i64 0), (.int .i64 0), (.int .i64 0), (.int .i64 0)] h29) fun v2 h30 =>
(ins_kinds_45 v1 v2 h30)

theorem ins_kinds_47_eq (s : St) : W E 0 c_ins_kinds_47 s (finP [.cell 2 true 4, .t 3]) (fun _ _ => none) (finP [.cell 2 true 4, .t 3]) = ins_kinds_47 (tget s.t 0) s.h :=
  (W_seq (k := (fun s => ins_kinds_45 (tget s.t 1) (tget s.t 2) s.h)) (fun s => ins_kinds_46_eq s)).trans (by kernel_rfl)

@[simp] theorem pure_47 : E.pure 47 = true := rfl

theorem x_ins_kinds (v0 : AV) : (callW E).p 47 [v0] = ins_kinds_47 v0 [⟨0, .dead⟩, ⟨0, .dead⟩] :=
  (callP_W (cf := c_ins_kinds) (by kernel_rfl) rfl).trans ((ins_kinds_47_eq _).trans (by kernel_rfl))

noncomputable def regletref10_wanted_1 (v2 v7 : AV) (h : Heap) : Option (Ex AV) :=
ob (evBin .sub v2 (AV.int .u8 48)) fun v30 =>
ob (evCvi .i64 v30) fun v31 =>
ob (evBin .eql v7 v31) fun v32 =>
(expo1 h v32)

theorem regletref10_wanted_1_eq (s : St) : W E 0 c_regletref10_wanted_1 s (finP [.t 6]) (fun _ _ => none) (finP [.t 6]) = regletref10_wanted_1 (tget s.t 2) (tget s.t 7) s.h :=
  by kernel_rfl

noncomputable def regletref10_wanted_2 (v2 v7 v11 v15 : AV) (h : Heap) : Option (Ex AV) :=
cnd v15
 (ob (evBin .gtr v7 (AV.int .i64 0)) fun v19 =>
(expo1 h v19))
 (ob (evBin .eql v11 (AV.int .u8 110)) fun v21 =>
cnd v21
 (ob (evBin .eql v7 (AV.int .i64 1)) fun v23 =>
gb v23 false (some v7) fun v25 =>
gb v23 false (evBin .eql v25 (AV.int .i64 2)) fun v26 =>
ob (evPick v23 (AV.bool true) v26) fun v27 =>
(expo1 h v27))
 ((regletref10_wanted_1 v2 v7 h)))

theorem regletref10_wanted_2_eq (s : St) : W E 0 c_regletref10_wanted_2 s (fun s => regletref10_wanted_1 (tget s.t 2) (tget s.t 7) s.h) (exitTo 0 (fun s => regletref10_wanted_1 (tget s.t 2) (tget s.t 7) s.h) (fun _ _ => none)) (finP [.t 6]) = regletref10_wanted_2 (tget s.t 2) (tget s.t 7) (tget s.t 11) (tget s.t 15) s.h :=
  by kernel_rfl

noncomputable def regletref10_wanted_3 (v2 v7 v11 : AV) (h : Heap) : Option (Ex AV) :=
ob (evBin .eql v11 (AV.int .u8 42)) fun v16 =>
cnd v16
 ((regletref10_wanted_2 v2 v7 v11 v16 h))
 (ob (evBin .eql v11 (AV.int .u8 61)) fun v17 =>
(regletref10_wanted_2 v2 v7 v11 v17 h))

theorem regletref10_wanted_3_eq (s : St) : W E 0 c_regletref10_wanted_3 s (fun s => regletref10_wanted_1 (tget s.t 2) (tget s.t 7) s.h) (exitTo 0 (fun s => regletref10_wanted_1 (tget s.t 2) (tget s.t 7) s.h) (fun _ _ => none)) (finP [.t 6]) = regletref10_wanted_3 (tget s.t 2) (tget s.t 7) (tget s.t 11) s.h :=
  (W_seq (k := (fun s => regletref10_wanted_2 (tget s.t 2) (tget s.t 7) (tget s.t 11) (tget s.t 15) s.h)) (fun s => regletref10_wanted_2_eq s)).trans (by kernel_rfl)

noncomputable def regletref10_wanted_4 (v2 v7 v11 v12 : AV) (h : Heap) : Option (Ex AV) :=
cnd v12
 ((expo1 h (AV.bool true)))
 ((regletref10_wanted_3 v2 v7 v11 h))

theorem regletref10_wanted_4_eq (s : St) : W E 0 c_regletref10_wanted_4 s (fun s => regletref10_wanted_1 (tget s.t 2) (tget s.t 7) s.h) (exitTo 0 (fun s => regletref10_wanted_1 (tget s.t 2) (tget s.t 7) s.h) (fun _ _ => none)) (finP [.t 6]) = regletref10_wanted_4 (tget s.t 2) (tget s.t 7) (tget s.t 11) (tget s.t 12) s.h :=
  (W_cond rfl (regletref10_wanted_3_eq s)).trans (by kernel_rfl)

noncomputable def regletref10_wanted_5 (v2 v7 v11 : AV) (h : Heap) : Option (Ex AV) :=
ob (evBin .eql v11 (AV.int .u8 45)) fun v13 =>
cnd v13
 ((regletref10_wanted_4 v2 v7 v11 v13 h))
 (ob (evBin .eql v11 (AV.int .u8 63)) fun v14 =>
(regletref10_wanted_4 v2 v7 v11 v14 h))

theorem regletref10_wanted_5_eq (s : St) : W E 0 c_regletref10_wanted_5 s (fun s => regletref10_wanted_1 (tget s.t 2) (tget s.t 7) s.h) (exitTo 0 (fun s => regletref10_wanted_1 (tget s.t 2) (tget s.t 7) s.h) (fun _ _ => none)) (finP [.t 6]) = regletref10_wanted_5 (tget s.t 2) (tget s.t 7) (tget s.t 11) s.h :=
  (W_seq (k := (fun s => regletref10_wanted_4 (tget s.t 2) (tget s.t 7) (tget s.t 11) (tget s.t 12) s.h)) (fun s => regletref10_wanted_4_eq s)).trans (by kernel_rfl)

theorem regletref10_wanted_6_eq (s : St) : W E 0 c_regletref10_wanted_6 s (fun s => regletref10_wanted_1 (tget s.t 2) (tget s.t 7) s.h) (fun _ _ => none) (finP [.t 6]) = regletref10_wanted_5 (tget s.t 2) (tget s.t 7) (tget s.t 11) s.h :=
  W_block.trans (regletref10_wanted_5_eq s)

noncomputable def regletref10_wanted_7 (v2 v7 : AV) (h : Heap) : Option (Ex AV) :=
(regletref10_wanted_5 v2 v7 v2 h)

theorem regletref10_wanted_7_eq (s : St) : W E 0 c_regletref10_wanted_7 s (fun s => regletref10_wanted_1 (tget s.t 2) (tget s.t 7) s.h) (fun _ _ => none) (finP [.t 6]) = regletref10_wanted_7 (tget s.t 2) (tget s.t 7) s.h :=
  (W_seq (k := (fun s => regletref10_wanted_5 (tget s.t 2) (tget s.t 7) (tget s.t 11) s.h)) (fun s => regletref10_wanted_6_eq s)).trans (by kernel_rfl)

theorem regletref10_wanted_8_eq (s : St) : W E 0 c_regletref10_wanted_8 s (finP [.t 6]) (fun _ _ => none) (finP [.t 6]) = regletref10_wanted_7 (tget s.t 2) (tget s.t 7) s.h :=
  (W_seq (k := (fun s => regletref10_wanted_1 (tget s.t 2) (tget s.t 7) s.h)) (fun s => regletref10_wanted_1_eq s)).trans (regletref10_wanted_7_eq s)

noncomputable def regletref10_wanted_9 (v1 v2 v3 : AV) (h : Heap) : Option (Ex AV) :=
ob (evLd true 5 v3 h) fun v8 =>
oh (callAny E (callW E) 0 none true 48 [v8, v1] h) fun v10 h1 =>
(regletref10_wanted_7 v2 v10 h1)

theorem regletref10_wanted_9_eq (s : St) : W E 0 c_regletref10_wanted_9 s (finP [.t 6]) (fun _ _ => none) (finP [.t 6]) = regletref10_wanted_9 (tget s.t 1) (tget s.t 2) (tget s.t 3) s.h :=
  (W_seq (k := (fun s => regletref10_wanted_7 (tget s.t 2) (tget s.t 7) s.h)) (fun s => regletref10_wanted_8_eq s)).trans (by kernel_rfl)

noncomputable def regletref10_wanted_10 (v0 v1 v2 : AV) (h : Heap) : Option (Ex AV) :=
oh (newC 0 (some 0) (cellsOf v0) h) fun v3 h2 =>
(regletref10_wanted_9 v1 v2 v3 h2)

theorem regletref10_wanted_10_eq (s : St) : W E 0 c_regletref10_wanted_10 s (finP [.t 6]) (fun _ _ => none) (finP [.t 6]) = regletref10_wanted_10 (tget s.t 0) (tget s.t 1) (tget s.t 2) s.h :=
  (W_seq (k := (fun s => regletref10_wanted_9 (tget s.t 1) (tget s.t 2) (tget s.t 3) s.h)) (fun s => regletref10_wanted_9_eq s)).trans (by kernel_rfl)

@[simp] theorem pure_65 : E.pure 65 = true := rfl

theorem x_regletref10_wanted (v0 v1 v2 : AV) : (callW E).p 65 [v0, v1, v2] = regletref10_wanted_10 v0 v1 v2 [⟨0, .dead⟩] :=
  (callP_W (cf := c_regletref10_wanted) (by kernel_rfl) rfl).trans ((regletref10_wanted_10_eq _).trans (by kernel_rfl))

noncomputable def regletref01_Kinds_1 (h : Heap) : Option (Ex AV) :=
(expo1 h (.tup [(AV.int .i64 0), (AV.int .i64 0), (AV.int .i64 0)]))

theorem regletref01_Kinds_1_eq (s : St) : W E 0 c_regletref01_Kinds_1 s (finP [.t 2, .t 3, .t 4]) (fun _ _ => none) (finP [.t 2, .t 3, .t 4]) = regletref01_Kinds_1 s.h :=
  by kernel_rfl

noncomputable def regletref01_Kinds_2 (v0 v5 : AV) (h : Heap) : Option (Ex AV) :=
gb v5 true (some v0) fun v28 =>
gb v5 true (evBin .rem v28 (AV.int .i64 2)) fun v29 =>
gb v5 true (evBin .eql v29 (AV.int .i64 0)) fun v30 =>
ob (evPick v5 v30 (AV.bool false)) fun v31 =>
cnd v31
 ((expo1 h (.tup [(AV.int .i64 1), (AV.int .i64 1), (AV.int .i64 1)])))
 (ob (evBin .eql v0 (AV.int .i64 121)) fun v34 =>
gb v34 false (some v0) fun v36 =>
gb v34 false (evBin .eql v36 (AV.int .i64 123)) fun v37 =>
ob (evPick v34 (AV.bool true) v37) fun v38 =>
gb v38 false (some v0) fun v40 =>
gb v38 false (evBin .eql v40 (AV.int .i64 125)) fun v41 =>
ob (evPick v38 (AV.bool true) v41) fun v42 =>
cnd v42
 ((expo1 h (.tup [(AV.int .i64 2), (AV.int .i64 1), (AV.int .i64 2)])))
 (cnd v5
 ((expo1 h (.tup [(AV.int .i64 2), (AV.int .i64 2), (AV.int .i64 2)])))
 (ob (evBin .eql v0 (AV.int .i64 148)) fun v47 =>
cnd v47
 ((expo1 h (.tup [(AV.int .i64 2), (AV.int .i64 2), (AV.int .i64 1)])))
 (ob (evBin .eql v0 (AV.int .i64 116)) fun v50 =>
gb v50 false (some v0) fun v52 =>
gb v50 false (evBin .geq v52 (AV.int .i64 145)) fun v53 =>
gb v50 false (some v53) fun v54 =>
gb v54 true (some v0) fun v55 =>
gb v54 true (evBin .leq v55 (AV.int .i64 147)) fun v56 =>
gb v50 false (evPick v54 v56 (AV.bool false)) fun v57 =>
ob (evPick v50 (AV.bool true) v57) fun v58 =>
cnd v58
 ((expo1 h (.tup [(AV.int .i64 1), (AV.int .i64 0), (AV.int .i64 1)])))
 (ob (evBin .eql v0 (AV.int .i64 117)) fun v61 =>
cnd v61
 ((expo1 h (.tup [(AV.int .i64 2), (AV.int .i64 0), (AV.int .i64 2)])))
 (ob (evBin .eql v0 (AV.int .i64 133)) fun v64 =>
cnd v64
 ((expo1 h (.tup [(AV.int .i64 1), (AV.int .i64 0), (AV.int .i64 2)])))
 (ob (evBin .eql v0 (AV.int .i64 136)) fun v67 =>
cnd v67
 ((expo1 h (.tup [(AV.int .i64 2), (AV.int .i64 0), (AV.int .i64 1)])))
 ((regletref01_Kinds_1 h)))))))))

theorem regletref01_Kinds_2_eq (s : St) : W E 0 c_regletref01_Kinds_2 s (finP [.t 2, .t 3, .t 4]) (fun _ _ => none) (finP [.t 2, .t 3, .t 4]) = regletref01_Kinds_2 (tget s.t 0) (tget s.t 5) s.h :=
  (W_seq (k := (fun s => regletref01_Kinds_1 s.h)) (fun s => regletref01_Kinds_1_eq s)).trans (by kernel_rfl)

noncomputable def regletref01_Kinds_3 (v0 : AV) (h : Heap) : Option (Ex AV) :=
ob (evBin .geq v0 (AV.int .i64 96)) fun v7 =>
gb v7 true (some v0) fun v9 =>
gb v7 true (evBin .leq v9 (AV.int .i64 113)) fun v10 =>
ob (evPick v7 v10 (AV.bool false)) fun v11 =>
gb v11 true (some v0) fun v13 =>
gb v11 true (evBin .rem v13 (AV.int .i64 4)) fun v14 =>
gb v11 true (evBin .lss v14 (AV.int .i64 2)) fun v15 =>
ob (evPick v11 v15 (AV.bool false)) fun v16 =>
gb v16 false (some v0) fun v18 =>
gb v16 false (evBin .geq v18 (AV.int .i64 120)) fun v19 =>
gb v16 false (some v19) fun v20 =>
gb v20 true (some v0) fun v21 =>
gb v20 true (evBin .leq v21 (AV.int .i64 131)) fun v22 =>
gb v16 false (evPick v20 v22 (AV.bool false)) fun v23 =>
ob (evPick v16 (AV.bool true) v23) fun v24 =>
(regletref01_Kinds_2 v0 v24 h)

theorem regletref01_Kinds_3_eq (s : St) : W E 0 c_regletref01_Kinds_3 s (finP [.t 2, .t 3, .t 4]) (fun _ _ => none) (finP [.t 2, .t 3, .t 4]) = regletref01_Kinds_3 (tget s.t 0) s.h :=
  (W_seq (k := (fun s => regletref01_Kinds_2 (tget s.t 0) (tget s.t 5) s.h)) (fun s => regletref01_Kinds_2_eq s)).trans (by kernel_rfl)

noncomputable def regletref01_Kinds_4 (v0 : AV) (h : Heap) : Option (Ex AV) :=
(regletref01_Kinds_3 v0 h)

theorem regletref01_Kinds_4_eq (s : St) : W E 0 c_regletref01_Kinds_4 s (finP [.t 2, .t 3, .t 4]) (fun _ _ => none) (finP [.t 2, .t 3, .t 4]) = regletref01_Kinds_4 (tget s.t 0) s.h :=
  (W_seq (k := (fun s => regletref01_Kinds_3 (tget s.t 0) s.h)) (fun s => regletref01_Kinds_3_eq s)).trans (by kernel_rfl)

@[simp] theorem pure_66 : E.pure 66 = true := rfl

theorem x_regletref01_Kinds (v0 : AV) : (callW E).p 66 [v0] = regletref01_Kinds_4 v0 [] :=
  (callP_W (cf := c_regletref01_Kinds) (by kernel_rfl) rfl).trans ((regletref01_Kinds_4_eq _).trans (by kernel_rfl))

noncomputable def regletref10_call_1 (v2 v3 : AV) (h : Heap) : Option (Ex AV) :=
ob (evFa 0 v3) fun v47 =>
ob (evLd false 1 v47 h) fun v48 =>
ob (evBin .neq v48 (AV.int .i64 24)) fun v49 =>
gb v49 true (evFa 0 v3) fun v51 =>
gb v49 true (evLd false 1 v51 h) fun v52 =>
gb v49 true (evBin .neq v52 (AV.int .i64 25)) fun v53 =>
ob (evPick v49 v53 (AV.bool false)) fun v54 =>
gb v54 false (evFa 8 v3) fun v56 =>
gb v54 false (evLd false 1 v56 h) fun v57 =>
gb v54 false (evLen 1 v57 h) fun v58 =>
gb v54 false (evBin .gtr v58 (AV.int .i64 0)) fun v59 =>
gb v54 false (some v59) fun v60 =>
gb v60 true (evLd true 5 v2 h) fun v61 =>
gb v60 true (evFa 8 v3) fun v62 =>
gb v60 true (evLd false 1 v62 h) fun v63 =>
gb v60 true (evIxs 1 v63 (AV.int .i64 0)) fun v64 =>
gb v60 true (evLd false 1 v64 h) fun v65 =>
gh v60 true (callAny E (callW E) 0 none true 48 [v61, v65] h) h fun v66 h1 =>
gb v60 true (evBin .eql v66 (AV.int .i64 3)) fun v67 =>
gb v54 false (evPick v60 v67 (AV.bool false)) fun v68 =>
ob (evPick v54 (AV.bool true) v68) fun v69 =>
(expo1 h1 v69)

theorem regletref10_call_1_eq (s : St) : W E 0 c_regletref10_call_1 s (finP [.t 4]) (fun _ _ => none) (finP [.t 4]) = regletref10_call_1 (tget s.t 2) (tget s.t 3) s.h :=
  by kernel_rfl

noncomputable def regletref10_call_L2 (v2 v3 v5 : AV) (h : Heap) : Option (Ex AV) :=
  W E 0 c_regletref10_call_L2 ⟨[(2, v2), (3, v3), (5, v5)], h⟩ (fun s => regletref10_call_1 (tget s.t 2) (tget s.t 3) s.h) (exitTo 0 (fun s => regletref10_call_1 (tget s.t 2) (tget s.t 3) s.h) (fun _ _ => none)) (finP [.t 4])

theorem regletref10_call_L2_eq (s : St) : W E 0 c_regletref10_call_L2 s (fun s => regletref10_call_1 (tget s.t 2) (tget s.t 3) s.h) (exitTo 0 (fun s => regletref10_call_1 (tget s.t 2) (tget s.t 3) s.h) (fun _ _ => none)) (finP [.t 4]) = regletref10_call_L2 (tget s.t 2) (tget s.t 3) (tget s.t 5) s.h := W_loop_live.trans (by kernel_rfl)

noncomputable def regletref10_call_3 (v2 v3 v5 : AV) (h : Heap) : Option (Ex AV) :=
ob (evBin .add v5 (AV.int .i64 1)) fun v38 =>
(regletref10_call_L2 v2 v3 v38 h)

theorem regletref10_call_3_eq (s : St) : W E 0 c_regletref10_call_3 s (fun s => regletref10_call_L2 (tget s.t 2) (tget s.t 3) (tget s.t 5) s.h) (exitTo 0 (fun s => regletref10_call_1 (tget s.t 2) (tget s.t 3) s.h) (fun _ _ => none)) (finP [.t 4]) = regletref10_call_3 (tget s.t 2) (tget s.t 3) (tget s.t 5) s.h :=
  by kernel_rfl

noncomputable def regletref10_call_4 (v2 v3 v5 : AV) (h : Heap) : Option (Ex AV) :=
ob (evLd true 5 v2 h) fun v39 =>
ob (evFa 8 v3) fun v40 =>
ob (evLd false 1 v40 h) fun v41 =>
ob (evIxs 1 v41 v5) fun v43 =>
ob (evLd false 1 v43 h) fun v44 =>
oh (callAny E (callW E) 0 none true 48 [v39, v44] h) fun v45 h2 =>
ob (evBin .eql v45 (AV.int .i64 0)) fun v46 =>
cnd v46
 ((expo1 h2 (AV.bool false)))
 ((regletref10_call_3 v2 v3 v5 h2))

theorem regletref10_call_4_eq (s : St) : W E 0 c_regletref10_call_4 s (fun s => regletref10_call_L2 (tget s.t 2) (tget s.t 3) (tget s.t 5) s.h) (exitTo 0 (fun s => regletref10_call_1 (tget s.t 2) (tget s.t 3) s.h) (fun _ _ => none)) (finP [.t 4]) = regletref10_call_4 (tget s.t 2) (tget s.t 3) (tget s.t 5) s.h :=
  (W_seq (k := (fun s => regletref10_call_3 (tget s.t 2) (tget s.t 3) (tget s.t 5) s.h)) (fun s => regletref10_call_3_eq s)).trans (by kernel_rfl)

noncomputable def regletref10_call_5 (v2 v3 v5 : AV) (h : Heap) : Option (Ex AV) :=
ob (evFa 8 v3) fun v33 =>
ob (evLd false 1 v33 h) fun v34 =>
ob (evLen 1 v34 h) fun v35 =>
ob (evBin .lss v5 v35) fun v36 =>
cnd v36
 ((regletref10_call_4 v2 v3 v5 h))
 ((regletref10_call_1 v2 v3 h))

theorem regletref10_call_5_eq (s : St) : W E 0 c_regletref10_call_5 s (fun s => regletref10_call_L2 (tget s.t 2) (tget s.t 3) (tget s.t 5) s.h) (exitTo 0 (fun s => regletref10_call_1 (tget s.t 2) (tget s.t 3) s.h) (fun _ _ => none)) (finP [.t 4]) = regletref10_call_5 (tget s.t 2) (tget s.t 3) (tget s.t 5) s.h :=
  (W_seq (k := (fun s => regletref10_call_4 (tget s.t 2) (tget s.t 3) (tget s.t 5) s.h)) (fun s => regletref10_call_4_eq s)).trans (by kernel_rfl)

theorem regletref10_call_L2_go (v2 v3 v5 : AV) (h : Heap) : regletref10_call_L2 v2 v3 v5 h = (regletref10_call_5 v2 v3 v5 h) :=
  W_loop.trans ((W_congr _ _ _ (n' := (fun s => regletref10_call_L2 (tget s.t 2) (tget s.t 3) (tget s.t 5) s.h)) (fun s => regletref10_call_L2_eq s)).trans ((regletref10_call_5_eq _).trans (by kernel_rfl)))

theorem regletref10_call_6_eq (s : St) : W E 0 c_regletref10_call_6 s (fun s => regletref10_call_1 (tget s.t 2) (tget s.t 3) s.h) (fun _ _ => none) (finP [.t 4]) = regletref10_call_L2 (tget s.t 2) (tget s.t 3) (tget s.t 5) s.h :=
  W_block.trans (regletref10_call_L2_eq s)

noncomputable def regletref10_call_7 (v2 v3 : AV) (h : Heap) : Option (Ex AV) :=
(regletref10_call_L2 v2 v3 (AV.int .i64 0) h)

theorem regletref10_call_7_eq (s : St) : W E 0 c_regletref10_call_7 s (fun s => regletref10_call_1 (tget s.t 2) (tget s.t 3) s.h) (fun _ _ => none) (finP [.t 4]) = regletref10_call_7 (tget s.t 2) (tget s.t 3) s.h :=
  (W_seq (k := (fun s => regletref10_call_L2 (tget s.t 2) (tget s.t 3) (tget s.t 5) s.h)) (fun s => regletref10_call_6_eq s)).trans (by kernel_rfl)

theorem regletref10_call_8_eq (s : St) : W E 0 c_regletref10_call_8 s (finP [.t 4]) (fun _ _ => none) (finP [.t 4]) = regletref10_call_7 (tget s.t 2) (tget s.t 3) s.h :=
  (W_seq (k := (fun s => regletref10_call_1 (tget s.t 2) (tget s.t 3) s.h)) (fun s => regletref10_call_1_eq s)).trans (regletref10_call_7_eq s)

noncomputable def regletref10_call_9 (v2 v3 : AV) (h : Heap) : Option (Ex AV) :=
ob (evFa 5 v3) fun v6 =>
ob (evLd false 1 v6 h) fun v7 =>
ob (evBin .lss v7 (AV.int .i64 0)) fun v8 =>
gb v8 true (evFa 0 v3) fun v10 =>
gb v8 true (evLd false 1 v10 h) fun v11 =>
gb v8 true (evBin .neq v11 (AV.int .i64 25)) fun v12 =>
ob (evPick v8 v12 (AV.bool false)) fun v13 =>
gb v13 false (evFa 8 v3) fun v15 =>
gb v13 false (evLd false 1 v15 h) fun v16 =>
gb v13 false (evLen 1 v16 h) fun v17 =>
gb v13 false (evBin .gtr v17 (AV.int .i64 21)) fun v18 =>
ob (evPick v13 (AV.bool true) v18) fun v19 =>
gb v19 false (evFa 1 v3) fun v21 =>
gb v19 false (evLd false 1 v21 h) fun v22 =>
gb v19 false (evBin .neq v22 (AV.int .i64 (-1))) fun v23 =>
gb v19 false (some v23) fun v24 =>
gb v24 true (evLd true 5 v2 h) fun v25 =>
gb v24 true (evFa 1 v3) fun v26 =>
gb v24 true (evLd false 1 v26 h) fun v27 =>
gh v24 true (callAny E (callW E) 0 none true 48 [v25, v27] h) h fun v28 h3 =>
gb v24 true (evBin .eql v28 (AV.int .i64 0)) fun v29 =>
gb v19 false (evPick v24 v29 (AV.bool false)) fun v30 =>
ob (evPick v19 (AV.bool true) v30) fun v31 =>
cnd v31
 ((expo1 h3 (AV.bool false)))
 ((regletref10_call_7 v2 v3 h3))

theorem regletref10_call_9_eq (s : St) : W E 0 c_regletref10_call_9 s (finP [.t 4]) (fun _ _ => none) (finP [.t 4]) = regletref10_call_9 (tget s.t 2) (tget s.t 3) s.h :=
  (W_seq (k := (fun s => regletref10_call_7 (tget s.t 2) (tget s.t 3) s.h)) (fun s => regletref10_call_8_eq s)).trans (by kernel_rfl)

noncomputable def regletref10_call_10 (v0 v1 : AV) (h : Heap) : Option (Ex AV) :=
oh (newC 0 (some 0) (cellsOf v0) h) fun v2 h4 =>
oh (newC 0 (some 1) (cellsOf v1) h4) fun v3 h5 =>
(regletref10_call_9 v2 v3 h5)

theorem regletref10_call_10_eq (s : St) : W E 0 c_regletref10_call_10 s (finP [.t 4]) (fun _ _ => none) (finP [.t 4]) = regletref10_call_10 (tget s.t 0) (tget s.t 1) s.h :=
  (W_seq (k := (fun s => regletref10_call_9 (tget s.t 2) (tget s.t 3) s.h)) (fun s => regletref10_call_9_eq s)).trans (by kernel_rfl)

@[simp] theorem pure_68 : E.pure 68 = true := rfl

theorem x_regletref10_call (v0 v1 : AV) : (callW E).p 68 [v0, v1] = regletref10_call_10 v0 v1 [⟨0, .dead⟩, ⟨0, .dead⟩] :=
  (callP_W (cf := c_regletref10_call) (by kernel_rfl) rfl).trans ((regletref10_call_10_eq _).trans (by kernel_rfl))

noncomputable def num_Kinds_1 (h : Heap) : Option (Ex AV) :=
(expo1 h (.tup [(AV.int .i64 0), (AV.int .i64 0), (AV.int .i64 0)]))

theorem num_Kinds_1_eq (s : St) : W E 0 c_num_Kinds_1 s (finP [.t 2, .t 3, .t 4]) (fun _ _ => none) (finP [.t 2, .t 3, .t 4]) = num_Kinds_1 s.h :=
  by kernel_rfl

noncomputable def num_Kinds_2 (v5 v33 : AV) (h : Heap) : Option (Ex AV) :=
cnd v33
 ((expo1 h (.tup [(AV.int .i64 1), (AV.int .i64 0), (AV.int .i64 1)])))
 (ob (evBin .eql v5 (AV.int .i64 117)) fun v39 =>
cnd v39
 ((expo1 h (.tup [(AV.int .i64 2), (AV.int .i64 0), (AV.int .i64 2)])))
 (ob (evBin .eql v5 (AV.int .i64 133)) fun v41 =>
cnd v41
 ((expo1 h (.tup [(AV.int .i64 1), (AV.int .i64 0), (AV.int .i64 2)])))
 (ob (evBin .eql v5 (AV.int .i64 136)) fun v43 =>
cnd v43
 ((expo1 h (.tup [(AV.int .i64 2), (AV.int .i64 0), (AV.int .i64 1)])))
 ((num_Kinds_1 h)))))

theorem num_Kinds_2_eq (s : St) : W E 0 c_num_Kinds_2 s (fun s => num_Kinds_1 s.h) (exitTo 0 (fun s => num_Kinds_1 s.h) (fun _ _ => none)) (finP [.t 2, .t 3, .t 4]) = num_Kinds_2 (tget s.t 5) (tget s.t 33) s.h :=
  by kernel_rfl

noncomputable def num_Kinds_3 (v5 : AV) (h : Heap) : Option (Ex AV) :=
ob (evBin .eql v5 (AV.int .i64 116)) fun v34 =>
cnd v34
 ((num_Kinds_2 v5 v34 h))
 (ob (evBin .eql v5 (AV.int .i64 145)) fun v35 =>
cnd v35
 ((num_Kinds_2 v5 v35 h))
 (ob (evBin .eql v5 (AV.int .i64 146)) fun v36 =>
cnd v36
 ((num_Kinds_2 v5 v36 h))
 (ob (evBin .eql v5 (AV.int .i64 147)) fun v37 =>
(num_Kinds_2 v5 v37 h))))

theorem num_Kinds_3_eq (s : St) : W E 0 c_num_Kinds_3 s (fun s => num_Kinds_1 s.h) (exitTo 0 (fun s => num_Kinds_1 s.h) (fun _ _ => none)) (finP [.t 2, .t 3, .t 4]) = num_Kinds_3 (tget s.t 5) s.h :=
  (W_seq (k := (fun s => num_Kinds_2 (tget s.t 5) (tget s.t 33) s.h)) (fun s => num_Kinds_2_eq s)).trans (by kernel_rfl)

noncomputable def num_Kinds_4 (v5 v31 : AV) (h : Heap) : Option (Ex AV) :=
cnd v31
 ((expo1 h (.tup [(AV.int .i64 2), (AV.int .i64 2), (AV.int .i64 1)])))
 ((num_Kinds_3 v5 h))

theorem num_Kinds_4_eq (s : St) : W E 0 c_num_Kinds_4 s (fun s => num_Kinds_1 s.h) (exitTo 0 (fun s => num_Kinds_1 s.h) (fun _ _ => none)) (finP [.t 2, .t 3, .t 4]) = num_Kinds_4 (tget s.t 5) (tget s.t 31) s.h :=
  (W_cond rfl (num_Kinds_3_eq s)).trans (by kernel_rfl)

noncomputable def num_Kinds_5 (v5 : AV) (h : Heap) : Option (Ex AV) :=
ob (evBin .eql v5 (AV.int .i64 148)) fun v32 =>
(num_Kinds_4 v5 v32 h)

theorem num_Kinds_5_eq (s : St) : W E 0 c_num_Kinds_5 s (fun s => num_Kinds_1 s.h) (exitTo 0 (fun s => num_Kinds_1 s.h) (fun _ _ => none)) (finP [.t 2, .t 3, .t 4]) = num_Kinds_5 (tget s.t 5) s.h :=
  (W_seq (k := (fun s => num_Kinds_4 (tget s.t 5) (tget s.t 31) s.h)) (fun s => num_Kinds_4_eq s)).trans (by kernel_rfl)

noncomputable def num_Kinds_6 (v5 v27 : AV) (h : Heap) : Option (Ex AV) :=
cnd v27
 ((expo1 h (.tup [(AV.int .i64 2), (AV.int .i64 1), (AV.int .i64 2)])))
 ((num_Kinds_5 v5 h))

theorem num_Kinds_6_eq (s : St) : W E 0 c_num_Kinds_6 s (fun s => num_Kinds_1 s.h) (exitTo 0 (fun s => num_Kinds_1 s.h) (fun _ _ => none)) (finP [.t 2, .t 3, .t 4]) = num_Kinds_6 (tget s.t 5) (tget s.t 27) s.h :=
  (W_cond rfl (num_Kinds_5_eq s)).trans (by kernel_rfl)

noncomputable def num_Kinds_7 (v5 : AV) (h : Heap) : Option (Ex AV) :=
ob (evBin .eql v5 (AV.int .i64 121)) fun v28 =>
cnd v28
 ((num_Kinds_6 v5 v28 h))
 (ob (evBin .eql v5 (AV.int .i64 123)) fun v29 =>
cnd v29
 ((num_Kinds_6 v5 v29 h))
 (ob (evBin .eql v5 (AV.int .i64 125)) fun v30 =>
(num_Kinds_6 v5 v30 h)))

theorem num_Kinds_7_eq (s : St) : W E 0 c_num_Kinds_7 s (fun s => num_Kinds_1 s.h) (exitTo 0 (fun s => num_Kinds_1 s.h) (fun _ _ => none)) (finP [.t 2, .t 3, .t 4]) = num_Kinds_7 (tget s.t 5) s.h :=
  (W_seq (k := (fun s => num_Kinds_6 (tget s.t 5) (tget s.t 27) s.h)) (fun s => num_Kinds_6_eq s)).trans (by kernel_rfl)

noncomputable def num_Kinds_8 (v5 v18 : AV) (h : Heap) : Option (Ex AV) :=
cnd v18
 ((expo1 h (.tup [(AV.int .i64 2), (AV.int .i64 2), (AV.int .i64 2)])))
 ((num_Kinds_7 v5 h))

theorem num_Kinds_8_eq (s : St) : W E 0 c_num_Kinds_8 s (fun s => num_Kinds_1 s.h) (exitTo 0 (fun s => num_Kinds_1 s.h) (fun _ _ => none)) (finP [.t 2, .t 3, .t 4]) = num_Kinds_8 (tget s.t 5) (tget s.t 18) s.h :=
  (W_cond rfl (num_Kinds_7_eq s)).trans (by kernel_rfl)

noncomputable def num_Kinds_9 (v5 : AV) (h : Heap) : Option (Ex AV) :=
ob (evBin .eql v5 (AV.int .i64 97)) fun v19 =>
cnd v19
 ((num_Kinds_8 v5 v19 h))
 (ob (evBin .eql v5 (AV.int .i64 101)) fun v20 =>
cnd v20
 ((num_Kinds_8 v5 v20 h))
 (ob (evBin .eql v5 (AV.int .i64 105)) fun v21 =>
cnd v21
 ((num_Kinds_8 v5 v21 h))
 (ob (evBin .eql v5 (AV.int .i64 109)) fun v22 =>
cnd v22
 ((num_Kinds_8 v5 v22 h))
 (ob (evBin .eql v5 (AV.int .i64 113)) fun v23 =>
cnd v23
 ((num_Kinds_8 v5 v23 h))
 (ob (evBin .eql v5 (AV.int .i64 127)) fun v24 =>
cnd v24
 ((num_Kinds_8 v5 v24 h))
 (ob (evBin .eql v5 (AV.int .i64 129)) fun v25 =>
cnd v25
 ((num_Kinds_8 v5 v25 h))
 (ob (evBin .eql v5 (AV.int .i64 131)) fun v26 =>
(num_Kinds_8 v5 v26 h))))))))

theorem num_Kinds_9_eq (s : St) : W E 0 c_num_Kinds_9 s (fun s => num_Kinds_1 s.h) (exitTo 0 (fun s => num_Kinds_1 s.h) (fun _ _ => none)) (finP [.t 2, .t 3, .t 4]) = num_Kinds_9 (tget s.t 5) s.h :=
  (W_seq (k := (fun s => num_Kinds_8 (tget s.t 5) (tget s.t 18) s.h)) (fun s => num_Kinds_8_eq s)).trans (by kernel_rfl)

noncomputable def num_Kinds_10 (v5 v6 : AV) (h : Heap) : Option (Ex AV) :=
cnd v6
 ((expo1 h (.tup [(AV.int .i64 1), (AV.int .i64 1), (AV.int .i64 1)])))
 ((num_Kinds_9 v5 h))

theorem num_Kinds_10_eq (s : St) : W E 0 c_num_Kinds_10 s (fun s => num_Kinds_1 s.h) (exitTo 0 (fun s => num_Kinds_1 s.h) (fun _ _ => none)) (finP [.t 2, .t 3, .t 4]) = num_Kinds_10 (tget s.t 5) (tget s.t 6) s.h :=
  (W_cond rfl (num_Kinds_9_eq s)).trans (by kernel_rfl)

noncomputable def num_Kinds_11 (v5 : AV) (h : Heap) : Option (Ex AV) :=
ob (evBin .eql v5 (AV.int .i64 96)) fun v7 =>
cnd v7
 ((num_Kinds_10 v5 v7 h))
 (ob (evBin .eql v5 (AV.int .i64 100)) fun v8 =>
cnd v8
 ((num_Kinds_10 v5 v8 h))
 (ob (evBin .eql v5 (AV.int .i64 104)) fun v9 =>
cnd v9
 ((num_Kinds_10 v5 v9 h))
 (ob (evBin .eql v5 (AV.int .i64 108)) fun v10 =>
cnd v10
 ((num_Kinds_10 v5 v10 h))
 (ob (evBin .eql v5 (AV.int .i64 112)) fun v11 =>
cnd v11
 ((num_Kinds_10 v5 v11 h))
 (ob (evBin .eql v5 (AV.int .i64 120)) fun v12 =>
cnd v12
 ((num_Kinds_10 v5 v12 h))
 (ob (evBin .eql v5 (AV.int .i64 122)) fun v13 =>
cnd v13
 ((num_Kinds_10 v5 v13 h))
 (ob (evBin .eql v5 (AV.int .i64 124)) fun v14 =>
cnd v14
 ((num_Kinds_10 v5 v14 h))
 (ob (evBin .eql v5 (AV.int .i64 126)) fun v15 =>
cnd v15
 ((num_Kinds_10 v5 v15 h))
 (ob (evBin .eql v5 (AV.int .i64 128)) fun v16 =>
cnd v16
 ((num_Kinds_10 v5 v16 h))
 (ob (evBin .eql v5 (AV.int .i64 130)) fun v17 =>
(num_Kinds_10 v5 v17 h)))))))))))

theorem num_Kinds_11_eq (s : St) : W E 0 c_num_Kinds_11 s (fun s => num_Kinds_1 s.h) (exitTo 0 (fun s => num_Kinds_1 s.h) (fun _ _ => none)) (finP [.t 2, .t 3, .t 4]) = num_Kinds_11 (tget s.t 5) s.h :=
  (W_seq (k := (fun s => num_Kinds_10 (tget s.t 5) (tget s.t 6) s.h)) (fun s => num_Kinds_10_eq s)).trans (by kernel_rfl)

theorem num_Kinds_12_eq (s : St) : W E 0 c_num_Kinds_12 s (fun s => num_Kinds_1 s.h) (fun _ _ => none) (finP [.t 2, .t 3, .t 4]) = num_Kinds_11 (tget s.t 5) s.h :=
  W_block.trans (num_Kinds_11_eq s)

noncomputable def num_Kinds_13 (v0 : AV) (h : Heap) : Option (Ex AV) :=
(num_Kinds_11 v0 h)

theorem num_Kinds_13_eq (s : St) : W E 0 c_num_Kinds_13 s (fun s => num_Kinds_1 s.h) (fun _ _ => none) (finP [.t 2, .t 3, .t 4]) = num_Kinds_13 (tget s.t 0) s.h :=
  (W_seq (k := (fun s => num_Kinds_11 (tget s.t 5) s.h)) (fun s => num_Kinds_12_eq s)).trans (by kernel_rfl)

theorem num_Kinds_14_eq (s : St) : W E 0 c_num_Kinds_14 s (finP [.t 2, .t 3, .t 4]) (fun _ _ => none) (finP [.t 2, .t 3, .t 4]) = num_Kinds_13 (tget s.t 0) s.h :=
  (W_seq (k := (fun s => num_Kinds_1 s.h)) (fun s => num_Kinds_1_eq s)).trans (num_Kinds_13_eq s)

noncomputable def num_Kinds_15 (v0 : AV) (h : Heap) : Option (Ex AV) :=
(num_Kinds_13 v0 h)

theorem num_Kinds_15_eq (s : St) : W E 0 c_num_Kinds_15 s (finP [.t 2, .t 3, .t 4]) (fun _ _ => none) (finP [.t 2, .t 3, .t 4]) = num_Kinds_15 (tget s.t 0) s.h :=
  (W_seq (k := (fun s => num_Kinds_13 (tget s.t 0) s.h)) (fun s => num_Kinds_14_eq s)).trans (by kernel_rfl)

@[simp] theorem pure_50 : E.pure 50 = true := rfl

theorem x_num_Kinds (v0 : AV) : (callW E).p 50 [v0] = num_Kinds_15 v0 [] :=
  (callP_W (cf := c_num_Kinds) (by kernel_rfl) rfl).trans ((num_Kinds_15_eq _).trans (by kernel_rfl))


end Go.Vm
