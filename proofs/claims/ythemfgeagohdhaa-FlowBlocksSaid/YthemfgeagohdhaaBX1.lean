/- Functions of the machine as plain functions that go on with what follows. -/
import Derived.Test.YthemfgeagohdhaaBEnv
set_option linter.unusedSimpArgs false
set_option linter.unusedVariables false
set_option linter.unusedSectionVars false
namespace Go.Vm
noncomputable def q45_1 (h : Heap) : OX :=
(expo1 h (.tup [(AV.int .i64 0), (AV.int .i64 0), (AV.int .i64 0)]))
noncomputable def q45_1k (s : St) : OX := q45_1 s.h
theorem q45_1_eq (s : St) : W E 0 c_q45_1 s (finP [.t 2, .t 3, .t 4]) xN (finP [.t 2, .t 3, .t 4]) = q45_1k s :=
  by kernel_rfl
noncomputable def q45_2 (v5 v33 : AV) (h : Heap) : OX :=
cnd v33
 ((expo1 h (.tup [(AV.int .i64 1), (AV.int .i64 0), (AV.int .i64 1)])))
 (ob (evBin .eql v5 (AV.int .i64 117)) fun v39 =>
cnd v39
 ((expo1 h (.tup [(AV.int .i64 2), (AV.int .i64 0), (AV.int .i64 2)])))
 (ob (evBin .eql v5 (AV.int .i64 133)) fun v41 =>
cnd v41
 ((expo1 h (.tup [(AV.int .i64 1), (AV.int .i64 0), (AV.int .i64 2)])))
 (ob (evBin .eql v5 (AV.int .i64 136)) fun v43 =>
cnd v43
 ((expo1 h (.tup [(AV.int .i64 2), (AV.int .i64 0), (AV.int .i64 1)])))
 ((q45_1 h)))))
noncomputable def q45_2k (s : St) : OX := q45_2 (s 5) (s 33) s.h
theorem q45_2_eq (s : St) : W E 0 c_q45_2 s q45_1k (exitTo 0 q45_1k xN) (finP [.t 2, .t 3, .t 4]) = q45_2k s :=
  by kernel_rfl
noncomputable def q45_3 (v5 : AV) (h : Heap) : OX :=
ob (evBin .eql v5 (AV.int .i64 116)) fun v34 =>
cnd v34
 ((q45_2 v5 v34 h))
 (ob (evBin .eql v5 (AV.int .i64 145)) fun v35 =>
cnd v35
 ((q45_2 v5 v35 h))
 (ob (evBin .eql v5 (AV.int .i64 146)) fun v36 =>
cnd v36
 ((q45_2 v5 v36 h))
 (ob (evBin .eql v5 (AV.int .i64 147)) fun v37 =>
(q45_2 v5 v37 h))))
noncomputable def q45_3k (s : St) : OX := q45_3 (s 5) s.h
theorem q45_3_eq (s : St) : W E 0 c_q45_3 s q45_1k (exitTo 0 q45_1k xN) (finP [.t 2, .t 3, .t 4]) = q45_3k s :=
  (W_seq (k := q45_2k) (fun s => q45_2_eq s)).trans (by kernel_rfl)
noncomputable def q45_4 (v5 v31 : AV) (h : Heap) : OX :=
cnd v31
 ((expo1 h (.tup [(AV.int .i64 2), (AV.int .i64 2), (AV.int .i64 1)])))
 ((q45_3 v5 h))
noncomputable def q45_4k (s : St) : OX := q45_4 (s 5) (s 31) s.h
theorem q45_4_eq (s : St) : W E 0 c_q45_4 s q45_1k (exitTo 0 q45_1k xN) (finP [.t 2, .t 3, .t 4]) = q45_4k s :=
  (W_cond rfl (q45_3_eq s)).trans (by kernel_rfl)
noncomputable def q45_5 (v5 : AV) (h : Heap) : OX :=
ob (evBin .eql v5 (AV.int .i64 148)) fun v32 =>
(q45_4 v5 v32 h)
noncomputable def q45_5k (s : St) : OX := q45_5 (s 5) s.h
theorem q45_5_eq (s : St) : W E 0 c_q45_5 s q45_1k (exitTo 0 q45_1k xN) (finP [.t 2, .t 3, .t 4]) = q45_5k s :=
  (W_seq (k := q45_4k) (fun s => q45_4_eq s)).trans (by kernel_rfl)
noncomputable def q45_6 (v5 v27 : AV) (h : Heap) : OX :=
cnd v27
 ((expo1 h (.tup [(AV.int .i64 2), (AV.int .i64 1), (AV.int .i64 2)])))
 ((q45_5 v5 h))
noncomputable def q45_6k (s : St) : OX := q45_6 (s 5) (s 27) s.h
theorem q45_6_eq (s : St) : W E 0 c_q45_6 s q45_1k (exitTo 0 q45_1k xN) (finP [.t 2, .t 3, .t 4]) = q45_6k s :=
  (W_cond rfl (q45_5_eq s)).trans (by kernel_rfl)
noncomputable def q45_7 (v5 : AV) (h : Heap) : OX :=
ob (evBin .eql v5 (AV.int .i64 121)) fun v28 =>
cnd v28
 ((q45_6 v5 v28 h))
 (ob (evBin .eql v5 (AV.int .i64 123)) fun v29 =>
cnd v29
 ((q45_6 v5 v29 h))
 (ob (evBin .eql v5 (AV.int .i64 125)) fun v30 =>
(q45_6 v5 v30 h)))
noncomputable def q45_7k (s : St) : OX := q45_7 (s 5) s.h
theorem q45_7_eq (s : St) : W E 0 c_q45_7 s q45_1k (exitTo 0 q45_1k xN) (finP [.t 2, .t 3, .t 4]) = q45_7k s :=
  (W_seq (k := q45_6k) (fun s => q45_6_eq s)).trans (by kernel_rfl)
noncomputable def q45_8 (v5 v18 : AV) (h : Heap) : OX :=
cnd v18
 ((expo1 h (.tup [(AV.int .i64 2), (AV.int .i64 2), (AV.int .i64 2)])))
 ((q45_7 v5 h))
noncomputable def q45_8k (s : St) : OX := q45_8 (s 5) (s 18) s.h
theorem q45_8_eq (s : St) : W E 0 c_q45_8 s q45_1k (exitTo 0 q45_1k xN) (finP [.t 2, .t 3, .t 4]) = q45_8k s :=
  (W_cond rfl (q45_7_eq s)).trans (by kernel_rfl)
noncomputable def q45_9 (v5 : AV) (h : Heap) : OX :=
ob (evBin .eql v5 (AV.int .i64 97)) fun v19 =>
cnd v19
 ((q45_8 v5 v19 h))
 (ob (evBin .eql v5 (AV.int .i64 101)) fun v20 =>
cnd v20
 ((q45_8 v5 v20 h))
 (ob (evBin .eql v5 (AV.int .i64 105)) fun v21 =>
cnd v21
 ((q45_8 v5 v21 h))
 (ob (evBin .eql v5 (AV.int .i64 109)) fun v22 =>
cnd v22
 ((q45_8 v5 v22 h))
 (ob (evBin .eql v5 (AV.int .i64 113)) fun v23 =>
cnd v23
 ((q45_8 v5 v23 h))
 (ob (evBin .eql v5 (AV.int .i64 127)) fun v24 =>
cnd v24
 ((q45_8 v5 v24 h))
 (ob (evBin .eql v5 (AV.int .i64 129)) fun v25 =>
cnd v25
 ((q45_8 v5 v25 h))
 (ob (evBin .eql v5 (AV.int .i64 131)) fun v26 =>
(q45_8 v5 v26 h))))))))
noncomputable def q45_9k (s : St) : OX := q45_9 (s 5) s.h
theorem q45_9_eq (s : St) : W E 0 c_q45_9 s q45_1k (exitTo 0 q45_1k xN) (finP [.t 2, .t 3, .t 4]) = q45_9k s :=
  (W_seq (k := q45_8k) (fun s => q45_8_eq s)).trans (by kernel_rfl)
noncomputable def q45_10 (v5 v6 : AV) (h : Heap) : OX :=
cnd v6
 ((expo1 h (.tup [(AV.int .i64 1), (AV.int .i64 1), (AV.int .i64 1)])))
 ((q45_9 v5 h))
noncomputable def q45_10k (s : St) : OX := q45_10 (s 5) (s 6) s.h
theorem q45_10_eq (s : St) : W E 0 c_q45_10 s q45_1k (exitTo 0 q45_1k xN) (finP [.t 2, .t 3, .t 4]) = q45_10k s :=
  (W_cond rfl (q45_9_eq s)).trans (by kernel_rfl)
noncomputable def q45_11 (v5 : AV) (h : Heap) : OX :=
ob (evBin .eql v5 (AV.int .i64 96)) fun v7 =>
cnd v7
 ((q45_10 v5 v7 h))
 (ob (evBin .eql v5 (AV.int .i64 100)) fun v8 =>
cnd v8
 ((q45_10 v5 v8 h))
 (ob (evBin .eql v5 (AV.int .i64 104)) fun v9 =>
cnd v9
 ((q45_10 v5 v9 h))
 (ob (evBin .eql v5 (AV.int .i64 108)) fun v10 =>
cnd v10
 ((q45_10 v5 v10 h))
 (ob (evBin .eql v5 (AV.int .i64 112)) fun v11 =>
cnd v11
 ((q45_10 v5 v11 h))
 (ob (evBin .eql v5 (AV.int .i64 120)) fun v12 =>
cnd v12
 ((q45_10 v5 v12 h))
 (ob (evBin .eql v5 (AV.int .i64 122)) fun v13 =>
cnd v13
 ((q45_10 v5 v13 h))
 (ob (evBin .eql v5 (AV.int .i64 124)) fun v14 =>
cnd v14
 ((q45_10 v5 v14 h))
 (ob (evBin .eql v5 (AV.int .i64 126)) fun v15 =>
cnd v15
 ((q45_10 v5 v15 h))
 (ob (evBin .eql v5 (AV.int .i64 128)) fun v16 =>
cnd v16
 ((q45_10 v5 v16 h))
 (ob (evBin .eql v5 (AV.int .i64 130)) fun v17 =>
(q45_10 v5 v17 h)))))))))))
noncomputable def q45_11k (s : St) : OX := q45_11 (s 5) s.h
theorem q45_11_eq (s : St) : W E 0 c_q45_11 s q45_1k (exitTo 0 q45_1k xN) (finP [.t 2, .t 3, .t 4]) = q45_11k s :=
  (W_seq (k := q45_10k) (fun s => q45_10_eq s)).trans (by kernel_rfl)
theorem q45_12_eq (s : St) : W E 0 c_q45_12 s q45_1k xN (finP [.t 2, .t 3, .t 4]) = q45_11k s :=
  W_block.trans (q45_11_eq s)
noncomputable def q45_13 (v0 : AV) (h : Heap) : OX :=
(q45_11 v0 h)
noncomputable def q45_13k (s : St) : OX := q45_13 (s 0) s.h
theorem q45_13_eq (s : St) : W E 0 c_q45_13 s q45_1k xN (finP [.t 2, .t 3, .t 4]) = q45_13k s :=
  (W_seq (k := q45_11k) (fun s => q45_12_eq s)).trans (by kernel_rfl)
theorem q45_14_eq (s : St) : W E 0 c_q45_14 s (finP [.t 2, .t 3, .t 4]) xN (finP [.t 2, .t 3, .t 4]) = q45_13k s :=
  (W_seq (k := q45_1k) (fun s => q45_1_eq s)).trans (q45_13_eq s)
noncomputable def q45_15 (v0 : AV) (h : Heap) : OX :=
(q45_13 v0 h)
noncomputable def q45_15k (s : St) : OX := q45_15 (s 0) s.h
theorem q45_15_eq (s : St) : W E 0 c_q45_15 s (finP [.t 2, .t 3, .t 4]) xN (finP [.t 2, .t 3, .t 4]) = q45_15k s :=
  (W_seq (k := q45_13k) (fun s => q45_14_eq s)).trans (by kernel_rfl)
@[simp] theorem pure_50 : E.pure 50 = true := rfl
theorem x_q45 (v0 : AV) : (callW E).p 50 [v0] = q45_15 v0 [] :=
  (callP_W (cf := c_q45) (by kernel_rfl) rfl).trans ((q45_15_eq _).trans (by kernel_rfl))
noncomputable def q2_1 (v0 : AV) (h : Heap) : OX :=
ob (evBin .neq v0 (AV.str [])) fun v4 =>
gb v4 true (some v0) fun v6 =>
gh v4 true (callAny E (callW E) 0 none true 44 [v6] h) h fun v7 h1 =>
gb v4 true (some v0) fun v8 =>
gb v4 true (evLen 0 v8 h1) fun v9 =>
gb v4 true (evBin .eql v7 v9) fun v10 =>
ob (evPick v4 v10 (AV.bool false)) fun v11 =>
(expo1 h1 v11)
noncomputable def q2_1k (s : St) : OX := q2_1 (s 0) s.h
theorem q2_1_eq (s : St) : W E 0 c_q2_1 s (finP [.t 2]) xN (finP [.t 2]) = q2_1k s :=
  by kernel_rfl
@[simp] theorem pure_37 : E.pure 37 = true := rfl
theorem x_q2 (v0 : AV) : (callW E).p 37 [v0] = q2_1 v0 [] :=
  (callP_W (cf := c_q2) (by kernel_rfl) rfl).trans ((q2_1_eq _).trans (by kernel_rfl))
noncomputable def q22_1 (v2 : AV) (h : Heap) : OX :=
ob (evBuild [(.int .i64 0), (.int .i64 0), (.int .i64 0), (.int .i64 0)] []) fun v73 =>
oh (evSt 4 v2 v73 h) fun _ h1 =>
(ob (evLd true 4 v2 h1) fun r0 =>
  expo1 h1 (.tup [r0, (AV.bool false)]))
noncomputable def q22_1k (s : St) : OX := q22_1 (s 2) s.h
theorem q22_1_eq (s : St) : W E 0 c_q22_1 s (finP [.cell 2 true 4, .t 3]) xN (finP [.cell 2 true 4, .t 3]) = q22_1k s :=
  by kernel_rfl
noncomputable def q22_2 (v1 v2 v4 : AV) (h : Heap) : OX :=
ob (evBuild [(.int .i64 0), (.int .i64 0), (.int .i64 0), (.int .i64 0)] [(0, 1, (AV.int .i64 (-1))), (1, 1, (AV.int .i64 3)), (2, 1, v4), (3, 1, (AV.int .i64 (-1)))]) fun v16 =>
ob (evFa 5 v1) fun v17 =>
ob (evLd false 1 v17 h) fun v18 =>
ob (evBin .eql v18 (AV.int .i64 0)) fun v19 =>
ofp (fgd v19 false (some ([], []))) fun f6 =>
gb v19 false (evFa 5 v1) fun v21 =>
ofp (fgd v19 false (some (ids1 v21, []))) fun f7 =>
gb v19 false (evLd false 1 v21 h) fun v22 =>
ofp (fgd v19 false (some ([], []))) fun f8 =>
gb v19 false (evBin .eql v22 (AV.int .i64 1)) fun v23 =>
ob (evPick v19 (AV.bool true) v23) fun v24 =>
oh (evSt 4 v2 v16 h) fun _ h2 =>
okK (pairsOk [([], []), ([], []), ([], []), (ids1 v17, []), ([], []), ([], []), f6, f7, f8, ([], []), ([], ids1 v2), ([], [])] [(7, 10)]) <|
(ob (evLd true 4 v2 h2) fun r0 =>
  expo1 h2 (.tup [r0, v24]))
noncomputable def q22_2k (s : St) : OX := q22_2 (s 1) (s 2) (s 4) s.h
theorem q22_2_eq (s : St) : W E 0 c_q22_2 s q22_1k (exitTo 0 q22_1k xN) (finP [.cell 2 true 4, .t 3]) = q22_2k s :=
  by kernel_rfl
noncomputable def q22_3 (v1 v2 v4 : AV) (h : Heap) : OX :=
ob (evFa 3 v1) fun v12 =>
ob (evLd false 1 v12 h) fun v13 =>
ob (evBin .neq v13 (AV.int .i64 (-1))) fun v14 =>
cnd v14
 ((q22_2 v1 v2 (AV.int .i64 3) h))
 ((q22_2 v1 v2 v4 h))
noncomputable def q22_3k (s : St) : OX := q22_3 (s 1) (s 2) (s 4) s.h
theorem q22_3_eq (s : St) : W E 0 c_q22_3 s q22_1k (exitTo 0 q22_1k xN) (finP [.cell 2 true 4, .t 3]) = q22_3k s :=
  (W_seq (k := q22_2k) (fun s => q22_2_eq s)).trans (by kernel_rfl)
noncomputable def q22_4 (v1 v2 : AV) (h : Heap) : OX :=
(q22_3 v1 v2 (AV.int .i64 (-1)) h)
noncomputable def q22_4k (s : St) : OX := q22_4 (s 1) (s 2) s.h
theorem q22_4_eq (s : St) : W E 0 c_q22_4 s q22_1k (exitTo 0 q22_1k xN) (finP [.cell 2 true 4, .t 3]) = q22_4k s :=
  (W_seq (k := q22_3k) (fun s => q22_3_eq s)).trans (by kernel_rfl)
noncomputable def q22_5 (v2 v5 : AV) (h : Heap) : OX :=
ob (evBuild [(.int .i64 0), (.int .i64 0), (.int .i64 0), (.int .i64 0)] [(0, 1, (AV.int .i64 (-1))), (1, 1, v5), (2, 1, (AV.int .i64 (-1))), (3, 1, (AV.int .i64 (-1)))]) fun v31 =>
oh (evSt 4 v2 v31 h) fun _ h3 =>
(ob (evLd true 4 v2 h3) fun r0 =>
  expo1 h3 (.tup [r0, (AV.bool true)]))
noncomputable def q22_5k (s : St) : OX := q22_5 (s 2) (s 5) s.h
theorem q22_5_eq (s : St) : W E 0 c_q22_5 s q22_1k (exitTo 0 q22_1k xN) (finP [.cell 2 true 4, .t 3]) = q22_5k s :=
  by kernel_rfl
noncomputable def q22_6 (v1 v2 v5 : AV) (h : Heap) : OX :=
ob (evFa 2 v1) fun v27 =>
ob (evLd false 1 v27 h) fun v28 =>
ob (evBin .neq v28 (AV.int .i64 (-1))) fun v29 =>
cnd v29
 ((q22_5 v2 (AV.int .i64 0) h))
 ((q22_5 v2 v5 h))
noncomputable def q22_6k (s : St) : OX := q22_6 (s 1) (s 2) (s 5) s.h
theorem q22_6_eq (s : St) : W E 0 c_q22_6 s q22_1k (exitTo 0 q22_1k xN) (finP [.cell 2 true 4, .t 3]) = q22_6k s :=
  (W_seq (k := q22_5k) (fun s => q22_5_eq s)).trans (by kernel_rfl)
noncomputable def q22_7 (v1 v2 : AV) (h : Heap) : OX :=
(q22_6 v1 v2 (AV.int .i64 (-1)) h)
noncomputable def q22_7k (s : St) : OX := q22_7 (s 1) (s 2) s.h
theorem q22_7_eq (s : St) : W E 0 c_q22_7 s q22_1k (exitTo 0 q22_1k xN) (finP [.cell 2 true 4, .t 3]) = q22_7k s :=
  (W_seq (k := q22_6k) (fun s => q22_6_eq s)).trans (by kernel_rfl)
noncomputable def q22_8 (v1 v2 v6 : AV) (h : Heap) : OX :=
ob (evFa 0 v1) fun v40 =>
ob (evLd false 1 v40 h) fun v41 =>
ob (evBin .eql v41 (AV.int .i64 23)) fun v42 =>
gb v42 false (evFa 0 v1) fun v44 =>
gb v42 false (evLd false 1 v44 h) fun v45 =>
gb v42 false (evBin .eql v45 (AV.int .i64 26)) fun v46 =>
ob (evPick v42 (AV.bool true) v46) fun v47 =>
gb v47 false (evFa 8 v1) fun v49 =>
gb v47 false (evLd false 1 v49 h) fun v50 =>
gb v47 false (evLen 1 v50 h) fun v51 =>
gb v47 false (evBin .gtr v51 (AV.int .i64 0)) fun v52 =>
ob (evPick v47 (AV.bool true) v52) fun v53 =>
ob (evBuild [(.int .i64 0), (.int .i64 0), (.int .i64 0), (.int .i64 0)] [(0, 1, v6), (1, 1, (AV.int .i64 (-1))), (2, 1, (AV.int .i64 (-1))), (3, 1, (AV.int .i64 (-1)))]) fun v55 =>
ofp (fgd v53 true (some ([], []))) fun f4 =>
gb v53 true (evFa 5 v1) fun v58 =>
ofp (fgd v53 true (some (ids1 v58, []))) fun f5 =>
gb v53 true (evLd false 1 v58 h) fun v59 =>
ofp (fgd v53 true (some ([], []))) fun f6 =>
gb v53 true (evBin .geq v59 (AV.int .i64 0)) fun v60 =>
ofp (fgd v53 true (some ([], []))) fun f7 =>
gb v53 true (some v60) fun v61 =>
ofp (fgd v61 false (some ([], []))) fun f8 =>
gb v61 false (evFa 0 v1) fun v62 =>
ofp (fgd v61 false (some (ids1 v62, []))) fun f9 =>
gb v61 false (evLd false 1 v62 h) fun v63 =>
ofp (fgd v61 false (some ([], []))) fun f10 =>
gb v61 false (evBin .eql v63 (AV.int .i64 25)) fun v64 =>
ofp (fgd v53 true (some ([], []))) fun f11 =>
gb v53 true (evPick v61 (AV.bool true) v64) fun v65 =>
ob (evPick v53 v65 (AV.bool false)) fun v66 =>
ofp (fgd v66 true (some ([], []))) fun f14 =>
gb v66 true (evFa 8 v1) fun v68 =>
ofp (fgd v66 true (some (ids1 v68, []))) fun f15 =>
gb v66 true (evLd false 1 v68 h) fun v69 =>
ofp (fgd v66 true (some (ids1 v69, []))) fun f16 =>
gb v66 true (evLen 1 v69 h) fun v70 =>
ofp (fgd v66 true (some ([], []))) fun f17 =>
gb v66 true (evBin .leq v70 (AV.int .i64 21)) fun v71 =>
ob (evPick v66 v71 (AV.bool false)) fun v72 =>
oh (evSt 4 v2 v55 h) fun _ h4 =>
okK (pairsOk [([], []), ([], []), ([], []), ([], []), f4, f5, f6, f7, f8, f9, f10, f11, ([], []), ([], []), f14, f15, f16, f17, ([], []), ([], ids1 v2), ([], [])] [(15, 19), (16, 19)]) <|
(ob (evLd true 4 v2 h4) fun r0 =>
  expo1 h4 (.tup [r0, v72]))
noncomputable def q22_8k (s : St) : OX := q22_8 (s 1) (s 2) (s 6) s.h
theorem q22_8_eq (s : St) : W E 0 c_q22_8 s q22_1k (exitTo 0 q22_1k xN) (finP [.cell 2 true 4, .t 3]) = q22_8k s :=
  by kernel_rfl
noncomputable def q22_9 (v1 v2 v6 : AV) (h : Heap) : OX :=
ob (evFa 1 v1) fun v37 =>
ob (evLd false 1 v37 h) fun v38 =>
ob (evBin .neq v38 (AV.int .i64 (-1))) fun v39 =>
cnd v39
 ((q22_8 v1 v2 (AV.int .i64 0) h))
 ((q22_8 v1 v2 v6 h))
noncomputable def q22_9k (s : St) : OX := q22_9 (s 1) (s 2) (s 6) s.h
theorem q22_9_eq (s : St) : W E 0 c_q22_9 s q22_1k (exitTo 0 q22_1k xN) (finP [.cell 2 true 4, .t 3]) = q22_9k s :=
  (W_seq (k := q22_8k) (fun s => q22_8_eq s)).trans (by kernel_rfl)
noncomputable def q22_10 (v1 v2 : AV) (h : Heap) : OX :=
(q22_9 v1 v2 (AV.int .i64 (-1)) h)
noncomputable def q22_10k (s : St) : OX := q22_10 (s 1) (s 2) s.h
theorem q22_10_eq (s : St) : W E 0 c_q22_10 s q22_1k (exitTo 0 q22_1k xN) (finP [.cell 2 true 4, .t 3]) = q22_10k s :=
  (W_seq (k := q22_9k) (fun s => q22_9_eq s)).trans (by kernel_rfl)
noncomputable def q22_11 (v1 v2 v32 : AV) (h : Heap) : OX :=
cnd v32
 ((q22_10 v1 v2 h))
 ((q22_1 v2 h))
noncomputable def q22_11k (s : St) : OX := q22_11 (s 1) (s 2) (s 32) s.h
theorem q22_11_eq (s : St) : W E 0 c_q22_11 s q22_1k (exitTo 0 q22_1k xN) (finP [.cell 2 true 4, .t 3]) = q22_11k s :=
  (W_cond (q22_10_eq s) rfl).trans (by kernel_rfl)
noncomputable def q22_12 (v1 v2 v9 : AV) (h : Heap) : OX :=
ob (evBin .eql v9 (AV.int .i64 23)) fun v33 =>
cnd v33
 ((q22_11 v1 v2 v33 h))
 (ob (evBin .eql v9 (AV.int .i64 24)) fun v34 =>
cnd v34
 ((q22_11 v1 v2 v34 h))
 (ob (evBin .eql v9 (AV.int .i64 25)) fun v35 =>
cnd v35
 ((q22_11 v1 v2 v35 h))
 (ob (evBin .eql v9 (AV.int .i64 26)) fun v36 =>
(q22_11 v1 v2 v36 h))))
noncomputable def q22_12k (s : St) : OX := q22_12 (s 1) (s 2) (s 9) s.h
theorem q22_12_eq (s : St) : W E 0 c_q22_12 s q22_1k (exitTo 0 q22_1k xN) (finP [.cell 2 true 4, .t 3]) = q22_12k s :=
  (W_seq (k := q22_11k) (fun s => q22_11_eq s)).trans (by kernel_rfl)
noncomputable def q22_13 (v1 v2 v9 v25 : AV) (h : Heap) : OX :=
cnd v25
 ((q22_7 v1 v2 h))
 ((q22_12 v1 v2 v9 h))
noncomputable def q22_13k (s : St) : OX := q22_13 (s 1) (s 2) (s 9) (s 25) s.h
theorem q22_13_eq (s : St) : W E 0 c_q22_13 s q22_1k (exitTo 0 q22_1k xN) (finP [.cell 2 true 4, .t 3]) = q22_13k s :=
  (W_cond (q22_7_eq s) (q22_12_eq s)).trans (by kernel_rfl)
noncomputable def q22_14 (v1 v2 v9 : AV) (h : Heap) : OX :=
ob (evBin .eql v9 (AV.int .i64 30)) fun v26 =>
(q22_13 v1 v2 v9 v26 h)
noncomputable def q22_14k (s : St) : OX := q22_14 (s 1) (s 2) (s 9) s.h
theorem q22_14_eq (s : St) : W E 0 c_q22_14 s q22_1k (exitTo 0 q22_1k xN) (finP [.cell 2 true 4, .t 3]) = q22_14k s :=
  (W_seq (k := q22_13k) (fun s => q22_13_eq s)).trans (by kernel_rfl)
noncomputable def q22_15 (v1 v2 v9 v10 : AV) (h : Heap) : OX :=
cnd v10
 ((q22_4 v1 v2 h))
 ((q22_14 v1 v2 v9 h))
noncomputable def q22_15k (s : St) : OX := q22_15 (s 1) (s 2) (s 9) (s 10) s.h
theorem q22_15_eq (s : St) : W E 0 c_q22_15 s q22_1k (exitTo 0 q22_1k xN) (finP [.cell 2 true 4, .t 3]) = q22_15k s :=
  (W_cond (q22_4_eq s) (q22_14_eq s)).trans (by kernel_rfl)
noncomputable def q22_16 (v1 v2 v9 : AV) (h : Heap) : OX :=
ob (evBin .eql v9 (AV.int .i64 29)) fun v11 =>
(q22_15 v1 v2 v9 v11 h)
noncomputable def q22_16k (s : St) : OX := q22_16 (s 1) (s 2) (s 9) s.h
theorem q22_16_eq (s : St) : W E 0 c_q22_16 s q22_1k (exitTo 0 q22_1k xN) (finP [.cell 2 true 4, .t 3]) = q22_16k s :=
  (W_seq (k := q22_15k) (fun s => q22_15_eq s)).trans (by kernel_rfl)
theorem q22_17_eq (s : St) : W E 0 c_q22_17 s q22_1k xN (finP [.cell 2 true 4, .t 3]) = q22_16k s :=
  W_block.trans (q22_16_eq s)
noncomputable def q22_18 (v1 v2 : AV) (h : Heap) : OX :=
ob (evFa 0 v1) fun v8 =>
ob (evLd false 1 v8 h) fun v9 =>
(q22_16 v1 v2 v9 h)
noncomputable def q22_18k (s : St) : OX := q22_18 (s 1) (s 2) s.h
theorem q22_18_eq (s : St) : W E 0 c_q22_18 s q22_1k xN (finP [.cell 2 true 4, .t 3]) = q22_18k s :=
  (W_seq (k := q22_16k) (fun s => q22_17_eq s)).trans (by kernel_rfl)
theorem q22_19_eq (s : St) : W E 0 c_q22_19 s (finP [.cell 2 true 4, .t 3]) xN (finP [.cell 2 true 4, .t 3]) = q22_18k s :=
  (W_seq (k := q22_1k) (fun s => q22_1_eq s)).trans (q22_18_eq s)
noncomputable def q22_20 (v0 : AV) (h : Heap) : OX :=
oh (newC 0 (some 0) (cellsOf v0) h) fun v1 h5 =>
oh (newC 0 (some 1) [(.int .i64 0), (.int .i64 0), (.int .i64 0), (.int .i64 0)] h5) fun v2 h6 =>
(q22_18 v1 v2 h6)
noncomputable def q22_20k (s : St) : OX := q22_20 (s 0) s.h
theorem q22_20_eq (s : St) : W E 0 c_q22_20 s (finP [.cell 2 true 4, .t 3]) xN (finP [.cell 2 true 4, .t 3]) = q22_20k s :=
  (W_seq (k := q22_18k) (fun s => q22_19_eq s)).trans (by kernel_rfl)
@[simp] theorem pure_51 : E.pure 51 = true := rfl
theorem x_q22 (v0 : AV) : (callW E).p 51 [v0] = q22_20 v0 [⟨0, .dead⟩, ⟨0, .dead⟩] :=
  (callP_W (cf := c_q22) (by kernel_rfl) rfl).trans ((q22_20_eq _).trans (by kernel_rfl))
noncomputable def q3_1 (h : Heap) : OX :=
(expo1 h (AV.int .i64 0))
noncomputable def q3_1k (s : St) : OX := q3_1 s.h
theorem q3_1_eq (s : St) : W E 0 c_q3_1 s (finP [.t 2]) xN (finP [.t 2]) = q3_1k s :=
  by kernel_rfl
noncomputable def q3_L2 (v0 v3 v4 : AV) (h : Heap) : OX :=
  W E 0 c_q3_L2 ⟨[(0, v0), (3, v3), (4, v4)], h⟩ q3_1k (exitTo 3 q3_1k (exitTo 2 q3_1k xN)) (finP [.t 2])
noncomputable def q3_L2k (s : St) : OX := q3_L2 (s 0) (s 3) (s 4) s.h
theorem q3_L2_eq (s : St) : W E 0 c_q3_L2 s q3_1k (exitTo 3 q3_1k (exitTo 2 q3_1k xN)) (finP [.t 2]) = q3_L2k s := W_loop_live.trans (by kernel_rfl)
noncomputable def q3_3 (v0 v3 v4 : AV) (h : Heap) : OX :=
ob (evBin .add v4 (AV.int .i64 1)) fun v42 =>
(q3_L2 v0 v3 v42 h)
noncomputable def q3_3k (s : St) : OX := q3_3 (s 0) (s 3) (s 4) s.h
theorem q3_3_eq (s : St) : W E 0 c_q3_3 s q3_L2k (exitTo 3 q3_1k (exitTo 2 q3_1k xN)) (finP [.t 2]) = q3_3k s :=
  by kernel_rfl
noncomputable def q3_4 (h : Heap) : OX :=
(expo1 h (AV.int .i64 0))
noncomputable def q3_4k (s : St) : OX := q3_4 s.h
theorem q3_4_eq (s : St) : W E 0 c_q3_4 s q3_3k (exitTo 4 q3_3k (exitTo 3 q3_1k (exitTo 2 q3_1k xN))) (finP [.t 2]) = q3_4k s :=
  by kernel_rfl
noncomputable def q3_5 (v0 v3 v4 : AV) (h : Heap) : OX :=
ob (evBin .add v3 (AV.int .i64 1)) fun v49 =>
ob (evSls v0 (some v49) (some v4)) fun v51 =>
oh (callAny E (callW E) 0 none true 60 [v51, (AV.bool false)] h) fun v52 h1 =>
cnd v52
 (ob (evBin .add v4 (AV.int .i64 1)) fun v54 =>
(expo1 h1 v54))
 ((q3_4 h1))
noncomputable def q3_5k (s : St) : OX := q3_5 (s 0) (s 3) (s 4) s.h
theorem q3_5_eq (s : St) : W E 0 c_q3_5 s q3_3k (exitTo 4 q3_3k (exitTo 3 q3_1k (exitTo 2 q3_1k xN))) (finP [.t 2]) = q3_5k s :=
  (W_seq (k := q3_4k) (fun s => q3_4_eq s)).trans (by kernel_rfl)
noncomputable def q3_6 (v0 v3 v4 v46 : AV) (h : Heap) : OX :=
cnd v46
 ((q3_5 v0 v3 v4 h))
 ((q3_3 v0 v3 v4 h))
noncomputable def q3_6k (s : St) : OX := q3_6 (s 0) (s 3) (s 4) (s 46) s.h
theorem q3_6_eq (s : St) : W E 0 c_q3_6 s q3_3k (exitTo 4 q3_3k (exitTo 3 q3_1k (exitTo 2 q3_1k xN))) (finP [.t 2]) = q3_6k s :=
  (W_cond (q3_5_eq s) rfl).trans (by kernel_rfl)
noncomputable def q3_7 (v0 v3 v4 : AV) (h : Heap) : OX :=
ob (evIxstr v0 v4) fun v45 =>
ob (evBin .eql v45 (AV.int .u8 59)) fun v46 =>
(q3_6 v0 v3 v4 v46 h)
noncomputable def q3_7k (s : St) : OX := q3_7 (s 0) (s 3) (s 4) s.h
theorem q3_7_eq (s : St) : W E 0 c_q3_7 s q3_3k (exitTo 4 q3_3k (exitTo 3 q3_1k (exitTo 2 q3_1k xN))) (finP [.t 2]) = q3_7k s :=
  (W_seq (k := q3_6k) (fun s => q3_6_eq s)).trans (by kernel_rfl)
theorem q3_8_eq (s : St) : W E 0 c_q3_8 s q3_3k (exitTo 3 q3_1k (exitTo 2 q3_1k xN)) (finP [.t 2]) = q3_7k s :=
  W_block.trans (q3_7_eq s)
theorem q3_9_eq (s : St) : W E 0 c_q3_9 s q3_L2k (exitTo 3 q3_1k (exitTo 2 q3_1k xN)) (finP [.t 2]) = q3_7k s :=
  (W_seq (k := q3_3k) (fun s => q3_3_eq s)).trans (q3_8_eq s)
noncomputable def q3_10 (v0 v3 v4 : AV) (h : Heap) : OX :=
ob (evLen 0 v0 h) fun v39 =>
ob (evBin .lss v4 v39) fun v40 =>
cnd v40
 ((q3_7 v0 v3 v4 h))
 ((q3_1 h))
noncomputable def q3_10k (s : St) : OX := q3_10 (s 0) (s 3) (s 4) s.h
theorem q3_10_eq (s : St) : W E 0 c_q3_10 s q3_L2k (exitTo 3 q3_1k (exitTo 2 q3_1k xN)) (finP [.t 2]) = q3_10k s :=
  (W_seq (k := q3_7k) (fun s => q3_9_eq s)).trans (by kernel_rfl)
theorem q3_L2_go (v0 v3 v4 : AV) (h : Heap) : q3_L2 v0 v3 v4 h = (q3_10 v0 v3 v4 h) :=
  W_loop.trans ((W_congr _ _ _ (n' := q3_L2k) (fun s => q3_L2_eq s)).trans ((q3_10_eq _).trans (by kernel_rfl)))
theorem q3_11_eq (s : St) : W E 0 c_q3_11 s q3_1k (exitTo 2 q3_1k xN) (finP [.t 2]) = q3_L2k s :=
  W_block.trans (q3_L2_eq s)
noncomputable def q3_12 (v0 v3 : AV) (h : Heap) : OX :=
ob (evBin .add v3 (AV.int .i64 1)) fun v36 =>
(q3_L2 v0 v3 v36 h)
noncomputable def q3_12k (s : St) : OX := q3_12 (s 0) (s 3) s.h
theorem q3_12_eq (s : St) : W E 0 c_q3_12 s q3_1k (exitTo 2 q3_1k xN) (finP [.t 2]) = q3_12k s :=
  (W_seq (k := q3_L2k) (fun s => q3_11_eq s)).trans (by kernel_rfl)
noncomputable def q3_13 (v0 v3 v33 : AV) (h : Heap) : OX :=
cnd v33
 ((q3_12 v0 v3 h))
 ((q3_1 h))
noncomputable def q3_13k (s : St) : OX := q3_13 (s 0) (s 3) (s 33) s.h
theorem q3_13_eq (s : St) : W E 0 c_q3_13 s q3_1k (exitTo 2 q3_1k xN) (finP [.t 2]) = q3_13k s :=
  (W_cond (q3_12_eq s) rfl).trans (by kernel_rfl)
noncomputable def q3_14 (v0 v3 v27 : AV) (h : Heap) : OX :=
ob (evBin .eql v27 (AV.int .u8 76)) fun v34 =>
(q3_13 v0 v3 v34 h)
noncomputable def q3_14k (s : St) : OX := q3_14 (s 0) (s 3) (s 27) s.h
theorem q3_14_eq (s : St) : W E 0 c_q3_14 s q3_1k (exitTo 2 q3_1k xN) (finP [.t 2]) = q3_14k s :=
  (W_seq (k := q3_13k) (fun s => q3_13_eq s)).trans (by kernel_rfl)
noncomputable def q3_15 (v0 v3 v27 v28 : AV) (h : Heap) : OX :=
cnd v28
 (ob (evBin .add v3 (AV.int .i64 1)) fun v32 =>
(expo1 h v32))
 ((q3_14 v0 v3 v27 h))
noncomputable def q3_15k (s : St) : OX := q3_15 (s 0) (s 3) (s 27) (s 28) s.h
theorem q3_15_eq (s : St) : W E 0 c_q3_15 s q3_1k (exitTo 2 q3_1k xN) (finP [.t 2]) = q3_15k s :=
  (W_cond rfl (q3_14_eq s)).trans (by kernel_rfl)
noncomputable def q3_16 (v0 v3 v27 : AV) (h : Heap) : OX :=
ob (evBin .eql v27 (AV.int .u8 73)) fun v29 =>
cnd v29
 ((q3_15 v0 v3 v27 v29 h))
 (ob (evBin .eql v27 (AV.int .u8 74)) fun v30 =>
(q3_15 v0 v3 v27 v30 h))
noncomputable def q3_16k (s : St) : OX := q3_16 (s 0) (s 3) (s 27) s.h
theorem q3_16_eq (s : St) : W E 0 c_q3_16 s q3_1k (exitTo 2 q3_1k xN) (finP [.t 2]) = q3_16k s :=
  (W_seq (k := q3_15k) (fun s => q3_15_eq s)).trans (by kernel_rfl)
theorem q3_17_eq (s : St) : W E 0 c_q3_17 s q3_1k xN (finP [.t 2]) = q3_16k s :=
  W_block.trans (q3_16_eq s)
noncomputable def q3_18 (v0 v3 : AV) (h : Heap) : OX :=
ob (evIxstr v0 v3) fun v27 =>
(q3_16 v0 v3 v27 h)
noncomputable def q3_18k (s : St) : OX := q3_18 (s 0) (s 3) s.h
theorem q3_18_eq (s : St) : W E 0 c_q3_18 s q3_1k xN (finP [.t 2]) = q3_18k s :=
  (W_seq (k := q3_16k) (fun s => q3_17_eq s)).trans (by kernel_rfl)
theorem q3_19_eq (s : St) : W E 0 c_q3_19 s (finP [.t 2]) xN (finP [.t 2]) = q3_18k s :=
  (W_seq (k := q3_1k) (fun s => q3_1_eq s)).trans (q3_18_eq s)
noncomputable def q3_20 (v0 v3 : AV) (h : Heap) : OX :=
ob (evBin .gtr v3 (AV.int .i64 8)) fun v18 =>
gb v18 false (some v3) fun v20 =>
gb v18 false (some v0) fun v21 =>
gb v18 false (evLen 0 v21 h) fun v22 =>
gb v18 false (evBin .eql v20 v22) fun v23 =>
ob (evPick v18 (AV.bool true) v23) fun v24 =>
cnd v24
 ((expo1 h (AV.int .i64 0)))
 ((q3_18 v0 v3 h))
noncomputable def q3_20k (s : St) : OX := q3_20 (s 0) (s 3) s.h
theorem q3_20_eq (s : St) : W E 0 c_q3_20 s (finP [.t 2]) xN (finP [.t 2]) = q3_20k s :=
  (W_seq (k := q3_18k) (fun s => q3_19_eq s)).trans (by kernel_rfl)
noncomputable def q3_L21 (v0 v3 : AV) (h : Heap) : OX :=
  W E 0 c_q3_L21 ⟨[(0, v0), (3, v3)], h⟩ q3_20k (exitTo 0 q3_20k xN) (finP [.t 2])
noncomputable def q3_L21k (s : St) : OX := q3_L21 (s 0) (s 3) s.h
theorem q3_L21_eq (s : St) : W E 0 c_q3_L21 s q3_20k (exitTo 0 q3_20k xN) (finP [.t 2]) = q3_L21k s := W_loop_live.trans (by kernel_rfl)
noncomputable def q3_22 (v0 v3 : AV) (h : Heap) : OX :=
ob (evBin .add v3 (AV.int .i64 1)) fun v16 =>
(q3_L21 v0 v16 h)
noncomputable def q3_22k (s : St) : OX := q3_22 (s 0) (s 3) s.h
theorem q3_22_eq (s : St) : W E 0 c_q3_22 s q3_L21k (exitTo 0 q3_20k xN) (finP [.t 2]) = q3_22k s :=
  by kernel_rfl
noncomputable def q3_23 (v0 v3 : AV) (h : Heap) : OX :=
ob (evLen 0 v0 h) fun v7 =>
ob (evBin .lss v3 v7) fun v8 =>
gb v8 true (some v0) fun v10 =>
gb v8 true (some v3) fun v11 =>
gb v8 true (evIxstr v10 v11) fun v12 =>
gb v8 true (evBin .eql v12 (AV.int .u8 91)) fun v13 =>
ob (evPick v8 v13 (AV.bool false)) fun v14 =>
cnd v14
 ((q3_22 v0 v3 h))
 ((q3_20 v0 v3 h))
noncomputable def q3_23k (s : St) : OX := q3_23 (s 0) (s 3) s.h
theorem q3_23_eq (s : St) : W E 0 c_q3_23 s q3_L21k (exitTo 0 q3_20k xN) (finP [.t 2]) = q3_23k s :=
  (W_seq (k := q3_22k) (fun s => q3_22_eq s)).trans (by kernel_rfl)
theorem q3_L21_go (v0 v3 : AV) (h : Heap) : q3_L21 v0 v3 h = (q3_23 v0 v3 h) :=
  W_loop.trans ((W_congr _ _ _ (n' := q3_L21k) (fun s => q3_L21_eq s)).trans ((q3_23_eq _).trans (by kernel_rfl)))
theorem q3_24_eq (s : St) : W E 0 c_q3_24 s q3_20k xN (finP [.t 2]) = q3_L21k s :=
  W_block.trans (q3_L21_eq s)
theorem q3_25_eq (s : St) : W E 0 c_q3_25 s (finP [.t 2]) xN (finP [.t 2]) = q3_L21k s :=
  (W_seq (k := q3_20k) (fun s => q3_20_eq s)).trans (q3_24_eq s)
noncomputable def q3_26 (v0 : AV) (h : Heap) : OX :=
(q3_L21 v0 (AV.int .i64 0) h)
noncomputable def q3_26k (s : St) : OX := q3_26 (s 0) s.h
theorem q3_26_eq (s : St) : W E 0 c_q3_26 s (finP [.t 2]) xN (finP [.t 2]) = q3_26k s :=
  (W_seq (k := q3_L21k) (fun s => q3_25_eq s)).trans (by kernel_rfl)
noncomputable def q3_27 (v0 : AV) (h : Heap) : OX :=
(q3_26 v0 h)
noncomputable def q3_27k (s : St) : OX := q3_27 (s 0) s.h
theorem q3_27_eq (s : St) : W E 0 c_q3_27 s (finP [.t 2]) xN (finP [.t 2]) = q3_27k s :=
  (W_seq (k := q3_26k) (fun s => q3_26_eq s)).trans (by kernel_rfl)
@[simp] theorem pure_44 : E.pure 44 = true := rfl
theorem x_q3 (v0 : AV) : (callW E).p 44 [v0] = q3_27 v0 [] :=
  (callP_W (cf := c_q3) (by kernel_rfl) rfl).trans ((q3_27_eq _).trans (by kernel_rfl))
noncomputable def q1_1 (h : Heap) : OX :=
(expo1 h (AV.bool true))
noncomputable def q1_1k (s : St) : OX := q1_1 s.h
theorem q1_1_eq (s : St) : W E 0 c_q1_1 s (finP [.t 4]) xN (finP [.t 4]) = q1_1k s :=
  by kernel_rfl
noncomputable def q1_L2 (v1 v17 v18 v19 : AV) (h : Heap) : OX :=
  W E 0 c_q1_L2 ⟨[(1, v1), (17, v17), (18, v18), (19, v19)], h⟩ q1_1k (exitTo 0 q1_1k xN) (finP [.t 4])
noncomputable def q1_L2k (s : St) : OX := q1_L2 (s 1) (s 17) (s 18) (s 19) s.h
theorem q1_L2_eq (s : St) : W E 0 c_q1_L2 s q1_1k (exitTo 0 q1_1k xN) (finP [.t 4]) = q1_L2k s := W_loop_live.trans (by kernel_rfl)
noncomputable def q1_3 (v1 v17 v18 v19 : AV) (h : Heap) : OX :=
ob (evBin .add v19 (AV.int .i64 1)) fun v71 =>
(q1_L2 v1 v17 v18 v71 h)
noncomputable def q1_3k (s : St) : OX := q1_3 (s 1) (s 17) (s 18) (s 19) s.h
theorem q1_3_eq (s : St) : W E 0 c_q1_3 s q1_L2k (exitTo 0 q1_1k xN) (finP [.t 4]) = q1_3k s :=
  by kernel_rfl
noncomputable def q1_4 (v1 v17 v18 v19 : AV) (h : Heap) : OX :=
ob (evIxs 1 v17 v19) fun v21 =>
ob (evLd false 1 v21 h) fun v22 =>
ob (evBin .geq v22 (AV.int .u8 97)) fun v24 =>
gb v24 true (some v22) fun v26 =>
gb v24 true (evBin .leq v26 (AV.int .u8 122)) fun v27 =>
ob (evPick v24 v27 (AV.bool false)) fun v28 =>
gb v28 false (some v22) fun v30 =>
gb v28 false (evBin .geq v30 (AV.int .u8 65)) fun v31 =>
gb v28 false (some v31) fun v32 =>
gb v32 true (some v22) fun v33 =>
gb v32 true (evBin .leq v33 (AV.int .u8 90)) fun v34 =>
gb v28 false (evPick v32 v34 (AV.bool false)) fun v35 =>
ob (evPick v28 (AV.bool true) v35) fun v36 =>
gb v36 false (some v22) fun v38 =>
gb v36 false (evBin .geq v38 (AV.int .u8 48)) fun v39 =>
gb v36 false (some v39) fun v40 =>
gb v40 true (some v22) fun v41 =>
gb v40 true (evBin .leq v41 (AV.int .u8 57)) fun v42 =>
gb v36 false (evPick v40 v42 (AV.bool false)) fun v43 =>
ob (evPick v36 (AV.bool true) v43) fun v44 =>
gb v44 false (some v22) fun v46 =>
gb v44 false (evBin .eql v46 (AV.int .u8 95)) fun v47 =>
ob (evPick v44 (AV.bool true) v47) fun v48 =>
gb v48 false (some v22) fun v50 =>
gb v48 false (evBin .eql v50 (AV.int .u8 36)) fun v51 =>
ob (evPick v48 (AV.bool true) v51) fun v52 =>
gb v52 false (some v22) fun v54 =>
gb v52 false (evBin .eql v54 (AV.int .u8 47)) fun v55 =>
ob (evPick v52 (AV.bool true) v55) fun v56 =>
ob (evUn .not v56) fun v58 =>
gb v58 true (some v1) fun v60 =>
gb v58 true (some v60) fun v61 =>
gb v61 true (some v22) fun v62 =>
gb v61 true (evBin .eql v62 (AV.int .u8 60)) fun v63 =>
gb v61 true (some v63) fun v64 =>
gb v64 false (some v22) fun v65 =>
gb v64 false (evBin .eql v65 (AV.int .u8 62)) fun v66 =>
gb v61 true (evPick v64 (AV.bool true) v66) fun v67 =>
gb v58 true (evPick v61 v67 (AV.bool false)) fun v68 =>
gb v58 true (evUn .not v68) fun v69 =>
ob (evPick v58 v69 (AV.bool false)) fun v70 =>
cnd v70
 ((expo1 h (AV.bool false)))
 ((q1_3 v1 v17 v18 v19 h))
noncomputable def q1_4k (s : St) : OX := q1_4 (s 1) (s 17) (s 18) (s 19) s.h
theorem q1_4_eq (s : St) : W E 0 c_q1_4 s q1_L2k (exitTo 0 q1_1k xN) (finP [.t 4]) = q1_4k s :=
  (W_seq (k := q1_3k) (fun s => q1_3_eq s)).trans (by kernel_rfl)
noncomputable def q1_5 (v1 v17 v18 v19 v20 : AV) (h : Heap) : OX :=
cnd v20
 ((q1_4 v1 v17 v18 v19 h))
 ((q1_1 h))
noncomputable def q1_5k (s : St) : OX := q1_5 (s 1) (s 17) (s 18) (s 19) (s 20) s.h
theorem q1_5_eq (s : St) : W E 0 c_q1_5 s q1_L2k (exitTo 0 q1_1k xN) (finP [.t 4]) = q1_5k s :=
  (W_seq (k := q1_4k) (fun s => q1_4_eq s)).trans (by kernel_rfl)
noncomputable def q1_6 (v1 v17 v18 v19 : AV) (h : Heap) : OX :=
ob (evBin .lss v19 v18) fun v20 =>
(q1_5 v1 v17 v18 v19 v20 h)
noncomputable def q1_6k (s : St) : OX := q1_6 (s 1) (s 17) (s 18) (s 19) s.h
theorem q1_6_eq (s : St) : W E 0 c_q1_6 s q1_L2k (exitTo 0 q1_1k xN) (finP [.t 4]) = q1_6k s :=
  (W_seq (k := q1_5k) (fun s => q1_5_eq s)).trans (by kernel_rfl)
theorem q1_L2_go (v1 v17 v18 v19 : AV) (h : Heap) : q1_L2 v1 v17 v18 v19 h = (q1_6 v1 v17 v18 v19 h) :=
  W_loop.trans ((W_congr _ _ _ (n' := q1_L2k) (fun s => q1_L2_eq s)).trans ((q1_6_eq _).trans (by kernel_rfl)))
theorem q1_7_eq (s : St) : W E 0 c_q1_7 s q1_1k xN (finP [.t 4]) = q1_L2k s :=
  W_block.trans (q1_L2_eq s)
noncomputable def q1_8 (v0 v1 : AV) (h : Heap) : OX :=
oh (s2bC 0 (some 0) v0 h) fun v17 h1 =>
ob (evLen 1 v17 h1) fun v18 =>
(q1_L2 v1 v17 v18 (AV.int .i64 0) h1)
noncomputable def q1_8k (s : St) : OX := q1_8 (s 0) (s 1) s.h
theorem q1_8_eq (s : St) : W E 0 c_q1_8 s q1_1k xN (finP [.t 4]) = q1_8k s :=
  (W_seq (k := q1_L2k) (fun s => q1_7_eq s)).trans (by kernel_rfl)
theorem q1_9_eq (s : St) : W E 0 c_q1_9 s (finP [.t 4]) xN (finP [.t 4]) = q1_8k s :=
  (W_seq (k := q1_1k) (fun s => q1_1_eq s)).trans (q1_8_eq s)
noncomputable def q1_10 (v0 v1 : AV) (h : Heap) : OX :=
ob (evLen 0 v0 h) fun v9 =>
ob (evBin .lss v9 (AV.int .i64 1)) fun v10 =>
gb v10 false (some v0) fun v12 =>
gb v10 false (evLen 0 v12 h) fun v13 =>
gb v10 false (evBin .gtr v13 (AV.int .i64 60)) fun v14 =>
ob (evPick v10 (AV.bool true) v14) fun v15 =>
cnd v15
 ((expo1 h (AV.bool false)))
 ((q1_8 v0 v1 h))
noncomputable def q1_10k (s : St) : OX := q1_10 (s 0) (s 1) s.h
theorem q1_10_eq (s : St) : W E 0 c_q1_10 s (finP [.t 4]) xN (finP [.t 4]) = q1_10k s :=
  (W_seq (k := q1_8k) (fun s => q1_9_eq s)).trans (by kernel_rfl)
noncomputable def q1_11 (v0 v1 : AV) (h : Heap) : OX :=
(q1_10 v0 v1 h)
noncomputable def q1_11k (s : St) : OX := q1_11 (s 0) (s 1) s.h
theorem q1_11_eq (s : St) : W E 0 c_q1_11 s (finP [.t 4]) xN (finP [.t 4]) = q1_11k s :=
  (W_seq (k := q1_10k) (fun s => q1_10_eq s)).trans (by kernel_rfl)
@[simp] theorem pure_60 : E.pure 60 = true := rfl
theorem x_q1 (v0 v1 : AV) : (callW E).p 60 [v0, v1] = q1_11 v0 v1 [⟨0, .dead⟩] :=
  (callP_W (cf := c_q1) (by kernel_rfl) rfl).trans ((q1_11_eq _).trans (by kernel_rfl))
end Go.Vm
