/- Functions of the machine as plain functions that go on with what follows. -/
import Derived.Test.YtfmmcafccijnhaaCEnv
namespace Go.Vm

noncomputable def ins_other_1 (v2 : AV) (h : Heap) : Option (Ex AV) :=
ob (evBuild [(.int .i64 0), (.int .i64 0), (.int .i64 0), (.int .i64 0)] []) fun v73 =>
oh (evSt 4 v2 v73 h) fun _ h1 =>
(ob (evLd true 4 v2 h1) fun r0 =>
  expo1 h1 (.tup [r0, (AV.bool false)]))

theorem ins_other_1_eq (s : St) : W E 0 c_ins_other_1 s (finP [.cell 2 true 4, .t 3]) (fun _ _ => none) (finP [.cell 2 true 4, .t 3]) = ins_other_1 (tget s.t 2) s.h :=
  by kernel_rfl

noncomputable def ins_other_2 (v1 v2 v4 : AV) (h : Heap) : Option (Ex AV) :=
ob (evBuild [(.int .i64 0), (.int .i64 0), (.int .i64 0), (.int .i64 0)] [(0, 1, (AV.int .i64 (-1))), (1, 1, (AV.int .i64 3)), (2, 1, v4), (3, 1, (AV.int .i64 (-1)))]) fun v16 =>
ob (evFa 5 v1) fun v17 =>
ob (evLd false 1 v17 h) fun v18 =>
ob (evBin .eql v18 (AV.int .i64 0)) fun v19 =>
ofp (fgd v19 false (some ([], []))) fun f6 =>
gb v19 false (evFa 5 v1) fun v21 =>
ofp (fgd v19 false (some (ids1 v21, []))) fun f7 =>
gb v19 false (evLd false 1 v21 h) fun v22 =>
ofp (fgd v19 false (some ([], []))) fun f8 =>
gb v19 false (evBin .eql v22 (AV.int .i64 1)) fun v23 =>
ob (evPick v19 (AV.bool true) v23) fun v24 =>
oh (evSt 4 v2 v16 h) fun _ h2 =>
okK (pairsOk [([], []), ([], []), ([], []), (ids1 v17, []), ([], []), ([], []), f6, f7, f8, ([], []), ([], ids1 v2), ([], [])] [(7, 10)]) <|
(ob (evLd true 4 v2 h2) fun r0 =>
  expo1 h2 (.tup [r0, v24]))

theorem ins_other_2_eq (s : St) : W E 0 c_ins_other_2 s (fun s => ins_other_1 (tget s.t 2) s.h) (exitTo 0 (fun s => ins_other_1 (tget s.t 2) s.h) (fun _ _ => none)) (finP [.cell 2 true 4, .t 3]) = ins_other_2 (tget s.t 1) (tget s.t 2) (tget s.t 4) s.h :=
  by kernel_rfl

noncomputable def ins_other_3 (v1 v2 v4 : AV) (h : Heap) : Option (Ex AV) :=
ob (evFa 3 v1) fun v12 =>
ob (evLd false 1 v12 h) fun v13 =>
ob (evBin .neq v13 (AV.int .i64 (-1))) fun v14 =>
cnd v14
 ((ins_other_2 v1 v2 (AV.int .i64 3) h))
 ((ins_other_2 v1 v2 v4 h))

theorem ins_other_3_eq (s : St) : W E 0 c_ins_other_3 s (fun s => ins_other_1 (tget s.t 2) s.h) (exitTo 0 (fun s => ins_other_1 (tget s.t 2) s.h) (fun _ _ => none)) (finP [.cell 2 true 4, .t 3]) = ins_other_3 (tget s.t 1) (tget s.t 2) (tget s.t 4) s.h :=
  (W_seq (k := (fun s => ins_other_2 (tget s.t 1) (tget s.t 2) (tget s.t 4) s.h)) (fun s => ins_other_2_eq s)).trans (by kernel_rfl)

noncomputable def ins_other_4 (v1 v2 : AV) (h : Heap) : Option (Ex AV) :=
(ins_other_3 v1 v2 (AV.int .i64 (-1)) h)

theorem ins_other_4_eq (s : St) : W E 0 c_ins_other_4 s (fun s => ins_other_1 (tget s.t 2) s.h) (exitTo 0 (fun s => ins_other_1 (tget s.t 2) s.h) (fun _ _ => none)) (finP [.cell 2 true 4, .t 3]) = ins_other_4 (tget s.t 1) (tget s.t 2) s.h :=
  (W_seq (k := (fun s => ins_other_3 (tget s.t 1) (tget s.t 2) (tget s.t 4) s.h)) (fun s => ins_other_3_eq s)).trans (by kernel_rfl)

noncomputable def ins_other_5 (v2 v5 : AV) (h : Heap) : Option (Ex AV) :=
ob (evBuild [(.int .i64 0), (.int .i64 0), (.int .i64 0), (.int .i64 0)] [(0, 1, (AV.int .i64 (-1))), (1, 1, v5), (2, 1, (AV.int .i64 (-1))), (3, 1, (AV.int .i64 (-1)))]) fun v31 =>
oh (evSt 4 v2 v31 h) fun _ h3 =>
(ob (evLd true 4 v2 h3) fun r0 =>
  expo1 h3 (.tup [r0, (AV.bool true)]))

theorem ins_other_5_eq (s : St) : W E 0 c_ins_other_5 s (fun s => ins_other_1 (tget s.t 2) s.h) (exitTo 0 (fun s => ins_other_1 (tget s.t 2) s.h) (fun _ _ => none)) (finP [.cell 2 true 4, .t 3]) = ins_other_5 (tget s.t 2) (tget s.t 5) s.h :=
  by kernel_rfl

noncomputable def ins_other_6 (v1 v2 v5 : AV) (h : Heap) : Option (Ex AV) :=
ob (evFa 2 v1) fun v27 =>
ob (evLd false 1 v27 h) fun v28 =>
ob (evBin .neq v28 (AV.int .i64 (-1))) fun v29 =>
cnd v29
 ((ins_other_5 v2 (AV.int .i64 0) h))
 ((ins_other_5 v2 v5 h))

theorem ins_other_6_eq (s : St) : W E 0 c_ins_other_6 s (fun s => ins_other_1 (tget s.t 2) s.h) (exitTo 0 (fun s => ins_other_1 (tget s.t 2) s.h) (fun _ _ => none)) (finP [.cell 2 true 4, .t 3]) = ins_other_6 (tget s.t 1) (tget s.t 2) (tget s.t 5) s.h :=
  (W_seq (k := (fun s => ins_other_5 (tget s.t 2) (tget s.t 5) s.h)) (fun s => ins_other_5_eq s)).trans (by kernel_rfl)

noncomputable def ins_other_7 (v1 v2 : AV) (h : Heap) : Option (Ex AV) :=
(ins_other_6 v1 v2 (AV.int .i64 (-1)) h)

theorem ins_other_7_eq (s : St) : W E 0 c_ins_other_7 s (fun s => ins_other_1 (tget s.t 2) s.h) (exitTo 0 (fun s => ins_other_1 (tget s.t 2) s.h) (fun _ _ => none)) (finP [.cell 2 true 4, .t 3]) = ins_other_7 (tget s.t 1) (tget s.t 2) s.h :=
  (W_seq (k := (fun s => ins_other_6 (tget s.t 1) (tget s.t 2) (tget s.t 5) s.h)) (fun s => ins_other_6_eq s)).trans (by kernel_rfl)

noncomputable def ins_other_8 (v1 v2 v6 : AV) (h : Heap) : Option (Ex AV) :=
ob (evFa 0 v1) fun v40 =>
ob (evLd false 1 v40 h) fun v41 =>
ob (evBin .eql v41 (AV.int .i64 23)) fun v42 =>
gb v42 false (evFa 0 v1) fun v44 =>
gb v42 false (evLd false 1 v44 h) fun v45 =>
gb v42 false (evBin .eql v45 (AV.int .i64 26)) fun v46 =>
ob (evPick v42 (AV.bool true) v46) fun v47 =>
gb v47 false (evFa 8 v1) fun v49 =>
gb v47 false (evLd false 1 v49 h) fun v50 =>
gb v47 false (evLen 1 v50 h) fun v51 =>
gb v47 false (evBin .gtr v51 (AV.int .i64 0)) fun v52 =>
ob (evPick v47 (AV.bool true) v52) fun v53 =>
ob (evBuild [(.int .i64 0), (.int .i64 0), (.int .i64 0), (.int .i64 0)] [(0, 1, v6), (1, 1, (AV.int .i64 (-1))), (2, 1, (AV.int .i64 (-1))), (3, 1, (AV.int .i64 (-1)))]) fun v55 =>
ofp (fgd v53 true (some ([], []))) fun f4 =>
gb v53 true (evFa 5 v1) fun v58 =>
ofp (fgd v53 true (some (ids1 v58, []))) fun f5 =>
gb v53 true (evLd false 1 v58 h) fun v59 =>
ofp (fgd v53 true (some ([], []))) fun f6 =>
gb v53 true (evBin .geq v59 (AV.int .i64 0)) fun v60 =>
ofp (fgd v53 true (some ([], []))) fun f7 =>
gb v53 true (some v60) fun v61 =>
ofp (fgd v61 false (some ([], []))) fun f8 =>
gb v61 false (evFa 0 v1) fun v62 =>
ofp (fgd v61 false (some (ids1 v62, []))) fun f9 =>
gb v61 false (evLd false 1 v62 h) fun v63 =>
ofp (fgd v61 false (some ([], []))) fun f10 =>
gb v61 false (evBin .eql v63 (AV.int .i64 25)) fun v64 =>
ofp (fgd v53 true (some ([], []))) fun f11 =>
gb v53 true (evPick v61 (AV.bool true) v64) fun v65 =>
ob (evPick v53 v65 (AV.bool false)) fun v66 =>
ofp (fgd v66 true (some ([], []))) fun f14 =>
gb v66 true (evFa 8 v1) fun v68 =>
ofp (fgd v66 true (some (ids1 v68, []))) fun f15 =>
gb v66 true (evLd false 1 v68 h) fun v69 =>
ofp (fgd v66 true (some (ids1 v69, []))) fun f16 =>
gb v66 true (evLen 1 v69 h) fun v70 =>
ofp (fgd v66 true (some ([], []))) fun f17 =>
gb v66 true (evBin .leq v70 (AV.int .i64 21)) fun v71 =>
ob (evPick v66 v71 (AV.bool false)) fun v72 =>
oh (evSt 4 v2 v55 h) fun _ h4 =>
okK (pairsOk [([], []), ([], []), ([], []), ([], []), f4, f5, f6, f7, f8, f9, f10, f11, ([], []), ([], []), f14, f15, f16, f17, ([], []), ([], ids1 v2), ([], [])] [(15, 19), (16, 19)]) <|
(ob (evLd true 4 v2 h4) fun r0 =>
  expo1 h4 (.tup [r0, v72]))

theorem ins_other_8_eq (s : St) : W E 0 c_ins_other_8 s (fun s => ins_other_1 (tget s.t 2) s.h) (exitTo 0 (fun s => ins_other_1 (tget s.t 2) s.h) (fun _ _ => none)) (finP [.cell 2 true 4, .t 3]) = ins_other_8 (tget s.t 1) (tget s.t 2) (tget s.t 6) s.h :=
  by kernel_rfl

noncomputable def ins_other_9 (v1 v2 v6 : AV) (h : Heap) : Option (Ex AV) :=
ob (evFa 1 v1) fun v37 =>
ob (evLd false 1 v37 h) fun v38 =>
ob (evBin .neq v38 (AV.int .i64 (-1))) fun v39 =>
cnd v39
 ((ins_other_8 v1 v2 (AV.int .i64 0) h))
 ((ins_other_8 v1 v2 v6 h))

theorem ins_other_9_eq (s : St) : W E 0 c_ins_other_9 s (fun s => ins_other_1 (tget s.t 2) s.h) (exitTo 0 (fun s => ins_other_1 (tget s.t 2) s.h) (fun _ _ => none)) (finP [.cell 2 true 4, .t 3]) = ins_other_9 (tget s.t 1) (tget s.t 2) (tget s.t 6) s.h :=
  (W_seq (k := (fun s => ins_other_8 (tget s.t 1) (tget s.t 2) (tget s.t 6) s.h)) (fun s => ins_other_8_eq s)).trans (by kernel_rfl)

noncomputable def ins_other_10 (v1 v2 : AV) (h : Heap) : Option (Ex AV) :=
(ins_other_9 v1 v2 (AV.int .i64 (-1)) h)

theorem ins_other_10_eq (s : St) : W E 0 c_ins_other_10 s (fun s => ins_other_1 (tget s.t 2) s.h) (exitTo 0 (fun s => ins_other_1 (tget s.t 2) s.h) (fun _ _ => none)) (finP [.cell 2 true 4, .t 3]) = ins_other_10 (tget s.t 1) (tget s.t 2) s.h :=
  (W_seq (k := (fun s => ins_other_9 (tget s.t 1) (tget s.t 2) (tget s.t 6) s.h)) (fun s => ins_other_9_eq s)).trans (by kernel_rfl)

noncomputable def ins_other_11 (v1 v2 v32 : AV) (h : Heap) : Option (Ex AV) :=
cnd v32
 ((ins_other_10 v1 v2 h))
 ((ins_other_1 v2 h))

theorem ins_other_11_eq (s : St) : W E 0 c_ins_other_11 s (fun s => ins_other_1 (tget s.t 2) s.h) (exitTo 0 (fun s => ins_other_1 (tget s.t 2) s.h) (fun _ _ => none)) (finP [.cell 2 true 4, .t 3]) = ins_other_11 (tget s.t 1) (tget s.t 2) (tget s.t 32) s.h :=
  (W_cond (ins_other_10_eq s) rfl).trans (by kernel_rfl)

noncomputable def ins_other_12 (v1 v2 v9 : AV) (h : Heap) : Option (Ex AV) :=
ob (evBin .eql v9 (AV.int .i64 23)) fun v33 =>
cnd v33
 ((ins_other_11 v1 v2 v33 h))
 (ob (evBin .eql v9 (AV.int .i64 24)) fun v34 =>
cnd v34
 ((ins_other_11 v1 v2 v34 h))
 (ob (evBin .eql v9 (AV.int .i64 25)) fun v35 =>
cnd v35
 ((ins_other_11 v1 v2 v35 h))
 (ob (evBin .eql v9 (AV.int .i64 26)) fun v36 =>
(ins_other_11 v1 v2 v36 h))))

theorem ins_other_12_eq (s : St) : W E 0 c_ins_other_12 s (fun s => ins_other_1 (tget s.t 2) s.h) (exitTo 0 (fun s => ins_other_1 (tget s.t 2) s.h) (fun _ _ => none)) (finP [.cell 2 true 4, .t 3]) = ins_other_12 (tget s.t 1) (tget s.t 2) (tget s.t 9) s.h :=
  (W_seq (k := (fun s => ins_other_11 (tget s.t 1) (tget s.t 2) (tget s.t 32) s.h)) (fun s => ins_other_11_eq s)).trans (by kernel_rfl)

noncomputable def ins_other_13 (v1 v2 v9 v25 : AV) (h : Heap) : Option (Ex AV) :=
cnd v25
 ((ins_other_7 v1 v2 h))
 ((ins_other_12 v1 v2 v9 h))

theorem ins_other_13_eq (s : St) : W E 0 c_ins_other_13 s (fun s => ins_other_1 (tget s.t 2) s.h) (exitTo 0 (fun s => ins_other_1 (tget s.t 2) s.h) (fun _ _ => none)) (finP [.cell 2 true 4, .t 3]) = ins_other_13 (tget s.t 1) (tget s.t 2) (tget s.t 9) (tget s.t 25) s.h :=
  (W_cond (ins_other_7_eq s) (ins_other_12_eq s)).trans (by kernel_rfl)

noncomputable def ins_other_14 (v1 v2 v9 : AV) (h : Heap) : Option (Ex AV) :=
ob (evBin .eql v9 (AV.int .i64 30)) fun v26 =>
(ins_other_13 v1 v2 v9 v26 h)

theorem ins_other_14_eq (s : St) : W E 0 c_ins_other_14 s (fun s => ins_other_1 (tget s.t 2) s.h) (exitTo 0 (fun s => ins_other_1 (tget s.t 2) s.h) (fun _ _ => none)) (finP [.cell 2 true 4, .t 3]) = ins_other_14 (tget s.t 1) (tget s.t 2) (tget s.t 9) s.h :=
  (W_seq (k := (fun s => ins_other_13 (tget s.t 1) (tget s.t 2) (tget s.t 9) (tget s.t 25) s.h)) (fun s => ins_other_13_eq s)).trans (by kernel_rfl)

noncomputable def ins_other_15 (v1 v2 v9 v10 : AV) (h : Heap) : Option (Ex AV) :=
cnd v10
 ((ins_other_4 v1 v2 h))
 ((ins_other_14 v1 v2 v9 h))

theorem ins_other_15_eq (s : St) : W E 0 c_ins_other_15 s (fun s => ins_other_1 (tget s.t 2) s.h) (exitTo 0 (fun s => ins_other_1 (tget s.t 2) s.h) (fun _ _ => none)) (finP [.cell 2 true 4, .t 3]) = ins_other_15 (tget s.t 1) (tget s.t 2) (tget s.t 9) (tget s.t 10) s.h :=
  (W_cond (ins_other_4_eq s) (ins_other_14_eq s)).trans (by kernel_rfl)

noncomputable def ins_other_16 (v1 v2 v9 : AV) (h : Heap) : Option (Ex AV) :=
ob (evBin .eql v9 (AV.int .i64 29)) fun v11 =>
(ins_other_15 v1 v2 v9 v11 h)

theorem ins_other_16_eq (s : St) : W E 0 c_ins_other_16 s (fun s => ins_other_1 (tget s.t 2) s.h) (exitTo 0 (fun s => ins_other_1 (tget s.t 2) s.h) (fun _ _ => none)) (finP [.cell 2 true 4, .t 3]) = ins_other_16 (tget s.t 1) (tget s.t 2) (tget s.t 9) s.h :=
  (W_seq (k := (fun s => ins_other_15 (tget s.t 1) (tget s.t 2) (tget s.t 9) (tget s.t 10) s.h)) (fun s => ins_other_15_eq s)).trans (by kernel_rfl)

theorem ins_other_17_eq (s : St) : W E 0 c_ins_other_17 s (fun s => ins_other_1 (tget s.t 2) s.h) (fun _ _ => none) (finP [.cell 2 true 4, .t 3]) = ins_other_16 (tget s.t 1) (tget s.t 2) (tget s.t 9) s.h :=
  W_block.trans (ins_other_16_eq s)

noncomputable def ins_other_18 (v1 v2 : AV) (h : Heap) : Option (Ex AV) :=
ob (evFa 0 v1) fun v8 =>
ob (evLd false 1 v8 h) fun v9 =>
(ins_other_16 v1 v2 v9 h)

theorem ins_other_18_eq (s : St) : W E 0 c_ins_other_18 s (fun s => ins_other_1 (tget s.t 2) s.h) (fun _ _ => none) (finP [.cell 2 true 4, .t 3]) = ins_other_18 (tget s.t 1) (tget s.t 2) s.h :=
  (W_seq (k := (fun s => ins_other_16 (tget s.t 1) (tget s.t 2) (tget s.t 9) s.h)) (fun s => ins_other_17_eq s)).trans (by kernel_rfl)

theorem ins_other_19_eq (s : St) : W E 0 c_ins_other_19 s (finP [.cell 2 true 4, .t 3]) (fun _ _ => none) (finP [.cell 2 true 4, .t 3]) = ins_other_18 (tget s.t 1) (tget s.t 2) s.h :=
  (W_seq (k := (fun s => ins_other_1 (tget s.t 2) s.h)) (fun s => ins_other_1_eq s)).trans (ins_other_18_eq s)

noncomputable def ins_other_20 (v0 : AV) (h : Heap) : Option (Ex AV) :=
oh (newC 0 (some 0) (cellsOf v0) h) fun v1 h5 =>
oh (newC 0 (some 1) [(.int .i64 0), (.int .i64 0), (.int .i64 0), (.int .i64 0)] h5) fun v2 h6 =>
(ins_other_18 v1 v2 h6)

theorem ins_other_20_eq (s : St) : W E 0 c_ins_other_20 s (finP [.cell 2 true 4, .t 3]) (fun _ _ => none) (finP [.cell 2 true 4, .t 3]) = ins_other_20 (tget s.t 0) s.h :=
  (W_seq (k := (fun s => ins_other_18 (tget s.t 1) (tget s.t 2) s.h)) (fun s => ins_other_19_eq s)).trans (by kernel_rfl)

@[simp] theorem pure_51 : E.pure 51 = true := rfl

theorem x_ins_other (v0 : AV) : (callW E).p 51 [v0] = ins_other_20 v0 [⟨0, .dead⟩, ⟨0, .dead⟩] :=
  (callP_W (cf := c_ins_other) (by kernel_rfl) rfl).trans ((ins_other_20_eq _).trans (by kernel_rfl))


end Go.Vm
