/- Functions of the machine as plain functions that go on with what follows. -/
import Derived.Test.YtgbajicpokolcaaLEnv
set_option linter.unusedSimpArgs false
set_option linter.unusedVariables false
set_option linter.unusedSectionVars false
namespace Go.Vm
noncomputable section
def y1u7 (v0 v7 : AV) (h : Heap) : OX :=
ob (evLd true 5 v7 h) fun v68 =>
oh (y4 E (y5 E) 0 none true 29 [v68] h) fun v69 h1 =>
ob (y3 .eql v69 (AV.int .i64 0)) fun v70 =>
gb v70 true (evFa 3 v7) fun v72 =>
gb v70 true (evLd false 1 v72 h1) fun v73 =>
gb v70 true (yt 1 v73 h1) fun v74 =>
gb v70 true (some v0) fun v75 =>
gb v70 true (y3 .add v75 (AV.int .i64 1)) fun v76 =>
gb v70 true (y3 .eql v74 v76) fun v77 =>
ob (y7 v70 v77 (AV.bool false)) fun v78 =>
(y8 h1 v78)
def y9p (s : St) : OX := y1u7 (s 0) (s 7) s.h
theorem y1sx : T0 y1af [.t 4] y9p := fun _ => by kernel_rfl
def yro (v0 v7 v58 v59 v60 : AV) (h : Heap) : OX :=
  W E 0 ymq ⟨[(0, v0), (7, v7), (58, v58), (59, v59), (60, v60)], h⟩ y9p (y1 2 y9p xN) (finP [.t 4])
def yc8 (s : St) : OX := yro (s 0) (s 7) (s 58) (s 59) (s 60) s.h
theorem ysa : T1 ymq y9p (y1 2 y9p xN) [.t 4] yc8 := fun s => yd.trans (by kernel_rfl)
def y2a6 (v0 v7 v58 v59 v60 : AV) (h : Heap) : OX :=
ob (y3 .add v60 (AV.int .i64 1)) fun v67 =>
(yro v0 v7 v58 v59 v67 h)
def y2fp (s : St) : OX := y2a6 (s 0) (s 7) (s 58) (s 59) (s 60) s.h
theorem y1zj : T1 y1d8 yc8 (y1 2 y9p xN) [.t 4] y2fp := fun _ => by kernel_rfl
def y295 (v0 v7 v58 v59 v60 : AV) (h : Heap) : OX :=
ob (yg 9 v58 v60) fun v62 =>
ob (evLd true 9 v62 h) fun v63 =>
oh (newC 0 (some 9) [(.int .i64 0), (.int .i64 0), (.int .i64 0), (.int .i64 0), (.int .i64 0), (.int .i64 0), (.int .i64 0), (.str []), .nils] h) fun v9 h2 =>
oh (evSt 9 v9 v63 h2) fun _ h3 =>
ob (evFa 2 v9) fun v64 =>
ob (evLd false 1 v64 h3) fun v65 =>
ob (y3 .neq v65 (AV.int .i64 0)) fun v66 =>
cnd v66
 ((y8 h3 (AV.bool false)))
 ((y2a6 v0 v7 v58 v59 v60 h3))
def y2f7 (s : St) : OX := y295 (s 0) (s 7) (s 58) (s 59) (s 60) s.h
theorem y1w4 : T1 y1ji yc8 (y1 2 y9p xN) [.t 4] y2f7 := sq y1zj fun _ => by kernel_rfl
def y1wf (v0 v7 v58 v59 v60 v61 : AV) (h : Heap) : OX :=
cnd v61
 ((y295 v0 v7 v58 v59 v60 h))
 ((y1u7 v0 v7 h))
def y2h8 (s : St) : OX := y1wf (s 0) (s 7) (s 58) (s 59) (s 60) (s 61) s.h
theorem y201 : T1 y1me yc8 (y1 2 y9p xN) [.t 4] y2h8 := sq y1w4 fun _ => by kernel_rfl
def y1x1 (v0 v7 v58 v59 v60 : AV) (h : Heap) : OX :=
ob (y3 .lss v60 v59) fun v61 =>
(y1wf v0 v7 v58 v59 v60 v61 h)
def y2gw (s : St) : OX := y1x1 (s 0) (s 7) (s 58) (s 59) (s 60) s.h
theorem y1xi : T1 y1oh yc8 (y1 2 y9p xN) [.t 4] y2gw := sq y201 fun _ => by kernel_rfl
theorem ysb (v0 v7 v58 v59 v60 : AV) (h : Heap) : yro v0 v7 v58 v59 v60 h = (y1x1 v0 v7 v58 v59 v60 h) :=
  y1t.trans ((y12 _ _ _ (n' := yc8) (fun s => ysa s)).trans ((y1xi _).trans (by kernel_rfl)))
theorem y1wb : T1 y1qy y9p xN [.t 4] yc8 := fun s => yq.trans (ysa s)
def y2bw (v0 v7 : AV) (h : Heap) : OX :=
ob (evFa 3 v7) fun v57 =>
ob (evLd false 1 v57 h) fun v58 =>
ob (yt 1 v58 h) fun v59 =>
(yro v0 v7 v58 v59 (AV.int .i64 0) h)
def y22n (s : St) : OX := y2bw (s 0) (s 7) s.h
theorem y1zw : T1 y1ec y9p xN [.t 4] y22n := sq y1wb fun _ => by kernel_rfl
theorem y20l : T0 y1m6 [.t 4] y22n := sq y1sx y1zw
def y1mx (v0 v5 : AV) (h : Heap) : OX :=
ob (evLd true 5 v5 h) fun v55 =>
oh (y4 E (y5 E) 0 none true 149 [v55] h) fun v56 h4 =>
oh (newC 0 (some 8) [.nils, .nils, (.int .i64 0), .nils, .nils] h4) fun v7 h5 =>
oh (evSt 5 v7 v56 h5) fun _ h6 =>
(y2bw v0 v7 h6)
def y26i (s : St) : OX := y1mx (s 0) (s 5) s.h
theorem y1lv : T0 y14i [.t 4] y26i := sq y20l fun _ => by kernel_rfl
def yob (v0 v5 : AV) (h : Heap) : OX :=
ob (evFa 3 v5) fun v48 =>
ob (evLd false 1 v48 h) fun v49 =>
ob (y10 [(.int .i64 0), (.int .i64 0), (.int .i64 0), (.int .i64 0), (.int .i64 0), (.int .i64 0), (.int .i64 0), (.str []), .nils] [(0, 1, (AV.int .i64 30)), (2, 1, v0)]) fun v51 =>
oh (yj 0 (some 6) 9 1 [(.int .i64 0), (.int .i64 0), (.int .i64 0), (.int .i64 0), (.int .i64 0), (.int .i64 0), (.int .i64 0), (.str []), .nils] [(0, v51)] h) fun v52 h7 =>
oh (y2y 0 (some 7) 9 96 v49 v52 h7) fun v53 h8 =>
ob (evFa 3 v5) fun v54 =>
oh (evSt 1 v54 v53 h8) fun _ h9 =>
(y1mx v0 v5 h9)
def y63 (s : St) : OX := yob (s 0) (s 5) s.h
theorem y1lq : T0 y141 [.t 4] y63 := sq y1lv fun _ => by kernel_rfl
def yic (v0 v1 v5 v26 v27 : AV) (h : Heap) : OX :=
  W E 0 yj1 ⟨[(0, v0), (1, v1), (5, v5), (26, v26), (27, v27)], h⟩ y63 (y1 0 y63 xN) (finP [.t 4])
def y87 (s : St) : OX := yic (s 0) (s 1) (s 5) (s 26) (s 27) s.h
theorem yk8 : T1 yj1 y63 (y1 0 y63 xN) [.t 4] y87 := fun s => yd.trans (by kernel_rfl)
def yle (v0 v1 v5 v26 v27 : AV) (h : Heap) : OX :=
ob (y3 .add v27 (AV.int .i64 1)) fun v47 =>
(yic v0 v1 v5 v26 v47 h)
def y2bu (s : St) : OX := yle (s 0) (s 1) (s 5) (s 26) (s 27) s.h
theorem y1gc : T1 yyn y87 (y1 0 y63 xN) [.t 4] y2bu := fun _ => by kernel_rfl
def y1pc (v0 v1 v5 v26 v27 : AV) (h : Heap) : OX :=
ob (evFa 0 v5) fun v30 =>
ob (evLd false 1 v30 h) fun v31 =>
oh (yj 0 (some 2) 1 1 [(.int .i64 0)] [(0, v1)] h) fun v33 h10 =>
oh (y2y 0 (some 3) 1 8 v31 v33 h10) fun v34 h11 =>
ob (evFa 0 v5) fun v35 =>
oh (evSt 1 v35 v34 h11) fun _ h12 =>
ob (y3 .gtr v27 (AV.int .i64 0)) fun v37 =>
cnd v37
 (ob (evFa 3 v5) fun v38 =>
ob (evLd false 1 v38 h12) fun v39 =>
ob (y3 .sub v27 (AV.int .i64 1)) fun v42 =>
ob (y10 [(.int .i64 0), (.int .i64 0), (.int .i64 0), (.int .i64 0), (.int .i64 0), (.int .i64 0), (.int .i64 0), (.str []), .nils] [(0, 1, (AV.int .i64 4)), (1, 1, v27), (2, 1, v42)]) fun v43 =>
oh (yj 0 (some 4) 9 1 [(.int .i64 0), (.int .i64 0), (.int .i64 0), (.int .i64 0), (.int .i64 0), (.int .i64 0), (.int .i64 0), (.str []), .nils] [(0, v43)] h12) fun v44 h13 =>
oh (y2y 0 (some 5) 9 96 v39 v44 h13) fun v45 h14 =>
ob (evFa 3 v5) fun v46 =>
oh (evSt 1 v46 v45 h14) fun _ h15 =>
(yle v0 v1 v5 v26 v27 h15))
 ((yle v0 v1 v5 v26 v27 h12))
def y29x (s : St) : OX := y1pc (s 0) (s 1) (s 5) (s 26) (s 27) s.h
theorem y1hb : T1 ywd y87 (y1 0 y63 xN) [.t 4] y29x := sq y1gc fun _ => by kernel_rfl
def ywc (v0 v1 v5 v26 v27 v28 : AV) (h : Heap) : OX :=
cnd v28
 ((y1pc v0 v1 v5 v26 v27 h))
 ((yob v0 v5 h))
def y2a4 (s : St) : OX := ywc (s 0) (s 1) (s 5) (s 26) (s 27) (s 28) s.h
theorem y1ca : T1 y138 y87 (y1 0 y63 xN) [.t 4] y2a4 := sq y1hb fun _ => by kernel_rfl
def yxw (v0 v1 v5 v26 v27 : AV) (h : Heap) : OX :=
ob (y3 .lss v27 v26) fun v28 =>
(ywc v0 v1 v5 v26 v27 v28 h)
def y267 (s : St) : OX := yxw (s 0) (s 1) (s 5) (s 26) (s 27) s.h
theorem y1je : T1 y124 y87 (y1 0 y63 xN) [.t 4] y267 := sq y1ca fun _ => by kernel_rfl
theorem ylm (v0 v1 v5 v26 v27 : AV) (h : Heap) : yic v0 v1 v5 v26 v27 h = (yxw v0 v1 v5 v26 v27 h) :=
  y1t.trans ((y12 _ _ _ (n' := y87) (fun s => yk8 s)).trans ((y1je _).trans (by kernel_rfl)))
theorem y1jq : T1 yxe y63 xN [.t 4] y87 := fun s => yq.trans (yk8 s)
def y1f1 (v0 v1 v5 : AV) (h : Heap) : OX :=
ob (y3 .add v0 (AV.int .i64 1)) fun v26 =>
(yic v0 v1 v5 v26 (AV.int .i64 0) h)
def y1c9 (s : St) : OX := y1f1 (s 0) (s 1) (s 5) s.h
theorem y1ix : T1 yz7 y63 xN [.t 4] y1c9 := sq y1jq fun _ => by kernel_rfl
theorem y1pv : T0 y0x [.t 4] y1c9 := sq y1lq y1ix
def y1k7 (v0 v1 : AV) (h : Heap) : OX :=
oh (yj 0 (some 0) 1 1 [(.int .i64 0)] [(0, (AV.int .i64 0))] h) fun v22 h16 =>
ob (y10 [.nils, .nils, (.int .i64 0), .nils, .nils] [(1, 1, v22), (2, 1, v1)]) fun v24 =>
oh (newC 0 (some 1) [.nils, .nils, (.int .i64 0), .nils, .nils] h16) fun v5 h17 =>
oh (evSt 5 v5 v24 h17) fun _ h18 =>
(y1f1 v0 v1 v5 h18)
def y24v (s : St) : OX := y1k7 (s 0) (s 1) s.h
theorem y19f : T0 yxj [.t 4] y24v := sq y1pv fun _ => by kernel_rfl
def y1dq (v0 v1 : AV) (h : Heap) : OX :=
ob (y3 .rem v0 (AV.int .i64 40)) fun v13 =>
ob (y3 .add v13 (AV.int .i64 40)) fun v14 =>
ob (y3 .rem v14 (AV.int .i64 40)) fun v15 =>
ob (y3 .add v15 (AV.int .i64 1)) fun v16 =>
ob (y3 .rem v1 (AV.int .i64 3)) fun v18 =>
ob (y3 .add v18 (AV.int .i64 3)) fun v19 =>
ob (y3 .rem v19 (AV.int .i64 3)) fun v20 =>
ob (y3 .add v20 (AV.int .i64 1)) fun v21 =>
(y1k7 v16 v21 h)
def y2a5 (s : St) : OX := y1dq (s 0) (s 1) s.h
theorem y1em : T0 y145 [.t 4] y2a5 := sq y19f fun _ => by kernel_rfl
def y1bf (v0 v1 : AV) (h : Heap) : OX :=
oh (y4 E (y5 E) 0 none true 148 [] h) fun v10 h19 =>
ob (evUn .not v10) fun v11 =>
cnd v11
 ((y8 h19 (AV.bool false)))
 ((y1dq v0 v1 h19))
def y28s (s : St) : OX := y1bf (s 0) (s 1) s.h
theorem y1nn : T0 yvn [.t 4] y28s := sq y1em fun _ => by kernel_rfl
def y1kg (v0 v1 : AV) (h : Heap) : OX :=
(y1bf v0 v1 h)
def y23q (s : St) : OX := y1kg (s 0) (s 1) s.h
theorem y1q4 : T0 y0q [.t 4] y23q := sq y1nn fun _ => by kernel_rfl
@[simp] theorem y2k9 : E.pure 160 = true := rfl
theorem y2lq (v0 v1 : AV) : (y5 E).p 160 [v0, v1] = y1kg v0 v1 [⟨0, .dead⟩, ⟨0, .dead⟩, ⟨0, .dead⟩, ⟨0, .dead⟩, ⟨0, .dead⟩, ⟨0, .dead⟩, ⟨0, .dead⟩, ⟨0, .dead⟩, ⟨0, .dead⟩, ⟨0, .dead⟩] :=
  (yu (cf := y2fi) (by kernel_rfl) rfl).trans ((y1q4 _).trans (by kernel_rfl))
def y1i5 (v2 v3 : AV) (h : Heap) : OX :=
ob (evLd true 5 v3 h) fun v39 =>
oh (evSt 5 v2 v39 h) fun _ h1 =>
(ob (evLd true 5 v2 h1) fun r0 =>
  y8 h1 r0)
def ya1 (s : St) : OX := y1i5 (s 2) (s 3) s.h
theorem y1sp : T0 y1pk [.cell 2 true 5] ya1 := fun _ => by kernel_rfl
def yq7 (v2 v3 v22 v23 : AV) (h : Heap) : OX :=
  W E 0 ynd ⟨[(2, v2), (3, v3), (22, v22), (23, v23)], h⟩ ya1 (y1 0 ya1 xN) (finP [.cell 2 true 5])
def yc3 (s : St) : OX := yq7 (s 2) (s 3) (s 22) (s 23) s.h
theorem ysm : T1 ynd ya1 (y1 0 ya1 xN) [.cell 2 true 5] yc3 := fun s => yd.trans (by kernel_rfl)
def y24o (v2 v3 v22 v23 : AV) (h : Heap) : OX :=
ob (y3 .add v23 (AV.int .i64 1)) fun v38 =>
(yq7 v2 v3 v22 v38 h)
def y2fg (s : St) : OX := y24o (s 2) (s 3) (s 22) (s 23) s.h
theorem y1wm : T1 y1r1 yc3 (y1 0 ya1 xN) [.cell 2 true 5] y2fg := fun _ => by kernel_rfl
def y24n (v2 v3 v22 v23 : AV) (h : Heap) : OX :=
ob (evFa 3 v3) fun v26 =>
ob (evLd false 1 v26 h) fun v27 =>
ob (evFa 3 v3) fun v29 =>
ob (evLd false 1 v29 h) fun v30 =>
ob (yg 9 v30 v23) fun v32 =>
ob (evFa 8 v32) fun v33 =>
ob (evLd false 1 v33 h) fun v34 =>
ofp (y38 E (y5 E) 0 none true 39 [v34] h) fun f9 =>
oh (y4 E (y5 E) 0 none true 39 [v34] h) fun v35 h2 =>
ob (yg 9 v27 v23) fun v36 =>
ob (evFa 8 v36) fun v37 =>
oh (evSt 1 v37 v35 h2) fun _ h3 =>
okK (y9 [([], []), (ids1 v26, []), ([], []), ([], []), (ids1 v29, []), ([], []), ([], []), ([], []), (ids1 v33, []), f9, ([], []), ([], []), ([], ids1 v37)] [(1, 9)]) <|
(y24o v2 v3 v22 v23 h3)
def y2j4 (s : St) : OX := y24n (s 2) (s 3) (s 22) (s 23) s.h
theorem y1u6 : T1 y1jn yc3 (y1 0 ya1 xN) [.cell 2 true 5] y2j4 := sq y1wm fun _ => by kernel_rfl
def y1ug (v2 v3 v22 v23 v24 : AV) (h : Heap) : OX :=
cnd v24
 ((y24n v2 v3 v22 v23 h))
 ((y1i5 v2 v3 h))
def y2ez (s : St) : OX := y1ug (s 2) (s 3) (s 22) (s 23) (s 24) s.h
theorem y1sr : T1 y1qh yc3 (y1 0 ya1 xN) [.cell 2 true 5] y2ez := sq y1u6 fun _ => by kernel_rfl
def y1xw (v2 v3 v22 v23 : AV) (h : Heap) : OX :=
ob (y3 .lss v23 v22) fun v24 =>
(y1ug v2 v3 v22 v23 v24 h)
def y2e3 (s : St) : OX := y1xw (s 2) (s 3) (s 22) (s 23) s.h
theorem y1ty : T1 y1q9 yc3 (y1 0 ya1 xN) [.cell 2 true 5] y2e3 := sq y1sr fun _ => by kernel_rfl
theorem yql (v2 v3 v22 v23 : AV) (h : Heap) : yq7 v2 v3 v22 v23 h = (y1xw v2 v3 v22 v23 h) :=
  y1t.trans ((y12 _ _ _ (n' := yc3) (fun s => ysm s)).trans ((y1ty _).trans (by kernel_rfl)))
theorem y1xg : T1 y1of ya1 xN [.cell 2 true 5] yc3 := fun s => yq.trans (ysm s)
def y1g6 (v2 v3 : AV) (h : Heap) : OX :=
ob (evFa 3 v3) fun v20 =>
ob (evLd false 1 v20 h) fun v21 =>
ob (yt 1 v21 h) fun v22 =>
(yq7 v2 v3 v22 (AV.int .i64 0) h)
def y22w (s : St) : OX := y1g6 (s 2) (s 3) s.h
theorem y1sm : T1 y1dl ya1 xN [.cell 2 true 5] y22w := sq y1xg fun _ => by kernel_rfl
theorem y1v3 : T0 y1hv [.cell 2 true 5] y22w := sq y1sp y1sm
def yqt (v1 v2 : AV) (h : Heap) : OX :=
ob (evFa 0 v1) fun v5 =>
ob (evLd false 1 v5 h) fun v6 =>
ofp (y38 E (y5 E) 0 (some 2) false 39 [v6] h) fun f2 =>
oh (y4 E (y5 E) 0 (some 2) false 39 [v6] h) fun v7 h4 =>
ob (evFa 1 v1) fun v8 =>
ob (evLd false 1 v8 h4) fun v9 =>
ofp (y38 E (y5 E) 0 (some 3) false 39 [v9] h4) fun f5 =>
oh (y4 E (y5 E) 0 (some 3) false 39 [v9] h4) fun v10 h5 =>
ob (evFa 2 v1) fun v11 =>
ob (evLd false 1 v11 h5) fun v12 =>
ob (evFa 3 v1) fun v13 =>
ob (evLd false 1 v13 h5) fun v14 =>
ofp (y38 E (y5 E) 0 (some 4) false 40 [v14] h5) fun f10 =>
oh (y4 E (y5 E) 0 (some 4) false 40 [v14] h5) fun v15 h6 =>
ob (evFa 4 v1) fun v16 =>
ob (evLd false 1 v16 h6) fun v17 =>
ofp (y38 E (y5 E) 0 (some 5) false 41 [v17] h6) fun f13 =>
oh (y4 E (y5 E) 0 (some 5) false 41 [v17] h6) fun v18 h7 =>
ob (y10 [.nils, .nils, (.int .i64 0), .nils, .nils] [(0, 1, v7), (1, 1, v10), (2, 1, v12), (3, 1, v15), (4, 1, v18)]) fun v19 =>
oh (newC 0 (some 6) [.nils, .nils, (.int .i64 0), .nils, .nils] h7) fun v3 h8 =>
oh (evSt 5 v3 v19 h8) fun _ h9 =>
okK (y9 [([], []), (ids1 v5, []), f2, ([], []), (ids1 v8, []), f5, ([], []), (ids1 v11, []), ([], []), (ids1 v13, []), f10, ([], []), (ids1 v16, []), f13, ([], []), ([], [0 + 6]), ([], ids1 v3)] [(2, 4), (2, 7), (5, 7), (2, 9), (5, 9), (7, 10), (2, 12), (5, 12), (10, 12), (7, 13), (1, 15), (2, 15), (4, 15), (5, 15), (7, 15), (9, 15), (10, 15), (12, 15), (13, 15)]) <|
(y1g6 v2 v3 h9)
def y23z (s : St) : OX := yqt (s 1) (s 2) s.h
theorem y1r6 : T0 yyy [.cell 2 true 5] y23z := sq y1v3 fun _ => by kernel_rfl
def yzr (v0 : AV) (h : Heap) : OX :=
oh (newC 0 (some 0) (cellsOf v0) h) fun v1 h10 =>
oh (newC 0 (some 1) [.nils, .nils, (.int .i64 0), .nils, .nils] h10) fun v2 h11 =>
(yqt v1 v2 h11)
def y2c9 (s : St) : OX := yzr (s 0) s.h
theorem y1qz : T0 y12t [.cell 2 true 5] y2c9 := sq y1r6 fun _ => by kernel_rfl
@[simp] theorem y2np : E.pure 13 = true := rfl
theorem y2mt (v0 : AV) : (y5 E).p 13 [v0] = yzr v0 [⟨0, .dead⟩, ⟨0, .dead⟩, ⟨0, .dead⟩, ⟨0, .dead⟩, ⟨0, .dead⟩, ⟨0, .dead⟩, ⟨0, .dead⟩] :=
  (yu (cf := y2j0) (by kernel_rfl) rfl).trans ((y1qz _).trans (by kernel_rfl))
def y29p (h : Heap) : OX :=
(y8 h (AV.int .i64 0))
def y9x (s : St) : OX := y29p s.h
theorem y1vz : T0 y1mh [.t 2] y9x := fun _ => by kernel_rfl
def ykb (v1 v3 v136 v137 v138 : AV) (h : Heap) : OX :=
  W E 0 ynu ⟨[(1, v1), (3, v3), (136, v136), (137, v137), (138, v138)], h⟩ y9x (y1 6 y9x xN) (finP [.t 2])
def ych (s : St) : OX := ykb (s 1) (s 3) (s 136) (s 137) (s 138) s.h
theorem ysq : T1 ynu y9x (y1 6 y9x xN) [.t 2] ych := fun s => yd.trans (by kernel_rfl)
def y254 (v1 v3 v136 v137 v138 : AV) (h : Heap) : OX :=
ob (y3 .add v138 (AV.int .i64 1)) fun v179 =>
(ykb v1 v3 v136 v137 v179 h)
def y2gx (s : St) : OX := y254 (s 1) (s 3) (s 136) (s 137) (s 138) s.h
theorem y1sj : T1 y1hx ych (y1 6 y9x xN) [.t 2] y2gx := fun _ => by kernel_rfl
def ynw (v1 v3 v136 v137 v138 : AV) (h : Heap) : OX :=
ob (yg 4 v136 v138) fun v140 =>
ob (evLd true 4 v140 h) fun v141 =>
oh (newC 0 (some 2) [(.int .i64 0), (.int .i64 0), (.int .i64 0), (.str [])] h) fun v11 h1 =>
oh (evSt 4 v11 v141 h1) fun _ h2 =>
ob (evFa 0 v11) fun v142 =>
ob (evLd false 1 v142 h2) fun v143 =>
ob (y3 .lss v143 (AV.int .i64 0)) fun v144 =>
gb v144 false (evFa 0 v11) fun v146 =>
gb v144 false (evLd false 1 v146 h2) fun v147 =>
gb v144 false (evFa 1 v11) fun v148 =>
gb v144 false (evLd false 1 v148 h2) fun v149 =>
gb v144 false (y3 .geq v147 v149) fun v150 =>
ob (y7 v144 (AV.bool true) v150) fun v151 =>
gb v151 false (evFa 1 v11) fun v153 =>
gb v151 false (evLd false 1 v153 h2) fun v154 =>
gb v151 false (some v3) fun v155 =>
gb v151 false (y3 .gtr v154 v155) fun v156 =>
ob (y7 v151 (AV.bool true) v156) fun v157 =>
gb v157 false (evFa 2 v11) fun v159 =>
gb v157 false (evLd false 1 v159 h2) fun v160 =>
gb v157 false (y3 .lss v160 (AV.int .i64 0)) fun v161 =>
ob (y7 v157 (AV.bool true) v161) fun v162 =>
gb v162 false (evFa 2 v11) fun v164 =>
gb v162 false (evLd false 1 v164 h2) fun v165 =>
gb v162 false (some v3) fun v166 =>
gb v162 false (y3 .geq v165 v166) fun v167 =>
ob (y7 v162 (AV.bool true) v167) fun v168 =>
gb v168 false (evFa 3 v1) fun v170 =>
gb v168 false (evLd false 1 v170 h2) fun v171 =>
gb v168 false (evFa 2 v11) fun v172 =>
gb v168 false (evLd false 1 v172 h2) fun v173 =>
gb v168 false (yg 9 v171 v173) fun v174 =>
gb v168 false (evFa 0 v174) fun v175 =>
gb v168 false (evLd false 1 v175 h2) fun v176 =>
gb v168 false (y3 .neq v176 (AV.int .i64 32)) fun v177 =>
ob (y7 v168 (AV.bool true) v177) fun v178 =>
cnd v178
 ((y8 h2 (AV.int .i64 80)))
 ((y254 v1 v3 v136 v137 v138 h2))
def y2fv (s : St) : OX := ynw (s 1) (s 3) (s 136) (s 137) (s 138) s.h
theorem y1sa : T1 y1ox ych (y1 6 y9x xN) [.t 2] y2fv := sq y1sj fun _ => by kernel_rfl
def y1xf (v1 v3 v136 v137 v138 v139 : AV) (h : Heap) : OX :=
cnd v139
 ((ynw v1 v3 v136 v137 v138 h))
 ((y29p h))
def y2iy (s : St) : OX := y1xf (s 1) (s 3) (s 136) (s 137) (s 138) (s 139) s.h
theorem y1ya : T1 y1qc ych (y1 6 y9x xN) [.t 2] y2iy := sq y1sa fun _ => by kernel_rfl
def y1sl (v1 v3 v136 v137 v138 : AV) (h : Heap) : OX :=
ob (y3 .lss v138 v137) fun v139 =>
(y1xf v1 v3 v136 v137 v138 v139 h)
def y2gi (s : St) : OX := y1sl (s 1) (s 3) (s 136) (s 137) (s 138) s.h
theorem y1th : T1 y1lx ych (y1 6 y9x xN) [.t 2] y2gi := sq y1ya fun _ => by kernel_rfl
theorem yor (v1 v3 v136 v137 v138 : AV) (h : Heap) : ykb v1 v3 v136 v137 v138 h = (y1sl v1 v3 v136 v137 v138 h) :=
  y1t.trans ((y12 _ _ _ (n' := ych) (fun s => ysq s)).trans ((y1th _).trans (by kernel_rfl)))
theorem y1y1 : T1 y1bo y9x xN [.t 2] ych := fun s => yq.trans (ysq s)
def y1qm (v1 v3 : AV) (h : Heap) : OX :=
ob (evFa 4 v1) fun v135 =>
ob (evLd false 1 v135 h) fun v136 =>
ob (yt 1 v136 h) fun v137 =>
(ykb v1 v3 v136 v137 (AV.int .i64 0) h)
def y5r (s : St) : OX := y1qm (s 1) (s 3) s.h
theorem y1vk : T1 y1mg y9x xN [.t 2] y5r := sq y1y1 fun _ => by kernel_rfl
theorem y1sg : T0 y1bd [.t 2] y5r := sq y1vz y1vk
def yec (v1 v3 v92 v93 v94 : AV) (h : Heap) : OX :=
  W E 0 yi1 ⟨[(1, v1), (3, v3), (92, v92), (93, v93), (94, v94)], h⟩ y5r (y1 4 y5r xN) (finP [.t 2])
def y7x (s : St) : OX := yec (s 1) (s 3) (s 92) (s 93) (s 94) s.h
theorem ykn : T1 yi1 y5r (y1 4 y5r xN) [.t 2] y7x := fun s => yd.trans (by kernel_rfl)
def yv7 (v1 v3 v92 v93 v94 : AV) (h : Heap) : OX :=
ob (y3 .add v94 (AV.int .i64 1)) fun v134 =>
(yec v1 v3 v92 v93 v134 h)
def y9v (s : St) : OX := yv7 (s 1) (s 3) (s 92) (s 93) (s 94) s.h
theorem y1mj : T1 ywm y7x (y1 4 y5r xN) [.t 2] y9v := fun _ => by kernel_rfl
def ybv (v1 v3 v8 v9 v92 v93 v94 : AV) (h : Heap) : OX :=
ob (evFa 0 v9) fun v103 =>
ob (evLd false 1 v103 h) fun v104 =>
ob (y3 .eql v104 (AV.int .i64 32)) fun v105 =>
gb v105 true (some v8) fun v107 =>
gb v105 true (y3 .eql v107 (AV.int .i64 0)) fun v108 =>
gb v105 true (some v108) fun v109 =>
gb v109 false (evFa 3 v1) fun v110 =>
gb v109 false (evLd false 1 v110 h) fun v111 =>
gb v109 false (some v8) fun v112 =>
gb v109 false (y3 .sub v112 (AV.int .i64 1)) fun v113 =>
gb v109 false (yg 9 v111 v113) fun v114 =>
gb v109 false (evLd true 9 v114 h) fun v115 =>
gh v109 false (y4 E (y5 E) 0 none true 24 [v115] h) h fun v116 h3 =>
gb v109 false (evUn .not v116) fun v117 =>
gb v105 true (y7 v109 (AV.bool true) v117) fun v118 =>
ob (y7 v105 v118 (AV.bool false)) fun v119 =>
gb v119 false (evLd true 9 v9 h3) fun v121 =>
gh v119 false (y4 E (y5 E) 0 none true 22 [v121] h3) h3 fun v122 h4 =>
gb v119 false (some v122) fun v123 =>
gb v123 true (evFa 3 v1) fun v124 =>
gb v123 true (evLd false 1 v124 h4) fun v125 =>
gb v123 true (evFa 6 v9) fun v126 =>
gb v123 true (evLd false 1 v126 h4) fun v127 =>
gb v123 true (yg 9 v125 v127) fun v128 =>
gb v123 true (evFa 0 v128) fun v129 =>
gb v123 true (evLd false 1 v129 h4) fun v130 =>
gb v123 true (y3 .eql v130 (AV.int .i64 32)) fun v131 =>
gb v119 false (y7 v123 v131 (AV.bool false)) fun v132 =>
ob (y7 v119 (AV.bool true) v132) fun v133 =>
cnd v133
 ((y8 h4 (AV.int .i64 80)))
 ((yv7 v1 v3 v92 v93 v94 h4))
def y2c6 (s : St) : OX := ybv (s 1) (s 3) (s 8) (s 9) (s 92) (s 93) (s 94) s.h
theorem y1ir : T1 y14s y9v (y1 5 y9v (y1 4 y5r xN)) [.t 2] y2c6 := fun _ => by kernel_rfl
def y13x (v1 v3 v8 v9 v92 v93 v94 : AV) (h : Heap) : OX :=
ob (evLd true 5 v1 h) fun v99 =>
ob (evLd true 9 v9 h) fun v100 =>
oh (y4 E (y5 E) 0 none true 63 [v99, v100] h) fun v101 h5 =>
ob (evUn .not v101) fun v102 =>
cnd v102
 ((y8 h5 (AV.int .i64 80)))
 ((ybv v1 v3 v8 v9 v92 v93 v94 h5))
def y25z (s : St) : OX := y13x (s 1) (s 3) (s 8) (s 9) (s 92) (s 93) (s 94) s.h
theorem y1i1 : T1 y12f y9v (y1 5 y9v (y1 4 y5r xN)) [.t 2] y25z := sq y1ir fun _ => by kernel_rfl
def yps (v1 v3 v92 v93 v94 : AV) (h : Heap) : OX :=
ob (yg 9 v92 v94) fun v97 =>
ob (evLd true 9 v97 h) fun v98 =>
oh (newC 0 (some 1) [(.int .i64 0), (.int .i64 0), (.int .i64 0), (.int .i64 0), (.int .i64 0), (.int .i64 0), (.int .i64 0), (.str []), .nils] h) fun v9 h6 =>
oh (evSt 9 v9 v98 h6) fun _ h7 =>
(y13x v1 v3 v94 v9 v92 v93 v94 h7)
def yuq (s : St) : OX := yps (s 1) (s 3) (s 92) (s 93) (s 94) s.h
theorem y1dk : T1 y14q y9v (y1 5 y9v (y1 4 y5r xN)) [.t 2] yuq := sq y1i1 fun _ => by kernel_rfl
theorem y1gs : T1 y11y y9v (y1 4 y5r xN) [.t 2] yuq := fun s => yq.trans (y1dk s)
theorem y1gg : T1 y09 y7x (y1 4 y5r xN) [.t 2] yuq := sq y1mj y1gs
def y148 (v1 v3 v92 v93 v94 v95 : AV) (h : Heap) : OX :=
cnd v95
 ((yps v1 v3 v92 v93 v94 h))
 ((y1qm v1 v3 h))
def y26y (s : St) : OX := y148 (s 1) (s 3) (s 92) (s 93) (s 94) (s 95) s.h
theorem y1an : T1 y13u y7x (y1 4 y5r xN) [.t 2] y26y := sq y1gg fun _ => by kernel_rfl
def y122 (v1 v3 v92 v93 v94 : AV) (h : Heap) : OX :=
ob (y3 .lss v94 v93) fun v95 =>
(y148 v1 v3 v92 v93 v94 v95 h)
def y29b (s : St) : OX := y122 (s 1) (s 3) (s 92) (s 93) (s 94) s.h
theorem y1n7 : T1 y140 y7x (y1 4 y5r xN) [.t 2] y29b := sq y1an fun _ => by kernel_rfl
theorem ymb (v1 v3 v92 v93 v94 : AV) (h : Heap) : yec v1 v3 v92 v93 v94 h = (y122 v1 v3 v92 v93 v94 h) :=
  y1t.trans ((y12 _ _ _ (n' := y7x) (fun s => ykn s)).trans ((y1n7 _).trans (by kernel_rfl)))
theorem y1im : T1 yyo y5r xN [.t 2] y7x := fun s => yq.trans (ykn s)
def yp3 (v1 v3 : AV) (h : Heap) : OX :=
ob (evFa 3 v1) fun v91 =>
ob (evLd false 1 v91 h) fun v92 =>
ob (yt 1 v92 h) fun v93 =>
(yec v1 v3 v92 v93 (AV.int .i64 0) h)
def y5k (s : St) : OX := yp3 (s 1) (s 3) s.h
theorem y1fz : T1 yz8 y5r xN [.t 2] y5k := sq y1im fun _ => by kernel_rfl
theorem y1jk : T0 yxs [.t 2] y5k := sq y1sg y1fz
def yei (v1 v3 v62 v63 v64 : AV) (h : Heap) : OX :=
  W E 0 yjd ⟨[(1, v1), (3, v3), (62, v62), (63, v63), (64, v64)], h⟩ y5k (y1 2 y5k xN) (finP [.t 2])
def y83 (s : St) : OX := yei (s 1) (s 3) (s 62) (s 63) (s 64) s.h
theorem ykr : T1 yjd y5k (y1 2 y5k xN) [.t 2] y83 := fun s => yd.trans (by kernel_rfl)
def y1qe (v1 v3 v62 v63 v64 : AV) (h : Heap) : OX :=
ob (y3 .add v64 (AV.int .i64 1)) fun v90 =>
(yei v1 v3 v62 v63 v90 h)
def y2aq (s : St) : OX := y1qe (s 1) (s 3) (s 62) (s 63) (s 64) s.h
theorem y1a9 : T1 yz0 y83 (y1 2 y5k xN) [.t 2] y2aq := fun _ => by kernel_rfl
def yiz (v1 v3 v62 v63 v64 : AV) (h : Heap) : OX :=
ob (yg 1 v62 v64) fun v67 =>
ob (evLd false 1 v67 h) fun v68 =>
ob (y3 .lss v68 (AV.int .i64 0)) fun v70 =>
gb v70 false (some v68) fun v72 =>
gb v70 false (evFa 0 v1) fun v73 =>
gb v70 false (evLd false 1 v73 h) fun v74 =>
gb v70 false (yt 1 v74 h) fun v75 =>
gb v70 false (y3 .geq v72 v75) fun v76 =>
ob (y7 v70 (AV.bool true) v76) fun v77 =>
gb v77 false (evFa 1 v1) fun v79 =>
gb v77 false (evLd false 1 v79 h) fun v80 =>
gb v77 false (some v64) fun v81 =>
gb v77 false (y5s 1 v80 none (some v81)) fun v82 =>
gb v77 false (some v68) fun v83 =>
gh v77 false (y4 E (y5 E) 0 none true 46 [v82, v83] h) h fun v84 h8 =>
ob (y7 v77 (AV.bool true) v84) fun v85 =>
gb v85 false (some v64) fun v87 =>
gb v85 false (y3 .gtr v87 (AV.int .i64 20)) fun v88 =>
ob (y7 v85 (AV.bool true) v88) fun v89 =>
cnd v89
 ((y8 h8 (AV.int .i64 80)))
 ((y1qe v1 v3 v62 v63 v64 h8))
def y2cb (s : St) : OX := yiz (s 1) (s 3) (s 62) (s 63) (s 64) s.h
theorem y1r4 : T1 y13j y83 (y1 2 y5k xN) [.t 2] y2cb := sq y1a9 fun _ => by kernel_rfl
def yzl (v1 v3 v62 v63 v64 v65 : AV) (h : Heap) : OX :=
cnd v65
 ((yiz v1 v3 v62 v63 v64 h))
 ((yp3 v1 v3 h))
def y27f (s : St) : OX := yzl (s 1) (s 3) (s 62) (s 63) (s 64) (s 65) s.h
theorem y1b4 : T1 y11l y83 (y1 2 y5k xN) [.t 2] y27f := sq y1r4 fun _ => by kernel_rfl
def y12y (v1 v3 v62 v63 v64 : AV) (h : Heap) : OX :=
ob (y3 .lss v64 v63) fun v65 =>
(yzl v1 v3 v62 v63 v64 v65 h)
def y25o (s : St) : OX := y12y (s 1) (s 3) (s 62) (s 63) (s 64) s.h
theorem y1hp : T1 yzo y83 (y1 2 y5k xN) [.t 2] y25o := sq y1b4 fun _ => by kernel_rfl
theorem yl5 (v1 v3 v62 v63 v64 : AV) (h : Heap) : yei v1 v3 v62 v63 v64 h = (y12y v1 v3 v62 v63 v64 h) :=
  y1t.trans ((y12 _ _ _ (n' := y83) (fun s => ykr s)).trans ((y1hp _).trans (by kernel_rfl)))
theorem y1mf : T1 y14y y5k xN [.t 2] y83 := fun s => yq.trans (ykr s)
def yr1 (v1 v3 : AV) (h : Heap) : OX :=
ob (evFa 1 v1) fun v61 =>
ob (evLd false 1 v61 h) fun v62 =>
ob (yt 1 v62 h) fun v63 =>
(yei v1 v3 v62 v63 (AV.int .i64 0) h)
def y5j (s : St) : OX := yr1 (s 1) (s 3) s.h
theorem y1dp : T1 y14x y5k xN [.t 2] y5j := sq y1mf fun _ => by kernel_rfl
theorem y1ai : T0 y131 [.t 2] y5j := sq y1jk y1dp
def yey (v1 v3 v48 v49 v50 : AV) (h : Heap) : OX :=
  W E 0 yib ⟨[(1, v1), (3, v3), (48, v48), (49, v49), (50, v50)], h⟩ y5j (y1 0 y5j xN) (finP [.t 2])
def y8a (s : St) : OX := yey (s 1) (s 3) (s 48) (s 49) (s 50) s.h
theorem yka : T1 yib y5j (y1 0 y5j xN) [.t 2] y8a := fun s => yd.trans (by kernel_rfl)
def y1a4 (v1 v3 v48 v49 v50 : AV) (h : Heap) : OX :=
ob (y3 .add v50 (AV.int .i64 1)) fun v60 =>
(yey v1 v3 v48 v49 v60 h)
def y2aa (s : St) : OX := y1a4 (s 1) (s 3) (s 48) (s 49) (s 50) s.h
theorem y1lj : T1 y12w y8a (y1 0 y5j xN) [.t 2] y2aa := fun _ => by kernel_rfl
def ypk (v1 v3 v48 v49 v50 : AV) (h : Heap) : OX :=
ob (yg 1 v48 v50) fun v52 =>
ob (evLd false 1 v52 h) fun v53 =>
ob (y3 .lss v53 (AV.int .i64 1)) fun v55 =>
gb v55 false (some v53) fun v57 =>
gb v55 false (y3 .gtr v57 (AV.int .i64 3)) fun v58 =>
ob (y7 v55 (AV.bool true) v58) fun v59 =>
cnd v59
 ((y8 h (AV.int .i64 80)))
 ((y1a4 v1 v3 v48 v49 v50 h))
def y23x (s : St) : OX := ypk (s 1) (s 3) (s 48) (s 49) (s 50) s.h
theorem y1de : T1 y11b y8a (y1 0 y5j xN) [.t 2] y23x := sq y1lj fun _ => by kernel_rfl
def yxo (v1 v3 v48 v49 v50 v51 : AV) (h : Heap) : OX :=
cnd v51
 ((ypk v1 v3 v48 v49 v50 h))
 ((yr1 v1 v3 h))
def y256 (s : St) : OX := yxo (s 1) (s 3) (s 48) (s 49) (s 50) (s 51) s.h
theorem y1lp : T1 ywz y8a (y1 0 y5j xN) [.t 2] y256 := sq y1de fun _ => by kernel_rfl
def y15c (v1 v3 v48 v49 v50 : AV) (h : Heap) : OX :=
ob (y3 .lss v50 v49) fun v51 =>
(yxo v1 v3 v48 v49 v50 v51 h)
def y2al (s : St) : OX := y15c (s 1) (s 3) (s 48) (s 49) (s 50) s.h
theorem y1m3 : T1 ywy y8a (y1 0 y5j xN) [.t 2] y2al := sq y1lp fun _ => by kernel_rfl
theorem ylv (v1 v3 v48 v49 v50 : AV) (h : Heap) : yey v1 v3 v48 v49 v50 h = (y15c v1 v3 v48 v49 v50 h) :=
  y1t.trans ((y12 _ _ _ (n' := y8a) (fun s => yka s)).trans ((y1m3 _).trans (by kernel_rfl)))
theorem y1q8 : T1 yx2 y5j xN [.t 2] y8a := fun s => yq.trans (yka s)
def yl6 (v1 v3 : AV) (h : Heap) : OX :=
ob (evFa 0 v1) fun v47 =>
ob (evLd false 1 v47 h) fun v48 =>
ob (yt 1 v48 h) fun v49 =>
(yey v1 v3 v48 v49 (AV.int .i64 0) h)
def y1d1 (s : St) : OX := yl6 (s 1) (s 3) s.h
theorem y1qa : T1 y14m y5j xN [.t 2] y1d1 := sq y1q8 fun _ => by kernel_rfl
theorem y1ps : T0 yvr [.t 2] y1d1 := sq y1ai y1qa
def ydo (v1 v3 : AV) (h : Heap) : OX :=
ob (y3 .lss v3 (AV.int .i64 1)) fun v16 =>
gb v16 false (some v3) fun v18 =>
gb v16 false (y3 .gtr v18 (AV.int .i64 20000)) fun v19 =>
ob (y7 v16 (AV.bool true) v19) fun v20 =>
gb v20 false (evFa 0 v1) fun v22 =>
gb v20 false (evLd false 1 v22 h) fun v23 =>
gb v20 false (yt 1 v23 h) fun v24 =>
gb v20 false (y3 .gtr v24 (AV.int .i64 20000)) fun v25 =>
ob (y7 v20 (AV.bool true) v25) fun v26 =>
gb v26 false (evFa 2 v1) fun v28 =>
gb v26 false (evLd false 1 v28 h) fun v29 =>
gb v26 false (y3 .lss v29 (AV.int .i64 0)) fun v30 =>
ob (y7 v26 (AV.bool true) v30) fun v31 =>
gb v31 false (evFa 2 v1) fun v33 =>
gb v31 false (evLd false 1 v33 h) fun v34 =>
gb v31 false (y3 .gtr v34 (AV.int .i64 3)) fun v35 =>
ob (y7 v31 (AV.bool true) v35) fun v36 =>
gb v36 false (evFa 3 v1) fun v38 =>
gb v36 false (evLd false 1 v38 h) fun v39 =>
gb v36 false (some v3) fun v40 =>
gb v36 false (y3 .sub v40 (AV.int .i64 1)) fun v41 =>
gb v36 false (yg 9 v39 v41) fun v42 =>
gb v36 false (evLd true 9 v42 h) fun v43 =>
gh v36 false (y4 E (y5 E) 0 none true 24 [v43] h) h fun v44 h9 =>
gb v36 false (evUn .not v44) fun v45 =>
ob (y7 v36 (AV.bool true) v45) fun v46 =>
cnd v46
 ((y8 h9 (AV.int .i64 80)))
 ((yl6 v1 v3 h9))
def y247 (s : St) : OX := ydo (s 1) (s 3) s.h
theorem y1ph : T0 y14f [.t 2] y247 := sq y1ps fun _ => by kernel_rfl
def ycv (v1 : AV) (h : Heap) : OX :=
ob (evFa 3 v1) fun v12 =>
ob (evLd false 1 v12 h) fun v13 =>
ob (yt 1 v13 h) fun v14 =>
(ydo v1 v14 h)
def y2c2 (s : St) : OX := ycv (s 1) s.h
theorem y1qo : T0 yzz [.t 2] y2c2 := sq y1ph fun _ => by kernel_rfl
def yc2 (v0 : AV) (h : Heap) : OX :=
oh (newC 0 (some 0) (cellsOf v0) h) fun v1 h10 =>
(ycv v1 h10)
def y28q (s : St) : OX := yc2 (s 0) s.h
theorem y19b : T0 yxu [.t 2] y28q := sq y1qo fun _ => by kernel_rfl
@[simp] theorem y2oi : E.pure 8 = true := rfl
theorem y2o0 (v0 : AV) : (y5 E).p 8 [v0] = yc2 v0 [⟨0, .dead⟩, ⟨0, .dead⟩, ⟨0, .dead⟩] :=
  (yu (cf := y2gh) (by kernel_rfl) rfl).trans ((y19b _).trans (by kernel_rfl))
def yj9 (h : Heap) : OX :=
(y8 h (AV.int .i64 0))
def y71 (s : St) : OX := yj9 s.h
theorem y1kp : T0 y12n [.t 2] y71 := fun _ => by kernel_rfl
def yek (v1 v3 v8 : AV) (h : Heap) : OX :=
  W E 0 ygz ⟨[(1, v1), (3, v3), (8, v8)], h⟩ y71 (y1 6 y71 xN) (finP [.t 2])
def yba (s : St) : OX := yek (s 1) (s 3) (s 8) s.h
theorem ylk : T1 ygz y71 (y1 6 y71 xN) [.t 2] yba := fun s => yd.trans (by kernel_rfl)
def yhd (v1 v3 v8 : AV) (h : Heap) : OX :=
ob (y3 .add v8 (AV.int .i64 1)) fun v155 =>
(yek v1 v3 v155 h)
def y27z (s : St) : OX := yhd (s 1) (s 3) (s 8) s.h
theorem y1ce : T1 y0z yba (y1 6 y71 xN) [.t 2] y27z := fun _ => by kernel_rfl
def y7g (v1 v3 v8 : AV) (h : Heap) : OX :=
ob (evFa 4 v1) fun v156 =>
ob (evLd false 1 v156 h) fun v157 =>
ob (yg 4 v157 v8) fun v159 =>
ob (evLd true 4 v159 h) fun v160 =>
oh (newC 0 (some 2) [(.int .i64 0), (.int .i64 0), (.int .i64 0), (.str [])] h) fun v9 h1 =>
oh (evSt 4 v9 v160 h1) fun _ h2 =>
ob (evFa 0 v9) fun v161 =>
ob (evLd false 1 v161 h2) fun v162 =>
ob (y3 .lss v162 (AV.int .i64 0)) fun v163 =>
gb v163 false (evFa 0 v9) fun v165 =>
gb v163 false (evLd false 1 v165 h2) fun v166 =>
gb v163 false (evFa 1 v9) fun v167 =>
gb v163 false (evLd false 1 v167 h2) fun v168 =>
gb v163 false (y3 .geq v166 v168) fun v169 =>
ob (y7 v163 (AV.bool true) v169) fun v170 =>
gb v170 false (evFa 1 v9) fun v172 =>
gb v170 false (evLd false 1 v172 h2) fun v173 =>
gb v170 false (some v3) fun v174 =>
gb v170 false (y3 .gtr v173 v174) fun v175 =>
ob (y7 v170 (AV.bool true) v175) fun v176 =>
gb v176 false (evLd true 5 v1 h2) fun v178 =>
gb v176 false (evFa 2 v9) fun v179 =>
gb v176 false (evLd false 1 v179 h2) fun v180 =>
gh v176 false (y4 E (y5 E) 0 none true 49 [v178, v180] h2) h2 fun v181 h3 =>
gb v176 false (evUn .not v181) fun v182 =>
ob (y7 v176 (AV.bool true) v182) fun v183 =>
gb v183 false (evFa 3 v1) fun v185 =>
gb v183 false (evLd false 1 v185 h3) fun v186 =>
gb v183 false (evFa 2 v9) fun v187 =>
gb v183 false (evLd false 1 v187 h3) fun v188 =>
gb v183 false (yg 9 v186 v188) fun v189 =>
gb v183 false (evFa 0 v189) fun v190 =>
gb v183 false (evLd false 1 v190 h3) fun v191 =>
gb v183 false (y3 .neq v191 (AV.int .i64 32)) fun v192 =>
ob (y7 v183 (AV.bool true) v192) fun v193 =>
cnd v193
 ((y8 h3 (AV.int .i64 80)))
 ((yhd v1 v3 v8 h3))
def y25s (s : St) : OX := y7g (s 1) (s 3) (s 8) s.h
theorem y1kj : T1 y110 yba (y1 6 y71 xN) [.t 2] y25s := sq y1ce fun _ => by kernel_rfl
def y6j (v1 v3 v8 : AV) (h : Heap) : OX :=
ob (evFa 4 v1) fun v150 =>
ob (evLd false 1 v150 h) fun v151 =>
ob (yt 1 v151 h) fun v152 =>
ob (y3 .lss v8 v152) fun v153 =>
cnd v153
 ((y7g v1 v3 v8 h))
 ((yj9 h))
def y29m (s : St) : OX := y6j (s 1) (s 3) (s 8) s.h
theorem y1ag : T1 y13y yba (y1 6 y71 xN) [.t 2] y29m := sq y1kj fun _ => by kernel_rfl
theorem yl2 (v1 v3 v8 : AV) (h : Heap) : yek v1 v3 v8 h = (y6j v1 v3 v8 h) :=
  y1t.trans ((y12 _ _ _ (n' := yba) (fun s => ylk s)).trans ((y1ag _).trans (by kernel_rfl)))
theorem y1k5 : T1 y11f y71 xN [.t 2] yba := fun s => yq.trans (ylk s)
def yfr (v1 v3 : AV) (h : Heap) : OX :=
(yek v1 v3 (AV.int .i64 0) h)
def y5x (s : St) : OX := yfr (s 1) (s 3) s.h
theorem y1eg : T1 yz1 y71 xN [.t 2] y5x := sq y1k5 fun _ => by kernel_rfl
theorem y1bp : T0 y119 [.t 2] y5x := sq y1kp y1eg
def yed (v1 v3 v6 : AV) (h : Heap) : OX :=
  W E 0 yj0 ⟨[(1, v1), (3, v3), (6, v6)], h⟩ y5x (y1 4 y5x xN) (finP [.t 2])
def yb6 (s : St) : OX := yed (s 1) (s 3) (s 6) s.h
theorem ykg : T1 yj0 y5x (y1 4 y5x xN) [.t 2] yb6 := fun s => yd.trans (by kernel_rfl)
def y9z (v1 v3 v6 : AV) (h : Heap) : OX :=
ob (y3 .add v6 (AV.int .i64 1)) fun v104 =>
(yed v1 v3 v104 h)
def y1sz (s : St) : OX := y9z (s 1) (s 3) (s 6) s.h
theorem y17d : T1 yq1 yb6 (y1 4 y5x xN) [.t 2] y1sz := fun _ => by kernel_rfl
def y4h (v1 v3 v6 : AV) (h : Heap) : OX :=
ob (evFa 3 v1) fun v105 =>
ob (evLd false 1 v105 h) fun v106 =>
ob (yg 9 v106 v6) fun v108 =>
ob (evLd true 9 v108 h) fun v109 =>
oh (newC 0 (some 1) [(.int .i64 0), (.int .i64 0), (.int .i64 0), (.int .i64 0), (.int .i64 0), (.int .i64 0), (.int .i64 0), (.str []), .nils] h) fun v7 h4 =>
oh (evSt 9 v7 v109 h4) fun _ h5 =>
ob (evLd true 5 v1 h5) fun v110 =>
ob (evLd true 9 v7 h5) fun v111 =>
oh (y4 E (y5 E) 0 none true 64 [v110, v111] h5) fun v112 h6 =>
ob (evUn .not v112) fun v113 =>
gb v113 false (evFa 0 v7) fun v115 =>
gb v113 false (evLd false 1 v115 h6) fun v116 =>
gb v113 false (y3 .eql v116 (AV.int .i64 32)) fun v117 =>
gb v113 false (some v117) fun v118 =>
gb v118 true (some v6) fun v119 =>
gb v118 true (y3 .eql v119 (AV.int .i64 0)) fun v120 =>
gb v118 true (some v120) fun v121 =>
gb v121 false (evFa 3 v1) fun v122 =>
gb v121 false (evLd false 1 v122 h6) fun v123 =>
gb v121 false (some v6) fun v124 =>
gb v121 false (y3 .sub v124 (AV.int .i64 1)) fun v125 =>
gb v121 false (yg 9 v123 v125) fun v126 =>
gb v121 false (evFa 0 v126) fun v127 =>
gb v121 false (evLd false 1 v127 h6) fun v128 =>
gh v121 false (y4 E (y5 E) 0 none true 25 [v128] h6) h6 fun v129 h7 =>
gb v121 false (evUn .not v129) fun v130 =>
gb v118 true (y7 v121 (AV.bool true) v130) fun v131 =>
gb v113 false (y7 v118 v131 (AV.bool false)) fun v132 =>
ob (y7 v113 (AV.bool true) v132) fun v133 =>
gb v133 false (evFa 0 v7) fun v135 =>
gb v133 false (evLd false 1 v135 h7) fun v136 =>
gh v133 false (y4 E (y5 E) 0 none true 23 [v136] h7) h7 fun v137 h8 =>
gb v133 false (some v137) fun v138 =>
gb v138 true (evFa 3 v1) fun v139 =>
gb v138 true (evLd false 1 v139 h8) fun v140 =>
gb v138 true (evFa 6 v7) fun v141 =>
gb v138 true (evLd false 1 v141 h8) fun v142 =>
gb v138 true (yg 9 v140 v142) fun v143 =>
gb v138 true (evFa 0 v143) fun v144 =>
gb v138 true (evLd false 1 v144 h8) fun v145 =>
gb v138 true (y3 .eql v145 (AV.int .i64 32)) fun v146 =>
gb v133 false (y7 v138 v146 (AV.bool false)) fun v147 =>
ob (y7 v133 (AV.bool true) v147) fun v148 =>
cnd v148
 ((y8 h8 (AV.int .i64 80)))
 ((y9z v1 v3 v6 h8))
def y1z4 (s : St) : OX := y4h (s 1) (s 3) (s 6) s.h
theorem y18u : T1 ysg yb6 (y1 4 y5x xN) [.t 2] y1z4 := sq y17d fun _ => by kernel_rfl
def y9y (v1 v3 v6 : AV) (h : Heap) : OX :=
ob (y3 .lss v6 v3) fun v102 =>
cnd v102
 ((y4h v1 v3 v6 h))
 ((yfr v1 v3 h))
def y1vc (s : St) : OX := y9y (s 1) (s 3) (s 6) s.h
theorem y181 : T1 ypc yb6 (y1 4 y5x xN) [.t 2] y1vc := sq y18u fun _ => by kernel_rfl
theorem ylp (v1 v3 v6 : AV) (h : Heap) : yed v1 v3 v6 h = (y9y v1 v3 v6 h) :=
  y1t.trans ((y12 _ _ _ (n' := yb6) (fun s => ykg s)).trans ((y181 _).trans (by kernel_rfl)))
theorem y18k : T1 yop y5x xN [.t 2] yb6 := fun s => yq.trans (ykg s)
def yan (v1 v3 : AV) (h : Heap) : OX :=
(yed v1 v3 (AV.int .i64 0) h)
def y4m (s : St) : OX := yan (s 1) (s 3) s.h
theorem y18s : T1 ysi y5x xN [.t 2] y4m := sq y18k fun _ => by kernel_rfl
theorem y18b : T0 yoq [.t 2] y4m := sq y1bp y18s
def yax (v1 v3 v5 : AV) (h : Heap) : OX :=
  W E 0 yeo ⟨[(1, v1), (3, v3), (5, v5)], h⟩ y4m (y1 2 y4m xN) (finP [.t 2])
def y7o (s : St) : OX := yax (s 1) (s 3) (s 5) s.h
theorem yhi : T1 yeo y4m (y1 2 y4m xN) [.t 2] y7o := fun s => yd.trans (by kernel_rfl)
def yc7 (v1 v3 v5 : AV) (h : Heap) : OX :=
ob (y3 .add v5 (AV.int .i64 1)) fun v79 =>
(yax v1 v3 v79 h)
def y1t2 (s : St) : OX := yc7 (s 1) (s 3) (s 5) s.h
theorem y18f : T1 yr2 y7o (y1 2 y4m xN) [.t 2] y1t2 := fun _ => by kernel_rfl
def y8f (v1 v3 v5 : AV) (h : Heap) : OX :=
ob (evLd true 5 v1 h) fun v80 =>
ob (evFa 1 v1) fun v81 =>
ob (evLd false 1 v81 h) fun v82 =>
ob (yg 1 v82 v5) fun v84 =>
ob (evLd false 1 v84 h) fun v85 =>
oh (y4 E (y5 E) 0 none true 48 [v80, v85] h) fun v86 h9 =>
ob (y3 .eql v86 (AV.int .i64 0)) fun v87 =>
gb v87 false (evFa 1 v1) fun v89 =>
gb v87 false (evLd false 1 v89 h9) fun v90 =>
gb v87 false (some v5) fun v91 =>
gb v87 false (yg 1 v90 v91) fun v92 =>
gb v87 false (evLd false 1 v92 h9) fun v93 =>
gb v87 false (evFa 1 v1) fun v94 =>
gb v87 false (evLd false 1 v94 h9) fun v95 =>
gb v87 false (some v5) fun v96 =>
gb v87 false (y5s 1 v95 none (some v96)) fun v97 =>
gh v87 false (y4 E (y5 E) 0 none true 42 [v93, v97] h9) h9 fun v98 h10 =>
ob (y7 v87 (AV.bool true) v98) fun v99 =>
cnd v99
 ((y8 h10 (AV.int .i64 80)))
 ((yc7 v1 v3 v5 h10))
def y1vf (s : St) : OX := y8f (s 1) (s 3) (s 5) s.h
theorem y18r : T1 yol y7o (y1 2 y4m xN) [.t 2] y1vf := sq y18f fun _ => by kernel_rfl
def y74 (v1 v3 v5 : AV) (h : Heap) : OX :=
ob (evFa 1 v1) fun v74 =>
ob (evLd false 1 v74 h) fun v75 =>
ob (yt 1 v75 h) fun v76 =>
ob (y3 .lss v5 v76) fun v77 =>
cnd v77
 ((y8f v1 v3 v5 h))
 ((yan v1 v3 h))
def y1tu (s : St) : OX := y74 (s 1) (s 3) (s 5) s.h
theorem y174 : T1 yoi y7o (y1 2 y4m xN) [.t 2] y1tu := sq y18r fun _ => by kernel_rfl
theorem yiv (v1 v3 v5 : AV) (h : Heap) : yax v1 v3 v5 h = (y74 v1 v3 v5 h) :=
  y1t.trans ((y12 _ _ _ (n' := y7o) (fun s => yhi s)).trans ((y174 _).trans (by kernel_rfl)))
theorem y18j : T1 yqi y4m xN [.t 2] y7o := fun s => yq.trans (yhi s)
def ya7 (v1 v3 : AV) (h : Heap) : OX :=
(yax v1 v3 (AV.int .i64 0) h)
def y4p (s : St) : OX := ya7 (s 1) (s 3) s.h
theorem y18h : T1 ypw y4m xN [.t 2] y4p := sq y18j fun _ => by kernel_rfl
theorem y17u : T0 yqg [.t 2] y4p := sq y18b y18h
def ybf (v1 v3 v4 : AV) (h : Heap) : OX :=
  W E 0 yer ⟨[(1, v1), (3, v3), (4, v4)], h⟩ y4p (y1 0 y4p xN) (finP [.t 2])
def y75 (s : St) : OX := ybf (s 1) (s 3) (s 4) s.h
theorem yi7 : T1 yer y4p (y1 0 y4p xN) [.t 2] y75 := fun s => yd.trans (by kernel_rfl)
def yck (v1 v3 v4 : AV) (h : Heap) : OX :=
ob (y3 .add v4 (AV.int .i64 1)) fun v58 =>
(ybf v1 v3 v58 h)
def y1z8 (s : St) : OX := yck (s 1) (s 3) (s 4) s.h
theorem y17b : T1 yqz y75 (y1 0 y4p xN) [.t 2] y1z8 := fun _ => by kernel_rfl
def y8c (v1 v3 v4 : AV) (h : Heap) : OX :=
ob (evFa 0 v1) fun v59 =>
ob (evLd false 1 v59 h) fun v60 =>
ob (yg 1 v60 v4) fun v62 =>
ob (evLd false 1 v62 h) fun v63 =>
ob (y3 .lss v63 (AV.int .i64 1)) fun v64 =>
gb v64 false (evFa 0 v1) fun v66 =>
gb v64 false (evLd false 1 v66 h) fun v67 =>
gb v64 false (some v4) fun v68 =>
gb v64 false (yg 1 v67 v68) fun v69 =>
gb v64 false (evLd false 1 v69 h) fun v70 =>
gb v64 false (y3 .gtr v70 (AV.int .i64 3)) fun v71 =>
ob (y7 v64 (AV.bool true) v71) fun v72 =>
cnd v72
 ((y8 h (AV.int .i64 80)))
 ((yck v1 v3 v4 h))
def y1t5 (s : St) : OX := y8c (s 1) (s 3) (s 4) s.h
theorem y15l : T1 yqc y75 (y1 0 y4p xN) [.t 2] y1t5 := sq y17b fun _ => by kernel_rfl
def y6x (v1 v3 v4 : AV) (h : Heap) : OX :=
ob (evFa 0 v1) fun v53 =>
ob (evLd false 1 v53 h) fun v54 =>
ob (yt 1 v54 h) fun v55 =>
ob (y3 .lss v4 v55) fun v56 =>
cnd v56
 ((y8c v1 v3 v4 h))
 ((ya7 v1 v3 h))
def y1wh (s : St) : OX := y6x (s 1) (s 3) (s 4) s.h
theorem y16t : T1 yqu y75 (y1 0 y4p xN) [.t 2] y1wh := sq y15l fun _ => by kernel_rfl
theorem yj6 (v1 v3 v4 : AV) (h : Heap) : ybf v1 v3 v4 h = (y6x v1 v3 v4 h) :=
  y1t.trans ((y12 _ _ _ (n' := y75) (fun s => yi7 s)).trans ((y16t _).trans (by kernel_rfl)))
theorem y164 : T1 yrg y4p xN [.t 2] y75 := fun s => yq.trans (yi7 s)
def yel (v1 v3 : AV) (h : Heap) : OX :=
(ybf v1 v3 (AV.int .i64 0) h)
def yye (s : St) : OX := yel (s 1) (s 3) s.h
theorem y16m : T1 ysh y4p xN [.t 2] yye := sq y164 fun _ => by kernel_rfl
theorem y17o : T0 ys3 [.t 2] yye := sq y17u y16m
def y4j (v1 v3 : AV) (h : Heap) : OX :=
ob (y3 .eql v3 (AV.int .i64 0)) fun v14 =>
gb v14 false (some v3) fun v16 =>
gb v14 false (y3 .gtr v16 (AV.int .i64 20000)) fun v17 =>
ob (y7 v14 (AV.bool true) v17) fun v18 =>
gb v18 false (evFa 0 v1) fun v20 =>
gb v18 false (evLd false 1 v20 h) fun v21 =>
gb v18 false (yt 1 v21 h) fun v22 =>
gb v18 false (y3 .gtr v22 (AV.int .i64 20000)) fun v23 =>
ob (y7 v18 (AV.bool true) v23) fun v24 =>
gb v24 false (evFa 1 v1) fun v26 =>
gb v24 false (evLd false 1 v26 h) fun v27 =>
gb v24 false (yt 1 v27 h) fun v28 =>
gb v24 false (y3 .gtr v28 (AV.int .i64 21)) fun v29 =>
ob (y7 v24 (AV.bool true) v29) fun v30 =>
gb v30 false (evFa 2 v1) fun v32 =>
gb v30 false (evLd false 1 v32 h) fun v33 =>
gb v30 false (y3 .lss v33 (AV.int .i64 0)) fun v34 =>
ob (y7 v30 (AV.bool true) v34) fun v35 =>
gb v35 false (evFa 2 v1) fun v37 =>
gb v35 false (evLd false 1 v37 h) fun v38 =>
gb v35 false (y3 .gtr v38 (AV.int .i64 3)) fun v39 =>
ob (y7 v35 (AV.bool true) v39) fun v40 =>
gb v40 false (evFa 3 v1) fun v42 =>
gb v40 false (evLd false 1 v42 h) fun v43 =>
gb v40 false (some v3) fun v44 =>
gb v40 false (y3 .sub v44 (AV.int .i64 1)) fun v45 =>
gb v40 false (yg 9 v43 v45) fun v46 =>
gb v40 false (evFa 0 v46) fun v47 =>
gb v40 false (evLd false 1 v47 h) fun v48 =>
gh v40 false (y4 E (y5 E) 0 none true 25 [v48] h) h fun v49 h11 =>
gb v40 false (evUn .not v49) fun v50 =>
ob (y7 v40 (AV.bool true) v50) fun v51 =>
cnd v51
 ((y8 h11 (AV.int .i64 80)))
 ((yel v1 v3 h11))
def y1ti (s : St) : OX := y4j (s 1) (s 3) s.h
theorem y16c : T0 yp2 [.t 2] y1ti := sq y17o fun _ => by kernel_rfl
def y4n (v1 : AV) (h : Heap) : OX :=
ob (evFa 3 v1) fun v10 =>
ob (evLd false 1 v10 h) fun v11 =>
ob (yt 1 v11 h) fun v12 =>
(y4j v1 v12 h)
def y1ux (s : St) : OX := y4n (s 1) s.h
theorem y16e : T0 yqo [.t 2] y1ux := sq y16c fun _ => by kernel_rfl
def y45 (v0 : AV) (h : Heap) : OX :=
oh (newC 0 (some 0) (cellsOf v0) h) fun v1 h12 =>
(y4n v1 h12)
def y1ym (s : St) : OX := y45 (s 0) s.h
theorem y18l : T0 yqj [.t 2] y1ym := sq y16e fun _ => by kernel_rfl
@[simp] theorem y2mi : E.pure 29 = true := rfl
theorem y2id (v0 : AV) : (y5 E).p 29 [v0] = y45 v0 [⟨0, .dead⟩, ⟨0, .dead⟩, ⟨0, .dead⟩] :=
  (yu (cf := y219) (by kernel_rfl) rfl).trans ((y18l _).trans (by kernel_rfl))
@[simp] theorem y2kh : E.pure 148 = true := rfl
def q1_1 (v1 v2 : AV) (h : Heap) : OX :=
ob (evLd true 5 v1 h) fun v173 =>
oh (evSt 5 v2 v173 h) fun _ h1 =>
(ob (evLd true 5 v2 h1) fun r0 =>
  y8 h1 r0)
def y5c (s : St) : OX := q1_1 (s 1) (s 2) s.h
theorem y25c : T0 y21u [.cell 2 true 5] y5c := fun _ => by kernel_rfl
def y169 (v1 v2 v3 v12 v15 v107 v108 v109 : AV) (h : Heap) : OX :=
  W E 0 yu3 ⟨[(1, v1), (2, v2), (3, v3), (12, v12), (15, v15), (107, v107), (108, v108), (109, v109)], h⟩ y5c (y1 8 y5c xN) (finP [.cell 2 true 5])
def yip (s : St) : OX := y169 (s 1) (s 2) (s 3) (s 12) (s 15) (s 107) (s 108) (s 109) s.h
theorem y05 : T1 yu3 y5c (y1 8 y5c xN) [.cell 2 true 5] yip := fun s => yd.trans (by kernel_rfl)
def q1_3 (v1 v2 v3 v12 v15 v107 v108 v109 : AV) (h : Heap) : OX :=
ob (y3 .add v109 (AV.int .i64 1)) fun v172 =>
(y169 v1 v2 v3 v12 v15 v107 v108 v172 h)
def y6i (s : St) : OX := q1_3 (s 1) (s 2) (s 3) (s 12) (s 15) (s 107) (s 108) (s 109) s.h
theorem y29t : T1 y222 yip (y1 8 y5c xN) [.cell 2 true 5] y6i := fun _ => by kernel_rfl
def q1_4 (v1 v2 v3 v12 v15 v16 v17 v18 v107 v108 v109 : AV) (h : Heap) : OX :=
ob (evFa 3 v1) fun v165 =>
ob (evLd false 1 v165 h) fun v166 =>
ob (evLd true 9 v17 h) fun v168 =>
ofp (y38 E (y5 E) 0 none true 27 [v168, v18] h) fun f5 =>
oh (y4 E (y5 E) 0 none true 27 [v168, v18] h) fun v170 h2 =>
ob (yg 9 v166 v16) fun v171 =>
oh (evSt 9 v171 v170 h2) fun _ h3 =>
okK (y9 [([], []), (ids1 v165, []), ([], []), (ids1 v17, []), ([], []), f5, ([], []), ([], ids1 v171)] [(1, 5)]) <|
(q1_3 v1 v2 v3 v12 v15 v107 v108 v109 h3)
def yii (s : St) : OX := q1_4 (s 1) (s 2) (s 3) (s 12) (s 15) (s 16) (s 17) (s 18) (s 107) (s 108) (s 109) s.h
theorem y25e : T1 y22g y6i (y1 9 y6i (y1 8 y5c xN)) [.cell 2 true 5] yii := fun _ => by kernel_rfl
def y1li (v1 v2 v3 v12 v15 v16 v17 v18 v107 v108 v109 v139 v140 v141 : AV) (h : Heap) : OX :=
  W E 0 yuy ⟨[(1, v1), (2, v2), (3, v3), (12, v12), (15, v15), (16, v16), (17, v17), (18, v18), (107, v107), (108, v108), (109, v109), (139, v139), (140, v140), (141, v141)], h⟩ yii (y1 10 yii (y1 9 y6i (y1 8 y5c xN))) (finP [.cell 2 true 5])
def yi4 (s : St) : OX := y1li (s 1) (s 2) (s 3) (s 12) (s 15) (s 16) (s 17) (s 18) (s 107) (s 108) (s 109) (s 139) (s 140) (s 141) s.h
theorem yyi : T1 yuy yii (y1 10 yii (y1 9 y6i (y1 8 y5c xN))) [.cell 2 true 5] yi4 := fun s => yd.trans (by kernel_rfl)
def q1_6 (v1 v2 v3 v12 v15 v16 v17 v18 v107 v108 v109 v139 v140 v141 : AV) (h : Heap) : OX :=
ob (y3 .add v141 (AV.int .i64 1)) fun v164 =>
(y1li v1 v2 v3 v12 v15 v16 v17 v18 v107 v108 v109 v139 v140 v164 h)
def y2m1 (s : St) : OX := q1_6 (s 1) (s 2) (s 3) (s 12) (s 15) (s 16) (s 17) (s 18) (s 107) (s 108) (s 109) (s 139) (s 140) (s 141) s.h
theorem y2br : T1 y21p yi4 (y1 10 yii (y1 9 y6i (y1 8 y5c xN))) [.cell 2 true 5] y2m1 := fun _ => by kernel_rfl
def q1_7 (v1 v2 v3 v12 v15 v16 v17 v18 v107 v108 v109 v139 v140 v141 : AV) (h : Heap) : OX :=
ob (yg 1 v139 v141) fun v144 =>
ob (evLd false 1 v144 h) fun v145 =>
ob (evLd false 1 v3 h) fun v146 =>
ob (yg 1 v146 v16) fun v148 =>
ob (evLd false 1 v148 h) fun v149 =>
ob (yg 1 v149 v145) fun v151 =>
ob (evLd false 1 v151 h) fun v152 =>
ob (y3 .geq v152 (AV.int .i64 0)) fun v153 =>
cnd v153
 (ob (evLd false 1 v3 h) fun v156 =>
ob (yg 1 v156 v16) fun v158 =>
ob (evLd false 1 v158 h) fun v159 =>
ob (yg 1 v159 v145) fun v161 =>
ob (evLd false 1 v161 h) fun v162 =>
ob (yg 1 v18 v141) fun v163 =>
oh (evSt 1 v163 v162 h) fun _ h4 =>
(q1_6 v1 v2 v3 v12 v15 v16 v17 v18 v107 v108 v109 v139 v140 v141 h4))
 ((q1_6 v1 v2 v3 v12 v15 v16 v17 v18 v107 v108 v109 v139 v140 v141 h))
def y2le (s : St) : OX := q1_7 (s 1) (s 2) (s 3) (s 12) (s 15) (s 16) (s 17) (s 18) (s 107) (s 108) (s 109) (s 139) (s 140) (s 141) s.h
theorem y26p : T1 y21t yi4 (y1 10 yii (y1 9 y6i (y1 8 y5c xN))) [.cell 2 true 5] y2le := sq y2br fun _ => by kernel_rfl
def q1_8 (v1 v2 v3 v12 v15 v16 v17 v18 v107 v108 v109 v139 v140 v141 v142 : AV) (h : Heap) : OX :=
cnd v142
 ((q1_7 v1 v2 v3 v12 v15 v16 v17 v18 v107 v108 v109 v139 v140 v141 h))
 ((q1_4 v1 v2 v3 v12 v15 v16 v17 v18 v107 v108 v109 h))
def y2kp (s : St) : OX := q1_8 (s 1) (s 2) (s 3) (s 12) (s 15) (s 16) (s 17) (s 18) (s 107) (s 108) (s 109) (s 139) (s 140) (s 141) (s 142) s.h
theorem y294 : T1 y21x yi4 (y1 10 yii (y1 9 y6i (y1 8 y5c xN))) [.cell 2 true 5] y2kp := sq y26p fun _ => by kernel_rfl
def q1_9 (v1 v2 v3 v12 v15 v16 v17 v18 v107 v108 v109 v139 v140 v141 : AV) (h : Heap) : OX :=
ob (y3 .lss v141 v140) fun v142 =>
(q1_8 v1 v2 v3 v12 v15 v16 v17 v18 v107 v108 v109 v139 v140 v141 v142 h)
def y2m8 (s : St) : OX := q1_9 (s 1) (s 2) (s 3) (s 12) (s 15) (s 16) (s 17) (s 18) (s 107) (s 108) (s 109) (s 139) (s 140) (s 141) s.h
theorem y28i : T1 y21o yi4 (y1 10 yii (y1 9 y6i (y1 8 y5c xN))) [.cell 2 true 5] y2m8 := sq y294 fun _ => by kernel_rfl
theorem ymg (v1 v2 v3 v12 v15 v16 v17 v18 v107 v108 v109 v139 v140 v141 : AV) (h : Heap) : y1li v1 v2 v3 v12 v15 v16 v17 v18 v107 v108 v109 v139 v140 v141 h = (q1_9 v1 v2 v3 v12 v15 v16 v17 v18 v107 v108 v109 v139 v140 v141 h) :=
  y1t.trans ((y12 _ _ _ (n' := yi4) (fun s => yyi s)).trans ((y28i _).trans (by kernel_rfl)))
theorem y1xl : T1 y1gm yii (y1 9 y6i (y1 8 y5c xN)) [.cell 2 true 5] yi4 := fun s => yq.trans (yyi s)
def y1fy (v1 v2 v3 v12 v15 v16 v17 v18 v107 v108 v109 : AV) (h : Heap) : OX :=
ob (yt 1 v18 h) fun v140 =>
(y1li v1 v2 v3 v12 v15 v16 v17 v18 v107 v108 v109 v18 v140 (AV.int .i64 0) h)
def y214 (s : St) : OX := y1fy (s 1) (s 2) (s 3) (s 12) (s 15) (s 16) (s 17) (s 18) (s 107) (s 108) (s 109) s.h
theorem y1um : T1 y1jo yii (y1 9 y6i (y1 8 y5c xN)) [.cell 2 true 5] y214 := sq y1xl fun _ => by kernel_rfl
theorem y1xz : T1 y1mw y6i (y1 9 y6i (y1 8 y5c xN)) [.cell 2 true 5] y214 := sq y25e y1um
def y1l4 (v1 v2 v3 v12 v15 v16 v17 v107 v108 v109 : AV) (h : Heap) : OX :=
ob (evLd true 9 v17 h) fun v137 =>
oh (y4 E (y5 E) 0 (some 19) false 10 [v137] h) fun v138 h5 =>
(y1fy v1 v2 v3 v12 v15 v16 v17 v138 v107 v108 v109 h5)
def y2da (s : St) : OX := y1l4 (s 1) (s 2) (s 3) (s 12) (s 15) (s 16) (s 17) (s 107) (s 108) (s 109) s.h
theorem y1ue : T1 y1jx y6i (y1 9 y6i (y1 8 y5c xN)) [.cell 2 true 5] y2da := sq y1xz fun _ => by kernel_rfl
def y172 (v1 v2 v3 v12 v15 v16 v17 v107 v108 v109 : AV) (h : Heap) : OX :=
ob (y7f false [0] (.bool false) false v12 v16 h) fun v121 =>
ob (evUn .not v121) fun v122 =>
cnd v122
 (ob (evLd false 1 v3 h) fun v123 =>
ob (evLd false 1 v3 h) fun v125 =>
ob (y3 .sub v16 (AV.int .i64 1)) fun v127 =>
ob (yg 1 v125 v127) fun v128 =>
ob (evLd false 1 v128 h) fun v129 =>
ob (y3 .sub v16 (AV.int .i64 1)) fun v132 =>
ob (yg 9 v15 v132) fun v133 =>
ob (evLd true 9 v133 h) fun v134 =>
ofp (y38 E (y5 E) 0 none true 152 [v129, v134] h) fun f12 =>
oh (y4 E (y5 E) 0 none true 152 [v129, v134] h) fun v135 h6 =>
ob (yg 1 v123 v16) fun v136 =>
oh (evSt 1 v136 v135 h6) fun _ h7 =>
okK (y9 [(ids1 v3, []), ([], []), (ids1 v3, []), ([], []), ([], []), ([], []), (ids1 v128, []), ([], []), ([], []), ([], []), ([], []), (ids1 v133, []), f12, ([], []), ([], ids1 v136)] [(0, 12)]) <|
(y1l4 v1 v2 v3 v12 v15 v16 v17 v107 v108 v109 h7))
 ((y1l4 v1 v2 v3 v12 v15 v16 v17 v107 v108 v109 h))
def y2em (s : St) : OX := y172 (s 1) (s 2) (s 3) (s 12) (s 15) (s 16) (s 17) (s 107) (s 108) (s 109) s.h
theorem y1vt : T1 y1cy y6i (y1 9 y6i (y1 8 y5c xN)) [.cell 2 true 5] y2em := sq y1ue fun _ => by kernel_rfl
def y1j4 (v1 v2 v3 v12 v15 v16 v17 v107 v108 v109 : AV) (h : Heap) : OX :=
ob (evLd false 1 v3 h) fun v114 =>
ob (yg 1 v114 v16) fun v116 =>
ob (evLd false 1 v116 h) fun v117 =>
ob (y4u 1 false v117 AV.nils) fun v118 =>
cnd v118
 ((q1_3 v1 v2 v3 v12 v15 v107 v108 v109 h))
 ((y172 v1 v2 v3 v12 v15 v16 v17 v107 v108 v109 h))
def y2hl (s : St) : OX := y1j4 (s 1) (s 2) (s 3) (s 12) (s 15) (s 16) (s 17) (s 107) (s 108) (s 109) s.h
theorem y1x3 : T1 y1by y6i (y1 9 y6i (y1 8 y5c xN)) [.cell 2 true 5] y2hl := sq y1vt fun _ => by kernel_rfl
def y269 (v1 v2 v3 v12 v15 v107 v108 v109 : AV) (h : Heap) : OX :=
ob (yg 9 v107 v109) fun v112 =>
ob (evLd true 9 v112 h) fun v113 =>
oh (newC 0 (some 18) [(.int .i64 0), (.int .i64 0), (.int .i64 0), (.int .i64 0), (.int .i64 0), (.int .i64 0), (.int .i64 0), (.str []), .nils] h) fun v17 h8 =>
oh (evSt 9 v17 v113 h8) fun _ h9 =>
(y1j4 v1 v2 v3 v12 v15 v109 v17 v107 v108 v109 h9)
def y1if (s : St) : OX := y269 (s 1) (s 2) (s 3) (s 12) (s 15) (s 107) (s 108) (s 109) s.h
theorem y1uq : T1 y1pr y6i (y1 9 y6i (y1 8 y5c xN)) [.cell 2 true 5] y1if := sq y1x3 fun _ => by kernel_rfl
theorem y1zr : T1 y1f9 y6i (y1 8 y5c xN) [.cell 2 true 5] y1if := fun s => yq.trans (y1uq s)
theorem y1x8 : T1 y1fh yip (y1 8 y5c xN) [.cell 2 true 5] y1if := sq y29t y1zr
def y20d (v1 v2 v3 v12 v15 v107 v108 v109 v110 : AV) (h : Heap) : OX :=
cnd v110
 ((y269 v1 v2 v3 v12 v15 v107 v108 v109 h))
 ((q1_1 v1 v2 h))
def y2gb (s : St) : OX := y20d (s 1) (s 2) (s 3) (s 12) (s 15) (s 107) (s 108) (s 109) (s 110) s.h
theorem y1w7 : T1 y1nm yip (y1 8 y5c xN) [.cell 2 true 5] y2gb := sq y1x8 fun _ => by kernel_rfl
def y1w8 (v1 v2 v3 v12 v15 v107 v108 v109 : AV) (h : Heap) : OX :=
ob (y3 .lss v109 v108) fun v110 =>
(y20d v1 v2 v3 v12 v15 v107 v108 v109 v110 h)
def y2fh (s : St) : OX := y1w8 (s 1) (s 2) (s 3) (s 12) (s 15) (s 107) (s 108) (s 109) s.h
theorem y1wz : T1 y1m1 yip (y1 8 y5c xN) [.cell 2 true 5] y2fh := sq y1w7 fun _ => by kernel_rfl
theorem y14p (v1 v2 v3 v12 v15 v107 v108 v109 : AV) (h : Heap) : y169 v1 v2 v3 v12 v15 v107 v108 v109 h = (y1w8 v1 v2 v3 v12 v15 v107 v108 v109 h) :=
  y1t.trans ((y12 _ _ _ (n' := yip) (fun s => y05 s)).trans ((y1wz _).trans (by kernel_rfl)))
theorem y1tj : T1 y1ng y5c xN [.cell 2 true 5] yip := fun s => yq.trans (y05 s)
def y28r (v1 v2 v3 v12 v15 : AV) (h : Heap) : OX :=
ob (yt 1 v15 h) fun v108 =>
(y169 v1 v2 v3 v12 v15 v15 v108 (AV.int .i64 0) h)
def y22o (s : St) : OX := y28r (s 1) (s 2) (s 3) (s 12) (s 15) s.h
theorem y1yw : T1 y1ak y5c xN [.cell 2 true 5] y22o := sq y1tj fun _ => by kernel_rfl
theorem y1y4 : T0 y1bi [.cell 2 true 5] y22o := sq y25c y1yw
def y1z2 (v1 v2 v3 v12 : AV) (h : Heap) : OX :=
ob (evFa 3 v1) fun v104 =>
ob (evLd false 1 v104 h) fun v105 =>
oh (y4 E (y5 E) 0 (some 16) true 40 [v105] h) fun v106 h10 =>
(y28r v1 v2 v3 v12 v106 h10)
def yac (s : St) : OX := y1z2 (s 1) (s 2) (s 3) (s 12) s.h
theorem y1tb : T0 y1b1 [.cell 2 true 5] yac := sq y1y4 fun _ => by kernel_rfl
def yrv (v1 v2 v3 v12 v95 v96 v97 : AV) (h : Heap) : OX :=
  W E 0 ymr ⟨[(1, v1), (2, v2), (3, v3), (12, v12), (95, v95), (96, v96), (97, v97)], h⟩ yac (y1 6 yac xN) (finP [.cell 2 true 5])
def yc9 (s : St) : OX := yrv (s 1) (s 2) (s 3) (s 12) (s 95) (s 96) (s 97) s.h
theorem ypp : T1 ymr yac (y1 6 yac xN) [.cell 2 true 5] yc9 := fun s => yd.trans (by kernel_rfl)
def y23k (v1 v2 v3 v12 v95 v96 v97 : AV) (h : Heap) : OX :=
ob (y3 .add v97 (AV.int .i64 1)) fun v103 =>
(yrv v1 v2 v3 v12 v95 v96 v103 h)
def y2gm (s : St) : OX := y23k (s 1) (s 2) (s 3) (s 12) (s 95) (s 96) (s 97) s.h
theorem y1xk : T1 y1g2 yc9 (y1 6 yac xN) [.cell 2 true 5] y2gm := fun _ => by kernel_rfl
def y23f (v1 v2 v3 v12 v95 v96 v97 : AV) (h : Heap) : OX :=
ob (yg 1 v95 v97) fun v99 =>
ob (evLd false 1 v99 h) fun v100 =>
oh (yc0 false [0] v12 v100 (AV.bool true) h) fun _ h11 =>
(y23k v1 v2 v3 v12 v95 v96 v97 h11)
def y2gc (s : St) : OX := y23f (s 1) (s 2) (s 3) (s 12) (s 95) (s 96) (s 97) s.h
theorem y1u3 : T1 y1nz yc9 (y1 6 yac xN) [.cell 2 true 5] y2gc := sq y1xk fun _ => by kernel_rfl
def y1w2 (v1 v2 v3 v12 v95 v96 v97 v98 : AV) (h : Heap) : OX :=
cnd v98
 ((y23f v1 v2 v3 v12 v95 v96 v97 h))
 ((y1z2 v1 v2 v3 v12 h))
def y2fw (s : St) : OX := y1w2 (s 1) (s 2) (s 3) (s 12) (s 95) (s 96) (s 97) (s 98) s.h
theorem y1ts : T1 y1r0 yc9 (y1 6 yac xN) [.cell 2 true 5] y2fw := sq y1u3 fun _ => by kernel_rfl
def y1yq (v1 v2 v3 v12 v95 v96 v97 : AV) (h : Heap) : OX :=
ob (y3 .lss v97 v96) fun v98 =>
(y1w2 v1 v2 v3 v12 v95 v96 v97 v98 h)
def y2go (s : St) : OX := y1yq (s 1) (s 2) (s 3) (s 12) (s 95) (s 96) (s 97) s.h
theorem y1zx : T1 y1ah yc9 (y1 6 yac xN) [.cell 2 true 5] y2go := sq y1ts fun _ => by kernel_rfl
theorem yqd (v1 v2 v3 v12 v95 v96 v97 : AV) (h : Heap) : yrv v1 v2 v3 v12 v95 v96 v97 h = (y1yq v1 v2 v3 v12 v95 v96 v97 h) :=
  y1t.trans ((y12 _ _ _ (n' := yc9) (fun s => ypp s)).trans ((y1zx _).trans (by kernel_rfl)))
theorem y1se : T1 y1ol yac xN [.cell 2 true 5] yc9 := fun s => yq.trans (ypp s)
def y28u (v1 v2 v3 v12 : AV) (h : Heap) : OX :=
ob (evLd true 5 v1 h) fun v94 =>
oh (y4 E (y5 E) 0 none true 102 [v94] h) fun v95 h12 =>
ob (yt 1 v95 h12) fun v96 =>
(yrv v1 v2 v3 v12 v95 v96 (AV.int .i64 0) h12)
def y22p (s : St) : OX := y28u (s 1) (s 2) (s 3) (s 12) s.h
theorem y1x5 : T1 y19e yac xN [.cell 2 true 5] y22p := sq y1se fun _ => by kernel_rfl
theorem y1z7 : T0 y1ip [.cell 2 true 5] y22p := sq y1tb y1x5
def y1s1 (v1 v2 v3 : AV) (h : Heap) : OX :=
oh (mkmC 0 (some 15) h) fun v93 h13 =>
(y28u v1 v2 v3 v93 h13)
def y2x (s : St) : OX := y1s1 (s 1) (s 2) (s 3) s.h
theorem y1up : T0 y1km [.cell 2 true 5] y2x := sq y1z7 fun _ => by kernel_rfl
def yhz (v1 v2 v3 v4 v5 : AV) (h : Heap) : OX :=
  W E 0 ymn ⟨[(1, v1), (2, v2), (3, v3), (4, v4), (5, v5)], h⟩ y2x (y1 0 y2x xN) (finP [.cell 2 true 5])
def yz (s : St) : OX := yhz (s 1) (s 2) (s 3) (s 4) (s 5) s.h
theorem ypf : T1 ymn y2x (y1 0 y2x xN) [.cell 2 true 5] yz := fun s => yd.trans (by kernel_rfl)
def ypi (v1 v2 v3 v4 v5 v9 v82 v83 v84 : AV) (h : Heap) : OX :=
  W E 0 yo1 ⟨[(1, v1), (2, v2), (3, v3), (4, v4), (5, v5), (9, v9), (82, v82), (83, v83), (84, v84)], h⟩ yz (y1 4 yz (y1 1 yz (y1 0 y2x xN))) (finP [.cell 2 true 5])
def ycj (s : St) : OX := ypi (s 1) (s 2) (s 3) (s 4) (s 5) (s 9) (s 82) (s 83) (s 84) s.h
theorem yqs : T1 yo1 yz (y1 4 yz (y1 1 yz (y1 0 y2x xN))) [.cell 2 true 5] ycj := fun s => yd.trans (by kernel_rfl)
def y2aw (v1 v2 v3 v4 v5 v9 v82 v83 v84 : AV) (h : Heap) : OX :=
ob (y3 .add v84 (AV.int .i64 1)) fun v92 =>
(ypi v1 v2 v3 v4 v5 v9 v82 v83 v92 h)
def y2g0 (s : St) : OX := y2aw (s 1) (s 2) (s 3) (s 4) (s 5) (s 9) (s 82) (s 83) (s 84) s.h
theorem y1sb : T1 y1cf ycj (y1 4 yz (y1 1 yz (y1 0 y2x xN))) [.cell 2 true 5] y2g0 := fun _ => by kernel_rfl
def y2ad (v1 v2 v3 v4 v5 v9 v82 v83 v84 : AV) (h : Heap) : OX :=
ob (yg 1 v82 v84) fun v86 =>
ob (evLd false 1 v86 h) fun v87 =>
oh (yjx E (y5 E) 0 none true v5 [v87, v9] h) fun v91 h14 =>
(y2aw v1 v2 v3 v4 v5 v9 v82 v83 v84 h14)
def y2eh (s : St) : OX := y2ad (s 1) (s 2) (s 3) (s 4) (s 5) (s 9) (s 82) (s 83) (s 84) s.h
theorem y1v0 : T1 y1gf ycj (y1 4 yz (y1 1 yz (y1 0 y2x xN))) [.cell 2 true 5] y2eh := sq y1sb fun _ => by kernel_rfl
def y20j (v1 v2 v3 v4 v5 v9 v82 v83 v84 v85 : AV) (h : Heap) : OX :=
cnd v85
 ((y2ad v1 v2 v3 v4 v5 v9 v82 v83 v84 h))
 ((yhz v1 v2 v3 v4 v5 h))
def y2fu (s : St) : OX := y20j (s 1) (s 2) (s 3) (s 4) (s 5) (s 9) (s 82) (s 83) (s 84) (s 85) s.h
theorem y1y8 : T1 y1mb ycj (y1 4 yz (y1 1 yz (y1 0 y2x xN))) [.cell 2 true 5] y2fu := sq y1v0 fun _ => by kernel_rfl
def y1yf (v1 v2 v3 v4 v5 v9 v82 v83 v84 : AV) (h : Heap) : OX :=
ob (y3 .lss v84 v83) fun v85 =>
(y20j v1 v2 v3 v4 v5 v9 v82 v83 v84 v85 h)
def y2gj (s : St) : OX := y1yf (s 1) (s 2) (s 3) (s 4) (s 5) (s 9) (s 82) (s 83) (s 84) s.h
theorem y1xt : T1 y1nq ycj (y1 4 yz (y1 1 yz (y1 0 y2x xN))) [.cell 2 true 5] y2gj := sq y1y8 fun _ => by kernel_rfl
theorem yso (v1 v2 v3 v4 v5 v9 v82 v83 v84 : AV) (h : Heap) : ypi v1 v2 v3 v4 v5 v9 v82 v83 v84 h = (y1yf v1 v2 v3 v4 v5 v9 v82 v83 v84 h) :=
  y1t.trans ((y12 _ _ _ (n' := ycj) (fun s => yqs s)).trans ((y1xt _).trans (by kernel_rfl)))
theorem y1t1 : T1 y1nd yz (y1 1 yz (y1 0 y2x xN)) [.cell 2 true 5] ycj := fun s => yq.trans (yqs s)
def y2bh (v1 v2 v3 v4 v5 v6 v9 : AV) (h : Heap) : OX :=
ob (evLd true 5 v1 h) fun v80 =>
oh (y4 E (y5 E) 0 none true 81 [v80, v6] h) fun v82 h15 =>
ob (yt 1 v82 h15) fun v83 =>
(ypi v1 v2 v3 v4 v5 v9 v82 v83 (AV.int .i64 0) h15)
def y2i1 (s : St) : OX := y2bh (s 1) (s 2) (s 3) (s 4) (s 5) (s 6) (s 9) s.h
theorem y1uh : T1 y1d2 yz (y1 1 yz (y1 0 y2x xN)) [.cell 2 true 5] y2i1 := sq y1t1 fun _ => by kernel_rfl
def y1wl (v1 v2 v3 v4 v5 v6 : AV) (h : Heap) : OX :=
ob (evLd false 1 v3 h) fun v70 =>
ob (yg 1 v70 v6) fun v72 =>
ob (evLd false 1 v72 h) fun v73 =>
ob (evFa 3 v1) fun v74 =>
ob (evLd false 1 v74 h) fun v75 =>
ob (yg 9 v75 v6) fun v77 =>
ob (evLd true 9 v77 h) fun v78 =>
oh (y4 E (y5 E) 0 none true 152 [v73, v78] h) fun v79 h16 =>
(y2bh v1 v2 v3 v4 v5 v6 v79 h16)
def ya0 (s : St) : OX := y1wl (s 1) (s 2) (s 3) (s 4) (s 5) (s 6) s.h
theorem y1v4 : T1 y1qu yz (y1 1 yz (y1 0 y2x xN)) [.cell 2 true 5] ya0 := sq y1uh fun _ => by kernel_rfl
def yog (v1 v2 v3 v4 v5 v6 v56 v57 v58 : AV) (h : Heap) : OX :=
  W E 0 ymy ⟨[(1, v1), (2, v2), (3, v3), (4, v4), (5, v5), (6, v6), (56, v56), (57, v57), (58, v58)], h⟩ ya0 (y1 2 ya0 (y1 1 yz (y1 0 y2x xN))) (finP [.cell 2 true 5])
def yc5 (s : St) : OX := yog (s 1) (s 2) (s 3) (s 4) (s 5) (s 6) (s 56) (s 57) (s 58) s.h
theorem yp6 : T1 ymy ya0 (y1 2 ya0 (y1 1 yz (y1 0 y2x xN))) [.cell 2 true 5] yc5 := fun s => yd.trans (by kernel_rfl)
def y25d (v1 v2 v3 v4 v5 v6 v56 v57 v58 : AV) (h : Heap) : OX :=
ob (y3 .add v58 (AV.int .i64 1)) fun v69 =>
(yog v1 v2 v3 v4 v5 v6 v56 v57 v69 h)
def y2d6 (s : St) : OX := y25d (s 1) (s 2) (s 3) (s 4) (s 5) (s 6) (s 56) (s 57) (s 58) s.h
theorem y1ru : T1 y1p3 yc5 (y1 2 ya0 (y1 1 yz (y1 0 y2x xN))) [.cell 2 true 5] y2d6 := fun _ => by kernel_rfl
def y2bj (v1 v2 v3 v4 v5 v6 v56 v57 v58 : AV) (h : Heap) : OX :=
ob (yg 1 v56 v58) fun v60 =>
ob (evLd false 1 v60 h) fun v61 =>
ob (evLd false 1 v3 h) fun v64 =>
ob (yg 1 v64 v6) fun v66 =>
ob (evLd false 1 v66 h) fun v67 =>
oh (yjx E (y5 E) 0 none true v5 [v61, v67] h) fun v68 h17 =>
(y25d v1 v2 v3 v4 v5 v6 v56 v57 v58 h17)
def y2ei (s : St) : OX := y2bj (s 1) (s 2) (s 3) (s 4) (s 5) (s 6) (s 56) (s 57) (s 58) s.h
theorem y1un : T1 y1cx yc5 (y1 2 ya0 (y1 1 yz (y1 0 y2x xN))) [.cell 2 true 5] y2ei := sq y1ru fun _ => by kernel_rfl
def y1to (v1 v2 v3 v4 v5 v6 v56 v57 v58 v59 : AV) (h : Heap) : OX :=
cnd v59
 ((y2bj v1 v2 v3 v4 v5 v6 v56 v57 v58 h))
 ((y1wl v1 v2 v3 v4 v5 v6 h))
def y2hw (s : St) : OX := y1to (s 1) (s 2) (s 3) (s 4) (s 5) (s 6) (s 56) (s 57) (s 58) (s 59) s.h
theorem y202 : T1 y1q1 yc5 (y1 2 ya0 (y1 1 yz (y1 0 y2x xN))) [.cell 2 true 5] y2hw := sq y1un fun _ => by kernel_rfl
def y1rh (v1 v2 v3 v4 v5 v6 v56 v57 v58 : AV) (h : Heap) : OX :=
ob (y3 .lss v58 v57) fun v59 =>
(y1to v1 v2 v3 v4 v5 v6 v56 v57 v58 v59 h)
def y2fc (s : St) : OX := y1rh (s 1) (s 2) (s 3) (s 4) (s 5) (s 6) (s 56) (s 57) (s 58) s.h
theorem y1v9 : T1 y1ju yc5 (y1 2 ya0 (y1 1 yz (y1 0 y2x xN))) [.cell 2 true 5] y2fc := sq y202 fun _ => by kernel_rfl
theorem ys0 (v1 v2 v3 v4 v5 v6 v56 v57 v58 : AV) (h : Heap) : yog v1 v2 v3 v4 v5 v6 v56 v57 v58 h = (y1rh v1 v2 v3 v4 v5 v6 v56 v57 v58 h) :=
  y1t.trans ((y12 _ _ _ (n' := yc5) (fun s => yp6 s)).trans ((y1v9 _).trans (by kernel_rfl)))
theorem y1u2 : T1 y1pi ya0 (y1 1 yz (y1 0 y2x xN)) [.cell 2 true 5] yc5 := fun s => yq.trans (yp6 s)
def y28k (v1 v2 v3 v4 v5 v6 : AV) (h : Heap) : OX :=
ob (evLd true 5 v1 h) fun v54 =>
oh (y4 E (y5 E) 0 none true 79 [v54, v6] h) fun v56 h18 =>
ob (yt 1 v56 h18) fun v57 =>
(yog v1 v2 v3 v4 v5 v6 v56 v57 (AV.int .i64 0) h18)
def y229 (s : St) : OX := y28k (s 1) (s 2) (s 3) (s 4) (s 5) (s 6) s.h
theorem y1x4 : T1 y1oo ya0 (y1 1 yz (y1 0 y2x xN)) [.cell 2 true 5] y229 := sq y1u2 fun _ => by kernel_rfl
theorem y1za : T1 y1gv yz (y1 1 yz (y1 0 y2x xN)) [.cell 2 true 5] y229 := sq y1v4 y1x4
def y26z (v1 v2 v3 v4 v5 v6 : AV) (h : Heap) : OX :=
ob (evLd false 1 v4 h) fun v49 =>
ob (evLd false 1 v4 h) fun v50 =>
ob (yt 1 v50 h) fun v51 =>
ob (y3 .sub v51 (AV.int .i64 1)) fun v52 =>
ob (y5s 1 v49 none (some v52)) fun v53 =>
oh (evSt 1 v4 v53 h) fun _ h19 =>
(y28k v1 v2 v3 v4 v5 v6 h19)
def y2d9 (s : St) : OX := y26z (s 1) (s 2) (s 3) (s 4) (s 5) (s 6) s.h
theorem y200 : T1 y1ke yz (y1 1 yz (y1 0 y2x xN)) [.cell 2 true 5] y2d9 := sq y1za fun _ => by kernel_rfl
def y281 (v1 v2 v3 v4 v5 : AV) (h : Heap) : OX :=
ob (evLd false 1 v4 h) fun v43 =>
ob (evLd false 1 v4 h) fun v44 =>
ob (yt 1 v44 h) fun v45 =>
ob (y3 .sub v45 (AV.int .i64 1)) fun v46 =>
ob (yg 1 v43 v46) fun v47 =>
ob (evLd false 1 v47 h) fun v48 =>
(y26z v1 v2 v3 v4 v5 v48 h)
def y22v (s : St) : OX := y281 (s 1) (s 2) (s 3) (s 4) (s 5) s.h
theorem y1t6 : T1 y1ne yz (y1 1 yz (y1 0 y2x xN)) [.cell 2 true 5] y22v := sq y200 fun _ => by kernel_rfl
theorem y1s6 : T1 y19a yz (y1 0 y2x xN) [.cell 2 true 5] y22v := fun s => yq.trans (y1t6 s)
def y1ck (v1 v2 v3 v4 v5 : AV) (h : Heap) : OX :=
ob (evLd false 1 v4 h) fun v40 =>
ob (yt 1 v40 h) fun v41 =>
ob (y3 .gtr v41 (AV.int .i64 0)) fun v42 =>
cnd v42
 ((y281 v1 v2 v3 v4 v5 h))
 ((y1s1 v1 v2 v3 h))
def y2eo (s : St) : OX := y1ck (s 1) (s 2) (s 3) (s 4) (s 5) s.h
theorem y1ro : T1 y1oz yz (y1 0 y2x xN) [.cell 2 true 5] y2eo := sq y1s6 fun _ => by kernel_rfl
theorem yhp (v1 v2 v3 v4 v5 : AV) (h : Heap) : yhz v1 v2 v3 v4 v5 h = (y1ck v1 v2 v3 v4 v5 h) :=
  y1t.trans ((y12 _ _ _ (n' := yz) (fun s => ypf s)).trans ((y1ro _).trans (by kernel_rfl)))
theorem y1rj : T1 y1jt y2x xN [.cell 2 true 5] yz := fun s => yq.trans (ypf s)
theorem y1wg : T0 y1mk [.cell 2 true 5] yz := sq y1up y1rj
def y23d (v1 v2 v3 v4 : AV) (h : Heap) : OX :=
ob (some (.fn 151 [v3, v4])) fun v39 =>
(yhz v1 v2 v3 v4 v39 h)
def y2ib (s : St) : OX := y23d (s 1) (s 2) (s 3) (s 4) s.h
theorem y1tn : T0 y1qx [.cell 2 true 5] y2ib := sq y1wg fun _ => by kernel_rfl
def y26u (v1 v2 v3 : AV) (h : Heap) : OX :=
oh (yj 0 (some 13) 1 1 [(.int .i64 0)] [(0, (AV.int .i64 0))] h) fun v38 h20 =>
oh (newC 0 (some 14) [.nils] h20) fun v4 h21 =>
oh (evSt 1 v4 v38 h21) fun _ h22 =>
(y23d v1 v2 v3 v4 h22)
def y2jf (s : St) : OX := y26u (s 1) (s 2) (s 3) s.h
theorem y1sf : T0 y1f3 [.cell 2 true 5] y2jf := sq y1tn fun _ => by kernel_rfl
def y29a (v1 v2 v3 : AV) (h : Heap) : OX :=
ob (evLd false 1 v3 h) fun v31 =>
oh (yj 0 (some 12) 1 1 [(.int .i64 0)] [(0, (AV.int .i64 (-1)))] h) fun v32 h23 =>
ob (evFa 0 v1) fun v33 =>
ob (evLd false 1 v33 h23) fun v34 =>
ob (yt 1 v34 h23) fun v35 =>
ofp (y38 E (y5 E) 0 none true 150 [v32, v35] h23) fun f5 =>
oh (y4 E (y5 E) 0 none true 150 [v32, v35] h23) fun v36 h24 =>
ob (yg 1 v31 (AV.int .i64 0)) fun v37 =>
oh (evSt 1 v37 v36 h24) fun _ h25 =>
okK (y9 [(ids1 v3, []), ([], [0 + 12]), ([], []), (ids1 v33, []), (ids1 v34, []), f5, ([], []), ([], ids1 v37)] [(0, 1), (1, 3), (1, 4), (0, 5)]) <|
(y26u v1 v2 v3 h25)
def y2h3 (s : St) : OX := y29a (s 1) (s 2) (s 3) s.h
theorem y1zn : T0 y1e6 [.cell 2 true 5] y2h3 := sq y1sf fun _ => by kernel_rfl
def y20m (v1 v2 : AV) (h : Heap) : OX :=
ob (evFa 3 v1) fun v27 =>
ob (evLd false 1 v27 h) fun v28 =>
ob (yt 1 v28 h) fun v29 =>
oh (mkSC 0 (some 10) 1 24 [.nils] v29 v29 h) fun v30 h26 =>
oh (newC 0 (some 11) [.nils] h26) fun v3 h27 =>
oh (evSt 1 v3 v30 h27) fun _ h28 =>
(y29a v1 v2 v3 h28)
def y2fz (s : St) : OX := y20m (s 1) (s 2) s.h
theorem y1wi : T0 y1hl [.cell 2 true 5] y2fz := sq y1zn fun _ => by kernel_rfl
def y1id (v1 v2 : AV) (h : Heap) : OX :=
ob (evLd true 5 v1 h) fun v23 =>
oh (y4 E (y5 E) 0 none true 8 [v23] h) fun v24 h29 =>
ob (y3 .neq v24 (AV.int .i64 0)) fun v25 =>
cnd v25
 (ob (evLd true 5 v1 h29) fun v26 =>
oh (evSt 5 v2 v26 h29) fun _ h30 =>
(ob (evLd true 5 v2 h30) fun r0 =>
  y8 h30 r0))
 ((y20m v1 v2 h29))
def y2f0 (s : St) : OX := y1id (s 1) (s 2) s.h
theorem y208 : T0 y1lt [.cell 2 true 5] y2f0 := sq y1wi fun _ => by kernel_rfl
def y27m (v1 v2 : AV) (h : Heap) : OX :=
ob (evLd true 5 v1 h) fun v21 =>
oh (y4 E (y5 E) 0 (some 2) false 13 [v21] h) fun v22 h31 =>
oh (evSt 5 v1 v22 h31) fun _ h32 =>
(y1id v1 v2 h32)
def y2e1 (s : St) : OX := y27m (s 1) (s 2) s.h
theorem y1st : T0 y1pp [.cell 2 true 5] y2e1 := sq y208 fun _ => by kernel_rfl
def y1ry (v0 : AV) (h : Heap) : OX :=
oh (newC 0 (some 0) (cellsOf v0) h) fun v1 h33 =>
oh (newC 0 (some 1) [.nils, .nils, (.int .i64 0), .nils, .nils] h33) fun v2 h34 =>
(y27m v1 v2 h34)
def y2cv (s : St) : OX := y1ry (s 0) s.h
theorem y209 : T0 y18v [.cell 2 true 5] y2cv := sq y1st fun _ => by kernel_rfl
@[simp] theorem y2kf : E.pure 149 = true := rfl
theorem x_q1 (v0 : AV) : (y5 E).p 149 [v0] = y1ry v0 [⟨0, .dead⟩, ⟨0, .dead⟩, ⟨0, .dead⟩, ⟨0, .dead⟩, ⟨0, .dead⟩, ⟨0, .dead⟩, ⟨0, .dead⟩, ⟨0, .dead⟩, ⟨0, .dead⟩, ⟨0, .dead⟩, ⟨0, .dead⟩, ⟨0, .dead⟩, ⟨0, .dead⟩, ⟨0, .dead⟩, ⟨0, .dead⟩, ⟨0, .dead⟩, ⟨0, .dead⟩, ⟨0, .dead⟩, ⟨0, .dead⟩, ⟨0, .dead⟩] :=
  (yu (cf := c_q1) (by kernel_rfl) rfl).trans ((y209 _).trans (by kernel_rfl))
def ycl (h : Heap) : OX :=
(y8 h AV.nils)
def y31 (s : St) : OX := ycl s.h
theorem y1xa : T0 y1kk [.t 2] y31 := fun _ => by kernel_rfl
def ydn (v1 : AV) (h : Heap) : OX :=
ob (evFa 2 v1) fun v58 =>
ob (evLd false 1 v58 h) fun v59 =>
ob (evFa 3 v1) fun v60 =>
ob (evLd false 1 v60 h) fun v61 =>
oh (yj 0 (some 6) 1 2 [(.int .i64 0)] [(0, v59), (1, v61)] h) fun v62 h1 =>
(y8 h1 v62)
def y2f6 (s : St) : OX := ydn (s 1) s.h
theorem y1zo : T1 y1at y31 (y1 0 y31 xN) [.t 2] y2f6 := fun _ => by kernel_rfl
def ycw (v1 : AV) (h : Heap) : OX :=
ob (evFa 3 v1) fun v52 =>
ob (evLd false 1 v52 h) fun v53 =>
ob (y3 .lss v53 (AV.int .i64 0)) fun v54 =>
cnd v54
 (ob (evFa 2 v1) fun v55 =>
ob (evLd false 1 v55 h) fun v56 =>
oh (yj 0 (some 5) 1 1 [(.int .i64 0)] [(0, v56)] h) fun v57 h2 =>
(y8 h2 v57))
 ((ydn v1 h))
def y2ht (s : St) : OX := ycw (s 1) s.h
theorem y1xc : T1 y1m2 y31 (y1 0 y31 xN) [.t 2] y2ht := sq y1zo fun _ => by kernel_rfl
def yda (v1 v4 v50 : AV) (h : Heap) : OX :=
cnd v50
 ((ycw v1 h))
 (ob (y3 .eql v4 (AV.int .i64 30)) fun v64 =>
cnd v64
 (ob (evFa 2 v1) fun v65 =>
ob (evLd false 1 v65 h) fun v66 =>
ob (y3 .geq v66 (AV.int .i64 0)) fun v67 =>
cnd v67
 (ob (evFa 2 v1) fun v68 =>
ob (evLd false 1 v68 h) fun v69 =>
oh (yj 0 (some 7) 1 1 [(.int .i64 0)] [(0, v69)] h) fun v70 h3 =>
(y8 h3 v70))
 ((ycl h)))
 ((ycl h)))
def y2j2 (s : St) : OX := yda (s 1) (s 4) (s 50) s.h
theorem y1tq : T1 y1am y31 (y1 0 y31 xN) [.t 2] y2j2 := fun s => (y14 (y1xc s) rfl).trans (by kernel_rfl)
def yd8 (v1 v4 : AV) (h : Heap) : OX :=
ob (y3 .eql v4 (AV.int .i64 29)) fun v51 =>
(yda v1 v4 v51 h)
def y2f5 (s : St) : OX := yd8 (s 1) (s 4) s.h
theorem y1rt : T1 y1p9 y31 (y1 0 y31 xN) [.t 2] y2f5 := sq y1tq fun _ => by kernel_rfl
def y9w (v1 v4 v42 : AV) (h : Heap) : OX :=
cnd v42
 (ob (evFa 8 v1) fun v47 =>
ob (evLd false 1 v47 h) fun v48 =>
oh (y4 E (y5 E) 0 (some 4) false 39 [v48] h) fun v49 h4 =>
(y8 h4 v49))
 ((yd8 v1 v4 h))
def y2eg (s : St) : OX := y9w (s 1) (s 4) (s 42) s.h
theorem y1zf : T1 y1fl y31 (y1 0 y31 xN) [.t 2] y2eg := fun s => (y14 rfl (y1rt s)).trans (by kernel_rfl)
def ydf (v1 v4 : AV) (h : Heap) : OX :=
ob (y3 .eql v4 (AV.int .i64 23)) fun v43 =>
cnd v43
 ((y9w v1 v4 v43 h))
 (ob (y3 .eql v4 (AV.int .i64 24)) fun v44 =>
cnd v44
 ((y9w v1 v4 v44 h))
 (ob (y3 .eql v4 (AV.int .i64 25)) fun v45 =>
cnd v45
 ((y9w v1 v4 v45 h))
 (ob (y3 .eql v4 (AV.int .i64 26)) fun v46 =>
(y9w v1 v4 v46 h))))
def y2hv (s : St) : OX := ydf (s 1) (s 4) s.h
theorem y1v6 : T1 y1bv y31 (y1 0 y31 xN) [.t 2] y2hv := sq y1zf fun _ => by kernel_rfl
def ye1 (v1 v4 v33 : AV) (h : Heap) : OX :=
cnd v33
 (ob (evFa 2 v1) fun v35 =>
ob (evLd false 1 v35 h) fun v36 =>
ob (evFa 3 v1) fun v37 =>
ob (evLd false 1 v37 h) fun v38 =>
ob (evFa 4 v1) fun v39 =>
ob (evLd false 1 v39 h) fun v40 =>
oh (yj 0 (some 3) 1 3 [(.int .i64 0)] [(0, v36), (1, v38), (2, v40)] h) fun v41 h5 =>
(y8 h5 v41))
 ((ydf v1 v4 h))
def y2fj (s : St) : OX := ye1 (s 1) (s 4) (s 33) s.h
theorem y1tl : T1 y1eh y31 (y1 0 y31 xN) [.t 2] y2fj := fun s => (y14 rfl (y1v6 s)).trans (by kernel_rfl)
def yd0 (v1 v4 : AV) (h : Heap) : OX :=
ob (y3 .eql v4 (AV.int .i64 14)) fun v34 =>
(ye1 v1 v4 v34 h)
def y2ic (s : St) : OX := yd0 (s 1) (s 4) s.h
theorem y1yc : T1 y1nu y31 (y1 0 y31 xN) [.t 2] y2ic := sq y1tl fun _ => by kernel_rfl
def y4k (v1 v4 v21 : AV) (h : Heap) : OX :=
cnd v21
 (ob (evFa 2 v1) fun v28 =>
ob (evLd false 1 v28 h) fun v29 =>
ob (evFa 3 v1) fun v30 =>
ob (evLd false 1 v30 h) fun v31 =>
oh (yj 0 (some 2) 1 2 [(.int .i64 0)] [(0, v29), (1, v31)] h) fun v32 h6 =>
(y8 h6 v32))
 ((yd0 v1 v4 h))
def y2a3 (s : St) : OX := y4k (s 1) (s 4) (s 21) s.h
theorem y1m9 : T1 y11w y31 (y1 0 y31 xN) [.t 2] y2a3 := fun s => (y14 rfl (y1yc s)).trans (by kernel_rfl)
def y6r (v1 v4 : AV) (h : Heap) : OX :=
ob (y3 .eql v4 (AV.int .i64 5)) fun v22 =>
cnd v22
 ((y4k v1 v4 v22 h))
 (ob (y3 .eql v4 (AV.int .i64 9)) fun v23 =>
cnd v23
 ((y4k v1 v4 v23 h))
 (ob (y3 .eql v4 (AV.int .i64 11)) fun v24 =>
cnd v24
 ((y4k v1 v4 v24 h))
 (ob (y3 .eql v4 (AV.int .i64 13)) fun v25 =>
cnd v25
 ((y4k v1 v4 v25 h))
 (ob (y3 .eql v4 (AV.int .i64 17)) fun v26 =>
cnd v26
 ((y4k v1 v4 v26 h))
 (ob (y3 .eql v4 (AV.int .i64 28)) fun v27 =>
(y4k v1 v4 v27 h))))))
def y2bo (s : St) : OX := y6r (s 1) (s 4) s.h
theorem y1i6 : T1 y133 y31 (y1 0 y31 xN) [.t 2] y2bo := sq y1m9 fun _ => by kernel_rfl
def y3b (v1 v4 v5 : AV) (h : Heap) : OX :=
cnd v5
 (ob (evFa 2 v1) fun v18 =>
ob (evLd false 1 v18 h) fun v19 =>
oh (yj 0 (some 1) 1 1 [(.int .i64 0)] [(0, v19)] h) fun v20 h7 =>
(y8 h7 v20))
 ((y6r v1 v4 h))
def y2b1 (s : St) : OX := y3b (s 1) (s 4) (s 5) s.h
theorem y1ap : T1 y11h y31 (y1 0 y31 xN) [.t 2] y2b1 := fun s => (y14 rfl (y1i6 s)).trans (by kernel_rfl)
def y6n (v1 v4 : AV) (h : Heap) : OX :=
ob (y3 .eql v4 (AV.int .i64 4)) fun v6 =>
cnd v6
 ((y3b v1 v4 v6 h))
 (ob (y3 .eql v4 (AV.int .i64 6)) fun v7 =>
cnd v7
 ((y3b v1 v4 v7 h))
 (ob (y3 .eql v4 (AV.int .i64 7)) fun v8 =>
cnd v8
 ((y3b v1 v4 v8 h))
 (ob (y3 .eql v4 (AV.int .i64 8)) fun v9 =>
cnd v9
 ((y3b v1 v4 v9 h))
 (ob (y3 .eql v4 (AV.int .i64 10)) fun v10 =>
cnd v10
 ((y3b v1 v4 v10 h))
 (ob (y3 .eql v4 (AV.int .i64 12)) fun v11 =>
cnd v11
 ((y3b v1 v4 v11 h))
 (ob (y3 .eql v4 (AV.int .i64 15)) fun v12 =>
cnd v12
 ((y3b v1 v4 v12 h))
 (ob (y3 .eql v4 (AV.int .i64 16)) fun v13 =>
cnd v13
 ((y3b v1 v4 v13 h))
 (ob (y3 .eql v4 (AV.int .i64 19)) fun v14 =>
cnd v14
 ((y3b v1 v4 v14 h))
 (ob (y3 .eql v4 (AV.int .i64 21)) fun v15 =>
cnd v15
 ((y3b v1 v4 v15 h))
 (ob (y3 .eql v4 (AV.int .i64 22)) fun v16 =>
cnd v16
 ((y3b v1 v4 v16 h))
 (ob (y3 .eql v4 (AV.int .i64 31)) fun v17 =>
(y3b v1 v4 v17 h))))))))))))
def y1rf (s : St) : OX := y6n (s 1) (s 4) s.h
theorem y1ow : T1 yyt y31 (y1 0 y31 xN) [.t 2] y1rf := sq y1ap fun _ => by kernel_rfl
theorem y1l1 : T1 y11x y31 xN [.t 2] y1rf := fun s => yq.trans (y1ow s)
def y6k (v1 : AV) (h : Heap) : OX :=
ob (evFa 0 v1) fun v3 =>
ob (evLd false 1 v3 h) fun v4 =>
(y6n v1 v4 h)
def y1h9 (s : St) : OX := y6k (s 1) s.h
theorem y1e9 : T1 yxf y31 xN [.t 2] y1h9 := sq y1l1 fun _ => by kernel_rfl
theorem y1md : T0 y12j [.t 2] y1h9 := sq y1xa y1e9
def y6p (v0 : AV) (h : Heap) : OX :=
oh (newC 0 (some 0) (cellsOf v0) h) fun v1 h8 =>
(y6k v1 h8)
def y253 (s : St) : OX := y6p (s 0) s.h
theorem y1g1 : T0 yw8 [.t 2] y253 := sq y1md fun _ => by kernel_rfl
@[simp] theorem y2nf : E.pure 10 = true := rfl
theorem yu7 (v0 : AV) : (y5 E).p 10 [v0] = y6p v0 [⟨0, .dead⟩, ⟨0, .dead⟩, ⟨0, .dead⟩, ⟨0, .dead⟩, ⟨0, .dead⟩, ⟨0, .dead⟩, ⟨0, .dead⟩, ⟨0, .dead⟩] :=
  (yu (cf := y2fa) (by kernel_rfl) rfl).trans ((y1g1 _).trans (by kernel_rfl))
def y1eq (h : Heap) : OX :=
(y8 h (AV.int .i64 (-1)))
def y2dz (s : St) : OX := y1eq s.h
theorem y1vw : T0 y1pd [.t 2] y2dz := fun _ => by kernel_rfl
def y1mp (v1 : AV) (h : Heap) : OX :=
ob (evLd true 9 v1 h) fun v22 =>
oh (y4 E (y5 E) 0 none true 17 [v22] h) fun v23 h1 =>
cnd v23
 (ob (evFa 1 v1) fun v24 =>
ob (evLd false 1 v24 h1) fun v25 =>
(y8 h1 v25))
 ((y1eq h1))
def yh4 (s : St) : OX := y1mp (s 1) s.h
theorem y1wt : T0 y1fo [.t 2] yh4 := sq y1vw fun _ => by kernel_rfl
def y9m (v1 v5 : AV) (h : Heap) : OX :=
cnd v5
 (ob (evFa 1 v1) fun v20 =>
ob (evLd false 1 v20 h) fun v21 =>
(y8 h v21))
 ((y1mp v1 h))
def y2i7 (s : St) : OX := y9m (s 1) (s 5) s.h
theorem y20n : T1 y1j9 yh4 (y1 0 yh4 xN) [.t 2] y2i7 := fun _ => by kernel_rfl
def y1es (v1 v4 : AV) (h : Heap) : OX :=
ob (y3 .eql v4 (AV.int .i64 1)) fun v6 =>
cnd v6
 ((y9m v1 v6 h))
 (ob (y3 .eql v4 (AV.int .i64 2)) fun v7 =>
cnd v7
 ((y9m v1 v7 h))
 (ob (y3 .eql v4 (AV.int .i64 3)) fun v8 =>
cnd v8
 ((y9m v1 v8 h))
 (ob (y3 .eql v4 (AV.int .i64 4)) fun v9 =>
cnd v9
 ((y9m v1 v9 h))
 (ob (y3 .eql v4 (AV.int .i64 5)) fun v10 =>
cnd v10
 ((y9m v1 v10 h))
 (ob (y3 .eql v4 (AV.int .i64 6)) fun v11 =>
cnd v11
 ((y9m v1 v11 h))
 (ob (y3 .eql v4 (AV.int .i64 13)) fun v12 =>
cnd v12
 ((y9m v1 v12 h))
 (ob (y3 .eql v4 (AV.int .i64 15)) fun v13 =>
cnd v13
 ((y9m v1 v13 h))
 (ob (y3 .eql v4 (AV.int .i64 16)) fun v14 =>
cnd v14
 ((y9m v1 v14 h))
 (ob (y3 .eql v4 (AV.int .i64 18)) fun v15 =>
cnd v15
 ((y9m v1 v15 h))
 (ob (y3 .eql v4 (AV.int .i64 20)) fun v16 =>
cnd v16
 ((y9m v1 v16 h))
 (ob (y3 .eql v4 (AV.int .i64 21)) fun v17 =>
cnd v17
 ((y9m v1 v17 h))
 (ob (y3 .eql v4 (AV.int .i64 22)) fun v18 =>
cnd v18
 ((y9m v1 v18 h))
 (ob (y3 .eql v4 (AV.int .i64 32)) fun v19 =>
(y9m v1 v19 h))))))))))))))
def y225 (s : St) : OX := y1es (s 1) (s 4) s.h
theorem y1wd : T1 y1pu yh4 (y1 0 yh4 xN) [.t 2] y225 := sq y20n fun _ => by kernel_rfl
theorem y1x0 : T1 y1i7 yh4 xN [.t 2] y225 := fun s => yq.trans (y1wd s)
def y1hm (v1 : AV) (h : Heap) : OX :=
ob (evFa 0 v1) fun v3 =>
ob (evLd false 1 v3 h) fun v4 =>
(y1es v1 v4 h)
def y237 (s : St) : OX := y1hm (s 1) s.h
theorem y1z3 : T1 y1n1 yh4 xN [.t 2] y237 := sq y1x0 fun _ => by kernel_rfl
theorem y1rx : T0 y1eo [.t 2] y237 := sq y1wt y1z3
def y1c1 (v0 : AV) (h : Heap) : OX :=
oh (newC 0 (some 0) (cellsOf v0) h) fun v1 h2 =>
(y1hm v1 h2)
def y2hi (s : St) : OX := y1c1 (s 0) s.h
theorem y1ye : T0 y1fm [.t 2] y2hi := sq y1rx fun _ => by kernel_rfl
@[simp] theorem y2ow : E.pure 9 = true := rfl
theorem y2mh (v0 : AV) : (y5 E).p 9 [v0] = y1c1 v0 [⟨0, .dead⟩] :=
  (yu (cf := y2g8) (by kernel_rfl) rfl).trans ((y1ye _).trans (by kernel_rfl))
def y127 (v0 : AV) (h : Heap) : OX :=
oh (yj 0 (some 0) 1 0 [(.int .i64 0)] [] h) fun v5 h1 =>
oh (y2y 0 (some 1) 1 8 v5 v0 h1) fun v7 h2 =>
(y8 h2 v7)
def y24y (s : St) : OX := y127 (s 0) s.h
theorem y1nw : T0 y14j [.t 2] y24y := fun _ => by kernel_rfl
def y115 (v0 : AV) (h : Heap) : OX :=
ob (y4u 1 false v0 AV.nils) fun v4 =>
cnd v4
 ((y8 h AV.nils))
 ((y127 v0 h))
def y28o (s : St) : OX := y115 (s 0) s.h
theorem y1qn : T0 y13i [.t 2] y28o := sq y1nw fun _ => by kernel_rfl
def yv9 (v0 : AV) (h : Heap) : OX :=
(y115 v0 h)
def y24x (s : St) : OX := yv9 (s 0) s.h
theorem y1do : T0 yvj [.t 2] y24x := sq y1qn fun _ => by kernel_rfl
@[simp] theorem y2n4 : E.pure 39 = true := rfl
theorem y2e0 (v0 : AV) : (y5 E).p 39 [v0] = yv9 v0 [⟨0, .dead⟩, ⟨0, .dead⟩] :=
  (yu (cf := y226) (by kernel_rfl) rfl).trans ((y1do _).trans (by kernel_rfl))
def y13b (v0 : AV) (h : Heap) : OX :=
oh (yj 0 (some 0) 9 0 [(.int .i64 0), (.int .i64 0), (.int .i64 0), (.int .i64 0), (.int .i64 0), (.int .i64 0), (.int .i64 0), (.str []), .nils] [] h) fun v5 h1 =>
oh (y2y 0 (some 1) 9 96 v5 v0 h1) fun v7 h2 =>
(y8 h2 v7)
def y265 (s : St) : OX := y13b (s 0) s.h
theorem y1dh : T0 ynq [.t 2] y265 := fun _ => by kernel_rfl
def yys (v0 : AV) (h : Heap) : OX :=
ob (y4u 1 false v0 AV.nils) fun v4 =>
cnd v4
 ((y8 h AV.nils))
 ((y13b v0 h))
def y2b9 (s : St) : OX := yys (s 0) s.h
theorem y1m7 : T0 yms [.t 2] y2b9 := sq y1dh fun _ => by kernel_rfl
def y126 (v0 : AV) (h : Heap) : OX :=
(yys v0 h)
def y2bv (s : St) : OX := y126 (s 0) s.h
theorem y19v : T0 yn5 [.t 2] y2bv := sq y1m7 fun _ => by kernel_rfl
@[simp] theorem y2lw : E.pure 40 = true := rfl
theorem y2i4 (v0 : AV) : (y5 E).p 40 [v0] = y126 v0 [⟨0, .dead⟩, ⟨0, .dead⟩] :=
  (yu (cf := y1n8) (by kernel_rfl) rfl).trans ((y19v _).trans (by kernel_rfl))
def y1u (fb : Nat) (v0 : AV) (h : Heap) : Option (AV × Heap) :=
oh (yj fb (some 0) 9 0 [(.int .i64 0), (.int .i64 0), (.int .i64 0), (.int .i64 0), (.int .i64 0), (.int .i64 0), (.int .i64 0), (.str []), .nils] [] h) fun v5 h1 =>
oh (y2y fb (some 1) 9 96 v5 v0 h1) fun v7 h2 =>
(some (v7, h2))
def y2l (fb : Nat) (s : St) : Option (AV × Heap) := y1u fb (s 0) s.h
theorem y3x (fb : Nat) (s : St) : W E fb ynq s (finI [.t 2]) xN (finI [.t 2]) = y2l fb s :=
  by kernel_rfl
def y1s (fb : Nat) (v0 : AV) (h : Heap) : Option (AV × Heap) :=
ob (y4u 1 false v0 AV.nils) fun v4 =>
cnd v4
 ((some (AV.nils, h)))
 ((y1u fb v0 h))
def y2k (fb : Nat) (s : St) : Option (AV × Heap) := y1s fb (s 0) s.h
theorem y3u (fb : Nat) (s : St) : W E fb yms s (finI [.t 2]) xN (finI [.t 2]) = y2k fb s :=
  (yjk (k := (y2l fb)) (fun s => y3x fb s)).trans (by kernel_rfl)
def y1v (fb : Nat) (v0 : AV) (h : Heap) : Option (AV × Heap) :=
(y1s fb v0 h)
def y4d (fb : Nat) (s : St) : Option (AV × Heap) := y1v fb (s 0) s.h
theorem y3t (fb : Nat) (s : St) : W E fb yn5 s (finI [.t 2]) xN (finI [.t 2]) = y4d fb s :=
  (yjk (k := (y2k fb)) (fun s => y3u fb s)).trans (by kernel_rfl)
theorem y4l (fb : Nat) (v0 : AV) (h : Heap) : (y5 E).i 40 [v0] fb h = y1v fb v0 (if fb = h.length then h ++ yv 2 else h) :=
  (ytr (cf := y1n8) (by kernel_rfl) rfl).trans ((y3t fb _).trans (by kernel_rfl))
def y125 (v0 : AV) (h : Heap) : OX :=
oh (yj 0 (some 0) 4 0 [(.int .i64 0), (.int .i64 0), (.int .i64 0), (.str [])] [] h) fun v5 h1 =>
oh (y2y 0 (some 1) 4 40 v5 v0 h1) fun v7 h2 =>
(y8 h2 v7)
def y23c (s : St) : OX := y125 (s 0) s.h
theorem y1ra : T0 y14t [.t 2] y23c := fun _ => by kernel_rfl
def yyd (v0 : AV) (h : Heap) : OX :=
ob (y4u 1 false v0 AV.nils) fun v4 =>
cnd v4
 ((y8 h AV.nils))
 ((y125 v0 h))
def y23r (s : St) : OX := yyd (s 0) s.h
theorem y1ee : T0 yvq [.t 2] y23r := sq y1ra fun _ => by kernel_rfl
def y14h (v0 : AV) (h : Heap) : OX :=
(yyd v0 h)
def y244 (s : St) : OX := y14h (s 0) s.h
theorem y1o0 : T0 yxm [.t 2] y244 := sq y1ee fun _ => by kernel_rfl
@[simp] theorem y2kq : E.pure 41 = true := rfl
theorem y2iz (v0 : AV) : (y5 E).p 41 [v0] = y14h v0 [⟨0, .dead⟩, ⟨0, .dead⟩] :=
  (yu (cf := y21j) (by kernel_rfl) rfl).trans ((y1o0 _).trans (by kernel_rfl))
def y25b (v0 : AV) (h : Heap) : OX :=
oh (newC 0 (some 0) (cellsOf v0) h) fun v1 h1 =>
ob (evFa 0 v1) fun v3 =>
ob (evLd false 1 v3 h1) fun v4 =>
ob (y3 .eql v4 (AV.int .i64 27)) fun v5 =>
gb v5 false (evFa 0 v1) fun v7 =>
gb v5 false (evLd false 1 v7 h1) fun v8 =>
gb v5 false (y3 .eql v8 (AV.int .i64 30)) fun v9 =>
ob (y7 v5 (AV.bool true) v9) fun v10 =>
gb v10 false (evFa 0 v1) fun v12 =>
gb v10 false (evLd false 1 v12 h1) fun v13 =>
gb v10 false (y3 .eql v13 (AV.int .i64 31)) fun v14 =>
ob (y7 v10 (AV.bool true) v14) fun v15 =>
(y8 h1 v15)
def y2ge (s : St) : OX := y25b (s 0) s.h
theorem y1rw : T0 y1hz [.t 2] y2ge := fun _ => by kernel_rfl
@[simp] theorem y2l1 : E.pure 24 = true := rfl
theorem y2l5 (v0 : AV) : (y5 E).p 24 [v0] = y25b v0 [⟨0, .dead⟩] :=
  (yu (cf := y2j9) (by kernel_rfl) rfl).trans ((y1rw _).trans (by kernel_rfl))
def yzq (v0 v1 : AV) (h : Heap) : OX :=
oh (y4 E (y5 E) 0 none true 45 [v0, v1] h) fun v7 h1 =>
ob (y3 .geq v7 (AV.int .i64 0)) fun v8 =>
(y8 h1 v8)
def y289 (s : St) : OX := yzq (s 0) (s 1) s.h
theorem y18z : T0 y11i [.t 4] y289 := fun _ => by kernel_rfl
@[simp] theorem y2nt : E.pure 46 = true := rfl
theorem y2jg (v0 v1 : AV) : (y5 E).p 46 [v0, v1] = yzq v0 v1 [] :=
  (yu (cf := y22c) (by kernel_rfl) rfl).trans ((y18z _).trans (by kernel_rfl))
def y1o2 (v2 v3 : AV) (h : Heap) : OX :=
ob (evLd true 9 v3 h) fun v183 =>
oh (y4 E (y5 E) 0 none true 22 [v183] h) fun v184 h1 =>
ob (evUn .not v184) fun v185 =>
gb v185 false (evFa 6 v3) fun v187 =>
gb v185 false (evLd false 1 v187 h1) fun v188 =>
gb v185 false (y3 .geq v188 (AV.int .i64 0)) fun v189 =>
gb v185 false (some v189) fun v190 =>
gb v190 true (evFa 6 v3) fun v191 =>
gb v190 true (evLd false 1 v191 h1) fun v192 =>
gb v190 true (evFa 3 v2) fun v193 =>
gb v190 true (evLd false 1 v193 h1) fun v194 =>
gb v190 true (yt 1 v194 h1) fun v195 =>
gb v190 true (y3 .lss v192 v195) fun v196 =>
gb v185 false (y7 v190 v196 (AV.bool false)) fun v197 =>
ob (y7 v185 (AV.bool true) v197) fun v198 =>
(y8 h1 v198)
def y2h9 (s : St) : OX := y1o2 (s 2) (s 3) s.h
theorem y1vp : T0 y1kr [.t 4] y2h9 := fun _ => by kernel_rfl
def y9l (v2 v3 : AV) (h : Heap) : OX :=
ob (evFa 0 v3) fun v105 =>
ob (evLd false 1 v105 h) fun v106 =>
ob (y3 .eql v106 (AV.int .i64 1)) fun v108 =>
cnd v108
 (ob (evFa 0 v2) fun v109 =>
ob (evLd false 1 v109 h) fun v110 =>
ob (evFa 1 v3) fun v111 =>
ob (evLd false 1 v111 h) fun v112 =>
ob (yg 1 v110 v112) fun v113 =>
ob (evLd false 1 v113 h) fun v114 =>
ob (y3 .neq v114 (AV.int .i64 3)) fun v115 =>
gb v115 true (evFa 0 v2) fun v117 =>
gb v115 true (evLd false 1 v117 h) fun v118 =>
gb v115 true (evFa 1 v3) fun v119 =>
gb v115 true (evLd false 1 v119 h) fun v120 =>
gb v115 true (yg 1 v118 v120) fun v121 =>
gb v115 true (evLd false 1 v121 h) fun v122 =>
gb v115 true (y3 .eql v122 (AV.int .i64 2)) fun v123 =>
gb v115 true (some v123) fun v124 =>
gb v124 false (evFa 5 v3) fun v125 =>
gb v124 false (evLd false 1 v125 h) fun v126 =>
gb v124 false (evFa 5 v3) fun v127 =>
gb v124 false (evLd false 1 v127 h) fun v128 =>
gb v124 false (ybk .i32 v128) fun v129 =>
gb v124 false (ybk .i64 v129) fun v130 =>
gb v124 false (y3 .eql v126 v130) fun v131 =>
gb v115 true (y7 v124 (AV.bool true) v131) fun v132 =>
ob (y7 v115 v132 (AV.bool false)) fun v133 =>
(y8 h v133))
 (ob (y3 .eql v106 (AV.int .i64 4)) fun v135 =>
cnd v135
 (ob (evFa 0 v2) fun v136 =>
ob (evLd false 1 v136 h) fun v137 =>
ob (evFa 1 v3) fun v138 =>
ob (evLd false 1 v138 h) fun v139 =>
ob (yg 1 v137 v139) fun v140 =>
ob (evLd false 1 v140 h) fun v141 =>
ob (evFa 0 v2) fun v142 =>
ob (evLd false 1 v142 h) fun v143 =>
ob (evFa 2 v3) fun v144 =>
ob (evLd false 1 v144 h) fun v145 =>
ob (yg 1 v143 v145) fun v146 =>
ob (evLd false 1 v146 h) fun v147 =>
ob (y3 .eql v141 v147) fun v148 =>
(y8 h v148))
 (ob (y3 .eql v106 (AV.int .i64 7)) fun v150 =>
cnd v150
 (ob (evFa 0 v2) fun v151 =>
ob (evLd false 1 v151 h) fun v152 =>
ob (evFa 2 v3) fun v153 =>
ob (evLd false 1 v153 h) fun v154 =>
ob (yg 1 v152 v154) fun v155 =>
ob (evLd false 1 v155 h) fun v156 =>
ob (y3 .neq v156 (AV.int .i64 3)) fun v157 =>
(y8 h v157))
 (ob (y3 .eql v106 (AV.int .i64 30)) fun v159 =>
cnd v159
 (ob (evFa 2 v3) fun v160 =>
ob (evLd false 1 v160 h) fun v161 =>
ob (y3 .eql v161 (AV.int .i64 (-1))) fun v162 =>
ob (evFa 2 v2) fun v163 =>
ob (evLd false 1 v163 h) fun v164 =>
ob (y3 .eql v164 (AV.int .i64 0)) fun v165 =>
ob (y1zz false v162 v165) fun v166 =>
gb v166 true (evFa 2 v3) fun v168 =>
gb v166 true (evLd false 1 v168 h) fun v169 =>
gb v166 true (y3 .eql v169 (AV.int .i64 (-1))) fun v170 =>
gb v166 true (some v170) fun v171 =>
gb v171 false (evFa 0 v2) fun v172 =>
gb v171 false (evLd false 1 v172 h) fun v173 =>
gb v171 false (evFa 2 v3) fun v174 =>
gb v171 false (evLd false 1 v174 h) fun v175 =>
gb v171 false (yg 1 v173 v175) fun v176 =>
gb v171 false (evLd false 1 v176 h) fun v177 =>
gb v171 false (evFa 2 v2) fun v178 =>
gb v171 false (evLd false 1 v178 h) fun v179 =>
gb v171 false (y3 .eql v177 v179) fun v180 =>
gb v166 true (y7 v171 (AV.bool true) v180) fun v181 =>
ob (y7 v166 v181 (AV.bool false)) fun v182 =>
(y8 h v182))
 ((y1o2 v2 v3 h)))))
def y6g (s : St) : OX := y9l (s 2) (s 3) s.h
theorem y1yn : T0 y1e8 [.t 4] y6g := sq y1vp fun _ => by kernel_rfl
def yi2 (v2 v3 v63 v64 v65 : AV) (h : Heap) : OX :=
  W E 0 ynk ⟨[(2, v2), (3, v3), (63, v63), (64, v64), (65, v65)], h⟩ y6g (y1 2 y6g xN) (finP [.t 4])
def yca (s : St) : OX := yi2 (s 2) (s 3) (s 63) (s 64) (s 65) s.h
theorem ypl : T1 ynk y6g (y1 2 y6g xN) [.t 4] yca := fun s => yd.trans (by kernel_rfl)
def y1qj (v2 v3 v63 v64 v65 : AV) (h : Heap) : OX :=
ob (y3 .add v65 (AV.int .i64 1)) fun v104 =>
(yi2 v2 v3 v63 v64 v104 h)
def yfq (s : St) : OX := y1qj (s 2) (s 3) (s 63) (s 64) (s 65) s.h
theorem y1zs : T1 y1cm yca (y1 2 y6g xN) [.t 4] yfq := fun _ => by kernel_rfl
def yhx (v2 v3 v9 v10 v63 v64 v65 : AV) (h : Heap) : OX :=
ob (y3 .lss v10 (AV.int .i64 0)) fun v74 =>
gb v74 false (some v10) fun v76 =>
gb v74 false (evFa 0 v2) fun v77 =>
gb v74 false (evLd false 1 v77 h) fun v78 =>
gb v74 false (yt 1 v78 h) fun v79 =>
gb v74 false (y3 .geq v76 v79) fun v80 =>
ob (y7 v74 (AV.bool true) v80) fun v81 =>
gb v81 false (some v9) fun v83 =>
gb v81 false (y3 .eql v83 (AV.int .i64 0)) fun v84 =>
gb v81 false (some v84) fun v85 =>
gb v85 true (evFa 0 v3) fun v86 =>
gb v85 true (evLd false 1 v86 h) fun v87 =>
gb v85 true (y3 .eql v87 (AV.int .i64 24)) fun v88 =>
gb v85 true (some v88) fun v89 =>
gb v89 false (evFa 0 v3) fun v90 =>
gb v89 false (evLd false 1 v90 h) fun v91 =>
gb v89 false (y3 .eql v91 (AV.int .i64 25)) fun v92 =>
gb v85 true (y7 v89 (AV.bool true) v92) fun v93 =>
gb v81 false (y7 v85 v93 (AV.bool false)) fun v94 =>
gb v81 false (some v94) fun v95 =>
gb v95 true (evFa 0 v2) fun v96 =>
gb v95 true (evLd false 1 v96 h) fun v97 =>
gb v95 true (some v10) fun v98 =>
gb v95 true (yg 1 v97 v98) fun v99 =>
gb v95 true (evLd false 1 v99 h) fun v100 =>
gb v95 true (y3 .neq v100 (AV.int .i64 3)) fun v101 =>
gb v81 false (y7 v95 v101 (AV.bool false)) fun v102 =>
ob (y7 v81 (AV.bool true) v102) fun v103 =>
cnd v103
 ((y8 h (AV.bool false)))
 ((y1qj v2 v3 v63 v64 v65 h))
def y2h0 (s : St) : OX := yhx (s 2) (s 3) (s 9) (s 10) (s 63) (s 64) (s 65) s.h
theorem y1vx : T1 y1e1 yfq (y1 3 yfq (y1 2 y6g xN)) [.t 4] y2h0 := fun _ => by kernel_rfl
def y1j6 (v2 v3 v9 v10 v63 v64 v65 : AV) (h : Heap) : OX :=
ob (evLd true 9 v3 h) fun v70 =>
oh (y4 E (y5 E) 0 none true 17 [v70] h) fun v71 h2 =>
ob (evUn .not v71) fun v72 =>
cnd v72
 ((y9l v2 v3 h2))
 ((yhx v2 v3 v9 v10 v63 v64 v65 h2))
def y2dv (s : St) : OX := y1j6 (s 2) (s 3) (s 9) (s 10) (s 63) (s 64) (s 65) s.h
theorem y1wy : T1 y1pa yfq (y1 3 yfq (y1 2 y6g xN)) [.t 4] y2dv := sq y1vx fun _ => by kernel_rfl
def y1mo (v2 v3 v63 v64 v65 : AV) (h : Heap) : OX :=
ob (yg 1 v63 v65) fun v68 =>
ob (evLd false 1 v68 h) fun v69 =>
(y1j6 v2 v3 v65 v69 v63 v64 v65 h)
def y1r9 (s : St) : OX := y1mo (s 2) (s 3) (s 63) (s 64) (s 65) s.h
theorem y1zm : T1 y1ms yfq (y1 3 yfq (y1 2 y6g xN)) [.t 4] y1r9 := sq y1wy fun _ => by kernel_rfl
theorem y1we : T1 y1j1 yfq (y1 2 y6g xN) [.t 4] y1r9 := fun s => yq.trans (y1zm s)
theorem y204 : T1 y1bn yca (y1 2 y6g xN) [.t 4] y1r9 := sq y1zs y1we
def yh1 (v2 v3 v63 v64 v65 v66 : AV) (h : Heap) : OX :=
cnd v66
 ((y1mo v2 v3 v63 v64 v65 h))
 ((y9l v2 v3 h))
def y297 (s : St) : OX := yh1 (s 2) (s 3) (s 63) (s 64) (s 65) (s 66) s.h
theorem y19m : T1 yz5 yca (y1 2 y6g xN) [.t 4] y297 := sq y204 fun _ => by kernel_rfl
def yjf (v2 v3 v63 v64 v65 : AV) (h : Heap) : OX :=
ob (y3 .lss v65 v64) fun v66 =>
(yh1 v2 v3 v63 v64 v65 v66 h)
def y26l (s : St) : OX := yjf (s 2) (s 3) (s 63) (s 64) (s 65) s.h
theorem y1oc : T1 y12s yca (y1 2 y6g xN) [.t 4] y26l := sq y19m fun _ => by kernel_rfl
theorem yh5 (v2 v3 v63 v64 v65 : AV) (h : Heap) : yi2 v2 v3 v63 v64 v65 h = (yjf v2 v3 v63 v64 v65 h) :=
  y1t.trans ((y12 _ _ _ (n' := yca) (fun s => ypl s)).trans ((y1oc _).trans (by kernel_rfl)))
theorem y1f0 : T1 y118 y6g xN [.t 4] yca := fun s => yq.trans (ypl s)
def yq4 (v2 v3 : AV) (h : Heap) : OX :=
ob (evFa 8 v3) fun v62 =>
ob (evLd false 1 v62 h) fun v63 =>
ob (yt 1 v63 h) fun v64 =>
(yi2 v2 v3 v63 v64 (AV.int .i64 0) h)
def y3r (s : St) : OX := yq4 (s 2) (s 3) s.h
theorem y1kb : T1 yvu y6g xN [.t 4] y3r := sq y1f0 fun _ => by kernel_rfl
theorem y1bu : T0 yx4 [.t 4] y3r := sq y1yn y1kb
def ycn (v2 v3 v5 v26 v27 : AV) (h : Heap) : OX :=
  W E 0 yjc ⟨[(2, v2), (3, v3), (5, v5), (26, v26), (27, v27)], h⟩ y3r (y1 0 y3r xN) (finP [.t 4])
def y80 (s : St) : OX := ycn (s 2) (s 3) (s 5) (s 26) (s 27) s.h
theorem ylh : T1 yjc y3r (y1 0 y3r xN) [.t 4] y80 := fun s => yd.trans (by kernel_rfl)
def yrq (v2 v3 v5 v26 v27 : AV) (h : Heap) : OX :=
ob (y3 .add v27 (AV.int .i64 1)) fun v61 =>
(ycn v2 v3 v5 v26 v61 h)
def yal (s : St) : OX := yrq (s 2) (s 3) (s 5) (s 26) (s 27) s.h
theorem y1fx : T1 yx7 y80 (y1 0 y3r xN) [.t 4] yal := fun _ => by kernel_rfl
def ygt (v2 v3 v5 v7 v8 v26 v27 : AV) (h : Heap) : OX :=
ob (y3 .lss v8 (AV.int .i64 0)) fun v36 =>
gb v36 false (some v8) fun v38 =>
gb v36 false (evFa 0 v2) fun v39 =>
gb v36 false (evLd false 1 v39 h) fun v40 =>
gb v36 false (yt 1 v40 h) fun v41 =>
gb v36 false (y3 .geq v38 v41) fun v42 =>
ob (y7 v36 (AV.bool true) v42) fun v43 =>
gb v43 false (some v7) fun v45 =>
gb v43 false (ynj 4 1 v5 v45) fun v46 =>
gb v43 false (evLd false 1 v46 h) fun v47 =>
gb v43 false (y3 .gtr v47 (AV.int .i64 0)) fun v48 =>
gb v43 false (some v48) fun v49 =>
gb v49 true (evFa 0 v2) fun v50 =>
gb v49 true (evLd false 1 v50 h) fun v51 =>
gb v49 true (some v8) fun v52 =>
gb v49 true (yg 1 v51 v52) fun v53 =>
gb v49 true (evLd false 1 v53 h) fun v54 =>
gb v49 true (some v7) fun v55 =>
gb v49 true (ynj 4 1 v5 v55) fun v56 =>
gb v49 true (evLd false 1 v56 h) fun v57 =>
gb v49 true (y3 .neq v54 v57) fun v58 =>
gb v43 false (y7 v49 v58 (AV.bool false)) fun v59 =>
ob (y7 v43 (AV.bool true) v59) fun v60 =>
cnd v60
 ((y8 h (AV.bool false)))
 ((yrq v2 v3 v5 v26 v27 h))
def y25w (s : St) : OX := ygt (s 2) (s 3) (s 5) (s 7) (s 8) (s 26) (s 27) s.h
theorem y1no : T1 ywh yal (y1 1 yal (y1 0 y3r xN)) [.t 4] y25w := fun _ => by kernel_rfl
def ydg (v2 v3 v5 v7 v8 v26 v27 : AV) (h : Heap) : OX :=
ob (ynj 4 1 v5 v7) fun v32 =>
ob (evLd false 1 v32 h) fun v33 =>
ob (y3 .lss v33 (AV.int .i64 0)) fun v34 =>
cnd v34
 ((yrq v2 v3 v5 v26 v27 h))
 ((ygt v2 v3 v5 v7 v8 v26 v27 h))
def y24z (s : St) : OX := ydg (s 2) (s 3) (s 5) (s 7) (s 8) (s 26) (s 27) s.h
theorem y1g0 : T1 y158 yal (y1 1 yal (y1 0 y3r xN)) [.t 4] y24z := sq y1no fun _ => by kernel_rfl
def y1oi (v2 v3 v5 v26 v27 : AV) (h : Heap) : OX :=
ob (yng false 4 1 v26 v27) fun v30 =>
(ydg v2 v3 v5 v27 v30 v26 v27 h)
def yue (s : St) : OX := y1oi (s 2) (s 3) (s 5) (s 26) (s 27) s.h
theorem y1r2 : T1 y13t yal (y1 1 yal (y1 0 y3r xN)) [.t 4] yue := sq y1g0 fun _ => by kernel_rfl
theorem y1e2 : T1 yxp yal (y1 0 y3r xN) [.t 4] yue := fun s => yq.trans (y1r2 s)
theorem y19n : T1 yy1 y80 (y1 0 y3r xN) [.t 4] yue := sq y1fx y1e2
def y04 (v2 v3 v5 v26 v27 v28 : AV) (h : Heap) : OX :=
cnd v28
 ((y1oi v2 v3 v5 v26 v27 h))
 ((yq4 v2 v3 h))
def y25q (s : St) : OX := y04 (s 2) (s 3) (s 5) (s 26) (s 27) (s 28) s.h
theorem y1iz : T1 ywv y80 (y1 0 y3r xN) [.t 4] y25q := sq y19n fun _ => by kernel_rfl
def y15a (v2 v3 v5 v26 v27 : AV) (h : Heap) : OX :=
ob (y3 .lss v27 (AV.int .i64 4)) fun v28 =>
(y04 v2 v3 v5 v26 v27 v28 h)
def y2as (s : St) : OX := y15a (s 2) (s 3) (s 5) (s 26) (s 27) s.h
theorem y1hq : T1 yvb y80 (y1 0 y3r xN) [.t 4] y2as := sq y1iz fun _ => by kernel_rfl
theorem ym3 (v2 v3 v5 v26 v27 : AV) (h : Heap) : ycn v2 v3 v5 v26 v27 h = (y15a v2 v3 v5 v26 v27 h) :=
  y1t.trans ((y12 _ _ _ (n' := y80) (fun s => ylh s)).trans ((y1hq _).trans (by kernel_rfl)))
theorem y1ek : T1 y159 y3r xN [.t 4] y80 := fun s => yq.trans (ylh s)
def y1dt (v2 v3 v5 : AV) (h : Heap) : OX :=
ob (evFa 1 v3) fun v18 =>
ob (evLd false 1 v18 h) fun v19 =>
ob (evFa 2 v3) fun v20 =>
ob (evLd false 1 v20 h) fun v21 =>
ob (evFa 3 v3) fun v22 =>
ob (evLd false 1 v22 h) fun v23 =>
ob (evFa 4 v3) fun v24 =>
ob (evLd false 1 v24 h) fun v25 =>
ob (y10 [(.int .i64 0), (.int .i64 0), (.int .i64 0), (.int .i64 0)] [(0, 1, v19), (1, 1, v21), (2, 1, v23), (3, 1, v25)]) fun v26 =>
(ycn v2 v3 v5 v26 (AV.int .i64 0) h)
def y1my (s : St) : OX := y1dt (s 2) (s 3) (s 5) s.h
theorem y1en : T1 y13o y3r xN [.t 4] y1my := sq y1ek fun _ => by kernel_rfl
theorem y1dx : T0 yx8 [.t 4] y1my := sq y1bu y1en
def yxi (v2 v3 v5 v6 : AV) (h : Heap) : OX :=
ob (evUn .not v6) fun v17 =>
cnd v17
 ((y8 h (AV.bool false)))
 ((y1dt v2 v3 v5 h))
def y27k (s : St) : OX := yxi (s 2) (s 3) (s 5) (s 6) s.h
theorem y1e3 : T0 y13g [.t 4] y27k := sq y1dx fun _ => by kernel_rfl
def yxb (v2 v3 : AV) (h : Heap) : OX :=
ob (evLd true 9 v3 h) fun v12 =>
oh (y4 E (y5 E) 0 none true 47 [v12] h) fun v13 h3 =>
ob (y57 0 v13) fun v14 =>
ob (y57 1 v13) fun v15 =>
oh (newC 0 (some 2) [(.int .i64 0), (.int .i64 0), (.int .i64 0), (.int .i64 0)] h3) fun v5 h4 =>
oh (evSt 4 v5 v14 h4) fun _ h5 =>
(yxi v2 v3 v5 v15 h5)
def y26g (s : St) : OX := yxb (s 2) (s 3) s.h
theorem y1px : T0 yzm [.t 4] y26g := sq y1e3 fun _ => by kernel_rfl
def yp1 (v0 v1 : AV) (h : Heap) : OX :=
oh (newC 0 (some 0) (cellsOf v0) h) fun v2 h6 =>
oh (newC 0 (some 1) (cellsOf v1) h6) fun v3 h7 =>
(yxb v2 v3 h7)
def y271 (s : St) : OX := yp1 (s 0) (s 1) s.h
theorem y1qt : T0 yzn [.t 4] y271 := sq y1px fun _ => by kernel_rfl
@[simp] theorem y2mz : E.pure 63 = true := rfl
theorem y2lh (v0 v1 : AV) : (y5 E).p 63 [v0, v1] = yp1 v0 v1 [⟨0, .dead⟩, ⟨0, .dead⟩, ⟨0, .dead⟩] :=
  (yu (cf := y2j1) (by kernel_rfl) rfl).trans ((y1qt _).trans (by kernel_rfl))
def y2ai (v0 : AV) (h : Heap) : OX :=
oh (newC 0 (some 0) (cellsOf v0) h) fun v1 h1 =>
ob (evFa 0 v1) fun v3 =>
ob (evLd false 1 v3 h1) fun v4 =>
ob (y3 .eql v4 (AV.int .i64 27)) fun v5 =>
gb v5 false (evFa 0 v1) fun v7 =>
gb v5 false (evLd false 1 v7 h1) fun v8 =>
gb v5 false (y3 .eql v8 (AV.int .i64 28)) fun v9 =>
ob (y7 v5 (AV.bool true) v9) fun v10 =>
gb v10 false (evFa 0 v1) fun v12 =>
gb v10 false (evLd false 1 v12 h1) fun v13 =>
gb v10 false (y3 .eql v13 (AV.int .i64 29)) fun v14 =>
ob (y7 v10 (AV.bool true) v14) fun v15 =>
(y8 h1 v15)
def y2ek (s : St) : OX := y2ai (s 0) s.h
theorem y1y9 : T0 y1go [.t 2] y2ek := fun _ => by kernel_rfl
@[simp] theorem y2m4 : E.pure 22 = true := rfl
theorem y2mr (v0 : AV) : (y5 E).p 22 [v0] = y2ai v0 [⟨0, .dead⟩] :=
  (yu (cf := y2f2) (by kernel_rfl) rfl).trans ((y1y9 _).trans (by kernel_rfl))
def y1mm (v5 : AV) (h : Heap) : OX :=
(y8 h v5)
def y5p (s : St) : OX := y1mm (s 5) s.h
theorem y1wa : T0 y1mr [.t 4] y5p := fun _ => by kernel_rfl
def yof (v1 v5 v27 v28 v29 : AV) (h : Heap) : OX :=
  W E 0 yn2 ⟨[(1, v1), (5, v5), (27, v27), (28, v28), (29, v29)], h⟩ y5p (y1 0 y5p xN) (finP [.t 4])
def ycg (s : St) : OX := yof (s 1) (s 5) (s 27) (s 28) (s 29) s.h
theorem yra : T1 yn2 y5p (y1 0 y5p xN) [.t 4] ycg := fun s => yd.trans (by kernel_rfl)
def y179 (v1 v5 v27 v28 v29 : AV) (h : Heap) : OX :=
ob (y3 .add v29 (AV.int .i64 1)) fun v56 =>
(yof v1 v5 v27 v28 v56 h)
def ybn (s : St) : OX := y179 (s 1) (s 5) (s 27) (s 28) (s 29) s.h
theorem y1tm : T1 y1dm ycg (y1 0 y5p xN) [.t 4] ybn := fun _ => by kernel_rfl
def y16j (v1 v5 v7 v27 v28 v29 : AV) (h : Heap) : OX :=
ob (evFa 3 v7) fun v53 =>
ob (evLd false 1 v53 h) fun v54 =>
ob (y3 .eql v54 (AV.str [])) fun v55 =>
cnd v55
 ((y1mm v5 h))
 ((y179 v1 v5 v27 v28 v29 h))
def y2if (s : St) : OX := y16j (s 1) (s 5) (s 7) (s 27) (s 28) (s 29) s.h
theorem y1rr : T1 y1mv ybn (y1 1 ybn (y1 0 y5p xN)) [.t 4] y2if := fun _ => by kernel_rfl
def y1tc (v1 v5 v7 v27 v28 v29 : AV) (h : Heap) : OX :=
ob (evFa 2 v7) fun v44 =>
ob (evLd false 1 v44 h) fun v45 =>
oh (y4 E (y5 E) 0 none true 46 [v5, v45] h) fun v46 h1 =>
ob (evUn .not v46) fun v47 =>
cnd v47
 (ob (evFa 2 v7) fun v49 =>
ob (evLd false 1 v49 h1) fun v50 =>
oh (yj 0 (some 2) 1 1 [(.int .i64 0)] [(0, v50)] h1) fun v51 h2 =>
oh (y2y 0 (some 3) 1 8 v5 v51 h2) fun v52 h3 =>
(y16j v1 v52 v7 v27 v28 v29 h3))
 ((y16j v1 v5 v7 v27 v28 v29 h1))
def y2g1 (s : St) : OX := y1tc (s 1) (s 5) (s 7) (s 27) (s 28) (s 29) s.h
theorem y205 : T1 y1os ybn (y1 1 ybn (y1 0 y5p xN)) [.t 4] y2g1 := sq y1rr fun _ => by kernel_rfl
def yt7 (v1 v5 v7 v27 v28 v29 : AV) (h : Heap) : OX :=
ob (evFa 0 v7) fun v34 =>
ob (evLd false 1 v34 h) fun v35 =>
ob (y3 .lss v1 v35) fun v36 =>
gb v36 false (some v1) fun v38 =>
gb v36 false (evFa 1 v7) fun v39 =>
gb v36 false (evLd false 1 v39 h) fun v40 =>
gb v36 false (y3 .geq v38 v40) fun v41 =>
ob (y7 v36 (AV.bool true) v41) fun v42 =>
cnd v42
 ((y179 v1 v5 v27 v28 v29 h))
 ((y1tc v1 v5 v7 v27 v28 v29 h))
def y2gn (s : St) : OX := yt7 (s 1) (s 5) (s 7) (s 27) (s 28) (s 29) s.h
theorem y1xm : T1 y1lg ybn (y1 1 ybn (y1 0 y5p xN)) [.t 4] y2gn := sq y205 fun _ => by kernel_rfl
def y240 (v1 v5 v27 v28 v29 : AV) (h : Heap) : OX :=
ob (yg 4 v27 v29) fun v31 =>
ob (evLd true 4 v31 h) fun v32 =>
oh (newC 0 (some 1) [(.int .i64 0), (.int .i64 0), (.int .i64 0), (.str [])] h) fun v7 h4 =>
oh (evSt 4 v7 v32 h4) fun _ h5 =>
(yt7 v1 v5 v7 v27 v28 v29 h5)
def y19i (s : St) : OX := y240 (s 1) (s 5) (s 27) (s 28) (s 29) s.h
theorem y1w9 : T1 y1c5 ybn (y1 1 ybn (y1 0 y5p xN)) [.t 4] y19i := sq y1xm fun _ => by kernel_rfl
theorem y1su : T1 y195 ybn (y1 0 y5p xN) [.t 4] y19i := fun s => yq.trans (y1w9 s)
theorem y1u5 : T1 y1fi ycg (y1 0 y5p xN) [.t 4] y19i := sq y1tm y1su
def ywu (v1 v5 v27 v28 v29 v30 : AV) (h : Heap) : OX :=
cnd v30
 ((y240 v1 v5 v27 v28 v29 h))
 ((y1mm v5 h))
def y29d (s : St) : OX := ywu (s 1) (s 5) (s 27) (s 28) (s 29) (s 30) s.h
theorem y1qv : T1 y0a ycg (y1 0 y5p xN) [.t 4] y29d := sq y1u5 fun _ => by kernel_rfl
def yri (v1 v5 v27 v28 v29 : AV) (h : Heap) : OX :=
ob (y3 .lss v29 v28) fun v30 =>
(ywu v1 v5 v27 v28 v29 v30 h)
def y26f (s : St) : OX := yri (s 1) (s 5) (s 27) (s 28) (s 29) s.h
theorem y1i3 : T1 yzt ycg (y1 0 y5p xN) [.t 4] y26f := sq y1qv fun _ => by kernel_rfl
theorem yon (v1 v5 v27 v28 v29 : AV) (h : Heap) : yof v1 v5 v27 v28 v29 h = (yri v1 v5 v27 v28 v29 h) :=
  y1t.trans ((y12 _ _ _ (n' := ycg) (fun s => yra s)).trans ((y1i3 _).trans (by kernel_rfl)))
theorem y1ot : T1 y151 y5p xN [.t 4] ycg := fun s => yq.trans (yra s)
def y1nk (v1 v2 v5 : AV) (h : Heap) : OX :=
ob (evFa 4 v2) fun v26 =>
ob (evLd false 1 v26 h) fun v27 =>
ob (yt 1 v27 h) fun v28 =>
(yof v1 v5 v27 v28 (AV.int .i64 0) h)
def y1ml (s : St) : OX := y1nk (s 1) (s 2) (s 5) s.h
theorem y1cg : T1 yzh y5p xN [.t 4] y1ml := sq y1ot fun _ => by kernel_rfl
theorem y1h8 : T0 yze [.t 4] y1ml := sq y1wa y1cg
def y1q6 (v1 v2 : AV) (h : Heap) : OX :=
(y1nk v1 v2 AV.nils h)
def y2ap (s : St) : OX := y1q6 (s 1) (s 2) s.h
theorem y1o1 : T0 y0c [.t 4] y2ap := sq y1h8 fun _ => by kernel_rfl
def yl3 (v1 v2 : AV) (h : Heap) : OX :=
ob (y3 .lss v1 (AV.int .i64 0)) fun v9 =>
gb v9 false (some v1) fun v11 =>
gb v9 false (evFa 3 v2) fun v12 =>
gb v9 false (evLd false 1 v12 h) fun v13 =>
gb v9 false (yt 1 v13 h) fun v14 =>
gb v9 false (y3 .geq v11 v14) fun v15 =>
ob (y7 v9 (AV.bool true) v15) fun v16 =>
gb v16 false (evFa 3 v2) fun v18 =>
gb v16 false (evLd false 1 v18 h) fun v19 =>
gb v16 false (some v1) fun v20 =>
gb v16 false (yg 9 v19 v20) fun v21 =>
gb v16 false (evLd true 9 v21 h) fun v22 =>
gh v16 false (y4 E (y5 E) 0 none true 18 [v22] h) h fun v23 h6 =>
gb v16 false (evUn .not v23) fun v24 =>
ob (y7 v16 (AV.bool true) v24) fun v25 =>
cnd v25
 ((y8 h6 AV.nils))
 ((y1q6 v1 v2 h6))
def y26o (s : St) : OX := yl3 (s 1) (s 2) s.h
theorem y1ma : T0 yw5 [.t 4] y26o := sq y1o1 fun _ => by kernel_rfl
def ylw (v0 v1 : AV) (h : Heap) : OX :=
oh (newC 0 (some 0) (cellsOf v0) h) fun v2 h7 =>
(yl3 v1 v2 h7)
def y2ab (s : St) : OX := ylw (s 0) (s 1) s.h
theorem y1ql : T0 yyk [.t 4] y2ab := sq y1ma fun _ => by kernel_rfl
@[simp] theorem y2li : E.pure 79 = true := rfl
theorem y2ml (v0 v1 : AV) : (y5 E).p 79 [v0, v1] = ylw v0 v1 [⟨0, .dead⟩, ⟨0, .dead⟩, ⟨0, .dead⟩, ⟨0, .dead⟩] :=
  (yu (cf := y2i0) (by kernel_rfl) rfl).trans ((y1ql _).trans (by kernel_rfl))
def yjs (v6 : AV) (h : Heap) : OX :=
(y8 h v6)
def y2ik (s : St) : OX := yjs (s 6) s.h
theorem y1zi : T0 y1lu [.t 4] y2ik := fun _ => by kernel_rfl
def yjq (v5 v6 : AV) (h : Heap) : OX :=
ob (evLd true 9 v5 h) fun v29 =>
oh (y4 E (y5 E) 0 none true 22 [v29] h) fun v30 h1 =>
gb v30 true (some v6) fun v32 =>
gb v30 true (evFa 6 v5) fun v33 =>
gb v30 true (evLd false 1 v33 h1) fun v34 =>
gh v30 true (y4 E (y5 E) 0 none true 46 [v32, v34] h1) h1 fun v35 h2 =>
gb v30 true (evUn .not v35) fun v36 =>
ob (y7 v30 v36 (AV.bool false)) fun v37 =>
cnd v37
 (ob (evFa 6 v5) fun v39 =>
ob (evLd false 1 v39 h2) fun v40 =>
oh (yj 0 (some 4) 1 1 [(.int .i64 0)] [(0, v40)] h2) fun v41 h3 =>
oh (y2y 0 (some 5) 1 8 v6 v41 h3) fun v42 h4 =>
(yjs v42 h4))
 ((yjs v6 h2))
def y2hh (s : St) : OX := yjq (s 5) (s 6) s.h
theorem y1sd : T0 y1i9 [.t 4] y2hh := sq y1zi fun _ => by kernel_rfl
def yjp (v1 v5 v6 : AV) (h : Heap) : OX :=
ob (evLd true 9 v5 h) fun v21 =>
oh (y4 E (y5 E) 0 none true 24 [v21] h) fun v22 h5 =>
ob (evUn .not v22) fun v23 =>
cnd v23
 (ob (y3 .add v1 (AV.int .i64 1)) fun v26 =>
oh (yj 0 (some 2) 1 1 [(.int .i64 0)] [(0, v26)] h5) fun v27 h6 =>
oh (y2y 0 (some 3) 1 8 v6 v27 h6) fun v28 h7 =>
(yjq v5 v28 h7))
 ((yjq v5 v6 h5))
def y2ii (s : St) : OX := yjp (s 1) (s 5) (s 6) s.h
theorem y1rm : T0 y1ay [.t 4] y2ii := sq y1sd fun _ => by kernel_rfl
def y1r5 (v1 v5 : AV) (h : Heap) : OX :=
(yjp v1 v5 AV.nils h)
def y2dr (s : St) : OX := y1r5 (s 1) (s 5) s.h
theorem y1rs : T0 y1ci [.t 4] y2dr := sq y1rm fun _ => by kernel_rfl
def y1dj (v1 v2 : AV) (h : Heap) : OX :=
ob (evFa 3 v2) fun v16 =>
ob (evLd false 1 v16 h) fun v17 =>
ob (yg 9 v17 v1) fun v19 =>
ob (evLd true 9 v19 h) fun v20 =>
oh (newC 0 (some 1) [(.int .i64 0), (.int .i64 0), (.int .i64 0), (.int .i64 0), (.int .i64 0), (.int .i64 0), (.int .i64 0), (.str []), .nils] h) fun v5 h8 =>
oh (evSt 9 v5 v20 h8) fun _ h9 =>
(y1r5 v1 v5 h9)
def y2ie (s : St) : OX := y1dj (s 1) (s 2) s.h
theorem y20g : T0 y1cu [.t 4] y2ie := sq y1rs fun _ => by kernel_rfl
def y191 (v1 v2 : AV) (h : Heap) : OX :=
ob (y3 .lss v1 (AV.int .i64 0)) fun v8 =>
gb v8 false (some v1) fun v10 =>
gb v8 false (evFa 3 v2) fun v11 =>
gb v8 false (evLd false 1 v11 h) fun v12 =>
gb v8 false (yt 1 v12 h) fun v13 =>
gb v8 false (y3 .geq v10 v13) fun v14 =>
ob (y7 v8 (AV.bool true) v14) fun v15 =>
cnd v15
 ((y8 h AV.nils))
 ((y1dj v1 v2 h))
def y2hz (s : St) : OX := y191 (s 1) (s 2) s.h
theorem y1wv : T0 y1fk [.t 4] y2hz := sq y20g fun _ => by kernel_rfl
def y15r (v0 v1 : AV) (h : Heap) : OX :=
oh (newC 0 (some 0) (cellsOf v0) h) fun v2 h10 =>
(y191 v1 v2 h10)
def y2e7 (s : St) : OX := y15r (s 0) (s 1) s.h
theorem y1wj : T0 y1h6 [.t 4] y2e7 := sq y1wv fun _ => by kernel_rfl
@[simp] theorem y2ky : E.pure 81 = true := rfl
theorem y2ly (v0 v1 : AV) : (y5 E).p 81 [v0, v1] = y15r v0 v1 [⟨0, .dead⟩, ⟨0, .dead⟩, ⟨0, .dead⟩, ⟨0, .dead⟩, ⟨0, .dead⟩, ⟨0, .dead⟩] :=
  (yu (cf := y2g2) (by kernel_rfl) rfl).trans ((y1wj _).trans (by kernel_rfl))
def y25v (v10 : AV) (h : Heap) : OX :=
(y8 h v10)
def ya8 (s : St) : OX := y25v (s 10) s.h
theorem y1y3 : T0 y19w [.t 2] ya8 := fun _ => by kernel_rfl
def yr0 (v3 v10 v96 v97 : AV) (h : Heap) : OX :=
  W E 0 ynz ⟨[(3, v3), (10, v10), (96, v96), (97, v97)], h⟩ ya8 (y1 6 ya8 xN) (finP [.t 2])
def yce (s : St) : OX := yr0 (s 3) (s 10) (s 96) (s 97) s.h
theorem ypu : T1 ynz ya8 (y1 6 ya8 xN) [.t 2] yce := fun s => yd.trans (by kernel_rfl)
def y1a2 (v3 v10 v96 v97 : AV) (h : Heap) : OX :=
ob (y3 .add v97 (AV.int .i64 1)) fun v108 =>
(yr0 v3 v10 v96 v108 h)
def y2ep (s : St) : OX := y1a2 (s 3) (s 10) (s 96) (s 97) s.h
theorem y1wk : T1 y1ll yce (y1 6 ya8 xN) [.t 2] y2ep := fun _ => by kernel_rfl
def y1zg (v3 v10 v96 v97 : AV) (h : Heap) : OX :=
ob (yg 1 v3 v97) fun v102 =>
ob (evLd false 1 v102 h) fun v103 =>
cnd v103
 (oh (yj 0 (some 5) 1 1 [(.int .i64 0)] [(0, v97)] h) fun v106 h1 =>
oh (y2y 0 (some 6) 1 8 v10 v106 h1) fun v107 h2 =>
(y1a2 v3 v107 v96 v97 h2))
 ((y1a2 v3 v10 v96 v97 h))
def y2iu (s : St) : OX := y1zg (s 3) (s 10) (s 96) (s 97) s.h
theorem y1x7 : T1 y1hs yce (y1 6 ya8 xN) [.t 2] y2iu := sq y1wk fun _ => by kernel_rfl
def y1jd (v3 v10 v96 v97 v98 : AV) (h : Heap) : OX :=
cnd v98
 ((y1zg v3 v10 v96 v97 h))
 ((y25v v10 h))
def y2hd (s : St) : OX := y1jd (s 3) (s 10) (s 96) (s 97) (s 98) s.h
theorem y1yk : T1 y1dv yce (y1 6 ya8 xN) [.t 2] y2hd := sq y1x7 fun _ => by kernel_rfl
def y1hj (v3 v10 v96 v97 : AV) (h : Heap) : OX :=
ob (y3 .lss v97 v96) fun v98 =>
(y1jd v3 v10 v96 v97 v98 h)
def y2ee (s : St) : OX := y1hj (s 3) (s 10) (s 96) (s 97) s.h
theorem y1y0 : T1 y1a0 yce (y1 6 ya8 xN) [.t 2] y2ee := sq y1yk fun _ => by kernel_rfl
theorem ypd (v3 v10 v96 v97 : AV) (h : Heap) : yr0 v3 v10 v96 v97 h = (y1hj v3 v10 v96 v97 h) :=
  y1t.trans ((y12 _ _ _ (n' := yce) (fun s => ypu s)).trans ((y1y0 _).trans (by kernel_rfl)))
theorem y1uc : T1 y1dn ya8 xN [.t 2] yce := fun s => yq.trans (ypu s)
def y24s (v1 v3 v10 : AV) (h : Heap) : OX :=
ob (evFa 3 v1) fun v94 =>
ob (evLd false 1 v94 h) fun v95 =>
ob (yt 1 v95 h) fun v96 =>
(yr0 v3 v10 v96 (AV.int .i64 0) h)
def y234 (s : St) : OX := y24s (s 1) (s 3) (s 10) s.h
theorem y1uo : T1 y1ig ya8 xN [.t 2] y234 := sq y1uc fun _ => by kernel_rfl
theorem y1vo : T0 y1d7 [.t 2] y234 := sq y1y3 y1uo
def ylf (v1 v3 : AV) (h : Heap) : OX :=
(y24s v1 v3 AV.nils h)
def y2w (s : St) : OX := ylf (s 1) (s 3) s.h
theorem y1o5 : T0 yxd [.t 2] y2w := sq y1vo fun _ => by kernel_rfl
def yja (v1 v3 v62 v63 v64 : AV) (h : Heap) : OX :=
  W E 0 ygn ⟨[(1, v1), (3, v3), (62, v62), (63, v63), (64, v64)], h⟩ y2w (y1 2 y2w xN) (finP [.t 2])
def y7u (s : St) : OX := yja (s 1) (s 3) (s 62) (s 63) (s 64) s.h
theorem yld : T1 ygn y2w (y1 2 y2w xN) [.t 2] y7u := fun s => yd.trans (by kernel_rfl)
def yw2 (v1 v3 v62 v63 v64 : AV) (h : Heap) : OX :=
ob (y3 .add v64 (AV.int .i64 1)) fun v93 =>
(yja v1 v3 v62 v63 v93 h)
def y2q (s : St) : OX := yw2 (s 1) (s 3) (s 62) (s 63) (s 64) s.h
theorem y1hg : T1 yve y7u (y1 2 y2w xN) [.t 2] y2q := fun _ => by kernel_rfl
def yeq (v1 v3 v62 v63 v64 v74 v75 v76 : AV) (h : Heap) : OX :=
  W E 0 yis ⟨[(1, v1), (3, v3), (62, v62), (63, v63), (64, v64), (74, v74), (75, v75), (76, v76)], h⟩ y2q (y1 4 y2q (y1 3 y2q (y1 2 y2w xN))) (finP [.t 2])
def y7v (s : St) : OX := yeq (s 1) (s 3) (s 62) (s 63) (s 64) (s 74) (s 75) (s 76) s.h
theorem yko : T1 yis y2q (y1 4 y2q (y1 3 y2q (y1 2 y2w xN))) [.t 2] y7v := fun s => yd.trans (by kernel_rfl)
def yma (v1 v3 v62 v63 v64 v74 v75 v76 : AV) (h : Heap) : OX :=
ob (y3 .add v76 (AV.int .i64 1)) fun v92 =>
(yeq v1 v3 v62 v63 v64 v74 v75 v92 h)
def y2b3 (s : St) : OX := yma (s 1) (s 3) (s 62) (s 63) (s 64) (s 74) (s 75) (s 76) s.h
theorem y1f5 : T1 yw4 y7v (y1 4 y2q (y1 3 y2q (y1 2 y2w xN))) [.t 2] y2b3 := fun _ => by kernel_rfl
def ys5 (v1 v3 v62 v63 v64 v74 v75 v76 : AV) (h : Heap) : OX :=
ob (yg 1 v74 v76) fun v78 =>
ob (evLd false 1 v78 h) fun v79 =>
ob (y3 .geq v79 (AV.int .i64 0)) fun v81 =>
gb v81 true (some v79) fun v83 =>
gb v81 true (evFa 3 v1) fun v84 =>
gb v81 true (evLd false 1 v84 h) fun v85 =>
gb v81 true (yt 1 v85 h) fun v86 =>
gb v81 true (y3 .lss v83 v86) fun v87 =>
ob (y7 v81 v87 (AV.bool false)) fun v88 =>
cnd v88
 (ob (yg 1 v3 v79) fun v91 =>
oh (evSt 1 v91 (AV.bool true) h) fun _ h3 =>
(yma v1 v3 v62 v63 v64 v74 v75 v76 h3))
 ((yma v1 v3 v62 v63 v64 v74 v75 v76 h))
def y24i (s : St) : OX := ys5 (s 1) (s 3) (s 62) (s 63) (s 64) (s 74) (s 75) (s 76) s.h
theorem y1db : T1 y130 y7v (y1 4 y2q (y1 3 y2q (y1 2 y2w xN))) [.t 2] y24i := sq y1f5 fun _ => by kernel_rfl
def yk2 (v1 v3 v62 v63 v64 v74 v75 v76 v77 : AV) (h : Heap) : OX :=
cnd v77
 ((ys5 v1 v3 v62 v63 v64 v74 v75 v76 h))
 ((yw2 v1 v3 v62 v63 v64 h))
def y2c3 (s : St) : OX := yk2 (s 1) (s 3) (s 62) (s 63) (s 64) (s 74) (s 75) (s 76) (s 77) s.h
theorem y1ks : T1 y12g y7v (y1 4 y2q (y1 3 y2q (y1 2 y2w xN))) [.t 2] y2c3 := sq y1db fun _ => by kernel_rfl
def yl1 (v1 v3 v62 v63 v64 v74 v75 v76 : AV) (h : Heap) : OX :=
ob (y3 .lss v76 v75) fun v77 =>
(yk2 v1 v3 v62 v63 v64 v74 v75 v76 v77 h)
def y2bk (s : St) : OX := yl1 (s 1) (s 3) (s 62) (s 63) (s 64) (s 74) (s 75) (s 76) s.h
theorem y19o : T1 y134 y7v (y1 4 y2q (y1 3 y2q (y1 2 y2w xN))) [.t 2] y2bk := sq y1ks fun _ => by kernel_rfl
theorem ykh (v1 v3 v62 v63 v64 v74 v75 v76 : AV) (h : Heap) : yeq v1 v3 v62 v63 v64 v74 v75 v76 h = (yl1 v1 v3 v62 v63 v64 v74 v75 v76 h) :=
  y1t.trans ((y12 _ _ _ (n' := y7v) (fun s => yko s)).trans ((y19o _).trans (by kernel_rfl)))
theorem y1p4 : T1 y13w y2q (y1 3 y2q (y1 2 y2w xN)) [.t 2] y7v := fun s => yq.trans (yko s)
def y1ey (v1 v3 v7 v62 v63 v64 : AV) (h : Heap) : OX :=
ob (evFa 0 v7) fun v68 =>
ob (evLd false 1 v68 h) fun v69 =>
ob (evFa 1 v7) fun v70 =>
ob (evLd false 1 v70 h) fun v71 =>
ob (evFa 2 v7) fun v72 =>
ob (evLd false 1 v72 h) fun v73 =>
oh (yj 0 (some 4) 1 3 [(.int .i64 0)] [(0, v69), (1, v71), (2, v73)] h) fun v74 h4 =>
ob (yt 1 v74 h4) fun v75 =>
(yeq v1 v3 v62 v63 v64 v74 v75 (AV.int .i64 0) h4)
def y2ao (s : St) : OX := y1ey (s 1) (s 3) (s 7) (s 62) (s 63) (s 64) s.h
theorem y1oq : T1 y0n y2q (y1 3 y2q (y1 2 y2w xN)) [.t 2] y2ao := sq y1p4 fun _ => by kernel_rfl
def y19l (v1 v3 v62 v63 v64 : AV) (h : Heap) : OX :=
ob (yg 4 v62 v64) fun v66 =>
ob (evLd true 4 v66 h) fun v67 =>
oh (newC 0 (some 3) [(.int .i64 0), (.int .i64 0), (.int .i64 0), (.str [])] h) fun v7 h5 =>
oh (evSt 4 v7 v67 h5) fun _ h6 =>
(y1ey v1 v3 v7 v62 v63 v64 h6)
def yv1 (s : St) : OX := y19l (s 1) (s 3) (s 62) (s 63) (s 64) s.h
theorem y1pf : T1 y11c y2q (y1 3 y2q (y1 2 y2w xN)) [.t 2] yv1 := sq y1oq fun _ => by kernel_rfl
theorem y1nr : T1 y116 y2q (y1 2 y2w xN) [.t 2] yv1 := fun s => yq.trans (y1pf s)
theorem y1nf : T1 y0f y7u (y1 2 y2w xN) [.t 2] yv1 := sq y1hg y1nr
def y0p (v1 v3 v62 v63 v64 v65 : AV) (h : Heap) : OX :=
cnd v65
 ((y19l v1 v3 v62 v63 v64 h))
 ((ylf v1 v3 h))
def y23s (s : St) : OX := y0p (s 1) (s 3) (s 62) (s 63) (s 64) (s 65) s.h
theorem y1it : T1 y132 y7u (y1 2 y2w xN) [.t 2] y23s := sq y1nf fun _ => by kernel_rfl
def you (v1 v3 v62 v63 v64 : AV) (h : Heap) : OX :=
ob (y3 .lss v64 v63) fun v65 =>
(y0p v1 v3 v62 v63 v64 v65 h)
def y2bi (s : St) : OX := you (s 1) (s 3) (s 62) (s 63) (s 64) s.h
theorem y1a7 : T1 yvh y7u (y1 2 y2w xN) [.t 2] y2bi := sq y1it fun _ => by kernel_rfl
theorem yl0 (v1 v3 v62 v63 v64 : AV) (h : Heap) : yja v1 v3 v62 v63 v64 h = (you v1 v3 v62 v63 v64 h) :=
  y1t.trans ((y12 _ _ _ (n' := y7u) (fun s => yld s)).trans ((y1a7 _).trans (by kernel_rfl)))
theorem y1ex : T1 yyg y2w xN [.t 2] y7u := fun s => yq.trans (yld s)
def yqa (v1 v3 : AV) (h : Heap) : OX :=
ob (evFa 4 v1) fun v61 =>
ob (evLd false 1 v61 h) fun v62 =>
ob (yt 1 v62 h) fun v63 =>
(yja v1 v3 v62 v63 (AV.int .i64 0) h)
def y3q (s : St) : OX := yqa (s 1) (s 3) s.h
theorem y1eb : T1 y14z y2w xN [.t 2] y3q := sq y1ex fun _ => by kernel_rfl
theorem y1mu : T0 y0d [.t 2] y3q := sq y1o5 y1eb
def yiq (v1 v3 v24 v25 v26 : AV) (h : Heap) : OX :=
  W E 0 yhh ⟨[(1, v1), (3, v3), (24, v24), (25, v25), (26, v26)], h⟩ y3q (y1 0 y3q xN) (finP [.t 2])
def y89 (s : St) : OX := yiq (s 1) (s 3) (s 24) (s 25) (s 26) s.h
theorem ym6 : T1 yhh y3q (y1 0 y3q xN) [.t 2] y89 := fun s => yd.trans (by kernel_rfl)
def yoh (v1 v3 v24 v25 v26 : AV) (h : Heap) : OX :=
ob (y3 .add v26 (AV.int .i64 1)) fun v60 =>
(yiq v1 v3 v24 v25 v60 h)
def yap (s : St) : OX := yoh (s 1) (s 3) (s 24) (s 25) (s 26) s.h
theorem y1ac : T1 y11a y89 (y1 0 y3q xN) [.t 2] yap := fun _ => by kernel_rfl
def ylt (v1 v3 v4 v5 v24 v25 v26 : AV) (h : Heap) : OX :=
ob (evLd true 9 v5 h) fun v50 =>
oh (y4 E (y5 E) 0 none true 22 [v50] h) fun v51 h7 =>
gb v51 false (evLd true 9 v5 h7) fun v53 =>
gh v51 false (y4 E (y5 E) 0 none true 24 [v53] h7) h7 fun v54 h8 =>
ob (y7 v51 (AV.bool true) v54) fun v55 =>
cnd v55
 (ob (y3 .add v4 (AV.int .i64 1)) fun v58 =>
ob (yg 1 v3 v58) fun v59 =>
oh (evSt 1 v59 (AV.bool true) h8) fun _ h9 =>
(yoh v1 v3 v24 v25 v26 h9))
 ((yoh v1 v3 v24 v25 v26 h8))
def y28y (s : St) : OX := ylt (s 1) (s 3) (s 4) (s 5) (s 24) (s 25) (s 26) s.h
theorem y1o4 : T1 y139 yap (y1 1 yap (y1 0 y3q xN)) [.t 2] y28y := fun _ => by kernel_rfl
def yfe (v1 v3 v4 v5 v24 v25 v26 : AV) (h : Heap) : OX :=
ob (evLd true 9 v5 h) fun v31 =>
oh (y4 E (y5 E) 0 none true 22 [v31] h) fun v32 h10 =>
gb v32 true (evFa 6 v5) fun v34 =>
gb v32 true (evLd false 1 v34 h10) fun v35 =>
gb v32 true (y3 .geq v35 (AV.int .i64 0)) fun v36 =>
ob (y7 v32 v36 (AV.bool false)) fun v37 =>
gb v37 true (evFa 6 v5) fun v39 =>
gb v37 true (evLd false 1 v39 h10) fun v40 =>
gb v37 true (evFa 3 v1) fun v41 =>
gb v37 true (evLd false 1 v41 h10) fun v42 =>
gb v37 true (yt 1 v42 h10) fun v43 =>
gb v37 true (y3 .lss v40 v43) fun v44 =>
ob (y7 v37 v44 (AV.bool false)) fun v45 =>
cnd v45
 (ob (evFa 6 v5) fun v47 =>
ob (evLd false 1 v47 h10) fun v48 =>
ob (yg 1 v3 v48) fun v49 =>
oh (evSt 1 v49 (AV.bool true) h10) fun _ h11 =>
(ylt v1 v3 v4 v5 v24 v25 v26 h11))
 ((ylt v1 v3 v4 v5 v24 v25 v26 h10))
def y26n (s : St) : OX := yfe (s 1) (s 3) (s 4) (s 5) (s 24) (s 25) (s 26) s.h
theorem y1ch : T1 y08 yap (y1 1 yap (y1 0 y3q xN)) [.t 2] y26n := sq y1o4 fun _ => by kernel_rfl
def y1ho (v1 v3 v24 v25 v26 : AV) (h : Heap) : OX :=
ob (yg 9 v24 v26) fun v29 =>
ob (evLd true 9 v29 h) fun v30 =>
oh (newC 0 (some 2) [(.int .i64 0), (.int .i64 0), (.int .i64 0), (.int .i64 0), (.int .i64 0), (.int .i64 0), (.int .i64 0), (.str []), .nils] h) fun v5 h12 =>
oh (evSt 9 v5 v30 h12) fun _ h13 =>
(yfe v1 v3 v26 v5 v24 v25 v26 h13)
def yt9 (s : St) : OX := y1ho (s 1) (s 3) (s 24) (s 25) (s 26) s.h
theorem y1iq : T1 y11u yap (y1 1 yap (y1 0 y3q xN)) [.t 2] yt9 := sq y1ch fun _ => by kernel_rfl
theorem y1h2 : T1 yws yap (y1 0 y3q xN) [.t 2] yt9 := fun s => yq.trans (y1iq s)
theorem y1nj : T1 yyl y89 (y1 0 y3q xN) [.t 2] yt9 := sq y1ac y1h2
def y13k (v1 v3 v24 v25 v26 v27 : AV) (h : Heap) : OX :=
cnd v27
 ((y1ho v1 v3 v24 v25 v26 h))
 ((yqa v1 v3 h))
def y24e (s : St) : OX := y13k (s 1) (s 3) (s 24) (s 25) (s 26) (s 27) s.h
theorem y1mn : T1 y0y y89 (y1 0 y3q xN) [.t 2] y24e := sq y1nj fun _ => by kernel_rfl
def yqq (v1 v3 v24 v25 v26 : AV) (h : Heap) : OX :=
ob (y3 .lss v26 v25) fun v27 =>
(y13k v1 v3 v24 v25 v26 v27 h)
def y23t (s : St) : OX := yqq (s 1) (s 3) (s 24) (s 25) (s 26) s.h
theorem y1ia : T1 yy4 y89 (y1 0 y3q xN) [.t 2] y23t := sq y1mn fun _ => by kernel_rfl
theorem yls (v1 v3 v24 v25 v26 : AV) (h : Heap) : yiq v1 v3 v24 v25 v26 h = (yqq v1 v3 v24 v25 v26 h) :=
  y1t.trans ((y12 _ _ _ (n' := y89) (fun s => ym6 s)).trans ((y1ia _).trans (by kernel_rfl)))
theorem y1hy : T1 yyx y3q xN [.t 2] y89 := fun s => yq.trans (ym6 s)
def yoc (v1 v3 : AV) (h : Heap) : OX :=
ob (evFa 3 v1) fun v23 =>
ob (evLd false 1 v23 h) fun v24 =>
ob (yt 1 v24 h) fun v25 =>
(yiq v1 v3 v24 v25 (AV.int .i64 0) h)
def y1iv (s : St) : OX := yoc (s 1) (s 3) s.h
theorem y1nx : T1 yyv y3q xN [.t 2] y1iv := sq y1hy fun _ => by kernel_rfl
theorem y1j7 : T0 yz4 [.t 2] y1iv := sq y1mu y1nx
def yo6 (v1 v3 : AV) (h : Heap) : OX :=
ob (evFa 3 v1) fun v17 =>
ob (evLd false 1 v17 h) fun v18 =>
ob (yt 1 v18 h) fun v19 =>
ob (y3 .gtr v19 (AV.int .i64 0)) fun v20 =>
cnd v20
 (ob (yg 1 v3 (AV.int .i64 0)) fun v22 =>
oh (evSt 1 v22 (AV.bool true) h) fun _ h14 =>
(yoc v1 v3 h14))
 ((yoc v1 v3 h))
def y25r (s : St) : OX := yo6 (s 1) (s 3) s.h
theorem y1i0 : T0 y0e [.t 2] y25r := sq y1j7 fun _ => by kernel_rfl
def y1ib (v1 : AV) (h : Heap) : OX :=
ob (evFa 3 v1) fun v12 =>
ob (evLd false 1 v12 h) fun v13 =>
ob (yt 1 v13 h) fun v14 =>
ob (y3 .add v14 (AV.int .i64 1)) fun v15 =>
oh (mkSC 0 (some 1) 1 1 [(.bool false)] v15 v15 h) fun v16 h15 =>
(yo6 v1 v16 h15)
def y24f (s : St) : OX := y1ib (s 1) s.h
theorem y18x : T0 yxc [.t 2] y24f := sq y1i0 fun _ => by kernel_rfl
def yxz (v0 : AV) (h : Heap) : OX :=
oh (newC 0 (some 0) (cellsOf v0) h) fun v1 h16 =>
(y1ib v1 h16)
def y2bq (s : St) : OX := yxz (s 0) s.h
theorem y1au : T0 yxg [.t 2] y2bq := sq y18x fun _ => by kernel_rfl
@[simp] theorem y2ju : E.pure 102 = true := rfl
theorem y2km (v0 : AV) : (y5 E).p 102 [v0] = yxz v0 [⟨0, .dead⟩, ⟨0, .dead⟩, ⟨0, .dead⟩, ⟨0, .dead⟩, ⟨0, .dead⟩, ⟨0, .dead⟩, ⟨0, .dead⟩] :=
  (yu (cf := y2db) (by kernel_rfl) rfl).trans ((y1au _).trans (by kernel_rfl))
def y1g9 (v0 : AV) (h : Heap) : OX :=
oh (yj 0 (some 0) 1 3 [(.int .i64 0)] [(0, (AV.int .i64 27)), (1, (AV.int .i64 30)), (2, (AV.int .i64 31))] h) fun v4 h1 =>
oh (y4 E (y5 E) 0 none true 42 [v0, v4] h1) fun v5 h2 =>
(y8 h2 v5)
def y2b7 (s : St) : OX := y1g9 (s 0) s.h
theorem y1bg : T0 yy5 [.t 2] y2b7 := fun _ => by kernel_rfl
@[simp] theorem y2lr : E.pure 25 = true := rfl
theorem y2cx (v0 : AV) : (y5 E).p 25 [v0] = y1g9 v0 [⟨0, .dead⟩] :=
  (yu (cf := y21e) (by kernel_rfl) rfl).trans ((y1bg _).trans (by kernel_rfl))
def ys6 (v1 v2 : AV) (h : Heap) : OX :=
ob (evFa 0 v2) fun v14 =>
ob (evLd false 1 v14 h) fun v15 =>
ob (yg 1 v15 v1) fun v17 =>
ob (evLd false 1 v17 h) fun v18 =>
(y8 h v18)
def y2ak (s : St) : OX := ys6 (s 1) (s 2) s.h
theorem y1hw : T0 yzj [.t 4] y2ak := fun _ => by kernel_rfl
def ypy (v1 v2 : AV) (h : Heap) : OX :=
ob (y3 .lss v1 (AV.int .i64 0)) fun v6 =>
gb v6 false (some v1) fun v8 =>
gb v6 false (evFa 0 v2) fun v9 =>
gb v6 false (evLd false 1 v9 h) fun v10 =>
gb v6 false (yt 1 v10 h) fun v11 =>
gb v6 false (y3 .geq v8 v11) fun v12 =>
ob (y7 v6 (AV.bool true) v12) fun v13 =>
cnd v13
 ((y8 h (AV.int .i64 0)))
 ((ys6 v1 v2 h))
def y28c (s : St) : OX := ypy (s 1) (s 2) s.h
theorem y1lk : T0 yxn [.t 4] y28c := sq y1hw fun _ => by kernel_rfl
def ysu (v0 v1 : AV) (h : Heap) : OX :=
oh (newC 0 (some 0) (cellsOf v0) h) fun v2 h1 =>
(ypy v1 v2 h1)
def y25a (s : St) : OX := ysu (s 0) (s 1) s.h
theorem y1gx : T0 y13p [.t 4] y25a := sq y1lk fun _ => by kernel_rfl
@[simp] theorem y2nz : E.pure 48 = true := rfl
theorem y2fn (v0 v1 : AV) : (y5 E).p 48 [v0, v1] = ysu v0 v1 [⟨0, .dead⟩] :=
  (yu (cf := y22m) (by kernel_rfl) rfl).trans ((y1gx _).trans (by kernel_rfl))
def yks (h : Heap) : OX :=
(y8 h (AV.bool false))
def y72 (s : St) : OX := yks s.h
theorem y1gz : T0 y156 [.t 4] y72 := fun _ => by kernel_rfl
def yix (v0 v1 v5 : AV) (h : Heap) : OX :=
  W E 0 ygp ⟨[(0, v0), (1, v1), (5, v5)], h⟩ y72 (y1 0 y72 xN) (finP [.t 4])
def yay (s : St) : OX := yix (s 0) (s 1) (s 5) s.h
theorem ym8 : T1 ygp y72 (y1 0 y72 xN) [.t 4] yay := fun s => yd.trans (by kernel_rfl)
def ylo (v0 v1 v5 : AV) (h : Heap) : OX :=
ob (y3 .add v5 (AV.int .i64 1)) fun v11 =>
(yix v0 v1 v11 h)
def y274 (s : St) : OX := ylo (s 0) (s 1) (s 5) s.h
theorem y1ou : T1 yzy yay (y1 0 y72 xN) [.t 4] y274 := fun _ => by kernel_rfl
def ym0 (v0 v1 v5 : AV) (h : Heap) : OX :=
ob (yg 1 v1 v5) fun v14 =>
ob (evLd false 1 v14 h) fun v15 =>
ob (y3 .eql v15 v0) fun v17 =>
cnd v17
 ((y8 h (AV.bool true)))
 ((ylo v0 v1 v5 h))
def y263 (s : St) : OX := ym0 (s 0) (s 1) (s 5) s.h
theorem y1re : T1 yzf yay (y1 0 y72 xN) [.t 4] y263 := sq y1ou fun _ => by kernel_rfl
def ykv (v0 v1 v5 : AV) (h : Heap) : OX :=
ob (yt 1 v1 h) fun v8 =>
ob (y3 .lss v5 v8) fun v9 =>
cnd v9
 ((ym0 v0 v1 v5 h))
 ((yks h))
def y24q (s : St) : OX := ykv (s 0) (s 1) (s 5) s.h
theorem y1h1 : T1 y14a yay (y1 0 y72 xN) [.t 4] y24q := sq y1re fun _ => by kernel_rfl
theorem yk6 (v0 v1 v5 : AV) (h : Heap) : yix v0 v1 v5 h = (ykv v0 v1 v5 h) :=
  y1t.trans ((y12 _ _ _ (n' := yay) (fun s => ym8 s)).trans ((y1h1 _).trans (by kernel_rfl)))
theorem y1na : T1 y13m y72 xN [.t 4] yay := fun s => yq.trans (ym8 s)
def ylz (v0 v1 : AV) (h : Heap) : OX :=
(yix v0 v1 (AV.int .i64 0) h)
def y1j2 (s : St) : OX := ylz (s 0) (s 1) s.h
theorem y1bt : T1 ywi y72 xN [.t 4] y1j2 := sq y1na fun _ => by kernel_rfl
theorem y194 : T0 y0v [.t 4] y1j2 := sq y1gz y1bt
def ykp (v0 v1 : AV) (h : Heap) : OX :=
(ylz v0 v1 h)
def y275 (s : St) : OX := ykp (s 0) (s 1) s.h
theorem y1o8 : T0 yzg [.t 4] y275 := sq y194 fun _ => by kernel_rfl
@[simp] theorem y2nv : E.pure 42 = true := rfl
theorem y2i9 (v0 v1 : AV) : (y5 E).p 42 [v0, v1] = ykp v0 v1 [] :=
  (yu (cf := y217) (by kernel_rfl) rfl).trans ((y1o8 _).trans (by kernel_rfl))
def y2o (h : Heap) : OX :=
(y8 h (AV.bool true))
def yr (s : St) : OX := y2o s.h
theorem y1j8 : T0 y14g [.t 4] yr := fun _ => by kernel_rfl
def y2m (v2 v3 : AV) (h : Heap) : OX :=
ob (evFa 2 v3) fun v215 =>
ob (evLd false 1 v215 h) fun v216 =>
ob (y3 .neq v216 (AV.int .i64 (-1))) fun v217 =>
ofp (fgd v217 true (some (ids1 v2, []))) fun f4 =>
gb v217 true (evLd true 5 v2 h) fun v219 =>
ofp (fgd v217 true (some ([], []))) fun f5 =>
gb v217 true (evFa 2 v3) fun v220 =>
ofp (fgd v217 true (some (ids1 v220, []))) fun f6 =>
gb v217 true (evLd false 1 v220 h) fun v221 =>
ofp (fgd v217 true (y38 E (y5 E) 0 none true 48 [v219, v221] h)) fun f7 =>
gh v217 true (y4 E (y5 E) 0 none true 48 [v219, v221] h) h fun v222 h1 =>
ofp (fgd v217 true (some ([], []))) fun f8 =>
gb v217 true (evFa 2 v2) fun v223 =>
ofp (fgd v217 true (some (ids1 v223, []))) fun f9 =>
gb v217 true (evLd false 1 v223 h1) fun v224 =>
ofp (fgd v217 true (some ([], []))) fun f10 =>
gb v217 true (y3 .eql v222 v224) fun v225 =>
ob (y7 v217 v225 (AV.bool false)) fun v226 =>
okK (y9 [([], []), (ids1 v215, []), ([], []), ([], []), f4, f5, f6, f7, f8, f9, f10, ([], []), ([], [])] [(7, 9)]) <|
(y8 h1 v226)
def y26x (s : St) : OX := y2m (s 2) (s 3) s.h
theorem y1p0 : T1 yxx yr (y1 2 yr xN) [.t 4] y26x := fun _ => by kernel_rfl
def y2g (v2 v3 : AV) (h : Heap) : OX :=
ob (evFa 2 v2) fun v209 =>
ob (evLd false 1 v209 h) fun v210 =>
ob (y3 .eql v210 (AV.int .i64 0)) fun v211 =>
cnd v211
 (ob (evFa 2 v3) fun v212 =>
ob (evLd false 1 v212 h) fun v213 =>
ob (y3 .eql v213 (AV.int .i64 (-1))) fun v214 =>
(y8 h v214))
 ((y2m v2 v3 h))
def y27s (s : St) : OX := y2g (s 2) (s 3) s.h
theorem y1nv : T1 ywj yr (y1 2 yr xN) [.t 4] y27s := sq y1p0 fun _ => by kernel_rfl
def y2p (v2 v3 v207 : AV) (h : Heap) : OX :=
cnd v207
 ((y2g v2 v3 h))
 ((y2o h))
def y29c (s : St) : OX := y2p (s 2) (s 3) (s 207) s.h
theorem y1kl : T1 yvg yr (y1 2 yr xN) [.t 4] y29c := fun s => (y14 (y1nv s) rfl).trans (by kernel_rfl)
def y2h (v2 v3 v55 : AV) (h : Heap) : OX :=
ob (y3 .eql v55 (AV.int .i64 30)) fun v208 =>
(y2p v2 v3 v208 h)
def y29o (s : St) : OX := y2h (s 2) (s 3) (s 55) s.h
theorem y1l7 : T1 y14e yr (y1 2 yr xN) [.t 4] y29o := sq y1kl fun _ => by kernel_rfl
def y2n (v2 v3 v55 v179 : AV) (h : Heap) : OX :=
cnd v179
 (ob (evFa 5 v3) fun v181 =>
ob (evLd false 1 v181 h) fun v182 =>
ob (y3 .eql v182 (AV.int .i64 0)) fun v183 =>
gb v183 false (evFa 5 v3) fun v185 =>
gb v183 false (evLd false 1 v185 h) fun v186 =>
gb v183 false (y3 .eql v186 (AV.int .i64 1)) fun v187 =>
ob (y7 v183 (AV.bool true) v187) fun v188 =>
gb v188 true (evFa 3 v3) fun v190 =>
gb v188 true (evLd false 1 v190 h) fun v191 =>
gb v188 true (y3 .eql v191 (AV.int .i64 (-1))) fun v192 =>
gb v188 true (some v192) fun v193 =>
gb v193 false (evLd true 5 v2 h) fun v194 =>
gb v193 false (evFa 3 v3) fun v195 =>
gb v193 false (evLd false 1 v195 h) fun v196 =>
gh v193 false (y4 E (y5 E) 0 none true 48 [v194, v196] h) h fun v197 h2 =>
gb v193 false (y3 .eql v197 (AV.int .i64 3)) fun v198 =>
gb v188 true (y7 v193 (AV.bool true) v198) fun v199 =>
ob (y7 v188 v199 (AV.bool false)) fun v200 =>
gb v200 true (evLd true 5 v2 h2) fun v202 =>
gb v200 true (evFa 6 v3) fun v203 =>
gb v200 true (evLd false 1 v203 h2) fun v204 =>
gh v200 true (y4 E (y5 E) 0 none true 49 [v202, v204] h2) h2 fun v205 h3 =>
ob (y7 v200 v205 (AV.bool false)) fun v206 =>
(y8 h3 v206))
 ((y2h v2 v3 v55 h))
def y23a (s : St) : OX := y2n (s 2) (s 3) (s 55) (s 179) s.h
theorem y1oe : T1 ywk yr (y1 2 yr xN) [.t 4] y23a := fun s => (y14 rfl (y1l7 s)).trans (by kernel_rfl)
def y2j (v2 v3 v55 : AV) (h : Heap) : OX :=
ob (y3 .eql v55 (AV.int .i64 29)) fun v180 =>
(y2n v2 v3 v55 v180 h)
def y260 (s : St) : OX := y2j (s 2) (s 3) (s 55) s.h
theorem y198 : T1 y13z yr (y1 2 yr xN) [.t 4] y260 := sq y1oe fun _ => by kernel_rfl
def y2f (v2 v3 v55 v173 : AV) (h : Heap) : OX :=
cnd v173
 (ob (evLd true 5 v2 h) fun v175 =>
ob (evFa 6 v3) fun v176 =>
ob (evLd false 1 v176 h) fun v177 =>
oh (y4 E (y5 E) 0 none true 49 [v175, v177] h) fun v178 h4 =>
(y8 h4 v178))
 ((y2j v2 v3 v55 h))
def y2bt (s : St) : OX := y2f (s 2) (s 3) (s 55) (s 173) s.h
theorem y1hk : T1 yxk yr (y1 2 yr xN) [.t 4] y2bt := fun s => (y14 rfl (y198 s)).trans (by kernel_rfl)
def y2i (v2 v3 v55 : AV) (h : Heap) : OX :=
ob (y3 .eql v55 (AV.int .i64 27)) fun v174 =>
(y2f v2 v3 v55 v174 h)
def y29u (s : St) : OX := y2i (s 2) (s 3) (s 55) s.h
theorem y1be : T1 y14d yr (y1 2 yr xN) [.t 4] y29u := sq y1hk fun _ => by kernel_rfl
def y1p (v2 v3 v55 v157 : AV) (h : Heap) : OX :=
cnd v157
 (ob (evFa 5 v3) fun v159 =>
ob (evLd false 1 v159 h) fun v160 =>
ob (y3 .geq v160 (AV.int .i64 0)) fun v161 =>
gb v161 true (evFa 5 v3) fun v163 =>
gb v161 true (evLd false 1 v163 h) fun v164 =>
gb v161 true (y3 .leq v164 (AV.int .i64 5)) fun v165 =>
ob (y7 v161 v165 (AV.bool false)) fun v166 =>
gb v166 true (evLd true 5 v2 h) fun v168 =>
gb v166 true (evFa 6 v3) fun v169 =>
gb v166 true (evLd false 1 v169 h) fun v170 =>
gh v166 true (y4 E (y5 E) 0 none true 49 [v168, v170] h) h fun v171 h5 =>
ob (y7 v166 v171 (AV.bool false)) fun v172 =>
(y8 h5 v172))
 ((y2i v2 v3 v55 h))
def y1wu (s : St) : OX := y1p (s 2) (s 3) (s 55) (s 157) s.h
theorem y15x : T1 yss yr (y1 2 yr xN) [.t 4] y1wu := fun s => (y14 rfl (y1be s)).trans (by kernel_rfl)
def y1q (v2 v3 v55 : AV) (h : Heap) : OX :=
ob (y3 .eql v55 (AV.int .i64 28)) fun v158 =>
(y1p v2 v3 v55 v158 h)
def y1w0 (s : St) : OX := y1q (s 2) (s 3) (s 55) s.h
theorem y17x : T1 ypm yr (y1 2 yr xN) [.t 4] y1w0 := sq y15x fun _ => by kernel_rfl
def y18 (v2 v3 v55 v149 : AV) (h : Heap) : OX :=
cnd v149
 (ob (evLd true 5 v2 h) fun v154 =>
ob (evLd true 9 v3 h) fun v155 =>
oh (y4 E (y5 E) 0 none true 68 [v154, v155] h) fun v156 h6 =>
(y8 h6 v156))
 ((y1q v2 v3 v55 h))
def y203 (s : St) : OX := y18 (s 2) (s 3) (s 55) (s 149) s.h
theorem y18q : T1 ysr yr (y1 2 yr xN) [.t 4] y203 := fun s => (y14 rfl (y17x s)).trans (by kernel_rfl)
def y1o (v2 v3 v55 : AV) (h : Heap) : OX :=
ob (y3 .eql v55 (AV.int .i64 23)) fun v150 =>
cnd v150
 ((y18 v2 v3 v55 v150 h))
 (ob (y3 .eql v55 (AV.int .i64 24)) fun v151 =>
cnd v151
 ((y18 v2 v3 v55 v151 h))
 (ob (y3 .eql v55 (AV.int .i64 25)) fun v152 =>
cnd v152
 ((y18 v2 v3 v55 v152 h))
 (ob (y3 .eql v55 (AV.int .i64 26)) fun v153 =>
(y18 v2 v3 v55 v153 h))))
def y1zq (s : St) : OX := y1o (s 2) (s 3) (s 55) s.h
theorem y15f : T1 yrp yr (y1 2 yr xN) [.t 4] y1zq := sq y18q fun _ => by kernel_rfl
def y1g (v2 v3 v55 v143 : AV) (h : Heap) : OX :=
cnd v143
 (ob (evFa 5 v3) fun v146 =>
ob (evLd false 1 v146 h) fun v147 =>
ob (y3 .geq v147 (AV.int .i64 0)) fun v148 =>
(y8 h v148))
 ((y1o v2 v3 v55 h))
def y1wx (s : St) : OX := y1g (s 2) (s 3) (s 55) (s 143) s.h
theorem y18d : T1 ysn yr (y1 2 yr xN) [.t 4] y1wx := fun s => (y14 rfl (y15f s)).trans (by kernel_rfl)
def y1m (v2 v3 v55 : AV) (h : Heap) : OX :=
ob (y3 .eql v55 (AV.int .i64 16)) fun v144 =>
cnd v144
 ((y1g v2 v3 v55 v144 h))
 (ob (y3 .eql v55 (AV.int .i64 17)) fun v145 =>
(y1g v2 v3 v55 v145 h))
def y1z9 (s : St) : OX := y1m (s 2) (s 3) (s 55) s.h
theorem y17p : T1 yrb yr (y1 2 yr xN) [.t 4] y1z9 := sq y18d fun _ => by kernel_rfl
def y1b (v2 v3 v55 v136 : AV) (h : Heap) : OX :=
cnd v136
 (ob (evFa 7 v3) fun v140 =>
ob (evLd false 1 v140 h) fun v141 =>
oh (y4 E (y5 E) 0 none true 67 [v141] h) fun v142 h7 =>
(y8 h7 v142))
 ((y1m v2 v3 v55 h))
def y1wc (s : St) : OX := y1b (s 2) (s 3) (s 55) (s 136) s.h
theorem y15k : T1 ysk yr (y1 2 yr xN) [.t 4] y1wc := fun s => (y14 rfl (y17p s)).trans (by kernel_rfl)
def y1j (v2 v3 v55 : AV) (h : Heap) : OX :=
ob (y3 .eql v55 (AV.int .i64 12)) fun v137 =>
cnd v137
 ((y1b v2 v3 v55 v137 h))
 (ob (y3 .eql v55 (AV.int .i64 21)) fun v138 =>
cnd v138
 ((y1b v2 v3 v55 v138 h))
 (ob (y3 .eql v55 (AV.int .i64 22)) fun v139 =>
(y1b v2 v3 v55 v139 h)))
def y1yg (s : St) : OX := y1j (s 2) (s 3) (s 55) s.h
theorem y18a : T1 yrx yr (y1 2 yr xN) [.t 4] y1yg := sq y15k fun _ => by kernel_rfl
def y1i (v2 v3 v8 v9 v10 v55 v112 : AV) (h : Heap) : OX :=
cnd v112
 (ob (y3 .gtr v8 (AV.int .i64 0)) fun v115 =>
gb v115 true (some v9) fun v117 =>
gb v115 true (y3 .eql v117 (AV.int .i64 0)) fun v118 =>
ob (y7 v115 v118 (AV.bool false)) fun v119 =>
gb v119 true (evLd true 5 v2 h) fun v121 =>
gb v119 true (evFa 1 v3) fun v122 =>
gb v119 true (evLd false 1 v122 h) fun v123 =>
gh v119 true (y4 E (y5 E) 0 none true 48 [v121, v123] h) h fun v124 h8 =>
gb v119 true (some v10) fun v125 =>
gb v119 true (y3 .eql v124 v125) fun v126 =>
ob (y7 v119 v126 (AV.bool false)) fun v127 =>
gb v127 true (evLd true 5 v2 h8) fun v129 =>
gb v127 true (evFa 2 v3) fun v130 =>
gb v127 true (evLd false 1 v130 h8) fun v131 =>
gh v127 true (y4 E (y5 E) 0 none true 48 [v129, v131] h8) h8 fun v132 h9 =>
gb v127 true (some v8) fun v133 =>
gb v127 true (y3 .eql v132 v133) fun v134 =>
ob (y7 v127 v134 (AV.bool false)) fun v135 =>
(y8 h9 v135))
 ((y1j v2 v3 v55 h))
def y1xd (s : St) : OX := y1i (s 2) (s 3) (s 8) (s 9) (s 10) (s 55) (s 112) s.h
theorem y166 : T1 yoa yr (y1 2 yr xN) [.t 4] y1xd := fun s => (y14 rfl (y18a s)).trans (by kernel_rfl)
def y1n (v2 v3 v8 v9 v10 v55 : AV) (h : Heap) : OX :=
ob (y3 .eql v55 (AV.int .i64 6)) fun v113 =>
(y1i v2 v3 v8 v9 v10 v55 v113 h)
def y1yx (s : St) : OX := y1n (s 2) (s 3) (s 8) (s 9) (s 10) (s 55) s.h
theorem y15p : T1 yq5 yr (y1 2 yr xN) [.t 4] y1yx := sq y166 fun _ => by kernel_rfl
def y1k (v2 v3 v8 v9 v10 v55 v84 : AV) (h : Heap) : OX :=
cnd v84
 (ob (y3 .gtr v9 (AV.int .i64 0)) fun v87 =>
gb v87 true (evLd true 5 v2 h) fun v89 =>
gb v87 true (evFa 1 v3) fun v90 =>
gb v87 true (evLd false 1 v90 h) fun v91 =>
gh v87 true (y4 E (y5 E) 0 none true 48 [v89, v91] h) h fun v92 h10 =>
gb v87 true (some v10) fun v93 =>
gb v87 true (y3 .eql v92 v93) fun v94 =>
ob (y7 v87 v94 (AV.bool false)) fun v95 =>
gb v95 true (evLd true 5 v2 h10) fun v97 =>
gb v95 true (evFa 2 v3) fun v98 =>
gb v95 true (evLd false 1 v98 h10) fun v99 =>
gh v95 true (y4 E (y5 E) 0 none true 48 [v97, v99] h10) h10 fun v100 h11 =>
gb v95 true (some v8) fun v101 =>
gb v95 true (y3 .eql v100 v101) fun v102 =>
ob (y7 v95 v102 (AV.bool false)) fun v103 =>
gb v103 true (evLd true 5 v2 h11) fun v105 =>
gb v103 true (evFa 3 v3) fun v106 =>
gb v103 true (evLd false 1 v106 h11) fun v107 =>
gh v103 true (y4 E (y5 E) 0 none true 48 [v105, v107] h11) h11 fun v108 h12 =>
gb v103 true (some v9) fun v109 =>
gb v103 true (y3 .eql v108 v109) fun v110 =>
ob (y7 v103 v110 (AV.bool false)) fun v111 =>
(y8 h12 v111))
 ((y1n v2 v3 v8 v9 v10 v55 h))
def y1zv (s : St) : OX := y1k (s 2) (s 3) (s 8) (s 9) (s 10) (s 55) (s 84) s.h
theorem y17y : T1 yr6 yr (y1 2 yr xN) [.t 4] y1zv := fun s => (y14 rfl (y15p s)).trans (by kernel_rfl)
def y1l (v2 v3 v8 v9 v10 v55 : AV) (h : Heap) : OX :=
ob (y3 .eql v55 (AV.int .i64 5)) fun v85 =>
(y1k v2 v3 v8 v9 v10 v55 v85 h)
def y1sv (s : St) : OX := y1l (s 2) (s 3) (s 8) (s 9) (s 10) (s 55) s.h
theorem y16a : T1 yse yr (y1 2 yr xN) [.t 4] y1sv := sq y17y fun _ => by kernel_rfl
def y1h (v2 v3 v8 v9 v10 v55 v73 : AV) (h : Heap) : OX :=
cnd v73
 (ob (evLd true 5 v2 h) fun v75 =>
ob (evFa 1 v3) fun v76 =>
ob (evLd false 1 v76 h) fun v77 =>
ofp (y38 E (y5 E) 0 none true 48 [v75, v77] h) fun f3 =>
oh (y4 E (y5 E) 0 none true 48 [v75, v77] h) fun v78 h13 =>
ob (evLd true 5 v2 h13) fun v79 =>
ob (evFa 2 v3) fun v80 =>
ob (evLd false 1 v80 h13) fun v81 =>
ofp (y38 E (y5 E) 0 none true 48 [v79, v81] h13) fun f7 =>
oh (y4 E (y5 E) 0 none true 48 [v79, v81] h13) fun v82 h14 =>
ob (y3 .eql v78 v82) fun v83 =>
okK (y9 [(ids1 v2, []), ([], []), (ids1 v76, []), f3, (ids1 v2, []), ([], []), (ids1 v80, []), f7, ([], []), ([], [])] [(3, 4), (3, 6)]) <|
(y8 h14 v83))
 ((y1l v2 v3 v8 v9 v10 v55 h))
def y1vg (s : St) : OX := y1h (s 2) (s 3) (s 8) (s 9) (s 10) (s 55) (s 73) s.h
theorem y163 : T1 yqp yr (y1 2 yr xN) [.t 4] y1vg := fun s => (y14 rfl (y16a s)).trans (by kernel_rfl)
def y1e (v2 v3 v8 v9 v10 v55 : AV) (h : Heap) : OX :=
ob (y3 .eql v55 (AV.int .i64 4)) fun v74 =>
(y1h v2 v3 v8 v9 v10 v55 v74 h)
def y1rg (s : St) : OX := y1e (s 2) (s 3) (s 8) (s 9) (s 10) (s 55) s.h
theorem y15q : T1 yqn yr (y1 2 yr xN) [.t 4] y1rg := sq y163 fun _ => by kernel_rfl
def y19 (v2 v3 v8 v9 v10 v55 v56 : AV) (h : Heap) : OX :=
cnd v56
 (ob (evLd true 5 v2 h) fun v58 =>
ob (evFa 1 v3) fun v59 =>
ob (evLd false 1 v59 h) fun v60 =>
oh (y4 E (y5 E) 0 none true 48 [v58, v60] h) fun v61 h15 =>
ob (y3 .eql v61 (AV.int .i64 2)) fun v62 =>
gb v62 false (evFa 5 v3) fun v64 =>
gb v62 false (evLd false 1 v64 h15) fun v65 =>
gb v62 false (y3 .geq v65 (AV.int .i64 (-2147483648))) fun v66 =>
gb v62 false (some v66) fun v67 =>
gb v67 true (evFa 5 v3) fun v68 =>
gb v67 true (evLd false 1 v68 h15) fun v69 =>
gb v67 true (y3 .lss v69 (AV.int .i64 2147483648)) fun v70 =>
gb v62 false (y7 v67 v70 (AV.bool false)) fun v71 =>
ob (y7 v62 (AV.bool true) v71) fun v72 =>
(y8 h15 v72))
 ((y1e v2 v3 v8 v9 v10 v55 h))
def y1vm (s : St) : OX := y19 (s 2) (s 3) (s 8) (s 9) (s 10) (s 55) (s 56) s.h
theorem y183 : T1 yrw yr (y1 2 yr xN) [.t 4] y1vm := fun s => (y14 rfl (y15q s)).trans (by kernel_rfl)
def y16 (v2 v3 v8 v9 v10 v55 : AV) (h : Heap) : OX :=
ob (y3 .eql v55 (AV.int .i64 1)) fun v57 =>
(y19 v2 v3 v8 v9 v10 v55 v57 h)
def y11g (s : St) : OX := y16 (s 2) (s 3) (s 8) (s 9) (s 10) (s 55) s.h
theorem y16i : T1 yqf yr (y1 2 yr xN) [.t 4] y11g := sq y183 fun _ => by kernel_rfl
theorem y16g : T1 ys2 yr xN [.t 4] y11g := fun s => yq.trans (y16i s)
def yez (v2 v3 v8 v9 v10 : AV) (h : Heap) : OX :=
ob (evFa 0 v3) fun v54 =>
ob (evLd false 1 v54 h) fun v55 =>
(y16 v2 v3 v8 v9 v10 v55 h)
def y01 (s : St) : OX := yez (s 2) (s 3) (s 8) (s 9) (s 10) s.h
theorem y16f : T1 yq2 yr xN [.t 4] y01 := sq y16g fun _ => by kernel_rfl
theorem y17v : T0 ypx [.t 4] y01 := sq y1j8 y16f
def yid (v2 v3 v8 v9 v10 : AV) (h : Heap) : OX :=
ob (evFa 5 v3) fun v39 =>
ob (evLd false 1 v39 h) fun v40 =>
ob (y3 .geq v40 (AV.int .i64 0)) fun v41 =>
gb v41 true (evFa 5 v3) fun v43 =>
gb v41 true (evLd false 1 v43 h) fun v44 =>
gb v41 true (y3 .lss v44 (AV.int .i64 1000)) fun v45 =>
ob (y7 v41 v45 (AV.bool false)) fun v46 =>
cnd v46
 (ob (evFa 5 v3) fun v48 =>
ob (evLd false 1 v48 h) fun v49 =>
oh (y4 E (y5 E) 0 none true 66 [v49] h) fun v50 h16 =>
ob (y57 0 v50) fun v51 =>
ob (y57 1 v50) fun v52 =>
ob (y57 2 v50) fun v53 =>
(yez v2 v3 v51 v52 v53 h16))
 ((yez v2 v3 v8 v9 v10 h))
def y1s0 (s : St) : OX := yid (s 2) (s 3) (s 8) (s 9) (s 10) s.h
theorem y17a : T0 ysl [.t 4] y1s0 := sq y17v fun _ => by kernel_rfl
def yit (v2 v3 : AV) (h : Heap) : OX :=
(yid v2 v3 (AV.int .i64 0) (AV.int .i64 0) (AV.int .i64 0) h)
def y51 (s : St) : OX := yit (s 2) (s 3) s.h
theorem y16h : T0 yok [.t 4] y51 := sq y17a fun _ => by kernel_rfl
def y54 (v2 v3 v5 v6 v7 : AV) (h : Heap) : OX :=
  W E 0 yes ⟨[(2, v2), (3, v3), (5, v5), (6, v6), (7, v7)], h⟩ y51 (y1 0 y51 xN) (finP [.t 4])
def y77 (s : St) : OX := y54 (s 2) (s 3) (s 5) (s 6) (s 7) s.h
theorem yhu : T1 yes y51 (y1 0 y51 xN) [.t 4] y77 := fun s => yd.trans (by kernel_rfl)
def ymc (v2 v3 v5 v6 v7 : AV) (h : Heap) : OX :=
ob (y3 .add v7 (AV.int .i64 1)) fun v28 =>
(y54 v2 v3 v5 v6 v28 h)
def y1ys (s : St) : OX := ymc (s 2) (s 3) (s 5) (s 6) (s 7) s.h
theorem y171 : T1 yoo y77 (y1 0 y51 xN) [.t 4] y1ys := fun _ => by kernel_rfl
def ytx (v2 v3 v5 v6 v7 : AV) (h : Heap) : OX :=
ob (evLd true 5 v2 h) fun v29 =>
ob (yg 1 v6 v7) fun v32 =>
ob (evLd false 1 v32 h) fun v33 =>
ob (y5h v5 v7) fun v36 =>
oh (y4 E (y5 E) 0 none true 65 [v29, v33, v36] h) fun v37 h17 =>
ob (evUn .not v37) fun v38 =>
cnd v38
 ((y8 h17 (AV.bool false)))
 ((ymc v2 v3 v5 v6 v7 h17))
def y1ve (s : St) : OX := ytx (s 2) (s 3) (s 5) (s 6) (s 7) s.h
theorem y18g : T1 yp5 y77 (y1 0 y51 xN) [.t 4] y1ve := sq y171 fun _ => by kernel_rfl
def yf1 (v2 v3 v5 v6 v7 : AV) (h : Heap) : OX :=
ob (y3 .lss v7 (AV.int .i64 4)) fun v26 =>
cnd v26
 ((ytx v2 v3 v5 v6 v7 h))
 ((yit v2 v3 h))
def y1s3 (s : St) : OX := yf1 (s 2) (s 3) (s 5) (s 6) (s 7) s.h
theorem y18i : T1 yq6 y77 (y1 0 y51 xN) [.t 4] y1s3 := sq y18g fun _ => by kernel_rfl
theorem ygk (v2 v3 v5 v6 v7 : AV) (h : Heap) : y54 v2 v3 v5 v6 v7 h = (yf1 v2 v3 v5 v6 v7 h) :=
  y1t.trans ((y12 _ _ _ (n' := y77) (fun s => yhu s)).trans ((y18i _).trans (by kernel_rfl)))
theorem y161 : T1 ys1 y51 xN [.t 4] y77 := fun s => yq.trans (yhu s)
def yt0 (v2 v3 v5 v6 : AV) (h : Heap) : OX :=
(y54 v2 v3 v5 v6 (AV.int .i64 0) h)
def y13v (s : St) : OX := yt0 (s 2) (s 3) (s 5) (s 6) s.h
theorem y188 : T1 yre y51 xN [.t 4] y13v := sq y161 fun _ => by kernel_rfl
theorem y17j : T0 ypo [.t 4] y13v := sq y16h y188
def yt4 (v2 v3 v5 : AV) (h : Heap) : OX :=
ob (evFa 1 v3) fun v16 =>
ob (evLd false 1 v16 h) fun v17 =>
ob (evFa 2 v3) fun v18 =>
ob (evLd false 1 v18 h) fun v19 =>
ob (evFa 3 v3) fun v20 =>
ob (evLd false 1 v20 h) fun v21 =>
ob (evFa 4 v3) fun v22 =>
ob (evLd false 1 v22 h) fun v23 =>
oh (yj 0 (some 2) 1 4 [(.int .i64 0)] [(0, v17), (1, v19), (2, v21), (3, v23)] h) fun v24 h18 =>
(yt0 v2 v3 v5 v24 h18)
def y1x9 (s : St) : OX := yt4 (s 2) (s 3) (s 5) s.h
theorem y17e : T0 yrc [.t 4] y1x9 := sq y17j fun _ => by kernel_rfl
def yho (v2 v3 v5 : AV) (h : Heap) : OX :=
ob (y3 .eql v5 (AV.str [])) fun v15 =>
cnd v15
 ((y8 h (AV.bool false)))
 ((yt4 v2 v3 v5 h))
def y1z1 (s : St) : OX := yho (s 2) (s 3) (s 5) s.h
theorem y15m : T0 ypn [.t 4] y1z1 := sq y17e fun _ => by kernel_rfl
def ygu (v2 v3 : AV) (h : Heap) : OX :=
ob (evFa 0 v3) fun v11 =>
ob (evLd false 1 v11 h) fun v12 =>
oh (y4 E (y5 E) 0 none true 38 [v12] h) fun v13 h19 =>
(yho v2 v3 v13 h19)
def y207 (s : St) : OX := ygu (s 2) (s 3) s.h
theorem y16l : T0 yr8 [.t 4] y207 := sq y15m fun _ => by kernel_rfl
def yf4 (v0 v1 : AV) (h : Heap) : OX :=
oh (newC 0 (some 0) (cellsOf v0) h) fun v2 h20 =>
oh (newC 0 (some 1) (cellsOf v1) h20) fun v3 h21 =>
(ygu v2 v3 h21)
def y1sq (s : St) : OX := yf4 (s 0) (s 1) s.h
theorem y18e : T0 yo7 [.t 4] y1sq := sq y16l fun _ => by kernel_rfl
@[simp] theorem y2lu : E.pure 64 = true := rfl
theorem y2jj (v0 v1 : AV) : (y5 E).p 64 [v0, v1] = yf4 v0 v1 [⟨0, .dead⟩, ⟨0, .dead⟩, ⟨0, .dead⟩] :=
  (yu (cf := y235) (by kernel_rfl) rfl).trans ((y18e _).trans (by kernel_rfl))
def y1rd (v0 : AV) (h : Heap) : OX :=
oh (yj 0 (some 0) 1 3 [(.int .i64 0)] [(0, (AV.int .i64 27)), (1, (AV.int .i64 28)), (2, (AV.int .i64 29))] h) fun v4 h1 =>
oh (y4 E (y5 E) 0 none true 42 [v0, v4] h1) fun v5 h2 =>
(y8 h2 v5)
def y27x (s : St) : OX := y1rd (s 0) s.h
theorem y1qb : T0 y0o [.t 2] y27x := fun _ => by kernel_rfl
@[simp] theorem y2ld : E.pure 23 = true := rfl
theorem y2ix (v0 : AV) : (y5 E).p 23 [v0] = y1rd v0 [⟨0, .dead⟩] :=
  (yu (cf := y22j) (by kernel_rfl) rfl).trans ((y1qb _).trans (by kernel_rfl))
def y1e7 (v0 v1 : AV) (h : Heap) : OX :=
oh (newC 0 (some 0) (cellsOf v0) h) fun v2 h1 =>
ob (y3 .geq v1 (AV.int .i64 0)) fun v6 =>
gb v6 true (some v1) fun v8 =>
gb v6 true (evFa 3 v2) fun v9 =>
gb v6 true (evLd false 1 v9 h1) fun v10 =>
gb v6 true (yt 1 v10 h1) fun v11 =>
gb v6 true (y3 .lss v8 v11) fun v12 =>
ob (y7 v6 v12 (AV.bool false)) fun v13 =>
(y8 h1 v13)
def y26s (s : St) : OX := y1e7 (s 0) (s 1) s.h
theorem y1hf : T0 ywf [.t 4] y26s := fun _ => by kernel_rfl
@[simp] theorem y2m6 : E.pure 49 = true := rfl
theorem y2in (v0 v1 : AV) : (y5 E).p 49 [v0, v1] = y1e7 v0 v1 [⟨0, .dead⟩] :=
  (yu (cf := y22y) (by kernel_rfl) rfl).trans ((y1hf _).trans (by kernel_rfl))
def yzp (v7 : AV) (h : Heap) : OX :=
(y8 h v7)
def ya6 (s : St) : OX := yzp (s 7) s.h
theorem y1j0 : T0 y0k [.t 4] ya6 := fun _ => by kernel_rfl
def yi6 (v7 v8 : AV) (h : Heap) : OX :=
  W E 0 yil ⟨[(7, v7), (8, v8)], h⟩ ya6 (y1 0 ya6 xN) (finP [.t 4])
def yaz (s : St) : OX := yi6 (s 7) (s 8) s.h
theorem yk1 : T1 yil ya6 (y1 0 ya6 xN) [.t 4] yaz := fun s => yd.trans (by kernel_rfl)
def y1jb (v7 v8 : AV) (h : Heap) : OX :=
ob (y5s 1 v7 (some v8) none) fun v41 =>
ob (y5s 1 v7 none (some v8)) fun v44 =>
oh (yhf 1 v41 v44 h) fun v45 h1 =>
ob (y3 .add v8 v45) fun v46 =>
(yi6 v7 v46 h1)
def y29k (s : St) : OX := y1jb (s 7) (s 8) s.h
theorem y1dy : T1 y11d yaz (y1 0 ya6 xN) [.t 4] y29k := fun _ => by kernel_rfl
def yyr (v7 v8 : AV) (h : Heap) : OX :=
ob (yt 1 v7 h) fun v36 =>
ob (y3 .lss v8 v36) fun v37 =>
cnd v37
 ((y1jb v7 v8 h))
 ((yzp v7 h))
def y282 (s : St) : OX := yyr (s 7) (s 8) s.h
theorem y1az : T1 yvl yaz (y1 0 ya6 xN) [.t 4] y282 := sq y1dy fun _ => by kernel_rfl
theorem ykj (v7 v8 : AV) (h : Heap) : yi6 v7 v8 h = (yyr v7 v8 h) :=
  y1t.trans ((y12 _ _ _ (n' := yaz) (fun s => yk1 s)).trans ((y1az _).trans (by kernel_rfl)))
theorem y1h7 : T1 y0t ya6 xN [.t 4] yaz := fun s => yq.trans (yk1 s)
theorem y1q3 : T0 y12h [.t 4] yaz := sq y1j0 y1h7
def y1ii (v0 v7 : AV) (h : Heap) : OX :=
oh (yhf 1 v7 v0 h) fun v33 h2 =>
(yi6 v7 v33 h2)
def y28w (s : St) : OX := y1ii (s 0) (s 7) s.h
theorem y1ao : T0 yxr [.t 4] y28w := sq y1q3 fun _ => by kernel_rfl
def y1jl (v0 v6 : AV) (h : Heap) : OX :=
ob (ybk .i64 v6) fun v29 =>
oh (mkSC 0 (some 0) 1 8 [(.int .i64 0)] v29 v29 h) fun v30 h3 =>
(y1ii v0 v30 h3)
def y26c (s : St) : OX := y1jl (s 0) (s 6) s.h
theorem y1c2 : T0 yvk [.t 4] y26c := sq y1ao fun _ => by kernel_rfl
def y1qr (v0 v5 v6 : AV) (h : Heap) : OX :=
ob (y3 .gtr v5 (AV.int .u64 0)) fun v22 =>
gb v22 false (some v6) fun v24 =>
gb v22 false (y3 .gtr v24 (AV.int .u64 9223372036854775807)) fun v25 =>
ob (y7 v22 (AV.bool true) v25) fun v26 =>
cnd v26
 (none)
 ((y1jl v0 v6 h))
def y2av (s : St) : OX := y1qr (s 0) (s 5) (s 6) s.h
theorem y1gd : T0 yxv [.t 4] y2av := sq y1c2 fun _ => by kernel_rfl
def ytt (v0 v1 : AV) (h : Heap) : OX :=
ob (yt 1 v0 h) fun v14 =>
ob (ybk .u64 v14) fun v15 =>
ob (ybk .u64 v1) fun v17 =>
oh (y4 E (y5 E) 0 none true 157 [v15, v17] h) fun v18 h4 =>
ob (y57 0 v18) fun v19 =>
ob (y57 1 v18) fun v20 =>
(y1qr v0 v19 v20 h4)
def y1tp (s : St) : OX := ytt (s 0) (s 1) s.h
theorem y167 : T0 yrm [.t 4] y1tp := sq y1gd fun _ => by kernel_rfl
def yuo (v0 v1 : AV) (h : Heap) : OX :=
ob (y3 .lss v1 (AV.int .i64 0)) fun v10 =>
cnd v10
 (none)
 ((ytt v0 v1 h))
def y1yu (s : St) : OX := yuo (s 0) (s 1) s.h
theorem y17m : T0 yry [.t 4] y1yu := sq y167 fun _ => by kernel_rfl
def yur (v0 v1 : AV) (h : Heap) : OX :=
(yuo v0 v1 h)
def y1y2 (s : St) : OX := yur (s 0) (s 1) s.h
theorem y17g : T0 yrh [.t 4] y1y2 := sq y17m fun _ => by kernel_rfl
@[simp] theorem y2k8 : E.pure 150 = true := rfl
theorem y2j8 (v0 v1 : AV) : (y5 E).p 150 [v0, v1] = yur v0 v1 [⟨0, .dead⟩] :=
  (yu (cf := y22e) (by kernel_rfl) rfl).trans ((y17g _).trans (by kernel_rfl))
def q2_1 (fb : Nat) (v0 v2 v3 v6 : AV) (h : Heap) : Option (AV × Heap) :=
ob (evLd false 1 v2 h) fun v30 =>
ob (yg 1 v30 v0) fun v33 =>
oh (evSt 1 v33 v6 h) fun _ h1 =>
ob (evLd false 1 v3 h1) fun v34 =>
oh (yj fb (some 0) 1 1 [(.int .i64 0)] [(0, v0)] h1) fun v36 h2 =>
oh (y2y fb (some 1) 1 8 v34 v36 h2) fun v37 h3 =>
oh (evSt 1 v3 v37 h3) fun _ h4 =>
(some ((.tup []), h4))
def y2ej (fb : Nat) (s : St) : Option (AV × Heap) := q2_1 fb (s 0) (s 2) (s 3) (s 6) s.h
theorem y248 (fb : Nat) (s : St) : W E fb y21h s (finI []) xN (finI []) = y2ej fb s :=
  by kernel_rfl
def q2_2 (fb : Nat) (v0 v2 v3 v6 : AV) (h : Heap) : Option (AV × Heap) :=
ob (y3 .eql v0 (AV.int .i64 0)) fun v14 =>
gb v14 false (evLd false 1 v2 h) fun v16 =>
gb v14 false (some v0) fun v17 =>
gb v14 false (yg 1 v16 v17) fun v18 =>
gb v14 false (evLd false 1 v18 h) fun v19 =>
gb v14 false (y4u 1 true v19 AV.nils) fun v20 =>
gb v14 false (some v20) fun v21 =>
gb v21 true (some v6) fun v22 =>
gb v21 true (evLd false 1 v2 h) fun v23 =>
gb v21 true (some v0) fun v24 =>
gb v21 true (yg 1 v23 v24) fun v25 =>
gb v21 true (evLd false 1 v25 h) fun v26 =>
gh v21 true (y4 E (y5 E) fb none true 156 [v22, v26] h) h fun v27 h5 =>
gb v14 false (y7 v21 v27 (AV.bool false)) fun v28 =>
ob (y7 v14 (AV.bool true) v28) fun v29 =>
cnd v29
 ((some ((.tup []), h5)))
 ((q2_1 fb v0 v2 v3 v6 h5))
def y2d8 (fb : Nat) (s : St) : Option (AV × Heap) := q2_2 fb (s 0) (s 2) (s 3) (s 6) s.h
theorem y27c (fb : Nat) (s : St) : W E fb y22s s (finI []) xN (finI []) = y2d8 fb s :=
  (yjk (k := (y2ej fb)) (fun s => y248 fb s)).trans (by kernel_rfl)
def q2_3 (fb : Nat) (v0 v1 v2 v3 : AV) (h : Heap) : Option (AV × Heap) :=
ob (evLd false 1 v2 h) fun v7 =>
ob (yg 1 v7 v0) fun v9 =>
ob (evLd false 1 v9 h) fun v10 =>
oh (y4 E (y5 E) fb none true 155 [v10, v1] h) fun v12 h6 =>
(q2_2 fb v0 v2 v3 v12 h6)
def y2nm (fb : Nat) (s : St) : Option (AV × Heap) := q2_3 fb (s 0) (s 1) (s 2) (s 3) s.h
theorem y23y (fb : Nat) (s : St) : W E fb y20t s (finI []) xN (finI []) = y2nm fb s :=
  (yjk (k := (y2d8 fb)) (fun s => y27c fb s)).trans (by kernel_rfl)
@[simp] theorem y2jo : E.pure 151 = false := rfl
theorem x_q2 (fb : Nat) (v0 v1 v2 v3 : AV) (h : Heap) : (y5 E).i 151 [v0, v1, v2, v3] fb h = q2_3 fb v0 v1 v2 v3 (if fb = h.length then h ++ yv 2 else h) :=
  (ytr (cf := c_q2) (by kernel_rfl) rfl).trans ((y23y fb _).trans (by kernel_rfl))
end
end Go.Vm
