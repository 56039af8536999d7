/- Functions of the machine as plain functions that go on with what follows. -/
import Derived.Test.YtgbajicpokolcaaBEnv
set_option linter.unusedSimpArgs false
set_option linter.unusedVariables false
set_option linter.unusedSectionVars false
namespace Go.Vm
noncomputable section
def y230 (v1 : AV) (h : Heap) : OX :=
ob (evLd true 5 v1 h) fun v5 =>
ofp (y3i E (y7 E) 0 none true 119 [v5] h) fun f1 =>
oh (y6 E (y7 E) 0 none true 119 [v5] h) fun v6 h1 =>
ob (evUn .not v6) fun v7 =>
ofp (fgd v7 false (some (ids1 v1, []))) fun f4 =>
gb v7 false (evLd true 5 v1 h1) fun v9 =>
ofp (fgd v7 false (some (ids1 v1, []))) fun f5 =>
gb v7 false (evLd true 5 v1 h1) fun v10 =>
ofp (fgd v7 false (y3i E (y7 E) 0 none true 118 [v10] h1)) fun f6 =>
gh v7 false (y6 E (y7 E) 0 none true 118 [v10] h1) h1 fun v11 h2 =>
ofp (fgd v7 false (y3i E (y7 E) 0 none true 120 [v9, v11] h2)) fun f7 =>
gh v7 false (y6 E (y7 E) 0 none true 120 [v9, v11] h2) h2 fun v12 h3 =>
ob (y8 v7 (AV.bool true) v12) fun v13 =>
okK (yf [(ids1 v1, []), f1, ([], []), ([], []), f4, f5, f6, f7, ([], []), ([], [])] [(4, 6)]) <|
(yc h3 v13)
def y2o1 (s : St) : OX := y230 (s 1) s.h
theorem y24t : T0 y1wg [.t 2] y2o1 := fun _ => by kernel_rfl
def y25p (v1 : AV) (h : Heap) : OX :=
oh (y6 E (y7 E) 0 none true 117 [] h) fun v3 h4 =>
ob (evUn .not v3) fun v4 =>
cnd v4
 ((yc h4 (AV.bool false)))
 ((y230 v1 h4))
def y2lq (s : St) : OX := y25p (s 1) s.h
theorem y25c : T0 y1ja [.t 2] y2lq := sq y24t fun _ => by kernel_rfl
def y256 (v0 : AV) (h : Heap) : OX :=
oh (newC 0 (some 0) (cellsOf v0) h) fun v1 h5 =>
(y25p v1 h5)
def y2mx (s : St) : OX := y256 (s 0) s.h
theorem y239 : T0 y1rf [.t 2] y2mx := sq y25c fun _ => by kernel_rfl
@[simp] theorem y2ov : E.pure 115 = true := rfl
theorem y2p0 (v0 : AV) : (y7 E).p 115 [v0] = y256 v0 [⟨0, .dead⟩] :=
  (yv (cf := y2o0) (by kernel_rfl) rfl).trans ((y239 _).trans (by kernel_rfl))
def y1o5 (v2 v3 : AV) (h : Heap) : OX :=
ob (evLd true 5 v3 h) fun v39 =>
oh (evSt 5 v2 v39 h) fun _ h1 =>
(ob (evLd true 5 v2 h1) fun r0 =>
  yc h1 r0)
def ya8 (s : St) : OX := y1o5 (s 2) (s 3) s.h
theorem y225 : T0 y1h6 [.cell 2 true 5] ya8 := fun _ => by kernel_rfl
def yrw (v2 v3 v22 v23 : AV) (h : Heap) : OX :=
  W E 0 yon ⟨[(2, v2), (3, v3), (22, v22), (23, v23)], h⟩ ya8 (y4 0 ya8 xN) (finP [.cell 2 true 5])
def ycl (s : St) : OX := yrw (s 2) (s 3) (s 22) (s 23) s.h
theorem yt7 : T1 yon ya8 (y4 0 ya8 xN) [.cell 2 true 5] ycl := fun s => yh.trans (by kernel_rfl)
def y2g7 (v2 v3 v22 v23 : AV) (h : Heap) : OX :=
ob (y5 .add v23 (AV.int .i64 1)) fun v38 =>
(yrw v2 v3 v22 v38 h)
def y2ie (s : St) : OX := y2g7 (s 2) (s 3) (s 22) (s 23) s.h
theorem y1zw : T1 y1hh ycl (y4 0 ya8 xN) [.cell 2 true 5] y2ie := fun _ => by kernel_rfl
def y2ar (v2 v3 v22 v23 : AV) (h : Heap) : OX :=
ob (evFa 3 v3) fun v26 =>
ob (evLd false 1 v26 h) fun v27 =>
ob (evFa 3 v3) fun v29 =>
ob (evLd false 1 v29 h) fun v30 =>
ob (yw 9 v30 v23) fun v32 =>
ob (evFa 8 v32) fun v33 =>
ob (evLd false 1 v33 h) fun v34 =>
ofp (y3i E (y7 E) 0 none true 39 [v34] h) fun f9 =>
oh (y6 E (y7 E) 0 none true 39 [v34] h) fun v35 h2 =>
ob (yw 9 v27 v23) fun v36 =>
ob (evFa 8 v36) fun v37 =>
oh (evSt 1 v37 v35 h2) fun _ h3 =>
okK (yf [([], []), (ids1 v26, []), ([], []), ([], []), (ids1 v29, []), ([], []), ([], []), ([], []), (ids1 v33, []), f9, ([], []), ([], []), ([], ids1 v37)] [(1, 9)]) <|
(y2g7 v2 v3 v22 v23 h3)
def y2k4 (s : St) : OX := y2ar (s 2) (s 3) (s 22) (s 23) s.h
theorem y20v : T1 y1qp ycl (y4 0 ya8 xN) [.cell 2 true 5] y2k4 := sq y1zw fun _ => by kernel_rfl
def y1ya (v2 v3 v22 v23 v24 : AV) (h : Heap) : OX :=
cnd v24
 ((y2ar v2 v3 v22 v23 h))
 ((y1o5 v2 v3 h))
def y2k2 (s : St) : OX := y1ya (s 2) (s 3) (s 22) (s 23) (s 24) s.h
theorem y23d : T1 y1v6 ycl (y4 0 ya8 xN) [.cell 2 true 5] y2k2 := sq y20v fun _ => by kernel_rfl
def y21l (v2 v3 v22 v23 : AV) (h : Heap) : OX :=
ob (y5 .lss v23 v22) fun v24 =>
(y1ya v2 v3 v22 v23 v24 h)
def y2j0 (s : St) : OX := y21l (s 2) (s 3) (s 22) (s 23) s.h
theorem y22b : T1 y1fl ycl (y4 0 ya8 xN) [.cell 2 true 5] y2j0 := sq y23d fun _ => by kernel_rfl
theorem yuz (v2 v3 v22 v23 : AV) (h : Heap) : yrw v2 v3 v22 v23 h = (y21l v2 v3 v22 v23 h) :=
  y1r.trans ((y17 _ _ _ (n' := ycl) (fun s => yt7 s)).trans ((y22b _).trans (by kernel_rfl)))
theorem y1zc : T1 y1wr ya8 xN [.cell 2 true 5] ycl := fun s => yt.trans (yt7 s)
def y1pn (v2 v3 : AV) (h : Heap) : OX :=
ob (evFa 3 v3) fun v20 =>
ob (evLd false 1 v20 h) fun v21 =>
ob (y11 1 v21 h) fun v22 =>
(yrw v2 v3 v22 (AV.int .i64 0) h)
def y27j (s : St) : OX := y1pn (s 2) (s 3) s.h
theorem y25u : T1 y1w9 ya8 xN [.cell 2 true 5] y27j := sq y1zc fun _ => by kernel_rfl
theorem y25w : T0 y1my [.cell 2 true 5] y27j := sq y225 y25u
def yvd (v1 v2 : AV) (h : Heap) : OX :=
ob (evFa 0 v1) fun v5 =>
ob (evLd false 1 v5 h) fun v6 =>
ofp (y3i E (y7 E) 0 (some 2) false 39 [v6] h) fun f2 =>
oh (y6 E (y7 E) 0 (some 2) false 39 [v6] h) fun v7 h4 =>
ob (evFa 1 v1) fun v8 =>
ob (evLd false 1 v8 h4) fun v9 =>
ofp (y3i E (y7 E) 0 (some 3) false 39 [v9] h4) fun f5 =>
oh (y6 E (y7 E) 0 (some 3) false 39 [v9] h4) fun v10 h5 =>
ob (evFa 2 v1) fun v11 =>
ob (evLd false 1 v11 h5) fun v12 =>
ob (evFa 3 v1) fun v13 =>
ob (evLd false 1 v13 h5) fun v14 =>
ofp (y3i E (y7 E) 0 (some 4) false 40 [v14] h5) fun f10 =>
oh (y6 E (y7 E) 0 (some 4) false 40 [v14] h5) fun v15 h6 =>
ob (evFa 4 v1) fun v16 =>
ob (evLd false 1 v16 h6) fun v17 =>
ofp (y3i E (y7 E) 0 (some 5) false 41 [v17] h6) fun f13 =>
oh (y6 E (y7 E) 0 (some 5) false 41 [v17] h6) fun v18 h7 =>
ob (y1b [.nils, .nils, (.int .i64 0), .nils, .nils] [(0, 1, v7), (1, 1, v10), (2, 1, v12), (3, 1, v15), (4, 1, v18)]) fun v19 =>
oh (newC 0 (some 6) [.nils, .nils, (.int .i64 0), .nils, .nils] h7) fun v3 h8 =>
oh (evSt 5 v3 v19 h8) fun _ h9 =>
okK (yf [([], []), (ids1 v5, []), f2, ([], []), (ids1 v8, []), f5, ([], []), (ids1 v11, []), ([], []), (ids1 v13, []), f10, ([], []), (ids1 v16, []), f13, ([], []), ([], [0 + 6]), ([], ids1 v3)] [(2, 4), (2, 7), (5, 7), (2, 9), (5, 9), (7, 10), (2, 12), (5, 12), (10, 12), (7, 13), (1, 15), (2, 15), (4, 15), (5, 15), (7, 15), (9, 15), (10, 15), (12, 15), (13, 15)]) <|
(y1pn v2 v3 h9)
def y2g1 (s : St) : OX := yvd (s 1) (s 2) s.h
theorem y1ud : T0 y15n [.cell 2 true 5] y2g1 := sq y25w fun _ => by kernel_rfl
def y12a (v0 : AV) (h : Heap) : OX :=
oh (newC 0 (some 0) (cellsOf v0) h) fun v1 h10 =>
oh (newC 0 (some 1) [.nils, .nils, (.int .i64 0), .nils, .nils] h10) fun v2 h11 =>
(yvd v1 v2 h11)
def y2fy (s : St) : OX := y12a (s 0) s.h
theorem y1md : T0 y153 [.cell 2 true 5] y2fy := sq y1ud fun _ => by kernel_rfl
@[simp] theorem y2r0 : E.pure 13 = true := rfl
theorem y2qg (v0 : AV) : (y7 E).p 13 [v0] = y12a v0 [⟨0, .dead⟩, ⟨0, .dead⟩, ⟨0, .dead⟩, ⟨0, .dead⟩, ⟨0, .dead⟩, ⟨0, .dead⟩, ⟨0, .dead⟩] :=
  (yv (cf := y2ms) (by kernel_rfl) rfl).trans ((y1md _).trans (by kernel_rfl))
def y1hu (h : Heap) : OX :=
(yc h (AV.bool true))
def y7f (s : St) : OX := y1hu s.h
theorem y1r2 : T0 y0h [.t 4] y7f := fun _ => by kernel_rfl
def yj7 (v2 v3 v6 : AV) (h : Heap) : OX :=
  W E 0 yk8 ⟨[(2, v2), (3, v3), (6, v6)], h⟩ y7f (y4 2 y7f xN) (finP [.t 4])
def ybs (s : St) : OX := yj7 (s 2) (s 3) (s 6) s.h
theorem ylj : T1 yk8 y7f (y4 2 y7f xN) [.t 4] ybs := fun s => yh.trans (by kernel_rfl)
def y07 (v2 v3 v6 : AV) (h : Heap) : OX :=
ob (y5 .add v6 (AV.int .i64 1)) fun v71 =>
(yj7 v2 v3 v71 h)
def y2cl (s : St) : OX := y07 (s 2) (s 3) (s 6) s.h
theorem y1gu : T1 y13w ybs (y4 2 y7f xN) [.t 4] y2cl := fun _ => by kernel_rfl
def yzv (v2 v3 v6 : AV) (h : Heap) : OX :=
ob (evFa 4 v2) fun v72 =>
ob (evLd false 1 v72 h) fun v73 =>
ob (yw 4 v73 v6) fun v75 =>
ob (evLd true 4 v75 h) fun v76 =>
ob (evFa 4 v3) fun v77 =>
ob (evLd false 1 v77 h) fun v78 =>
ob (yw 4 v78 v6) fun v80 =>
ob (evLd true 4 v80 h) fun v81 =>
ob (y1oc true [0, 0, 0, 2] v76 v81) fun v82 =>
cnd v82
 ((yc h (AV.bool false)))
 ((y07 v2 v3 v6 h))
def y2h4 (s : St) : OX := yzv (s 2) (s 3) (s 6) s.h
theorem y1su : T1 y17h ybs (y4 2 y7f xN) [.t 4] y2h4 := sq y1gu fun _ => by kernel_rfl
def yu2 (v2 v3 v6 : AV) (h : Heap) : OX :=
ob (evFa 4 v2) fun v66 =>
ob (evLd false 1 v66 h) fun v67 =>
ob (y11 1 v67 h) fun v68 =>
ob (y5 .lss v6 v68) fun v69 =>
cnd v69
 ((yzv v2 v3 v6 h))
 ((y1hu h))
def y2a5 (s : St) : OX := yu2 (s 2) (s 3) (s 6) s.h
theorem y1xm : T1 y0d ybs (y4 2 y7f xN) [.t 4] y2a5 := sq y1su fun _ => by kernel_rfl
theorem ylo (v2 v3 v6 : AV) (h : Heap) : yj7 v2 v3 v6 h = (yu2 v2 v3 v6 h) :=
  y1r.trans ((y17 _ _ _ (n' := ybs) (fun s => ylj s)).trans ((y1xm _).trans (by kernel_rfl)))
theorem y1s2 : T1 y13x y7f xN [.t 4] ybs := fun s => yt.trans (ylj s)
def y1x5 (v2 v3 : AV) (h : Heap) : OX :=
(yj7 v2 v3 (AV.int .i64 0) h)
def y6n (s : St) : OX := y1x5 (s 2) (s 3) s.h
theorem y1v5 : T1 y11n y7f xN [.t 4] y6n := sq y1s2 fun _ => by kernel_rfl
theorem y1ut : T0 y12h [.t 4] y6n := sq y1r2 y1v5
def yh9 (v2 v3 v5 : AV) (h : Heap) : OX :=
  W E 0 yhx ⟨[(2, v2), (3, v3), (5, v5)], h⟩ y6n (y4 0 y6n xN) (finP [.t 4])
def yba (s : St) : OX := yh9 (s 2) (s 3) (s 5) s.h
theorem yn1 : T1 yhx y6n (y4 0 y6n xN) [.t 4] yba := fun s => yh.trans (by kernel_rfl)
def yw4 (v2 v3 v5 : AV) (h : Heap) : OX :=
ob (y5 .add v5 (AV.int .i64 1)) fun v52 =>
(yh9 v2 v3 v52 h)
def y240 (s : St) : OX := yw4 (s 2) (s 3) (s 5) s.h
theorem y1dg : T1 yuy yba (y4 0 y6n xN) [.t 4] y240 := fun _ => by kernel_rfl
def yoq (v2 v3 v5 : AV) (h : Heap) : OX :=
ob (evFa 3 v2) fun v53 =>
ob (evLd false 1 v53 h) fun v54 =>
ob (yw 9 v54 v5) fun v56 =>
ob (evLd true 9 v56 h) fun v57 =>
ob (evFa 3 v3) fun v58 =>
ob (evLd false 1 v58 h) fun v59 =>
ob (yw 9 v59 v5) fun v61 =>
ob (evLd true 9 v61 h) fun v62 =>
oh (y6 E (y7 E) 0 none true 28 [v57, v62] h) fun v63 h1 =>
ob (evUn .not v63) fun v64 =>
cnd v64
 ((yc h1 (AV.bool false)))
 ((yw4 v2 v3 v5 h1))
def y1za (s : St) : OX := yoq (s 2) (s 3) (s 5) s.h
theorem y1af : T1 yuk yba (y4 0 y6n xN) [.t 4] y1za := sq y1dg fun _ => by kernel_rfl
def yiy (v2 v3 v5 : AV) (h : Heap) : OX :=
ob (evFa 3 v2) fun v47 =>
ob (evLd false 1 v47 h) fun v48 =>
ob (y11 1 v48 h) fun v49 =>
ob (y5 .lss v5 v49) fun v50 =>
cnd v50
 ((yoq v2 v3 v5 h))
 ((y1x5 v2 v3 h))
def y24l (s : St) : OX := yiy (s 2) (s 3) (s 5) s.h
theorem y1e4 : T1 yrv yba (y4 0 y6n xN) [.t 4] y24l := sq y1af fun _ => by kernel_rfl
theorem yn7 (v2 v3 v5 : AV) (h : Heap) : yh9 v2 v3 v5 h = (yiy v2 v3 v5 h) :=
  y1r.trans ((y17 _ _ _ (n' := yba) (fun s => yn1 s)).trans ((y1e4 _).trans (by kernel_rfl)))
theorem y1b1 : T1 yte y6n xN [.t 4] yba := fun s => yt.trans (yn1 s)
def yxc (v2 v3 : AV) (h : Heap) : OX :=
(yh9 v2 v3 (AV.int .i64 0) h)
def yzk (s : St) : OX := yxc (s 2) (s 3) s.h
theorem y1dk : T1 yva y6n xN [.t 4] yzk := sq y1b1 fun _ => by kernel_rfl
theorem y1cx : T0 yun [.t 4] yzk := sq y1ut y1dk
def ya3 (v2 v3 : AV) (h : Heap) : OX :=
ob (evFa 0 v2) fun v7 =>
ob (evLd false 1 v7 h) fun v8 =>
ob (evFa 0 v3) fun v9 =>
ob (evLd false 1 v9 h) fun v10 =>
oh (y6 E (y7 E) 0 none true 11 [v8, v10] h) fun v11 h2 =>
ob (evUn .not v11) fun v12 =>
gb v12 false (evFa 1 v2) fun v14 =>
gb v12 false (evLd false 1 v14 h2) fun v15 =>
gb v12 false (evFa 1 v3) fun v16 =>
gb v12 false (evLd false 1 v16 h2) fun v17 =>
gh v12 false (y6 E (y7 E) 0 none true 11 [v15, v17] h2) h2 fun v18 h3 =>
gb v12 false (evUn .not v18) fun v19 =>
ob (y8 v12 (AV.bool true) v19) fun v20 =>
gb v20 false (evFa 2 v2) fun v22 =>
gb v20 false (evLd false 1 v22 h3) fun v23 =>
gb v20 false (evFa 2 v3) fun v24 =>
gb v20 false (evLd false 1 v24 h3) fun v25 =>
gb v20 false (y5 .neq v23 v25) fun v26 =>
ob (y8 v20 (AV.bool true) v26) fun v27 =>
gb v27 false (evFa 3 v2) fun v29 =>
gb v27 false (evLd false 1 v29 h3) fun v30 =>
gb v27 false (y11 1 v30 h3) fun v31 =>
gb v27 false (evFa 3 v3) fun v32 =>
gb v27 false (evLd false 1 v32 h3) fun v33 =>
gb v27 false (y11 1 v33 h3) fun v34 =>
gb v27 false (y5 .neq v31 v34) fun v35 =>
ob (y8 v27 (AV.bool true) v35) fun v36 =>
gb v36 false (evFa 4 v2) fun v38 =>
gb v36 false (evLd false 1 v38 h3) fun v39 =>
gb v36 false (y11 1 v39 h3) fun v40 =>
gb v36 false (evFa 4 v3) fun v41 =>
gb v36 false (evLd false 1 v41 h3) fun v42 =>
gb v36 false (y11 1 v42 h3) fun v43 =>
gb v36 false (y5 .neq v40 v43) fun v44 =>
ob (y8 v36 (AV.bool true) v44) fun v45 =>
cnd v45
 ((yc h3 (AV.bool false)))
 ((yxc v2 v3 h3))
def y24w (s : St) : OX := ya3 (s 2) (s 3) s.h
theorem y1az : T0 yv6 [.t 4] y24w := sq y1cx fun _ => by kernel_rfl
def yb1 (v0 v1 : AV) (h : Heap) : OX :=
oh (newC 0 (some 0) (cellsOf v0) h) fun v2 h4 =>
oh (newC 0 (some 1) (cellsOf v1) h4) fun v3 h5 =>
(ya3 v2 v3 h5)
def y24q (s : St) : OX := yb1 (s 0) (s 1) s.h
theorem y1a6 : T0 yv1 [.t 4] y24q := sq y1az fun _ => by kernel_rfl
@[simp] theorem y2p2 : E.pure 14 = true := rfl
theorem y2i0 (v0 v1 : AV) : (y7 E).p 14 [v0, v1] = yb1 v0 v1 [⟨0, .dead⟩, ⟨0, .dead⟩] :=
  (yv (cf := y26r) (by kernel_rfl) rfl).trans ((y1a6 _).trans (by kernel_rfl))
def y2fg (h : Heap) : OX :=
(yc h (AV.int .i64 0))
def ya9 (s : St) : OX := y2fg s.h
theorem y212 : T0 y1ip [.t 2] ya9 := fun _ => by kernel_rfl
def ylv (v1 v3 v136 v137 v138 : AV) (h : Heap) : OX :=
  W E 0 yow ⟨[(1, v1), (3, v3), (136, v136), (137, v137), (138, v138)], h⟩ ya9 (y4 6 ya9 xN) (finP [.t 2])
def yd5 (s : St) : OX := ylv (s 1) (s 3) (s 136) (s 137) (s 138) s.h
theorem ytx : T1 yow ya9 (y4 6 ya9 xN) [.t 2] yd5 := fun s => yh.trans (by kernel_rfl)
def y2bn (v1 v3 v136 v137 v138 : AV) (h : Heap) : OX :=
ob (y5 .add v138 (AV.int .i64 1)) fun v179 =>
(ylv v1 v3 v136 v137 v179 h)
def y2ld (s : St) : OX := y2bn (s 1) (s 3) (s 136) (s 137) (s 138) s.h
theorem y1zu : T1 y1er yd5 (y4 6 ya9 xN) [.t 2] y2ld := fun _ => by kernel_rfl
def yop (v1 v3 v136 v137 v138 : AV) (h : Heap) : OX :=
ob (yw 4 v136 v138) fun v140 =>
ob (evLd true 4 v140 h) fun v141 =>
oh (newC 0 (some 2) [(.int .i64 0), (.int .i64 0), (.int .i64 0), (.str [])] h) fun v11 h1 =>
oh (evSt 4 v11 v141 h1) fun _ h2 =>
ob (evFa 0 v11) fun v142 =>
ob (evLd false 1 v142 h2) fun v143 =>
ob (y5 .lss v143 (AV.int .i64 0)) fun v144 =>
gb v144 false (evFa 0 v11) fun v146 =>
gb v144 false (evLd false 1 v146 h2) fun v147 =>
gb v144 false (evFa 1 v11) fun v148 =>
gb v144 false (evLd false 1 v148 h2) fun v149 =>
gb v144 false (y5 .geq v147 v149) fun v150 =>
ob (y8 v144 (AV.bool true) v150) fun v151 =>
gb v151 false (evFa 1 v11) fun v153 =>
gb v151 false (evLd false 1 v153 h2) fun v154 =>
gb v151 false (some v3) fun v155 =>
gb v151 false (y5 .gtr v154 v155) fun v156 =>
ob (y8 v151 (AV.bool true) v156) fun v157 =>
gb v157 false (evFa 2 v11) fun v159 =>
gb v157 false (evLd false 1 v159 h2) fun v160 =>
gb v157 false (y5 .lss v160 (AV.int .i64 0)) fun v161 =>
ob (y8 v157 (AV.bool true) v161) fun v162 =>
gb v162 false (evFa 2 v11) fun v164 =>
gb v162 false (evLd false 1 v164 h2) fun v165 =>
gb v162 false (some v3) fun v166 =>
gb v162 false (y5 .geq v165 v166) fun v167 =>
ob (y8 v162 (AV.bool true) v167) fun v168 =>
gb v168 false (evFa 3 v1) fun v170 =>
gb v168 false (evLd false 1 v170 h2) fun v171 =>
gb v168 false (evFa 2 v11) fun v172 =>
gb v168 false (evLd false 1 v172 h2) fun v173 =>
gb v168 false (yw 9 v171 v173) fun v174 =>
gb v168 false (evFa 0 v174) fun v175 =>
gb v168 false (evLd false 1 v175 h2) fun v176 =>
gb v168 false (y5 .neq v176 (AV.int .i64 32)) fun v177 =>
ob (y8 v168 (AV.bool true) v177) fun v178 =>
cnd v178
 ((yc h2 (AV.int .i64 80)))
 ((y2bn v1 v3 v136 v137 v138 h2))
def y2nl (s : St) : OX := yop (s 1) (s 3) (s 136) (s 137) (s 138) s.h
theorem y24c : T1 y1tt yd5 (y4 6 ya9 xN) [.t 2] y2nl := sq y1zu fun _ => by kernel_rfl
def y1z6 (v1 v3 v136 v137 v138 v139 : AV) (h : Heap) : OX :=
cnd v139
 ((yop v1 v3 v136 v137 v138 h))
 ((y2fg h))
def y2n8 (s : St) : OX := y1z6 (s 1) (s 3) (s 136) (s 137) (s 138) (s 139) s.h
theorem y1y6 : T1 y1gv yd5 (y4 6 ya9 xN) [.t 2] y2n8 := sq y24c fun _ => by kernel_rfl
def y23y (v1 v3 v136 v137 v138 : AV) (h : Heap) : OX :=
ob (y5 .lss v138 v137) fun v139 =>
(y1z6 v1 v3 v136 v137 v138 v139 h)
def y2hx (s : St) : OX := y23y (s 1) (s 3) (s 136) (s 137) (s 138) s.h
theorem y21x : T1 y1q1 yd5 (y4 6 ya9 xN) [.t 2] y2hx := sq y1y6 fun _ => by kernel_rfl
theorem yup (v1 v3 v136 v137 v138 : AV) (h : Heap) : ylv v1 v3 v136 v137 v138 h = (y23y v1 v3 v136 v137 v138 h) :=
  y1r.trans ((y17 _ _ _ (n' := yd5) (fun s => ytx s)).trans ((y21x _).trans (by kernel_rfl)))
theorem y21n : T1 y1ia ya9 xN [.t 2] yd5 := fun s => yt.trans (ytx s)
def y1np (v1 v3 : AV) (h : Heap) : OX :=
ob (evFa 4 v1) fun v135 =>
ob (evLd false 1 v135 h) fun v136 =>
ob (y11 1 v136 h) fun v137 =>
(ylv v1 v3 v136 v137 (AV.int .i64 0) h)
def y60 (s : St) : OX := y1np (s 1) (s 3) s.h
theorem y21y : T1 y1gn ya9 xN [.t 2] y60 := sq y21n fun _ => by kernel_rfl
theorem y1z4 : T0 y1xe [.t 2] y60 := sq y212 y21y
def yff (v1 v3 v92 v93 v94 : AV) (h : Heap) : OX :=
  W E 0 yhg ⟨[(1, v1), (3, v3), (92, v92), (93, v93), (94, v94)], h⟩ y60 (y4 4 y60 xN) (finP [.t 2])
def y8g (s : St) : OX := yff (s 1) (s 3) (s 92) (s 93) (s 94) s.h
theorem yoi : T1 yhg y60 (y4 4 y60 xN) [.t 2] y8g := fun s => yh.trans (by kernel_rfl)
def y12k (v1 v3 v92 v93 v94 : AV) (h : Heap) : OX :=
ob (y5 .add v94 (AV.int .i64 1)) fun v134 =>
(yff v1 v3 v92 v93 v134 h)
def y9w (s : St) : OX := y12k (s 1) (s 3) (s 92) (s 93) (s 94) s.h
theorem y1l0 : T1 yzj y8g (y4 4 y60 xN) [.t 2] y9w := fun _ => by kernel_rfl
def yc8 (v1 v3 v8 v9 v92 v93 v94 : AV) (h : Heap) : OX :=
ob (evFa 0 v9) fun v103 =>
ob (evLd false 1 v103 h) fun v104 =>
ob (y5 .eql v104 (AV.int .i64 32)) fun v105 =>
gb v105 true (some v8) fun v107 =>
gb v105 true (y5 .eql v107 (AV.int .i64 0)) fun v108 =>
gb v105 true (some v108) fun v109 =>
gb v109 false (evFa 3 v1) fun v110 =>
gb v109 false (evLd false 1 v110 h) fun v111 =>
gb v109 false (some v8) fun v112 =>
gb v109 false (y5 .sub v112 (AV.int .i64 1)) fun v113 =>
gb v109 false (yw 9 v111 v113) fun v114 =>
gb v109 false (evLd true 9 v114 h) fun v115 =>
gh v109 false (y6 E (y7 E) 0 none true 24 [v115] h) h fun v116 h3 =>
gb v109 false (evUn .not v116) fun v117 =>
gb v105 true (y8 v109 (AV.bool true) v117) fun v118 =>
ob (y8 v105 v118 (AV.bool false)) fun v119 =>
gb v119 false (evLd true 9 v9 h3) fun v121 =>
gh v119 false (y6 E (y7 E) 0 none true 22 [v121] h3) h3 fun v122 h4 =>
gb v119 false (some v122) fun v123 =>
gb v123 true (evFa 3 v1) fun v124 =>
gb v123 true (evLd false 1 v124 h4) fun v125 =>
gb v123 true (evFa 6 v9) fun v126 =>
gb v123 true (evLd false 1 v126 h4) fun v127 =>
gb v123 true (yw 9 v125 v127) fun v128 =>
gb v123 true (evFa 0 v128) fun v129 =>
gb v123 true (evLd false 1 v129 h4) fun v130 =>
gb v123 true (y5 .eql v130 (AV.int .i64 32)) fun v131 =>
gb v119 false (y8 v123 v131 (AV.bool false)) fun v132 =>
ob (y8 v119 (AV.bool true) v132) fun v133 =>
cnd v133
 ((yc h4 (AV.int .i64 80)))
 ((y12k v1 v3 v92 v93 v94 h4))
def y2b0 (s : St) : OX := yc8 (s 1) (s 3) (s 8) (s 9) (s 92) (s 93) (s 94) s.h
theorem y1m1 : T1 y16v y9w (y4 5 y9w (y4 4 y60 xN)) [.t 2] y2b0 := fun _ => by kernel_rfl
def y14k (v1 v3 v8 v9 v92 v93 v94 : AV) (h : Heap) : OX :=
ob (evLd true 5 v1 h) fun v99 =>
ob (evLd true 9 v9 h) fun v100 =>
oh (y6 E (y7 E) 0 none true 63 [v99, v100] h) fun v101 h5 =>
ob (evUn .not v101) fun v102 =>
cnd v102
 ((yc h5 (AV.int .i64 80)))
 ((yc8 v1 v3 v8 v9 v92 v93 v94 h5))
def y2d3 (s : St) : OX := y14k (s 1) (s 3) (s 8) (s 9) (s 92) (s 93) (s 94) s.h
theorem y1x0 : T1 y169 y9w (y4 5 y9w (y4 4 y60 xN)) [.t 2] y2d3 := sq y1m1 fun _ => by kernel_rfl
def yr0 (v1 v3 v92 v93 v94 : AV) (h : Heap) : OX :=
ob (yw 9 v92 v94) fun v97 =>
ob (evLd true 9 v97 h) fun v98 =>
oh (newC 0 (some 1) [(.int .i64 0), (.int .i64 0), (.int .i64 0), (.int .i64 0), (.int .i64 0), (.int .i64 0), (.int .i64 0), (.str []), .nils] h) fun v9 h6 =>
oh (evSt 9 v9 v98 h6) fun _ h7 =>
(y14k v1 v3 v94 v9 v92 v93 v94 h7)
def ywg (s : St) : OX := yr0 (s 1) (s 3) (s 92) (s 93) (s 94) s.h
theorem y1ks : T1 y16q y9w (y4 5 y9w (y4 4 y60 xN)) [.t 2] ywg := sq y1x0 fun _ => by kernel_rfl
theorem y1u3 : T1 y18f y9w (y4 4 y60 xN) [.t 2] ywg := fun s => yt.trans (y1ks s)
theorem y1m4 : T1 y12f y8g (y4 4 y60 xN) [.t 2] ywg := sq y1l0 y1u3
def y120 (v1 v3 v92 v93 v94 v95 : AV) (h : Heap) : OX :=
cnd v95
 ((yr0 v1 v3 v92 v93 v94 h))
 ((y1np v1 v3 h))
def y2h2 (s : St) : OX := y120 (s 1) (s 3) (s 92) (s 93) (s 94) (s 95) s.h
theorem y1h3 : T1 y192 y8g (y4 4 y60 xN) [.t 2] y2h2 := sq y1m4 fun _ => by kernel_rfl
def y06 (v1 v3 v92 v93 v94 : AV) (h : Heap) : OX :=
ob (y5 .lss v94 v93) fun v95 =>
(y120 v1 v3 v92 v93 v94 v95 h)
def y2dm (s : St) : OX := y06 (s 1) (s 3) (s 92) (s 93) (s 94) s.h
theorem y1xb : T1 y13a y8g (y4 4 y60 xN) [.t 2] y2dm := sq y1h3 fun _ => by kernel_rfl
theorem yog (v1 v3 v92 v93 v94 : AV) (h : Heap) : yff v1 v3 v92 v93 v94 h = (y06 v1 v3 v92 v93 v94 h) :=
  y1r.trans ((y17 _ _ _ (n' := y8g) (fun s => yoi s)).trans ((y1xb _).trans (by kernel_rfl)))
theorem y1o0 : T1 y167 y60 xN [.t 2] y8g := fun s => yt.trans (yoi s)
def yq9 (v1 v3 : AV) (h : Heap) : OX :=
ob (evFa 3 v1) fun v91 =>
ob (evLd false 1 v91 h) fun v92 =>
ob (y11 1 v92 h) fun v93 =>
(yff v1 v3 v92 v93 (AV.int .i64 0) h)
def y5x (s : St) : OX := yq9 (s 1) (s 3) s.h
theorem y1ff : T1 yzp y60 xN [.t 2] y5x := sq y1o0 fun _ => by kernel_rfl
theorem y1vj : T0 y13u [.t 2] y5x := sq y1z4 y1ff
def yez (v1 v3 v62 v63 v64 : AV) (h : Heap) : OX :=
  W E 0 yj4 ⟨[(1, v1), (3, v3), (62, v62), (63, v63), (64, v64)], h⟩ y5x (y4 2 y5x xN) (finP [.t 2])
def y8k (s : St) : OX := yez (s 1) (s 3) (s 62) (s 63) (s 64) s.h
theorem yna : T1 yj4 y5x (y4 2 y5x xN) [.t 2] y8k := fun s => yh.trans (by kernel_rfl)
def y1q0 (v1 v3 v62 v63 v64 : AV) (h : Heap) : OX :=
ob (y5 .add v64 (AV.int .i64 1)) fun v90 =>
(yez v1 v3 v62 v63 v90 h)
def y2cg (s : St) : OX := y1q0 (s 1) (s 3) (s 62) (s 63) (s 64) s.h
theorem y1l5 : T1 y14w y8k (y4 2 y5x xN) [.t 2] y2cg := fun _ => by kernel_rfl
def yi9 (v1 v3 v62 v63 v64 : AV) (h : Heap) : OX :=
ob (yw 1 v62 v64) fun v67 =>
ob (evLd false 1 v67 h) fun v68 =>
ob (y5 .lss v68 (AV.int .i64 0)) fun v70 =>
gb v70 false (some v68) fun v72 =>
gb v70 false (evFa 0 v1) fun v73 =>
gb v70 false (evLd false 1 v73 h) fun v74 =>
gb v70 false (y11 1 v74 h) fun v75 =>
gb v70 false (y5 .geq v72 v75) fun v76 =>
ob (y8 v70 (AV.bool true) v76) fun v77 =>
gb v77 false (evFa 1 v1) fun v79 =>
gb v77 false (evLd false 1 v79 h) fun v80 =>
gb v77 false (some v64) fun v81 =>
gb v77 false (ycc 1 v80 none (some v81)) fun v82 =>
gb v77 false (some v68) fun v83 =>
gh v77 false (y6 E (y7 E) 0 none true 46 [v82, v83] h) h fun v84 h8 =>
ob (y8 v77 (AV.bool true) v84) fun v85 =>
gb v85 false (some v64) fun v87 =>
gb v85 false (y5 .gtr v87 (AV.int .i64 20)) fun v88 =>
ob (y8 v85 (AV.bool true) v88) fun v89 =>
cnd v89
 ((yc h8 (AV.int .i64 80)))
 ((y1q0 v1 v3 v62 v63 v64 h8))
def y2g4 (s : St) : OX := yi9 (s 1) (s 3) (s 62) (s 63) (s 64) s.h
theorem y1hc : T1 y185 y8k (y4 2 y5x xN) [.t 2] y2g4 := sq y1l5 fun _ => by kernel_rfl
def yzx (v1 v3 v62 v63 v64 v65 : AV) (h : Heap) : OX :=
cnd v65
 ((yi9 v1 v3 v62 v63 v64 h))
 ((yq9 v1 v3 h))
def y2cw (s : St) : OX := yzx (s 1) (s 3) (s 62) (s 63) (s 64) (s 65) s.h
theorem y1rg : T1 yz8 y8k (y4 2 y5x xN) [.t 2] y2cw := sq y1hc fun _ => by kernel_rfl
def yyn (v1 v3 v62 v63 v64 : AV) (h : Heap) : OX :=
ob (y5 .lss v64 v63) fun v65 =>
(yzx v1 v3 v62 v63 v64 v65 h)
def y2ba (s : St) : OX := yyn (s 1) (s 3) (s 62) (s 63) (s 64) s.h
theorem y1q6 : T1 y174 y8k (y4 2 y5x xN) [.t 2] y2ba := sq y1rg fun _ => by kernel_rfl
theorem yl5 (v1 v3 v62 v63 v64 : AV) (h : Heap) : yez v1 v3 v62 v63 v64 h = (yyn v1 v3 v62 v63 v64 h) :=
  y1r.trans ((y17 _ _ _ (n' := y8k) (fun s => yna s)).trans ((y1q6 _).trans (by kernel_rfl)))
theorem y1vr : T1 y12u y5x xN [.t 2] y8k := fun s => yt.trans (yna s)
def yqm (v1 v3 : AV) (h : Heap) : OX :=
ob (evFa 1 v1) fun v61 =>
ob (evLd false 1 v61 h) fun v62 =>
ob (y11 1 v62 h) fun v63 =>
(yez v1 v3 v62 v63 (AV.int .i64 0) h)
def y5p (s : St) : OX := yqm (s 1) (s 3) s.h
theorem y1i7 : T1 y16u y5x xN [.t 2] y5p := sq y1vr fun _ => by kernel_rfl
theorem y1m3 : T0 y13e [.t 2] y5p := sq y1vj y1i7
def yf0 (v1 v3 v48 v49 v50 : AV) (h : Heap) : OX :=
  W E 0 yjf ⟨[(1, v1), (3, v3), (48, v48), (49, v49), (50, v50)], h⟩ y5p (y4 0 y5p xN) (finP [.t 2])
def y85 (s : St) : OX := yf0 (s 1) (s 3) (s 48) (s 49) (s 50) s.h
theorem ylw : T1 yjf y5p (y4 0 y5p xN) [.t 2] y85 := fun s => yh.trans (by kernel_rfl)
def y1ts (v1 v3 v48 v49 v50 : AV) (h : Heap) : OX :=
ob (y5 .add v50 (AV.int .i64 1)) fun v60 =>
(yf0 v1 v3 v48 v49 v60 h)
def y2fk (s : St) : OX := y1ts (s 1) (s 3) (s 48) (s 49) (s 50) s.h
theorem y1m9 : T1 yya y85 (y4 0 y5p xN) [.t 2] y2fk := fun _ => by kernel_rfl
def yqz (v1 v3 v48 v49 v50 : AV) (h : Heap) : OX :=
ob (yw 1 v48 v50) fun v52 =>
ob (evLd false 1 v52 h) fun v53 =>
ob (y5 .lss v53 (AV.int .i64 1)) fun v55 =>
gb v55 false (some v53) fun v57 =>
gb v55 false (y5 .gtr v57 (AV.int .i64 3)) fun v58 =>
ob (y8 v55 (AV.bool true) v58) fun v59 =>
cnd v59
 ((yc h (AV.int .i64 80)))
 ((y1ts v1 v3 v48 v49 v50 h))
def y2d1 (s : St) : OX := yqz (s 1) (s 3) (s 48) (s 49) (s 50) s.h
theorem y1eq : T1 y19p y85 (y4 0 y5p xN) [.t 2] y2d1 := sq y1m9 fun _ => by kernel_rfl
def y112 (v1 v3 v48 v49 v50 v51 : AV) (h : Heap) : OX :=
cnd v51
 ((yqz v1 v3 v48 v49 v50 h))
 ((yqm v1 v3 h))
def y292 (s : St) : OX := y112 (s 1) (s 3) (s 48) (s 49) (s 50) (s 51) s.h
theorem y1h7 : T1 y15a y85 (y4 0 y5p xN) [.t 2] y292 := sq y1eq fun _ => by kernel_rfl
def y188 (v1 v3 v48 v49 v50 : AV) (h : Heap) : OX :=
ob (y5 .lss v50 v49) fun v51 =>
(y112 v1 v3 v48 v49 v50 v51 h)
def y2eu (s : St) : OX := y188 (s 1) (s 3) (s 48) (s 49) (s 50) s.h
theorem y1io : T1 y16c y85 (y4 0 y5p xN) [.t 2] y2eu := sq y1h7 fun _ => by kernel_rfl
theorem ymq (v1 v3 v48 v49 v50 : AV) (h : Heap) : yf0 v1 v3 v48 v49 v50 h = (y188 v1 v3 v48 v49 v50 h) :=
  y1r.trans ((y17 _ _ _ (n' := y85) (fun s => ylw s)).trans ((y1io _).trans (by kernel_rfl)))
theorem y1eg : T1 y16j y5p xN [.t 2] y85 := fun s => yt.trans (ylw s)
def ylu (v1 v3 : AV) (h : Heap) : OX :=
ob (evFa 0 v1) fun v47 =>
ob (evLd false 1 v47 h) fun v48 =>
ob (y11 1 v48 h) fun v49 =>
(yf0 v1 v3 v48 v49 (AV.int .i64 0) h)
def y1en (s : St) : OX := ylu (s 1) (s 3) s.h
theorem y1xk : T1 y198 y5p xN [.t 2] y1en := sq y1eg fun _ => by kernel_rfl
theorem y1ue : T0 y14p [.t 2] y1en := sq y1m3 y1xk
def yec (v1 v3 : AV) (h : Heap) : OX :=
ob (y5 .lss v3 (AV.int .i64 1)) fun v16 =>
gb v16 false (some v3) fun v18 =>
gb v16 false (y5 .gtr v18 (AV.int .i64 20000)) fun v19 =>
ob (y8 v16 (AV.bool true) v19) fun v20 =>
gb v20 false (evFa 0 v1) fun v22 =>
gb v20 false (evLd false 1 v22 h) fun v23 =>
gb v20 false (y11 1 v23 h) fun v24 =>
gb v20 false (y5 .gtr v24 (AV.int .i64 20000)) fun v25 =>
ob (y8 v20 (AV.bool true) v25) fun v26 =>
gb v26 false (evFa 2 v1) fun v28 =>
gb v26 false (evLd false 1 v28 h) fun v29 =>
gb v26 false (y5 .lss v29 (AV.int .i64 0)) fun v30 =>
ob (y8 v26 (AV.bool true) v30) fun v31 =>
gb v31 false (evFa 2 v1) fun v33 =>
gb v31 false (evLd false 1 v33 h) fun v34 =>
gb v31 false (y5 .gtr v34 (AV.int .i64 3)) fun v35 =>
ob (y8 v31 (AV.bool true) v35) fun v36 =>
gb v36 false (evFa 3 v1) fun v38 =>
gb v36 false (evLd false 1 v38 h) fun v39 =>
gb v36 false (some v3) fun v40 =>
gb v36 false (y5 .sub v40 (AV.int .i64 1)) fun v41 =>
gb v36 false (yw 9 v39 v41) fun v42 =>
gb v36 false (evLd true 9 v42 h) fun v43 =>
gh v36 false (y6 E (y7 E) 0 none true 24 [v43] h) h fun v44 h9 =>
gb v36 false (evUn .not v44) fun v45 =>
ob (y8 v36 (AV.bool true) v45) fun v46 =>
cnd v46
 ((yc h9 (AV.int .i64 80)))
 ((ylu v1 v3 h9))
def y2gk (s : St) : OX := yec (s 1) (s 3) s.h
theorem y1mg : T0 y12x [.t 2] y2gk := sq y1ue fun _ => by kernel_rfl
def ydr (v1 : AV) (h : Heap) : OX :=
ob (evFa 3 v1) fun v12 =>
ob (evLd false 1 v12 h) fun v13 =>
ob (y11 1 v13 h) fun v14 =>
(yec v1 v14 h)
def y2fd (s : St) : OX := ydr (s 1) s.h
theorem y1iz : T0 y186 [.t 2] y2fd := sq y1mg fun _ => by kernel_rfl
def ycd (v0 : AV) (h : Heap) : OX :=
oh (newC 0 (some 0) (cellsOf v0) h) fun v1 h10 =>
(ydr v1 h10)
def y2gb (s : St) : OX := ycd (s 0) s.h
theorem y1pf : T0 y18h [.t 2] y2gb := sq y1iz fun _ => by kernel_rfl
@[simp] theorem y2tb : E.pure 8 = true := rfl
theorem y2rl (v0 : AV) : (y7 E).p 8 [v0] = ycd v0 [⟨0, .dead⟩, ⟨0, .dead⟩, ⟨0, .dead⟩] :=
  (yv (cf := y2j5) (by kernel_rfl) rfl).trans ((y1pf _).trans (by kernel_rfl))
@[simp] theorem y2on : E.pure 117 = true := rfl
def q6_1 (v1 v2 : AV) (h : Heap) : OX :=
ob (evLd true 5 v1 h) fun v40 =>
oh (evSt 5 v2 v40 h) fun _ h1 =>
(ob (evLd true 5 v2 h1) fun r0 =>
  yc h1 r0)
def y81 (s : St) : OX := q6_1 (s 1) (s 2) s.h
theorem y2e0 : T0 y268 [.cell 2 true 5] y81 := fun _ => by kernel_rfl
def yq5 (v1 v2 v3 : AV) (h : Heap) : OX :=
  W E 0 yvu ⟨[(1, v1), (2, v2), (3, v3)], h⟩ y81 (y4 0 y81 xN) (finP [.cell 2 true 5])
def y37 (s : St) : OX := yq5 (s 1) (s 2) (s 3) s.h
theorem y0g : T1 yvu y81 (y4 0 y81 xN) [.cell 2 true 5] y37 := fun s => yh.trans (by kernel_rfl)
def y1do (v1 v2 v3 v4 v17 v18 v19 : AV) (h : Heap) : OX :=
  W E 0 yw1 ⟨[(1, v1), (2, v2), (3, v3), (4, v4), (17, v17), (18, v18), (19, v19)], h⟩ y37 (y4 2 y37 (y4 1 y37 (y4 0 y81 xN))) (finP [.cell 2 true 5])
def yhb (s : St) : OX := y1do (s 1) (s 2) (s 3) (s 4) (s 17) (s 18) (s 19) s.h
theorem y19e : T1 yw1 y37 (y4 2 y37 (y4 1 y37 (y4 0 y81 xN))) [.cell 2 true 5] yhb := fun s => yh.trans (by kernel_rfl)
def q6_4 (v1 v2 v3 v4 v17 v18 v19 : AV) (h : Heap) : OX :=
ob (y5 .add v19 (AV.int .i64 1)) fun v39 =>
(y1do v1 v2 v3 v4 v17 v18 v39 h)
def y2qe (s : St) : OX := q6_4 (s 1) (s 2) (s 3) (s 4) (s 17) (s 18) (s 19) s.h
theorem y2eg : T1 y26u yhb (y4 2 y37 (y4 1 y37 (y4 0 y81 xN))) [.cell 2 true 5] y2qe := fun _ => by kernel_rfl
def q6_5 (v1 v2 v3 v4 v17 v18 v19 : AV) (h : Heap) : OX :=
ob (yw 9 v17 v19) fun v22 =>
ob (evLd true 9 v22 h) fun v23 =>
oh (newC 0 (some 10) [(.int .i64 0), (.int .i64 0), (.int .i64 0), (.int .i64 0), (.int .i64 0), (.int .i64 0), (.int .i64 0), (.str []), .nils] h) fun v6 h2 =>
oh (evSt 9 v6 v23 h2) fun _ h3 =>
ob (evLd true 9 v6 h3) fun v24 =>
oh (y6 E (y7 E) 0 none true 20 [v24] h3) fun v25 h4 =>
gb v25 true (some v4) fun v27 =>
gb v25 true (some v19) fun v28 =>
gb v25 true (evFa 1 v6) fun v29 =>
gb v25 true (evLd false 1 v29 h4) fun v30 =>
gh v25 true (y6 E (y7 E) 0 none true 87 [v27, v28, v30] h4) h4 fun v31 h5 =>
gb v25 true (evUn .not v31) fun v32 =>
ob (y8 v25 v32 (AV.bool false)) fun v33 =>
cnd v33
 (ob (evFa 3 v1) fun v34 =>
ob (evLd false 1 v34 h5) fun v35 =>
ob (y1b [(.int .i64 0), (.int .i64 0), (.int .i64 0), (.int .i64 0), (.int .i64 0), (.int .i64 0), (.int .i64 0), (.str []), .nils] [(0, 1, (AV.int .i64 33))]) fun v37 =>
ob (yw 9 v35 v19) fun v38 =>
oh (evSt 9 v38 v37 h5) fun _ h6 =>
(q6_4 v1 v2 (AV.bool true) v4 v17 v18 v19 h6))
 ((q6_4 v1 v2 v3 v4 v17 v18 v19 h5))
def y2ps (s : St) : OX := q6_5 (s 1) (s 2) (s 3) (s 4) (s 17) (s 18) (s 19) s.h
theorem y2b4 : T1 y26d yhb (y4 2 y37 (y4 1 y37 (y4 0 y81 xN))) [.cell 2 true 5] y2ps := sq y2eg fun _ => by kernel_rfl
def q6_6 (v1 v2 v3 v4 v17 v18 v19 v20 : AV) (h : Heap) : OX :=
cnd v20
 ((q6_5 v1 v2 v3 v4 v17 v18 v19 h))
 ((yq5 v1 v2 v3 h))
def y2pr (s : St) : OX := q6_6 (s 1) (s 2) (s 3) (s 4) (s 17) (s 18) (s 19) (s 20) s.h
theorem y2d2 : T1 y28c yhb (y4 2 y37 (y4 1 y37 (y4 0 y81 xN))) [.cell 2 true 5] y2pr := sq y2b4 fun _ => by kernel_rfl
def q6_7 (v1 v2 v3 v4 v17 v18 v19 : AV) (h : Heap) : OX :=
ob (y5 .lss v19 v18) fun v20 =>
(q6_6 v1 v2 v3 v4 v17 v18 v19 v20 h)
def y2py (s : St) : OX := q6_7 (s 1) (s 2) (s 3) (s 4) (s 17) (s 18) (s 19) s.h
theorem y2d8 : T1 y27c yhb (y4 2 y37 (y4 1 y37 (y4 0 y81 xN))) [.cell 2 true 5] y2py := sq y2d2 fun _ => by kernel_rfl
theorem y16w (v1 v2 v3 v4 v17 v18 v19 : AV) (h : Heap) : y1do v1 v2 v3 v4 v17 v18 v19 h = (q6_7 v1 v2 v3 v4 v17 v18 v19 h) :=
  y1r.trans ((y17 _ _ _ (n' := yhb) (fun s => y19e s)).trans ((y2d8 _).trans (by kernel_rfl)))
theorem y2c2 : T1 y26m y37 (y4 1 y37 (y4 0 y81 xN)) [.cell 2 true 5] yhb := fun s => yt.trans (y19e s)
def q6_9 (v1 v2 v3 v4 : AV) (h : Heap) : OX :=
ob (evFa 3 v1) fun v16 =>
ob (evLd false 1 v16 h) fun v17 =>
ob (y11 1 v17 h) fun v18 =>
(y1do v1 v2 v3 v4 v17 v18 (AV.int .i64 0) h)
def y2s6 (s : St) : OX := q6_9 (s 1) (s 2) (s 3) (s 4) s.h
theorem y2g3 : T1 y27n y37 (y4 1 y37 (y4 0 y81 xN)) [.cell 2 true 5] y2s6 := sq y2c2 fun _ => by kernel_rfl
def y2cq (v1 v2 v3 : AV) (h : Heap) : OX :=
ob (evLd true 5 v1 h) fun v14 =>
oh (y6 E (y7 E) 0 none true 75 [v14] h) fun v15 h7 =>
(q6_9 v1 v2 v3 v15 h7)
def y2kx (s : St) : OX := y2cq (s 1) (s 2) (s 3) s.h
theorem y21d : T1 y1s4 y37 (y4 1 y37 (y4 0 y81 xN)) [.cell 2 true 5] y2kx := sq y2g3 fun _ => by kernel_rfl
def y2ez (v1 v2 : AV) (h : Heap) : OX :=
(y2cq v1 v2 (AV.bool false) h)
def y26n (s : St) : OX := y2ez (s 1) (s 2) s.h
theorem y228 : T1 y1j3 y37 (y4 1 y37 (y4 0 y81 xN)) [.cell 2 true 5] y26n := sq y21d fun _ => by kernel_rfl
theorem y1z2 : T1 y1wf y37 (y4 0 y81 xN) [.cell 2 true 5] y26n := fun s => yt.trans (y228 s)
def y25j (v1 v2 v3 : AV) (h : Heap) : OX :=
cnd v3
 ((y2ez v1 v2 h))
 ((q6_1 v1 v2 h))
def y2hy (s : St) : OX := y25j (s 1) (s 2) (s 3) s.h
theorem y20g : T1 y1st y37 (y4 0 y81 xN) [.cell 2 true 5] y2hy := sq y1z2 fun _ => by kernel_rfl
theorem y19c (v1 v2 v3 : AV) (h : Heap) : yq5 v1 v2 v3 h = (y25j v1 v2 v3 h) :=
  y1r.trans ((y17 _ _ _ (n' := y37) (fun s => y0g s)).trans ((y20g _).trans (by kernel_rfl)))
theorem y1zp : T1 y1ne y81 xN [.cell 2 true 5] y37 := fun s => yt.trans (y0g s)
def y2a6 (v1 v2 : AV) (h : Heap) : OX :=
(yq5 v1 v2 (AV.bool true) h)
def y26t (s : St) : OX := y2a6 (s 1) (s 2) s.h
theorem y217 : T1 y1vx y81 xN [.cell 2 true 5] y26t := sq y1zp fun _ => by kernel_rfl
theorem y1yz : T0 y1pz [.cell 2 true 5] y26t := sq y2e0 y217
def y1jq (v1 v2 : AV) (h : Heap) : OX :=
ob (evLd true 5 v1 h) fun v9 =>
oh (y6 E (y7 E) 0 none true 8 [v9] h) fun v10 h8 =>
ob (y5 .neq v10 (AV.int .i64 0)) fun v11 =>
cnd v11
 (ob (evLd true 5 v1 h8) fun v12 =>
oh (evSt 5 v2 v12 h8) fun _ h9 =>
(ob (evLd true 5 v2 h9) fun r0 =>
  yc h9 r0))
 ((y2a6 v1 v2 h8))
def y2i9 (s : St) : OX := y1jq (s 1) (s 2) s.h
theorem y222 : T0 y1nz [.cell 2 true 5] y2i9 := sq y1yz fun _ => by kernel_rfl
def y2dh (v1 v2 : AV) (h : Heap) : OX :=
ob (evLd true 5 v1 h) fun v7 =>
oh (y6 E (y7 E) 0 (some 2) false 13 [v7] h) fun v8 h10 =>
oh (evSt 5 v1 v8 h10) fun _ h11 =>
(y1jq v1 v2 h11)
def y2lj (s : St) : OX := y2dh (s 1) (s 2) s.h
theorem y1y5 : T0 y1n8 [.cell 2 true 5] y2lj := sq y222 fun _ => by kernel_rfl
def y2h5 (v0 : AV) (h : Heap) : OX :=
oh (newC 0 (some 0) (cellsOf v0) h) fun v1 h12 =>
oh (newC 0 (some 1) [.nils, .nils, (.int .i64 0), .nils, .nils] h12) fun v2 h13 =>
(y2dh v1 v2 h13)
def y2kb (s : St) : OX := y2h5 (s 0) s.h
theorem y22w : T0 y1hm [.cell 2 true 5] y2kb := sq y1y5 fun _ => by kernel_rfl
@[simp] theorem y2ou : E.pure 118 = true := rfl
theorem x_q6 (v0 : AV) : (y7 E).p 118 [v0] = y2h5 v0 [⟨0, .dead⟩, ⟨0, .dead⟩, ⟨0, .dead⟩, ⟨0, .dead⟩, ⟨0, .dead⟩, ⟨0, .dead⟩, ⟨0, .dead⟩, ⟨0, .dead⟩, ⟨0, .dead⟩, ⟨0, .dead⟩, ⟨0, .dead⟩] :=
  (yv (cf := c_q6) (by kernel_rfl) rfl).trans ((y22w _).trans (by kernel_rfl))
def yw8 (v0 : AV) (h : Heap) : OX :=
oh (newC 0 (some 0) (cellsOf v0) h) fun v1 h1 =>
ob (evFa 3 v1) fun v3 =>
ob (evLd false 1 v3 h1) fun v4 =>
ob (y11 1 v4 h1) fun v5 =>
ob (y5 .leq v5 (AV.int .i64 90)) fun v6 =>
gb v6 true (evFa 0 v1) fun v8 =>
gb v6 true (evLd false 1 v8 h1) fun v9 =>
gb v6 true (y11 1 v9 h1) fun v10 =>
gb v6 true (y5 .leq v10 (AV.int .i64 20)) fun v11 =>
ob (y8 v6 v11 (AV.bool false)) fun v12 =>
gb v12 true (evFa 4 v1) fun v14 =>
gb v12 true (evLd false 1 v14 h1) fun v15 =>
gb v12 true (y11 1 v15 h1) fun v16 =>
gb v12 true (y5 .leq v16 (AV.int .i64 12)) fun v17 =>
ob (y8 v12 v17 (AV.bool false)) fun v18 =>
gb v18 true (evLd true 5 v1 h1) fun v20 =>
gh v18 true (y6 E (y7 E) 0 none true 29 [v20] h1) h1 fun v21 h2 =>
gb v18 true (y5 .eql v21 (AV.int .i64 0)) fun v22 =>
ob (y8 v18 v22 (AV.bool false)) fun v23 =>
(yc h2 v23)
def y2mn (s : St) : OX := yw8 (s 0) s.h
theorem y24b : T0 y1u7 [.t 2] y2mn := fun _ => by kernel_rfl
@[simp] theorem y2os : E.pure 119 = true := rfl
theorem y2q0 (v0 : AV) : (y7 E).p 119 [v0] = yw8 v0 [⟨0, .dead⟩] :=
  (yv (cf := y2nt) (by kernel_rfl) rfl).trans ((y24b _).trans (by kernel_rfl))
def y12g (v2 v5 : AV) (h : Heap) : OX :=
ob (evLd true 5 v2 h) fun v70 =>
ob (evLd true 5 v5 h) fun v71 =>
oh (y6 E (y7 E) 0 none true 14 [v70, v71] h) fun v72 h1 =>
(yc h1 v72)
def y4e (s : St) : OX := y12g (s 2) (s 5) s.h
theorem y1ni : T0 yy6 [.t 4] y4e := fun _ => by kernel_rfl
def yfd (v2 v3 v5 v6 : AV) (h : Heap) : OX :=
  W E 0 ykq ⟨[(2, v2), (3, v3), (5, v5), (6, v6)], h⟩ y4e (y4 0 y4e xN) (finP [.t 4])
def ybb (s : St) : OX := yfd (s 2) (s 3) (s 5) (s 6) s.h
theorem ymo : T1 ykq y4e (y4 0 y4e xN) [.t 4] ybb := fun s => yh.trans (by kernel_rfl)
def yth (v2 v3 v5 v6 : AV) (h : Heap) : OX :=
ob (y5 .add v6 (AV.int .i64 1)) fun v27 =>
(yfd v2 v3 v5 v27 h)
def y7b (s : St) : OX := yth (s 2) (s 3) (s 5) (s 6) s.h
theorem y1pj : T1 y18a ybb (y4 0 y4e xN) [.t 4] y7b := fun _ => by kernel_rfl
def yqd (v2 v3 v5 v6 v7 : AV) (h : Heap) : OX :=
ob (evFa 0 v7) fun v51 =>
ob (evLd false 1 v51 h) fun v52 =>
oh (y6 E (y7 E) 0 none true 21 [v52] h) fun v53 h2 =>
gb v53 true (evLd true 5 v2 h2) fun v55 =>
gb v53 true (some v6) fun v56 =>
gb v53 true (evFa 1 v7) fun v57 =>
gb v53 true (evLd false 1 v57 h2) fun v58 =>
gh v53 true (y6 E (y7 E) 0 none true 90 [v55, v56, v58] h2) h2 fun v59 h3 =>
gb v53 true (evUn .not v59) fun v60 =>
gb v53 true (some v60) fun v61 =>
gb v61 false (evLd true 5 v3 h3) fun v62 =>
gb v61 false (some v6) fun v63 =>
gb v61 false (evFa 1 v7) fun v64 =>
gb v61 false (evLd false 1 v64 h3) fun v65 =>
gh v61 false (y6 E (y7 E) 0 none true 90 [v62, v63, v65] h3) h3 fun v66 h4 =>
gb v61 false (evUn .not v66) fun v67 =>
gb v53 true (y8 v61 (AV.bool true) v67) fun v68 =>
ob (y8 v53 v68 (AV.bool false)) fun v69 =>
cnd v69
 ((yc h4 (AV.bool false)))
 ((yth v2 v3 v5 v6 h4))
def y2gr (s : St) : OX := yqd (s 2) (s 3) (s 5) (s 6) (s 7) s.h
theorem y1ln : T1 y152 y7b (y4 1 y7b (y4 0 y4e xN)) [.t 4] y2gr := fun _ => by kernel_rfl
def ykn (v2 v3 v5 v6 v7 v8 : AV) (h : Heap) : OX :=
ob (evFa 0 v8) fun v38 =>
ob (evLd false 1 v38 h) fun v39 =>
ob (y5 .eql v39 (AV.int .i64 33)) fun v40 =>
gb v40 true (evFa 0 v7) fun v42 =>
gb v40 true (evLd false 1 v42 h) fun v43 =>
gh v40 true (y6 E (y7 E) 0 none true 21 [v43] h) h fun v44 h5 =>
ob (y8 v40 v44 (AV.bool false)) fun v45 =>
cnd v45
 (ob (evFa 3 v5) fun v46 =>
ob (evLd false 1 v46 h5) fun v47 =>
ob (evLd true 9 v7 h5) fun v49 =>
ob (yw 9 v47 v6) fun v50 =>
oh (evSt 9 v50 v49 h5) fun _ h6 =>
(yth v2 v3 v5 v6 h6))
 ((yqd v2 v3 v5 v6 v7 h5))
def y2bx (s : St) : OX := ykn (s 2) (s 3) (s 5) (s 6) (s 7) (s 8) s.h
theorem y1ns : T1 y14o y7b (y4 1 y7b (y4 0 y4e xN)) [.t 4] y2bx := sq y1ln fun _ => by kernel_rfl
def y1ke (v2 v3 v5 v6 v7 : AV) (h : Heap) : OX :=
ob (evFa 3 v3) fun v33 =>
ob (evLd false 1 v33 h) fun v34 =>
ob (yw 9 v34 v6) fun v36 =>
ob (evLd true 9 v36 h) fun v37 =>
oh (newC 0 (some 5) [(.int .i64 0), (.int .i64 0), (.int .i64 0), (.int .i64 0), (.int .i64 0), (.int .i64 0), (.int .i64 0), (.str []), .nils] h) fun v8 h7 =>
oh (evSt 9 v8 v37 h7) fun _ h8 =>
(ykn v2 v3 v5 v6 v7 v8 h8)
def y2ck (s : St) : OX := y1ke (s 2) (s 3) (s 5) (s 6) (s 7) s.h
theorem y1v8 : T1 y19g y7b (y4 1 y7b (y4 0 y4e xN)) [.t 4] y2ck := sq y1ns fun _ => by kernel_rfl
def y1qz (v2 v3 v5 v6 : AV) (h : Heap) : OX :=
ob (evFa 3 v2) fun v28 =>
ob (evLd false 1 v28 h) fun v29 =>
ob (yw 9 v29 v6) fun v31 =>
ob (evLd true 9 v31 h) fun v32 =>
oh (newC 0 (some 4) [(.int .i64 0), (.int .i64 0), (.int .i64 0), (.int .i64 0), (.int .i64 0), (.int .i64 0), (.int .i64 0), (.str []), .nils] h) fun v7 h9 =>
oh (evSt 9 v7 v32 h9) fun _ h10 =>
(y1ke v2 v3 v5 v6 v7 h10)
def ywm (s : St) : OX := y1qz (s 2) (s 3) (s 5) (s 6) s.h
theorem y1xi : T1 y17e y7b (y4 1 y7b (y4 0 y4e xN)) [.t 4] ywm := sq y1v8 fun _ => by kernel_rfl
theorem y1po : T1 y11g y7b (y4 0 y4e xN) [.t 4] ywm := fun s => yt.trans (y1xi s)
theorem y1it : T1 y13k ybb (y4 0 y4e xN) [.t 4] ywm := sq y1pj y1po
def yig (v2 v3 v5 v6 : AV) (h : Heap) : OX :=
ob (evFa 3 v2) fun v22 =>
ob (evLd false 1 v22 h) fun v23 =>
ob (y11 1 v23 h) fun v24 =>
ob (y5 .lss v6 v24) fun v25 =>
cnd v25
 ((y1qz v2 v3 v5 v6 h))
 ((y12g v2 v5 h))
def y244 (s : St) : OX := yig (s 2) (s 3) (s 5) (s 6) s.h
theorem y1bm : T1 ys6 ybb (y4 0 y4e xN) [.t 4] y244 := sq y1it fun _ => by kernel_rfl
theorem ymg (v2 v3 v5 v6 : AV) (h : Heap) : yfd v2 v3 v5 v6 h = (yig v2 v3 v5 v6 h) :=
  y1r.trans ((y17 _ _ _ (n' := ybb) (fun s => ymo s)).trans ((y1bm _).trans (by kernel_rfl)))
theorem y1cp : T1 yul y4e xN [.t 4] ybb := fun s => yt.trans (ymo s)
def ywo (v2 v3 v5 : AV) (h : Heap) : OX :=
(yfd v2 v3 v5 (AV.int .i64 0) h)
def y0e (s : St) : OX := ywo (s 2) (s 3) (s 5) s.h
theorem y1e3 : T1 yv0 y4e xN [.t 4] y0e := sq y1cp fun _ => by kernel_rfl
theorem y1b2 : T0 yqy [.t 4] y0e := sq y1ni y1e3
def yxx (v2 v3 v5 : AV) (h : Heap) : OX :=
ob (evFa 3 v3) fun v17 =>
ob (evLd false 1 v17 h) fun v18 =>
oh (y2b 0 (some 3) 9 96 AV.nils v18 h) fun v19 h11 =>
ob (evFa 3 v5) fun v20 =>
oh (evSt 1 v20 v19 h11) fun _ h12 =>
(ywo v2 v3 v5 h12)
def y21i (s : St) : OX := yxx (s 2) (s 3) (s 5) s.h
theorem y1b0 : T0 ysp [.t 4] y21i := sq y1b2 fun _ => by kernel_rfl
def ywu (v2 v3 : AV) (h : Heap) : OX :=
ob (evLd true 5 v3 h) fun v16 =>
oh (newC 0 (some 2) [.nils, .nils, (.int .i64 0), .nils, .nils] h) fun v5 h13 =>
oh (evSt 5 v5 v16 h13) fun _ h14 =>
(yxx v2 v3 v5 h14)
def y1yi (s : St) : OX := ywu (s 2) (s 3) s.h
theorem y1ck : T0 yuv [.t 4] y1yi := sq y1b0 fun _ => by kernel_rfl
def yx1 (v2 v3 : AV) (h : Heap) : OX :=
ob (evFa 3 v2) fun v9 =>
ob (evLd false 1 v9 h) fun v10 =>
ob (y11 1 v10 h) fun v11 =>
ob (evFa 3 v3) fun v12 =>
ob (evLd false 1 v12 h) fun v13 =>
ob (y11 1 v13 h) fun v14 =>
ob (y5 .neq v11 v14) fun v15 =>
cnd v15
 ((yc h (AV.bool false)))
 ((ywu v2 v3 h))
def y223 (s : St) : OX := yx1 (s 2) (s 3) s.h
theorem y1bq : T0 yss [.t 4] y223 := sq y1ck fun _ => by kernel_rfl
def yxy (v0 v1 : AV) (h : Heap) : OX :=
oh (newC 0 (some 0) (cellsOf v0) h) fun v2 h15 =>
oh (newC 0 (some 1) (cellsOf v1) h15) fun v3 h16 =>
(yx1 v2 v3 h16)
def y211 (s : St) : OX := yxy (s 0) (s 1) s.h
theorem y1dd : T0 ys1 [.t 4] y211 := sq y1bq fun _ => by kernel_rfl
@[simp] theorem y2oh : E.pure 120 = true := rfl
theorem y2nk (v0 v1 : AV) : (y7 E).p 120 [v0, v1] = yxy v0 v1 [⟨0, .dead⟩, ⟨0, .dead⟩, ⟨0, .dead⟩, ⟨0, .dead⟩, ⟨0, .dead⟩, ⟨0, .dead⟩] :=
  (yv (cf := y28b) (by kernel_rfl) rfl).trans ((y1dd _).trans (by kernel_rfl))
def yho (h : Heap) : OX :=
(yc h (AV.int .i64 0))
def y73 (s : St) : OX := yho s.h
theorem y1ii : T0 y19h [.t 2] y73 := fun _ => by kernel_rfl
def yfb (v1 v3 v8 : AV) (h : Heap) : OX :=
  W E 0 yjg ⟨[(1, v1), (3, v3), (8, v8)], h⟩ y73 (y4 6 y73 xN) (finP [.t 2])
def ybo (s : St) : OX := yfb (s 1) (s 3) (s 8) s.h
theorem yo2 : T1 yjg y73 (y4 6 y73 xN) [.t 2] ybo := fun s => yh.trans (by kernel_rfl)
def yjp (v1 v3 v8 : AV) (h : Heap) : OX :=
ob (y5 .add v8 (AV.int .i64 1)) fun v155 =>
(yfb v1 v3 v155 h)
def y2gg (s : St) : OX := yjp (s 1) (s 3) (s 8) s.h
theorem y1j7 : T1 y195 ybo (y4 6 y73 xN) [.t 2] y2gg := fun _ => by kernel_rfl
def y7m (v1 v3 v8 : AV) (h : Heap) : OX :=
ob (evFa 4 v1) fun v156 =>
ob (evLd false 1 v156 h) fun v157 =>
ob (yw 4 v157 v8) fun v159 =>
ob (evLd true 4 v159 h) fun v160 =>
oh (newC 0 (some 2) [(.int .i64 0), (.int .i64 0), (.int .i64 0), (.str [])] h) fun v9 h1 =>
oh (evSt 4 v9 v160 h1) fun _ h2 =>
ob (evFa 0 v9) fun v161 =>
ob (evLd false 1 v161 h2) fun v162 =>
ob (y5 .lss v162 (AV.int .i64 0)) fun v163 =>
gb v163 false (evFa 0 v9) fun v165 =>
gb v163 false (evLd false 1 v165 h2) fun v166 =>
gb v163 false (evFa 1 v9) fun v167 =>
gb v163 false (evLd false 1 v167 h2) fun v168 =>
gb v163 false (y5 .geq v166 v168) fun v169 =>
ob (y8 v163 (AV.bool true) v169) fun v170 =>
gb v170 false (evFa 1 v9) fun v172 =>
gb v170 false (evLd false 1 v172 h2) fun v173 =>
gb v170 false (some v3) fun v174 =>
gb v170 false (y5 .gtr v173 v174) fun v175 =>
ob (y8 v170 (AV.bool true) v175) fun v176 =>
gb v176 false (evLd true 5 v1 h2) fun v178 =>
gb v176 false (evFa 2 v9) fun v179 =>
gb v176 false (evLd false 1 v179 h2) fun v180 =>
gh v176 false (y6 E (y7 E) 0 none true 49 [v178, v180] h2) h2 fun v181 h3 =>
gb v176 false (evUn .not v181) fun v182 =>
ob (y8 v176 (AV.bool true) v182) fun v183 =>
gb v183 false (evFa 3 v1) fun v185 =>
gb v183 false (evLd false 1 v185 h3) fun v186 =>
gb v183 false (evFa 2 v9) fun v187 =>
gb v183 false (evLd false 1 v187 h3) fun v188 =>
gb v183 false (yw 9 v186 v188) fun v189 =>
gb v183 false (evFa 0 v189) fun v190 =>
gb v183 false (evLd false 1 v190 h3) fun v191 =>
gb v183 false (y5 .neq v191 (AV.int .i64 32)) fun v192 =>
ob (y8 v183 (AV.bool true) v192) fun v193 =>
cnd v193
 ((yc h3 (AV.int .i64 80)))
 ((yjp v1 v3 v8 h3))
def y2dg (s : St) : OX := y7m (s 1) (s 3) (s 8) s.h
theorem y1q4 : T1 y19y ybo (y4 6 y73 xN) [.t 2] y2dg := sq y1j7 fun _ => by kernel_rfl
def y70 (v1 v3 v8 : AV) (h : Heap) : OX :=
ob (evFa 4 v1) fun v150 =>
ob (evLd false 1 v150 h) fun v151 =>
ob (y11 1 v151 h) fun v152 =>
ob (y5 .lss v8 v152) fun v153 =>
cnd v153
 ((y7m v1 v3 v8 h))
 ((yho h))
def y28f (s : St) : OX := y70 (s 1) (s 3) (s 8) s.h
theorem y1px : T1 y03 ybo (y4 6 y73 xN) [.t 2] y28f := sq y1q4 fun _ => by kernel_rfl
theorem ymh (v1 v3 v8 : AV) (h : Heap) : yfb v1 v3 v8 h = (y70 v1 v3 v8 h) :=
  y1r.trans ((y17 _ _ _ (n' := ybo) (fun s => yo2 s)).trans ((y1px _).trans (by kernel_rfl)))
theorem y1vc : T1 yyf y73 xN [.t 2] ybo := fun s => yt.trans (yo2 s)
def yg1 (v1 v3 : AV) (h : Heap) : OX :=
(yfb v1 v3 (AV.int .i64 0) h)
def y6d (s : St) : OX := yg1 (s 1) (s 3) s.h
theorem y1tj : T1 y02 y73 xN [.t 2] y6d := sq y1vc fun _ => by kernel_rfl
theorem y1nn : T0 yzh [.t 2] y6d := sq y1ii y1tj
def yfq (v1 v3 v6 : AV) (h : Heap) : OX :=
  W E 0 yik ⟨[(1, v1), (3, v3), (6, v6)], h⟩ y6d (y4 4 y6d xN) (finP [.t 2])
def ybc (s : St) : OX := yfq (s 1) (s 3) (s 6) s.h
theorem yns : T1 yik y6d (y4 4 y6d xN) [.t 2] ybc := fun s => yh.trans (by kernel_rfl)
def yay (v1 v3 v6 : AV) (h : Heap) : OX :=
ob (y5 .add v6 (AV.int .i64 1)) fun v104 =>
(yfq v1 v3 v104 h)
def y25b (s : St) : OX := yay (s 1) (s 3) (s 6) s.h
theorem y1dy : T1 yt9 ybc (y4 4 y6d xN) [.t 2] y25b := fun _ => by kernel_rfl
def y4y (v1 v3 v6 : AV) (h : Heap) : OX :=
ob (evFa 3 v1) fun v105 =>
ob (evLd false 1 v105 h) fun v106 =>
ob (yw 9 v106 v6) fun v108 =>
ob (evLd true 9 v108 h) fun v109 =>
oh (newC 0 (some 1) [(.int .i64 0), (.int .i64 0), (.int .i64 0), (.int .i64 0), (.int .i64 0), (.int .i64 0), (.int .i64 0), (.str []), .nils] h) fun v7 h4 =>
oh (evSt 9 v7 v109 h4) fun _ h5 =>
ob (evLd true 5 v1 h5) fun v110 =>
ob (evLd true 9 v7 h5) fun v111 =>
oh (y6 E (y7 E) 0 none true 64 [v110, v111] h5) fun v112 h6 =>
ob (evUn .not v112) fun v113 =>
gb v113 false (evFa 0 v7) fun v115 =>
gb v113 false (evLd false 1 v115 h6) fun v116 =>
gb v113 false (y5 .eql v116 (AV.int .i64 32)) fun v117 =>
gb v113 false (some v117) fun v118 =>
gb v118 true (some v6) fun v119 =>
gb v118 true (y5 .eql v119 (AV.int .i64 0)) fun v120 =>
gb v118 true (some v120) fun v121 =>
gb v121 false (evFa 3 v1) fun v122 =>
gb v121 false (evLd false 1 v122 h6) fun v123 =>
gb v121 false (some v6) fun v124 =>
gb v121 false (y5 .sub v124 (AV.int .i64 1)) fun v125 =>
gb v121 false (yw 9 v123 v125) fun v126 =>
gb v121 false (evFa 0 v126) fun v127 =>
gb v121 false (evLd false 1 v127 h6) fun v128 =>
gh v121 false (y6 E (y7 E) 0 none true 25 [v128] h6) h6 fun v129 h7 =>
gb v121 false (evUn .not v129) fun v130 =>
gb v118 true (y8 v121 (AV.bool true) v130) fun v131 =>
gb v113 false (y8 v118 v131 (AV.bool false)) fun v132 =>
ob (y8 v113 (AV.bool true) v132) fun v133 =>
gb v133 false (evFa 0 v7) fun v135 =>
gb v133 false (evLd false 1 v135 h7) fun v136 =>
gh v133 false (y6 E (y7 E) 0 none true 23 [v136] h7) h7 fun v137 h8 =>
gb v133 false (some v137) fun v138 =>
gb v138 true (evFa 3 v1) fun v139 =>
gb v138 true (evLd false 1 v139 h8) fun v140 =>
gb v138 true (evFa 6 v7) fun v141 =>
gb v138 true (evLd false 1 v141 h8) fun v142 =>
gb v138 true (yw 9 v140 v142) fun v143 =>
gb v138 true (evFa 0 v143) fun v144 =>
gb v138 true (evLd false 1 v144 h8) fun v145 =>
gb v138 true (y5 .eql v145 (AV.int .i64 32)) fun v146 =>
gb v133 false (y8 v138 v146 (AV.bool false)) fun v147 =>
ob (y8 v133 (AV.bool true) v147) fun v148 =>
cnd v148
 ((yc h8 (AV.int .i64 80)))
 ((yay v1 v3 v6 h8))
def y1zi (s : St) : OX := y4y (s 1) (s 3) (s 6) s.h
theorem y19z : T1 yst ybc (y4 4 y6d xN) [.t 2] y1zi := sq y1dy fun _ => by kernel_rfl
def yap (v1 v3 v6 : AV) (h : Heap) : OX :=
ob (y5 .lss v6 v3) fun v102 =>
cnd v102
 ((y4y v1 v3 v6 h))
 ((yg1 v1 v3 h))
def y238 (s : St) : OX := yap (s 1) (s 3) (s 6) s.h
theorem y1ca : T1 yre ybc (y4 4 y6d xN) [.t 2] y238 := sq y19z fun _ => by kernel_rfl
theorem yo8 (v1 v3 v6 : AV) (h : Heap) : yfq v1 v3 v6 h = (yap v1 v3 v6 h) :=
  y1r.trans ((y17 _ _ _ (n' := ybc) (fun s => yns s)).trans ((y1ca _).trans (by kernel_rfl)))
theorem y1at : T1 yqk y6d xN [.t 2] ybc := fun s => yt.trans (yns s)
def ya4 (v1 v3 : AV) (h : Heap) : OX :=
(yfq v1 v3 (AV.int .i64 0) h)
def y4v (s : St) : OX := ya4 (s 1) (s 3) s.h
theorem y1an : T1 yvf y6d xN [.t 2] y4v := sq y1at fun _ => by kernel_rfl
theorem y1b8 : T0 yv4 [.t 2] y4v := sq y1nn y1an
def ybd (v1 v3 v5 : AV) (h : Heap) : OX :=
  W E 0 yfh ⟨[(1, v1), (3, v3), (5, v5)], h⟩ y4v (y4 2 y4v xN) (finP [.t 2])
def y7q (s : St) : OX := ybd (s 1) (s 3) (s 5) s.h
theorem yhn : T1 yfh y4v (y4 2 y4v xN) [.t 2] y7q := fun s => yh.trans (by kernel_rfl)
def ycv (v1 v3 v5 : AV) (h : Heap) : OX :=
ob (y5 .add v5 (AV.int .i64 1)) fun v79 =>
(ybd v1 v3 v79 h)
def y210 (s : St) : OX := ycv (s 1) (s 3) (s 5) s.h
theorem y1c6 : T1 yts y7q (y4 2 y4v xN) [.t 2] y210 := fun _ => by kernel_rfl
def y8b (v1 v3 v5 : AV) (h : Heap) : OX :=
ob (evLd true 5 v1 h) fun v80 =>
ob (evFa 1 v1) fun v81 =>
ob (evLd false 1 v81 h) fun v82 =>
ob (yw 1 v82 v5) fun v84 =>
ob (evLd false 1 v84 h) fun v85 =>
oh (y6 E (y7 E) 0 none true 48 [v80, v85] h) fun v86 h9 =>
ob (y5 .eql v86 (AV.int .i64 0)) fun v87 =>
gb v87 false (evFa 1 v1) fun v89 =>
gb v87 false (evLd false 1 v89 h9) fun v90 =>
gb v87 false (some v5) fun v91 =>
gb v87 false (yw 1 v90 v91) fun v92 =>
gb v87 false (evLd false 1 v92 h9) fun v93 =>
gb v87 false (evFa 1 v1) fun v94 =>
gb v87 false (evLd false 1 v94 h9) fun v95 =>
gb v87 false (some v5) fun v96 =>
gb v87 false (ycc 1 v95 none (some v96)) fun v97 =>
gh v87 false (y6 E (y7 E) 0 none true 42 [v93, v97] h9) h9 fun v98 h10 =>
ob (y8 v87 (AV.bool true) v98) fun v99 =>
cnd v99
 ((yc h10 (AV.int .i64 80)))
 ((ycv v1 v3 v5 h10))
def y21b (s : St) : OX := y8b (s 1) (s 3) (s 5) s.h
theorem y1dq : T1 yu7 y7q (y4 2 y4v xN) [.t 2] y21b := sq y1c6 fun _ => by kernel_rfl
def y78 (v1 v3 v5 : AV) (h : Heap) : OX :=
ob (evFa 1 v1) fun v74 =>
ob (evLd false 1 v74 h) fun v75 =>
ob (y11 1 v75 h) fun v76 =>
ob (y5 .lss v5 v76) fun v77 =>
cnd v77
 ((y8b v1 v3 v5 h))
 ((ya4 v1 v3 h))
def y22s (s : St) : OX := y78 (s 1) (s 3) (s 5) s.h
theorem y1bn : T1 yq8 y7q (y4 2 y4v xN) [.t 2] y22s := sq y1dq fun _ => by kernel_rfl
theorem yjh (v1 v3 v5 : AV) (h : Heap) : ybd v1 v3 v5 h = (y78 v1 v3 v5 h) :=
  y1r.trans ((y17 _ _ _ (n' := y7q) (fun s => yhn s)).trans ((y1bn _).trans (by kernel_rfl)))
theorem y1b7 : T1 yu1 y4v xN [.t 2] y7q := fun s => yt.trans (yhn s)
def yaf (v1 v3 : AV) (h : Heap) : OX :=
(ybd v1 v3 (AV.int .i64 0) h)
def y4w (s : St) : OX := yaf (s 1) (s 3) s.h
theorem y1c4 : T1 yu9 y4v xN [.t 2] y4w := sq y1b7 fun _ => by kernel_rfl
theorem y1c5 : T0 ys0 [.t 2] y4w := sq y1b8 y1c4
def yb7 (v1 v3 v4 : AV) (h : Heap) : OX :=
  W E 0 yf2 ⟨[(1, v1), (3, v3), (4, v4)], h⟩ y4w (y4 0 y4w xN) (finP [.t 2])
def y7o (s : St) : OX := yb7 (s 1) (s 3) (s 4) s.h
theorem yht : T1 yf2 y4w (y4 0 y4w xN) [.t 2] y7o := fun s => yh.trans (by kernel_rfl)
def yd2 (v1 v3 v4 : AV) (h : Heap) : OX :=
ob (y5 .add v4 (AV.int .i64 1)) fun v58 =>
(yb7 v1 v3 v58 h)
def y209 (s : St) : OX := yd2 (s 1) (s 3) (s 4) s.h
theorem y1d2 : T1 yse y7o (y4 0 y4w xN) [.t 2] y209 := fun _ => by kernel_rfl
def y8c (v1 v3 v4 : AV) (h : Heap) : OX :=
ob (evFa 0 v1) fun v59 =>
ob (evLd false 1 v59 h) fun v60 =>
ob (yw 1 v60 v4) fun v62 =>
ob (evLd false 1 v62 h) fun v63 =>
ob (y5 .lss v63 (AV.int .i64 1)) fun v64 =>
gb v64 false (evFa 0 v1) fun v66 =>
gb v64 false (evLd false 1 v66 h) fun v67 =>
gb v64 false (some v4) fun v68 =>
gb v64 false (yw 1 v67 v68) fun v69 =>
gb v64 false (evLd false 1 v69 h) fun v70 =>
gb v64 false (y5 .gtr v70 (AV.int .i64 3)) fun v71 =>
ob (y8 v64 (AV.bool true) v71) fun v72 =>
cnd v72
 ((yc h (AV.int .i64 80)))
 ((yd2 v1 v3 v4 h))
def y24s (s : St) : OX := y8c (s 1) (s 3) (s 4) s.h
theorem y1bj : T1 yti y7o (y4 0 y4w xN) [.t 2] y24s := sq y1d2 fun _ => by kernel_rfl
def y77 (v1 v3 v4 : AV) (h : Heap) : OX :=
ob (evFa 0 v1) fun v53 =>
ob (evLd false 1 v53 h) fun v54 =>
ob (y11 1 v54 h) fun v55 =>
ob (y5 .lss v4 v55) fun v56 =>
cnd v56
 ((y8c v1 v3 v4 h))
 ((yaf v1 v3 h))
def y23x (s : St) : OX := y77 (s 1) (s 3) (s 4) s.h
theorem y1cu : T1 ytn y7o (y4 0 y4w xN) [.t 2] y23x := sq y1bj fun _ => by kernel_rfl
theorem yk5 (v1 v3 v4 : AV) (h : Heap) : yb7 v1 v3 v4 h = (y77 v1 v3 v4 h) :=
  y1r.trans ((y17 _ _ _ (n' := y7o) (fun s => yht s)).trans ((y1cu _).trans (by kernel_rfl)))
theorem y1ct : T1 yrm y4w xN [.t 2] y7o := fun s => yt.trans (yht s)
def yek (v1 v3 : AV) (h : Heap) : OX :=
(yb7 v1 v3 (AV.int .i64 0) h)
def yzd (s : St) : OX := yek (s 1) (s 3) s.h
theorem y1ak : T1 ytu y4w xN [.t 2] yzd := sq y1ct fun _ => by kernel_rfl
theorem y1a1 : T0 ysc [.t 2] yzd := sq y1c5 y1ak
def y4x (v1 v3 : AV) (h : Heap) : OX :=
ob (y5 .eql v3 (AV.int .i64 0)) fun v14 =>
gb v14 false (some v3) fun v16 =>
gb v14 false (y5 .gtr v16 (AV.int .i64 20000)) fun v17 =>
ob (y8 v14 (AV.bool true) v17) fun v18 =>
gb v18 false (evFa 0 v1) fun v20 =>
gb v18 false (evLd false 1 v20 h) fun v21 =>
gb v18 false (y11 1 v21 h) fun v22 =>
gb v18 false (y5 .gtr v22 (AV.int .i64 20000)) fun v23 =>
ob (y8 v18 (AV.bool true) v23) fun v24 =>
gb v24 false (evFa 1 v1) fun v26 =>
gb v24 false (evLd false 1 v26 h) fun v27 =>
gb v24 false (y11 1 v27 h) fun v28 =>
gb v24 false (y5 .gtr v28 (AV.int .i64 21)) fun v29 =>
ob (y8 v24 (AV.bool true) v29) fun v30 =>
gb v30 false (evFa 2 v1) fun v32 =>
gb v30 false (evLd false 1 v32 h) fun v33 =>
gb v30 false (y5 .lss v33 (AV.int .i64 0)) fun v34 =>
ob (y8 v30 (AV.bool true) v34) fun v35 =>
gb v35 false (evFa 2 v1) fun v37 =>
gb v35 false (evLd false 1 v37 h) fun v38 =>
gb v35 false (y5 .gtr v38 (AV.int .i64 3)) fun v39 =>
ob (y8 v35 (AV.bool true) v39) fun v40 =>
gb v40 false (evFa 3 v1) fun v42 =>
gb v40 false (evLd false 1 v42 h) fun v43 =>
gb v40 false (some v3) fun v44 =>
gb v40 false (y5 .sub v44 (AV.int .i64 1)) fun v45 =>
gb v40 false (yw 9 v43 v45) fun v46 =>
gb v40 false (evFa 0 v46) fun v47 =>
gb v40 false (evLd false 1 v47 h) fun v48 =>
gh v40 false (y6 E (y7 E) 0 none true 25 [v48] h) h fun v49 h11 =>
gb v40 false (evUn .not v49) fun v50 =>
ob (y8 v40 (AV.bool true) v50) fun v51 =>
cnd v51
 ((yc h11 (AV.int .i64 80)))
 ((yek v1 v3 h11))
def y21z (s : St) : OX := y4x (s 1) (s 3) s.h
theorem y1cq : T0 ysh [.t 2] y21z := sq y1a1 fun _ => by kernel_rfl
def y4t (v1 : AV) (h : Heap) : OX :=
ob (evFa 3 v1) fun v10 =>
ob (evLd false 1 v10 h) fun v11 =>
ob (y11 1 v11 h) fun v12 =>
(y4x v1 v12 h)
def y1y7 (s : St) : OX := y4t (s 1) s.h
theorem y1cz : T0 yr9 [.t 2] y1y7 := sq y1cq fun _ => by kernel_rfl
def y4c (v0 : AV) (h : Heap) : OX :=
oh (newC 0 (some 0) (cellsOf v0) h) fun v1 h12 =>
(y4t v1 h12)
def y232 (s : St) : OX := y4c (s 0) s.h
theorem y1bp : T0 ysu [.t 2] y232 := sq y1cz fun _ => by kernel_rfl
@[simp] theorem y2sl : E.pure 29 = true := rfl
theorem y2mi (v0 : AV) : (y7 E).p 29 [v0] = y4c v0 [⟨0, .dead⟩, ⟨0, .dead⟩, ⟨0, .dead⟩] :=
  (yv (cf := y26l) (by kernel_rfl) rfl).trans ((y1bp _).trans (by kernel_rfl))
def yd3 (h : Heap) : OX :=
(yc h AV.nils)
def y3b (s : St) : OX := yd3 s.h
theorem y24z : T0 y1ir [.t 2] y3b := fun _ => by kernel_rfl
def ydz (v1 : AV) (h : Heap) : OX :=
ob (evFa 2 v1) fun v58 =>
ob (evLd false 1 v58 h) fun v59 =>
ob (evFa 3 v1) fun v60 =>
ob (evLd false 1 v60 h) fun v61 =>
oh (yr 0 (some 6) 1 2 [(.int .i64 0)] [(0, v59), (1, v61)] h) fun v62 h1 =>
(yc h1 v62)
def y2mp (s : St) : OX := ydz (s 1) s.h
theorem y20y : T1 y1uh y3b (y4 0 y3b xN) [.t 2] y2mp := fun _ => by kernel_rfl
def yde (v1 : AV) (h : Heap) : OX :=
ob (evFa 3 v1) fun v52 =>
ob (evLd false 1 v52 h) fun v53 =>
ob (y5 .lss v53 (AV.int .i64 0)) fun v54 =>
cnd v54
 (ob (evFa 2 v1) fun v55 =>
ob (evLd false 1 v55 h) fun v56 =>
oh (yr 0 (some 5) 1 1 [(.int .i64 0)] [(0, v56)] h) fun v57 h2 =>
(yc h2 v57))
 ((ydz v1 h))
def y2ls (s : St) : OX := yde (s 1) s.h
theorem y24d : T1 y1wh y3b (y4 0 y3b xN) [.t 2] y2ls := sq y20y fun _ => by kernel_rfl
def ydb (v1 v4 v50 : AV) (h : Heap) : OX :=
cnd v50
 ((yde v1 h))
 (ob (y5 .eql v4 (AV.int .i64 30)) fun v64 =>
cnd v64
 (ob (evFa 2 v1) fun v65 =>
ob (evLd false 1 v65 h) fun v66 =>
ob (y5 .geq v66 (AV.int .i64 0)) fun v67 =>
cnd v67
 (ob (evFa 2 v1) fun v68 =>
ob (evLd false 1 v68 h) fun v69 =>
oh (yr 0 (some 7) 1 1 [(.int .i64 0)] [(0, v69)] h) fun v70 h3 =>
(yc h3 v70))
 ((yd3 h)))
 ((yd3 h)))
def y2k6 (s : St) : OX := ydb (s 1) (s 4) (s 50) s.h
theorem y21u : T1 y1hs y3b (y4 0 y3b xN) [.t 2] y2k6 := fun s => (y1d (y24d s) rfl).trans (by kernel_rfl)
def ydt (v1 v4 : AV) (h : Heap) : OX :=
ob (y5 .eql v4 (AV.int .i64 29)) fun v51 =>
(ydb v1 v4 v51 h)
def y2o6 (s : St) : OX := ydt (s 1) (s 4) s.h
theorem y21h : T1 y1o1 y3b (y4 0 y3b xN) [.t 2] y2o6 := sq y21u fun _ => by kernel_rfl
def yb0 (v1 v4 v42 : AV) (h : Heap) : OX :=
cnd v42
 (ob (evFa 8 v1) fun v47 =>
ob (evLd false 1 v47 h) fun v48 =>
oh (y6 E (y7 E) 0 (some 4) false 39 [v48] h) fun v49 h4 =>
(yc h4 v49))
 ((ydt v1 v4 h))
def y2mb (s : St) : OX := yb0 (s 1) (s 4) (s 42) s.h
theorem y20j : T1 y1up y3b (y4 0 y3b xN) [.t 2] y2mb := fun s => (y1d rfl (y21h s)).trans (by kernel_rfl)
def ydg (v1 v4 : AV) (h : Heap) : OX :=
ob (y5 .eql v4 (AV.int .i64 23)) fun v43 =>
cnd v43
 ((yb0 v1 v4 v43 h))
 (ob (y5 .eql v4 (AV.int .i64 24)) fun v44 =>
cnd v44
 ((yb0 v1 v4 v44 h))
 (ob (y5 .eql v4 (AV.int .i64 25)) fun v45 =>
cnd v45
 ((yb0 v1 v4 v45 h))
 (ob (y5 .eql v4 (AV.int .i64 26)) fun v46 =>
(yb0 v1 v4 v46 h))))
def y2kn (s : St) : OX := ydg (s 1) (s 4) s.h
theorem y25i : T1 y1g0 y3b (y4 0 y3b xN) [.t 2] y2kn := sq y20j fun _ => by kernel_rfl
def ydo (v1 v4 v33 : AV) (h : Heap) : OX :=
cnd v33
 (ob (evFa 2 v1) fun v35 =>
ob (evLd false 1 v35 h) fun v36 =>
ob (evFa 3 v1) fun v37 =>
ob (evLd false 1 v37 h) fun v38 =>
ob (evFa 4 v1) fun v39 =>
ob (evLd false 1 v39 h) fun v40 =>
oh (yr 0 (some 3) 1 3 [(.int .i64 0)] [(0, v36), (1, v38), (2, v40)] h) fun v41 h5 =>
(yc h5 v41))
 ((ydg v1 v4 h))
def y2k8 (s : St) : OX := ydo (s 1) (s 4) (s 33) s.h
theorem y1yy : T1 y1vs y3b (y4 0 y3b xN) [.t 2] y2k8 := fun s => (y1d rfl (y25i s)).trans (by kernel_rfl)
def ydk (v1 v4 : AV) (h : Heap) : OX :=
ob (y5 .eql v4 (AV.int .i64 14)) fun v34 =>
(ydo v1 v4 v34 h)
def y2nz (s : St) : OX := ydk (s 1) (s 4) s.h
theorem y24m : T1 y1kh y3b (y4 0 y3b xN) [.t 2] y2nz := sq y1yy fun _ => by kernel_rfl
def y4o (v1 v4 v21 : AV) (h : Heap) : OX :=
cnd v21
 (ob (evFa 2 v1) fun v28 =>
ob (evLd false 1 v28 h) fun v29 =>
ob (evFa 3 v1) fun v30 =>
ob (evLd false 1 v30 h) fun v31 =>
oh (yr 0 (some 2) 1 2 [(.int .i64 0)] [(0, v29), (1, v31)] h) fun v32 h6 =>
(yc h6 v32))
 ((ydk v1 v4 h))
def y2dk (s : St) : OX := y4o (s 1) (s 4) (s 21) s.h
theorem y1hv : T1 yyk y3b (y4 0 y3b xN) [.t 2] y2dk := fun s => (y1d rfl (y24m s)).trans (by kernel_rfl)
def y71 (v1 v4 : AV) (h : Heap) : OX :=
ob (y5 .eql v4 (AV.int .i64 5)) fun v22 =>
cnd v22
 ((y4o v1 v4 v22 h))
 (ob (y5 .eql v4 (AV.int .i64 9)) fun v23 =>
cnd v23
 ((y4o v1 v4 v23 h))
 (ob (y5 .eql v4 (AV.int .i64 11)) fun v24 =>
cnd v24
 ((y4o v1 v4 v24 h))
 (ob (y5 .eql v4 (AV.int .i64 13)) fun v25 =>
cnd v25
 ((y4o v1 v4 v25 h))
 (ob (y5 .eql v4 (AV.int .i64 17)) fun v26 =>
cnd v26
 ((y4o v1 v4 v26 h))
 (ob (y5 .eql v4 (AV.int .i64 28)) fun v27 =>
(y4o v1 v4 v27 h))))))
def y2h7 (s : St) : OX := y71 (s 1) (s 4) s.h
theorem y1ml : T1 y19f y3b (y4 0 y3b xN) [.t 2] y2h7 := sq y1hv fun _ => by kernel_rfl
def y3k (v1 v4 v5 : AV) (h : Heap) : OX :=
cnd v5
 (ob (evFa 2 v1) fun v18 =>
ob (evLd false 1 v18 h) fun v19 =>
oh (yr 0 (some 1) 1 1 [(.int .i64 0)] [(0, v19)] h) fun v20 h7 =>
(yc h7 v20))
 ((y71 v1 v4 h))
def y2fu (s : St) : OX := y3k (s 1) (s 4) (s 5) s.h
theorem y1ft : T1 yza y3b (y4 0 y3b xN) [.t 2] y2fu := fun s => (y1d rfl (y1ml s)).trans (by kernel_rfl)
def y6v (v1 v4 : AV) (h : Heap) : OX :=
ob (y5 .eql v4 (AV.int .i64 4)) fun v6 =>
cnd v6
 ((y3k v1 v4 v6 h))
 (ob (y5 .eql v4 (AV.int .i64 6)) fun v7 =>
cnd v7
 ((y3k v1 v4 v7 h))
 (ob (y5 .eql v4 (AV.int .i64 7)) fun v8 =>
cnd v8
 ((y3k v1 v4 v8 h))
 (ob (y5 .eql v4 (AV.int .i64 8)) fun v9 =>
cnd v9
 ((y3k v1 v4 v9 h))
 (ob (y5 .eql v4 (AV.int .i64 10)) fun v10 =>
cnd v10
 ((y3k v1 v4 v10 h))
 (ob (y5 .eql v4 (AV.int .i64 12)) fun v11 =>
cnd v11
 ((y3k v1 v4 v11 h))
 (ob (y5 .eql v4 (AV.int .i64 15)) fun v12 =>
cnd v12
 ((y3k v1 v4 v12 h))
 (ob (y5 .eql v4 (AV.int .i64 16)) fun v13 =>
cnd v13
 ((y3k v1 v4 v13 h))
 (ob (y5 .eql v4 (AV.int .i64 19)) fun v14 =>
cnd v14
 ((y3k v1 v4 v14 h))
 (ob (y5 .eql v4 (AV.int .i64 21)) fun v15 =>
cnd v15
 ((y3k v1 v4 v15 h))
 (ob (y5 .eql v4 (AV.int .i64 22)) fun v16 =>
cnd v16
 ((y3k v1 v4 v16 h))
 (ob (y5 .eql v4 (AV.int .i64 31)) fun v17 =>
(y3k v1 v4 v17 h))))))))))))
def y1t9 (s : St) : OX := y6v (s 1) (s 4) s.h
theorem y1rh : T1 y17j y3b (y4 0 y3b xN) [.t 2] y1t9 := sq y1ft fun _ => by kernel_rfl
theorem y1u1 : T1 y110 y3b xN [.t 2] y1t9 := fun s => yt.trans (y1rh s)
def y6r (v1 : AV) (h : Heap) : OX :=
ob (evFa 0 v1) fun v3 =>
ob (evLd false 1 v3 h) fun v4 =>
(y6v v1 v4 h)
def y1jw (s : St) : OX := y6r (s 1) s.h
theorem y1tq : T1 y15k y3b xN [.t 2] y1jw := sq y1u1 fun _ => by kernel_rfl
theorem y1r9 : T0 y13d [.t 2] y1jw := sq y24z y1tq
def y6y (v0 : AV) (h : Heap) : OX :=
oh (newC 0 (some 0) (cellsOf v0) h) fun v1 h8 =>
(y6r v1 h8)
def y28x (s : St) : OX := y6y (s 0) s.h
theorem y1wt : T0 y11i [.t 2] y28x := sq y1r9 fun _ => by kernel_rfl
@[simp] theorem y2sr : E.pure 10 = true := rfl
theorem yxt (v0 : AV) : (y7 E).p 10 [v0] = y6y v0 [⟨0, .dead⟩, ⟨0, .dead⟩, ⟨0, .dead⟩, ⟨0, .dead⟩, ⟨0, .dead⟩, ⟨0, .dead⟩, ⟨0, .dead⟩, ⟨0, .dead⟩] :=
  (yv (cf := y2no) (by kernel_rfl) rfl).trans ((y1wt _).trans (by kernel_rfl))
def y1m2 (h : Heap) : OX :=
(yc h (AV.int .i64 (-1)))
def y2jc (s : St) : OX := y1m2 s.h
theorem y23z : T0 y1lb [.t 2] y2jc := fun _ => by kernel_rfl
def y1q9 (v1 : AV) (h : Heap) : OX :=
ob (evLd true 9 v1 h) fun v22 =>
oh (y6 E (y7 E) 0 none true 17 [v22] h) fun v23 h1 =>
cnd v23
 (ob (evFa 1 v1) fun v24 =>
ob (evLd false 1 v24 h1) fun v25 =>
(yc h1 v25))
 ((y1m2 h1))
def yhm (s : St) : OX := y1q9 (s 1) s.h
theorem y214 : T0 y1hd [.t 2] yhm := sq y23z fun _ => by kernel_rfl
def y9s (v1 v5 : AV) (h : Heap) : OX :=
cnd v5
 (ob (evFa 1 v1) fun v20 =>
ob (evLd false 1 v20 h) fun v21 =>
(yc h v21))
 ((y1q9 v1 h))
def y2mj (s : St) : OX := y9s (s 1) (s 5) s.h
theorem y22e : T1 y1g3 yhm (y4 0 yhm xN) [.t 2] y2mj := fun _ => by kernel_rfl
def y1qq (v1 v4 : AV) (h : Heap) : OX :=
ob (y5 .eql v4 (AV.int .i64 1)) fun v6 =>
cnd v6
 ((y9s v1 v6 h))
 (ob (y5 .eql v4 (AV.int .i64 2)) fun v7 =>
cnd v7
 ((y9s v1 v7 h))
 (ob (y5 .eql v4 (AV.int .i64 3)) fun v8 =>
cnd v8
 ((y9s v1 v8 h))
 (ob (y5 .eql v4 (AV.int .i64 4)) fun v9 =>
cnd v9
 ((y9s v1 v9 h))
 (ob (y5 .eql v4 (AV.int .i64 5)) fun v10 =>
cnd v10
 ((y9s v1 v10 h))
 (ob (y5 .eql v4 (AV.int .i64 6)) fun v11 =>
cnd v11
 ((y9s v1 v11 h))
 (ob (y5 .eql v4 (AV.int .i64 13)) fun v12 =>
cnd v12
 ((y9s v1 v12 h))
 (ob (y5 .eql v4 (AV.int .i64 15)) fun v13 =>
cnd v13
 ((y9s v1 v13 h))
 (ob (y5 .eql v4 (AV.int .i64 16)) fun v14 =>
cnd v14
 ((y9s v1 v14 h))
 (ob (y5 .eql v4 (AV.int .i64 18)) fun v15 =>
cnd v15
 ((y9s v1 v15 h))
 (ob (y5 .eql v4 (AV.int .i64 20)) fun v16 =>
cnd v16
 ((y9s v1 v16 h))
 (ob (y5 .eql v4 (AV.int .i64 21)) fun v17 =>
cnd v17
 ((y9s v1 v17 h))
 (ob (y5 .eql v4 (AV.int .i64 22)) fun v18 =>
cnd v18
 ((y9s v1 v18 h))
 (ob (y5 .eql v4 (AV.int .i64 32)) fun v19 =>
(y9s v1 v19 h))))))))))))))
def y26h (s : St) : OX := y1qq (s 1) (s 4) s.h
theorem y1zo : T1 y1r4 yhm (y4 0 yhm xN) [.t 2] y26h := sq y22e fun _ => by kernel_rfl
theorem y1ze : T1 y1fw yhm xN [.t 2] y26h := fun s => yt.trans (y1zo s)
def y1mp (v1 : AV) (h : Heap) : OX :=
ob (evFa 0 v1) fun v3 =>
ob (evLd false 1 v3 h) fun v4 =>
(y1qq v1 v4 h)
def y277 (s : St) : OX := y1mp (s 1) s.h
theorem y1zh : T1 y1ny yhm xN [.t 2] y277 := sq y1ze fun _ => by kernel_rfl
theorem y237 : T0 y1v1 [.t 2] y277 := sq y214 y1zh
def y1tg (v0 : AV) (h : Heap) : OX :=
oh (newC 0 (some 0) (cellsOf v0) h) fun v1 h2 =>
(y1mp v1 h2)
def y2kg (s : St) : OX := y1tg (s 0) s.h
theorem y1yw : T0 y1iy [.t 2] y2kg := sq y237 fun _ => by kernel_rfl
@[simp] theorem y2tn : E.pure 9 = true := rfl
theorem y2q6 (v0 : AV) : (y7 E).p 9 [v0] = y1tg v0 [⟨0, .dead⟩] :=
  (yv (cf := y2ko) (by kernel_rfl) rfl).trans ((y1yw _).trans (by kernel_rfl))
def y16s (v0 : AV) (h : Heap) : OX :=
oh (yr 0 (some 0) 1 0 [(.int .i64 0)] [] h) fun v5 h1 =>
oh (y2b 0 (some 1) 1 8 v5 v0 h1) fun v7 h2 =>
(yc h2 v7)
def y2dw (s : St) : OX := y16s (s 0) s.h
theorem y1us : T0 y0f [.t 2] y2dw := fun _ => by kernel_rfl
def y11l (v0 : AV) (h : Heap) : OX :=
ob (yc2 1 false v0 AV.nils) fun v4 =>
cnd v4
 ((yc h AV.nils))
 ((y16s v0 h))
def y296 (s : St) : OX := y11l (s 0) s.h
theorem y1i0 : T0 y17q [.t 2] y296 := sq y1us fun _ => by kernel_rfl
def y12t (v0 : AV) (h : Heap) : OX :=
(y11l v0 h)
def y2cj (s : St) : OX := y12t (s 0) s.h
theorem y1fm : T0 yyt [.t 2] y2cj := sq y1i0 fun _ => by kernel_rfl
@[simp] theorem y2px : E.pure 39 = true := rfl
theorem y2i4 (v0 : AV) : (y7 E).p 39 [v0] = y12t v0 [⟨0, .dead⟩, ⟨0, .dead⟩] :=
  (yv (cf := y26y) (by kernel_rfl) rfl).trans ((y1fm _).trans (by kernel_rfl))
def y14n (v0 : AV) (h : Heap) : OX :=
oh (yr 0 (some 0) 9 0 [(.int .i64 0), (.int .i64 0), (.int .i64 0), (.int .i64 0), (.int .i64 0), (.int .i64 0), (.int .i64 0), (.str []), .nils] [] h) fun v5 h1 =>
oh (y2b 0 (some 1) 9 96 v5 v0 h1) fun v7 h2 =>
(yc h2 v7)
def y291 (s : St) : OX := y14n (s 0) s.h
theorem y1gq : T0 y11h [.t 2] y291 := fun _ => by kernel_rfl
def y0j (v0 : AV) (h : Heap) : OX :=
ob (yc2 1 false v0 AV.nils) fun v4 =>
cnd v4
 ((yc h AV.nils))
 ((y14n v0 h))
def y2cm (s : St) : OX := y0j (s 0) s.h
theorem y1r6 : T0 y154 [.t 2] y2cm := sq y1gq fun _ => by kernel_rfl
def y15t (v0 : AV) (h : Heap) : OX :=
(y0j v0 h)
def y2f9 (s : St) : OX := y15t (s 0) s.h
theorem y1u6 : T0 y155 [.t 2] y2f9 := sq y1r6 fun _ => by kernel_rfl
@[simp] theorem y2rr : E.pure 40 = true := rfl
theorem y2lb (v0 : AV) : (y7 E).p 40 [v0] = y15t v0 [⟨0, .dead⟩, ⟨0, .dead⟩] :=
  (yv (cf := y26z) (by kernel_rfl) rfl).trans ((y1u6 _).trans (by kernel_rfl))
def y165 (v0 : AV) (h : Heap) : OX :=
oh (yr 0 (some 0) 4 0 [(.int .i64 0), (.int .i64 0), (.int .i64 0), (.str [])] [] h) fun v5 h1 =>
oh (y2b 0 (some 1) 4 40 v5 v0 h1) fun v7 h2 =>
(yc h2 v7)
def y2de (s : St) : OX := y165 (s 0) s.h
theorem y1g9 : T0 y19v [.t 2] y2de := fun _ => by kernel_rfl
def y15l (v0 : AV) (h : Heap) : OX :=
ob (yc2 1 false v0 AV.nils) fun v4 =>
cnd v4
 ((yc h AV.nils))
 ((y165 v0 h))
def y2fc (s : St) : OX := y15l (s 0) s.h
theorem y1jo : T0 y13b [.t 2] y2fc := sq y1g9 fun _ => by kernel_rfl
def y133 (v0 : AV) (h : Heap) : OX :=
(y15l v0 h)
def y2ff (s : St) : OX := y133 (s 0) s.h
theorem y1ra : T0 y12c [.t 2] y2ff := sq y1jo fun _ => by kernel_rfl
@[simp] theorem y2q8 : E.pure 41 = true := rfl
theorem y2lw (v0 : AV) : (y7 E).p 41 [v0] = y133 v0 [⟨0, .dead⟩, ⟨0, .dead⟩] :=
  (yv (cf := y26e) (by kernel_rfl) rfl).trans ((y1ra _).trans (by kernel_rfl))
def yiw (h : Heap) : OX :=
(yc h (AV.bool true))
def y7e (s : St) : OX := yiw s.h
theorem y1pg : T0 y116 [.t 4] y7e := fun _ => by kernel_rfl
def yev (v0 v1 v5 : AV) (h : Heap) : OX :=
  W E 0 yhu ⟨[(0, v0), (1, v1), (5, v5)], h⟩ y7e (y4 0 y7e xN) (finP [.t 4])
def ybl (s : St) : OX := yev (s 0) (s 1) (s 5) s.h
theorem yn4 : T1 yhu y7e (y4 0 y7e xN) [.t 4] ybl := fun s => yh.trans (by kernel_rfl)
def yh8 (v0 v1 v5 : AV) (h : Heap) : OX :=
ob (y5 .add v5 (AV.int .i64 1)) fun v16 =>
(yev v0 v1 v16 h)
def y2fa (s : St) : OX := yh8 (s 0) (s 1) (s 5) s.h
theorem y1jh : T1 y18q ybl (y4 0 y7e xN) [.t 4] y2fa := fun _ => by kernel_rfl
def yhc (v0 v1 v5 : AV) (h : Heap) : OX :=
ob (yw 1 v0 v5) fun v19 =>
ob (evLd false 1 v19 h) fun v20 =>
ob (yw 1 v1 v5) fun v23 =>
ob (evLd false 1 v23 h) fun v24 =>
ob (y5 .neq v20 v24) fun v25 =>
cnd v25
 ((yc h (AV.bool false)))
 ((yh8 v0 v1 v5 h))
def y2df (s : St) : OX := yhc (s 0) (s 1) (s 5) s.h
theorem y1k3 : T1 y17r ybl (y4 0 y7e xN) [.t 4] y2df := sq y1jh fun _ => by kernel_rfl
def ykp (v0 v1 v5 : AV) (h : Heap) : OX :=
ob (y11 1 v0 h) fun v13 =>
ob (y5 .lss v5 v13) fun v14 =>
cnd v14
 ((yhc v0 v1 v5 h))
 ((yiw h))
def y2ax (s : St) : OX := ykp (s 0) (s 1) (s 5) s.h
theorem y1oa : T1 y14j ybl (y4 0 y7e xN) [.t 4] y2ax := sq y1k3 fun _ => by kernel_rfl
theorem ynx (v0 v1 v5 : AV) (h : Heap) : yev v0 v1 v5 h = (ykp v0 v1 v5 h) :=
  y1r.trans ((y17 _ _ _ (n' := ybl) (fun s => yn4 s)).trans ((y1oa _).trans (by kernel_rfl)))
theorem y1vq : T1 y123 y7e xN [.t 4] ybl := fun s => yt.trans (yn4 s)
def yhr (v0 v1 : AV) (h : Heap) : OX :=
(yev v0 v1 (AV.int .i64 0) h)
def y1qt (s : St) : OX := yhr (s 0) (s 1) s.h
theorem y1f6 : T1 y18t y7e xN [.t 4] y1qt := sq y1vq fun _ => by kernel_rfl
theorem y1s3 : T0 y12r [.t 4] y1qt := sq y1pg y1f6
def yi8 (v0 v1 : AV) (h : Heap) : OX :=
ob (y11 1 v0 h) fun v7 =>
ob (y11 1 v1 h) fun v9 =>
ob (y5 .neq v7 v9) fun v10 =>
cnd v10
 ((yc h (AV.bool false)))
 ((yhr v0 v1 h))
def y2d5 (s : St) : OX := yi8 (s 0) (s 1) s.h
theorem y1vw : T0 y141 [.t 4] y2d5 := sq y1s3 fun _ => by kernel_rfl
def ycy (v0 v1 : AV) (h : Heap) : OX :=
(yi8 v0 v1 h)
def y1yl (s : St) : OX := ycy (s 0) (s 1) s.h
theorem y1ce : T0 yr5 [.t 4] y1yl := sq y1vw fun _ => by kernel_rfl
@[simp] theorem y2q7 : E.pure 11 = true := rfl
theorem y2jr (v0 v1 : AV) : (y7 E).p 11 [v0, v1] = ycy v0 v1 [] :=
  (yv (cf := y26a) (by kernel_rfl) rfl).trans ((y1ce _).trans (by kernel_rfl))
def ya5 (v0 v1 : AV) (h : Heap) : OX :=
oh (newC 0 (some 0) (cellsOf v0) h) fun v2 h1 =>
oh (newC 0 (some 1) (cellsOf v1) h1) fun v3 h2 =>
ob (evFa 0 v2) fun v5 =>
ob (evLd false 1 v5 h2) fun v6 =>
ob (evFa 0 v3) fun v7 =>
ob (evLd false 1 v7 h2) fun v8 =>
ob (y5 .eql v6 v8) fun v9 =>
gb v9 true (evFa 1 v2) fun v11 =>
gb v9 true (evLd false 1 v11 h2) fun v12 =>
gb v9 true (evFa 1 v3) fun v13 =>
gb v9 true (evLd false 1 v13 h2) fun v14 =>
gb v9 true (y5 .eql v12 v14) fun v15 =>
ob (y8 v9 v15 (AV.bool false)) fun v16 =>
gb v16 true (evFa 2 v2) fun v18 =>
gb v16 true (evLd false 1 v18 h2) fun v19 =>
gb v16 true (evFa 2 v3) fun v20 =>
gb v16 true (evLd false 1 v20 h2) fun v21 =>
gb v16 true (y5 .eql v19 v21) fun v22 =>
ob (y8 v16 v22 (AV.bool false)) fun v23 =>
gb v23 true (evFa 3 v2) fun v25 =>
gb v23 true (evLd false 1 v25 h2) fun v26 =>
gb v23 true (evFa 3 v3) fun v27 =>
gb v23 true (evLd false 1 v27 h2) fun v28 =>
gb v23 true (y5 .eql v26 v28) fun v29 =>
ob (y8 v23 v29 (AV.bool false)) fun v30 =>
gb v30 true (evFa 4 v2) fun v32 =>
gb v30 true (evLd false 1 v32 h2) fun v33 =>
gb v30 true (evFa 4 v3) fun v34 =>
gb v30 true (evLd false 1 v34 h2) fun v35 =>
gb v30 true (y5 .eql v33 v35) fun v36 =>
ob (y8 v30 v36 (AV.bool false)) fun v37 =>
gb v37 true (evFa 5 v2) fun v39 =>
gb v37 true (evLd false 1 v39 h2) fun v40 =>
gb v37 true (evFa 5 v3) fun v41 =>
gb v37 true (evLd false 1 v41 h2) fun v42 =>
gb v37 true (y5 .eql v40 v42) fun v43 =>
ob (y8 v37 v43 (AV.bool false)) fun v44 =>
gb v44 true (evFa 6 v2) fun v46 =>
gb v44 true (evLd false 1 v46 h2) fun v47 =>
gb v44 true (evFa 6 v3) fun v48 =>
gb v44 true (evLd false 1 v48 h2) fun v49 =>
gb v44 true (y5 .eql v47 v49) fun v50 =>
ob (y8 v44 v50 (AV.bool false)) fun v51 =>
gb v51 true (evFa 7 v2) fun v53 =>
gb v51 true (evLd false 1 v53 h2) fun v54 =>
gb v51 true (evFa 7 v3) fun v55 =>
gb v51 true (evLd false 1 v55 h2) fun v56 =>
gb v51 true (y5 .eql v54 v56) fun v57 =>
ob (y8 v51 v57 (AV.bool false)) fun v58 =>
gb v58 true (evFa 8 v2) fun v60 =>
gb v58 true (evLd false 1 v60 h2) fun v61 =>
gb v58 true (evFa 8 v3) fun v62 =>
gb v58 true (evLd false 1 v62 h2) fun v63 =>
gh v58 true (y6 E (y7 E) 0 none true 11 [v61, v63] h2) h2 fun v64 h3 =>
ob (y8 v58 v64 (AV.bool false)) fun v65 =>
(yc h3 v65)
def y2bt (s : St) : OX := ya5 (s 0) (s 1) s.h
theorem y1n5 : T0 yzu [.t 4] y2bt := fun _ => by kernel_rfl
@[simp] theorem y2rd : E.pure 28 = true := rfl
theorem y2np (v0 v1 : AV) : (y7 E).p 28 [v0, v1] = ya5 v0 v1 [⟨0, .dead⟩, ⟨0, .dead⟩] :=
  (yv (cf := y27v) (by kernel_rfl) rfl).trans ((y1n5 _).trans (by kernel_rfl))
def y2be (v0 : AV) (h : Heap) : OX :=
oh (newC 0 (some 0) (cellsOf v0) h) fun v1 h1 =>
ob (evFa 0 v1) fun v3 =>
ob (evLd false 1 v3 h1) fun v4 =>
ob (y5 .eql v4 (AV.int .i64 27)) fun v5 =>
gb v5 false (evFa 0 v1) fun v7 =>
gb v5 false (evLd false 1 v7 h1) fun v8 =>
gb v5 false (y5 .eql v8 (AV.int .i64 30)) fun v9 =>
ob (y8 v5 (AV.bool true) v9) fun v10 =>
gb v10 false (evFa 0 v1) fun v12 =>
gb v10 false (evLd false 1 v12 h1) fun v13 =>
gb v10 false (y5 .eql v13 (AV.int .i64 31)) fun v14 =>
ob (y8 v10 (AV.bool true) v14) fun v15 =>
(yc h1 v15)
def y2mk (s : St) : OX := y2be (s 0) s.h
theorem y20f : T0 y1xa [.t 2] y2mk := fun _ => by kernel_rfl
@[simp] theorem y2pj : E.pure 24 = true := rfl
theorem y2qt (v0 : AV) : (y7 E).p 24 [v0] = y2be v0 [⟨0, .dead⟩] :=
  (yv (cf := y2ml) (by kernel_rfl) rfl).trans ((y20f _).trans (by kernel_rfl))
def y14y (v0 v1 : AV) (h : Heap) : OX :=
oh (y6 E (y7 E) 0 none true 45 [v0, v1] h) fun v7 h1 =>
ob (y5 .geq v7 (AV.int .i64 0)) fun v8 =>
(yc h1 v8)
def y2ek (s : St) : OX := y14y (s 0) (s 1) s.h
theorem y1rt : T0 y18x [.t 4] y2ek := fun _ => by kernel_rfl
@[simp] theorem y2t3 : E.pure 46 = true := rfl
theorem y2mu (v0 v1 : AV) : (y7 E).p 46 [v0, v1] = y14y v0 v1 [] :=
  (yv (cf := y27a) (by kernel_rfl) rfl).trans ((y1rt _).trans (by kernel_rfl))
def y1qd (v2 v3 : AV) (h : Heap) : OX :=
ob (evLd true 9 v3 h) fun v183 =>
oh (y6 E (y7 E) 0 none true 22 [v183] h) fun v184 h1 =>
ob (evUn .not v184) fun v185 =>
gb v185 false (evFa 6 v3) fun v187 =>
gb v185 false (evLd false 1 v187 h1) fun v188 =>
gb v185 false (y5 .geq v188 (AV.int .i64 0)) fun v189 =>
gb v185 false (some v189) fun v190 =>
gb v190 true (evFa 6 v3) fun v191 =>
gb v190 true (evLd false 1 v191 h1) fun v192 =>
gb v190 true (evFa 3 v2) fun v193 =>
gb v190 true (evLd false 1 v193 h1) fun v194 =>
gb v190 true (y11 1 v194 h1) fun v195 =>
gb v190 true (y5 .lss v192 v195) fun v196 =>
gb v185 false (y8 v190 v196 (AV.bool false)) fun v197 =>
ob (y8 v185 (AV.bool true) v197) fun v198 =>
(yc h1 v198)
def y2lp (s : St) : OX := y1qd (s 2) (s 3) s.h
theorem y20x : T0 y1te [.t 4] y2lp := fun _ => by kernel_rfl
def y9t (v2 v3 : AV) (h : Heap) : OX :=
ob (evFa 0 v3) fun v105 =>
ob (evLd false 1 v105 h) fun v106 =>
ob (y5 .eql v106 (AV.int .i64 1)) fun v108 =>
cnd v108
 (ob (evFa 0 v2) fun v109 =>
ob (evLd false 1 v109 h) fun v110 =>
ob (evFa 1 v3) fun v111 =>
ob (evLd false 1 v111 h) fun v112 =>
ob (yw 1 v110 v112) fun v113 =>
ob (evLd false 1 v113 h) fun v114 =>
ob (y5 .neq v114 (AV.int .i64 3)) fun v115 =>
gb v115 true (evFa 0 v2) fun v117 =>
gb v115 true (evLd false 1 v117 h) fun v118 =>
gb v115 true (evFa 1 v3) fun v119 =>
gb v115 true (evLd false 1 v119 h) fun v120 =>
gb v115 true (yw 1 v118 v120) fun v121 =>
gb v115 true (evLd false 1 v121 h) fun v122 =>
gb v115 true (y5 .eql v122 (AV.int .i64 2)) fun v123 =>
gb v115 true (some v123) fun v124 =>
gb v124 false (evFa 5 v3) fun v125 =>
gb v124 false (evLd false 1 v125 h) fun v126 =>
gb v124 false (evFa 5 v3) fun v127 =>
gb v124 false (evLd false 1 v127 h) fun v128 =>
gb v124 false (y1au .i32 v128) fun v129 =>
gb v124 false (y1au .i64 v129) fun v130 =>
gb v124 false (y5 .eql v126 v130) fun v131 =>
gb v115 true (y8 v124 (AV.bool true) v131) fun v132 =>
ob (y8 v115 v132 (AV.bool false)) fun v133 =>
(yc h v133))
 (ob (y5 .eql v106 (AV.int .i64 4)) fun v135 =>
cnd v135
 (ob (evFa 0 v2) fun v136 =>
ob (evLd false 1 v136 h) fun v137 =>
ob (evFa 1 v3) fun v138 =>
ob (evLd false 1 v138 h) fun v139 =>
ob (yw 1 v137 v139) fun v140 =>
ob (evLd false 1 v140 h) fun v141 =>
ob (evFa 0 v2) fun v142 =>
ob (evLd false 1 v142 h) fun v143 =>
ob (evFa 2 v3) fun v144 =>
ob (evLd false 1 v144 h) fun v145 =>
ob (yw 1 v143 v145) fun v146 =>
ob (evLd false 1 v146 h) fun v147 =>
ob (y5 .eql v141 v147) fun v148 =>
(yc h v148))
 (ob (y5 .eql v106 (AV.int .i64 7)) fun v150 =>
cnd v150
 (ob (evFa 0 v2) fun v151 =>
ob (evLd false 1 v151 h) fun v152 =>
ob (evFa 2 v3) fun v153 =>
ob (evLd false 1 v153 h) fun v154 =>
ob (yw 1 v152 v154) fun v155 =>
ob (evLd false 1 v155 h) fun v156 =>
ob (y5 .neq v156 (AV.int .i64 3)) fun v157 =>
(yc h v157))
 (ob (y5 .eql v106 (AV.int .i64 30)) fun v159 =>
cnd v159
 (ob (evFa 2 v3) fun v160 =>
ob (evLd false 1 v160 h) fun v161 =>
ob (y5 .eql v161 (AV.int .i64 (-1))) fun v162 =>
ob (evFa 2 v2) fun v163 =>
ob (evLd false 1 v163 h) fun v164 =>
ob (y5 .eql v164 (AV.int .i64 0)) fun v165 =>
ob (y1yg false v162 v165) fun v166 =>
gb v166 true (evFa 2 v3) fun v168 =>
gb v166 true (evLd false 1 v168 h) fun v169 =>
gb v166 true (y5 .eql v169 (AV.int .i64 (-1))) fun v170 =>
gb v166 true (some v170) fun v171 =>
gb v171 false (evFa 0 v2) fun v172 =>
gb v171 false (evLd false 1 v172 h) fun v173 =>
gb v171 false (evFa 2 v3) fun v174 =>
gb v171 false (evLd false 1 v174 h) fun v175 =>
gb v171 false (yw 1 v173 v175) fun v176 =>
gb v171 false (evLd false 1 v176 h) fun v177 =>
gb v171 false (evFa 2 v2) fun v178 =>
gb v171 false (evLd false 1 v178 h) fun v179 =>
gb v171 false (y5 .eql v177 v179) fun v180 =>
gb v166 true (y8 v171 (AV.bool true) v180) fun v181 =>
ob (y8 v166 v181 (AV.bool false)) fun v182 =>
(yc h v182))
 ((y1qd v2 v3 h)))))
def y6f (s : St) : OX := y9t (s 2) (s 3) s.h
theorem y20d : T0 y1g1 [.t 4] y6f := sq y20x fun _ => by kernel_rfl
def yhk (v2 v3 v63 v64 v65 : AV) (h : Heap) : OX :=
  W E 0 yov ⟨[(2, v2), (3, v3), (63, v63), (64, v64), (65, v65)], h⟩ y6f (y4 2 y6f xN) (finP [.t 4])
def yd1 (s : St) : OX := yhk (s 2) (s 3) (s 63) (s 64) (s 65) s.h
theorem yt1 : T1 yov y6f (y4 2 y6f xN) [.t 4] yd1 := fun s => yh.trans (by kernel_rfl)
def y1kn (v2 v3 v63 v64 v65 : AV) (h : Heap) : OX :=
ob (y5 .add v65 (AV.int .i64 1)) fun v104 =>
(yhk v2 v3 v63 v64 v104 h)
def yg7 (s : St) : OX := y1kn (s 2) (s 3) (s 63) (s 64) (s 65) s.h
theorem y1zm : T1 y1qg yd1 (y4 2 y6f xN) [.t 4] yg7 := fun _ => by kernel_rfl
def yjc (v2 v3 v9 v10 v63 v64 v65 : AV) (h : Heap) : OX :=
ob (y5 .lss v10 (AV.int .i64 0)) fun v74 =>
gb v74 false (some v10) fun v76 =>
gb v74 false (evFa 0 v2) fun v77 =>
gb v74 false (evLd false 1 v77 h) fun v78 =>
gb v74 false (y11 1 v78 h) fun v79 =>
gb v74 false (y5 .geq v76 v79) fun v80 =>
ob (y8 v74 (AV.bool true) v80) fun v81 =>
gb v81 false (some v9) fun v83 =>
gb v81 false (y5 .eql v83 (AV.int .i64 0)) fun v84 =>
gb v81 false (some v84) fun v85 =>
gb v85 true (evFa 0 v3) fun v86 =>
gb v85 true (evLd false 1 v86 h) fun v87 =>
gb v85 true (y5 .eql v87 (AV.int .i64 24)) fun v88 =>
gb v85 true (some v88) fun v89 =>
gb v89 false (evFa 0 v3) fun v90 =>
gb v89 false (evLd false 1 v90 h) fun v91 =>
gb v89 false (y5 .eql v91 (AV.int .i64 25)) fun v92 =>
gb v85 true (y8 v89 (AV.bool true) v92) fun v93 =>
gb v81 false (y8 v85 v93 (AV.bool false)) fun v94 =>
gb v81 false (some v94) fun v95 =>
gb v95 true (evFa 0 v2) fun v96 =>
gb v95 true (evLd false 1 v96 h) fun v97 =>
gb v95 true (some v10) fun v98 =>
gb v95 true (yw 1 v97 v98) fun v99 =>
gb v95 true (evLd false 1 v99 h) fun v100 =>
gb v95 true (y5 .neq v100 (AV.int .i64 3)) fun v101 =>
gb v81 false (y8 v95 v101 (AV.bool false)) fun v102 =>
ob (y8 v81 (AV.bool true) v102) fun v103 =>
cnd v103
 ((yc h (AV.bool false)))
 ((y1kn v2 v3 v63 v64 v65 h))
def y2o9 (s : St) : OX := yjc (s 2) (s 3) (s 9) (s 10) (s 63) (s 64) (s 65) s.h
theorem y20w : T1 y1x7 yg7 (y4 3 yg7 (y4 2 y6f xN)) [.t 4] y2o9 := fun _ => by kernel_rfl
def y1jk (v2 v3 v9 v10 v63 v64 v65 : AV) (h : Heap) : OX :=
ob (evLd true 9 v3 h) fun v70 =>
oh (y6 E (y7 E) 0 none true 17 [v70] h) fun v71 h2 =>
ob (evUn .not v71) fun v72 =>
cnd v72
 ((y9t v2 v3 h2))
 ((yjc v2 v3 v9 v10 v63 v64 v65 h2))
def y2kk (s : St) : OX := y1jk (s 2) (s 3) (s 9) (s 10) (s 63) (s 64) (s 65) s.h
theorem y23q : T1 y1ly yg7 (y4 3 yg7 (y4 2 y6f xN)) [.t 4] y2kk := sq y20w fun _ => by kernel_rfl
def y1sj (v2 v3 v63 v64 v65 : AV) (h : Heap) : OX :=
ob (yw 1 v63 v65) fun v68 =>
ob (evLd false 1 v68 h) fun v69 =>
(y1jk v2 v3 v65 v69 v63 v64 v65 h)
def y1im (s : St) : OX := y1sj (s 2) (s 3) (s 63) (s 64) (s 65) s.h
theorem y226 : T1 y1u0 yg7 (y4 3 yg7 (y4 2 y6f xN)) [.t 4] y1im := sq y23q fun _ => by kernel_rfl
theorem y25e : T1 y1kc yg7 (y4 2 y6f xN) [.t 4] y1im := fun s => yt.trans (y226 s)
theorem y1z7 : T1 y1t2 yd1 (y4 2 y6f xN) [.t 4] y1im := sq y1zm y25e
def yji (v2 v3 v63 v64 v65 v66 : AV) (h : Heap) : OX :=
cnd v66
 ((y1sj v2 v3 v63 v64 v65 h))
 ((y9t v2 v3 h))
def y2f6 (s : St) : OX := yji (s 2) (s 3) (s 63) (s 64) (s 65) (s 66) s.h
theorem y1tp : T1 yyi yd1 (y4 2 y6f xN) [.t 4] y2f6 := sq y1z7 fun _ => by kernel_rfl
def yii (v2 v3 v63 v64 v65 : AV) (h : Heap) : OX :=
ob (y5 .lss v65 v64) fun v66 =>
(yji v2 v3 v63 v64 v65 v66 h)
def y2a0 (s : St) : OX := yii (s 2) (s 3) (s 63) (s 64) (s 65) s.h
theorem y1lg : T1 y08 yd1 (y4 2 y6f xN) [.t 4] y2a0 := sq y1tp fun _ => by kernel_rfl
theorem yjk (v2 v3 v63 v64 v65 : AV) (h : Heap) : yhk v2 v3 v63 v64 v65 h = (yii v2 v3 v63 v64 v65 h) :=
  y1r.trans ((y17 _ _ _ (n' := yd1) (fun s => yt1 s)).trans ((y1lg _).trans (by kernel_rfl)))
theorem y1xx : T1 y0y y6f xN [.t 4] yd1 := fun s => yt.trans (yt1 s)
def yrx (v2 v3 : AV) (h : Heap) : OX :=
ob (evFa 8 v3) fun v62 =>
ob (evLd false 1 v62 h) fun v63 =>
ob (y11 1 v63 h) fun v64 =>
(yhk v2 v3 v63 v64 (AV.int .i64 0) h)
def y40 (s : St) : OX := yrx (s 2) (s 3) s.h
theorem y1rc : T1 yyg y6f xN [.t 4] y40 := sq y1xx fun _ => by kernel_rfl
theorem y1ef : T0 y0k [.t 4] y40 := sq y20d y1rc
def yct (v2 v3 v5 v26 v27 : AV) (h : Heap) : OX :=
  W E 0 yiq ⟨[(2, v2), (3, v3), (5, v5), (26, v26), (27, v27)], h⟩ y40 (y4 0 y40 xN) (finP [.t 4])
def y8l (s : St) : OX := yct (s 2) (s 3) (s 5) (s 26) (s 27) s.h
theorem yls : T1 yiq y40 (y4 0 y40 xN) [.t 4] y8l := fun s => yh.trans (by kernel_rfl)
def yv3 (v2 v3 v5 v26 v27 : AV) (h : Heap) : OX :=
ob (y5 .add v27 (AV.int .i64 1)) fun v61 =>
(yct v2 v3 v5 v26 v61 h)
def yak (s : St) : OX := yv3 (s 2) (s 3) (s 5) (s 26) (s 27) s.h
theorem y1g5 : T1 y14r y8l (y4 0 y40 xN) [.t 4] yak := fun _ => by kernel_rfl
def yiz (v2 v3 v5 v7 v8 v26 v27 : AV) (h : Heap) : OX :=
ob (y5 .lss v8 (AV.int .i64 0)) fun v36 =>
gb v36 false (some v8) fun v38 =>
gb v36 false (evFa 0 v2) fun v39 =>
gb v36 false (evLd false 1 v39 h) fun v40 =>
gb v36 false (y11 1 v40 h) fun v41 =>
gb v36 false (y5 .geq v38 v41) fun v42 =>
ob (y8 v36 (AV.bool true) v42) fun v43 =>
gb v43 false (some v7) fun v45 =>
gb v43 false (ype 4 1 v5 v45) fun v46 =>
gb v43 false (evLd false 1 v46 h) fun v47 =>
gb v43 false (y5 .gtr v47 (AV.int .i64 0)) fun v48 =>
gb v43 false (some v48) fun v49 =>
gb v49 true (evFa 0 v2) fun v50 =>
gb v49 true (evLd false 1 v50 h) fun v51 =>
gb v49 true (some v8) fun v52 =>
gb v49 true (yw 1 v51 v52) fun v53 =>
gb v49 true (evLd false 1 v53 h) fun v54 =>
gb v49 true (some v7) fun v55 =>
gb v49 true (ype 4 1 v5 v55) fun v56 =>
gb v49 true (evLd false 1 v56 h) fun v57 =>
gb v49 true (y5 .neq v54 v57) fun v58 =>
gb v43 false (y8 v49 v58 (AV.bool false)) fun v59 =>
ob (y8 v43 (AV.bool true) v59) fun v60 =>
cnd v60
 ((yc h (AV.bool false)))
 ((yv3 v2 v3 v5 v26 v27 h))
def y2f8 (s : St) : OX := yiz (s 2) (s 3) (s 5) (s 7) (s 8) (s 26) (s 27) s.h
theorem y1tx : T1 y17k yak (y4 1 yak (y4 0 y40 xN)) [.t 4] y2f8 := fun _ => by kernel_rfl
def ydi (v2 v3 v5 v7 v8 v26 v27 : AV) (h : Heap) : OX :=
ob (ype 4 1 v5 v7) fun v32 =>
ob (evLd false 1 v32 h) fun v33 =>
ob (y5 .lss v33 (AV.int .i64 0)) fun v34 =>
cnd v34
 ((yv3 v2 v3 v5 v26 v27 h))
 ((yiz v2 v3 v5 v7 v8 v26 v27 h))
def y29e (s : St) : OX := ydi (s 2) (s 3) (s 5) (s 7) (s 8) (s 26) (s 27) s.h
theorem y1jr : T1 y0b yak (y4 1 yak (y4 0 y40 xN)) [.t 4] y29e := sq y1tx fun _ => by kernel_rfl
def y1gb (v2 v3 v5 v26 v27 : AV) (h : Heap) : OX :=
ob (yp6 false 4 1 v26 v27) fun v30 =>
(ydi v2 v3 v5 v27 v30 v26 v27 h)
def yvo (s : St) : OX := y1gb (s 2) (s 3) (s 5) (s 26) (s 27) s.h
theorem y1is : T1 yyr yak (y4 1 yak (y4 0 y40 xN)) [.t 4] yvo := sq y1jr fun _ => by kernel_rfl
theorem y1jt : T1 yz1 yak (y4 0 y40 xN) [.t 4] yvo := fun s => yt.trans (y1is s)
theorem y1p0 : T1 yzn y8l (y4 0 y40 xN) [.t 4] yvo := sq y1g5 y1jt
def y11j (v2 v3 v5 v26 v27 v28 : AV) (h : Heap) : OX :=
cnd v28
 ((y1gb v2 v3 v5 v26 v27 h))
 ((yrx v2 v3 h))
def y2a7 (s : St) : OX := y11j (s 2) (s 3) (s 5) (s 26) (s 27) (s 28) s.h
theorem y1i8 : T1 y17g y8l (y4 0 y40 xN) [.t 4] y2a7 := sq y1p0 fun _ => by kernel_rfl
def y11w (v2 v3 v5 v26 v27 : AV) (h : Heap) : OX :=
ob (y5 .lss v27 (AV.int .i64 4)) fun v28 =>
(y11j v2 v3 v5 v26 v27 v28 h)
def y2bm (s : St) : OX := y11w (s 2) (s 3) (s 5) (s 26) (s 27) s.h
theorem y1i6 : T1 y13c y8l (y4 0 y40 xN) [.t 4] y2bm := sq y1i8 fun _ => by kernel_rfl
theorem yoj (v2 v3 v5 v26 v27 : AV) (h : Heap) : yct v2 v3 v5 v26 v27 h = (y11w v2 v3 v5 v26 v27 h) :=
  y1r.trans ((y17 _ _ _ (n' := y8l) (fun s => yls s)).trans ((y1i6 _).trans (by kernel_rfl)))
theorem y1y1 : T1 y17i y40 xN [.t 4] y8l := fun s => yt.trans (yls s)
def y1n0 (v2 v3 v5 : AV) (h : Heap) : OX :=
ob (evFa 1 v3) fun v18 =>
ob (evLd false 1 v18 h) fun v19 =>
ob (evFa 2 v3) fun v20 =>
ob (evLd false 1 v20 h) fun v21 =>
ob (evFa 3 v3) fun v22 =>
ob (evLd false 1 v22 h) fun v23 =>
ob (evFa 4 v3) fun v24 =>
ob (evLd false 1 v24 h) fun v25 =>
ob (y1b [(.int .i64 0), (.int .i64 0), (.int .i64 0), (.int .i64 0)] [(0, 1, v19), (1, 1, v21), (2, 1, v23), (3, 1, v25)]) fun v26 =>
(yct v2 v3 v5 v26 (AV.int .i64 0) h)
def y1wd (s : St) : OX := y1n0 (s 2) (s 3) (s 5) s.h
theorem y1i1 : T1 yzq y40 xN [.t 4] y1wd := sq y1y1 fun _ => by kernel_rfl
theorem y1qi : T0 y16t [.t 4] y1wd := sq y1ef y1i1
def y18k (v2 v3 v5 v6 : AV) (h : Heap) : OX :=
ob (evUn .not v6) fun v17 =>
cnd v17
 ((yc h (AV.bool false)))
 ((y1n0 v2 v3 v5 h))
def y2f2 (s : St) : OX := y18k (s 2) (s 3) (s 5) (s 6) s.h
theorem y1rl : T0 y197 [.t 4] y2f2 := sq y1qi fun _ => by kernel_rfl
def y13t (v2 v3 : AV) (h : Heap) : OX :=
ob (evLd true 9 v3 h) fun v12 =>
oh (y6 E (y7 E) 0 none true 47 [v12] h) fun v13 h3 =>
ob (ybt 0 v13) fun v14 =>
ob (ybt 1 v13) fun v15 =>
oh (newC 0 (some 2) [(.int .i64 0), (.int .i64 0), (.int .i64 0), (.int .i64 0)] h3) fun v5 h4 =>
oh (evSt 4 v5 v14 h4) fun _ h5 =>
(y18k v2 v3 v5 v15 h5)
def y2bq (s : St) : OX := y13t (s 2) (s 3) s.h
theorem y1iu : T0 y0r [.t 4] y2bq := sq y1rl fun _ => by kernel_rfl
def ys8 (v0 v1 : AV) (h : Heap) : OX :=
oh (newC 0 (some 0) (cellsOf v0) h) fun v2 h6 =>
oh (newC 0 (some 1) (cellsOf v1) h6) fun v3 h7 =>
(y13t v2 v3 h7)
def y294 (s : St) : OX := ys8 (s 0) (s 1) s.h
theorem y1jx : T0 y140 [.t 4] y294 := sq y1iu fun _ => by kernel_rfl
@[simp] theorem y2t7 : E.pure 63 = true := rfl
theorem y2ta (v0 v1 : AV) : (y7 E).p 63 [v0, v1] = ys8 v0 v1 [⟨0, .dead⟩, ⟨0, .dead⟩, ⟨0, .dead⟩] :=
  (yv (cf := y2m9) (by kernel_rfl) rfl).trans ((y1jx _).trans (by kernel_rfl))
def y2g6 (v0 : AV) (h : Heap) : OX :=
oh (newC 0 (some 0) (cellsOf v0) h) fun v1 h1 =>
ob (evFa 0 v1) fun v3 =>
ob (evLd false 1 v3 h1) fun v4 =>
ob (y5 .eql v4 (AV.int .i64 27)) fun v5 =>
gb v5 false (evFa 0 v1) fun v7 =>
gb v5 false (evLd false 1 v7 h1) fun v8 =>
gb v5 false (y5 .eql v8 (AV.int .i64 28)) fun v9 =>
ob (y8 v5 (AV.bool true) v9) fun v10 =>
gb v10 false (evFa 0 v1) fun v12 =>
gb v10 false (evLd false 1 v12 h1) fun v13 =>
gb v10 false (y5 .eql v13 (AV.int .i64 29)) fun v14 =>
ob (y8 v10 (AV.bool true) v14) fun v15 =>
(yc h1 v15)
def y2kz (s : St) : OX := y2g6 (s 0) s.h
theorem y218 : T0 y1kg [.t 2] y2kz := fun _ => by kernel_rfl
@[simp] theorem y2qb : E.pure 22 = true := rfl
theorem y2t4 (v0 : AV) : (y7 E).p 22 [v0] = y2g6 v0 [⟨0, .dead⟩] :=
  (yv (cf := y2nj) (by kernel_rfl) rfl).trans ((y218 _).trans (by kernel_rfl))
def y1gh (v5 : AV) (h : Heap) : OX :=
(yc h v5)
def y1c (s : St) : OX := y1gh (s 5) s.h
theorem y21r : T0 y1x6 [.t 2] y1c := fun _ => by kernel_rfl
def yd9 (v1 v3 v5 v6 : AV) (h : Heap) : OX :=
  W E 0 yoy ⟨[(1, v1), (3, v3), (5, v5), (6, v6)], h⟩ y1c (y4 2 y1c xN) (finP [.t 2])
def yg (s : St) : OX := yd9 (s 1) (s 3) (s 5) (s 6) s.h
theorem ytt : T1 yoy y1c (y4 2 y1c xN) [.t 2] yg := fun s => yh.trans (by kernel_rfl)
def yj1 (v1 v3 v5 v6 v7 : AV) (h : Heap) : OX :=
  W E 0 yp8 ⟨[(1, v1), (3, v3), (5, v5), (6, v6), (7, v7)], h⟩ yg (y4 4 yg (y4 3 yg (y4 2 y1c xN))) (finP [.t 2])
def yfe (s : St) : OX := yj1 (s 1) (s 3) (s 5) (s 6) (s 7) s.h
theorem yso : T1 yp8 yg (y4 4 yg (y4 3 yg (y4 2 y1c xN))) [.t 2] yfe := fun s => yh.trans (by kernel_rfl)
def y25q (v1 v3 v5 v6 v7 : AV) (h : Heap) : OX :=
ob (y5 .sub v7 (AV.int .i64 1)) fun v75 =>
(yj1 v1 v3 v5 v6 v75 h)
def y24 (s : St) : OX := y25q (s 1) (s 3) (s 5) (s 6) (s 7) s.h
theorem y249 : T1 y1w2 yfe (y4 4 yg (y4 3 yg (y4 2 y1c xN))) [.t 2] y24 := fun _ => by kernel_rfl
def y1dp (v1 v3 v5 v6 v7 v12 : AV) (h : Heap) : OX :=
ob (y1u v5) fun v168 =>
ob (evFa 0 v168) fun v169 =>
ob (evLd false 1 v169 h) fun v170 =>
ob (yw 1 v170 v7) fun v172 =>
ob (evLd false 1 v172 h) fun v173 =>
oh (y6 E (y7 E) 0 none false 84 [v173, v12] h) fun v175 h1 =>
gb v175 false (some v6) fun v177 =>
ob (y8 v175 (AV.bool true) v177) fun v178 =>
(y25q v1 v3 v5 v178 v7 h1)
def yad (s : St) : OX := y1dp (s 1) (s 3) (s 5) (s 6) (s 7) (s 12) s.h
theorem y247 : T1 y1fa y24 (y4 5 y24 (y4 4 yg (y4 3 yg (y4 2 y1c xN)))) [.t 2] yad := fun _ => by kernel_rfl
def ysf (v1 v3 v5 v6 v7 v12 v157 v158 v159 : AV) (h : Heap) : OX :=
  W E 0 yq6 ⟨[(1, v1), (3, v3), (5, v5), (6, v6), (7, v7), (12, v12), (157, v157), (158, v158), (159, v159)], h⟩ yad (y4 10 yad (y4 5 y24 (y4 4 yg (y4 3 yg (y4 2 y1c xN))))) (finP [.t 2])
def yd4 (s : St) : OX := ysf (s 1) (s 3) (s 5) (s 6) (s 7) (s 12) (s 157) (s 158) (s 159) s.h
theorem yuq : T1 yq6 yad (y4 10 yad (y4 5 y24 (y4 4 yg (y4 3 yg (y4 2 y1c xN))))) [.t 2] yd4 := fun s => yh.trans (by kernel_rfl)
def y2ad (v1 v3 v5 v6 v7 v12 v157 v158 v159 : AV) (h : Heap) : OX :=
ob (y5 .add v159 (AV.int .i64 1)) fun v166 =>
(ysf v1 v3 v5 v6 v7 v12 v157 v158 v166 h)
def y2hz (s : St) : OX := y2ad (s 1) (s 3) (s 5) (s 6) (s 7) (s 12) (s 157) (s 158) (s 159) s.h
theorem y1yc : T1 y1ie yd4 (y4 10 yad (y4 5 y24 (y4 4 yg (y4 3 yg (y4 2 y1c xN))))) [.t 2] y2hz := fun _ => by kernel_rfl
def y29a (v1 v3 v5 v6 v7 v12 v157 v158 v159 : AV) (h : Heap) : OX :=
ob (yw 1 v157 v159) fun v161 =>
ob (evLd false 1 v161 h) fun v162 =>
oh (y6 E (y7 E) 0 none false 86 [v12, v162] h) fun v165 h2 =>
(y2ad v1 v3 v5 v6 v7 v12 v157 v158 v159 h2)
def y2ka (s : St) : OX := y29a (s 1) (s 3) (s 5) (s 6) (s 7) (s 12) (s 157) (s 158) (s 159) s.h
theorem y21m : T1 y1hr yd4 (y4 10 yad (y4 5 y24 (y4 4 yg (y4 3 yg (y4 2 y1c xN))))) [.t 2] y2ka := sq y1yc fun _ => by kernel_rfl
def y1z9 (v1 v3 v5 v6 v7 v12 v157 v158 v159 v160 : AV) (h : Heap) : OX :=
cnd v160
 ((y29a v1 v3 v5 v6 v7 v12 v157 v158 v159 h))
 ((y1dp v1 v3 v5 v6 v7 v12 h))
def y2n3 (s : St) : OX := y1z9 (s 1) (s 3) (s 5) (s 6) (s 7) (s 12) (s 157) (s 158) (s 159) (s 160) s.h
theorem y21v : T1 y1gz yd4 (y4 10 yad (y4 5 y24 (y4 4 yg (y4 3 yg (y4 2 y1c xN))))) [.t 2] y2n3 := sq y21m fun _ => by kernel_rfl
def y16a (v1 v3 v5 v6 v7 v12 v157 v158 v159 : AV) (h : Heap) : OX :=
ob (y5 .lss v159 v158) fun v160 =>
(y1z9 v1 v3 v5 v6 v7 v12 v157 v158 v159 v160 h)
def y28h (s : St) : OX := y16a (s 1) (s 3) (s 5) (s 6) (s 7) (s 12) (s 157) (s 158) (s 159) s.h
theorem y1nx : T1 yyp yd4 (y4 10 yad (y4 5 y24 (y4 4 yg (y4 3 yg (y4 2 y1c xN))))) [.t 2] y28h := sq y21v fun _ => by kernel_rfl
theorem yut (v1 v3 v5 v6 v7 v12 v157 v158 v159 : AV) (h : Heap) : ysf v1 v3 v5 v6 v7 v12 v157 v158 v159 h = (y16a v1 v3 v5 v6 v7 v12 v157 v158 v159 h) :=
  y1r.trans ((y17 _ _ _ (n' := yd4) (fun s => yuq s)).trans ((y1nx _).trans (by kernel_rfl)))
theorem y1gf : T1 y147 yad (y4 5 y24 (y4 4 yg (y4 3 yg (y4 2 y1c xN)))) [.t 2] yd4 := fun s => yt.trans (yuq s)
def y1m0 (v1 v3 v5 v6 v7 v12 : AV) (h : Heap) : OX :=
ob (evFa 3 v1) fun v152 =>
ob (evLd false 1 v152 h) fun v153 =>
ob (yw 9 v153 v7) fun v155 =>
ob (evLd true 9 v155 h) fun v156 =>
oh (y6 E (y7 E) 0 none true 10 [v156] h) fun v157 h3 =>
ob (y11 1 v157 h3) fun v158 =>
(ysf v1 v3 v5 v6 v7 v12 v157 v158 (AV.int .i64 0) h3)
def y1q2 (s : St) : OX := y1m0 (s 1) (s 3) (s 5) (s 6) (s 7) (s 12) s.h
theorem y1fj : T1 y17c yad (y4 5 y24 (y4 4 yg (y4 3 yg (y4 2 y1c xN)))) [.t 2] y1q2 := sq y1gf fun _ => by kernel_rfl
theorem y1mk : T1 yyd y24 (y4 5 y24 (y4 4 yg (y4 3 yg (y4 2 y1c xN)))) [.t 2] y1q2 := sq y247 y1fj
def ym3 (v1 v3 v5 v6 v7 v12 : AV) (h : Heap) : OX :=
ob (y1u v5) fun v145 =>
ob (evFa 2 v145) fun v146 =>
ob (evLd false 1 v146 h) fun v147 =>
ob (yw 1 v147 v7) fun v149 =>
ob (evLd false 1 v149 h) fun v150 =>
oh (y6 E (y7 E) 0 none false 84 [v12, v150] h) fun v151 h4 =>
(y1m0 v1 v3 v5 v6 v7 v12 h4)
def y2g5 (s : St) : OX := ym3 (s 1) (s 3) (s 5) (s 6) (s 7) (s 12) s.h
theorem y1rj : T1 y16b y24 (y4 5 y24 (y4 4 yg (y4 3 yg (y4 2 y1c xN)))) [.t 2] y2g5 := sq y1mk fun _ => by kernel_rfl
def ym2 (v1 v3 v5 v6 v7 v12 : AV) (h : Heap) : OX :=
ob (evFa 3 v1) fun v132 =>
ob (evLd false 1 v132 h) fun v133 =>
ob (yw 9 v133 v7) fun v135 =>
ob (evLd true 9 v135 h) fun v136 =>
oh (y6 E (y7 E) 0 none true 9 [v136] h) fun v137 h5 =>
ob (y5 .geq v137 (AV.int .i64 0)) fun v139 =>
cnd v139
 (oh (y6 E (y7 E) 0 none false 85 [v12, v137] h5) fun v142 h6 =>
(ym3 v1 v3 v5 v6 v7 v12 h6))
 ((ym3 v1 v3 v5 v6 v7 v12 h5))
def y2gf (s : St) : OX := ym2 (s 1) (s 3) (s 5) (s 6) (s 7) (s 12) s.h
theorem y1lx : T1 y17x y24 (y4 5 y24 (y4 4 yg (y4 3 yg (y4 2 y1c xN)))) [.t 2] y2gf := sq y1rj fun _ => by kernel_rfl
def y1rx (v1 v3 v5 v6 v7 : AV) (h : Heap) : OX :=
ob (y1u v5) fun v125 =>
ob (evFa 1 v125) fun v126 =>
ob (evLd false 1 v126 h) fun v127 =>
ob (yw 1 v127 v7) fun v129 =>
ob (evLd false 1 v129 h) fun v130 =>
oh (y2b 0 (some 2) 1 8 AV.nils v130 h) fun v131 h7 =>
(ym2 v1 v3 v5 v6 v7 v131 h7)
def y6m (s : St) : OX := y1rx (s 1) (s 3) (s 5) (s 6) (s 7) s.h
theorem y1hl : T1 yy5 y24 (y4 5 y24 (y4 4 yg (y4 3 yg (y4 2 y1c xN)))) [.t 2] y6m := sq y1lx fun _ => by kernel_rfl
def ycu (v1 v3 v5 v6 v7 v102 v103 v104 : AV) (h : Heap) : OX :=
  W E 0 yhv ⟨[(1, v1), (3, v3), (5, v5), (6, v6), (7, v7), (102, v102), (103, v103), (104, v104)], h⟩ y6m (y4 8 y6m (y4 5 y24 (y4 4 yg (y4 3 yg (y4 2 y1c xN))))) (finP [.t 2])
def y7z (s : St) : OX := ycu (s 1) (s 3) (s 5) (s 6) (s 7) (s 102) (s 103) (s 104) s.h
theorem yo4 : T1 yhv y6m (y4 8 y6m (y4 5 y24 (y4 4 yg (y4 3 yg (y4 2 y1c xN))))) [.t 2] y7z := fun s => yh.trans (by kernel_rfl)
def y1xq (v1 v3 v5 v6 v7 v102 v103 v104 : AV) (h : Heap) : OX :=
ob (y5 .add v104 (AV.int .i64 1)) fun v123 =>
(ycu v1 v3 v5 v6 v7 v102 v103 v123 h)
def y2f3 (s : St) : OX := y1xq (s 1) (s 3) (s 5) (s 6) (s 7) (s 102) (s 103) (s 104) s.h
theorem y1jg : T1 yz3 y7z (y4 8 y6m (y4 5 y24 (y4 4 yg (y4 3 yg (y4 2 y1c xN))))) [.t 2] y2f3 := fun _ => by kernel_rfl
def y1id (v1 v3 v5 v6 v7 v102 v103 v104 : AV) (h : Heap) : OX :=
ob (yw 1 v102 v104) fun v106 =>
ob (evLd false 1 v106 h) fun v107 =>
ob (y1u v5) fun v109 =>
ob (evFa 2 v109) fun v110 =>
ob (evLd false 1 v110 h) fun v111 =>
ob (yw 1 v111 v7) fun v113 =>
ob (evLd false 1 v113 h) fun v114 =>
ob (y1u v5) fun v116 =>
ob (evFa 0 v116) fun v117 =>
ob (evLd false 1 v117 h) fun v118 =>
ob (yw 1 v118 v107) fun v120 =>
ob (evLd false 1 v120 h) fun v121 =>
oh (y6 E (y7 E) 0 none false 84 [v114, v121] h) fun v122 h8 =>
(y1xq v1 v3 v5 v6 v7 v102 v103 v104 h8)
def y28n (s : St) : OX := y1id (s 1) (s 3) (s 5) (s 6) (s 7) (s 102) (s 103) (s 104) s.h
theorem y1uc : T1 y19l y7z (y4 8 y6m (y4 5 y24 (y4 4 yg (y4 3 yg (y4 2 y1c xN))))) [.t 2] y28n := sq y1jg fun _ => by kernel_rfl
def y122 (v1 v3 v5 v6 v7 v102 v103 v104 v105 : AV) (h : Heap) : OX :=
cnd v105
 ((y1id v1 v3 v5 v6 v7 v102 v103 v104 h))
 ((y1rx v1 v3 v5 v6 v7 h))
def y2b6 (s : St) : OX := y122 (s 1) (s 3) (s 5) (s 6) (s 7) (s 102) (s 103) (s 104) (s 105) s.h
theorem y1sf : T1 y16m y7z (y4 8 y6m (y4 5 y24 (y4 4 yg (y4 3 yg (y4 2 y1c xN))))) [.t 2] y2b6 := sq y1uc fun _ => by kernel_rfl
def y148 (v1 v3 v5 v6 v7 v102 v103 v104 : AV) (h : Heap) : OX :=
ob (y5 .lss v104 v103) fun v105 =>
(y122 v1 v3 v5 v6 v7 v102 v103 v104 v105 h)
def y28j (s : St) : OX := y148 (s 1) (s 3) (s 5) (s 6) (s 7) (s 102) (s 103) (s 104) s.h
theorem y1nv : T1 y194 y7z (y4 8 y6m (y4 5 y24 (y4 4 yg (y4 3 yg (y4 2 y1c xN))))) [.t 2] y28j := sq y1sf fun _ => by kernel_rfl
theorem yl9 (v1 v3 v5 v6 v7 v102 v103 v104 : AV) (h : Heap) : ycu v1 v3 v5 v6 v7 v102 v103 v104 h = (y148 v1 v3 v5 v6 v7 v102 v103 v104 h) :=
  y1r.trans ((y17 _ _ _ (n' := y7z) (fun s => yo4 s)).trans ((y1nv _).trans (by kernel_rfl)))
theorem y1wo : T1 y17w y6m (y4 5 y24 (y4 4 yg (y4 3 yg (y4 2 y1c xN)))) [.t 2] y7z := fun s => yt.trans (yo4 s)
def y1nd (v1 v3 v5 v6 v7 : AV) (h : Heap) : OX :=
ob (evLd true 5 v1 h) fun v100 =>
oh (y6 E (y7 E) 0 none true 79 [v100, v7] h) fun v102 h9 =>
ob (y11 1 v102 h9) fun v103 =>
(ycu v1 v3 v5 v6 v7 v102 v103 (AV.int .i64 0) h9)
def y5r (s : St) : OX := y1nd (s 1) (s 3) (s 5) (s 6) (s 7) s.h
theorem y1lw : T1 yzz y6m (y4 5 y24 (y4 4 yg (y4 3 yg (y4 2 y1c xN)))) [.t 2] y5r := sq y1wo fun _ => by kernel_rfl
theorem y1lv : T1 y14z y24 (y4 5 y24 (y4 4 yg (y4 3 yg (y4 2 y1c xN)))) [.t 2] y5r := sq y1hl y1lw
def ych (v1 v3 v5 v6 v7 v78 v79 v80 : AV) (h : Heap) : OX :=
  W E 0 yha ⟨[(1, v1), (3, v3), (5, v5), (6, v6), (7, v7), (78, v78), (79, v79), (80, v80)], h⟩ y5r (y4 6 y5r (y4 5 y24 (y4 4 yg (y4 3 yg (y4 2 y1c xN))))) (finP [.t 2])
def y83 (s : St) : OX := ych (s 1) (s 3) (s 5) (s 6) (s 7) (s 78) (s 79) (s 80) s.h
theorem ymc : T1 yha y5r (y4 6 y5r (y4 5 y24 (y4 4 yg (y4 3 yg (y4 2 y1c xN))))) [.t 2] y83 := fun s => yh.trans (by kernel_rfl)
def y1lj (v1 v3 v5 v6 v7 v78 v79 v80 : AV) (h : Heap) : OX :=
ob (y5 .add v80 (AV.int .i64 1)) fun v99 =>
(ych v1 v3 v5 v6 v7 v78 v79 v99 h)
def y28q (s : St) : OX := y1lj (s 1) (s 3) (s 5) (s 6) (s 7) (s 78) (s 79) (s 80) s.h
theorem y1ei : T1 y15x y83 (y4 6 y5r (y4 5 y24 (y4 4 yg (y4 3 yg (y4 2 y1c xN))))) [.t 2] y28q := fun _ => by kernel_rfl
def y1x1 (v1 v3 v5 v6 v7 v78 v79 v80 : AV) (h : Heap) : OX :=
ob (yw 1 v78 v80) fun v82 =>
ob (evLd false 1 v82 h) fun v83 =>
ob (y1u v5) fun v85 =>
ob (evFa 1 v85) fun v86 =>
ob (evLd false 1 v86 h) fun v87 =>
ob (yw 1 v87 v7) fun v89 =>
ob (evLd false 1 v89 h) fun v90 =>
ob (y1u v5) fun v92 =>
ob (evFa 0 v92) fun v93 =>
ob (evLd false 1 v93 h) fun v94 =>
ob (yw 1 v94 v83) fun v96 =>
ob (evLd false 1 v96 h) fun v97 =>
oh (y6 E (y7 E) 0 none false 84 [v90, v97] h) fun v98 h10 =>
(y1lj v1 v3 v5 v6 v7 v78 v79 v80 h10)
def y2e8 (s : St) : OX := y1x1 (s 1) (s 3) (s 5) (s 6) (s 7) (s 78) (s 79) (s 80) s.h
theorem y1n4 : T1 y18p y83 (y4 6 y5r (y4 5 y24 (y4 4 yg (y4 3 yg (y4 2 y1c xN))))) [.t 2] y2e8 := sq y1ei fun _ => by kernel_rfl
def y13p (v1 v3 v5 v6 v7 v78 v79 v80 v81 : AV) (h : Heap) : OX :=
cnd v81
 ((y1x1 v1 v3 v5 v6 v7 v78 v79 v80 h))
 ((y1nd v1 v3 v5 v6 v7 h))
def y2di (s : St) : OX := y13p (s 1) (s 3) (s 5) (s 6) (s 7) (s 78) (s 79) (s 80) (s 81) s.h
theorem y1mi : T1 y17v y83 (y4 6 y5r (y4 5 y24 (y4 4 yg (y4 3 yg (y4 2 y1c xN))))) [.t 2] y2di := sq y1n4 fun _ => by kernel_rfl
def y16i (v1 v3 v5 v6 v7 v78 v79 v80 : AV) (h : Heap) : OX :=
ob (y5 .lss v80 v79) fun v81 =>
(y13p v1 v3 v5 v6 v7 v78 v79 v80 v81 h)
def y2fr (s : St) : OX := y16i (s 1) (s 3) (s 5) (s 6) (s 7) (s 78) (s 79) (s 80) s.h
theorem y1j5 : T1 y175 y83 (y4 6 y5r (y4 5 y24 (y4 4 yg (y4 3 yg (y4 2 y1c xN))))) [.t 2] y2fr := sq y1mi fun _ => by kernel_rfl
theorem ynq (v1 v3 v5 v6 v7 v78 v79 v80 : AV) (h : Heap) : ych v1 v3 v5 v6 v7 v78 v79 v80 h = (y16i v1 v3 v5 v6 v7 v78 v79 v80 h) :=
  y1r.trans ((y17 _ _ _ (n' := y83) (fun s => ymc s)).trans ((y1j5 _).trans (by kernel_rfl)))
theorem y1ew : T1 y17o y5r (y4 5 y24 (y4 4 yg (y4 3 yg (y4 2 y1c xN)))) [.t 2] y83 := fun s => yt.trans (ymc s)
def y1h4 (v1 v3 v5 v6 v7 : AV) (h : Heap) : OX :=
ob (evLd true 5 v1 h) fun v76 =>
oh (y6 E (y7 E) 0 none true 81 [v76, v7] h) fun v78 h11 =>
ob (y11 1 v78 h11) fun v79 =>
(ych v1 v3 v5 v6 v7 v78 v79 (AV.int .i64 0) h11)
def ypi (s : St) : OX := y1h4 (s 1) (s 3) (s 5) (s 6) (s 7) s.h
theorem y1no : T1 y164 y5r (y4 5 y24 (y4 4 yg (y4 3 yg (y4 2 y1c xN)))) [.t 2] ypi := sq y1ew fun _ => by kernel_rfl
theorem y1q7 : T1 y17l y24 (y4 5 y24 (y4 4 yg (y4 3 yg (y4 2 y1c xN)))) [.t 2] ypi := sq y1lv y1no
theorem y1fq : T1 yye y24 (y4 4 yg (y4 3 yg (y4 2 y1c xN))) [.t 2] ypi := fun s => yt.trans (y1q7 s)
theorem y1j9 : T1 y11u yfe (y4 4 yg (y4 3 yg (y4 2 y1c xN))) [.t 2] ypi := sq y249 y1fq
def y14q (v1 v3 v5 v6 v7 : AV) (h : Heap) : OX :=
ob (y5 .geq v7 (AV.int .i64 0)) fun v73 =>
cnd v73
 ((y1h4 v1 v3 v5 v6 v7 h))
 ((yd9 v1 v3 v5 v6 h))
def y2cf (s : St) : OX := y14q (s 1) (s 3) (s 5) (s 6) (s 7) s.h
theorem y1n3 : T1 y17s yfe (y4 4 yg (y4 3 yg (y4 2 y1c xN))) [.t 2] y2cf := sq y1j9 fun _ => by kernel_rfl
theorem yry (v1 v3 v5 v6 v7 : AV) (h : Heap) : yj1 v1 v3 v5 v6 v7 h = (y14q v1 v3 v5 v6 v7 h) :=
  y1r.trans ((y17 _ _ _ (n' := yfe) (fun s => yso s)).trans ((y1n3 _).trans (by kernel_rfl)))
theorem y1ki : T1 y163 yg (y4 3 yg (y4 2 y1c xN)) [.t 2] yfe := fun s => yt.trans (yso s)
def y1m5 (v1 v3 v5 v6 : AV) (h : Heap) : OX :=
ob (y5 .sub v3 (AV.int .i64 1)) fun v71 =>
(yj1 v1 v3 v5 v6 v71 h)
def y2ep (s : St) : OX := y1m5 (s 1) (s 3) (s 5) (s 6) s.h
theorem y1tz : T1 y139 yg (y4 3 yg (y4 2 y1c xN)) [.t 2] y2ep := sq y1ki fun _ => by kernel_rfl
def y1hy (v1 v3 v5 : AV) (h : Heap) : OX :=
(y1m5 v1 v3 v5 (AV.bool false) h)
def y1lq (s : St) : OX := y1hy (s 1) (s 3) (s 5) s.h
theorem y1ty : T1 y19i yg (y4 3 yg (y4 2 y1c xN)) [.t 2] y1lq := sq y1tz fun _ => by kernel_rfl
theorem y1w3 : T1 y183 yg (y4 2 y1c xN) [.t 2] y1lq := fun s => yt.trans (y1ty s)
def y179 (v1 v3 v5 v6 : AV) (h : Heap) : OX :=
cnd v6
 ((y1hy v1 v3 v5 h))
 ((y1gh v5 h))
def y2fi (s : St) : OX := y179 (s 1) (s 3) (s 5) (s 6) s.h
theorem y1ix : T1 y13s yg (y4 2 y1c xN) [.t 2] y2fi := sq y1w3 fun _ => by kernel_rfl
theorem yrd (v1 v3 v5 v6 : AV) (h : Heap) : yd9 v1 v3 v5 v6 h = (y179 v1 v3 v5 v6 h) :=
  y1r.trans ((y17 _ _ _ (n' := yg) (fun s => ytt s)).trans ((y1ix _).trans (by kernel_rfl)))
theorem y1vt : T1 y18y y1c xN [.t 2] yg := fun s => yt.trans (ytt s)
def y16e (v1 v3 v5 : AV) (h : Heap) : OX :=
(yd9 v1 v3 v5 (AV.bool true) h)
def y5t (s : St) : OX := y16e (s 1) (s 3) (s 5) s.h
theorem y1u2 : T1 y17f y1c xN [.t 2] y5t := sq y1vt fun _ => by kernel_rfl
theorem y1xr : T0 y12j [.t 2] y5t := sq y21r y1u2
def yi7 (v1 v3 v4 v5 v32 v33 : AV) (h : Heap) : OX :=
  W E 0 yie ⟨[(1, v1), (3, v3), (4, v4), (5, v5), (32, v32), (33, v33)], h⟩ y5t (y4 0 y5t xN) (finP [.t 2])
def y80 (s : St) : OX := yi7 (s 1) (s 3) (s 4) (s 5) (s 32) (s 33) s.h
theorem ylh : T1 yie y5t (y4 0 y5t xN) [.t 2] y80 := fun s => yh.trans (by kernel_rfl)
def ylq (v1 v3 v4 v5 v32 v33 : AV) (h : Heap) : OX :=
ob (y5 .add v33 (AV.int .i64 1)) fun v68 =>
(yi7 v1 v3 v4 v5 v32 v68 h)
def y2c0 (s : St) : OX := ylq (s 1) (s 3) (s 4) (s 5) (s 32) (s 33) s.h
theorem y1ho : T1 y0l y80 (y4 0 y5t xN) [.t 2] y2c0 := fun _ => by kernel_rfl
def yli (v1 v3 v4 v5 v32 v33 : AV) (h : Heap) : OX :=
ob (y1u v5) fun v39 =>
ob (evFa 0 v39) fun v40 =>
ob (evLd false 1 v40 (h ++ yi 9)) fun v41 =>
oh (mkSC h.length (some 0) 1 8 [(.int .u64 0)] v4 v4 (h ++ yi 9)) fun v43 h12 =>
oh (yr h.length (some 1) 1 1 [.nils] [(0, v43)] h12) fun v44 h13 =>
oh (y2b h.length (some 2) 1 24 v41 v44 h13) fun v45 h14 =>
ob (y1u v5) fun v47 =>
ob (evFa 1 v47) fun v48 =>
ob (evLd false 1 v48 h14) fun v49 =>
oh (mkSC h.length (some 3) 1 8 [(.int .u64 0)] v4 v4 h14) fun v51 h15 =>
oh (yr h.length (some 4) 1 1 [.nils] [(0, v51)] h15) fun v52 h16 =>
oh (y2b h.length (some 5) 1 24 v49 v52 h16) fun v53 h17 =>
ob (y1u v5) fun v55 =>
ob (evFa 2 v55) fun v56 =>
ob (evLd false 1 v56 h17) fun v57 =>
oh (mkSC h.length (some 6) 1 8 [(.int .u64 0)] v4 v4 h17) fun v59 h18 =>
oh (yr h.length (some 7) 1 1 [.nils] [(0, v59)] h18) fun v60 h19 =>
oh (y2b h.length (some 8) 1 24 v57 v60 h19) fun v61 h20 =>
ob (y1u v5) fun v62 =>
ob (evFa 0 v62) fun v63 =>
oh (evSt 1 v63 v45 h20) fun _ h21 =>
ob (y1u v5) fun v64 =>
ob (evFa 1 v64) fun v65 =>
oh (evSt 1 v65 v53 h21) fun _ h22 =>
ob (y1u v5) fun v66 =>
ob (evFa 2 v66) fun v67 =>
oh (evSt 1 v67 v61 h22) fun _ h23 =>
okK (yf [([], []), ([], []), ([], []), ([], []), ([], []), ([], []), (ids1 v40, []), ([], []), ([], [h.length + 0]), ([], [h.length + 1]), (ids1 v44, ids1 v41 ++ [h.length + 2]), ([], []), ([], []), ([], []), (ids1 v48, []), ([], []), ([], [h.length + 3]), ([], [h.length + 4]), (ids1 v52, ids1 v49 ++ [h.length + 5]), ([], []), ([], []), ([], []), (ids1 v56, []), ([], []), ([], [h.length + 6]), ([], [h.length + 7]), (ids1 v60, ids1 v57 ++ [h.length + 8]), ([], []), ([], []), ([], ids1 v63), ([], []), ([], []), ([], ids1 v65), ([], []), ([], []), ([], ids1 v67)] [(6, 8), (6, 9), (8, 14), (9, 14), (10, 14), (6, 16), (8, 16), (9, 16), (10, 16), (14, 16), (6, 17), (8, 17), (9, 17), (10, 17), (14, 17), (8, 22), (9, 22), (10, 22), (16, 22), (17, 22), (18, 22), (6, 24), (8, 24), (9, 24), (10, 24), (14, 24), (16, 24), (17, 24), (18, 24), (22, 24), (6, 25), (8, 25), (9, 25), (10, 25), (14, 25), (16, 25), (17, 25), (18, 25), (22, 25)]) <|
(ylq v1 v3 v4 v5 v32 v33 h23)
def y2dv (s : St) : OX := yli (s 1) (s 3) (s 4) (s 5) (s 32) (s 33) s.h
theorem y1j8 : T1 y13h y80 (y4 0 y5t xN) [.t 2] y2dv := sq y1ho fun _ => by kernel_rfl
def yrq (v1 v3 v4 v5 v32 v33 v34 : AV) (h : Heap) : OX :=
cnd v34
 ((yli v1 v3 v4 v5 v32 v33 h))
 ((y16e v1 v3 v5 h))
def y2c9 (s : St) : OX := yrq (s 1) (s 3) (s 4) (s 5) (s 32) (s 33) (s 34) s.h
theorem y1je : T1 yzt y80 (y4 0 y5t xN) [.t 2] y2c9 := sq y1j8 fun _ => by kernel_rfl
def yty (v1 v3 v4 v5 v32 v33 : AV) (h : Heap) : OX :=
ob (y5 .lss v33 v32) fun v34 =>
(yrq v1 v3 v4 v5 v32 v33 v34 h)
def y2go (s : St) : OX := yty (s 1) (s 3) (s 4) (s 5) (s 32) (s 33) s.h
theorem y1mu : T1 yyq y80 (y4 0 y5t xN) [.t 2] y2go := sq y1je fun _ => by kernel_rfl
theorem yem (v1 v3 v4 v5 v32 v33 : AV) (h : Heap) : yi7 v1 v3 v4 v5 v32 v33 h = (yty v1 v3 v4 v5 v32 v33 h) :=
  y1r.trans ((y17 _ _ _ (n' := y80) (fun s => ylh s)).trans ((y1mu _).trans (by kernel_rfl)))
theorem y1l9 : T1 y127 y5t xN [.t 2] y80 := fun s => yt.trans (ylh s)
def y1w6 (v1 v3 v4 v5 : AV) (h : Heap) : OX :=
(yi7 v1 v3 v4 v5 v3 (AV.int .i64 0) h)
def y1p4 (s : St) : OX := y1w6 (s 1) (s 3) (s 4) (s 5) s.h
theorem y1o8 : T1 y12i y5t xN [.t 2] y1p4 := sq y1l9 fun _ => by kernel_rfl
theorem y1kj : T0 y17n [.t 2] y1p4 := sq y1xr y1o8
def y1g8 (v1 v3 v4 : AV) (h : Heap) : OX :=
ob (evFa 0 v1) fun v27 =>
ob (evLd false 1 v27 h) fun v28 =>
ob (y11 1 v28 h) fun v29 =>
ob (y1b [.nils, .nils, .nils, (.int .i64 0)] [(3, 1, v29)]) fun v30 =>
oh (newC 0 (some 1) (cellsOf v30) h) fun v31 h24 =>
(y1w6 v1 v3 v4 v31 h24)
def y2gc (s : St) : OX := y1g8 (s 1) (s 3) (s 4) s.h
theorem y1qx : T0 yy8 [.t 2] y2gc := sq y1kj fun _ => by kernel_rfl
def y1rn (v1 : AV) (h : Heap) : OX :=
ob (evFa 3 v1) fun v19 =>
ob (evLd false 1 v19 h) fun v20 =>
ob (y11 1 v20 h) fun v21 =>
ob (evFa 0 v1) fun v22 =>
ob (evLd false 1 v22 h) fun v23 =>
ob (y11 1 v23 h) fun v24 =>
ob (y5 .quo v24 (AV.int .i64 64)) fun v25 =>
ob (y5 .add v25 (AV.int .i64 1)) fun v26 =>
(y1g8 v1 v21 v26 h)
def y2a9 (s : St) : OX := y1rn (s 1) s.h
theorem y1kw : T0 y15f [.t 2] y2a9 := sq y1qx fun _ => by kernel_rfl
def y1jz (v1 : AV) (h : Heap) : OX :=
ob (evLd true 5 v1 h) fun v16 =>
oh (y6 E (y7 E) 0 none true 8 [v16] h) fun v17 h25 =>
ob (y5 .neq v17 (AV.int .i64 0)) fun v18 =>
cnd v18
 ((yc h25 AV.nilp))
 ((y1rn v1 h25))
def y28i (s : St) : OX := y1jz (s 1) s.h
theorem y1r8 : T0 yyv [.t 2] y28i := sq y1kw fun _ => by kernel_rfl
def y1p9 (v0 : AV) (h : Heap) : OX :=
oh (newC 0 (some 0) (cellsOf v0) h) fun v1 h26 =>
(y1jz v1 h26)
def y2ay (s : St) : OX := y1p9 (s 0) s.h
theorem y1wl : T0 y11v [.t 2] y2ay := sq y1r8 fun _ => by kernel_rfl
@[simp] theorem y2ri : E.pure 75 = true := rfl
theorem y2p3 (v0 : AV) : (y7 E).p 75 [v0] = y1p9 v0 [⟨0, .dead⟩, ⟨0, .dead⟩, ⟨0, .dead⟩] :=
  (yv (cf := y2nw) (by kernel_rfl) rfl).trans ((y1wl _).trans (by kernel_rfl))
def y1fz (h : Heap) : OX :=
(yc h (AV.bool false))
def yi3 (s : St) : OX := y1fz s.h
theorem y21w : T0 y1ul [.t 2] yi3 := fun _ => by kernel_rfl
def ycm (v5 : AV) (h : Heap) : OX :=
cnd v5
 ((yc h (AV.bool true)))
 ((y1fz h))
def y2o2 (s : St) : OX := ycm (s 5) s.h
theorem y23w : T1 y1kt yi3 (y4 0 yi3 xN) [.t 2] y2o2 := fun _ => by kernel_rfl
def y1gi (v4 : AV) (h : Heap) : OX :=
ob (y5 .eql v4 (AV.int .i64 1)) fun v6 =>
cnd v6
 ((ycm v6 h))
 (ob (y5 .eql v4 (AV.int .i64 2)) fun v7 =>
cnd v7
 ((ycm v7 h))
 (ob (y5 .eql v4 (AV.int .i64 3)) fun v8 =>
cnd v8
 ((ycm v8 h))
 (ob (y5 .eql v4 (AV.int .i64 4)) fun v9 =>
cnd v9
 ((ycm v9 h))
 (ob (y5 .eql v4 (AV.int .i64 5)) fun v10 =>
cnd v10
 ((ycm v10 h))
 (ob (y5 .eql v4 (AV.int .i64 6)) fun v11 =>
cnd v11
 ((ycm v11 h))
 (ob (y5 .eql v4 (AV.int .i64 13)) fun v12 =>
cnd v12
 ((ycm v12 h))
 (ob (y5 .eql v4 (AV.int .i64 15)) fun v13 =>
cnd v13
 ((ycm v13 h))
 (ob (y5 .eql v4 (AV.int .i64 16)) fun v14 =>
cnd v14
 ((ycm v14 h))
 (ob (y5 .eql v4 (AV.int .i64 18)) fun v15 =>
cnd v15
 ((ycm v15 h))
 (ob (y5 .eql v4 (AV.int .i64 22)) fun v16 =>
(ycm v16 h)))))))))))
def y26i (s : St) : OX := y1gi (s 4) s.h
theorem y1y4 : T1 y1k8 yi3 (y4 0 yi3 xN) [.t 2] y26i := sq y23w fun _ => by kernel_rfl
theorem y231 : T1 y1o2 yi3 xN [.t 2] y26i := fun s => yt.trans (y1y4 s)
def y1j0 (v1 : AV) (h : Heap) : OX :=
ob (evFa 0 v1) fun v3 =>
ob (evLd false 1 v3 h) fun v4 =>
(y1gi v4 h)
def y269 (s : St) : OX := y1j0 (s 1) s.h
theorem y22a : T1 y1mq yi3 xN [.t 2] y269 := sq y231 fun _ => by kernel_rfl
theorem y20u : T0 y1sk [.t 2] y269 := sq y21w y22a
def y1ma (v0 : AV) (h : Heap) : OX :=
oh (newC 0 (some 0) (cellsOf v0) h) fun v1 h1 =>
(y1j0 v1 h1)
def y2m3 (s : St) : OX := y1ma (s 0) s.h
theorem y25h : T0 y1v4 [.t 2] y2m3 := sq y20u fun _ => by kernel_rfl
@[simp] theorem y2r7 : E.pure 20 = true := rfl
theorem y2p7 (v0 : AV) : (y7 E).p 20 [v0] = y1ma v0 [⟨0, .dead⟩] :=
  (yv (cf := y2li) (by kernel_rfl) rfl).trans ((y25h _).trans (by kernel_rfl))
def y2ap (v0 v1 v2 : AV) (h : Heap) : OX :=
ob (yc2 0 true v0 AV.nilp) fun v8 =>
gb v8 true (some v0) fun v10 =>
gb v8 true (some v0) fun v11 =>
gb v8 true (y1u v11) fun v12 =>
gb v8 true (evFa 1 v12) fun v13 =>
gb v8 true (evLd false 1 v13 h) fun v14 =>
gb v8 true (some v1) fun v15 =>
gb v8 true (some v2) fun v16 =>
gh v8 true (y6 E (y7 E) 0 none true 82 [v10, v14, v15, v16] h) h fun v17 h1 =>
ob (y8 v8 v17 (AV.bool false)) fun v18 =>
(yc h1 v18)
def y2mq (s : St) : OX := y2ap (s 0) (s 1) (s 2) s.h
theorem y22n : T0 y1ga [.t 6] y2mq := fun _ => by kernel_rfl
@[simp] theorem y2sb : E.pure 87 = true := rfl
theorem y2ru (v0 v1 v2 : AV) : (y7 E).p 87 [v0, v1, v2] = y2ap v0 v1 v2 [] :=
  (yv (cf := y2kq) (by kernel_rfl) rfl).trans ((y22n _).trans (by kernel_rfl))
def y1py (v5 : AV) (h : Heap) : OX :=
(yc h v5)
def y5z (s : St) : OX := y1py (s 5) s.h
theorem y23p : T0 y1l2 [.t 4] y5z := fun _ => by kernel_rfl
def ys5 (v1 v5 v27 v28 v29 : AV) (h : Heap) : OX :=
  W E 0 yq3 ⟨[(1, v1), (5, v5), (27, v27), (28, v28), (29, v29)], h⟩ y5z (y4 0 y5z xN) (finP [.t 4])
def ycn (s : St) : OX := ys5 (s 1) (s 5) (s 27) (s 28) (s 29) s.h
theorem yrf : T1 yq3 y5z (y4 0 y5z xN) [.t 4] ycn := fun s => yh.trans (by kernel_rfl)
def y1bs (v1 v5 v27 v28 v29 : AV) (h : Heap) : OX :=
ob (y5 .add v29 (AV.int .i64 1)) fun v56 =>
(ys5 v1 v5 v27 v28 v56 h)
def ybw (s : St) : OX := y1bs (s 1) (s 5) (s 27) (s 28) (s 29) s.h
theorem y208 : T1 y1g4 ycn (y4 0 y5z xN) [.t 4] ybw := fun _ => by kernel_rfl
def y1b9 (v1 v5 v7 v27 v28 v29 : AV) (h : Heap) : OX :=
ob (evFa 3 v7) fun v53 =>
ob (evLd false 1 v53 h) fun v54 =>
ob (y5 .eql v54 (AV.str [])) fun v55 =>
cnd v55
 ((y1py v5 h))
 ((y1bs v1 v5 v27 v28 v29 h))
def y2j8 (s : St) : OX := y1b9 (s 1) (s 5) (s 7) (s 27) (s 28) (s 29) s.h
theorem y242 : T1 y1p6 ybw (y4 1 ybw (y4 0 y5z xN)) [.t 4] y2j8 := fun _ => by kernel_rfl
def y260 (v1 v5 v7 v27 v28 v29 : AV) (h : Heap) : OX :=
ob (evFa 2 v7) fun v44 =>
ob (evLd false 1 v44 h) fun v45 =>
oh (y6 E (y7 E) 0 none true 46 [v5, v45] h) fun v46 h1 =>
ob (evUn .not v46) fun v47 =>
cnd v47
 (ob (evFa 2 v7) fun v49 =>
ob (evLd false 1 v49 h1) fun v50 =>
oh (yr 0 (some 2) 1 1 [(.int .i64 0)] [(0, v50)] h1) fun v51 h2 =>
oh (y2b 0 (some 3) 1 8 v5 v51 h2) fun v52 h3 =>
(y1b9 v1 v52 v7 v27 v28 v29 h3))
 ((y1b9 v1 v5 v7 v27 v28 v29 h1))
def y2k3 (s : St) : OX := y260 (s 1) (s 5) (s 7) (s 27) (s 28) (s 29) s.h
theorem y24y : T1 y1ww ybw (y4 1 ybw (y4 0 y5z xN)) [.t 4] y2k3 := sq y242 fun _ => by kernel_rfl
def ywc (v1 v5 v7 v27 v28 v29 : AV) (h : Heap) : OX :=
ob (evFa 0 v7) fun v34 =>
ob (evLd false 1 v34 h) fun v35 =>
ob (y5 .lss v1 v35) fun v36 =>
gb v36 false (some v1) fun v38 =>
gb v36 false (evFa 1 v7) fun v39 =>
gb v36 false (evLd false 1 v39 h) fun v40 =>
gb v36 false (y5 .geq v38 v40) fun v41 =>
ob (y8 v36 (AV.bool true) v41) fun v42 =>
cnd v42
 ((y1bs v1 v5 v27 v28 v29 h))
 ((y260 v1 v5 v7 v27 v28 v29 h))
def y2lc (s : St) : OX := ywc (s 1) (s 5) (s 7) (s 27) (s 28) (s 29) s.h
theorem y25n : T1 y1t3 ybw (y4 1 ybw (y4 0 y5z xN)) [.t 4] y2lc := sq y24y fun _ => by kernel_rfl
def y2fe (v1 v5 v27 v28 v29 : AV) (h : Heap) : OX :=
ob (yw 4 v27 v29) fun v31 =>
ob (evLd true 4 v31 h) fun v32 =>
oh (newC 0 (some 1) [(.int .i64 0), (.int .i64 0), (.int .i64 0), (.str [])] h) fun v7 h4 =>
oh (evSt 4 v7 v32 h4) fun _ h5 =>
(ywc v1 v5 v7 v27 v28 v29 h5)
def y1sz (s : St) : OX := y2fe (s 1) (s 5) (s 27) (s 28) (s 29) s.h
theorem y24n : T1 y1pq ybw (y4 1 ybw (y4 0 y5z xN)) [.t 4] y1sz := sq y25n fun _ => by kernel_rfl
theorem y25d : T1 y1iv ybw (y4 0 y5z xN) [.t 4] y1sz := fun s => yt.trans (y24n s)
theorem y24x : T1 y1uf ycn (y4 0 y5z xN) [.t 4] y1sz := sq y208 y25d
def y158 (v1 v5 v27 v28 v29 v30 : AV) (h : Heap) : OX :=
cnd v30
 ((y2fe v1 v5 v27 v28 v29 h))
 ((y1py v5 h))
def y2h8 (s : St) : OX := y158 (s 1) (s 5) (s 27) (s 28) (s 29) (s 30) s.h
theorem y1vy : T1 y12e ycn (y4 0 y5z xN) [.t 4] y2h8 := sq y24x fun _ => by kernel_rfl
def yr1 (v1 v5 v27 v28 v29 : AV) (h : Heap) : OX :=
ob (y5 .lss v29 v28) fun v30 =>
(y158 v1 v5 v27 v28 v29 v30 h)
def y2eo (s : St) : OX := yr1 (s 1) (s 5) (s 27) (s 28) (s 29) s.h
theorem y1uk : T1 yzy ycn (y4 0 y5z xN) [.t 4] y2eo := sq y1vy fun _ => by kernel_rfl
theorem yv8 (v1 v5 v27 v28 v29 : AV) (h : Heap) : ys5 v1 v5 v27 v28 v29 h = (yr1 v1 v5 v27 v28 v29 h) :=
  y1r.trans ((y17 _ _ _ (n' := ycn) (fun s => yrf s)).trans ((y1uk _).trans (by kernel_rfl)))
theorem y1pa : T1 y17d y5z xN [.t 4] ycn := fun s => yt.trans (yrf s)
def y1k5 (v1 v2 v5 : AV) (h : Heap) : OX :=
ob (evFa 4 v2) fun v26 =>
ob (evLd false 1 v26 h) fun v27 =>
ob (y11 1 v27 h) fun v28 =>
(ys5 v1 v5 v27 v28 (AV.int .i64 0) h)
def y1he (s : St) : OX := y1k5 (s 1) (s 2) (s 5) s.h
theorem y1wu : T1 y14d y5z xN [.t 4] y1he := sq y1pa fun _ => by kernel_rfl
theorem y1fi : T0 yyo [.t 4] y1he := sq y23p y1wu
def y1x8 (v1 v2 : AV) (h : Heap) : OX :=
(y1k5 v1 v2 AV.nils h)
def y2d0 (s : St) : OX := y1x8 (s 1) (s 2) s.h
theorem y1mx : T0 y114 [.t 4] y2d0 := sq y1fi fun _ => by kernel_rfl
def ynu (v1 v2 : AV) (h : Heap) : OX :=
ob (y5 .lss v1 (AV.int .i64 0)) fun v9 =>
gb v9 false (some v1) fun v11 =>
gb v9 false (evFa 3 v2) fun v12 =>
gb v9 false (evLd false 1 v12 h) fun v13 =>
gb v9 false (y11 1 v13 h) fun v14 =>
gb v9 false (y5 .geq v11 v14) fun v15 =>
ob (y8 v9 (AV.bool true) v15) fun v16 =>
gb v16 false (evFa 3 v2) fun v18 =>
gb v16 false (evLd false 1 v18 h) fun v19 =>
gb v16 false (some v1) fun v20 =>
gb v16 false (yw 9 v19 v20) fun v21 =>
gb v16 false (evLd true 9 v21 h) fun v22 =>
gh v16 false (y6 E (y7 E) 0 none true 18 [v22] h) h fun v23 h6 =>
gb v16 false (evUn .not v23) fun v24 =>
ob (y8 v16 (AV.bool true) v24) fun v25 =>
cnd v25
 ((yc h6 AV.nils))
 ((y1x8 v1 v2 h6))
def y2g2 (s : St) : OX := ynu (s 1) (s 2) s.h
theorem y1tn : T0 y159 [.t 4] y2g2 := sq y1mx fun _ => by kernel_rfl
def yn5 (v0 v1 : AV) (h : Heap) : OX :=
oh (newC 0 (some 0) (cellsOf v0) h) fun v2 h7 =>
(ynu v1 v2 h7)
def y2c5 (s : St) : OX := yn5 (s 0) (s 1) s.h
theorem y1kf : T0 y18s [.t 4] y2c5 := sq y1tn fun _ => by kernel_rfl
@[simp] theorem y2sf : E.pure 79 = true := rfl
theorem y2qm (v0 v1 : AV) : (y7 E).p 79 [v0, v1] = yn5 v0 v1 [⟨0, .dead⟩, ⟨0, .dead⟩, ⟨0, .dead⟩, ⟨0, .dead⟩] :=
  (yv (cf := y2km) (by kernel_rfl) rfl).trans ((y1kf _).trans (by kernel_rfl))
def yl2 (v6 : AV) (h : Heap) : OX :=
(yc h v6)
def y2ja (s : St) : OX := yl2 (s 6) s.h
theorem y23f : T0 y1f7 [.t 4] y2ja := fun _ => by kernel_rfl
def ykz (v5 v6 : AV) (h : Heap) : OX :=
ob (evLd true 9 v5 h) fun v29 =>
oh (y6 E (y7 E) 0 none true 22 [v29] h) fun v30 h1 =>
gb v30 true (some v6) fun v32 =>
gb v30 true (evFa 6 v5) fun v33 =>
gb v30 true (evLd false 1 v33 h1) fun v34 =>
gh v30 true (y6 E (y7 E) 0 none true 46 [v32, v34] h1) h1 fun v35 h2 =>
gb v30 true (evUn .not v35) fun v36 =>
ob (y8 v30 v36 (AV.bool false)) fun v37 =>
cnd v37
 (ob (evFa 6 v5) fun v39 =>
ob (evLd false 1 v39 h2) fun v40 =>
oh (yr 0 (some 4) 1 1 [(.int .i64 0)] [(0, v40)] h2) fun v41 h3 =>
oh (y2b 0 (some 5) 1 8 v6 v41 h3) fun v42 h4 =>
(yl2 v42 h4))
 ((yl2 v6 h2))
def y2jx (s : St) : OX := ykz (s 5) (s 6) s.h
theorem y23v : T0 y1xj [.t 4] y2jx := sq y23f fun _ => by kernel_rfl
def ykv (v1 v5 v6 : AV) (h : Heap) : OX :=
ob (evLd true 9 v5 h) fun v21 =>
oh (y6 E (y7 E) 0 none true 24 [v21] h) fun v22 h5 =>
ob (evUn .not v22) fun v23 =>
cnd v23
 (ob (y5 .add v1 (AV.int .i64 1)) fun v26 =>
oh (yr 0 (some 2) 1 1 [(.int .i64 0)] [(0, v26)] h5) fun v27 h6 =>
oh (y2b 0 (some 3) 1 8 v6 v27 h6) fun v28 h7 =>
(ykz v5 v28 h7))
 ((ykz v5 v6 h5))
def y2ly (s : St) : OX := ykv (s 1) (s 5) (s 6) s.h
theorem y1zd : T0 y1hx [.t 4] y2ly := sq y23v fun _ => by kernel_rfl
def y1i4 (v1 v5 : AV) (h : Heap) : OX :=
(ykv v1 v5 AV.nils h)
def y2jg (s : St) : OX := y1i4 (s 1) (s 5) s.h
theorem y25x : T0 y1p8 [.t 4] y2jg := sq y1zd fun _ => by kernel_rfl
def y1i5 (v1 v2 : AV) (h : Heap) : OX :=
ob (evFa 3 v2) fun v16 =>
ob (evLd false 1 v16 h) fun v17 =>
ob (yw 9 v17 v1) fun v19 =>
ob (evLd true 9 v19 h) fun v20 =>
oh (newC 0 (some 1) [(.int .i64 0), (.int .i64 0), (.int .i64 0), (.int .i64 0), (.int .i64 0), (.int .i64 0), (.int .i64 0), (.str []), .nils] h) fun v5 h8 =>
oh (evSt 9 v5 v20 h8) fun _ h9 =>
(y1i4 v1 v5 h9)
def y2ns (s : St) : OX := y1i5 (s 1) (s 2) s.h
theorem y22r : T0 y1li [.t 4] y2ns := sq y25x fun _ => by kernel_rfl
def y1ls (v1 v2 : AV) (h : Heap) : OX :=
ob (y5 .lss v1 (AV.int .i64 0)) fun v8 =>
gb v8 false (some v1) fun v10 =>
gb v8 false (evFa 3 v2) fun v11 =>
gb v8 false (evLd false 1 v11 h) fun v12 =>
gb v8 false (y11 1 v12 h) fun v13 =>
gb v8 false (y5 .geq v10 v13) fun v14 =>
ob (y8 v8 (AV.bool true) v14) fun v15 =>
cnd v15
 ((yc h AV.nils))
 ((y1i5 v1 v2 h))
def y2nd (s : St) : OX := y1ls (s 1) (s 2) s.h
theorem y23a : T0 y1m8 [.t 4] y2nd := sq y22r fun _ => by kernel_rfl
def y1ad (v0 v1 : AV) (h : Heap) : OX :=
oh (newC 0 (some 0) (cellsOf v0) h) fun v2 h10 =>
(y1ls v1 v2 h10)
def y2lh (s : St) : OX := y1ad (s 0) (s 1) s.h
theorem y23i : T0 y1lk [.t 4] y2lh := sq y23a fun _ => by kernel_rfl
@[simp] theorem y2rv : E.pure 81 = true := rfl
theorem y2pt (v0 v1 : AV) : (y7 E).p 81 [v0, v1] = y1ad v0 v1 [⟨0, .dead⟩, ⟨0, .dead⟩, ⟨0, .dead⟩, ⟨0, .dead⟩, ⟨0, .dead⟩, ⟨0, .dead⟩] :=
  (yv (cf := y2is) (by kernel_rfl) rfl).trans ((y23i _).trans (by kernel_rfl))
def y1xd (v0 : AV) (h : Heap) : OX :=
oh (yr 0 (some 0) 1 11 [(.int .i64 0)] [(0, (AV.int .i64 1)), (1, (AV.int .i64 2)), (2, (AV.int .i64 3)), (3, (AV.int .i64 4)), (4, (AV.int .i64 5)), (5, (AV.int .i64 6)), (6, (AV.int .i64 13)), (7, (AV.int .i64 15)), (8, (AV.int .i64 16)), (9, (AV.int .i64 18)), (10, (AV.int .i64 22))] h) fun v4 h1 =>
oh (y6 E (y7 E) 0 none true 42 [v0, v4] h1) fun v5 h2 =>
(yc h2 v5)
def y297 (s : St) : OX := y1xd (s 0) s.h
theorem y1s7 : T0 yzw [.t 2] y297 := fun _ => by kernel_rfl
@[simp] theorem y2qx : E.pure 21 = true := rfl
theorem y2ii (v0 : AV) : (y7 E).p 21 [v0] = y1xd v0 [⟨0, .dead⟩] :=
  (yv (cf := y27u) (by kernel_rfl) rfl).trans ((y1s7 _).trans (by kernel_rfl))
def yi1 (v0 v1 v2 : AV) (h : Heap) : OX :=
oh (newC 0 (some 0) (cellsOf v0) h) fun v3 h1 =>
ob (y5 .geq v1 (AV.int .i64 0)) fun v8 =>
ofp (fgd v8 true (some ([], []))) fun f3 =>
gb v8 true (some v1) fun v10 =>
ofp (fgd v8 true (some ([], []))) fun f4 =>
gb v8 true (evFa 3 v3) fun v11 =>
ofp (fgd v8 true (some (ids1 v11, []))) fun f5 =>
gb v8 true (evLd false 1 v11 h1) fun v12 =>
ofp (fgd v8 true (some (ids1 v12, []))) fun f6 =>
gb v8 true (y11 1 v12 h1) fun v13 =>
ofp (fgd v8 true (some ([], []))) fun f7 =>
gb v8 true (y5 .lss v10 v13) fun v14 =>
ob (y8 v8 v14 (AV.bool false)) fun v15 =>
ofp (fgd v15 true (some ([], []))) fun f10 =>
gb v15 true (some v2) fun v17 =>
ofp (fgd v15 true (some ([], []))) fun f11 =>
gb v15 true (y5 .geq v17 (AV.int .i64 0)) fun v18 =>
ob (y8 v15 v18 (AV.bool false)) fun v19 =>
ofp (fgd v19 true (some ([], []))) fun f14 =>
gb v19 true (some v2) fun v21 =>
ofp (fgd v19 true (some ([], []))) fun f15 =>
gb v19 true (evFa 0 v3) fun v22 =>
ofp (fgd v19 true (some (ids1 v22, []))) fun f16 =>
gb v19 true (evLd false 1 v22 h1) fun v23 =>
ofp (fgd v19 true (some (ids1 v23, []))) fun f17 =>
gb v19 true (y11 1 v23 h1) fun v24 =>
ofp (fgd v19 true (some ([], []))) fun f18 =>
gb v19 true (y5 .lss v21 v24) fun v25 =>
ob (y8 v19 v25 (AV.bool false)) fun v26 =>
ofp (fgd v26 true (some (ids1 v3, []))) fun f21 =>
gb v26 true (evLd true 5 v3 h1) fun v28 =>
ofp (fgd v26 true (some (ids1 v3, []))) fun f22 =>
gb v26 true (evLd true 5 v3 h1) fun v29 =>
ofp (fgd v26 true (some ([], []))) fun f23 =>
gb v26 true (some v1) fun v30 =>
ofp (fgd v26 true (y3i E (y7 E) 0 (some 1) false 95 [v29, v30] h1)) fun f24 =>
gh v26 true (y6 E (y7 E) 0 (some 1) false 95 [v29, v30] h1) h1 fun v31 h2 =>
ofp (fgd v26 true (some ([], []))) fun f25 =>
gb v26 true (some v2) fun v32 =>
gh v26 true (y6 E (y7 E) 0 none false 93 [v28, v31, v32] h2) h2 fun v33 h3 =>
ob (y8 v26 v33 (AV.bool false)) fun v34 =>
okK (yf [([], []), ([], []), ([], []), f3, f4, f5, f6, f7, ([], []), ([], []), f10, f11, ([], []), ([], []), f14, f15, f16, f17, f18, ([], []), ([], []), f21, f22, f23, f24, f25, ([], []), ([], []), ([], [])] [(21, 24)]) <|
(yc h3 v34)
def y2a2 (s : St) : OX := yi1 (s 0) (s 1) (s 2) s.h
theorem y1jj : T0 y12v [.t 6] y2a2 := fun _ => by kernel_rfl
@[simp] theorem y2sc : E.pure 90 = true := rfl
theorem y2jh (v0 v1 v2 : AV) : (y7 E).p 90 [v0, v1, v2] = yi1 v0 v1 v2 [⟨0, .dead⟩, ⟨0, .dead⟩] :=
  (yv (cf := y286) (by kernel_rfl) rfl).trans ((y1jj _).trans (by kernel_rfl))
def y1nc (v0 : AV) (h : Heap) : OX :=
oh (yr 0 (some 0) 1 3 [(.int .i64 0)] [(0, (AV.int .i64 27)), (1, (AV.int .i64 30)), (2, (AV.int .i64 31))] h) fun v4 h1 =>
oh (y6 E (y7 E) 0 none true 42 [v0, v4] h1) fun v5 h2 =>
(yc h2 v5)
def y2bf (s : St) : OX := y1nc (s 0) s.h
theorem y1wz : T0 y131 [.t 2] y2bf := fun _ => by kernel_rfl
@[simp] theorem y2rc : E.pure 25 = true := rfl
theorem y2mt (v0 : AV) : (y7 E).p 25 [v0] = y1nc v0 [⟨0, .dead⟩] :=
  (yv (cf := y272) (by kernel_rfl) rfl).trans ((y1wz _).trans (by kernel_rfl))
def yue (v1 v2 : AV) (h : Heap) : OX :=
ob (evFa 0 v2) fun v14 =>
ob (evLd false 1 v14 h) fun v15 =>
ob (yw 1 v15 v1) fun v17 =>
ob (evLd false 1 v17 h) fun v18 =>
(yc h v18)
def y2ab (s : St) : OX := yue (s 1) (s 2) s.h
theorem y1v3 : T0 y01 [.t 4] y2ab := fun _ => by kernel_rfl
def ytp (v1 v2 : AV) (h : Heap) : OX :=
ob (y5 .lss v1 (AV.int .i64 0)) fun v6 =>
gb v6 false (some v1) fun v8 =>
gb v6 false (evFa 0 v2) fun v9 =>
gb v6 false (evLd false 1 v9 h) fun v10 =>
gb v6 false (y11 1 v10 h) fun v11 =>
gb v6 false (y5 .geq v8 v11) fun v12 =>
ob (y8 v6 (AV.bool true) v12) fun v13 =>
cnd v13
 ((yc h (AV.int .i64 0)))
 ((yue v1 v2 h))
def y2as (s : St) : OX := ytp (s 1) (s 2) s.h
theorem y1p3 : T0 yyb [.t 4] y2as := sq y1v3 fun _ => by kernel_rfl
def ytm (v0 v1 : AV) (h : Heap) : OX :=
oh (newC 0 (some 0) (cellsOf v0) h) fun v2 h1 =>
(ytp v1 v2 h1)
def y2bw (s : St) : OX := ytm (s 0) (s 1) s.h
theorem y1tk : T0 yxz [.t 4] y2bw := sq y1p3 fun _ => by kernel_rfl
@[simp] theorem y2r8 : E.pure 48 = true := rfl
theorem y2lr (v0 v1 : AV) : (y7 E).p 48 [v0, v1] = ytm v0 v1 [⟨0, .dead⟩] :=
  (yv (cf := y264) (by kernel_rfl) rfl).trans ((y1tk _).trans (by kernel_rfl))
def yn6 (h : Heap) : OX :=
(yc h (AV.bool false))
def y75 (s : St) : OX := yn6 s.h
theorem y1jn : T0 y14h [.t 4] y75 := fun _ => by kernel_rfl
def yk2 (v0 v1 v5 : AV) (h : Heap) : OX :=
  W E 0 yin ⟨[(0, v0), (1, v1), (5, v5)], h⟩ y75 (y4 0 y75 xN) (finP [.t 4])
def ybm (s : St) : OX := yk2 (s 0) (s 1) (s 5) s.h
theorem ym4 : T1 yin y75 (y4 0 y75 xN) [.t 4] ybm := fun s => yh.trans (by kernel_rfl)
def ym8 (v0 v1 v5 : AV) (h : Heap) : OX :=
ob (y5 .add v5 (AV.int .i64 1)) fun v11 =>
(yk2 v0 v1 v11 h)
def y29i (s : St) : OX := ym8 (s 0) (s 1) (s 5) s.h
theorem y1rd : T1 y18w ybm (y4 0 y75 xN) [.t 4] y29i := fun _ => by kernel_rfl
def ym7 (v0 v1 v5 : AV) (h : Heap) : OX :=
ob (yw 1 v1 v5) fun v14 =>
ob (evLd false 1 v14 h) fun v15 =>
ob (y5 .eql v15 v0) fun v17 =>
cnd v17
 ((yc h (AV.bool true)))
 ((ym8 v0 v1 v5 h))
def y2gv (s : St) : OX := ym7 (s 0) (s 1) (s 5) s.h
theorem y1xu : T1 yz6 ybm (y4 0 y75 xN) [.t 4] y2gv := sq y1rd fun _ => by kernel_rfl
def ynz (v0 v1 v5 : AV) (h : Heap) : OX :=
ob (y11 1 v1 h) fun v8 =>
ob (y5 .lss v5 v8) fun v9 =>
cnd v9
 ((ym7 v0 v1 v5 h))
 ((yn6 h))
def y2ak (s : St) : OX := ynz (s 0) (s 1) (s 5) s.h
theorem y1t0 : T1 y193 ybm (y4 0 y75 xN) [.t 4] y2ak := sq y1xu fun _ => by kernel_rfl
theorem yll (v0 v1 v5 : AV) (h : Heap) : yk2 v0 v1 v5 h = (ynz v0 v1 v5 h) :=
  y1r.trans ((y17 _ _ _ (n' := ybm) (fun s => ym4 s)).trans ((y1t0 _).trans (by kernel_rfl)))
theorem y1iw : T1 y156 y75 xN [.t 4] ybm := fun s => yt.trans (ym4 s)
def ymv (v0 v1 : AV) (h : Heap) : OX :=
(yk2 v0 v1 (AV.int .i64 0) h)
def y1f4 (s : St) : OX := ymv (s 0) (s 1) s.h
theorem y1nq : T1 y12y y75 xN [.t 4] y1f4 := sq y1iw fun _ => by kernel_rfl
theorem y1lt : T0 y171 [.t 4] y1f4 := sq y1jn y1nq
def ym5 (v0 v1 : AV) (h : Heap) : OX :=
(ymv v0 v1 h)
def y2ah (s : St) : OX := ym5 (s 0) (s 1) s.h
theorem y1n1 : T0 y11e [.t 4] y2ah := sq y1lt fun _ => by kernel_rfl
@[simp] theorem y2sp : E.pure 42 = true := rfl
theorem y2ju (v0 v1 : AV) : (y7 E).p 42 [v0, v1] = ym5 v0 v1 [] :=
  (yv (cf := y27x) (by kernel_rfl) rfl).trans ((y1n1 _).trans (by kernel_rfl))
def y2s (h : Heap) : OX :=
(yc h (AV.bool true))
def yz (s : St) : OX := y2s s.h
theorem y1xw : T0 y15q [.t 4] yz := fun _ => by kernel_rfl
def y2y (v2 v3 : AV) (h : Heap) : OX :=
ob (evFa 2 v3) fun v215 =>
ob (evLd false 1 v215 h) fun v216 =>
ob (y5 .neq v216 (AV.int .i64 (-1))) fun v217 =>
ofp (fgd v217 true (some (ids1 v2, []))) fun f4 =>
gb v217 true (evLd true 5 v2 h) fun v219 =>
ofp (fgd v217 true (some ([], []))) fun f5 =>
gb v217 true (evFa 2 v3) fun v220 =>
ofp (fgd v217 true (some (ids1 v220, []))) fun f6 =>
gb v217 true (evLd false 1 v220 h) fun v221 =>
ofp (fgd v217 true (y3i E (y7 E) 0 none true 48 [v219, v221] h)) fun f7 =>
gh v217 true (y6 E (y7 E) 0 none true 48 [v219, v221] h) h fun v222 h1 =>
ofp (fgd v217 true (some ([], []))) fun f8 =>
gb v217 true (evFa 2 v2) fun v223 =>
ofp (fgd v217 true (some (ids1 v223, []))) fun f9 =>
gb v217 true (evLd false 1 v223 h1) fun v224 =>
ofp (fgd v217 true (some ([], []))) fun f10 =>
gb v217 true (y5 .eql v222 v224) fun v225 =>
ob (y8 v217 v225 (AV.bool false)) fun v226 =>
okK (yf [([], []), (ids1 v215, []), ([], []), ([], []), f4, f5, f6, f7, f8, f9, f10, ([], []), ([], [])] [(7, 9)]) <|
(yc h1 v226)
def y2fl (s : St) : OX := y2y (s 2) (s 3) s.h
theorem y1r7 : T1 y126 yz (y4 2 yz xN) [.t 4] y2fl := fun _ => by kernel_rfl
def y31 (v2 v3 : AV) (h : Heap) : OX :=
ob (evFa 2 v2) fun v209 =>
ob (evLd false 1 v209 h) fun v210 =>
ob (y5 .eql v210 (AV.int .i64 0)) fun v211 =>
cnd v211
 (ob (evFa 2 v3) fun v212 =>
ob (evLd false 1 v212 h) fun v213 =>
ob (y5 .eql v213 (AV.int .i64 (-1))) fun v214 =>
(yc h v214))
 ((y2y v2 v3 h))
def y2af (s : St) : OX := y31 (s 2) (s 3) s.h
theorem y1vo : T1 y113 yz (y4 2 yz xN) [.t 4] y2af := sq y1r7 fun _ => by kernel_rfl
def y2w (v2 v3 v207 : AV) (h : Heap) : OX :=
cnd v207
 ((y31 v2 v3 h))
 ((y2s h))
def y2dx (s : St) : OX := y2w (s 2) (s 3) (s 207) s.h
theorem y1kb : T1 yyu yz (y4 2 yz xN) [.t 4] y2dx := fun s => (y1d (y1vo s) rfl).trans (by kernel_rfl)
def y2x (v2 v3 v55 : AV) (h : Heap) : OX :=
ob (y5 .eql v55 (AV.int .i64 30)) fun v208 =>
(y2w v2 v3 v208 h)
def y2eh (s : St) : OX := y2x (s 2) (s 3) (s 55) s.h
theorem y1qv : T1 y16o yz (y4 2 yz xN) [.t 4] y2eh := sq y1kb fun _ => by kernel_rfl
def y30 (v2 v3 v55 v179 : AV) (h : Heap) : OX :=
cnd v179
 (ob (evFa 5 v3) fun v181 =>
ob (evLd false 1 v181 h) fun v182 =>
ob (y5 .eql v182 (AV.int .i64 0)) fun v183 =>
gb v183 false (evFa 5 v3) fun v185 =>
gb v183 false (evLd false 1 v185 h) fun v186 =>
gb v183 false (y5 .eql v186 (AV.int .i64 1)) fun v187 =>
ob (y8 v183 (AV.bool true) v187) fun v188 =>
gb v188 true (evFa 3 v3) fun v190 =>
gb v188 true (evLd false 1 v190 h) fun v191 =>
gb v188 true (y5 .eql v191 (AV.int .i64 (-1))) fun v192 =>
gb v188 true (some v192) fun v193 =>
gb v193 false (evLd true 5 v2 h) fun v194 =>
gb v193 false (evFa 3 v3) fun v195 =>
gb v193 false (evLd false 1 v195 h) fun v196 =>
gh v193 false (y6 E (y7 E) 0 none true 48 [v194, v196] h) h fun v197 h2 =>
gb v193 false (y5 .eql v197 (AV.int .i64 3)) fun v198 =>
gb v188 true (y8 v193 (AV.bool true) v198) fun v199 =>
ob (y8 v188 v199 (AV.bool false)) fun v200 =>
gb v200 true (evLd true 5 v2 h2) fun v202 =>
gb v200 true (evFa 6 v3) fun v203 =>
gb v200 true (evLd false 1 v203 h2) fun v204 =>
gh v200 true (y6 E (y7 E) 0 none true 49 [v202, v204] h2) h2 fun v205 h3 =>
ob (y8 v200 v205 (AV.bool false)) fun v206 =>
(yc h3 v206))
 ((y2x v2 v3 v55 h))
def y2gp (s : St) : OX := y30 (s 2) (s 3) (s 55) (s 179) s.h
theorem y1r3 : T1 y180 yz (y4 2 yz xN) [.t 4] y2gp := fun s => (y1d rfl (y1qv s)).trans (by kernel_rfl)
def y2u (v2 v3 v55 : AV) (h : Heap) : OX :=
ob (y5 .eql v55 (AV.int .i64 29)) fun v180 =>
(y30 v2 v3 v55 v180 h)
def y28t (s : St) : OX := y2u (s 2) (s 3) (s 55) s.h
theorem y1oj : T1 yyy yz (y4 2 yz xN) [.t 4] y28t := sq y1r3 fun _ => by kernel_rfl
def y2r (v2 v3 v55 v173 : AV) (h : Heap) : OX :=
cnd v173
 (ob (evLd true 5 v2 h) fun v175 =>
ob (evFa 6 v3) fun v176 =>
ob (evLd false 1 v176 h) fun v177 =>
oh (y6 E (y7 E) 0 none true 49 [v175, v177] h) fun v178 h4 =>
(yc h4 v178))
 ((y2u v2 v3 v55 h))
def y2gt (s : St) : OX := y2r (s 2) (s 3) (s 55) (s 173) s.h
theorem y1ev : T1 y0t yz (y4 2 yz xN) [.t 4] y2gt := fun s => (y1d rfl (y1oj s)).trans (by kernel_rfl)
def y2z (v2 v3 v55 : AV) (h : Heap) : OX :=
ob (y5 .eql v55 (AV.int .i64 27)) fun v174 =>
(y2r v2 v3 v55 v174 h)
def y28r (s : St) : OX := y2z (s 2) (s 3) (s 55) s.h
theorem y1lp : T1 y19u yz (y4 2 yz xN) [.t 4] y28r := sq y1ev fun _ => by kernel_rfl
def y1z (v2 v3 v55 v157 : AV) (h : Heap) : OX :=
cnd v157
 (ob (evFa 5 v3) fun v159 =>
ob (evLd false 1 v159 h) fun v160 =>
ob (y5 .geq v160 (AV.int .i64 0)) fun v161 =>
gb v161 true (evFa 5 v3) fun v163 =>
gb v161 true (evLd false 1 v163 h) fun v164 =>
gb v161 true (y5 .leq v164 (AV.int .i64 5)) fun v165 =>
ob (y8 v161 v165 (AV.bool false)) fun v166 =>
gb v166 true (evLd true 5 v2 h) fun v168 =>
gb v166 true (evFa 6 v3) fun v169 =>
gb v166 true (evLd false 1 v169 h) fun v170 =>
gh v166 true (y6 E (y7 E) 0 none true 49 [v168, v170] h) h fun v171 h5 =>
ob (y8 v166 v171 (AV.bool false)) fun v172 =>
(yc h5 v172))
 ((y2z v2 v3 v55 h))
def y22f (s : St) : OX := y1z (s 2) (s 3) (s 55) (s 157) s.h
theorem y1a7 : T1 ysq yz (y4 2 yz xN) [.t 4] y22f := fun s => (y1d rfl (y1lp s)).trans (by kernel_rfl)
def y21 (v2 v3 v55 : AV) (h : Heap) : OX :=
ob (y5 .eql v55 (AV.int .i64 28)) fun v158 =>
(y1z v2 v3 v55 v158 h)
def y23s (s : St) : OX := y21 (s 2) (s 3) (s 55) s.h
theorem y1c3 : T1 yum yz (y4 2 yz xN) [.t 4] y23s := sq y1a7 fun _ => by kernel_rfl
def y1i (v2 v3 v55 v149 : AV) (h : Heap) : OX :=
cnd v149
 (ob (evLd true 5 v2 h) fun v154 =>
ob (evLd true 9 v3 h) fun v155 =>
oh (y6 E (y7 E) 0 none true 68 [v154, v155] h) fun v156 h6 =>
(yc h6 v156))
 ((y21 v2 v3 v55 h))
def y204 (s : St) : OX := y1i (s 2) (s 3) (s 55) (s 149) s.h
theorem y1a5 : T1 ys2 yz (y4 2 yz xN) [.t 4] y204 := fun s => (y1d rfl (y1c3 s)).trans (by kernel_rfl)
def y1w (v2 v3 v55 : AV) (h : Heap) : OX :=
ob (y5 .eql v55 (AV.int .i64 23)) fun v150 =>
cnd v150
 ((y1i v2 v3 v55 v150 h))
 (ob (y5 .eql v55 (AV.int .i64 24)) fun v151 =>
cnd v151
 ((y1i v2 v3 v55 v151 h))
 (ob (y5 .eql v55 (AV.int .i64 25)) fun v152 =>
cnd v152
 ((y1i v2 v3 v55 v152 h))
 (ob (y5 .eql v55 (AV.int .i64 26)) fun v153 =>
(y1i v2 v3 v55 v153 h))))
def y20c (s : St) : OX := y1w (s 2) (s 3) (s 55) s.h
theorem y1ci : T1 yqt yz (y4 2 yz xN) [.t 4] y20c := sq y1a5 fun _ => by kernel_rfl
def y1q (v2 v3 v55 v143 : AV) (h : Heap) : OX :=
cnd v143
 (ob (evFa 5 v3) fun v146 =>
ob (evLd false 1 v146 h) fun v147 =>
ob (y5 .geq v147 (AV.int .i64 0)) fun v148 =>
(yc h v148))
 ((y1w v2 v3 v55 h))
def y23h (s : St) : OX := y1q (s 2) (s 3) (s 55) (s 143) s.h
theorem y1ch : T1 ytl yz (y4 2 yz xN) [.t 4] y23h := fun s => (y1d rfl (y1ci s)).trans (by kernel_rfl)
def y1y (v2 v3 v55 : AV) (h : Heap) : OX :=
ob (y5 .eql v55 (AV.int .i64 16)) fun v144 =>
cnd v144
 ((y1q v2 v3 v55 v144 h))
 (ob (y5 .eql v55 (AV.int .i64 17)) fun v145 =>
(y1q v2 v3 v55 v145 h))
def y23e (s : St) : OX := y1y (s 2) (s 3) (s 55) s.h
theorem y1c2 : T1 ytg yz (y4 2 yz xN) [.t 4] y23e := sq y1ch fun _ => by kernel_rfl
def y1k (v2 v3 v55 v136 : AV) (h : Heap) : OX :=
cnd v136
 (ob (evFa 7 v3) fun v140 =>
ob (evLd false 1 v140 h) fun v141 =>
oh (y6 E (y7 E) 0 none true 67 [v141] h) fun v142 h7 =>
(yc h7 v142))
 ((y1y v2 v3 v55 h))
def y254 (s : St) : OX := y1k (s 2) (s 3) (s 55) (s 136) s.h
theorem y1cr : T1 yrk yz (y4 2 yz xN) [.t 4] y254 := fun s => (y1d rfl (y1c2 s)).trans (by kernel_rfl)
def y20 (v2 v3 v55 : AV) (h : Heap) : OX :=
ob (y5 .eql v55 (AV.int .i64 12)) fun v137 =>
cnd v137
 ((y1k v2 v3 v55 v137 h))
 (ob (y5 .eql v55 (AV.int .i64 21)) fun v138 =>
cnd v138
 ((y1k v2 v3 v55 v138 h))
 (ob (y5 .eql v55 (AV.int .i64 22)) fun v139 =>
(y1k v2 v3 v55 v139 h)))
def y235 (s : St) : OX := y20 (s 2) (s 3) (s 55) s.h
theorem y1d6 : T1 ytq yz (y4 2 yz xN) [.t 4] y235 := sq y1cr fun _ => by kernel_rfl
def y1x (v2 v3 v8 v9 v10 v55 v112 : AV) (h : Heap) : OX :=
cnd v112
 (ob (y5 .gtr v8 (AV.int .i64 0)) fun v115 =>
gb v115 true (some v9) fun v117 =>
gb v115 true (y5 .eql v117 (AV.int .i64 0)) fun v118 =>
ob (y8 v115 v118 (AV.bool false)) fun v119 =>
gb v119 true (evLd true 5 v2 h) fun v121 =>
gb v119 true (evFa 1 v3) fun v122 =>
gb v119 true (evLd false 1 v122 h) fun v123 =>
gh v119 true (y6 E (y7 E) 0 none true 48 [v121, v123] h) h fun v124 h8 =>
gb v119 true (some v10) fun v125 =>
gb v119 true (y5 .eql v124 v125) fun v126 =>
ob (y8 v119 v126 (AV.bool false)) fun v127 =>
gb v127 true (evLd true 5 v2 h8) fun v129 =>
gb v127 true (evFa 2 v3) fun v130 =>
gb v127 true (evLd false 1 v130 h8) fun v131 =>
gh v127 true (y6 E (y7 E) 0 none true 48 [v129, v131] h8) h8 fun v132 h9 =>
gb v127 true (some v8) fun v133 =>
gb v127 true (y5 .eql v132 v133) fun v134 =>
ob (y8 v127 v134 (AV.bool false)) fun v135 =>
(yc h9 v135))
 ((y20 v2 v3 v55 h))
def y20e (s : St) : OX := y1x (s 2) (s 3) (s 8) (s 9) (s 10) (s 55) (s 112) s.h
theorem y1ai : T1 yrs yz (y4 2 yz xN) [.t 4] y20e := fun s => (y1d rfl (y1d6 s)).trans (by kernel_rfl)
def y1v (v2 v3 v8 v9 v10 v55 : AV) (h : Heap) : OX :=
ob (y5 .eql v55 (AV.int .i64 6)) fun v113 =>
(y1x v2 v3 v8 v9 v10 v55 v113 h)
def y22m (s : St) : OX := y1v (s 2) (s 3) (s 8) (s 9) (s 10) (s 55) s.h
theorem y1c1 : T1 yru yz (y4 2 yz xN) [.t 4] y22m := sq y1ai fun _ => by kernel_rfl
def y23 (v2 v3 v8 v9 v10 v55 v84 : AV) (h : Heap) : OX :=
cnd v84
 (ob (y5 .gtr v9 (AV.int .i64 0)) fun v87 =>
gb v87 true (evLd true 5 v2 h) fun v89 =>
gb v87 true (evFa 1 v3) fun v90 =>
gb v87 true (evLd false 1 v90 h) fun v91 =>
gh v87 true (y6 E (y7 E) 0 none true 48 [v89, v91] h) h fun v92 h10 =>
gb v87 true (some v10) fun v93 =>
gb v87 true (y5 .eql v92 v93) fun v94 =>
ob (y8 v87 v94 (AV.bool false)) fun v95 =>
gb v95 true (evLd true 5 v2 h10) fun v97 =>
gb v95 true (evFa 2 v3) fun v98 =>
gb v95 true (evLd false 1 v98 h10) fun v99 =>
gh v95 true (y6 E (y7 E) 0 none true 48 [v97, v99] h10) h10 fun v100 h11 =>
gb v95 true (some v8) fun v101 =>
gb v95 true (y5 .eql v100 v101) fun v102 =>
ob (y8 v95 v102 (AV.bool false)) fun v103 =>
gb v103 true (evLd true 5 v2 h11) fun v105 =>
gb v103 true (evFa 3 v3) fun v106 =>
gb v103 true (evLd false 1 v106 h11) fun v107 =>
gh v103 true (y6 E (y7 E) 0 none true 48 [v105, v107] h11) h11 fun v108 h12 =>
gb v103 true (some v9) fun v109 =>
gb v103 true (y5 .eql v108 v109) fun v110 =>
ob (y8 v103 v110 (AV.bool false)) fun v111 =>
(yc h12 v111))
 ((y1v v2 v3 v8 v9 v10 v55 h))
def y22o (s : St) : OX := y23 (s 2) (s 3) (s 8) (s 9) (s 10) (s 55) (s 84) s.h
theorem y1a8 : T1 yv5 yz (y4 2 yz xN) [.t 4] y22o := fun s => (y1d rfl (y1c1 s)).trans (by kernel_rfl)
def y22 (v2 v3 v8 v9 v10 v55 : AV) (h : Heap) : OX :=
ob (y5 .eql v55 (AV.int .i64 5)) fun v85 =>
(y23 v2 v3 v8 v9 v10 v55 v85 h)
def y1zy (s : St) : OX := y22 (s 2) (s 3) (s 8) (s 9) (s 10) (s 55) s.h
theorem y1ec : T1 yu4 yz (y4 2 yz xN) [.t 4] y1zy := sq y1a8 fun _ => by kernel_rfl
def y1o (v2 v3 v8 v9 v10 v55 v73 : AV) (h : Heap) : OX :=
cnd v73
 (ob (evLd true 5 v2 h) fun v75 =>
ob (evFa 1 v3) fun v76 =>
ob (evLd false 1 v76 h) fun v77 =>
ofp (y3i E (y7 E) 0 none true 48 [v75, v77] h) fun f3 =>
oh (y6 E (y7 E) 0 none true 48 [v75, v77] h) fun v78 h13 =>
ob (evLd true 5 v2 h13) fun v79 =>
ob (evFa 2 v3) fun v80 =>
ob (evLd false 1 v80 h13) fun v81 =>
ofp (y3i E (y7 E) 0 none true 48 [v79, v81] h13) fun f7 =>
oh (y6 E (y7 E) 0 none true 48 [v79, v81] h13) fun v82 h14 =>
ob (y5 .eql v78 v82) fun v83 =>
okK (yf [(ids1 v2, []), ([], []), (ids1 v76, []), f3, (ids1 v2, []), ([], []), (ids1 v80, []), f7, ([], []), ([], [])] [(3, 4), (3, 6)]) <|
(yc h14 v83))
 ((y22 v2 v3 v8 v9 v10 v55 h))
def y1yp (s : St) : OX := y1o (s 2) (s 3) (s 8) (s 9) (s 10) (s 55) (s 73) s.h
theorem y1bh : T1 yux yz (y4 2 yz xN) [.t 4] y1yp := fun s => (y1d rfl (y1ec s)).trans (by kernel_rfl)
def y1p (v2 v3 v8 v9 v10 v55 : AV) (h : Heap) : OX :=
ob (y5 .eql v55 (AV.int .i64 4)) fun v74 =>
(y1o v2 v3 v8 v9 v10 v55 v74 h)
def y1zq (s : St) : OX := y1p (s 2) (s 3) (s 8) (s 9) (s 10) (s 55) s.h
theorem y1dr : T1 yqu yz (y4 2 yz xN) [.t 4] y1zq := sq y1bh fun _ => by kernel_rfl
def y1j (v2 v3 v8 v9 v10 v55 v56 : AV) (h : Heap) : OX :=
cnd v56
 (ob (evLd true 5 v2 h) fun v58 =>
ob (evFa 1 v3) fun v59 =>
ob (evLd false 1 v59 h) fun v60 =>
oh (y6 E (y7 E) 0 none true 48 [v58, v60] h) fun v61 h15 =>
ob (y5 .eql v61 (AV.int .i64 2)) fun v62 =>
gb v62 false (evFa 5 v3) fun v64 =>
gb v62 false (evLd false 1 v64 h15) fun v65 =>
gb v62 false (y5 .geq v65 (AV.int .i64 (-2147483648))) fun v66 =>
gb v62 false (some v66) fun v67 =>
gb v67 true (evFa 5 v3) fun v68 =>
gb v67 true (evLd false 1 v68 h15) fun v69 =>
gb v67 true (y5 .lss v69 (AV.int .i64 2147483648)) fun v70 =>
gb v62 false (y8 v67 v70 (AV.bool false)) fun v71 =>
ob (y8 v62 (AV.bool true) v71) fun v72 =>
(yc h15 v72))
 ((y1p v2 v3 v8 v9 v10 v55 h))
def y25z (s : St) : OX := y1j (s 2) (s 3) (s 8) (s 9) (s 10) (s 55) (s 56) s.h
theorem y1cc : T1 yqg yz (y4 2 yz xN) [.t 4] y25z := fun s => (y1d rfl (y1dr s)).trans (by kernel_rfl)
def y1g (v2 v3 v8 v9 v10 v55 : AV) (h : Heap) : OX :=
ob (y5 .eql v55 (AV.int .i64 1)) fun v57 =>
(y1j v2 v3 v8 v9 v10 v55 v57 h)
def y132 (s : St) : OX := y1g (s 2) (s 3) (s 8) (s 9) (s 10) (s 55) s.h
theorem y1dj : T1 yr2 yz (y4 2 yz xN) [.t 4] y132 := sq y1cc fun _ => by kernel_rfl
theorem y1c0 : T1 ysb yz xN [.t 4] y132 := fun s => yt.trans (y1dj s)
def yeo (v2 v3 v8 v9 v10 : AV) (h : Heap) : OX :=
ob (evFa 0 v3) fun v54 =>
ob (evLd false 1 v54 h) fun v55 =>
(y1g v2 v3 v8 v9 v10 v55 h)
def y134 (s : St) : OX := yeo (s 2) (s 3) (s 8) (s 9) (s 10) s.h
theorem y1d5 : T1 yqo yz xN [.t 4] y134 := sq y1c0 fun _ => by kernel_rfl
theorem y1am : T0 ysi [.t 4] y134 := sq y1xw y1d5
def yhi (v2 v3 v8 v9 v10 : AV) (h : Heap) : OX :=
ob (evFa 5 v3) fun v39 =>
ob (evLd false 1 v39 h) fun v40 =>
ob (y5 .geq v40 (AV.int .i64 0)) fun v41 =>
gb v41 true (evFa 5 v3) fun v43 =>
gb v41 true (evLd false 1 v43 h) fun v44 =>
gb v41 true (y5 .lss v44 (AV.int .i64 1000)) fun v45 =>
ob (y8 v41 v45 (AV.bool false)) fun v46 =>
cnd v46
 (ob (evFa 5 v3) fun v48 =>
ob (evLd false 1 v48 h) fun v49 =>
oh (y6 E (y7 E) 0 none true 66 [v49] h) fun v50 h16 =>
ob (ybt 0 v50) fun v51 =>
ob (ybt 1 v50) fun v52 =>
ob (ybt 2 v50) fun v53 =>
(yeo v2 v3 v51 v52 v53 h16))
 ((yeo v2 v3 v8 v9 v10 h))
def y22p (s : St) : OX := yhi (s 2) (s 3) (s 8) (s 9) (s 10) s.h
theorem y1ea : T0 ysg [.t 4] y22p := sq y1am fun _ => by kernel_rfl
def yk7 (v2 v3 : AV) (h : Heap) : OX :=
(yhi v2 v3 (AV.int .i64 0) (AV.int .i64 0) (AV.int .i64 0) h)
def y5c (s : St) : OX := yk7 (s 2) (s 3) s.h
theorem y1b3 : T0 yr7 [.t 4] y5c := sq y1ea fun _ => by kernel_rfl
def y5e (v2 v3 v5 v6 v7 : AV) (h : Heap) : OX :=
  W E 0 yer ⟨[(2, v2), (3, v3), (5, v5), (6, v6), (7, v7)], h⟩ y5c (y4 0 y5c xN) (finP [.t 4])
def y7s (s : St) : OX := y5e (s 2) (s 3) (s 5) (s 6) (s 7) s.h
theorem ykc : T1 yer y5c (y4 0 y5c xN) [.t 4] y7s := fun s => yh.trans (by kernel_rfl)
def yos (v2 v3 v5 v6 v7 : AV) (h : Heap) : OX :=
ob (y5 .add v7 (AV.int .i64 1)) fun v28 =>
(y5e v2 v3 v5 v6 v28 h)
def y1zj (s : St) : OX := yos (s 2) (s 3) (s 5) (s 6) (s 7) s.h
theorem y1as : T1 yqr y7s (y4 0 y5c xN) [.t 4] y1zj := fun _ => by kernel_rfl
def ywd (v2 v3 v5 v6 v7 : AV) (h : Heap) : OX :=
ob (evLd true 5 v2 h) fun v29 =>
ob (yw 1 v6 v7) fun v32 =>
ob (evLd false 1 v32 h) fun v33 =>
ob (y3a v5 v7) fun v36 =>
oh (y6 E (y7 E) 0 none true 65 [v29, v33, v36] h) fun v37 h17 =>
ob (evUn .not v37) fun v38 =>
cnd v38
 ((yc h17 (AV.bool false)))
 ((yos v2 v3 v5 v6 v7 h17))
def y1yv (s : St) : OX := ywd (s 2) (s 3) (s 5) (s 6) (s 7) s.h
theorem y1dz : T1 yu0 y7s (y4 0 y5c xN) [.t 4] y1yv := sq y1as fun _ => by kernel_rfl
def yfr (v2 v3 v5 v6 v7 : AV) (h : Heap) : OX :=
ob (y5 .lss v7 (AV.int .i64 4)) fun v26 =>
cnd v26
 ((ywd v2 v3 v5 v6 v7 h))
 ((yk7 v2 v3 h))
def y22g (s : St) : OX := yfr (s 2) (s 3) (s 5) (s 6) (s 7) s.h
theorem y1d0 : T1 ysn y7s (y4 0 y5c xN) [.t 4] y22g := sq y1dz fun _ => by kernel_rfl
theorem yj3 (v2 v3 v5 v6 v7 : AV) (h : Heap) : y5e v2 v3 v5 v6 v7 h = (yfr v2 v3 v5 v6 v7 h) :=
  y1r.trans ((y17 _ _ _ (n' := y7s) (fun s => ykc s)).trans ((y1d0 _).trans (by kernel_rfl)))
theorem y1e7 : T1 ytb y5c xN [.t 4] y7s := fun s => yt.trans (ykc s)
def ywn (v2 v3 v5 v6 : AV) (h : Heap) : OX :=
(y5e v2 v3 v5 v6 (AV.int .i64 0) h)
def y166 (s : St) : OX := ywn (s 2) (s 3) (s 5) (s 6) s.h
theorem y1cd : T1 yro y5c xN [.t 4] y166 := sq y1e7 fun _ => by kernel_rfl
theorem y1bi : T0 yrp [.t 4] y166 := sq y1b3 y1cd
def yxh (v2 v3 v5 : AV) (h : Heap) : OX :=
ob (evFa 1 v3) fun v16 =>
ob (evLd false 1 v16 h) fun v17 =>
ob (evFa 2 v3) fun v18 =>
ob (evLd false 1 v18 h) fun v19 =>
ob (evFa 3 v3) fun v20 =>
ob (evLd false 1 v20 h) fun v21 =>
ob (evFa 4 v3) fun v22 =>
ob (evLd false 1 v22 h) fun v23 =>
oh (yr 0 (some 2) 1 4 [(.int .i64 0)] [(0, v17), (1, v19), (2, v21), (3, v23)] h) fun v24 h18 =>
(ywn v2 v3 v5 v24 h18)
def y25g (s : St) : OX := yxh (s 2) (s 3) (s 5) s.h
theorem y1cy : T0 ytv [.t 4] y25g := sq y1bi fun _ => by kernel_rfl
def yiv (v2 v3 v5 : AV) (h : Heap) : OX :=
ob (y5 .eql v5 (AV.str [])) fun v15 =>
cnd v15
 ((yc h (AV.bool false)))
 ((yxh v2 v3 v5 h))
def y20a (s : St) : OX := yiv (s 2) (s 3) (s 5) s.h
theorem y1da : T0 yrn [.t 4] y20a := sq y1cy fun _ => by kernel_rfl
def yj2 (v2 v3 : AV) (h : Heap) : OX :=
ob (evFa 0 v3) fun v11 =>
ob (evLd false 1 v11 h) fun v12 =>
oh (y6 E (y7 E) 0 none true 38 [v12] h) fun v13 h19 =>
(yiv v2 v3 v13 h19)
def y1yn (s : St) : OX := yj2 (s 2) (s 3) s.h
theorem y1bf : T0 ysa [.t 4] y1yn := sq y1da fun _ => by kernel_rfl
def yeu (v0 v1 : AV) (h : Heap) : OX :=
oh (newC 0 (some 0) (cellsOf v0) h) fun v2 h20 =>
oh (newC 0 (some 1) (cellsOf v1) h20) fun v3 h21 =>
(yj2 v2 v3 h21)
def y220 (s : St) : OX := yeu (s 0) (s 1) s.h
theorem y1bx : T0 yu6 [.t 4] y220 := sq y1bf fun _ => by kernel_rfl
@[simp] theorem y2t5 : E.pure 64 = true := rfl
theorem y2k5 (v0 v1 : AV) : (y7 E).p 64 [v0, v1] = yeu v0 v1 [⟨0, .dead⟩, ⟨0, .dead⟩, ⟨0, .dead⟩] :=
  (yv (cf := y27h) (by kernel_rfl) rfl).trans ((y1bx _).trans (by kernel_rfl))
def y1na (v0 : AV) (h : Heap) : OX :=
oh (yr 0 (some 0) 1 3 [(.int .i64 0)] [(0, (AV.int .i64 27)), (1, (AV.int .i64 28)), (2, (AV.int .i64 29))] h) fun v4 h1 =>
oh (y6 E (y7 E) 0 none true 42 [v0, v4] h1) fun v5 h2 =>
(yc h2 v5)
def y295 (s : St) : OX := y1na (s 0) s.h
theorem y1sc : T0 y19x [.t 2] y295 := fun _ => by kernel_rfl
@[simp] theorem y2sg : E.pure 23 = true := rfl
theorem y2ip (v0 : AV) : (y7 E).p 23 [v0] = y1na v0 [⟨0, .dead⟩] :=
  (yv (cf := y27t) (by kernel_rfl) rfl).trans ((y1sc _).trans (by kernel_rfl))
def y1xt (v0 v1 : AV) (h : Heap) : OX :=
oh (newC 0 (some 0) (cellsOf v0) h) fun v2 h1 =>
ob (y5 .geq v1 (AV.int .i64 0)) fun v6 =>
gb v6 true (some v1) fun v8 =>
gb v6 true (evFa 3 v2) fun v9 =>
gb v6 true (evLd false 1 v9 h1) fun v10 =>
gb v6 true (y11 1 v10 h1) fun v11 =>
gb v6 true (y5 .lss v8 v11) fun v12 =>
ob (y8 v6 v12 (AV.bool false)) fun v13 =>
(yc h1 v13)
def y2fz (s : St) : OX := y1xt (s 0) (s 1) s.h
theorem y1sb : T0 y196 [.t 4] y2fz := fun _ => by kernel_rfl
@[simp] theorem y2pp : E.pure 49 = true := rfl
theorem y2ic (v0 v1 : AV) : (y7 E).p 49 [v0, v1] = y1xt v0 v1 [⟨0, .dead⟩] :=
  (yv (cf := y274) (by kernel_rfl) rfl).trans ((y1sb _).trans (by kernel_rfl))
def y298 (v0 : AV) (h : Heap) : OX :=
oh (newC 0 (some 0) (cellsOf v0) h) fun v1 h1 =>
ob (evFa 0 v1) fun v3 =>
ob (evLd false 1 v3 h1) fun v4 =>
ob (y5 .geq v4 (AV.int .i64 23)) fun v5 =>
gb v5 true (evFa 0 v1) fun v7 =>
gb v5 true (evLd false 1 v7 h1) fun v8 =>
gb v5 true (y5 .leq v8 (AV.int .i64 26)) fun v9 =>
ob (y8 v5 v9 (AV.bool false)) fun v10 =>
(yc h1 v10)
def y2lx (s : St) : OX := y298 (s 0) s.h
theorem y257 : T0 y1k2 [.t 2] y2lx := fun _ => by kernel_rfl
@[simp] theorem yxq : E.pure 17 = true := rfl
theorem y2pb (v0 : AV) : (y7 E).p 17 [v0] = y298 v0 [⟨0, .dead⟩] :=
  (yv (cf := y2l2) (by kernel_rfl) rfl).trans ((y257 _).trans (by kernel_rfl))
def ylx (h : Heap) : OX :=
(yc h (AV.int .i64 (-1)))
def y6e (s : St) : OX := ylx s.h
theorem y1if : T0 y19m [.t 4] y6e := fun _ => by kernel_rfl
def yj9 (v0 v1 v7 v8 : AV) (h : Heap) : OX :=
  W E 0 yjw ⟨[(0, v0), (1, v1), (7, v7), (8, v8)], h⟩ y6e (y4 0 y6e xN) (finP [.t 4])
def y8a (s : St) : OX := yj9 (s 0) (s 1) (s 7) (s 8) s.h
theorem ymd : T1 yjw y6e (y4 0 y6e xN) [.t 4] y8a := fun s => yh.trans (by kernel_rfl)
def ym6 (v0 v1 v7 v8 : AV) (h : Heap) : OX :=
ob (y5 .add v8 (AV.int .i64 1)) fun v18 =>
(yj9 v0 v1 v7 v18 h)
def y29f (s : St) : OX := ym6 (s 0) (s 1) (s 7) (s 8) s.h
theorem y1s6 : T1 y19s y8a (y4 0 y6e xN) [.t 4] y29f := fun _ => by kernel_rfl
def yoh (v0 v1 v7 v8 : AV) (h : Heap) : OX :=
ob (yw 1 v0 v8) fun v14 =>
ob (evLd false 1 v14 h) fun v15 =>
ob (y5 .eql v1 v15) fun v16 =>
cnd v16
 ((yc h v8))
 ((ym6 v0 v1 v7 v8 h))
def y2fm (s : St) : OX := yoh (s 0) (s 1) (s 7) (s 8) s.h
theorem y1mj : T1 y184 y8a (y4 0 y6e xN) [.t 4] y2fm := sq y1s6 fun _ => by kernel_rfl
def ynm (v0 v1 v7 v8 v9 : AV) (h : Heap) : OX :=
cnd v9
 ((yoh v0 v1 v7 v8 h))
 ((ylx h))
def y2f7 (s : St) : OX := ynm (s 0) (s 1) (s 7) (s 8) (s 9) s.h
theorem y1tf : T1 y19k y8a (y4 0 y6e xN) [.t 4] y2f7 := sq y1mj fun _ => by kernel_rfl
def yn3 (v0 v1 v7 v8 : AV) (h : Heap) : OX :=
ob (y5 .lss v8 v7) fun v9 =>
(ynm v0 v1 v7 v8 v9 h)
def y2bv (s : St) : OX := yn3 (s 0) (s 1) (s 7) (s 8) s.h
theorem y1h2 : T1 yzc y8a (y4 0 y6e xN) [.t 4] y2bv := sq y1tf fun _ => by kernel_rfl
theorem ylk (v0 v1 v7 v8 : AV) (h : Heap) : yj9 v0 v1 v7 v8 h = (yn3 v0 v1 v7 v8 h) :=
  y1r.trans ((y17 _ _ _ (n' := y8a) (fun s => ymd s)).trans ((y1h2 _).trans (by kernel_rfl)))
theorem y1ui : T1 y142 y6e xN [.t 4] y8a := fun s => yt.trans (ymd s)
def yn8 (v0 v1 : AV) (h : Heap) : OX :=
ob (y11 1 v0 h) fun v7 =>
(yj9 v0 v1 v7 (AV.int .i64 0) h)
def y1jc (s : St) : OX := yn8 (s 0) (s 1) s.h
theorem y1tv : T1 y11m y6e xN [.t 4] y1jc := sq y1ui fun _ => by kernel_rfl
theorem y1oo : T0 yz5 [.t 4] y1jc := sq y1if y1tv
def yf7 (v0 v1 : AV) (h : Heap) : OX :=
(yn8 v0 v1 h)
def y1y8 (s : St) : OX := yf7 (s 0) (s 1) s.h
theorem y1dm : T0 yuf [.t 4] y1y8 := sq y1oo fun _ => by kernel_rfl
@[simp] theorem y2si : E.pure 45 = true := rfl
theorem y2mv (v0 v1 : AV) : (y7 E).p 45 [v0, v1] = yf7 v0 v1 [] :=
  (yv (cf := y273) (by kernel_rfl) rfl).trans ((y1dm _).trans (by kernel_rfl))
end
end Go.Vm
