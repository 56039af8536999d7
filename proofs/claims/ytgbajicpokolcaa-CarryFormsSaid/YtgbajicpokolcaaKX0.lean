/- Functions of the machine as plain functions that go on with what follows. -/
import Derived.Test.YtgbajicpokolcaaKEnv
set_option linter.unusedSimpArgs false
set_option linter.unusedVariables false
set_option linter.unusedSectionVars false
namespace Go.Vm
noncomputable section
def y241 (v1 v3 : AV) (h : Heap) : OX :=
ob (evLd true 5 v3 h) fun v30 =>
oh (y7 E (y8 E) 0 none true 29 [v30] h) fun v31 h1 =>
ob (y5 .eql v31 (AV.int .i64 0)) fun v32 =>
gb v32 true (evFa 3 v3) fun v34 =>
gb v32 true (evLd false 1 v34 h1) fun v35 =>
gb v32 true (yq 1 v35 h1) fun v36 =>
gb v32 true (evFa 3 v1) fun v37 =>
gb v32 true (evLd false 1 v37 h1) fun v38 =>
gb v32 true (yq 1 v38 h1) fun v39 =>
gb v32 true (y5 .eql v36 v39) fun v40 =>
ob (yb v32 v40 (AV.bool false)) fun v41 =>
gb v41 true (evLd true 5 v1 h1) fun v43 =>
gh v41 true (y7 E (y8 E) 0 none true 77 [v43] h1) h1 fun v44 h2 =>
gb v41 true (evUn .not v44) fun v45 =>
gb v41 true (some v45) fun v46 =>
gb v46 false (evLd true 5 v3 h2) fun v47 =>
gh v46 false (y7 E (y8 E) 0 none true 77 [v47] h2) h2 fun v48 h3 =>
gb v41 true (yb v46 (AV.bool true) v48) fun v49 =>
ob (yb v41 v49 (AV.bool false)) fun v50 =>
(yc h3 v50)
def y2rw (s : St) : OX := y241 (s 1) (s 3) s.h
theorem y23j : T0 y1fh [.t 2] y2rw := fun _ => by kernel_rfl
def y1e0 (v1 v3 : AV) (h : Heap) : OX :=
ob (evLd true 5 v1 h) fun v24 =>
oh (y7 E (y8 E) 0 none true 29 [v24] h) fun v25 h4 =>
ob (y5 .neq v25 (AV.int .i64 0)) fun v26 =>
cnd v26
 (ob (evLd true 5 v1 h4) fun v27 =>
ob (evLd true 5 v3 h4) fun v28 =>
oh (y7 E (y8 E) 0 none true 14 [v27, v28] h4) fun v29 h5 =>
(yc h5 v29))
 ((y241 v1 v3 h4))
def y2tf (s : St) : OX := y1e0 (s 1) (s 3) s.h
theorem y21e : T0 y1m4 [.t 2] y2tf := sq y23j fun _ => by kernel_rfl
def y1ig (v1 : AV) (h : Heap) : OX :=
ob (evLd true 5 v1 h) fun v22 =>
oh (y7 E (y8 E) 0 none true 149 [v22] h) fun v23 h6 =>
oh (newC 0 (some 1) [.nils, .nils, (.int .i64 0), .nils, .nils] h6) fun v3 h7 =>
oh (evSt 5 v3 v23 h7) fun _ h8 =>
(y1e0 v1 v3 h8)
def y2uc (s : St) : OX := y1ig (s 1) s.h
theorem y232 : T0 y1mu [.t 2] y2uc := sq y21e fun _ => by kernel_rfl
def y1bu (v1 : AV) (h : Heap) : OX :=
ob (evFa 3 v1) fun v6 =>
ob (evLd false 1 v6 h) fun v7 =>
ob (yq 1 v7 h) fun v8 =>
ob (y5 .gtr v8 (AV.int .i64 400)) fun v9 =>
gb v9 false (evFa 0 v1) fun v11 =>
gb v9 false (evLd false 1 v11 h) fun v12 =>
gb v9 false (yq 1 v12 h) fun v13 =>
gb v9 false (y5 .gtr v13 (AV.int .i64 100)) fun v14 =>
ob (yb v9 (AV.bool true) v14) fun v15 =>
gb v15 false (evFa 4 v1) fun v17 =>
gb v15 false (evLd false 1 v17 h) fun v18 =>
gb v15 false (yq 1 v18 h) fun v19 =>
gb v15 false (y5 .gtr v19 (AV.int .i64 50)) fun v20 =>
ob (yb v15 (AV.bool true) v20) fun v21 =>
cnd v21
 ((yc h (AV.bool true)))
 ((y1ig v1 h))
def y2q8 (s : St) : OX := y1bu (s 1) s.h
theorem y263 : T0 y1if [.t 2] y2q8 := sq y232 fun _ => by kernel_rfl
def y1dt (v1 : AV) (h : Heap) : OX :=
oh (y7 E (y8 E) 0 none true 148 [] h) fun v4 h9 =>
ob (evUn .not v4) fun v5 =>
cnd v5
 ((yc h9 (AV.bool false)))
 ((y1bu v1 h9))
def y2u8 (s : St) : OX := y1dt (s 1) s.h
theorem y292 : T0 y1w1 [.t 2] y2u8 := sq y263 fun _ => by kernel_rfl
def yx2 (v0 : AV) (h : Heap) : OX :=
oh (newC 0 (some 0) (cellsOf v0) h) fun v1 h10 =>
(y1dt v1 h10)
def y2qn (s : St) : OX := yx2 (s 0) s.h
theorem y27c : T0 y1fi [.t 2] y2qn := sq y292 fun _ => by kernel_rfl
@[simp] theorem y2va : E.pure 147 = true := rfl
theorem y2y7 (v0 : AV) : (y8 E).p 147 [v0] = yx2 v0 [⟨0, .dead⟩, ⟨0, .dead⟩] :=
  (yz (cf := y2tr) (by kernel_rfl) rfl).trans ((y27c _).trans (by kernel_rfl))
def y1tc (v2 v3 : AV) (h : Heap) : OX :=
ob (evLd true 5 v3 h) fun v39 =>
oh (evSt 5 v2 v39 h) fun _ h1 =>
(ob (evLd true 5 v2 h1) fun r0 =>
  yc h1 r0)
def ybv (s : St) : OX := y1tc (s 2) (s 3) s.h
theorem y298 : T0 y20d [.cell 2 true 5] ybv := fun _ => by kernel_rfl
def yul (v2 v3 v22 v23 : AV) (h : Heap) : OX :=
  W E 0 yq2 ⟨[(2, v2), (3, v3), (22, v22), (23, v23)], h⟩ ybv (y1 0 ybv xN) (finP [.cell 2 true 5])
def yd5 (s : St) : OX := yul (s 2) (s 3) (s 22) (s 23) s.h
theorem ysi : T1 yq2 ybv (y1 0 ybv xN) [.cell 2 true 5] yd5 := fun s => ye.trans (by kernel_rfl)
def y2fi (v2 v3 v22 v23 : AV) (h : Heap) : OX :=
ob (y5 .add v23 (AV.int .i64 1)) fun v38 =>
(yul v2 v3 v22 v38 h)
def y2os (s : St) : OX := y2fi (s 2) (s 3) (s 22) (s 23) s.h
theorem y29m : T1 y1vh yd5 (y1 0 ybv xN) [.cell 2 true 5] y2os := fun _ => by kernel_rfl
def y2hc (v2 v3 v22 v23 : AV) (h : Heap) : OX :=
ob (evFa 3 v3) fun v26 =>
ob (evLd false 1 v26 h) fun v27 =>
ob (evFa 3 v3) fun v29 =>
ob (evLd false 1 v29 h) fun v30 =>
ob (yi 9 v30 v23) fun v32 =>
ob (evFa 8 v32) fun v33 =>
ob (evLd false 1 v33 h) fun v34 =>
ofp (y3p E (y8 E) 0 none true 39 [v34] h) fun f9 =>
oh (y7 E (y8 E) 0 none true 39 [v34] h) fun v35 h2 =>
ob (yi 9 v27 v23) fun v36 =>
ob (evFa 8 v36) fun v37 =>
oh (evSt 1 v37 v35 h2) fun _ h3 =>
okK (yd [([], []), (ids1 v26, []), ([], []), ([], []), (ids1 v29, []), ([], []), ([], []), ([], []), (ids1 v33, []), f9, ([], []), ([], []), ([], ids1 v37)] [(1, 9)]) <|
(y2fi v2 v3 v22 v23 h3)
def y2o1 (s : St) : OX := y2hc (s 2) (s 3) (s 22) (s 23) s.h
theorem y220 : T1 y1v6 yd5 (y1 0 ybv xN) [.cell 2 true 5] y2o1 := sq y29m fun _ => by kernel_rfl
def y28t (v2 v3 v22 v23 v24 : AV) (h : Heap) : OX :=
cnd v24
 ((y2hc v2 v3 v22 v23 h))
 ((y1tc v2 v3 h))
def y2pp (s : St) : OX := y28t (s 2) (s 3) (s 22) (s 23) (s 24) s.h
theorem y23r : T1 y1fg yd5 (y1 0 ybv xN) [.cell 2 true 5] y2pp := sq y220 fun _ => by kernel_rfl
def y22r (v2 v3 v22 v23 : AV) (h : Heap) : OX :=
ob (y5 .lss v23 v22) fun v24 =>
(y28t v2 v3 v22 v23 v24 h)
def y2q4 (s : St) : OX := y22r (s 2) (s 3) (s 22) (s 23) s.h
theorem y28f : T1 y1rd yd5 (y1 0 ybv xN) [.cell 2 true 5] y2q4 := sq y23r fun _ => by kernel_rfl
theorem yqz (v2 v3 v22 v23 : AV) (h : Heap) : yul v2 v3 v22 v23 h = (y22r v2 v3 v22 v23 h) :=
  y19.trans ((y12 _ _ _ (n' := yd5) (fun s => ysi s)).trans ((y28f _).trans (by kernel_rfl)))
theorem y21g : T1 y1y6 ybv xN [.cell 2 true 5] yd5 := fun s => yo.trans (ysi s)
def y1wm (v2 v3 : AV) (h : Heap) : OX :=
ob (evFa 3 v3) fun v20 =>
ob (evLd false 1 v20 h) fun v21 =>
ob (yq 1 v21 h) fun v22 =>
(yul v2 v3 v22 (AV.int .i64 0) h)
def y2bp (s : St) : OX := y1wm (s 2) (s 3) s.h
theorem y21s : T1 y1va ybv xN [.cell 2 true 5] y2bp := sq y21g fun _ => by kernel_rfl
theorem y254 : T0 y1l3 [.cell 2 true 5] y2bp := sq y298 y21s
def ys6 (v1 v2 : AV) (h : Heap) : OX :=
ob (evFa 0 v1) fun v5 =>
ob (evLd false 1 v5 h) fun v6 =>
ofp (y3p E (y8 E) 0 (some 2) false 39 [v6] h) fun f2 =>
oh (y7 E (y8 E) 0 (some 2) false 39 [v6] h) fun v7 h4 =>
ob (evFa 1 v1) fun v8 =>
ob (evLd false 1 v8 h4) fun v9 =>
ofp (y3p E (y8 E) 0 (some 3) false 39 [v9] h4) fun f5 =>
oh (y7 E (y8 E) 0 (some 3) false 39 [v9] h4) fun v10 h5 =>
ob (evFa 2 v1) fun v11 =>
ob (evLd false 1 v11 h5) fun v12 =>
ob (evFa 3 v1) fun v13 =>
ob (evLd false 1 v13 h5) fun v14 =>
ofp (y3p E (y8 E) 0 (some 4) false 40 [v14] h5) fun f10 =>
oh (y7 E (y8 E) 0 (some 4) false 40 [v14] h5) fun v15 h6 =>
ob (evFa 4 v1) fun v16 =>
ob (evLd false 1 v16 h6) fun v17 =>
ofp (y3p E (y8 E) 0 (some 5) false 41 [v17] h6) fun f13 =>
oh (y7 E (y8 E) 0 (some 5) false 41 [v17] h6) fun v18 h7 =>
ob (y1i [.nils, .nils, (.int .i64 0), .nils, .nils] [(0, 1, v7), (1, 1, v10), (2, 1, v12), (3, 1, v15), (4, 1, v18)]) fun v19 =>
oh (newC 0 (some 6) [.nils, .nils, (.int .i64 0), .nils, .nils] h7) fun v3 h8 =>
oh (evSt 5 v3 v19 h8) fun _ h9 =>
okK (yd [([], []), (ids1 v5, []), f2, ([], []), (ids1 v8, []), f5, ([], []), (ids1 v11, []), ([], []), (ids1 v13, []), f10, ([], []), (ids1 v16, []), f13, ([], []), ([], [0 + 6]), ([], ids1 v3)] [(2, 4), (2, 7), (5, 7), (2, 9), (5, 9), (7, 10), (2, 12), (5, 12), (10, 12), (7, 13), (1, 15), (2, 15), (4, 15), (5, 15), (7, 15), (9, 15), (10, 15), (12, 15), (13, 15)]) <|
(y1wm v2 v3 h9)
def y2mb (s : St) : OX := ys6 (s 1) (s 2) s.h
theorem y1vf : T0 y01 [.cell 2 true 5] y2mb := sq y254 fun _ => by kernel_rfl
def y1aq (v0 : AV) (h : Heap) : OX :=
oh (newC 0 (some 0) (cellsOf v0) h) fun v1 h10 =>
oh (newC 0 (some 1) [.nils, .nils, (.int .i64 0), .nils, .nils] h10) fun v2 h11 =>
(ys6 v1 v2 h11)
def y2de (s : St) : OX := y1aq (s 0) s.h
theorem y1lv : T0 y12b [.cell 2 true 5] y2de := sq y1vf fun _ => by kernel_rfl
@[simp] theorem y2w9 : E.pure 13 = true := rfl
theorem y2xo (v0 : AV) : (y8 E).p 13 [v0] = y1aq v0 [⟨0, .dead⟩, ⟨0, .dead⟩, ⟨0, .dead⟩, ⟨0, .dead⟩, ⟨0, .dead⟩, ⟨0, .dead⟩, ⟨0, .dead⟩] :=
  (yz (cf := y2t0) (by kernel_rfl) rfl).trans ((y1lv _).trans (by kernel_rfl))
def y1o9 (h : Heap) : OX :=
(yc h (AV.bool true))
def y7u (s : St) : OX := y1o9 s.h
theorem y1tr : T0 y14f [.t 4] y7u := fun _ => by kernel_rfl
def yjk (v2 v3 v6 : AV) (h : Heap) : OX :=
  W E 0 ykn ⟨[(2, v2), (3, v3), (6, v6)], h⟩ y7u (y1 2 y7u xN) (finP [.t 4])
def yc8 (s : St) : OX := yjk (s 2) (s 3) (s 6) s.h
theorem ym1 : T1 ykn y7u (y1 2 y7u xN) [.t 4] yc8 := fun s => ye.trans (by kernel_rfl)
def y17v (v2 v3 v6 : AV) (h : Heap) : OX :=
ob (y5 .add v6 (AV.int .i64 1)) fun v71 =>
(yjk v2 v3 v71 h)
def y2ji (s : St) : OX := y17v (s 2) (s 3) (s 6) s.h
theorem y1r9 : T1 y198 yc8 (y1 2 y7u xN) [.t 4] y2ji := fun _ => by kernel_rfl
def y123 (v2 v3 v6 : AV) (h : Heap) : OX :=
ob (evFa 4 v2) fun v72 =>
ob (evLd false 1 v72 h) fun v73 =>
ob (yi 4 v73 v6) fun v75 =>
ob (evLd true 4 v75 h) fun v76 =>
ob (evFa 4 v3) fun v77 =>
ob (evLd false 1 v77 h) fun v78 =>
ob (yi 4 v78 v6) fun v80 =>
ob (evLd true 4 v80 h) fun v81 =>
ob (y1rj true [0, 0, 0, 2] v76 v81) fun v82 =>
cnd v82
 ((yc h (AV.bool false)))
 ((y17v v2 v3 v6 h))
def y2ip (s : St) : OX := y123 (s 2) (s 3) (s 6) s.h
theorem y1gk : T1 y12f yc8 (y1 2 y7u xN) [.t 4] y2ip := sq y1r9 fun _ => by kernel_rfl
def yv3 (v2 v3 v6 : AV) (h : Heap) : OX :=
ob (evFa 4 v2) fun v66 =>
ob (evLd false 1 v66 h) fun v67 =>
ob (yq 1 v67 h) fun v68 =>
ob (y5 .lss v6 v68) fun v69 =>
cnd v69
 ((y123 v2 v3 v6 h))
 ((y1o9 h))
def y2jk (s : St) : OX := yv3 (s 2) (s 3) (s 6) s.h
theorem y1o3 : T1 y1a3 yc8 (y1 2 y7u xN) [.t 4] y2jk := sq y1gk fun _ => by kernel_rfl
theorem yn2 (v2 v3 v6 : AV) (h : Heap) : yjk v2 v3 v6 h = (yv3 v2 v3 v6 h) :=
  y19.trans ((y12 _ _ _ (n' := yc8) (fun s => ym1 s)).trans ((y1o3 _).trans (by kernel_rfl)))
theorem y1ir : T1 y16e y7u xN [.t 4] yc8 := fun s => yo.trans (ym1 s)
def y1ge (v2 v3 : AV) (h : Heap) : OX :=
(yjk v2 v3 (AV.int .i64 0) h)
def y6y (s : St) : OX := y1ge (s 2) (s 3) s.h
theorem y1i1 : T1 y18d y7u xN [.t 4] y6y := sq y1ir fun _ => by kernel_rfl
theorem y1m0 : T0 y111 [.t 4] y6y := sq y1tr y1i1
def yiy (v2 v3 v5 : AV) (h : Heap) : OX :=
  W E 0 yid ⟨[(2, v2), (3, v3), (5, v5)], h⟩ y6y (y1 0 y6y xN) (finP [.t 4])
def ycb (s : St) : OX := yiy (s 2) (s 3) (s 5) s.h
theorem ynu : T1 yid y6y (y1 0 y6y xN) [.t 4] ycb := fun s => ye.trans (by kernel_rfl)
def yxn (v2 v3 v5 : AV) (h : Heap) : OX :=
ob (y5 .add v5 (AV.int .i64 1)) fun v52 =>
(yiy v2 v3 v52 h)
def y26m (s : St) : OX := yxn (s 2) (s 3) (s 5) s.h
theorem y1ei : T1 ysj ycb (y1 0 y6y xN) [.t 4] y26m := fun _ => by kernel_rfl
def yq8 (v2 v3 v5 : AV) (h : Heap) : OX :=
ob (evFa 3 v2) fun v53 =>
ob (evLd false 1 v53 h) fun v54 =>
ob (yi 9 v54 v5) fun v56 =>
ob (evLd true 9 v56 h) fun v57 =>
ob (evFa 3 v3) fun v58 =>
ob (evLd false 1 v58 h) fun v59 =>
ob (yi 9 v59 v5) fun v61 =>
ob (evLd true 9 v61 h) fun v62 =>
oh (y7 E (y8 E) 0 none true 28 [v57, v62] h) fun v63 h1 =>
ob (evUn .not v63) fun v64 =>
cnd v64
 ((yc h1 (AV.bool false)))
 ((yxn v2 v3 v5 h1))
def y236 (s : St) : OX := yq8 (s 2) (s 3) (s 5) s.h
theorem y1d8 : T1 yre ycb (y1 0 y6y xN) [.t 4] y236 := sq y1ei fun _ => by kernel_rfl
def yic (v2 v3 v5 : AV) (h : Heap) : OX :=
ob (evFa 3 v2) fun v47 =>
ob (evLd false 1 v47 h) fun v48 =>
ob (yq 1 v48 h) fun v49 =>
ob (y5 .lss v5 v49) fun v50 =>
cnd v50
 ((yq8 v2 v3 v5 h))
 ((y1ge v2 v3 h))
def y20v (s : St) : OX := yic (s 2) (s 3) (s 5) s.h
theorem y1db : T1 yvl ycb (y1 0 y6y xN) [.t 4] y20v := sq y1d8 fun _ => by kernel_rfl
theorem ymo (v2 v3 v5 : AV) (h : Heap) : yiy v2 v3 v5 h = (yic v2 v3 v5 h) :=
  y19.trans ((y12 _ _ _ (n' := ycb) (fun s => ynu s)).trans ((y1db _).trans (by kernel_rfl)))
theorem y1c7 : T1 yvn y6y xN [.t 4] ycb := fun s => yo.trans (ynu s)
def yy7 (v2 v3 : AV) (h : Heap) : OX :=
(yiy v2 v3 (AV.int .i64 0) h)
def yzc (s : St) : OX := yy7 (s 2) (s 3) s.h
theorem y1en : T1 yua y6y xN [.t 4] yzc := sq y1c7 fun _ => by kernel_rfl
theorem y1d5 : T0 yr2 [.t 4] yzc := sq y1m0 y1en
def yas (v2 v3 : AV) (h : Heap) : OX :=
ob (evFa 0 v2) fun v7 =>
ob (evLd false 1 v7 h) fun v8 =>
ob (evFa 0 v3) fun v9 =>
ob (evLd false 1 v9 h) fun v10 =>
oh (y7 E (y8 E) 0 none true 11 [v8, v10] h) fun v11 h2 =>
ob (evUn .not v11) fun v12 =>
gb v12 false (evFa 1 v2) fun v14 =>
gb v12 false (evLd false 1 v14 h2) fun v15 =>
gb v12 false (evFa 1 v3) fun v16 =>
gb v12 false (evLd false 1 v16 h2) fun v17 =>
gh v12 false (y7 E (y8 E) 0 none true 11 [v15, v17] h2) h2 fun v18 h3 =>
gb v12 false (evUn .not v18) fun v19 =>
ob (yb v12 (AV.bool true) v19) fun v20 =>
gb v20 false (evFa 2 v2) fun v22 =>
gb v20 false (evLd false 1 v22 h3) fun v23 =>
gb v20 false (evFa 2 v3) fun v24 =>
gb v20 false (evLd false 1 v24 h3) fun v25 =>
gb v20 false (y5 .neq v23 v25) fun v26 =>
ob (yb v20 (AV.bool true) v26) fun v27 =>
gb v27 false (evFa 3 v2) fun v29 =>
gb v27 false (evLd false 1 v29 h3) fun v30 =>
gb v27 false (yq 1 v30 h3) fun v31 =>
gb v27 false (evFa 3 v3) fun v32 =>
gb v27 false (evLd false 1 v32 h3) fun v33 =>
gb v27 false (yq 1 v33 h3) fun v34 =>
gb v27 false (y5 .neq v31 v34) fun v35 =>
ob (yb v27 (AV.bool true) v35) fun v36 =>
gb v36 false (evFa 4 v2) fun v38 =>
gb v36 false (evLd false 1 v38 h3) fun v39 =>
gb v36 false (yq 1 v39 h3) fun v40 =>
gb v36 false (evFa 4 v3) fun v41 =>
gb v36 false (evLd false 1 v41 h3) fun v42 =>
gb v36 false (yq 1 v42 h3) fun v43 =>
gb v36 false (y5 .neq v40 v43) fun v44 =>
ob (yb v36 (AV.bool true) v44) fun v45 =>
cnd v45
 ((yc h3 (AV.bool false)))
 ((yy7 v2 v3 h3))
def y259 (s : St) : OX := yas (s 2) (s 3) s.h
theorem y1bg : T0 ytx [.t 4] y259 := sq y1d5 fun _ => by kernel_rfl
def yb2 (v0 v1 : AV) (h : Heap) : OX :=
oh (newC 0 (some 0) (cellsOf v0) h) fun v2 h4 =>
oh (newC 0 (some 1) (cellsOf v1) h4) fun v3 h5 =>
(yas v2 v3 h5)
def y286 (s : St) : OX := yb2 (s 0) (s 1) s.h
theorem y1ed : T0 yve [.t 4] y286 := sq y1bg fun _ => by kernel_rfl
@[simp] theorem y2yr : E.pure 14 = true := rfl
theorem y2sb (v0 v1 : AV) : (y8 E).p 14 [v0, v1] = yb2 v0 v1 [⟨0, .dead⟩, ⟨0, .dead⟩] :=
  (yz (cf := y2bd) (by kernel_rfl) rfl).trans ((y1ed _).trans (by kernel_rfl))
def y2jw (h : Heap) : OX :=
(yc h (AV.int .i64 0))
def yb1 (s : St) : OX := y2jw s.h
theorem y27n : T0 y1ox [.t 2] yb1 := fun _ => by kernel_rfl
def ynx (v1 v3 v136 v137 v138 : AV) (h : Heap) : OX :=
  W E 0 yqa ⟨[(1, v1), (3, v3), (136, v136), (137, v137), (138, v138)], h⟩ yb1 (y1 6 yb1 xN) (finP [.t 2])
def ydz (s : St) : OX := ynx (s 1) (s 3) (s 136) (s 137) (s 138) s.h
theorem ytq : T1 yqa yb1 (y1 6 yb1 xN) [.t 2] ydz := fun s => ye.trans (by kernel_rfl)
def y2fc (v1 v3 v136 v137 v138 : AV) (h : Heap) : OX :=
ob (y5 .add v138 (AV.int .i64 1)) fun v179 =>
(ynx v1 v3 v136 v137 v179 h)
def y2rj (s : St) : OX := y2fc (s 1) (s 3) (s 136) (s 137) (s 138) s.h
theorem y26b : T1 y1n9 ydz (y1 6 yb1 xN) [.t 2] y2rj := fun _ => by kernel_rfl
def yq5 (v1 v3 v136 v137 v138 : AV) (h : Heap) : OX :=
ob (yi 4 v136 v138) fun v140 =>
ob (evLd true 4 v140 h) fun v141 =>
oh (newC 0 (some 2) [(.int .i64 0), (.int .i64 0), (.int .i64 0), (.str [])] h) fun v11 h1 =>
oh (evSt 4 v11 v141 h1) fun _ h2 =>
ob (evFa 0 v11) fun v142 =>
ob (evLd false 1 v142 h2) fun v143 =>
ob (y5 .lss v143 (AV.int .i64 0)) fun v144 =>
gb v144 false (evFa 0 v11) fun v146 =>
gb v144 false (evLd false 1 v146 h2) fun v147 =>
gb v144 false (evFa 1 v11) fun v148 =>
gb v144 false (evLd false 1 v148 h2) fun v149 =>
gb v144 false (y5 .geq v147 v149) fun v150 =>
ob (yb v144 (AV.bool true) v150) fun v151 =>
gb v151 false (evFa 1 v11) fun v153 =>
gb v151 false (evLd false 1 v153 h2) fun v154 =>
gb v151 false (some v3) fun v155 =>
gb v151 false (y5 .gtr v154 v155) fun v156 =>
ob (yb v151 (AV.bool true) v156) fun v157 =>
gb v157 false (evFa 2 v11) fun v159 =>
gb v157 false (evLd false 1 v159 h2) fun v160 =>
gb v157 false (y5 .lss v160 (AV.int .i64 0)) fun v161 =>
ob (yb v157 (AV.bool true) v161) fun v162 =>
gb v162 false (evFa 2 v11) fun v164 =>
gb v162 false (evLd false 1 v164 h2) fun v165 =>
gb v162 false (some v3) fun v166 =>
gb v162 false (y5 .geq v165 v166) fun v167 =>
ob (yb v162 (AV.bool true) v167) fun v168 =>
gb v168 false (evFa 3 v1) fun v170 =>
gb v168 false (evLd false 1 v170 h2) fun v171 =>
gb v168 false (evFa 2 v11) fun v172 =>
gb v168 false (evLd false 1 v172 h2) fun v173 =>
gb v168 false (yi 9 v171 v173) fun v174 =>
gb v168 false (evFa 0 v174) fun v175 =>
gb v168 false (evLd false 1 v175 h2) fun v176 =>
gb v168 false (y5 .neq v176 (AV.int .i64 32)) fun v177 =>
ob (yb v168 (AV.bool true) v177) fun v178 =>
cnd v178
 ((yc h2 (AV.int .i64 80)))
 ((y2fc v1 v3 v136 v137 v138 h2))
def y2rb (s : St) : OX := yq5 (s 1) (s 3) (s 136) (s 137) (s 138) s.h
theorem y247 : T1 y1z6 ydz (y1 6 yb1 xN) [.t 2] y2rb := sq y26b fun _ => by kernel_rfl
def y26i (v1 v3 v136 v137 v138 v139 : AV) (h : Heap) : OX :=
cnd v139
 ((yq5 v1 v3 v136 v137 v138 h))
 ((y2jw h))
def y2pw (s : St) : OX := y26i (s 1) (s 3) (s 136) (s 137) (s 138) (s 139) s.h
theorem y2a2 : T1 y1o2 ydz (y1 6 yb1 xN) [.t 2] y2pw := sq y247 fun _ => by kernel_rfl
def y269 (v1 v3 v136 v137 v138 : AV) (h : Heap) : OX :=
ob (y5 .lss v138 v137) fun v139 =>
(y26i v1 v3 v136 v137 v138 v139 h)
def y2nx (s : St) : OX := y269 (s 1) (s 3) (s 136) (s 137) (s 138) s.h
theorem y212 : T1 y1pr ydz (y1 6 yb1 xN) [.t 2] y2nx := sq y2a2 fun _ => by kernel_rfl
theorem yu0 (v1 v3 v136 v137 v138 : AV) (h : Heap) : ynx v1 v3 v136 v137 v138 h = (y269 v1 v3 v136 v137 v138 h) :=
  y19.trans ((y12 _ _ _ (n' := ydz) (fun s => ytq s)).trans ((y212 _).trans (by kernel_rfl)))
theorem y28c : T1 y1y9 yb1 xN [.t 2] ydz := fun s => yo.trans (ytq s)
def y1kg (v1 v3 : AV) (h : Heap) : OX :=
ob (evFa 4 v1) fun v135 =>
ob (evLd false 1 v135 h) fun v136 =>
ob (yq 1 v136 h) fun v137 =>
(ynx v1 v3 v136 v137 (AV.int .i64 0) h)
def y6a (s : St) : OX := y1kg (s 1) (s 3) s.h
theorem y22d : T1 y1ww yb1 xN [.t 2] y6a := sq y28c fun _ => by kernel_rfl
theorem y287 : T0 y1fm [.t 2] y6a := sq y27n y22d
def yg8 (v1 v3 v92 v93 v94 : AV) (h : Heap) : OX :=
  W E 0 ykw ⟨[(1, v1), (3, v3), (92, v92), (93, v93), (94, v94)], h⟩ y6a (y1 4 y6a xN) (finP [.t 2])
def y8m (s : St) : OX := yg8 (s 1) (s 3) (s 92) (s 93) (s 94) s.h
theorem ymc : T1 ykw y6a (y1 4 y6a xN) [.t 2] y8m := fun s => ye.trans (by kernel_rfl)
def yz1 (v1 v3 v92 v93 v94 : AV) (h : Heap) : OX :=
ob (y5 .add v94 (AV.int .i64 1)) fun v134 =>
(yg8 v1 v3 v92 v93 v134 h)
def yar (s : St) : OX := yz1 (s 1) (s 3) (s 92) (s 93) (s 94) s.h
theorem y1ky : T1 yz4 y8m (y1 4 y6a xN) [.t 2] yar := fun _ => by kernel_rfl
def ycr (v1 v3 v8 v9 v92 v93 v94 : AV) (h : Heap) : OX :=
ob (evFa 0 v9) fun v103 =>
ob (evLd false 1 v103 h) fun v104 =>
ob (y5 .eql v104 (AV.int .i64 32)) fun v105 =>
gb v105 true (some v8) fun v107 =>
gb v105 true (y5 .eql v107 (AV.int .i64 0)) fun v108 =>
gb v105 true (some v108) fun v109 =>
gb v109 false (evFa 3 v1) fun v110 =>
gb v109 false (evLd false 1 v110 h) fun v111 =>
gb v109 false (some v8) fun v112 =>
gb v109 false (y5 .sub v112 (AV.int .i64 1)) fun v113 =>
gb v109 false (yi 9 v111 v113) fun v114 =>
gb v109 false (evLd true 9 v114 h) fun v115 =>
gh v109 false (y7 E (y8 E) 0 none true 24 [v115] h) h fun v116 h3 =>
gb v109 false (evUn .not v116) fun v117 =>
gb v105 true (yb v109 (AV.bool true) v117) fun v118 =>
ob (yb v105 v118 (AV.bool false)) fun v119 =>
gb v119 false (evLd true 9 v9 h3) fun v121 =>
gh v119 false (y7 E (y8 E) 0 none true 22 [v121] h3) h3 fun v122 h4 =>
gb v119 false (some v122) fun v123 =>
gb v123 true (evFa 3 v1) fun v124 =>
gb v123 true (evLd false 1 v124 h4) fun v125 =>
gb v123 true (evFa 6 v9) fun v126 =>
gb v123 true (evLd false 1 v126 h4) fun v127 =>
gb v123 true (yi 9 v125 v127) fun v128 =>
gb v123 true (evFa 0 v128) fun v129 =>
gb v123 true (evLd false 1 v129 h4) fun v130 =>
gb v123 true (y5 .eql v130 (AV.int .i64 32)) fun v131 =>
gb v119 false (yb v123 v131 (AV.bool false)) fun v132 =>
ob (yb v119 (AV.bool true) v132) fun v133 =>
cnd v133
 ((yc h4 (AV.int .i64 80)))
 ((yz1 v1 v3 v92 v93 v94 h4))
def y2mc (s : St) : OX := ycr (s 1) (s 3) (s 8) (s 9) (s 92) (s 93) (s 94) s.h
theorem y1m3 : T1 y126 yar (y1 5 yar (y1 4 y6a xN)) [.t 2] y2mc := fun _ => by kernel_rfl
def y0i (v1 v3 v8 v9 v92 v93 v94 : AV) (h : Heap) : OX :=
ob (evLd true 5 v1 h) fun v99 =>
ob (evLd true 9 v9 h) fun v100 =>
oh (y7 E (y8 E) 0 none true 63 [v99, v100] h) fun v101 h5 =>
ob (evUn .not v101) fun v102 =>
cnd v102
 ((yc h5 (AV.int .i64 80)))
 ((ycr v1 v3 v8 v9 v92 v93 v94 h5))
def y2i7 (s : St) : OX := y0i (s 1) (s 3) (s 8) (s 9) (s 92) (s 93) (s 94) s.h
theorem y1hc : T1 y13x yar (y1 5 yar (y1 4 y6a xN)) [.t 2] y2i7 := sq y1m3 fun _ => by kernel_rfl
def yvf (v1 v3 v92 v93 v94 : AV) (h : Heap) : OX :=
ob (yi 9 v92 v94) fun v97 =>
ob (evLd true 9 v97 h) fun v98 =>
oh (newC 0 (some 1) [(.int .i64 0), (.int .i64 0), (.int .i64 0), (.int .i64 0), (.int .i64 0), (.int .i64 0), (.int .i64 0), (.str []), .nils] h) fun v9 h6 =>
oh (evSt 9 v9 v98 h6) fun _ h7 =>
(y0i v1 v3 v94 v9 v92 v93 v94 h7)
def yyd (s : St) : OX := yvf (s 1) (s 3) (s 92) (s 93) (s 94) s.h
theorem y1um : T1 yza yar (y1 5 yar (y1 4 y6a xN)) [.t 2] yyd := sq y1hc fun _ => by kernel_rfl
theorem y1g3 : T1 y13v yar (y1 4 y6a xN) [.t 2] yyd := fun s => yo.trans (y1um s)
theorem y1v1 : T1 y163 y8m (y1 4 y6a xN) [.t 2] yyd := sq y1ky y1g3
def y19o (v1 v3 v92 v93 v94 v95 : AV) (h : Heap) : OX :=
cnd v95
 ((yvf v1 v3 v92 v93 v94 h))
 ((y1kg v1 v3 h))
def y2jt (s : St) : OX := y19o (s 1) (s 3) (s 92) (s 93) (s 94) (s 95) s.h
theorem y1jw : T1 y17w y8m (y1 4 y6a xN) [.t 2] y2jt := sq y1v1 fun _ => by kernel_rfl
def y171 (v1 v3 v92 v93 v94 : AV) (h : Heap) : OX :=
ob (y5 .lss v94 v93) fun v95 =>
(y19o v1 v3 v92 v93 v94 v95 h)
def y2m1 (s : St) : OX := y171 (s 1) (s 3) (s 92) (s 93) (s 94) s.h
theorem y1ou : T1 y160 y8m (y1 4 y6a xN) [.t 2] y2m1 := sq y1jw fun _ => by kernel_rfl
theorem ynr (v1 v3 v92 v93 v94 : AV) (h : Heap) : yg8 v1 v3 v92 v93 v94 h = (y171 v1 v3 v92 v93 v94 h) :=
  y19.trans ((y12 _ _ _ (n' := y8m) (fun s => ymc s)).trans ((y1ou _).trans (by kernel_rfl)))
theorem y1fn : T1 y18t y6a xN [.t 2] y8m := fun s => yo.trans (ymc s)
def yv7 (v1 v3 : AV) (h : Heap) : OX :=
ob (evFa 3 v1) fun v91 =>
ob (evLd false 1 v91 h) fun v92 =>
ob (yq 1 v92 h) fun v93 =>
(yg8 v1 v3 v92 v93 (AV.int .i64 0) h)
def y65 (s : St) : OX := yv7 (s 1) (s 3) s.h
theorem y1p0 : T1 y149 y6a xN [.t 2] y65 := sq y1fn fun _ => by kernel_rfl
theorem y20a : T0 y0f [.t 2] y65 := sq y287 y1p0
def yg4 (v1 v3 v62 v63 v64 : AV) (h : Heap) : OX :=
  W E 0 yjm ⟨[(1, v1), (3, v3), (62, v62), (63, v63), (64, v64)], h⟩ y65 (y1 2 y65 xN) (finP [.t 2])
def y9c (s : St) : OX := yg4 (s 1) (s 3) (s 62) (s 63) (s 64) s.h
theorem yo5 : T1 yjm y65 (y1 2 y65 xN) [.t 2] y9c := fun s => ye.trans (by kernel_rfl)
def y1wx (v1 v3 v62 v63 v64 : AV) (h : Heap) : OX :=
ob (y5 .add v64 (AV.int .i64 1)) fun v90 =>
(yg4 v1 v3 v62 v63 v90 h)
def y2gm (s : St) : OX := y1wx (s 1) (s 3) (s 62) (s 63) (s 64) s.h
theorem y1ul : T1 y18l y9c (y1 2 y65 xN) [.t 2] y2gm := fun _ => by kernel_rfl
def yk6 (v1 v3 v62 v63 v64 : AV) (h : Heap) : OX :=
ob (yi 1 v62 v64) fun v67 =>
ob (evLd false 1 v67 h) fun v68 =>
ob (y5 .lss v68 (AV.int .i64 0)) fun v70 =>
gb v70 false (some v68) fun v72 =>
gb v70 false (evFa 0 v1) fun v73 =>
gb v70 false (evLd false 1 v73 h) fun v74 =>
gb v70 false (yq 1 v74 h) fun v75 =>
gb v70 false (y5 .geq v72 v75) fun v76 =>
ob (yb v70 (AV.bool true) v76) fun v77 =>
gb v77 false (evFa 1 v1) fun v79 =>
gb v77 false (evLd false 1 v79 h) fun v80 =>
gb v77 false (some v64) fun v81 =>
gb v77 false (y5y 1 v80 none (some v81)) fun v82 =>
gb v77 false (some v68) fun v83 =>
gh v77 false (y7 E (y8 E) 0 none true 46 [v82, v83] h) h fun v84 h8 =>
ob (yb v77 (AV.bool true) v84) fun v85 =>
gb v85 false (some v64) fun v87 =>
gb v85 false (y5 .gtr v87 (AV.int .i64 20)) fun v88 =>
ob (yb v85 (AV.bool true) v88) fun v89 =>
cnd v89
 ((yc h8 (AV.int .i64 80)))
 ((y1wx v1 v3 v62 v63 v64 h8))
def y2db (s : St) : OX := yk6 (s 1) (s 3) (s 62) (s 63) (s 64) s.h
theorem y1gz : T1 y14d y9c (y1 2 y65 xN) [.t 2] y2db := sq y1ul fun _ => by kernel_rfl
def y19i (v1 v3 v62 v63 v64 v65 : AV) (h : Heap) : OX :=
cnd v65
 ((yk6 v1 v3 v62 v63 v64 h))
 ((yv7 v1 v3 h))
def y2jm (s : St) : OX := y19i (s 1) (s 3) (s 62) (s 63) (s 64) (s 65) s.h
theorem y1i5 : T1 y1a6 y9c (y1 2 y65 xN) [.t 2] y2jm := sq y1gz fun _ => by kernel_rfl
def y13d (v1 v3 v62 v63 v64 : AV) (h : Heap) : OX :=
ob (y5 .lss v64 v63) fun v65 =>
(y19i v1 v3 v62 v63 v64 v65 h)
def y2jg (s : St) : OX := y13d (s 1) (s 3) (s 62) (s 63) (s 64) s.h
theorem y1rh : T1 y132 y9c (y1 2 y65 xN) [.t 2] y2jg := sq y1i5 fun _ => by kernel_rfl
theorem yol (v1 v3 v62 v63 v64 : AV) (h : Heap) : yg4 v1 v3 v62 v63 v64 h = (y13d v1 v3 v62 v63 v64 h) :=
  y19.trans ((y12 _ _ _ (n' := y9c) (fun s => yo5 s)).trans ((y1rh _).trans (by kernel_rfl)))
theorem y1qk : T1 y1ai y65 xN [.t 2] y9c := fun s => yo.trans (yo5 s)
def ys3 (v1 v3 : AV) (h : Heap) : OX :=
ob (evFa 1 v1) fun v61 =>
ob (evLd false 1 v61 h) fun v62 =>
ob (yq 1 v62 h) fun v63 =>
(yg4 v1 v3 v62 v63 (AV.int .i64 0) h)
def y68 (s : St) : OX := ys3 (s 1) (s 3) s.h
theorem y1fo : T1 y129 y65 xN [.t 2] y68 := sq y1qk fun _ => by kernel_rfl
theorem y1wy : T0 y15u [.t 2] y68 := sq y20a y1fo
def ygl (v1 v3 v48 v49 v50 : AV) (h : Heap) : OX :=
  W E 0 yjp ⟨[(1, v1), (3, v3), (48, v48), (49, v49), (50, v50)], h⟩ y68 (y1 0 y68 xN) (finP [.t 2])
def y9b (s : St) : OX := ygl (s 1) (s 3) (s 48) (s 49) (s 50) s.h
theorem yml : T1 yjp y68 (y1 0 y68 xN) [.t 2] y9b := fun s => ye.trans (by kernel_rfl)
def y1u6 (v1 v3 v48 v49 v50 : AV) (h : Heap) : OX :=
ob (y5 .add v50 (AV.int .i64 1)) fun v60 =>
(ygl v1 v3 v48 v49 v60 h)
def y2gw (s : St) : OX := y1u6 (s 1) (s 3) (s 48) (s 49) (s 50) s.h
theorem y1p6 : T1 y16v y9b (y1 0 y68 xN) [.t 2] y2gw := fun _ => by kernel_rfl
def yrk (v1 v3 v48 v49 v50 : AV) (h : Heap) : OX :=
ob (yi 1 v48 v50) fun v52 =>
ob (evLd false 1 v52 h) fun v53 =>
ob (y5 .lss v53 (AV.int .i64 1)) fun v55 =>
gb v55 false (some v53) fun v57 =>
gb v55 false (y5 .gtr v57 (AV.int .i64 3)) fun v58 =>
ob (yb v55 (AV.bool true) v58) fun v59 =>
cnd v59
 ((yc h (AV.int .i64 80)))
 ((y1u6 v1 v3 v48 v49 v50 h))
def y2gn (s : St) : OX := yrk (s 1) (s 3) (s 48) (s 49) (s 50) s.h
theorem y1mc : T1 yzd y9b (y1 0 y68 xN) [.t 2] y2gn := sq y1p6 fun _ => by kernel_rfl
def y16r (v1 v3 v48 v49 v50 v51 : AV) (h : Heap) : OX :=
cnd v51
 ((yrk v1 v3 v48 v49 v50 h))
 ((ys3 v1 v3 h))
def y2hr (s : St) : OX := y16r (s 1) (s 3) (s 48) (s 49) (s 50) (s 51) s.h
theorem y1gg : T1 y0l y9b (y1 0 y68 xN) [.t 2] y2hr := sq y1mc fun _ => by kernel_rfl
def y167 (v1 v3 v48 v49 v50 : AV) (h : Heap) : OX :=
ob (y5 .lss v50 v49) fun v51 =>
(y16r v1 v3 v48 v49 v50 v51 h)
def y2f0 (s : St) : OX := y167 (s 1) (s 3) (s 48) (s 49) (s 50) s.h
theorem y1hj : T1 y18q y9b (y1 0 y68 xN) [.t 2] y2f0 := sq y1gg fun _ => by kernel_rfl
theorem yot (v1 v3 v48 v49 v50 : AV) (h : Heap) : ygl v1 v3 v48 v49 v50 h = (y167 v1 v3 v48 v49 v50 h) :=
  y19.trans ((y12 _ _ _ (n' := y9b) (fun s => yml s)).trans ((y1hj _).trans (by kernel_rfl)))
theorem y1yo : T1 y19j y68 xN [.t 2] y9b := fun s => yo.trans (yml s)
def ynm (v1 v3 : AV) (h : Heap) : OX :=
ob (evFa 0 v1) fun v47 =>
ob (evLd false 1 v47 h) fun v48 =>
ob (yq 1 v48 h) fun v49 =>
(ygl v1 v3 v48 v49 (AV.int .i64 0) h)
def y1h8 (s : St) : OX := ynm (s 1) (s 3) s.h
theorem y1nh : T1 y09 y68 xN [.t 2] y1h8 := sq y1yo fun _ => by kernel_rfl
theorem y1iq : T0 y170 [.t 2] y1h8 := sq y1wy y1nh
def yf5 (v1 v3 : AV) (h : Heap) : OX :=
ob (y5 .lss v3 (AV.int .i64 1)) fun v16 =>
gb v16 false (some v3) fun v18 =>
gb v16 false (y5 .gtr v18 (AV.int .i64 20000)) fun v19 =>
ob (yb v16 (AV.bool true) v19) fun v20 =>
gb v20 false (evFa 0 v1) fun v22 =>
gb v20 false (evLd false 1 v22 h) fun v23 =>
gb v20 false (yq 1 v23 h) fun v24 =>
gb v20 false (y5 .gtr v24 (AV.int .i64 20000)) fun v25 =>
ob (yb v20 (AV.bool true) v25) fun v26 =>
gb v26 false (evFa 2 v1) fun v28 =>
gb v26 false (evLd false 1 v28 h) fun v29 =>
gb v26 false (y5 .lss v29 (AV.int .i64 0)) fun v30 =>
ob (yb v26 (AV.bool true) v30) fun v31 =>
gb v31 false (evFa 2 v1) fun v33 =>
gb v31 false (evLd false 1 v33 h) fun v34 =>
gb v31 false (y5 .gtr v34 (AV.int .i64 3)) fun v35 =>
ob (yb v31 (AV.bool true) v35) fun v36 =>
gb v36 false (evFa 3 v1) fun v38 =>
gb v36 false (evLd false 1 v38 h) fun v39 =>
gb v36 false (some v3) fun v40 =>
gb v36 false (y5 .sub v40 (AV.int .i64 1)) fun v41 =>
gb v36 false (yi 9 v39 v41) fun v42 =>
gb v36 false (evLd true 9 v42 h) fun v43 =>
gh v36 false (y7 E (y8 E) 0 none true 24 [v43] h) h fun v44 h9 =>
gb v36 false (evUn .not v44) fun v45 =>
ob (yb v36 (AV.bool true) v45) fun v46 =>
cnd v46
 ((yc h9 (AV.int .i64 80)))
 ((ynm v1 v3 h9))
def y2j4 (s : St) : OX := yf5 (s 1) (s 3) s.h
theorem y1nk : T0 yzs [.t 2] y2j4 := sq y1iq fun _ => by kernel_rfl
def yf3 (v1 : AV) (h : Heap) : OX :=
ob (evFa 3 v1) fun v12 =>
ob (evLd false 1 v12 h) fun v13 =>
ob (yq 1 v13 h) fun v14 =>
(yf5 v1 v14 h)
def y2ia (s : St) : OX := yf3 (s 1) s.h
theorem y1x2 : T0 y12r [.t 2] y2ia := sq y1nk fun _ => by kernel_rfl
def ycx (v0 : AV) (h : Heap) : OX :=
oh (newC 0 (some 0) (cellsOf v0) h) fun v1 h10 =>
(yf3 v1 h10)
def y2in (s : St) : OX := ycx (s 0) s.h
theorem y1ra : T0 y15j [.t 2] y2in := sq y1x2 fun _ => by kernel_rfl
@[simp] theorem y2zw : E.pure 8 = true := rfl
theorem y2vt (v0 : AV) : (y8 E).p 8 [v0] = ycx v0 [⟨0, .dead⟩, ⟨0, .dead⟩, ⟨0, .dead⟩] :=
  (yz (cf := y2oi) (by kernel_rfl) rfl).trans ((y1ra _).trans (by kernel_rfl))
def yi2 (h : Heap) : OX :=
(yc h (AV.int .i64 0))
def y7k (s : St) : OX := yi2 s.h
theorem y1k0 : T0 y188 [.t 2] y7k := fun _ => by kernel_rfl
def yfo (v1 v3 v8 : AV) (h : Heap) : OX :=
  W E 0 yl5 ⟨[(1, v1), (3, v3), (8, v8)], h⟩ y7k (y1 6 y7k xN) (finP [.t 2])
def yca (s : St) : OX := yfo (s 1) (s 3) (s 8) s.h
theorem ynp : T1 yl5 y7k (y1 6 y7k xN) [.t 2] yca := fun s => ye.trans (by kernel_rfl)
def yki (v1 v3 v8 : AV) (h : Heap) : OX :=
ob (y5 .add v8 (AV.int .i64 1)) fun v155 =>
(yfo v1 v3 v155 h)
def y2fe (s : St) : OX := yki (s 1) (s 3) (s 8) s.h
theorem y1m1 : T1 y18f yca (y1 6 y7k xN) [.t 2] y2fe := fun _ => by kernel_rfl
def y89 (v1 v3 v8 : AV) (h : Heap) : OX :=
ob (evFa 4 v1) fun v156 =>
ob (evLd false 1 v156 h) fun v157 =>
ob (yi 4 v157 v8) fun v159 =>
ob (evLd true 4 v159 h) fun v160 =>
oh (newC 0 (some 2) [(.int .i64 0), (.int .i64 0), (.int .i64 0), (.str [])] h) fun v9 h1 =>
oh (evSt 4 v9 v160 h1) fun _ h2 =>
ob (evFa 0 v9) fun v161 =>
ob (evLd false 1 v161 h2) fun v162 =>
ob (y5 .lss v162 (AV.int .i64 0)) fun v163 =>
gb v163 false (evFa 0 v9) fun v165 =>
gb v163 false (evLd false 1 v165 h2) fun v166 =>
gb v163 false (evFa 1 v9) fun v167 =>
gb v163 false (evLd false 1 v167 h2) fun v168 =>
gb v163 false (y5 .geq v166 v168) fun v169 =>
ob (yb v163 (AV.bool true) v169) fun v170 =>
gb v170 false (evFa 1 v9) fun v172 =>
gb v170 false (evLd false 1 v172 h2) fun v173 =>
gb v170 false (some v3) fun v174 =>
gb v170 false (y5 .gtr v173 v174) fun v175 =>
ob (yb v170 (AV.bool true) v175) fun v176 =>
gb v176 false (evLd true 5 v1 h2) fun v178 =>
gb v176 false (evFa 2 v9) fun v179 =>
gb v176 false (evLd false 1 v179 h2) fun v180 =>
gh v176 false (y7 E (y8 E) 0 none true 49 [v178, v180] h2) h2 fun v181 h3 =>
gb v176 false (evUn .not v181) fun v182 =>
ob (yb v176 (AV.bool true) v182) fun v183 =>
gb v183 false (evFa 3 v1) fun v185 =>
gb v183 false (evLd false 1 v185 h3) fun v186 =>
gb v183 false (evFa 2 v9) fun v187 =>
gb v183 false (evLd false 1 v187 h3) fun v188 =>
gb v183 false (yi 9 v186 v188) fun v189 =>
gb v183 false (evFa 0 v189) fun v190 =>
gb v183 false (evLd false 1 v190 h3) fun v191 =>
gb v183 false (y5 .neq v191 (AV.int .i64 32)) fun v192 =>
ob (yb v183 (AV.bool true) v192) fun v193 =>
cnd v193
 ((yc h3 (AV.int .i64 80)))
 ((yki v1 v3 v8 h3))
def y2l8 (s : St) : OX := y89 (s 1) (s 3) (s 8) s.h
theorem y1yb : T1 y19d yca (y1 6 y7k xN) [.t 2] y2l8 := sq y1m1 fun _ => by kernel_rfl
def y7b (v1 v3 v8 : AV) (h : Heap) : OX :=
ob (evFa 4 v1) fun v150 =>
ob (evLd false 1 v150 h) fun v151 =>
ob (yq 1 v151 h) fun v152 =>
ob (y5 .lss v8 v152) fun v153 =>
cnd v153
 ((y89 v1 v3 v8 h))
 ((yi2 h))
def y2li (s : St) : OX := y7b (s 1) (s 3) (s 8) s.h
theorem y1sb : T1 y192 yca (y1 6 y7k xN) [.t 2] y2li := sq y1yb fun _ => by kernel_rfl
theorem yo1 (v1 v3 v8 : AV) (h : Heap) : yfo v1 v3 v8 h = (y7b v1 v3 v8 h) :=
  y19.trans ((y12 _ _ _ (n' := yca) (fun s => ynp s)).trans ((y1sb _).trans (by kernel_rfl)))
theorem y1uw : T1 y0y y7k xN [.t 2] yca := fun s => yo.trans (ynp s)
def ygw (v1 v3 : AV) (h : Heap) : OX :=
(yfo v1 v3 (AV.int .i64 0) h)
def y6k (s : St) : OX := ygw (s 1) (s 3) s.h
theorem y1wv : T1 y0g y7k xN [.t 2] y6k := sq y1uw fun _ => by kernel_rfl
theorem y1k9 : T0 y14p [.t 2] y6k := sq y1k0 y1wv
def yfk (v1 v3 v6 : AV) (h : Heap) : OX :=
  W E 0 yjq ⟨[(1, v1), (3, v3), (6, v6)], h⟩ y6k (y1 4 y6k xN) (finP [.t 2])
def ycd (s : St) : OX := yfk (s 1) (s 3) (s 6) s.h
theorem ynl : T1 yjq y6k (y1 4 y6k xN) [.t 2] ycd := fun s => ye.trans (by kernel_rfl)
def ybd (v1 v3 v6 : AV) (h : Heap) : OX :=
ob (y5 .add v6 (AV.int .i64 1)) fun v104 =>
(yfk v1 v3 v104 h)
def y20o (s : St) : OX := ybd (s 1) (s 3) (s 6) s.h
theorem y1bt : T1 yv1 ycd (y1 4 y6k xN) [.t 2] y20o := fun _ => by kernel_rfl
def y52 (v1 v3 v6 : AV) (h : Heap) : OX :=
ob (evFa 3 v1) fun v105 =>
ob (evLd false 1 v105 h) fun v106 =>
ob (yi 9 v106 v6) fun v108 =>
ob (evLd true 9 v108 h) fun v109 =>
oh (newC 0 (some 1) [(.int .i64 0), (.int .i64 0), (.int .i64 0), (.int .i64 0), (.int .i64 0), (.int .i64 0), (.int .i64 0), (.str []), .nils] h) fun v7 h4 =>
oh (evSt 9 v7 v109 h4) fun _ h5 =>
ob (evLd true 5 v1 h5) fun v110 =>
ob (evLd true 9 v7 h5) fun v111 =>
oh (y7 E (y8 E) 0 none true 64 [v110, v111] h5) fun v112 h6 =>
ob (evUn .not v112) fun v113 =>
gb v113 false (evFa 0 v7) fun v115 =>
gb v113 false (evLd false 1 v115 h6) fun v116 =>
gb v113 false (y5 .eql v116 (AV.int .i64 32)) fun v117 =>
gb v113 false (some v117) fun v118 =>
gb v118 true (some v6) fun v119 =>
gb v118 true (y5 .eql v119 (AV.int .i64 0)) fun v120 =>
gb v118 true (some v120) fun v121 =>
gb v121 false (evFa 3 v1) fun v122 =>
gb v121 false (evLd false 1 v122 h6) fun v123 =>
gb v121 false (some v6) fun v124 =>
gb v121 false (y5 .sub v124 (AV.int .i64 1)) fun v125 =>
gb v121 false (yi 9 v123 v125) fun v126 =>
gb v121 false (evFa 0 v126) fun v127 =>
gb v121 false (evLd false 1 v127 h6) fun v128 =>
gh v121 false (y7 E (y8 E) 0 none true 25 [v128] h6) h6 fun v129 h7 =>
gb v121 false (evUn .not v129) fun v130 =>
gb v118 true (yb v121 (AV.bool true) v130) fun v131 =>
gb v113 false (yb v118 v131 (AV.bool false)) fun v132 =>
ob (yb v113 (AV.bool true) v132) fun v133 =>
gb v133 false (evFa 0 v7) fun v135 =>
gb v133 false (evLd false 1 v135 h7) fun v136 =>
gh v133 false (y7 E (y8 E) 0 none true 23 [v136] h7) h7 fun v137 h8 =>
gb v133 false (some v137) fun v138 =>
gb v138 true (evFa 3 v1) fun v139 =>
gb v138 true (evLd false 1 v139 h8) fun v140 =>
gb v138 true (evFa 6 v7) fun v141 =>
gb v138 true (evLd false 1 v141 h8) fun v142 =>
gb v138 true (yi 9 v140 v142) fun v143 =>
gb v138 true (evFa 0 v143) fun v144 =>
gb v138 true (evLd false 1 v144 h8) fun v145 =>
gb v138 true (y5 .eql v145 (AV.int .i64 32)) fun v146 =>
gb v133 false (yb v138 v146 (AV.bool false)) fun v147 =>
ob (yb v133 (AV.bool true) v147) fun v148 =>
cnd v148
 ((yc h8 (AV.int .i64 80)))
 ((ybd v1 v3 v6 h8))
def y22v (s : St) : OX := y52 (s 1) (s 3) (s 6) s.h
theorem y1bv : T1 yrn ycd (y1 4 y6k xN) [.t 2] y22v := sq y1bt fun _ => by kernel_rfl
def yat (v1 v3 v6 : AV) (h : Heap) : OX :=
ob (y5 .lss v6 v3) fun v102 =>
cnd v102
 ((y52 v1 v3 v6 h))
 ((ygw v1 v3 h))
def y238 (s : St) : OX := yat (s 1) (s 3) (s 6) s.h
theorem y1er : T1 yru ycd (y1 4 y6k xN) [.t 2] y238 := sq y1bv fun _ => by kernel_rfl
theorem ym2 (v1 v3 v6 : AV) (h : Heap) : yfk v1 v3 v6 h = (yat v1 v3 v6 h) :=
  y19.trans ((y12 _ _ _ (n' := ycd) (fun s => ynl s)).trans ((y1er _).trans (by kernel_rfl)))
theorem y1bp : T1 yra y6k xN [.t 2] ycd := fun s => yo.trans (ynl s)
def ybs (v1 v3 : AV) (h : Heap) : OX :=
(yfk v1 v3 (AV.int .i64 0) h)
def y56 (s : St) : OX := ybs (s 1) (s 3) s.h
theorem y1ay : T1 yrb y6k xN [.t 2] y56 := sq y1bp fun _ => by kernel_rfl
theorem y1da : T0 yt5 [.t 2] y56 := sq y1k9 y1ay
def yc9 (v1 v3 v5 : AV) (h : Heap) : OX :=
  W E 0 yfv ⟨[(1, v1), (3, v3), (5, v5)], h⟩ y56 (y1 2 y56 xN) (finP [.t 2])
def y82 (s : St) : OX := yc9 (s 1) (s 3) (s 5) s.h
theorem yl3 : T1 yfv y56 (y1 2 y56 xN) [.t 2] y82 := fun s => ye.trans (by kernel_rfl)
def ydg (v1 v3 v5 : AV) (h : Heap) : OX :=
ob (y5 .add v5 (AV.int .i64 1)) fun v79 =>
(yc9 v1 v3 v79 h)
def y22x (s : St) : OX := ydg (s 1) (s 3) (s 5) s.h
theorem y1cr : T1 ysk y82 (y1 2 y56 xN) [.t 2] y22x := fun _ => by kernel_rfl
def y8x (v1 v3 v5 : AV) (h : Heap) : OX :=
ob (evLd true 5 v1 h) fun v80 =>
ob (evFa 1 v1) fun v81 =>
ob (evLd false 1 v81 h) fun v82 =>
ob (yi 1 v82 v5) fun v84 =>
ob (evLd false 1 v84 h) fun v85 =>
oh (y7 E (y8 E) 0 none true 48 [v80, v85] h) fun v86 h9 =>
ob (y5 .eql v86 (AV.int .i64 0)) fun v87 =>
gb v87 false (evFa 1 v1) fun v89 =>
gb v87 false (evLd false 1 v89 h9) fun v90 =>
gb v87 false (some v5) fun v91 =>
gb v87 false (yi 1 v90 v91) fun v92 =>
gb v87 false (evLd false 1 v92 h9) fun v93 =>
gb v87 false (evFa 1 v1) fun v94 =>
gb v87 false (evLd false 1 v94 h9) fun v95 =>
gb v87 false (some v5) fun v96 =>
gb v87 false (y5y 1 v95 none (some v96)) fun v97 =>
gh v87 false (y7 E (y8 E) 0 none true 42 [v93, v97] h9) h9 fun v98 h10 =>
ob (yb v87 (AV.bool true) v98) fun v99 =>
cnd v99
 ((yc h10 (AV.int .i64 80)))
 ((ydg v1 v3 v5 h10))
def y250 (s : St) : OX := y8x (s 1) (s 3) (s 5) s.h
theorem y1em : T1 ytv y82 (y1 2 y56 xN) [.t 2] y250 := sq y1cr fun _ => by kernel_rfl
def y7p (v1 v3 v5 : AV) (h : Heap) : OX :=
ob (evFa 1 v1) fun v74 =>
ob (evLd false 1 v74 h) fun v75 =>
ob (yq 1 v75 h) fun v76 =>
ob (y5 .lss v5 v76) fun v77 =>
cnd v77
 ((y8x v1 v3 v5 h))
 ((ybs v1 v3 h))
def y293 (s : St) : OX := y7p (s 1) (s 3) (s 5) s.h
theorem y1ec : T1 yur y82 (y1 2 y56 xN) [.t 2] y293 := sq y1em fun _ => by kernel_rfl
theorem yig (v1 v3 v5 : AV) (h : Heap) : yc9 v1 v3 v5 h = (y7p v1 v3 v5 h) :=
  y19.trans ((y12 _ _ _ (n' := y82) (fun s => yl3 s)).trans ((y1ec _).trans (by kernel_rfl)))
theorem y1d7 : T1 yso y56 xN [.t 2] y82 := fun s => yo.trans (yl3 s)
def ybm (v1 v3 : AV) (h : Heap) : OX :=
(yc9 v1 v3 (AV.int .i64 0) h)
def y54 (s : St) : OX := ybm (s 1) (s 3) s.h
theorem y1e5 : T1 yt7 y56 xN [.t 2] y54 := sq y1d7 fun _ => by kernel_rfl
theorem y1el : T0 yss [.t 2] y54 := sq y1da y1e5
def yc5 (v1 v3 v4 : AV) (h : Heap) : OX :=
  W E 0 ygk ⟨[(1, v1), (3, v3), (4, v4)], h⟩ y54 (y1 0 y54 xN) (finP [.t 2])
def y8a (s : St) : OX := yc5 (s 1) (s 3) (s 4) s.h
theorem ylb : T1 ygk y54 (y1 0 y54 xN) [.t 2] y8a := fun s => ye.trans (by kernel_rfl)
def ydp (v1 v3 v4 : AV) (h : Heap) : OX :=
ob (y5 .add v4 (AV.int .i64 1)) fun v58 =>
(yc5 v1 v3 v58 h)
def y23w (s : St) : OX := ydp (s 1) (s 3) (s 4) s.h
theorem y1dl : T1 ys7 y8a (y1 0 y54 xN) [.t 2] y23w := fun _ => by kernel_rfl
def y97 (v1 v3 v4 : AV) (h : Heap) : OX :=
ob (evFa 0 v1) fun v59 =>
ob (evLd false 1 v59 h) fun v60 =>
ob (yi 1 v60 v4) fun v62 =>
ob (evLd false 1 v62 h) fun v63 =>
ob (y5 .lss v63 (AV.int .i64 1)) fun v64 =>
gb v64 false (evFa 0 v1) fun v66 =>
gb v64 false (evLd false 1 v66 h) fun v67 =>
gb v64 false (some v4) fun v68 =>
gb v64 false (yi 1 v67 v68) fun v69 =>
gb v64 false (evLd false 1 v69 h) fun v70 =>
gb v64 false (y5 .gtr v70 (AV.int .i64 3)) fun v71 =>
ob (yb v64 (AV.bool true) v71) fun v72 =>
cnd v72
 ((yc h (AV.int .i64 80)))
 ((ydp v1 v3 v4 h))
def y28o (s : St) : OX := y97 (s 1) (s 3) (s 4) s.h
theorem y1ej : T1 ys9 y8a (y1 0 y54 xN) [.t 2] y28o := sq y1dl fun _ => by kernel_rfl
def y7q (v1 v3 v4 : AV) (h : Heap) : OX :=
ob (evFa 0 v1) fun v53 =>
ob (evLd false 1 v53 h) fun v54 =>
ob (yq 1 v54 h) fun v55 =>
ob (y5 .lss v4 v55) fun v56 =>
cnd v56
 ((y97 v1 v3 v4 h))
 ((ybm v1 v3 h))
def y29t (s : St) : OX := y7q (s 1) (s 3) (s 4) s.h
theorem y1cl : T1 yvm y8a (y1 0 y54 xN) [.t 2] y29t := sq y1ej fun _ => by kernel_rfl
theorem yka (v1 v3 v4 : AV) (h : Heap) : yc5 v1 v3 v4 h = (y7q v1 v3 v4 h) :=
  y19.trans ((y12 _ _ _ (n' := y8a) (fun s => ylb s)).trans ((y1cl _).trans (by kernel_rfl)))
theorem y1ct : T1 ysx y54 xN [.t 2] y8a := fun s => yo.trans (ylb s)
def yfu (v1 v3 : AV) (h : Heap) : OX :=
(yc5 v1 v3 (AV.int .i64 0) h)
def y150 (s : St) : OX := yfu (s 1) (s 3) s.h
theorem y1dk : T1 yty y54 xN [.t 2] y150 := sq y1ct fun _ => by kernel_rfl
theorem y1aw : T0 yqu [.t 2] y150 := sq y1el y1dk
def y4y (v1 v3 : AV) (h : Heap) : OX :=
ob (y5 .eql v3 (AV.int .i64 0)) fun v14 =>
gb v14 false (some v3) fun v16 =>
gb v14 false (y5 .gtr v16 (AV.int .i64 20000)) fun v17 =>
ob (yb v14 (AV.bool true) v17) fun v18 =>
gb v18 false (evFa 0 v1) fun v20 =>
gb v18 false (evLd false 1 v20 h) fun v21 =>
gb v18 false (yq 1 v21 h) fun v22 =>
gb v18 false (y5 .gtr v22 (AV.int .i64 20000)) fun v23 =>
ob (yb v18 (AV.bool true) v23) fun v24 =>
gb v24 false (evFa 1 v1) fun v26 =>
gb v24 false (evLd false 1 v26 h) fun v27 =>
gb v24 false (yq 1 v27 h) fun v28 =>
gb v24 false (y5 .gtr v28 (AV.int .i64 21)) fun v29 =>
ob (yb v24 (AV.bool true) v29) fun v30 =>
gb v30 false (evFa 2 v1) fun v32 =>
gb v30 false (evLd false 1 v32 h) fun v33 =>
gb v30 false (y5 .lss v33 (AV.int .i64 0)) fun v34 =>
ob (yb v30 (AV.bool true) v34) fun v35 =>
gb v35 false (evFa 2 v1) fun v37 =>
gb v35 false (evLd false 1 v37 h) fun v38 =>
gb v35 false (y5 .gtr v38 (AV.int .i64 3)) fun v39 =>
ob (yb v35 (AV.bool true) v39) fun v40 =>
gb v40 false (evFa 3 v1) fun v42 =>
gb v40 false (evLd false 1 v42 h) fun v43 =>
gb v40 false (some v3) fun v44 =>
gb v40 false (y5 .sub v44 (AV.int .i64 1)) fun v45 =>
gb v40 false (yi 9 v43 v45) fun v46 =>
gb v40 false (evFa 0 v46) fun v47 =>
gb v40 false (evLd false 1 v47 h) fun v48 =>
gh v40 false (y7 E (y8 E) 0 none true 25 [v48] h) h fun v49 h11 =>
gb v40 false (evUn .not v49) fun v50 =>
ob (yb v40 (AV.bool true) v50) fun v51 =>
cnd v51
 ((yc h11 (AV.int .i64 80)))
 ((yfu v1 v3 h11))
def y20q (s : St) : OX := y4y (s 1) (s 3) s.h
theorem y1b6 : T0 yvk [.t 2] y20q := sq y1aw fun _ => by kernel_rfl
def y59 (v1 : AV) (h : Heap) : OX :=
ob (evFa 3 v1) fun v10 =>
ob (evLd false 1 v10 h) fun v11 =>
ob (yq 1 v11 h) fun v12 =>
(y4y v1 v12 h)
def y27d (s : St) : OX := y59 (s 1) s.h
theorem y1es : T0 yte [.t 2] y27d := sq y1b6 fun _ => by kernel_rfl
def y4n (v0 : AV) (h : Heap) : OX :=
oh (newC 0 (some 0) (cellsOf v0) h) fun v1 h12 =>
(y59 v1 h12)
def y223 (s : St) : OX := y4n (s 0) s.h
theorem y1ea : T0 ytd [.t 2] y223 := sq y1es fun _ => by kernel_rfl
@[simp] theorem y2xm : E.pure 29 = true := rfl
theorem y2uk (v0 : AV) : (y8 E).p 29 [v0] = y4n v0 [⟨0, .dead⟩, ⟨0, .dead⟩, ⟨0, .dead⟩] :=
  (yz (cf := y2ch) (by kernel_rfl) rfl).trans ((y1ea _).trans (by kernel_rfl))
def y2hf (h : Heap) : OX :=
(yc h (AV.bool true))
def y4d (s : St) : OX := y2hf s.h
theorem y26o : T0 y1l6 [.t 2] y4d := fun _ => by kernel_rfl
def yoe (v3 v104 v105 v106 : AV) (h : Heap) : OX :=
  W E 0 ypj ⟨[(3, v3), (104, v104), (105, v105), (106, v106)], h⟩ y4d (y1 8 y4d xN) (finP [.t 2])
def ydj (s : St) : OX := yoe (s 3) (s 104) (s 105) (s 106) s.h
theorem ys2 : T1 ypj y4d (y1 8 y4d xN) [.t 2] ydj := fun s => ye.trans (by kernel_rfl)
def y1nl (v3 v104 v105 v106 : AV) (h : Heap) : OX :=
ob (y5 .add v106 (AV.int .i64 1)) fun v134 =>
(yoe v3 v104 v105 v134 h)
def y43 (s : St) : OX := y1nl (s 3) (s 104) (s 105) (s 106) s.h
theorem y233 : T1 y1np ydj (y1 8 y4d xN) [.t 2] y43 := fun _ => by kernel_rfl
def yvj (v3 v15 v104 v105 v106 v112 v113 v114 : AV) (h : Heap) : OX :=
  W E 0 ypc ⟨[(3, v3), (15, v15), (104, v104), (105, v105), (106, v106), (112, v112), (113, v113), (114, v114)], h⟩ y43 (y1 10 y43 (y1 9 y43 (y1 8 y4d xN))) (finP [.t 2])
def yd7 (s : St) : OX := yvj (s 3) (s 15) (s 104) (s 105) (s 106) (s 112) (s 113) (s 114) s.h
theorem ytm : T1 ypc y43 (y1 10 y43 (y1 9 y43 (y1 8 y4d xN))) [.t 2] yd7 := fun s => ye.trans (by kernel_rfl)
def y256 (v3 v15 v104 v105 v106 v112 v113 v114 : AV) (h : Heap) : OX :=
ob (y5 .add v114 (AV.int .i64 1)) fun v133 =>
(yvj v3 v15 v104 v105 v106 v112 v113 v133 h)
def y2sa (s : St) : OX := y256 (s 3) (s 15) (s 104) (s 105) (s 106) (s 112) (s 113) (s 114) s.h
theorem y230 : T1 y1wa yd7 (y1 10 y43 (y1 9 y43 (y1 8 y4d xN))) [.t 2] y2sa := fun _ => by kernel_rfl
def y1wq (v3 v15 v104 v105 v106 v112 v113 v114 : AV) (h : Heap) : OX :=
ob (yi 1 v112 v114) fun v116 =>
ob (evLd false 1 v116 h) fun v117 =>
ob (yi 1 v3 v15) fun v120 =>
ob (evLd false 1 v120 h) fun v121 =>
ob (y3n 1 true v121 AV.nils) fun v122 =>
gb v122 true (some v3) fun v124 =>
gb v122 true (some v15) fun v125 =>
gb v122 true (yi 1 v124 v125) fun v126 =>
gb v122 true (evLd false 1 v126 h) fun v127 =>
gb v122 true (some v117) fun v128 =>
gb v122 true (yi 1 v127 v128) fun v129 =>
gb v122 true (evLd false 1 v129 h) fun v130 =>
gb v122 true (evUn .not v130) fun v131 =>
ob (yb v122 v131 (AV.bool false)) fun v132 =>
cnd v132
 ((yc h (AV.bool false)))
 ((y256 v3 v15 v104 v105 v106 v112 v113 v114 h))
def y2rc (s : St) : OX := y1wq (s 3) (s 15) (s 104) (s 105) (s 106) (s 112) (s 113) (s 114) s.h
theorem y20k : T1 y1f4 yd7 (y1 10 y43 (y1 9 y43 (y1 8 y4d xN))) [.t 2] y2rc := sq y230 fun _ => by kernel_rfl
def y1e9 (v3 v15 v104 v105 v106 v112 v113 v114 v115 : AV) (h : Heap) : OX :=
cnd v115
 ((y1wq v3 v15 v104 v105 v106 v112 v113 v114 h))
 ((y1nl v3 v104 v105 v106 h))
def y2u4 (s : St) : OX := y1e9 (s 3) (s 15) (s 104) (s 105) (s 106) (s 112) (s 113) (s 114) (s 115) s.h
theorem y22l : T1 y1o1 yd7 (y1 10 y43 (y1 9 y43 (y1 8 y4d xN))) [.t 2] y2u4 := sq y20k fun _ => by kernel_rfl
def y1bd (v3 v15 v104 v105 v106 v112 v113 v114 : AV) (h : Heap) : OX :=
ob (y5 .lss v114 v113) fun v115 =>
(y1e9 v3 v15 v104 v105 v106 v112 v113 v114 v115 h)
def y2u7 (s : St) : OX := y1bd (s 3) (s 15) (s 104) (s 105) (s 106) (s 112) (s 113) (s 114) s.h
theorem y20m : T1 y1l1 yd7 (y1 10 y43 (y1 9 y43 (y1 8 y4d xN))) [.t 2] y2u7 := sq y22l fun _ => by kernel_rfl
theorem yva (v3 v15 v104 v105 v106 v112 v113 v114 : AV) (h : Heap) : yvj v3 v15 v104 v105 v106 v112 v113 v114 h = (y1bd v3 v15 v104 v105 v106 v112 v113 v114 h) :=
  y19.trans ((y12 _ _ _ (n' := yd7) (fun s => ytm s)).trans ((y20m _).trans (by kernel_rfl)))
theorem y25f : T1 y1le y43 (y1 9 y43 (y1 8 y4d xN)) [.t 2] yd7 := fun s => yo.trans (ytm s)
def y1vr (v3 v15 v16 v104 v105 v106 : AV) (h : Heap) : OX :=
ob (evLd true 9 v16 h) fun v111 =>
oh (y7 E (y8 E) 0 none true 10 [v111] h) fun v112 h1 =>
ob (yq 1 v112 h1) fun v113 =>
(yvj v3 v15 v104 v105 v106 v112 v113 (AV.int .i64 0) h1)
def y2gf (s : St) : OX := y1vr (s 3) (s 15) (s 16) (s 104) (s 105) (s 106) s.h
theorem y1ns : T1 y119 y43 (y1 9 y43 (y1 8 y4d xN)) [.t 2] y2gf := sq y25f fun _ => by kernel_rfl
def y1fc (v3 v104 v105 v106 : AV) (h : Heap) : OX :=
ob (yi 9 v104 v106) fun v109 =>
ob (evLd true 9 v109 h) fun v110 =>
oh (newC 0 (some 5) [(.int .i64 0), (.int .i64 0), (.int .i64 0), (.int .i64 0), (.int .i64 0), (.int .i64 0), (.int .i64 0), (.str []), .nils] h) fun v16 h2 =>
oh (evSt 9 v16 v110 h2) fun _ h3 =>
(y1vr v3 v106 v16 v104 v105 v106 h3)
def ywc (s : St) : OX := y1fc (s 3) (s 104) (s 105) (s 106) s.h
theorem y1xx : T1 y16n y43 (y1 9 y43 (y1 8 y4d xN)) [.t 2] ywc := sq y1ns fun _ => by kernel_rfl
theorem y1qw : T1 y18j y43 (y1 8 y4d xN) [.t 2] ywc := fun s => yo.trans (y1xx s)
theorem y1h9 : T1 y19c ydj (y1 8 y4d xN) [.t 2] ywc := sq y233 y1qw
def y11x (v3 v104 v105 v106 v107 : AV) (h : Heap) : OX :=
cnd v107
 ((y1fc v3 v104 v105 v106 h))
 ((y2hf h))
def y2i6 (s : St) : OX := y11x (s 3) (s 104) (s 105) (s 106) (s 107) s.h
theorem y1mk : T1 y0s ydj (y1 8 y4d xN) [.t 2] y2i6 := sq y1h9 fun _ => by kernel_rfl
def y11b (v3 v104 v105 v106 : AV) (h : Heap) : OX :=
ob (y5 .lss v106 v105) fun v107 =>
(y11x v3 v104 v105 v106 v107 h)
def y2fo (s : St) : OX := y11b (s 3) (s 104) (s 105) (s 106) s.h
theorem y1sg : T1 yzi ydj (y1 8 y4d xN) [.t 2] y2fo := sq y1mk fun _ => by kernel_rfl
theorem yv8 (v3 v104 v105 v106 : AV) (h : Heap) : yoe v3 v104 v105 v106 h = (y11b v3 v104 v105 v106 h) :=
  y19.trans ((y12 _ _ _ (n' := ydj) (fun s => ys2 s)).trans ((y1sg _).trans (by kernel_rfl)))
theorem y1xg : T1 y15v y4d xN [.t 2] ydj := fun s => yo.trans (ys2 s)
def yut (v1 v3 : AV) (h : Heap) : OX :=
ob (evFa 3 v1) fun v103 =>
ob (evLd false 1 v103 h) fun v104 =>
ob (yq 1 v104 h) fun v105 =>
(yoe v3 v104 v105 (AV.int .i64 0) h)
def y20 (s : St) : OX := yut (s 1) (s 3) s.h
theorem y1uu : T1 yze y4d xN [.t 2] y20 := sq y1xg fun _ => by kernel_rfl
theorem y1v2 : T0 y0k [.t 2] y20 := sq y26o y1uu
def ygg (v1 v3 v7 : AV) (h : Heap) : OX :=
  W E 0 yik ⟨[(1, v1), (3, v3), (7, v7)], h⟩ y20 (y1 2 y20 xN) (finP [.t 2])
def yy (s : St) : OX := ygg (s 1) (s 3) (s 7) s.h
theorem yo4 : T1 yik y20 (y1 2 y20 xN) [.t 2] yy := fun s => ye.trans (by kernel_rfl)
def ydy (v1 v3 v7 v9 v91 v92 v93 : AV) (h : Heap) : OX :=
  W E 0 yjv ⟨[(1, v1), (3, v3), (7, v7), (9, v9), (91, v91), (92, v92), (93, v93)], h⟩ yy (y1 6 yy (y1 3 yy (y1 2 y20 xN))) (finP [.t 2])
def y95 (s : St) : OX := ydy (s 1) (s 3) (s 7) (s 9) (s 91) (s 92) (s 93) s.h
theorem yoo : T1 yjv yy (y1 6 yy (y1 3 yy (y1 2 y20 xN))) [.t 2] y95 := fun s => ye.trans (by kernel_rfl)
def y1hw (v1 v3 v7 v9 v91 v92 v93 : AV) (h : Heap) : OX :=
ob (y5 .add v93 (AV.int .i64 1)) fun v102 =>
(ydy v1 v3 v7 v9 v91 v92 v102 h)
def y2jh (s : St) : OX := y1hw (s 1) (s 3) (s 7) (s 9) (s 91) (s 92) (s 93) s.h
theorem y1hy : T1 y0o y95 (y1 6 yy (y1 3 yy (y1 2 y20 xN))) [.t 2] y2jh := fun _ => by kernel_rfl
def y1px (v1 v3 v7 v9 v91 v92 v93 : AV) (h : Heap) : OX :=
ob (yi 1 v91 v93) fun v95 =>
ob (evLd false 1 v95 h) fun v96 =>
oh (y7 E (y8 E) 0 none false 80 [v3, v96, v9, v7] h) fun v101 h4 =>
(y1hw v1 v3 v101 v9 v91 v92 v93 h4)
def y2kh (s : St) : OX := y1px (s 1) (s 3) (s 7) (s 9) (s 91) (s 92) (s 93) s.h
theorem y1io : T1 y15l y95 (y1 6 yy (y1 3 yy (y1 2 y20 xN))) [.t 2] y2kh := sq y1hy fun _ => by kernel_rfl
def y18s (v1 v3 v7 v9 v91 v92 v93 v94 : AV) (h : Heap) : OX :=
cnd v94
 ((y1px v1 v3 v7 v9 v91 v92 v93 h))
 ((ygg v1 v3 v7 h))
def y2ky (s : St) : OX := y18s (s 1) (s 3) (s 7) (s 9) (s 91) (s 92) (s 93) (s 94) s.h
theorem y1h1 : T1 y11k y95 (y1 6 yy (y1 3 yy (y1 2 y20 xN))) [.t 2] y2ky := sq y1io fun _ => by kernel_rfl
def y16p (v1 v3 v7 v9 v91 v92 v93 : AV) (h : Heap) : OX :=
ob (y5 .lss v93 v92) fun v94 =>
(y18s v1 v3 v7 v9 v91 v92 v93 v94 h)
def y2lk (s : St) : OX := y16p (s 1) (s 3) (s 7) (s 9) (s 91) (s 92) (s 93) s.h
theorem y1p7 : T1 y14y y95 (y1 6 yy (y1 3 yy (y1 2 y20 xN))) [.t 2] y2lk := sq y1h1 fun _ => by kernel_rfl
theorem ylx (v1 v3 v7 v9 v91 v92 v93 : AV) (h : Heap) : ydy v1 v3 v7 v9 v91 v92 v93 h = (y16p v1 v3 v7 v9 v91 v92 v93 h) :=
  y19.trans ((y12 _ _ _ (n' := y95) (fun s => yoo s)).trans ((y1p7 _).trans (by kernel_rfl)))
theorem y1hn : T1 y11g yy (y1 3 yy (y1 2 y20 xN)) [.t 2] y95 := fun s => yo.trans (yoo s)
def yly (v1 v3 v7 v8 v9 : AV) (h : Heap) : OX :=
ob (evLd true 5 v1 h) fun v89 =>
oh (y7 E (y8 E) 0 none true 81 [v89, v8] h) fun v91 h5 =>
ob (yq 1 v91 h5) fun v92 =>
(ydy v1 v3 v7 v9 v91 v92 (AV.int .i64 0) h5)
def y2hm (s : St) : OX := yly (s 1) (s 3) (s 7) (s 8) (s 9) s.h
theorem y1mr : T1 y151 yy (y1 3 yy (y1 2 y20 xN)) [.t 2] y2hm := sq y1hn fun _ => by kernel_rfl
def yo7 (v1 v3 v7 v8 v9 : AV) (h : Heap) : OX :=
ob (evFa 3 v1) fun v78 =>
ob (evLd false 1 v78 h) fun v79 =>
ob (yi 9 v79 v8) fun v81 =>
ob (evLd true 9 v81 h) fun v82 =>
oh (y7 E (y8 E) 0 none true 9 [v82] h) fun v83 h6 =>
ob (y5 .geq v83 (AV.int .i64 0)) fun v85 =>
cnd v85
 (ob (yi 1 v9 v83) fun v88 =>
oh (evSt 1 v88 (AV.bool true) h6) fun _ h7 =>
(yly v1 v3 v7 v8 v9 h7))
 ((yly v1 v3 v7 v8 v9 h6))
def y6s (s : St) : OX := yo7 (s 1) (s 3) (s 7) (s 8) (s 9) s.h
theorem y1t1 : T1 y16g yy (y1 3 yy (y1 2 y20 xN)) [.t 2] y6s := sq y1mr fun _ => by kernel_rfl
def yfr (v1 v3 v7 v8 v9 v66 v67 v68 : AV) (h : Heap) : OX :=
  W E 0 yl1 ⟨[(1, v1), (3, v3), (7, v7), (8, v8), (9, v9), (66, v66), (67, v67), (68, v68)], h⟩ y6s (y1 4 y6s (y1 3 yy (y1 2 y20 xN))) (finP [.t 2])
def y8p (s : St) : OX := yfr (s 1) (s 3) (s 7) (s 8) (s 9) (s 66) (s 67) (s 68) s.h
theorem ynz : T1 yl1 y6s (y1 4 y6s (y1 3 yy (y1 2 y20 xN))) [.t 2] y8p := fun s => ye.trans (by kernel_rfl)
def y1kz (v1 v3 v7 v8 v9 v66 v67 v68 : AV) (h : Heap) : OX :=
ob (y5 .add v68 (AV.int .i64 1)) fun v77 =>
(yfr v1 v3 v7 v8 v9 v66 v67 v77 h)
def y2gh (s : St) : OX := y1kz (s 1) (s 3) (s 7) (s 8) (s 9) (s 66) (s 67) (s 68) s.h
theorem y1zi : T1 y1am y8p (y1 4 y6s (y1 3 yy (y1 2 y20 xN))) [.t 2] y2gh := fun _ => by kernel_rfl
def y1gm (v1 v3 v7 v8 v9 v66 v67 v68 : AV) (h : Heap) : OX :=
ob (yi 1 v66 v68) fun v70 =>
ob (evLd false 1 v70 h) fun v71 =>
oh (y7 E (y8 E) 0 none false 80 [v3, v71, v9, v7] h) fun v76 h8 =>
(y1kz v1 v3 v76 v8 v9 v66 v67 v68 h8)
def y2em (s : St) : OX := y1gm (s 1) (s 3) (s 7) (s 8) (s 9) (s 66) (s 67) (s 68) s.h
theorem y1pk : T1 y13r y8p (y1 4 y6s (y1 3 yy (y1 2 y20 xN))) [.t 2] y2em := sq y1zi fun _ => by kernel_rfl
def y14e (v1 v3 v7 v8 v9 v66 v67 v68 v69 : AV) (h : Heap) : OX :=
cnd v69
 ((y1gm v1 v3 v7 v8 v9 v66 v67 v68 h))
 ((yo7 v1 v3 v7 v8 v9 h))
def y2er (s : St) : OX := y14e (s 1) (s 3) (s 7) (s 8) (s 9) (s 66) (s 67) (s 68) (s 69) s.h
theorem y1qb : T1 yzg y8p (y1 4 y6s (y1 3 yy (y1 2 y20 xN))) [.t 2] y2er := sq y1pk fun _ => by kernel_rfl
def y117 (v1 v3 v7 v8 v9 v66 v67 v68 : AV) (h : Heap) : OX :=
ob (y5 .lss v68 v67) fun v69 =>
(y14e v1 v3 v7 v8 v9 v66 v67 v68 v69 h)
def y2hn (s : St) : OX := y117 (s 1) (s 3) (s 7) (s 8) (s 9) (s 66) (s 67) (s 68) s.h
theorem y1in : T1 y16t y8p (y1 4 y6s (y1 3 yy (y1 2 y20 xN))) [.t 2] y2hn := sq y1qb fun _ => by kernel_rfl
theorem yos (v1 v3 v7 v8 v9 v66 v67 v68 : AV) (h : Heap) : yfr v1 v3 v7 v8 v9 v66 v67 v68 h = (y117 v1 v3 v7 v8 v9 v66 v67 v68 h) :=
  y19.trans ((y12 _ _ _ (n' := y8p) (fun s => ynz s)).trans ((y1in _).trans (by kernel_rfl)))
theorem y1nw : T1 y180 y6s (y1 3 yy (y1 2 y20 xN)) [.t 2] y8p := fun s => yo.trans (ynz s)
def y1xn (v1 v3 v7 v8 v9 : AV) (h : Heap) : OX :=
ob (evLd true 5 v1 h) fun v64 =>
oh (y7 E (y8 E) 0 none true 79 [v64, v8] h) fun v66 h9 =>
ob (yq 1 v66 h9) fun v67 =>
(yfr v1 v3 v7 v8 v9 v66 v67 (AV.int .i64 0) h9)
def y1qv (s : St) : OX := y1xn (s 1) (s 3) (s 7) (s 8) (s 9) s.h
theorem y20e : T1 y134 y6s (y1 3 yy (y1 2 y20 xN)) [.t 2] y1qv := sq y1nw fun _ => by kernel_rfl
theorem y1ob : T1 y12a yy (y1 3 yy (y1 2 y20 xN)) [.t 2] y1qv := sq y1t1 y20e
def y17u (v1 v3 v7 v8 : AV) (h : Heap) : OX :=
ob (yi 1 v3 v8) fun v61 =>
ob (evLd false 1 v61 h) fun v62 =>
oh (y7 E (y8 E) 0 (some 4) false 78 [v62] h) fun v63 h10 =>
(y1xn v1 v3 v7 v8 v63 h10)
def y2hb (s : St) : OX := y17u (s 1) (s 3) (s 7) (s 8) s.h
theorem y1ho : T1 y169 yy (y1 3 yy (y1 2 y20 xN)) [.t 2] y2hb := sq y1ob fun _ => by kernel_rfl
def y1rr (v1 v3 v7 v8 : AV) (h : Heap) : OX :=
ob (yq 1 v7 h) fun v56 =>
ob (y5 .sub v56 (AV.int .i64 1)) fun v57 =>
ob (y5y 1 v7 none (some v57)) fun v58 =>
(y17u v1 v3 v58 v8 h)
def y2ei (s : St) : OX := y1rr (s 1) (s 3) (s 7) (s 8) s.h
theorem y1zh : T1 y17r yy (y1 3 yy (y1 2 y20 xN)) [.t 2] y2ei := sq y1ho fun _ => by kernel_rfl
def y1xb (v1 v3 v7 : AV) (h : Heap) : OX :=
ob (yq 1 v7 h) fun v50 =>
ob (y5 .sub v50 (AV.int .i64 1)) fun v51 =>
ob (yi 1 v7 v51) fun v52 =>
ob (evLd false 1 v52 h) fun v53 =>
(y1rr v1 v3 v7 v53 h)
def y1r0 (s : St) : OX := y1xb (s 1) (s 3) (s 7) s.h
theorem y1zl : T1 y12g yy (y1 3 yy (y1 2 y20 xN)) [.t 2] y1r0 := sq y1zh fun _ => by kernel_rfl
theorem y1ym : T1 y17i yy (y1 2 y20 xN) [.t 2] y1r0 := fun s => yo.trans (y1zl s)
def yt9 (v1 v3 v7 : AV) (h : Heap) : OX :=
ob (yq 1 v7 h) fun v46 =>
ob (y5 .gtr v46 (AV.int .i64 0)) fun v47 =>
cnd v47
 ((y1xb v1 v3 v7 h))
 ((yut v1 v3 h))
def y2eo (s : St) : OX := yt9 (s 1) (s 3) (s 7) s.h
theorem y1q6 : T1 y14v yy (y1 2 y20 xN) [.t 2] y2eo := sq y1ym fun _ => by kernel_rfl
theorem y1ax (v1 v3 v7 : AV) (h : Heap) : ygg v1 v3 v7 h = (yt9 v1 v3 v7 h) :=
  y19.trans ((y12 _ _ _ (n' := yy) (fun s => yo4 s)).trans ((y1q6 _).trans (by kernel_rfl)))
theorem y1lt : T1 y1ah y20 xN [.t 2] yy := fun s => yo.trans (yo4 s)
theorem y1kt : T0 y16s [.t 2] yy := sq y1v2 y1lt
def y1nt (v1 v3 v4 v7 : AV) (h : Heap) : OX :=
ob (yi 1 v3 (AV.int .i64 0)) fun v44 =>
oh (evSt 1 v44 v4 h) fun _ h11 =>
(ygg v1 v3 v7 h11)
def y2e5 (s : St) : OX := y1nt (s 1) (s 3) (s 4) (s 7) s.h
theorem y1yz : T0 y141 [.t 2] y2e5 := sq y1kt fun _ => by kernel_rfl
def y17n (v1 v3 v4 : AV) (h : Heap) : OX :=
oh (yw 0 (some 3) 1 1 [(.int .i64 0)] [(0, (AV.int .i64 0))] h) fun v41 h12 =>
(y1nt v1 v3 v4 v41 h12)
def y6l (s : St) : OX := y17n (s 1) (s 3) (s 4) s.h
theorem y1kr : T0 y17t [.t 2] y6l := sq y1yz fun _ => by kernel_rfl
def yku (v1 v3 v4 v31 v32 v33 : AV) (h : Heap) : OX :=
  W E 0 yi9 ⟨[(1, v1), (3, v3), (4, v4), (31, v31), (32, v32), (33, v33)], h⟩ y6l (y1 0 y6l xN) (finP [.t 2])
def y91 (s : St) : OX := yku (s 1) (s 3) (s 4) (s 31) (s 32) (s 33) s.h
theorem yn9 : T1 yi9 y6l (y1 0 y6l xN) [.t 2] y91 := fun s => ye.trans (by kernel_rfl)
def y1ko (v1 v3 v4 v31 v32 v33 : AV) (h : Heap) : OX :=
ob (y5 .add v33 (AV.int .i64 1)) fun v40 =>
(yku v1 v3 v4 v31 v32 v40 h)
def y2g7 (s : St) : OX := y1ko (s 1) (s 3) (s 4) (s 31) (s 32) (s 33) s.h
theorem y1pz : T1 y1ao y91 (y1 0 y6l xN) [.t 2] y2g7 := fun _ => by kernel_rfl
def y1qe (v1 v3 v4 v31 v32 v33 : AV) (h : Heap) : OX :=
ob (yi 1 v31 v33) fun v35 =>
ob (evLd false 1 v35 h) fun v36 =>
ob (yi 1 v4 v36) fun v39 =>
oh (evSt 1 v39 (AV.bool true) h) fun _ h13 =>
(y1ko v1 v3 v4 v31 v32 v33 h13)
def y2k0 (s : St) : OX := y1qe (s 1) (s 3) (s 4) (s 31) (s 32) (s 33) s.h
theorem y1s9 : T1 y153 y91 (y1 0 y6l xN) [.t 2] y2k0 := sq y1pz fun _ => by kernel_rfl
def y127 (v1 v3 v4 v31 v32 v33 v34 : AV) (h : Heap) : OX :=
cnd v34
 ((y1qe v1 v3 v4 v31 v32 v33 h))
 ((y17n v1 v3 v4 h))
def y2gx (s : St) : OX := y127 (s 1) (s 3) (s 4) (s 31) (s 32) (s 33) (s 34) s.h
theorem y1op : T1 yz6 y91 (y1 0 y6l xN) [.t 2] y2gx := sq y1s9 fun _ => by kernel_rfl
def y194 (v1 v3 v4 v31 v32 v33 : AV) (h : Heap) : OX :=
ob (y5 .lss v33 v32) fun v34 =>
(y127 v1 v3 v4 v31 v32 v33 v34 h)
def y2js (s : St) : OX := y194 (s 1) (s 3) (s 4) (s 31) (s 32) (s 33) s.h
theorem y1y4 : T1 y17d y91 (y1 0 y6l xN) [.t 2] y2js := sq y1op fun _ => by kernel_rfl
theorem yo8 (v1 v3 v4 v31 v32 v33 : AV) (h : Heap) : yku v1 v3 v4 v31 v32 v33 h = (y194 v1 v3 v4 v31 v32 v33 h) :=
  y19.trans ((y12 _ _ _ (n' := y91) (fun s => yn9 s)).trans ((y1y4 _).trans (by kernel_rfl)))
theorem y1l0 : T1 y19h y6l xN [.t 2] y91 := fun s => yo.trans (yn9 s)
def y1jr (v1 v3 v4 : AV) (h : Heap) : OX :=
ob (evFa 1 v1) fun v30 =>
ob (evLd false 1 v30 h) fun v31 =>
ob (yq 1 v31 h) fun v32 =>
(yku v1 v3 v4 v31 v32 (AV.int .i64 0) h)
def y1ts (s : St) : OX := y1jr (s 1) (s 3) (s 4) s.h
theorem y1t0 : T1 y14n y6l xN [.t 2] y1ts := sq y1l0 fun _ => by kernel_rfl
theorem y1u5 : T0 y190 [.t 2] y1ts := sq y1kr y1t0
def y1qg (v1 v3 : AV) (h : Heap) : OX :=
ob (evFa 0 v1) fun v26 =>
ob (evLd false 1 v26 h) fun v27 =>
ob (yq 1 v27 h) fun v28 =>
oh (mkSC 0 (some 2) 1 1 [(.bool false)] v28 v28 h) fun v29 h14 =>
(y1jr v1 v3 v29 h14)
def y2e8 (s : St) : OX := y1qg (s 1) (s 3) s.h
theorem y1zr : T0 y11f [.t 2] y2e8 := sq y1u5 fun _ => by kernel_rfl
def y1vq (v1 : AV) (h : Heap) : OX :=
ob (evFa 3 v1) fun v22 =>
ob (evLd false 1 v22 h) fun v23 =>
ob (yq 1 v23 h) fun v24 =>
oh (mkSC 0 (some 1) 1 24 [.nils] v24 v24 h) fun v25 h15 =>
(y1qg v1 v25 h15)
def y2kc (s : St) : OX := y1vq (s 1) s.h
theorem y1k6 : T0 y110 [.t 2] y2kc := sq y1zr fun _ => by kernel_rfl
def y13j (v1 : AV) (h : Heap) : OX :=
ob (evLd true 5 v1 h) fun v19 =>
oh (y7 E (y8 E) 0 none true 8 [v19] h) fun v20 h16 =>
ob (y5 .neq v20 (AV.int .i64 0)) fun v21 =>
cnd v21
 ((yc h16 (AV.bool false)))
 ((y1vq v1 h16))
def y2je (s : St) : OX := y13j (s 1) s.h
theorem y1jb : T0 y17s [.t 2] y2je := sq y1k6 fun _ => by kernel_rfl
def y18h (v0 : AV) (h : Heap) : OX :=
oh (newC 0 (some 0) (cellsOf v0) h) fun v1 h17 =>
(y13j v1 h17)
def y2m6 (s : St) : OX := y18h (s 0) s.h
theorem y1fx : T0 y16b [.t 2] y2m6 := sq y1jb fun _ => by kernel_rfl
@[simp] theorem y2x6 : E.pure 77 = true := rfl
theorem y2wp (v0 : AV) : (y8 E).p 77 [v0] = y18h v0 [⟨0, .dead⟩, ⟨0, .dead⟩, ⟨0, .dead⟩, ⟨0, .dead⟩, ⟨0, .dead⟩, ⟨0, .dead⟩] :=
  (yz (cf := y2or) (by kernel_rfl) rfl).trans ((y1fx _).trans (by kernel_rfl))
@[simp] theorem y2uo : E.pure 148 = true := rfl
def q1_1 (v1 v2 : AV) (h : Heap) : OX :=
ob (evLd true 5 v1 h) fun v173 =>
oh (evSt 5 v2 v173 h) fun _ h1 =>
(ob (evLd true 5 v2 h1) fun r0 =>
  yc h1 r0)
def y5t (s : St) : OX := q1_1 (s 1) (s 2) s.h
theorem y2i2 : T0 y2au [.cell 2 true 5] y5t := fun _ => by kernel_rfl
def y1b2 (v1 v2 v3 v12 v15 v107 v108 v109 : AV) (h : Heap) : OX :=
  W E 0 yxy ⟨[(1, v1), (2, v2), (3, v3), (12, v12), (15, v15), (107, v107), (108, v108), (109, v109)], h⟩ y5t (y1 8 y5t xN) (finP [.cell 2 true 5])
def yj4 (s : St) : OX := y1b2 (s 1) (s 2) (s 3) (s 12) (s 15) (s 107) (s 108) (s 109) s.h
theorem yzp : T1 yxy y5t (y1 8 y5t xN) [.cell 2 true 5] yj4 := fun s => ye.trans (by kernel_rfl)
def q1_3 (v1 v2 v3 v12 v15 v107 v108 v109 : AV) (h : Heap) : OX :=
ob (y5 .add v109 (AV.int .i64 1)) fun v172 =>
(y1b2 v1 v2 v3 v12 v15 v107 v108 v172 h)
def y77 (s : St) : OX := q1_3 (s 1) (s 2) (s 3) (s 12) (s 15) (s 107) (s 108) (s 109) s.h
theorem y2ha : T1 y2ca yj4 (y1 8 y5t xN) [.cell 2 true 5] y77 := fun _ => by kernel_rfl
def q1_4 (v1 v2 v3 v12 v15 v16 v17 v18 v107 v108 v109 : AV) (h : Heap) : OX :=
ob (evFa 3 v1) fun v165 =>
ob (evLd false 1 v165 h) fun v166 =>
ob (evLd true 9 v17 h) fun v168 =>
ofp (y3p E (y8 E) 0 none true 27 [v168, v18] h) fun f5 =>
oh (y7 E (y8 E) 0 none true 27 [v168, v18] h) fun v170 h2 =>
ob (yi 9 v166 v16) fun v171 =>
oh (evSt 9 v171 v170 h2) fun _ h3 =>
okK (yd [([], []), (ids1 v165, []), ([], []), (ids1 v17, []), ([], []), f5, ([], []), ([], ids1 v171)] [(1, 5)]) <|
(q1_3 v1 v2 v3 v12 v15 v107 v108 v109 h3)
def yj5 (s : St) : OX := q1_4 (s 1) (s 2) (s 3) (s 12) (s 15) (s 16) (s 17) (s 18) (s 107) (s 108) (s 109) s.h
theorem y2l6 : T1 y2ba y77 (y1 9 y77 (y1 8 y5t xN)) [.cell 2 true 5] yj5 := fun _ => by kernel_rfl
def y1x9 (v1 v2 v3 v12 v15 v16 v17 v18 v107 v108 v109 v139 v140 v141 : AV) (h : Heap) : OX :=
  W E 0 ywk ⟨[(1, v1), (2, v2), (3, v3), (12, v12), (15, v15), (16, v16), (17, v17), (18, v18), (107, v107), (108, v108), (109, v109), (139, v139), (140, v140), (141, v141)], h⟩ yj5 (y1 10 yj5 (y1 9 y77 (y1 8 y5t xN))) (finP [.cell 2 true 5])
def yk8 (s : St) : OX := y1x9 (s 1) (s 2) (s 3) (s 12) (s 15) (s 16) (s 17) (s 18) (s 107) (s 108) (s 109) (s 139) (s 140) (s 141) s.h
theorem y157 : T1 ywk yj5 (y1 10 yj5 (y1 9 y77 (y1 8 y5t xN))) [.cell 2 true 5] yk8 := fun s => ye.trans (by kernel_rfl)
def q1_6 (v1 v2 v3 v12 v15 v16 v17 v18 v107 v108 v109 v139 v140 v141 : AV) (h : Heap) : OX :=
ob (y5 .add v141 (AV.int .i64 1)) fun v164 =>
(y1x9 v1 v2 v3 v12 v15 v16 v17 v18 v107 v108 v109 v139 v140 v164 h)
def y2z3 (s : St) : OX := q1_6 (s 1) (s 2) (s 3) (s 12) (s 15) (s 16) (s 17) (s 18) (s 107) (s 108) (s 109) (s 139) (s 140) (s 141) s.h
theorem y2hw : T1 y2az yk8 (y1 10 yj5 (y1 9 y77 (y1 8 y5t xN))) [.cell 2 true 5] y2z3 := fun _ => by kernel_rfl
def q1_7 (v1 v2 v3 v12 v15 v16 v17 v18 v107 v108 v109 v139 v140 v141 : AV) (h : Heap) : OX :=
ob (yi 1 v139 v141) fun v144 =>
ob (evLd false 1 v144 h) fun v145 =>
ob (evLd false 1 v3 h) fun v146 =>
ob (yi 1 v146 v16) fun v148 =>
ob (evLd false 1 v148 h) fun v149 =>
ob (yi 1 v149 v145) fun v151 =>
ob (evLd false 1 v151 h) fun v152 =>
ob (y5 .geq v152 (AV.int .i64 0)) fun v153 =>
cnd v153
 (ob (evLd false 1 v3 h) fun v156 =>
ob (yi 1 v156 v16) fun v158 =>
ob (evLd false 1 v158 h) fun v159 =>
ob (yi 1 v159 v145) fun v161 =>
ob (evLd false 1 v161 h) fun v162 =>
ob (yi 1 v18 v141) fun v163 =>
oh (evSt 1 v163 v162 h) fun _ h4 =>
(q1_6 v1 v2 v3 v12 v15 v16 v17 v18 v107 v108 v109 v139 v140 v141 h4))
 ((q1_6 v1 v2 v3 v12 v15 v16 v17 v18 v107 v108 v109 v139 v140 v141 h))
def y2yx (s : St) : OX := q1_7 (s 1) (s 2) (s 3) (s 12) (s 15) (s 16) (s 17) (s 18) (s 107) (s 108) (s 109) (s 139) (s 140) (s 141) s.h
theorem y2iq : T1 y2c8 yk8 (y1 10 yj5 (y1 9 y77 (y1 8 y5t xN))) [.cell 2 true 5] y2yx := sq y2hw fun _ => by kernel_rfl
def q1_8 (v1 v2 v3 v12 v15 v16 v17 v18 v107 v108 v109 v139 v140 v141 v142 : AV) (h : Heap) : OX :=
cnd v142
 ((q1_7 v1 v2 v3 v12 v15 v16 v17 v18 v107 v108 v109 v139 v140 v141 h))
 ((q1_4 v1 v2 v3 v12 v15 v16 v17 v18 v107 v108 v109 h))
def y2yq (s : St) : OX := q1_8 (s 1) (s 2) (s 3) (s 12) (s 15) (s 16) (s 17) (s 18) (s 107) (s 108) (s 109) (s 139) (s 140) (s 141) (s 142) s.h
theorem y2ko : T1 y2b4 yk8 (y1 10 yj5 (y1 9 y77 (y1 8 y5t xN))) [.cell 2 true 5] y2yq := sq y2iq fun _ => by kernel_rfl
def q1_9 (v1 v2 v3 v12 v15 v16 v17 v18 v107 v108 v109 v139 v140 v141 : AV) (h : Heap) : OX :=
ob (y5 .lss v141 v140) fun v142 =>
(q1_8 v1 v2 v3 v12 v15 v16 v17 v18 v107 v108 v109 v139 v140 v141 v142 h)
def y2vv (s : St) : OX := q1_9 (s 1) (s 2) (s 3) (s 12) (s 15) (s 16) (s 17) (s 18) (s 107) (s 108) (s 109) (s 139) (s 140) (s 141) s.h
theorem y2g3 : T1 y2c2 yk8 (y1 10 yj5 (y1 9 y77 (y1 8 y5t xN))) [.cell 2 true 5] y2vv := sq y2ko fun _ => by kernel_rfl
theorem yq1 (v1 v2 v3 v12 v15 v16 v17 v18 v107 v108 v109 v139 v140 v141 : AV) (h : Heap) : y1x9 v1 v2 v3 v12 v15 v16 v17 v18 v107 v108 v109 v139 v140 v141 h = (q1_9 v1 v2 v3 v12 v15 v16 v17 v18 v107 v108 v109 v139 v140 v141 h) :=
  y19.trans ((y12 _ _ _ (n' := yk8) (fun s => y157 s)).trans ((y2g3 _).trans (by kernel_rfl)))
theorem y270 : T1 y1rs yj5 (y1 9 y77 (y1 8 y5t xN)) [.cell 2 true 5] yk8 := fun s => yo.trans (y157 s)
def y1vs (v1 v2 v3 v12 v15 v16 v17 v18 v107 v108 v109 : AV) (h : Heap) : OX :=
ob (yq 1 v18 h) fun v140 =>
(y1x9 v1 v2 v3 v12 v15 v16 v17 v18 v107 v108 v109 v18 v140 (AV.int .i64 0) h)
def y2cx (s : St) : OX := y1vs (s 1) (s 2) (s 3) (s 12) (s 15) (s 16) (s 17) (s 18) (s 107) (s 108) (s 109) s.h
theorem y25u : T1 y1i6 yj5 (y1 9 y77 (y1 8 y5t xN)) [.cell 2 true 5] y2cx := sq y270 fun _ => by kernel_rfl
theorem y27g : T1 y1yn y77 (y1 9 y77 (y1 8 y5t xN)) [.cell 2 true 5] y2cx := sq y2l6 y25u
def y1th (v1 v2 v3 v12 v15 v16 v17 v107 v108 v109 : AV) (h : Heap) : OX :=
ob (evLd true 9 v17 h) fun v137 =>
oh (y7 E (y8 E) 0 (some 19) false 10 [v137] h) fun v138 h5 =>
(y1vs v1 v2 v3 v12 v15 v16 v17 v138 v107 v108 v109 h5)
def y2pf (s : St) : OX := y1th (s 1) (s 2) (s 3) (s 12) (s 15) (s 16) (s 17) (s 107) (s 108) (s 109) s.h
theorem y28d : T1 y1pq y77 (y1 9 y77 (y1 8 y5t xN)) [.cell 2 true 5] y2pf := sq y27g fun _ => by kernel_rfl
def y1bl (v1 v2 v3 v12 v15 v16 v17 v107 v108 v109 : AV) (h : Heap) : OX :=
ob (y85 false [0] (.bool false) false v12 v16 h) fun v121 =>
ob (evUn .not v121) fun v122 =>
cnd v122
 (ob (evLd false 1 v3 h) fun v123 =>
ob (evLd false 1 v3 h) fun v125 =>
ob (y5 .sub v16 (AV.int .i64 1)) fun v127 =>
ob (yi 1 v125 v127) fun v128 =>
ob (evLd false 1 v128 h) fun v129 =>
ob (y5 .sub v16 (AV.int .i64 1)) fun v132 =>
ob (yi 9 v15 v132) fun v133 =>
ob (evLd true 9 v133 h) fun v134 =>
ofp (y3p E (y8 E) 0 none true 152 [v129, v134] h) fun f12 =>
oh (y7 E (y8 E) 0 none true 152 [v129, v134] h) fun v135 h6 =>
ob (yi 1 v123 v16) fun v136 =>
oh (evSt 1 v136 v135 h6) fun _ h7 =>
okK (yd [(ids1 v3, []), ([], []), (ids1 v3, []), ([], []), ([], []), ([], []), (ids1 v128, []), ([], []), ([], []), ([], []), ([], []), (ids1 v133, []), f12, ([], []), ([], ids1 v136)] [(0, 12)]) <|
(y1th v1 v2 v3 v12 v15 v16 v17 v107 v108 v109 h7))
 ((y1th v1 v2 v3 v12 v15 v16 v17 v107 v108 v109 h))
def y2rg (s : St) : OX := y1bl (s 1) (s 2) (s 3) (s 12) (s 15) (s 16) (s 17) (s 107) (s 108) (s 109) s.h
theorem y20u : T1 y1nq y77 (y1 9 y77 (y1 8 y5t xN)) [.cell 2 true 5] y2rg := sq y28d fun _ => by kernel_rfl
def y1ih (v1 v2 v3 v12 v15 v16 v17 v107 v108 v109 : AV) (h : Heap) : OX :=
ob (evLd false 1 v3 h) fun v114 =>
ob (yi 1 v114 v16) fun v116 =>
ob (evLd false 1 v116 h) fun v117 =>
ob (y3n 1 false v117 AV.nils) fun v118 =>
cnd v118
 ((q1_3 v1 v2 v3 v12 v15 v107 v108 v109 h))
 ((y1bl v1 v2 v3 v12 v15 v16 v17 v107 v108 v109 h))
def y2ub (s : St) : OX := y1ih (s 1) (s 2) (s 3) (s 12) (s 15) (s 16) (s 17) (s 107) (s 108) (s 109) s.h
theorem y25m : T1 y1g8 y77 (y1 9 y77 (y1 8 y5t xN)) [.cell 2 true 5] y2ub := sq y20u fun _ => by kernel_rfl
def y2kw (v1 v2 v3 v12 v15 v107 v108 v109 : AV) (h : Heap) : OX :=
ob (yi 9 v107 v109) fun v112 =>
ob (evLd true 9 v112 h) fun v113 =>
oh (newC 0 (some 18) [(.int .i64 0), (.int .i64 0), (.int .i64 0), (.int .i64 0), (.int .i64 0), (.int .i64 0), (.int .i64 0), (.str []), .nils] h) fun v17 h8 =>
oh (evSt 9 v17 v113 h8) fun _ h9 =>
(y1ih v1 v2 v3 v12 v15 v109 v17 v107 v108 v109 h9)
def y1m2 (s : St) : OX := y2kw (s 1) (s 2) (s 3) (s 12) (s 15) (s 107) (s 108) (s 109) s.h
theorem y22z : T1 y1ml y77 (y1 9 y77 (y1 8 y5t xN)) [.cell 2 true 5] y1m2 := sq y25m fun _ => by kernel_rfl
theorem y22n : T1 y1vu y77 (y1 8 y5t xN) [.cell 2 true 5] y1m2 := fun s => yo.trans (y22z s)
theorem y24v : T1 y1gy yj4 (y1 8 y5t xN) [.cell 2 true 5] y1m2 := sq y2ha y22n
def y22j (v1 v2 v3 v12 v15 v107 v108 v109 v110 : AV) (h : Heap) : OX :=
cnd v110
 ((y2kw v1 v2 v3 v12 v15 v107 v108 v109 h))
 ((q1_1 v1 v2 h))
def y2tu (s : St) : OX := y22j (s 1) (s 2) (s 3) (s 12) (s 15) (s 107) (s 108) (s 109) (s 110) s.h
theorem y22e : T1 y1tk yj4 (y1 8 y5t xN) [.cell 2 true 5] y2tu := sq y24v fun _ => by kernel_rfl
def y29j (v1 v2 v3 v12 v15 v107 v108 v109 : AV) (h : Heap) : OX :=
ob (y5 .lss v109 v108) fun v110 =>
(y22j v1 v2 v3 v12 v15 v107 v108 v109 v110 h)
def y2uj (s : St) : OX := y29j (s 1) (s 2) (s 3) (s 12) (s 15) (s 107) (s 108) (s 109) s.h
theorem y26j : T1 y1hm yj4 (y1 8 y5t xN) [.cell 2 true 5] y2uj := sq y22e fun _ => by kernel_rfl
theorem y11q (v1 v2 v3 v12 v15 v107 v108 v109 : AV) (h : Heap) : y1b2 v1 v2 v3 v12 v15 v107 v108 v109 h = (y29j v1 v2 v3 v12 v15 v107 v108 v109 h) :=
  y19.trans ((y12 _ _ _ (n' := yj4) (fun s => yzp s)).trans ((y26j _).trans (by kernel_rfl)))
theorem y24r : T1 y1x7 y5t xN [.cell 2 true 5] yj4 := fun s => yo.trans (yzp s)
def y2mt (v1 v2 v3 v12 v15 : AV) (h : Heap) : OX :=
ob (yq 1 v15 h) fun v108 =>
(y1b2 v1 v2 v3 v12 v15 v15 v108 (AV.int .i64 0) h)
def y2by (s : St) : OX := y2mt (s 1) (s 2) (s 3) (s 12) (s 15) s.h
theorem y25w : T1 y1so y5t xN [.cell 2 true 5] y2by := sq y24r fun _ => by kernel_rfl
theorem y248 : T0 y1n3 [.cell 2 true 5] y2by := sq y2i2 y25w
def y21y (v1 v2 v3 v12 : AV) (h : Heap) : OX :=
ob (evFa 3 v1) fun v104 =>
ob (evLd false 1 v104 h) fun v105 =>
oh (y7 E (y8 E) 0 (some 16) true 40 [v105] h) fun v106 h10 =>
(y2mt v1 v2 v3 v12 v106 h10)
def ybc (s : St) : OX := y21y (s 1) (s 2) (s 3) (s 12) s.h
theorem y264 : T0 y1t9 [.cell 2 true 5] ybc := sq y248 fun _ => by kernel_rfl
def yu8 (v1 v2 v3 v12 v95 v96 v97 : AV) (h : Heap) : OX :=
  W E 0 yp8 ⟨[(1, v1), (2, v2), (3, v3), (12, v12), (95, v95), (96, v96), (97, v97)], h⟩ ybc (y1 6 ybc xN) (finP [.cell 2 true 5])
def ydd (s : St) : OX := yu8 (s 1) (s 2) (s 3) (s 12) (s 95) (s 96) (s 97) s.h
theorem yvw : T1 yp8 ybc (y1 6 ybc xN) [.cell 2 true 5] ydd := fun s => ye.trans (by kernel_rfl)
def y2i8 (v1 v2 v3 v12 v95 v96 v97 : AV) (h : Heap) : OX :=
ob (y5 .add v97 (AV.int .i64 1)) fun v103 =>
(yu8 v1 v2 v3 v12 v95 v96 v103 h)
def y2u2 (s : St) : OX := y2i8 (s 1) (s 2) (s 3) (s 12) (s 95) (s 96) (s 97) s.h
theorem y25b : T1 y1fq ydd (y1 6 ybc xN) [.cell 2 true 5] y2u2 := fun _ => by kernel_rfl
def y2l7 (v1 v2 v3 v12 v95 v96 v97 : AV) (h : Heap) : OX :=
ob (yi 1 v95 v97) fun v99 =>
ob (evLd false 1 v99 h) fun v100 =>
oh (ycw false [0] v12 v100 (AV.bool true) h) fun _ h11 =>
(y2i8 v1 v2 v3 v12 v95 v96 v97 h11)
def y2ob (s : St) : OX := y2l7 (s 1) (s 2) (s 3) (s 12) (s 95) (s 96) (s 97) s.h
theorem y29v : T1 y1im ydd (y1 6 ybc xN) [.cell 2 true 5] y2ob := sq y25b fun _ => by kernel_rfl
def y27e (v1 v2 v3 v12 v95 v96 v97 v98 : AV) (h : Heap) : OX :=
cnd v98
 ((y2l7 v1 v2 v3 v12 v95 v96 v97 h))
 ((y21y v1 v2 v3 v12 h))
def y2pq (s : St) : OX := y27e (s 1) (s 2) (s 3) (s 12) (s 95) (s 96) (s 97) (s 98) s.h
theorem y21w : T1 y1r6 ydd (y1 6 ybc xN) [.cell 2 true 5] y2pq := sq y29v fun _ => by kernel_rfl
def y26t (v1 v2 v3 v12 v95 v96 v97 : AV) (h : Heap) : OX :=
ob (y5 .lss v97 v96) fun v98 =>
(y27e v1 v2 v3 v12 v95 v96 v97 v98 h)
def y2qx (s : St) : OX := y26t (s 1) (s 2) (s 3) (s 12) (s 95) (s 96) (s 97) s.h
theorem y280 : T1 y1la ydd (y1 6 ybc xN) [.cell 2 true 5] y2qx := sq y21w fun _ => by kernel_rfl
theorem yqy (v1 v2 v3 v12 v95 v96 v97 : AV) (h : Heap) : yu8 v1 v2 v3 v12 v95 v96 v97 h = (y26t v1 v2 v3 v12 v95 v96 v97 h) :=
  y19.trans ((y12 _ _ _ (n' := ydd) (fun s => yvw s)).trans ((y280 _).trans (by kernel_rfl)))
theorem y235 : T1 y1k8 ybc xN [.cell 2 true 5] ydd := fun s => yo.trans (yvw s)
def y2e3 (v1 v2 v3 v12 : AV) (h : Heap) : OX :=
ob (evLd true 5 v1 h) fun v94 =>
oh (y7 E (y8 E) 0 none true 102 [v94] h) fun v95 h12 =>
ob (yq 1 v95 h12) fun v96 =>
(yu8 v1 v2 v3 v12 v95 v96 (AV.int .i64 0) h12)
def y2d7 (s : St) : OX := y2e3 (s 1) (s 2) (s 3) (s 12) s.h
theorem y28u : T1 y1jp ybc xN [.cell 2 true 5] y2d7 := sq y235 fun _ => by kernel_rfl
theorem y21m : T0 y1g1 [.cell 2 true 5] y2d7 := sq y264 y28u
def y23c (v1 v2 v3 : AV) (h : Heap) : OX :=
oh (mkmC 0 (some 15) h) fun v93 h13 =>
(y2e3 v1 v2 v3 v93 h13)
def y3a (s : St) : OX := y23c (s 1) (s 2) (s 3) s.h
theorem y2aa : T0 y1ub [.cell 2 true 5] y3a := sq y21m fun _ => by kernel_rfl
def yl9 (v1 v2 v3 v4 v5 : AV) (h : Heap) : OX :=
  W E 0 ypy ⟨[(1, v1), (2, v2), (3, v3), (4, v4), (5, v5)], h⟩ y3a (y1 0 y3a xN) (finP [.cell 2 true 5])
def y14 (s : St) : OX := yl9 (s 1) (s 2) (s 3) (s 4) (s 5) s.h
theorem yrm : T1 ypy y3a (y1 0 y3a xN) [.cell 2 true 5] y14 := fun s => ye.trans (by kernel_rfl)
def yvc (v1 v2 v3 v4 v5 v9 v82 v83 v84 : AV) (h : Heap) : OX :=
  W E 0 yqp ⟨[(1, v1), (2, v2), (3, v3), (4, v4), (5, v5), (9, v9), (82, v82), (83, v83), (84, v84)], h⟩ y14 (y1 4 y14 (y1 1 y14 (y1 0 y3a xN))) (finP [.cell 2 true 5])
def yde (s : St) : OX := yvc (s 1) (s 2) (s 3) (s 4) (s 5) (s 9) (s 82) (s 83) (s 84) s.h
theorem yrv : T1 yqp y14 (y1 4 y14 (y1 1 y14 (y1 0 y3a xN))) [.cell 2 true 5] yde := fun s => ye.trans (by kernel_rfl)
def y2hy (v1 v2 v3 v4 v5 v9 v82 v83 v84 : AV) (h : Heap) : OX :=
ob (y5 .add v84 (AV.int .i64 1)) fun v92 =>
(yvc v1 v2 v3 v4 v5 v9 v82 v83 v92 h)
def y2u5 (s : St) : OX := y2hy (s 1) (s 2) (s 3) (s 4) (s 5) (s 9) (s 82) (s 83) (s 84) s.h
theorem y28i : T1 y1qq yde (y1 4 y14 (y1 1 y14 (y1 0 y3a xN))) [.cell 2 true 5] y2u5 := fun _ => by kernel_rfl
def y2jp (v1 v2 v3 v4 v5 v9 v82 v83 v84 : AV) (h : Heap) : OX :=
ob (yi 1 v82 v84) fun v86 =>
ob (evLd false 1 v86 h) fun v87 =>
oh (ymm E (y8 E) 0 none true v5 [v87, v9] h) fun v91 h14 =>
(y2hy v1 v2 v3 v4 v5 v9 v82 v83 v84 h14)
def y2r6 (s : St) : OX := y2jp (s 1) (s 2) (s 3) (s 4) (s 5) (s 9) (s 82) (s 83) (s 84) s.h
theorem y25r : T1 y1zn yde (y1 4 y14 (y1 1 y14 (y1 0 y3a xN))) [.cell 2 true 5] y2r6 := sq y28i fun _ => by kernel_rfl
def y24e (v1 v2 v3 v4 v5 v9 v82 v83 v84 v85 : AV) (h : Heap) : OX :=
cnd v85
 ((y2jp v1 v2 v3 v4 v5 v9 v82 v83 v84 h))
 ((yl9 v1 v2 v3 v4 v5 h))
def y2oa (s : St) : OX := y24e (s 1) (s 2) (s 3) (s 4) (s 5) (s 9) (s 82) (s 83) (s 84) (s 85) s.h
theorem y26l : T1 y1qn yde (y1 4 y14 (y1 1 y14 (y1 0 y3a xN))) [.cell 2 true 5] y2oa := sq y25r fun _ => by kernel_rfl
def y28e (v1 v2 v3 v4 v5 v9 v82 v83 v84 : AV) (h : Heap) : OX :=
ob (y5 .lss v84 v83) fun v85 =>
(y24e v1 v2 v3 v4 v5 v9 v82 v83 v84 v85 h)
def y2p3 (s : St) : OX := y28e (s 1) (s 2) (s 3) (s 4) (s 5) (s 9) (s 82) (s 83) (s 84) s.h
theorem y221 : T1 y1wd yde (y1 4 y14 (y1 1 y14 (y1 0 y3a xN))) [.cell 2 true 5] y2p3 := sq y26l fun _ => by kernel_rfl
theorem yvx (v1 v2 v3 v4 v5 v9 v82 v83 v84 : AV) (h : Heap) : yvc v1 v2 v3 v4 v5 v9 v82 v83 v84 h = (y28e v1 v2 v3 v4 v5 v9 v82 v83 v84 h) :=
  y19.trans ((y12 _ _ _ (n' := yde) (fun s => yrv s)).trans ((y221 _).trans (by kernel_rfl)))
theorem y21l : T1 y1ri y14 (y1 1 y14 (y1 0 y3a xN)) [.cell 2 true 5] yde := fun s => yo.trans (yrv s)
def y2f6 (v1 v2 v3 v4 v5 v6 v9 : AV) (h : Heap) : OX :=
ob (evLd true 5 v1 h) fun v80 =>
oh (y7 E (y8 E) 0 none true 81 [v80, v6] h) fun v82 h15 =>
ob (yq 1 v82 h15) fun v83 =>
(yvc v1 v2 v3 v4 v5 v9 v82 v83 (AV.int .i64 0) h15)
def y2pb (s : St) : OX := y2f6 (s 1) (s 2) (s 3) (s 4) (s 5) (s 6) (s 9) s.h
theorem y27t : T1 y1o7 y14 (y1 1 y14 (y1 0 y3a xN)) [.cell 2 true 5] y2pb := sq y21l fun _ => by kernel_rfl
def y21f (v1 v2 v3 v4 v5 v6 : AV) (h : Heap) : OX :=
ob (evLd false 1 v3 h) fun v70 =>
ob (yi 1 v70 v6) fun v72 =>
ob (evLd false 1 v72 h) fun v73 =>
ob (evFa 3 v1) fun v74 =>
ob (evLd false 1 v74 h) fun v75 =>
ob (yi 9 v75 v6) fun v77 =>
ob (evLd true 9 v77 h) fun v78 =>
oh (y7 E (y8 E) 0 none true 152 [v73, v78] h) fun v79 h16 =>
(y2f6 v1 v2 v3 v4 v5 v6 v79 h16)
def ybb (s : St) : OX := y21f (s 1) (s 2) (s 3) (s 4) (s 5) (s 6) s.h
theorem y24u : T1 y1td y14 (y1 1 y14 (y1 0 y3a xN)) [.cell 2 true 5] ybb := sq y27t fun _ => by kernel_rfl
def yuf (v1 v2 v3 v4 v5 v6 v56 v57 v58 : AV) (h : Heap) : OX :=
  W E 0 yqn ⟨[(1, v1), (2, v2), (3, v3), (4, v4), (5, v5), (6, v6), (56, v56), (57, v57), (58, v58)], h⟩ ybb (y1 2 ybb (y1 1 y14 (y1 0 y3a xN))) (finP [.cell 2 true 5])
def ydq (s : St) : OX := yuf (s 1) (s 2) (s 3) (s 4) (s 5) (s 6) (s 56) (s 57) (s 58) s.h
theorem yuc : T1 yqn ybb (y1 2 ybb (y1 1 y14 (y1 0 y3a xN))) [.cell 2 true 5] ydq := fun s => ye.trans (by kernel_rfl)
def y2g5 (v1 v2 v3 v4 v5 v6 v56 v57 v58 : AV) (h : Heap) : OX :=
ob (y5 .add v58 (AV.int .i64 1)) fun v69 =>
(yuf v1 v2 v3 v4 v5 v6 v56 v57 v69 h)
def y2ti (s : St) : OX := y2g5 (s 1) (s 2) (s 3) (s 4) (s 5) (s 6) (s 56) (s 57) (s 58) s.h
theorem y25p : T1 y1hr ydq (y1 2 ybb (y1 1 y14 (y1 0 y3a xN))) [.cell 2 true 5] y2ti := fun _ => by kernel_rfl
def y2dz (v1 v2 v3 v4 v5 v6 v56 v57 v58 : AV) (h : Heap) : OX :=
ob (yi 1 v56 v58) fun v60 =>
ob (evLd false 1 v60 h) fun v61 =>
ob (evLd false 1 v3 h) fun v64 =>
ob (yi 1 v64 v6) fun v66 =>
ob (evLd false 1 v66 h) fun v67 =>
oh (ymm E (y8 E) 0 none true v5 [v61, v67] h) fun v68 h17 =>
(y2g5 v1 v2 v3 v4 v5 v6 v56 v57 v58 h17)
def y2o0 (s : St) : OX := y2dz (s 1) (s 2) (s 3) (s 4) (s 5) (s 6) (s 56) (s 57) (s 58) s.h
theorem y25l : T1 y1os ydq (y1 2 ybb (y1 1 y14 (y1 0 y3a xN))) [.cell 2 true 5] y2o0 := sq y25p fun _ => by kernel_rfl
def y20l (v1 v2 v3 v4 v5 v6 v56 v57 v58 v59 : AV) (h : Heap) : OX :=
cnd v59
 ((y2dz v1 v2 v3 v4 v5 v6 v56 v57 v58 h))
 ((y21f v1 v2 v3 v4 v5 v6 h))
def y2sx (s : St) : OX := y20l (s 1) (s 2) (s 3) (s 4) (s 5) (s 6) (s 56) (s 57) (s 58) (s 59) s.h
theorem y28m : T1 y1gt ydq (y1 2 ybb (y1 1 y14 (y1 0 y3a xN))) [.cell 2 true 5] y2sx := sq y25l fun _ => by kernel_rfl
def y273 (v1 v2 v3 v4 v5 v6 v56 v57 v58 : AV) (h : Heap) : OX :=
ob (y5 .lss v58 v57) fun v59 =>
(y20l v1 v2 v3 v4 v5 v6 v56 v57 v58 v59 h)
def y2px (s : St) : OX := y273 (s 1) (s 2) (s 3) (s 4) (s 5) (s 6) (s 56) (s 57) (s 58) s.h
theorem y21k : T1 y1w6 ydq (y1 2 ybb (y1 1 y14 (y1 0 y3a xN))) [.cell 2 true 5] y2px := sq y28m fun _ => by kernel_rfl
theorem yum (v1 v2 v3 v4 v5 v6 v56 v57 v58 : AV) (h : Heap) : yuf v1 v2 v3 v4 v5 v6 v56 v57 v58 h = (y273 v1 v2 v3 v4 v5 v6 v56 v57 v58 h) :=
  y19.trans ((y12 _ _ _ (n' := ydq) (fun s => yuc s)).trans ((y21k _).trans (by kernel_rfl)))
theorem y23g : T1 y1ut ybb (y1 1 y14 (y1 0 y3a xN)) [.cell 2 true 5] ydq := fun s => yo.trans (yuc s)
def y2gi (v1 v2 v3 v4 v5 v6 : AV) (h : Heap) : OX :=
ob (evLd true 5 v1 h) fun v54 =>
oh (y7 E (y8 E) 0 none true 79 [v54, v6] h) fun v56 h18 =>
ob (yq 1 v56 h18) fun v57 =>
(yuf v1 v2 v3 v4 v5 v6 v56 v57 (AV.int .i64 0) h18)
def y2ci (s : St) : OX := y2gi (s 1) (s 2) (s 3) (s 4) (s 5) (s 6) s.h
theorem y22a : T1 y1pt ybb (y1 1 y14 (y1 0 y3a xN)) [.cell 2 true 5] y2ci := sq y23g fun _ => by kernel_rfl
theorem y25c : T1 y1mo y14 (y1 1 y14 (y1 0 y3a xN)) [.cell 2 true 5] y2ci := sq y24u y22a
def y2mk (v1 v2 v3 v4 v5 v6 : AV) (h : Heap) : OX :=
ob (evLd false 1 v4 h) fun v49 =>
ob (evLd false 1 v4 h) fun v50 =>
ob (yq 1 v50 h) fun v51 =>
ob (y5 .sub v51 (AV.int .i64 1)) fun v52 =>
ob (y5y 1 v49 none (some v52)) fun v53 =>
oh (evSt 1 v4 v53 h) fun _ h19 =>
(y2gi v1 v2 v3 v4 v5 v6 h19)
def y2sn (s : St) : OX := y2mk (s 1) (s 2) (s 3) (s 4) (s 5) (s 6) s.h
theorem y26a : T1 y1n5 y14 (y1 1 y14 (y1 0 y3a xN)) [.cell 2 true 5] y2sn := sq y25c fun _ => by kernel_rfl
def y2e9 (v1 v2 v3 v4 v5 : AV) (h : Heap) : OX :=
ob (evLd false 1 v4 h) fun v43 =>
ob (evLd false 1 v4 h) fun v44 =>
ob (yq 1 v44 h) fun v45 =>
ob (y5 .sub v45 (AV.int .i64 1)) fun v46 =>
ob (yi 1 v43 v46) fun v47 =>
ob (evLd false 1 v47 h) fun v48 =>
(y2mk v1 v2 v3 v4 v5 v48 h)
def y2bh (s : St) : OX := y2e9 (s 1) (s 2) (s 3) (s 4) (s 5) s.h
theorem y24x : T1 y1wj y14 (y1 1 y14 (y1 0 y3a xN)) [.cell 2 true 5] y2bh := sq y26a fun _ => by kernel_rfl
theorem y24k : T1 y1yl y14 (y1 0 y3a xN) [.cell 2 true 5] y2bh := fun s => yo.trans (y24x s)
def y1wk (v1 v2 v3 v4 v5 : AV) (h : Heap) : OX :=
ob (evLd false 1 v4 h) fun v40 =>
ob (yq 1 v40 h) fun v41 =>
ob (y5 .gtr v41 (AV.int .i64 0)) fun v42 =>
cnd v42
 ((y2e9 v1 v2 v3 v4 v5 h))
 ((y23c v1 v2 v3 h))
def y2ow (s : St) : OX := y1wk (s 1) (s 2) (s 3) (s 4) (s 5) s.h
theorem y27q : T1 y1fs y14 (y1 0 y3a xN) [.cell 2 true 5] y2ow := sq y24k fun _ => by kernel_rfl
theorem yjh (v1 v2 v3 v4 v5 : AV) (h : Heap) : yl9 v1 v2 v3 v4 v5 h = (y1wk v1 v2 v3 v4 v5 h) :=
  y19.trans ((y12 _ _ _ (n' := y14) (fun s => yrm s)).trans ((y27q _).trans (by kernel_rfl)))
theorem y224 : T1 y1y2 y3a xN [.cell 2 true 5] y14 := fun s => yo.trans (yrm s)
theorem y24s : T0 y1xt [.cell 2 true 5] y14 := sq y2aa y224
def y2j5 (v1 v2 v3 v4 : AV) (h : Heap) : OX :=
ob (some (.fn 151 [v3, v4])) fun v39 =>
(yl9 v1 v2 v3 v4 v39 h)
def y2ok (s : St) : OX := y2j5 (s 1) (s 2) (s 3) (s 4) s.h
theorem y20t : T0 y1jz [.cell 2 true 5] y2ok := sq y24s fun _ => by kernel_rfl
def y2kf (v1 v2 v3 : AV) (h : Heap) : OX :=
oh (yw 0 (some 13) 1 1 [(.int .i64 0)] [(0, (AV.int .i64 0))] h) fun v38 h20 =>
oh (newC 0 (some 14) [.nils] h20) fun v4 h21 =>
oh (evSt 1 v4 v38 h21) fun _ h22 =>
(y2j5 v1 v2 v3 v4 h22)
def y2p1 (s : St) : OX := y2kf (s 1) (s 2) (s 3) s.h
theorem y26p : T0 y1r2 [.cell 2 true 5] y2p1 := sq y20t fun _ => by kernel_rfl
def y2f7 (v1 v2 v3 : AV) (h : Heap) : OX :=
ob (evLd false 1 v3 h) fun v31 =>
oh (yw 0 (some 12) 1 1 [(.int .i64 0)] [(0, (AV.int .i64 (-1)))] h) fun v32 h23 =>
ob (evFa 0 v1) fun v33 =>
ob (evLd false 1 v33 h23) fun v34 =>
ob (yq 1 v34 h23) fun v35 =>
ofp (y3p E (y8 E) 0 none true 150 [v32, v35] h23) fun f5 =>
oh (y7 E (y8 E) 0 none true 150 [v32, v35] h23) fun v36 h24 =>
ob (yi 1 v31 (AV.int .i64 0)) fun v37 =>
oh (evSt 1 v37 v36 h24) fun _ h25 =>
okK (yd [(ids1 v3, []), ([], [0 + 12]), ([], []), (ids1 v33, []), (ids1 v34, []), f5, ([], []), ([], ids1 v37)] [(0, 1), (1, 3), (1, 4), (0, 5)]) <|
(y2kf v1 v2 v3 h25)
def y2s2 (s : St) : OX := y2f7 (s 1) (s 2) (s 3) s.h
theorem y27y : T0 y1nj [.cell 2 true 5] y2s2 := sq y26p fun _ => by kernel_rfl
def y229 (v1 v2 : AV) (h : Heap) : OX :=
ob (evFa 3 v1) fun v27 =>
ob (evLd false 1 v27 h) fun v28 =>
ob (yq 1 v28 h) fun v29 =>
oh (mkSC 0 (some 10) 1 24 [.nils] v29 v29 h) fun v30 h26 =>
oh (newC 0 (some 11) [.nils] h26) fun v3 h27 =>
oh (evSt 1 v3 v30 h27) fun _ h28 =>
(y2f7 v1 v2 v3 h28)
def y2og (s : St) : OX := y229 (s 1) (s 2) s.h
theorem y20g : T0 y1vd [.cell 2 true 5] y2og := sq y27y fun _ => by kernel_rfl
def y1pl (v1 v2 : AV) (h : Heap) : OX :=
ob (evLd true 5 v1 h) fun v23 =>
oh (y7 E (y8 E) 0 none true 8 [v23] h) fun v24 h29 =>
ob (y5 .neq v24 (AV.int .i64 0)) fun v25 =>
cnd v25
 (ob (evLd true 5 v1 h29) fun v26 =>
oh (evSt 5 v2 v26 h29) fun _ h30 =>
(ob (evLd true 5 v2 h30) fun r0 =>
  yc h30 r0))
 ((y229 v1 v2 h29))
def y2pl (s : St) : OX := y1pl (s 1) (s 2) s.h
theorem y27r : T0 y1pv [.cell 2 true 5] y2pl := sq y20g fun _ => by kernel_rfl
def y2fm (v1 v2 : AV) (h : Heap) : OX :=
ob (evLd true 5 v1 h) fun v21 =>
oh (y7 E (y8 E) 0 (some 2) false 13 [v21] h) fun v22 h31 =>
oh (evSt 5 v1 v22 h31) fun _ h32 =>
(y1pl v1 v2 h32)
def y2ss (s : St) : OX := y2fm (s 1) (s 2) s.h
theorem y26e : T0 y1i7 [.cell 2 true 5] y2ss := sq y27r fun _ => by kernel_rfl
def y227 (v0 : AV) (h : Heap) : OX :=
oh (newC 0 (some 0) (cellsOf v0) h) fun v1 h33 =>
oh (newC 0 (some 1) [.nils, .nils, (.int .i64 0), .nils, .nils] h33) fun v2 h34 =>
(y2fm v1 v2 h34)
def y2pm (s : St) : OX := y227 (s 0) s.h
theorem y22b : T0 y1ew [.cell 2 true 5] y2pm := sq y26e fun _ => by kernel_rfl
@[simp] theorem y2uz : E.pure 149 = true := rfl
theorem x_q1 (v0 : AV) : (y8 E).p 149 [v0] = y227 v0 [⟨0, .dead⟩, ⟨0, .dead⟩, ⟨0, .dead⟩, ⟨0, .dead⟩, ⟨0, .dead⟩, ⟨0, .dead⟩, ⟨0, .dead⟩, ⟨0, .dead⟩, ⟨0, .dead⟩, ⟨0, .dead⟩, ⟨0, .dead⟩, ⟨0, .dead⟩, ⟨0, .dead⟩, ⟨0, .dead⟩, ⟨0, .dead⟩, ⟨0, .dead⟩, ⟨0, .dead⟩, ⟨0, .dead⟩, ⟨0, .dead⟩, ⟨0, .dead⟩] :=
  (yz (cf := c_q1) (by kernel_rfl) rfl).trans ((y22b _).trans (by kernel_rfl))
def ydl (h : Heap) : OX :=
(yc h AV.nils)
def y3e (s : St) : OX := ydl s.h
theorem y2a8 : T0 y1u8 [.t 2] y3e := fun _ => by kernel_rfl
def yfd (v1 : AV) (h : Heap) : OX :=
ob (evFa 2 v1) fun v58 =>
ob (evLd false 1 v58 h) fun v59 =>
ob (evFa 3 v1) fun v60 =>
ob (evLd false 1 v60 h) fun v61 =>
oh (yw 0 (some 6) 1 2 [(.int .i64 0)] [(0, v59), (1, v61)] h) fun v62 h1 =>
(yc h1 v62)
def y2sw (s : St) : OX := yfd (s 1) s.h
theorem y22t : T1 y1oo y3e (y1 0 y3e xN) [.t 2] y2sw := fun _ => by kernel_rfl
def ye7 (v1 : AV) (h : Heap) : OX :=
ob (evFa 3 v1) fun v52 =>
ob (evLd false 1 v52 h) fun v53 =>
ob (y5 .lss v53 (AV.int .i64 0)) fun v54 =>
cnd v54
 (ob (evFa 2 v1) fun v55 =>
ob (evLd false 1 v55 h) fun v56 =>
oh (yw 0 (some 5) 1 1 [(.int .i64 0)] [(0, v56)] h) fun v57 h2 =>
(yc h2 v57))
 ((yfd v1 h))
def y2t5 (s : St) : OX := ye7 (s 1) s.h
theorem y251 : T1 y1mz y3e (y1 0 y3e xN) [.t 2] y2t5 := sq y22t fun _ => by kernel_rfl
def yfh (v1 v4 v50 : AV) (h : Heap) : OX :=
cnd v50
 ((ye7 v1 h))
 (ob (y5 .eql v4 (AV.int .i64 30)) fun v64 =>
cnd v64
 (ob (evFa 2 v1) fun v65 =>
ob (evLd false 1 v65 h) fun v66 =>
ob (y5 .geq v66 (AV.int .i64 0)) fun v67 =>
cnd v67
 (ob (evFa 2 v1) fun v68 =>
ob (evLd false 1 v68 h) fun v69 =>
oh (yw 0 (some 7) 1 1 [(.int .i64 0)] [(0, v69)] h) fun v70 h3 =>
(yc h3 v70))
 ((ydl h)))
 ((ydl h)))
def y2sr (s : St) : OX := yfh (s 1) (s 4) (s 50) s.h
theorem y24g : T1 y1kn y3e (y1 0 y3e xN) [.t 2] y2sr := fun s => (y1b (y251 s) rfl).trans (by kernel_rfl)
def yfc (v1 v4 : AV) (h : Heap) : OX :=
ob (y5 .eql v4 (AV.int .i64 29)) fun v51 =>
(yfh v1 v4 v51 h)
def y2qw (s : St) : OX := yfc (s 1) (s 4) s.h
theorem y2ab : T1 y1q7 y3e (y1 0 y3e xN) [.t 2] y2qw := sq y24g fun _ => by kernel_rfl
def yay (v1 v4 v42 : AV) (h : Heap) : OX :=
cnd v42
 (ob (evFa 8 v1) fun v47 =>
ob (evLd false 1 v47 h) fun v48 =>
oh (y7 E (y8 E) 0 (some 4) false 39 [v48] h) fun v49 h4 =>
(yc h4 v49))
 ((yfc v1 v4 h))
def y2te (s : St) : OX := yay (s 1) (s 4) (s 42) s.h
theorem y282 : T1 y1sl y3e (y1 0 y3e xN) [.t 2] y2te := fun s => (y1b rfl (y2ab s)).trans (by kernel_rfl)
def yer (v1 v4 : AV) (h : Heap) : OX :=
ob (y5 .eql v4 (AV.int .i64 23)) fun v43 =>
cnd v43
 ((yay v1 v4 v43 h))
 (ob (y5 .eql v4 (AV.int .i64 24)) fun v44 =>
cnd v44
 ((yay v1 v4 v44 h))
 (ob (y5 .eql v4 (AV.int .i64 25)) fun v45 =>
cnd v45
 ((yay v1 v4 v45 h))
 (ob (y5 .eql v4 (AV.int .i64 26)) fun v46 =>
(yay v1 v4 v46 h))))
def y2sm (s : St) : OX := yer (s 1) (s 4) s.h
theorem y29o : T1 y1ng y3e (y1 0 y3e xN) [.t 2] y2sm := sq y282 fun _ => by kernel_rfl
def yey (v1 v4 v33 : AV) (h : Heap) : OX :=
cnd v33
 (ob (evFa 2 v1) fun v35 =>
ob (evLd false 1 v35 h) fun v36 =>
ob (evFa 3 v1) fun v37 =>
ob (evLd false 1 v37 h) fun v38 =>
ob (evFa 4 v1) fun v39 =>
ob (evLd false 1 v39 h) fun v40 =>
oh (yw 0 (some 3) 1 3 [(.int .i64 0)] [(0, v36), (1, v38), (2, v40)] h) fun v41 h5 =>
(yc h5 v41))
 ((yer v1 v4 h))
def y2sg (s : St) : OX := yey (s 1) (s 4) (s 33) s.h
theorem y213 : T1 y1k3 y3e (y1 0 y3e xN) [.t 2] y2sg := fun s => (y1b rfl (y29o s)).trans (by kernel_rfl)
def yeb (v1 v4 : AV) (h : Heap) : OX :=
ob (y5 .eql v4 (AV.int .i64 14)) fun v34 =>
(yey v1 v4 v34 h)
def y2su (s : St) : OX := yeb (s 1) (s 4) s.h
theorem y21i : T1 y1y1 y3e (y1 0 y3e xN) [.t 2] y2su := sq y213 fun _ => by kernel_rfl
def y50 (v1 v4 v21 : AV) (h : Heap) : OX :=
cnd v21
 (ob (evFa 2 v1) fun v28 =>
ob (evLd false 1 v28 h) fun v29 =>
ob (evFa 3 v1) fun v30 =>
ob (evLd false 1 v30 h) fun v31 =>
oh (yw 0 (some 2) 1 2 [(.int .i64 0)] [(0, v29), (1, v31)] h) fun v32 h6 =>
(yc h6 v32))
 ((yeb v1 v4 h))
def y2g4 (s : St) : OX := y50 (s 1) (s 4) (s 21) s.h
theorem y1jv : T1 y183 y3e (y1 0 y3e xN) [.t 2] y2g4 := fun s => (y1b rfl (y21i s)).trans (by kernel_rfl)
def y7e (v1 v4 : AV) (h : Heap) : OX :=
ob (y5 .eql v4 (AV.int .i64 5)) fun v22 =>
cnd v22
 ((y50 v1 v4 v22 h))
 (ob (y5 .eql v4 (AV.int .i64 9)) fun v23 =>
cnd v23
 ((y50 v1 v4 v23 h))
 (ob (y5 .eql v4 (AV.int .i64 11)) fun v24 =>
cnd v24
 ((y50 v1 v4 v24 h))
 (ob (y5 .eql v4 (AV.int .i64 13)) fun v25 =>
cnd v25
 ((y50 v1 v4 v25 h))
 (ob (y5 .eql v4 (AV.int .i64 17)) fun v26 =>
cnd v26
 ((y50 v1 v4 v26 h))
 (ob (y5 .eql v4 (AV.int .i64 28)) fun v27 =>
(y50 v1 v4 v27 h))))))
def y2fr (s : St) : OX := y7e (s 1) (s 4) s.h
theorem y1l4 : T1 y140 y3e (y1 0 y3e xN) [.t 2] y2fr := sq y1jv fun _ => by kernel_rfl
def y3m (v1 v4 v5 : AV) (h : Heap) : OX :=
cnd v5
 (ob (evFa 2 v1) fun v18 =>
ob (evLd false 1 v18 h) fun v19 =>
oh (yw 0 (some 1) 1 1 [(.int .i64 0)] [(0, v19)] h) fun v20 h7 =>
(yc h7 v20))
 ((y7e v1 v4 h))
def y2mf (s : St) : OX := y3m (s 1) (s 4) (s 5) s.h
theorem y1xa : T1 yys y3e (y1 0 y3e xN) [.t 2] y2mf := fun s => (y1b rfl (y1l4 s)).trans (by kernel_rfl)
def y7f (v1 v4 : AV) (h : Heap) : OX :=
ob (y5 .eql v4 (AV.int .i64 4)) fun v6 =>
cnd v6
 ((y3m v1 v4 v6 h))
 (ob (y5 .eql v4 (AV.int .i64 6)) fun v7 =>
cnd v7
 ((y3m v1 v4 v7 h))
 (ob (y5 .eql v4 (AV.int .i64 7)) fun v8 =>
cnd v8
 ((y3m v1 v4 v8 h))
 (ob (y5 .eql v4 (AV.int .i64 8)) fun v9 =>
cnd v9
 ((y3m v1 v4 v9 h))
 (ob (y5 .eql v4 (AV.int .i64 10)) fun v10 =>
cnd v10
 ((y3m v1 v4 v10 h))
 (ob (y5 .eql v4 (AV.int .i64 12)) fun v11 =>
cnd v11
 ((y3m v1 v4 v11 h))
 (ob (y5 .eql v4 (AV.int .i64 15)) fun v12 =>
cnd v12
 ((y3m v1 v4 v12 h))
 (ob (y5 .eql v4 (AV.int .i64 16)) fun v13 =>
cnd v13
 ((y3m v1 v4 v13 h))
 (ob (y5 .eql v4 (AV.int .i64 19)) fun v14 =>
cnd v14
 ((y3m v1 v4 v14 h))
 (ob (y5 .eql v4 (AV.int .i64 21)) fun v15 =>
cnd v15
 ((y3m v1 v4 v15 h))
 (ob (y5 .eql v4 (AV.int .i64 22)) fun v16 =>
cnd v16
 ((y3m v1 v4 v16 h))
 (ob (y5 .eql v4 (AV.int .i64 31)) fun v17 =>
(y3m v1 v4 v17 h))))))))))))
def y1ha (s : St) : OX := y7f (s 1) (s 4) s.h
theorem y1tm : T1 y128 y3e (y1 0 y3e xN) [.t 2] y1ha := sq y1xa fun _ => by kernel_rfl
theorem y1v9 : T1 y1ag y3e xN [.t 2] y1ha := fun s => yo.trans (y1tm s)
def y7a (v1 : AV) (h : Heap) : OX :=
ob (evFa 0 v1) fun v3 =>
ob (evLd false 1 v3 h) fun v4 =>
(y7f v1 v4 h)
def y1wo (s : St) : OX := y7a (s 1) s.h
theorem y1jk : T1 y158 y3e xN [.t 2] y1wo := sq y1v9 fun _ => by kernel_rfl
theorem y1v0 : T0 y13c [.t 2] y1wo := sq y2a8 y1jk
def y78 (v0 : AV) (h : Heap) : OX :=
oh (newC 0 (some 0) (cellsOf v0) h) fun v1 h8 =>
(y7a v1 h8)
def y2jf (s : St) : OX := y78 (s 0) s.h
theorem y1z1 : T0 y0w [.t 2] y2jf := sq y1v0 fun _ => by kernel_rfl
@[simp] theorem y2wj : E.pure 10 = true := rfl
theorem yw8 (v0 : AV) : (y8 E).p 10 [v0] = y78 v0 [⟨0, .dead⟩, ⟨0, .dead⟩, ⟨0, .dead⟩, ⟨0, .dead⟩, ⟨0, .dead⟩, ⟨0, .dead⟩, ⟨0, .dead⟩, ⟨0, .dead⟩] :=
  (yz (cf := y2pz) (by kernel_rfl) rfl).trans ((y1z1 _).trans (by kernel_rfl))
def y1t7 (h : Heap) : OX :=
(yc h (AV.int .i64 (-1)))
def y2o3 (s : St) : OX := y1t7 s.h
theorem y258 : T0 y1rz [.t 2] y2o3 := fun _ => by kernel_rfl
def y1j7 (v1 : AV) (h : Heap) : OX :=
ob (evLd true 9 v1 h) fun v22 =>
oh (y7 E (y8 E) 0 none true 17 [v22] h) fun v23 h1 =>
cnd v23
 (ob (evFa 1 v1) fun v24 =>
ob (evLd false 1 v24 h1) fun v25 =>
(yc h1 v25))
 ((y1t7 h1))
def yiu (s : St) : OX := y1j7 (s 1) s.h
theorem y2a9 : T0 y1f0 [.t 2] yiu := sq y258 fun _ => by kernel_rfl
def yai (v1 v5 : AV) (h : Heap) : OX :=
cnd v5
 (ob (evFa 1 v1) fun v20 =>
ob (evLd false 1 v20 h) fun v21 =>
(yc h v21))
 ((y1j7 v1 h))
def y2nv (s : St) : OX := yai (s 1) (s 5) s.h
theorem y252 : T1 y1zw yiu (y1 0 yiu xN) [.t 2] y2nv := fun _ => by kernel_rfl
def y1qc (v1 v4 : AV) (h : Heap) : OX :=
ob (y5 .eql v4 (AV.int .i64 1)) fun v6 =>
cnd v6
 ((yai v1 v6 h))
 (ob (y5 .eql v4 (AV.int .i64 2)) fun v7 =>
cnd v7
 ((yai v1 v7 h))
 (ob (y5 .eql v4 (AV.int .i64 3)) fun v8 =>
cnd v8
 ((yai v1 v8 h))
 (ob (y5 .eql v4 (AV.int .i64 4)) fun v9 =>
cnd v9
 ((yai v1 v9 h))
 (ob (y5 .eql v4 (AV.int .i64 5)) fun v10 =>
cnd v10
 ((yai v1 v10 h))
 (ob (y5 .eql v4 (AV.int .i64 6)) fun v11 =>
cnd v11
 ((yai v1 v11 h))
 (ob (y5 .eql v4 (AV.int .i64 13)) fun v12 =>
cnd v12
 ((yai v1 v12 h))
 (ob (y5 .eql v4 (AV.int .i64 15)) fun v13 =>
cnd v13
 ((yai v1 v13 h))
 (ob (y5 .eql v4 (AV.int .i64 16)) fun v14 =>
cnd v14
 ((yai v1 v14 h))
 (ob (y5 .eql v4 (AV.int .i64 18)) fun v15 =>
cnd v15
 ((yai v1 v15 h))
 (ob (y5 .eql v4 (AV.int .i64 20)) fun v16 =>
cnd v16
 ((yai v1 v16 h))
 (ob (y5 .eql v4 (AV.int .i64 21)) fun v17 =>
cnd v17
 ((yai v1 v17 h))
 (ob (y5 .eql v4 (AV.int .i64 22)) fun v18 =>
cnd v18
 ((yai v1 v18 h))
 (ob (y5 .eql v4 (AV.int .i64 32)) fun v19 =>
(yai v1 v19 h))))))))))))))
def y2ai (s : St) : OX := y1qc (s 1) (s 4) s.h
theorem y25n : T1 y1fk yiu (y1 0 yiu xN) [.t 2] y2ai := sq y252 fun _ => by kernel_rfl
theorem y2a3 : T1 y1kq yiu xN [.t 2] y2ai := fun s => yo.trans (y25n s)
def y1lp (v1 : AV) (h : Heap) : OX :=
ob (evFa 0 v1) fun v3 =>
ob (evLd false 1 v3 h) fun v4 =>
(y1qc v1 v4 h)
def y2bb (s : St) : OX := y1lp (s 1) s.h
theorem y28s : T1 y1ru yiu xN [.t 2] y2bb := sq y2a3 fun _ => by kernel_rfl
theorem y23x : T0 y1mj [.t 2] y2bb := sq y2a9 y28s
def y1sc (v0 : AV) (h : Heap) : OX :=
oh (newC 0 (some 0) (cellsOf v0) h) fun v1 h2 =>
(y1lp v1 h2)
def y2uf (s : St) : OX := y1sc (s 0) s.h
theorem y26h : T0 y1lu [.t 2] y2uf := sq y23x fun _ => by kernel_rfl
@[simp] theorem y2zv : E.pure 9 = true := rfl
theorem y2yu (v0 : AV) : (y8 E).p 9 [v0] = y1sc v0 [⟨0, .dead⟩] :=
  (yz (cf := y2q6) (by kernel_rfl) rfl).trans ((y26h _).trans (by kernel_rfl))
def y0t (v0 : AV) (h : Heap) : OX :=
oh (yw 0 (some 0) 1 0 [(.int .i64 0)] [] h) fun v5 h1 =>
oh (y3h 0 (some 1) 1 8 v5 v0 h1) fun v7 h2 =>
(yc h2 v7)
def y2ec (s : St) : OX := y0t (s 0) s.h
theorem y1iz : T0 y14x [.t 2] y2ec := fun _ => by kernel_rfl
def y1an (v0 : AV) (h : Heap) : OX :=
ob (y3n 1 false v0 AV.nils) fun v4 =>
cnd v4
 ((yc h AV.nils))
 ((y0t v0 h))
def y2h3 (s : St) : OX := y1an (s 0) s.h
theorem y1kv : T0 y17m [.t 2] y2h3 := sq y1iz fun _ => by kernel_rfl
def yzm (v0 : AV) (h : Heap) : OX :=
(y1an v0 h)
def y2fb (s : St) : OX := yzm (s 0) s.h
theorem y1jm : T0 y15t [.t 2] y2fb := sq y1kv fun _ => by kernel_rfl
@[simp] theorem y2xn : E.pure 39 = true := rfl
theorem y2qq (v0 : AV) : (y8 E).p 39 [v0] = yzm v0 [⟨0, .dead⟩, ⟨0, .dead⟩] :=
  (yz (cf := y2aw) (by kernel_rfl) rfl).trans ((y1jm _).trans (by kernel_rfl))
def y0d (v0 : AV) (h : Heap) : OX :=
oh (yw 0 (some 0) 9 0 [(.int .i64 0), (.int .i64 0), (.int .i64 0), (.int .i64 0), (.int .i64 0), (.int .i64 0), (.int .i64 0), (.str []), .nils] [] h) fun v5 h1 =>
oh (y3h 0 (some 1) 9 96 v5 v0 h1) fun v7 h2 =>
(yc h2 v7)
def y2e2 (s : St) : OX := y0d (s 0) s.h
theorem y1wi : T0 yqc [.t 2] y2e2 := fun _ => by kernel_rfl
def y19r (v0 : AV) (h : Heap) : OX :=
ob (y3n 1 false v0 AV.nils) fun v4 =>
cnd v4
 ((yc h AV.nils))
 ((y0d v0 h))
def y2jv (s : St) : OX := y19r (s 0) s.h
theorem y1re : T0 yqd [.t 2] y2jv := sq y1wi fun _ => by kernel_rfl
def y137 (v0 : AV) (h : Heap) : OX :=
(y19r v0 h)
def y2f3 (s : St) : OX := y137 (s 0) s.h
theorem y1sx : T0 yqh [.t 2] y2f3 := sq y1re fun _ => by kernel_rfl
@[simp] theorem y2zd : E.pure 40 = true := rfl
theorem y2sj (v0 : AV) : (y8 E).p 40 [v0] = y137 v0 [⟨0, .dead⟩, ⟨0, .dead⟩] :=
  (yz (cf := y1zp) (by kernel_rfl) rfl).trans ((y1sx _).trans (by kernel_rfl))
def y23 (fb : Nat) (v0 : AV) (h : Heap) : Option (AV × Heap) :=
oh (yw fb (some 0) 9 0 [(.int .i64 0), (.int .i64 0), (.int .i64 0), (.int .i64 0), (.int .i64 0), (.int .i64 0), (.int .i64 0), (.str []), .nils] [] h) fun v5 h1 =>
oh (y3h fb (some 1) 9 96 v5 v0 h1) fun v7 h2 =>
(some (v7, h2))
def y2v (fb : Nat) (s : St) : Option (AV × Heap) := y23 fb (s 0) s.h
theorem y4c (fb : Nat) (s : St) : W E fb yqc s (finI [.t 2]) xN (finI [.t 2]) = y2v fb s :=
  by kernel_rfl
def y22 (fb : Nat) (v0 : AV) (h : Heap) : Option (AV × Heap) :=
ob (y3n 1 false v0 AV.nils) fun v4 =>
cnd v4
 ((some (AV.nils, h)))
 ((y23 fb v0 h))
def y30 (fb : Nat) (s : St) : Option (AV × Heap) := y22 fb (s 0) s.h
theorem y4f (fb : Nat) (s : St) : W E fb yqd s (finI [.t 2]) xN (finI [.t 2]) = y30 fb s :=
  (y8q (k := (y2v fb)) (fun s => y4c fb s)).trans (by kernel_rfl)
def y21 (fb : Nat) (v0 : AV) (h : Heap) : Option (AV × Heap) :=
(y22 fb v0 h)
def y4x (fb : Nat) (s : St) : Option (AV × Heap) := y21 fb (s 0) s.h
theorem y4e (fb : Nat) (s : St) : W E fb yqh s (finI [.t 2]) xN (finI [.t 2]) = y4x fb s :=
  (y8q (k := (y30 fb)) (fun s => y4f fb s)).trans (by kernel_rfl)
theorem y51 (fb : Nat) (v0 : AV) (h : Heap) : (y8 E).i 40 [v0] fb h = y21 fb v0 (if fb = h.length then h ++ yp 2 else h) :=
  (yoy (cf := y1zp) (by kernel_rfl) rfl).trans ((y4e fb _).trans (by kernel_rfl))
def y15h (v0 : AV) (h : Heap) : OX :=
oh (yw 0 (some 0) 4 0 [(.int .i64 0), (.int .i64 0), (.int .i64 0), (.str [])] [] h) fun v5 h1 =>
oh (y3h 0 (some 1) 4 40 v5 v0 h1) fun v7 h2 =>
(yc h2 v7)
def y2k2 (s : St) : OX := y15h (s 0) s.h
theorem y1qx : T0 y1aj [.t 2] y2k2 := fun _ => by kernel_rfl
def yyr (v0 : AV) (h : Heap) : OX :=
ob (y3n 1 false v0 AV.nils) fun v4 =>
cnd v4
 ((yc h AV.nils))
 ((y15h v0 h))
def y2hg (s : St) : OX := yyr (s 0) s.h
theorem y1lz : T0 y14c [.t 2] y2hg := sq y1qx fun _ => by kernel_rfl
def y14t (v0 : AV) (h : Heap) : OX :=
(yyr v0 h)
def y2k6 (s : St) : OX := y14t (s 0) s.h
theorem y1rw : T0 y17b [.t 2] y2k6 := sq y1lz fun _ => by kernel_rfl
@[simp] theorem y2xz : E.pure 41 = true := rfl
theorem y2pu (v0 : AV) : (y8 E).p 41 [v0] = y14t v0 [⟨0, .dead⟩, ⟨0, .dead⟩] :=
  (yz (cf := y2ap) (by kernel_rfl) rfl).trans ((y1rw _).trans (by kernel_rfl))
def yk5 (h : Heap) : OX :=
(yc h (AV.bool true))
def y7v (s : St) : OX := yk5 s.h
theorem y1ku : T0 y19k [.t 4] y7v := fun _ => by kernel_rfl
def ygd (v0 v1 v5 : AV) (h : Heap) : OX :=
  W E 0 yj7 ⟨[(0, v0), (1, v1), (5, v5)], h⟩ y7v (y1 0 y7v xN) (finP [.t 4])
def ybx (s : St) : OX := ygd (s 0) (s 1) (s 5) s.h
theorem yon : T1 yj7 y7v (y1 0 y7v xN) [.t 4] ybx := fun s => ye.trans (by kernel_rfl)
def ykp (v0 v1 v5 : AV) (h : Heap) : OX :=
ob (y5 .add v5 (AV.int .i64 1)) fun v16 =>
(ygd v0 v1 v16 h)
def y2kr (s : St) : OX := ykp (s 0) (s 1) (s 5) s.h
theorem y1r4 : T1 y0e ybx (y1 0 y7v xN) [.t 4] y2kr := fun _ => by kernel_rfl
def yih (v0 v1 v5 : AV) (h : Heap) : OX :=
ob (yi 1 v0 v5) fun v19 =>
ob (evLd false 1 v19 h) fun v20 =>
ob (yi 1 v1 v5) fun v23 =>
ob (evLd false 1 v23 h) fun v24 =>
ob (y5 .neq v20 v24) fun v25 =>
cnd v25
 ((yc h (AV.bool false)))
 ((ykp v0 v1 v5 h))
def y2hs (s : St) : OX := yih (s 0) (s 1) (s 5) s.h
theorem y20b : T1 y16u ybx (y1 0 y7v xN) [.t 4] y2hs := sq y1r4 fun _ => by kernel_rfl
def yil (v0 v1 v5 : AV) (h : Heap) : OX :=
ob (yq 1 v0 h) fun v13 =>
ob (y5 .lss v5 v13) fun v14 =>
cnd v14
 ((yih v0 v1 v5 h))
 ((yk5 h))
def y2kk (s : St) : OX := yil (s 0) (s 1) (s 5) s.h
theorem y1yv : T1 yzl ybx (y1 0 y7v xN) [.t 4] y2kk := sq y20b fun _ => by kernel_rfl
theorem yno (v0 v1 v5 : AV) (h : Heap) : ygd v0 v1 v5 h = (yil v0 v1 v5 h) :=
  y19.trans ((y12 _ _ _ (n' := ybx) (fun s => yon s)).trans ((y1yv _).trans (by kernel_rfl)))
theorem y1st : T1 yyn y7v xN [.t 4] ybx := fun s => yo.trans (yon s)
def yl4 (v0 v1 : AV) (h : Heap) : OX :=
(ygd v0 v1 (AV.int .i64 0) h)
def y1uo (s : St) : OX := yl4 (s 0) (s 1) s.h
theorem y1fb : T1 y16j y7v xN [.t 4] y1uo := sq y1st fun _ => by kernel_rfl
theorem y1wg : T0 y1aa [.t 4] y1uo := sq y1ku y1fb
def yi6 (v0 v1 : AV) (h : Heap) : OX :=
ob (yq 1 v0 h) fun v7 =>
ob (yq 1 v1 h) fun v9 =>
ob (y5 .neq v7 v9) fun v10 =>
cnd v10
 ((yc h (AV.bool false)))
 ((yl4 v0 v1 h))
def y2jo (s : St) : OX := yi6 (s 0) (s 1) s.h
theorem y1tq : T0 y179 [.t 4] y2jo := sq y1wg fun _ => by kernel_rfl
def ydb (v0 v1 : AV) (h : Heap) : OX :=
(yi6 v0 v1 h)
def y23z (s : St) : OX := ydb (s 0) (s 1) s.h
theorem y1d2 : T0 yv5 [.t 4] y23z := sq y1tq fun _ => by kernel_rfl
@[simp] theorem y2vp : E.pure 11 = true := rfl
theorem y2pa (v0 v1 : AV) : (y8 E).p 11 [v0, v1] = ydb v0 v1 [] :=
  (yz (cf := y2cg) (by kernel_rfl) rfl).trans ((y1d2 _).trans (by kernel_rfl))
def yb3 (v0 v1 : AV) (h : Heap) : OX :=
oh (newC 0 (some 0) (cellsOf v0) h) fun v2 h1 =>
oh (newC 0 (some 1) (cellsOf v1) h1) fun v3 h2 =>
ob (evFa 0 v2) fun v5 =>
ob (evLd false 1 v5 h2) fun v6 =>
ob (evFa 0 v3) fun v7 =>
ob (evLd false 1 v7 h2) fun v8 =>
ob (y5 .eql v6 v8) fun v9 =>
gb v9 true (evFa 1 v2) fun v11 =>
gb v9 true (evLd false 1 v11 h2) fun v12 =>
gb v9 true (evFa 1 v3) fun v13 =>
gb v9 true (evLd false 1 v13 h2) fun v14 =>
gb v9 true (y5 .eql v12 v14) fun v15 =>
ob (yb v9 v15 (AV.bool false)) fun v16 =>
gb v16 true (evFa 2 v2) fun v18 =>
gb v16 true (evLd false 1 v18 h2) fun v19 =>
gb v16 true (evFa 2 v3) fun v20 =>
gb v16 true (evLd false 1 v20 h2) fun v21 =>
gb v16 true (y5 .eql v19 v21) fun v22 =>
ob (yb v16 v22 (AV.bool false)) fun v23 =>
gb v23 true (evFa 3 v2) fun v25 =>
gb v23 true (evLd false 1 v25 h2) fun v26 =>
gb v23 true (evFa 3 v3) fun v27 =>
gb v23 true (evLd false 1 v27 h2) fun v28 =>
gb v23 true (y5 .eql v26 v28) fun v29 =>
ob (yb v23 v29 (AV.bool false)) fun v30 =>
gb v30 true (evFa 4 v2) fun v32 =>
gb v30 true (evLd false 1 v32 h2) fun v33 =>
gb v30 true (evFa 4 v3) fun v34 =>
gb v30 true (evLd false 1 v34 h2) fun v35 =>
gb v30 true (y5 .eql v33 v35) fun v36 =>
ob (yb v30 v36 (AV.bool false)) fun v37 =>
gb v37 true (evFa 5 v2) fun v39 =>
gb v37 true (evLd false 1 v39 h2) fun v40 =>
gb v37 true (evFa 5 v3) fun v41 =>
gb v37 true (evLd false 1 v41 h2) fun v42 =>
gb v37 true (y5 .eql v40 v42) fun v43 =>
ob (yb v37 v43 (AV.bool false)) fun v44 =>
gb v44 true (evFa 6 v2) fun v46 =>
gb v44 true (evLd false 1 v46 h2) fun v47 =>
gb v44 true (evFa 6 v3) fun v48 =>
gb v44 true (evLd false 1 v48 h2) fun v49 =>
gb v44 true (y5 .eql v47 v49) fun v50 =>
ob (yb v44 v50 (AV.bool false)) fun v51 =>
gb v51 true (evFa 7 v2) fun v53 =>
gb v51 true (evLd false 1 v53 h2) fun v54 =>
gb v51 true (evFa 7 v3) fun v55 =>
gb v51 true (evLd false 1 v55 h2) fun v56 =>
gb v51 true (y5 .eql v54 v56) fun v57 =>
ob (yb v51 v57 (AV.bool false)) fun v58 =>
gb v58 true (evFa 8 v2) fun v60 =>
gb v58 true (evLd false 1 v60 h2) fun v61 =>
gb v58 true (evFa 8 v3) fun v62 =>
gb v58 true (evLd false 1 v62 h2) fun v63 =>
gh v58 true (y7 E (y8 E) 0 none true 11 [v61, v63] h2) h2 fun v64 h3 =>
ob (yb v58 v64 (AV.bool false)) fun v65 =>
(yc h3 v65)
def y2h0 (s : St) : OX := yb3 (s 0) (s 1) s.h
theorem y1wz : T0 y1al [.t 4] y2h0 := fun _ => by kernel_rfl
@[simp] theorem y2yi : E.pure 28 = true := rfl
theorem y2r9 (v0 v1 : AV) : (y8 E).p 28 [v0, v1] = yb3 v0 v1 [⟨0, .dead⟩, ⟨0, .dead⟩] :=
  (yz (cf := y2b6) (by kernel_rfl) rfl).trans ((y1wz _).trans (by kernel_rfl))
def y2mr (v0 : AV) (h : Heap) : OX :=
oh (newC 0 (some 0) (cellsOf v0) h) fun v1 h1 =>
ob (evFa 0 v1) fun v3 =>
ob (evLd false 1 v3 h1) fun v4 =>
ob (y5 .eql v4 (AV.int .i64 27)) fun v5 =>
gb v5 false (evFa 0 v1) fun v7 =>
gb v5 false (evLd false 1 v7 h1) fun v8 =>
gb v5 false (y5 .eql v8 (AV.int .i64 30)) fun v9 =>
ob (yb v5 (AV.bool true) v9) fun v10 =>
gb v10 false (evFa 0 v1) fun v12 =>
gb v10 false (evLd false 1 v12 h1) fun v13 =>
gb v10 false (y5 .eql v13 (AV.int .i64 31)) fun v14 =>
ob (yb v10 (AV.bool true) v14) fun v15 =>
(yc h1 v15)
def y2no (s : St) : OX := y2mr (s 0) s.h
theorem y2a7 : T0 y1jq [.t 2] y2no := fun _ => by kernel_rfl
@[simp] theorem y2zm : E.pure 24 = true := rfl
theorem y2vs (v0 : AV) : (y8 E).p 24 [v0] = y2mr v0 [⟨0, .dead⟩] :=
  (yz (cf := y2r4) (by kernel_rfl) rfl).trans ((y2a7 _).trans (by kernel_rfl))
def y15p (v0 v1 : AV) (h : Heap) : OX :=
oh (y7 E (y8 E) 0 none true 45 [v0, v1] h) fun v7 h1 =>
ob (y5 .geq v7 (AV.int .i64 0)) fun v8 =>
(yc h1 v8)
def y2eu (s : St) : OX := y15p (s 0) (s 1) s.h
theorem y1ys : T0 y00 [.t 4] y2eu := fun _ => by kernel_rfl
@[simp] theorem y2xv : E.pure 46 = true := rfl
theorem y2tv (v0 v1 : AV) : (y8 E).p 46 [v0, v1] = y15p v0 v1 [] :=
  (yz (cf := y2ak) (by kernel_rfl) rfl).trans ((y1ys _).trans (by kernel_rfl))
def y1y5 (v2 v3 : AV) (h : Heap) : OX :=
ob (evLd true 9 v3 h) fun v183 =>
oh (y7 E (y8 E) 0 none true 22 [v183] h) fun v184 h1 =>
ob (evUn .not v184) fun v185 =>
gb v185 false (evFa 6 v3) fun v187 =>
gb v185 false (evLd false 1 v187 h1) fun v188 =>
gb v185 false (y5 .geq v188 (AV.int .i64 0)) fun v189 =>
gb v185 false (some v189) fun v190 =>
gb v190 true (evFa 6 v3) fun v191 =>
gb v190 true (evLd false 1 v191 h1) fun v192 =>
gb v190 true (evFa 3 v2) fun v193 =>
gb v190 true (evLd false 1 v193 h1) fun v194 =>
gb v190 true (yq 1 v194 h1) fun v195 =>
gb v190 true (y5 .lss v192 v195) fun v196 =>
gb v185 false (yb v190 v196 (AV.bool false)) fun v197 =>
ob (yb v185 (AV.bool true) v197) fun v198 =>
(yc h1 v198)
def y2th (s : St) : OX := y1y5 (s 2) (s 3) s.h
theorem y27f : T0 y1z2 [.t 4] y2th := fun _ => by kernel_rfl
def yak (v2 v3 : AV) (h : Heap) : OX :=
ob (evFa 0 v3) fun v105 =>
ob (evLd false 1 v105 h) fun v106 =>
ob (y5 .eql v106 (AV.int .i64 1)) fun v108 =>
cnd v108
 (ob (evFa 0 v2) fun v109 =>
ob (evLd false 1 v109 h) fun v110 =>
ob (evFa 1 v3) fun v111 =>
ob (evLd false 1 v111 h) fun v112 =>
ob (yi 1 v110 v112) fun v113 =>
ob (evLd false 1 v113 h) fun v114 =>
ob (y5 .neq v114 (AV.int .i64 3)) fun v115 =>
gb v115 true (evFa 0 v2) fun v117 =>
gb v115 true (evLd false 1 v117 h) fun v118 =>
gb v115 true (evFa 1 v3) fun v119 =>
gb v115 true (evLd false 1 v119 h) fun v120 =>
gb v115 true (yi 1 v118 v120) fun v121 =>
gb v115 true (evLd false 1 v121 h) fun v122 =>
gb v115 true (y5 .eql v122 (AV.int .i64 2)) fun v123 =>
gb v115 true (some v123) fun v124 =>
gb v124 false (evFa 5 v3) fun v125 =>
gb v124 false (evLd false 1 v125 h) fun v126 =>
gb v124 false (evFa 5 v3) fun v127 =>
gb v124 false (evLd false 1 v127 h) fun v128 =>
gb v124 false (yco .i32 v128) fun v129 =>
gb v124 false (yco .i64 v129) fun v130 =>
gb v124 false (y5 .eql v126 v130) fun v131 =>
gb v115 true (yb v124 (AV.bool true) v131) fun v132 =>
ob (yb v115 v132 (AV.bool false)) fun v133 =>
(yc h v133))
 (ob (y5 .eql v106 (AV.int .i64 4)) fun v135 =>
cnd v135
 (ob (evFa 0 v2) fun v136 =>
ob (evLd false 1 v136 h) fun v137 =>
ob (evFa 1 v3) fun v138 =>
ob (evLd false 1 v138 h) fun v139 =>
ob (yi 1 v137 v139) fun v140 =>
ob (evLd false 1 v140 h) fun v141 =>
ob (evFa 0 v2) fun v142 =>
ob (evLd false 1 v142 h) fun v143 =>
ob (evFa 2 v3) fun v144 =>
ob (evLd false 1 v144 h) fun v145 =>
ob (yi 1 v143 v145) fun v146 =>
ob (evLd false 1 v146 h) fun v147 =>
ob (y5 .eql v141 v147) fun v148 =>
(yc h v148))
 (ob (y5 .eql v106 (AV.int .i64 7)) fun v150 =>
cnd v150
 (ob (evFa 0 v2) fun v151 =>
ob (evLd false 1 v151 h) fun v152 =>
ob (evFa 2 v3) fun v153 =>
ob (evLd false 1 v153 h) fun v154 =>
ob (yi 1 v152 v154) fun v155 =>
ob (evLd false 1 v155 h) fun v156 =>
ob (y5 .neq v156 (AV.int .i64 3)) fun v157 =>
(yc h v157))
 (ob (y5 .eql v106 (AV.int .i64 30)) fun v159 =>
cnd v159
 (ob (evFa 2 v3) fun v160 =>
ob (evLd false 1 v160 h) fun v161 =>
ob (y5 .eql v161 (AV.int .i64 (-1))) fun v162 =>
ob (evFa 2 v2) fun v163 =>
ob (evLd false 1 v163 h) fun v164 =>
ob (y5 .eql v164 (AV.int .i64 0)) fun v165 =>
ob (y29b false v162 v165) fun v166 =>
gb v166 true (evFa 2 v3) fun v168 =>
gb v166 true (evLd false 1 v168 h) fun v169 =>
gb v166 true (y5 .eql v169 (AV.int .i64 (-1))) fun v170 =>
gb v166 true (some v170) fun v171 =>
gb v171 false (evFa 0 v2) fun v172 =>
gb v171 false (evLd false 1 v172 h) fun v173 =>
gb v171 false (evFa 2 v3) fun v174 =>
gb v171 false (evLd false 1 v174 h) fun v175 =>
gb v171 false (yi 1 v173 v175) fun v176 =>
gb v171 false (evLd false 1 v176 h) fun v177 =>
gb v171 false (evFa 2 v2) fun v178 =>
gb v171 false (evLd false 1 v178 h) fun v179 =>
gb v171 false (y5 .eql v177 v179) fun v180 =>
gb v166 true (yb v171 (AV.bool true) v180) fun v181 =>
ob (yb v166 v181 (AV.bool false)) fun v182 =>
(yc h v182))
 ((y1y5 v2 v3 h)))))
def y74 (s : St) : OX := yak (s 2) (s 3) s.h
theorem y26s : T0 y1oc [.t 4] y74 := sq y27f fun _ => by kernel_rfl
def yit (v2 v3 v63 v64 v65 : AV) (h : Heap) : OX :=
  W E 0 yp4 ⟨[(2, v2), (3, v3), (63, v63), (64, v64), (65, v65)], h⟩ y74 (y1 2 y74 xN) (finP [.t 4])
def ydw (s : St) : OX := yit (s 2) (s 3) (s 63) (s 64) (s 65) s.h
theorem yro : T1 yp4 y74 (y1 2 y74 xN) [.t 4] ydw := fun s => ye.trans (by kernel_rfl)
def y1ow (v2 v3 v63 v64 v65 : AV) (h : Heap) : OX :=
ob (y5 .add v65 (AV.int .i64 1)) fun v104 =>
(yit v2 v3 v63 v64 v104 h)
def yh0 (s : St) : OX := y1ow (s 2) (s 3) (s 63) (s 64) (s 65) s.h
theorem y29c : T1 y1tx ydw (y1 2 y74 xN) [.t 4] yh0 := fun _ => by kernel_rfl
def yl7 (v2 v3 v9 v10 v63 v64 v65 : AV) (h : Heap) : OX :=
ob (y5 .lss v10 (AV.int .i64 0)) fun v74 =>
gb v74 false (some v10) fun v76 =>
gb v74 false (evFa 0 v2) fun v77 =>
gb v74 false (evLd false 1 v77 h) fun v78 =>
gb v74 false (yq 1 v78 h) fun v79 =>
gb v74 false (y5 .geq v76 v79) fun v80 =>
ob (yb v74 (AV.bool true) v80) fun v81 =>
gb v81 false (some v9) fun v83 =>
gb v81 false (y5 .eql v83 (AV.int .i64 0)) fun v84 =>
gb v81 false (some v84) fun v85 =>
gb v85 true (evFa 0 v3) fun v86 =>
gb v85 true (evLd false 1 v86 h) fun v87 =>
gb v85 true (y5 .eql v87 (AV.int .i64 24)) fun v88 =>
gb v85 true (some v88) fun v89 =>
gb v89 false (evFa 0 v3) fun v90 =>
gb v89 false (evLd false 1 v90 h) fun v91 =>
gb v89 false (y5 .eql v91 (AV.int .i64 25)) fun v92 =>
gb v85 true (yb v89 (AV.bool true) v92) fun v93 =>
gb v81 false (yb v85 v93 (AV.bool false)) fun v94 =>
gb v81 false (some v94) fun v95 =>
gb v95 true (evFa 0 v2) fun v96 =>
gb v95 true (evLd false 1 v96 h) fun v97 =>
gb v95 true (some v10) fun v98 =>
gb v95 true (yi 1 v97 v98) fun v99 =>
gb v95 true (evLd false 1 v99 h) fun v100 =>
gb v95 true (y5 .neq v100 (AV.int .i64 3)) fun v101 =>
gb v81 false (yb v95 v101 (AV.bool false)) fun v102 =>
ob (yb v81 (AV.bool true) v102) fun v103 =>
cnd v103
 ((yc h (AV.bool false)))
 ((y1ow v2 v3 v63 v64 v65 h))
def y2s6 (s : St) : OX := yl7 (s 2) (s 3) (s 9) (s 10) (s 63) (s 64) (s 65) s.h
theorem y296 : T1 y1wb yh0 (y1 3 yh0 (y1 2 y74 xN)) [.t 4] y2s6 := fun _ => by kernel_rfl
def y1iw (v2 v3 v9 v10 v63 v64 v65 : AV) (h : Heap) : OX :=
ob (evLd true 9 v3 h) fun v70 =>
oh (y7 E (y8 E) 0 none true 17 [v70] h) fun v71 h2 =>
ob (evUn .not v71) fun v72 =>
cnd v72
 ((yak v2 v3 h2))
 ((yl7 v2 v3 v9 v10 v63 v64 v65 h2))
def y2p7 (s : St) : OX := y1iw (s 2) (s 3) (s 9) (s 10) (s 63) (s 64) (s 65) s.h
theorem y281 : T1 y1g4 yh0 (y1 3 yh0 (y1 2 y74 xN)) [.t 4] y2p7 := sq y296 fun _ => by kernel_rfl
def y1l8 (v2 v3 v63 v64 v65 : AV) (h : Heap) : OX :=
ob (yi 1 v63 v65) fun v68 =>
ob (evLd false 1 v68 h) fun v69 =>
(y1iw v2 v3 v65 v69 v63 v64 v65 h)
def y1yr (s : St) : OX := y1l8 (s 2) (s 3) (s 63) (s 64) (s 65) s.h
theorem y28q : T1 y1s1 yh0 (y1 3 yh0 (y1 2 y74 xN)) [.t 4] y1yr := sq y281 fun _ => by kernel_rfl
theorem y27z : T1 y1qy yh0 (y1 2 y74 xN) [.t 4] y1yr := fun s => yo.trans (y28q s)
theorem y22u : T1 y1xv ydw (y1 2 y74 xN) [.t 4] y1yr := sq y29c y27z
def yir (v2 v3 v63 v64 v65 v66 : AV) (h : Heap) : OX :=
cnd v66
 ((y1l8 v2 v3 v63 v64 v65 h))
 ((yak v2 v3 h))
def y2dn (s : St) : OX := yir (s 2) (s 3) (s 63) (s 64) (s 65) (s 66) s.h
theorem y1js : T1 y15z ydw (y1 2 y74 xN) [.t 4] y2dn := sq y22u fun _ => by kernel_rfl
def ykg (v2 v3 v63 v64 v65 : AV) (h : Heap) : OX :=
ob (y5 .lss v65 v64) fun v66 =>
(yir v2 v3 v63 v64 v65 v66 h)
def y2jz (s : St) : OX := ykg (s 2) (s 3) (s 63) (s 64) (s 65) s.h
theorem y1v4 : T1 y0r ydw (y1 2 y74 xN) [.t 4] y2jz := sq y1js fun _ => by kernel_rfl
theorem yk7 (v2 v3 v63 v64 v65 : AV) (h : Heap) : yit v2 v3 v63 v64 v65 h = (ykg v2 v3 v63 v64 v65 h) :=
  y19.trans ((y12 _ _ _ (n' := ydw) (fun s => yro s)).trans ((y1v4 _).trans (by kernel_rfl)))
theorem y1z7 : T1 y13o y74 xN [.t 4] ydw := fun s => yo.trans (yro s)
def yv2 (v2 v3 : AV) (h : Heap) : OX :=
ob (evFa 8 v3) fun v62 =>
ob (evLd false 1 v62 h) fun v63 =>
ob (yq 1 v63 h) fun v64 =>
(yit v2 v3 v63 v64 (AV.int .i64 0) h)
def y49 (s : St) : OX := yv2 (s 2) (s 3) s.h
theorem y1ye : T1 yz7 y74 xN [.t 4] y49 := sq y1z7 fun _ => by kernel_rfl
theorem y1n4 : T0 y11n [.t 4] y49 := sq y26s y1ye
def ydo (v2 v3 v5 v26 v27 : AV) (h : Heap) : OX :=
  W E 0 yks ⟨[(2, v2), (3, v3), (5, v5), (26, v26), (27, v27)], h⟩ y49 (y1 0 y49 xN) (finP [.t 4])
def y8k (s : St) : OX := ydo (s 2) (s 3) (s 5) (s 26) (s 27) s.h
theorem yom : T1 yks y49 (y1 0 y49 xN) [.t 4] y8k := fun s => ye.trans (by kernel_rfl)
def yqs (v2 v3 v5 v26 v27 : AV) (h : Heap) : OX :=
ob (y5 .add v27 (AV.int .i64 1)) fun v61 =>
(ydo v2 v3 v5 v26 v61 h)
def yb5 (s : St) : OX := yqs (s 2) (s 3) (s 5) (s 26) (s 27) s.h
theorem y1x1 : T1 y0q y8k (y1 0 y49 xN) [.t 4] yb5 := fun _ => by kernel_rfl
def yie (v2 v3 v5 v7 v8 v26 v27 : AV) (h : Heap) : OX :=
ob (y5 .lss v8 (AV.int .i64 0)) fun v36 =>
gb v36 false (some v8) fun v38 =>
gb v36 false (evFa 0 v2) fun v39 =>
gb v36 false (evLd false 1 v39 h) fun v40 =>
gb v36 false (yq 1 v40 h) fun v41 =>
gb v36 false (y5 .geq v38 v41) fun v42 =>
ob (yb v36 (AV.bool true) v42) fun v43 =>
gb v43 false (some v7) fun v45 =>
gb v43 false (ypa 4 1 v5 v45) fun v46 =>
gb v43 false (evLd false 1 v46 h) fun v47 =>
gb v43 false (y5 .gtr v47 (AV.int .i64 0)) fun v48 =>
gb v43 false (some v48) fun v49 =>
gb v49 true (evFa 0 v2) fun v50 =>
gb v49 true (evLd false 1 v50 h) fun v51 =>
gb v49 true (some v8) fun v52 =>
gb v49 true (yi 1 v51 v52) fun v53 =>
gb v49 true (evLd false 1 v53 h) fun v54 =>
gb v49 true (some v7) fun v55 =>
gb v49 true (ypa 4 1 v5 v55) fun v56 =>
gb v49 true (evLd false 1 v56 h) fun v57 =>
gb v49 true (y5 .neq v54 v57) fun v58 =>
gb v43 false (yb v49 v58 (AV.bool false)) fun v59 =>
ob (yb v43 (AV.bool true) v59) fun v60 =>
cnd v60
 ((yc h (AV.bool false)))
 ((yqs v2 v3 v5 v26 v27 h))
def y2ib (s : St) : OX := yie (s 2) (s 3) (s 5) (s 7) (s 8) (s 26) (s 27) s.h
theorem y1p8 : T1 y15i yb5 (y1 1 yb5 (y1 0 y49 xN)) [.t 4] y2ib := fun _ => by kernel_rfl
def yfi (v2 v3 v5 v7 v8 v26 v27 : AV) (h : Heap) : OX :=
ob (ypa 4 1 v5 v7) fun v32 =>
ob (evLd false 1 v32 h) fun v33 =>
ob (y5 .lss v33 (AV.int .i64 0)) fun v34 =>
cnd v34
 ((yqs v2 v3 v5 v26 v27 h))
 ((yie v2 v3 v5 v7 v8 v26 v27 h))
def y2l9 (s : St) : OX := yfi (s 2) (s 3) (s 5) (s 7) (s 8) (s 26) (s 27) s.h
theorem y1kc : T1 y13w yb5 (y1 1 yb5 (y1 0 y49 xN)) [.t 4] y2l9 := sq y1p8 fun _ => by kernel_rfl
def y1gn (v2 v3 v5 v26 v27 : AV) (h : Heap) : OX :=
ob (yps false 4 1 v26 v27) fun v30 =>
(yfi v2 v3 v5 v27 v30 v26 v27 h)
def yyc (s : St) : OX := y1gn (s 2) (s 3) (s 5) (s 26) (s 27) s.h
theorem y1tg : T1 y17a yb5 (y1 1 yb5 (y1 0 y49 xN)) [.t 4] yyc := sq y1kc fun _ => by kernel_rfl
theorem y1sj : T1 y114 yb5 (y1 0 y49 xN) [.t 4] yyc := fun s => yo.trans (y1tg s)
theorem y1l2 : T1 y11a y8k (y1 0 y49 xN) [.t 4] yyc := sq y1x1 y1sj
def yzv (v2 v3 v5 v26 v27 v28 : AV) (h : Heap) : OX :=
cnd v28
 ((y1gn v2 v3 v5 v26 v27 h))
 ((yv2 v2 v3 h))
def y2l3 (s : St) : OX := yzv (s 2) (s 3) (s 5) (s 26) (s 27) (s 28) s.h
theorem y1x6 : T1 y18k y8k (y1 0 y49 xN) [.t 4] y2l3 := sq y1l2 fun _ => by kernel_rfl
def y05 (v2 v3 v5 v26 v27 : AV) (h : Heap) : OX :=
ob (y5 .lss v27 (AV.int .i64 4)) fun v28 =>
(yzv v2 v3 v5 v26 v27 v28 h)
def y2dm (s : St) : OX := y05 (s 2) (s 3) (s 5) (s 26) (s 27) s.h
theorem y1xu : T1 y11o y8k (y1 0 y49 xN) [.t 4] y2dm := sq y1x6 fun _ => by kernel_rfl
theorem yov (v2 v3 v5 v26 v27 : AV) (h : Heap) : ydo v2 v3 v5 v26 v27 h = (y05 v2 v3 v5 v26 v27 h) :=
  y19.trans ((y12 _ _ _ (n' := y8k) (fun s => yom s)).trans ((y1xu _).trans (by kernel_rfl)))
theorem y1sw : T1 y19t y49 xN [.t 4] y8k := fun s => yo.trans (yom s)
def y1k1 (v2 v3 v5 : AV) (h : Heap) : OX :=
ob (evFa 1 v3) fun v18 =>
ob (evLd false 1 v18 h) fun v19 =>
ob (evFa 2 v3) fun v20 =>
ob (evLd false 1 v20 h) fun v21 =>
ob (evFa 3 v3) fun v22 =>
ob (evLd false 1 v22 h) fun v23 =>
ob (evFa 4 v3) fun v24 =>
ob (evLd false 1 v24 h) fun v25 =>
ob (y1i [(.int .i64 0), (.int .i64 0), (.int .i64 0), (.int .i64 0)] [(0, 1, v19), (1, 1, v21), (2, 1, v23), (3, 1, v25)]) fun v26 =>
(ydo v2 v3 v5 v26 (AV.int .i64 0) h)
def y1j3 (s : St) : OX := y1k1 (s 2) (s 3) (s 5) s.h
theorem y1pa : T1 y06 y49 xN [.t 4] y1j3 := sq y1sw fun _ => by kernel_rfl
theorem y1i4 : T0 yz5 [.t 4] y1j3 := sq y1n4 y1pa
def y16k (v2 v3 v5 v6 : AV) (h : Heap) : OX :=
ob (evUn .not v6) fun v17 =>
cnd v17
 ((yc h (AV.bool false)))
 ((y1k1 v2 v3 v5 h))
def y2ff (s : St) : OX := y16k (s 2) (s 3) (s 5) (s 6) s.h
theorem y1uc : T0 y13k [.t 4] y2ff := sq y1i4 fun _ => by kernel_rfl
def yyk (v2 v3 : AV) (h : Heap) : OX :=
ob (evLd true 9 v3 h) fun v12 =>
oh (y7 E (y8 E) 0 none true 47 [v12] h) fun v13 h3 =>
ob (y5r 0 v13) fun v14 =>
ob (y5r 1 v13) fun v15 =>
oh (newC 0 (some 2) [(.int .i64 0), (.int .i64 0), (.int .i64 0), (.int .i64 0)] h3) fun v5 h4 =>
oh (evSt 4 v5 v14 h4) fun _ h5 =>
(y16k v2 v3 v5 v15 h5)
def y2gp (s : St) : OX := yyk (s 2) (s 3) s.h
theorem y1u7 : T0 y17j [.t 4] y2gp := sq y1uc fun _ => by kernel_rfl
def yrl (v0 v1 : AV) (h : Heap) : OX :=
oh (newC 0 (some 0) (cellsOf v0) h) fun v2 h6 =>
oh (newC 0 (some 1) (cellsOf v1) h6) fun v3 h7 =>
(yyk v2 v3 h7)
def y2gr (s : St) : OX := yrl (s 0) (s 1) s.h
theorem y1uf : T0 y16h [.t 4] y2gr := sq y1u7 fun _ => by kernel_rfl
@[simp] theorem y2zq : E.pure 63 = true := rfl
theorem y2zh (v0 v1 : AV) : (y8 E).p 63 [v0, v1] = yrl v0 v1 [⟨0, .dead⟩, ⟨0, .dead⟩, ⟨0, .dead⟩] :=
  (yz (cf := y2q3) (by kernel_rfl) rfl).trans ((y1uf _).trans (by kernel_rfl))
def y2ez (v0 : AV) (h : Heap) : OX :=
oh (newC 0 (some 0) (cellsOf v0) h) fun v1 h1 =>
ob (evFa 0 v1) fun v3 =>
ob (evLd false 1 v3 h1) fun v4 =>
ob (y5 .eql v4 (AV.int .i64 27)) fun v5 =>
gb v5 false (evFa 0 v1) fun v7 =>
gb v5 false (evLd false 1 v7 h1) fun v8 =>
gb v5 false (y5 .eql v8 (AV.int .i64 28)) fun v9 =>
ob (yb v5 (AV.bool true) v9) fun v10 =>
gb v10 false (evFa 0 v1) fun v12 =>
gb v10 false (evLd false 1 v12 h1) fun v13 =>
gb v10 false (y5 .eql v13 (AV.int .i64 29)) fun v14 =>
ob (yb v10 (AV.bool true) v14) fun v15 =>
(yc h1 v15)
def y2pt (s : St) : OX := y2ez (s 0) s.h
theorem y23v : T0 y1u2 [.t 2] y2pt := fun _ => by kernel_rfl
@[simp] theorem y2vw : E.pure 22 = true := rfl
theorem y2xd (v0 : AV) : (y8 E).p 22 [v0] = y2ez v0 [⟨0, .dead⟩] :=
  (yz (cf := y2ug) (by kernel_rfl) rfl).trans ((y23v _).trans (by kernel_rfl))
def y1zf (v5 : AV) (h : Heap) : OX :=
(yc h v5)
def y6b (s : St) : OX := y1zf (s 5) s.h
theorem y260 : T0 y1xo [.t 4] y6b := fun _ => by kernel_rfl
def yvq (v1 v5 v27 v28 v29 : AV) (h : Heap) : OX :=
  W E 0 yph ⟨[(1, v1), (5, v5), (27, v27), (28, v28), (29, v29)], h⟩ y6b (y1 0 y6b xN) (finP [.t 4])
def ydt (s : St) : OX := yvq (s 1) (s 5) (s 27) (s 28) (s 29) s.h
theorem yr7 : T1 yph y6b (y1 0 y6b xN) [.t 4] ydt := fun s => ye.trans (by kernel_rfl)
def y1do (v1 v5 v27 v28 v29 : AV) (h : Heap) : OX :=
ob (y5 .add v29 (AV.int .i64 1)) fun v56 =>
(yvq v1 v5 v27 v28 v56 h)
def yd0 (s : St) : OX := y1do (s 1) (s 5) (s 27) (s 28) (s 29) s.h
theorem y218 : T1 y1ue ydt (y1 0 y6b xN) [.t 4] yd0 := fun _ => by kernel_rfl
def y1b0 (v1 v5 v7 v27 v28 v29 : AV) (h : Heap) : OX :=
ob (evFa 3 v7) fun v53 =>
ob (evLd false 1 v53 h) fun v54 =>
ob (y5 .eql v54 (AV.str [])) fun v55 =>
cnd v55
 ((y1zf v5 h))
 ((y1do v1 v5 v27 v28 v29 h))
def y2qz (s : St) : OX := y1b0 (s 1) (s 5) (s 7) (s 27) (s 28) (s 29) s.h
theorem y23h : T1 y1h3 yd0 (y1 1 yd0 (y1 0 y6b xN)) [.t 4] y2qz := fun _ => by kernel_rfl
def y20w (v1 v5 v7 v27 v28 v29 : AV) (h : Heap) : OX :=
ob (evFa 2 v7) fun v44 =>
ob (evLd false 1 v44 h) fun v45 =>
oh (y7 E (y8 E) 0 none true 46 [v5, v45] h) fun v46 h1 =>
ob (evUn .not v46) fun v47 =>
cnd v47
 (ob (evFa 2 v7) fun v49 =>
ob (evLd false 1 v49 h1) fun v50 =>
oh (yw 0 (some 2) 1 1 [(.int .i64 0)] [(0, v50)] h1) fun v51 h2 =>
oh (y3h 0 (some 3) 1 8 v5 v51 h2) fun v52 h3 =>
(y1b0 v1 v52 v7 v27 v28 v29 h3))
 ((y1b0 v1 v5 v7 v27 v28 v29 h1))
def y2o9 (s : St) : OX := y20w (s 1) (s 5) (s 7) (s 27) (s 28) (s 29) s.h
theorem y28a : T1 y1k7 yd0 (y1 1 yd0 (y1 0 y6b xN)) [.t 4] y2o9 := sq y23h fun _ => by kernel_rfl
def yyb (v1 v5 v7 v27 v28 v29 : AV) (h : Heap) : OX :=
ob (evFa 0 v7) fun v34 =>
ob (evLd false 1 v34 h) fun v35 =>
ob (y5 .lss v1 v35) fun v36 =>
gb v36 false (some v1) fun v38 =>
gb v36 false (evFa 1 v7) fun v39 =>
gb v36 false (evLd false 1 v39 h) fun v40 =>
gb v36 false (y5 .geq v38 v40) fun v41 =>
ob (yb v36 (AV.bool true) v41) fun v42 =>
cnd v42
 ((y1do v1 v5 v27 v28 v29 h))
 ((y20w v1 v5 v7 v27 v28 v29 h))
def y2oz (s : St) : OX := yyb (s 1) (s 5) (s 7) (s 27) (s 28) (s 29) s.h
theorem y25x : T1 y1vv yd0 (y1 1 yd0 (y1 0 y6b xN)) [.t 4] y2oz := sq y28a fun _ => by kernel_rfl
def y2dp (v1 v5 v27 v28 v29 : AV) (h : Heap) : OX :=
ob (yi 4 v27 v29) fun v31 =>
ob (evLd true 4 v31 h) fun v32 =>
oh (newC 0 (some 1) [(.int .i64 0), (.int .i64 0), (.int .i64 0), (.str [])] h) fun v7 h4 =>
oh (evSt 4 v7 v32 h4) fun _ h5 =>
(yyb v1 v5 v7 v27 v28 v29 h5)
def y1lk (s : St) : OX := y2dp (s 1) (s 5) (s 27) (s 28) (s 29) s.h
theorem y26y : T1 y1te yd0 (y1 1 yd0 (y1 0 y6b xN)) [.t 4] y1lk := sq y25x fun _ => by kernel_rfl
theorem y24y : T1 y1yq yd0 (y1 0 y6b xN) [.t 4] y1lk := fun s => yo.trans (y26y s)
theorem y26c : T1 y1u1 ydt (y1 0 y6b xN) [.t 4] y1lk := sq y218 y24y
def y0v (v1 v5 v27 v28 v29 v30 : AV) (h : Heap) : OX :=
cnd v30
 ((y2dp v1 v5 v27 v28 v29 h))
 ((y1zf v5 h))
def y2g1 (s : St) : OX := y0v (s 1) (s 5) (s 27) (s 28) (s 29) (s 30) s.h
theorem y1gu : T1 y17c ydt (y1 0 y6b xN) [.t 4] y2g1 := sq y26c fun _ => by kernel_rfl
def ysy (v1 v5 v27 v28 v29 : AV) (h : Heap) : OX :=
ob (y5 .lss v29 v28) fun v30 =>
(y0v v1 v5 v27 v28 v29 v30 h)
def y2dw (s : St) : OX := ysy (s 1) (s 5) (s 27) (s 28) (s 29) s.h
theorem y1v7 : T1 y0p ydt (y1 0 y6b xN) [.t 4] y2dw := sq y1gu fun _ => by kernel_rfl
theorem ysb (v1 v5 v27 v28 v29 : AV) (h : Heap) : yvq v1 v5 v27 v28 v29 h = (ysy v1 v5 v27 v28 v29 h) :=
  y19.trans ((y12 _ _ _ (n' := ydt) (fun s => yr7 s)).trans ((y1v7 _).trans (by kernel_rfl)))
theorem y209 : T1 y174 y6b xN [.t 4] ydt := fun s => yo.trans (yr7 s)
def y1ok (v1 v2 v5 : AV) (h : Heap) : OX :=
ob (evFa 4 v2) fun v26 =>
ob (evLd false 1 v26 h) fun v27 =>
ob (yq 1 v27 h) fun v28 =>
(yvq v1 v5 v27 v28 (AV.int .i64 0) h)
def y1ez (s : St) : OX := y1ok (s 1) (s 2) (s 5) s.h
theorem y1jc : T1 y19q y6b xN [.t 4] y1ez := sq y209 fun _ => by kernel_rfl
theorem y1qh : T0 y1a1 [.t 4] y1ez := sq y260 y1jc
def y1zv (v1 v2 : AV) (h : Heap) : OX :=
(y1ok v1 v2 AV.nils h)
def y2m3 (s : St) : OX := y1zv (s 1) (s 2) s.h
theorem y1y0 : T0 y19x [.t 4] y2m3 := sq y1qh fun _ => by kernel_rfl
def ymn (v1 v2 : AV) (h : Heap) : OX :=
ob (y5 .lss v1 (AV.int .i64 0)) fun v9 =>
gb v9 false (some v1) fun v11 =>
gb v9 false (evFa 3 v2) fun v12 =>
gb v9 false (evLd false 1 v12 h) fun v13 =>
gb v9 false (yq 1 v13 h) fun v14 =>
gb v9 false (y5 .geq v11 v14) fun v15 =>
ob (yb v9 (AV.bool true) v15) fun v16 =>
gb v16 false (evFa 3 v2) fun v18 =>
gb v16 false (evLd false 1 v18 h) fun v19 =>
gb v16 false (some v1) fun v20 =>
gb v16 false (yi 9 v19 v20) fun v21 =>
gb v16 false (evLd true 9 v21 h) fun v22 =>
gh v16 false (y7 E (y8 E) 0 none true 18 [v22] h) h fun v23 h6 =>
gb v16 false (evUn .not v23) fun v24 =>
ob (yb v16 (AV.bool true) v24) fun v25 =>
cnd v25
 ((yc h6 AV.nils))
 ((y1zv v1 v2 h6))
def y2g8 (s : St) : OX := ymn (s 1) (s 2) s.h
theorem y1nd : T0 y115 [.t 4] y2g8 := sq y1y0 fun _ => by kernel_rfl
def you (v0 v1 : AV) (h : Heap) : OX :=
oh (newC 0 (some 0) (cellsOf v0) h) fun v2 h7 =>
(ymn v1 v2 h7)
def y2gb (s : St) : OX := you (s 0) (s 1) s.h
theorem y1mg : T0 y14g [.t 4] y2gb := sq y1nd fun _ => by kernel_rfl
@[simp] theorem y2z1 : E.pure 79 = true := rfl
theorem y2vz (v0 v1 : AV) : (y8 E).p 79 [v0, v1] = you v0 v1 [⟨0, .dead⟩, ⟨0, .dead⟩, ⟨0, .dead⟩, ⟨0, .dead⟩] :=
  (yz (cf := y2po) (by kernel_rfl) rfl).trans ((y1mg _).trans (by kernel_rfl))
def yls (v6 : AV) (h : Heap) : OX :=
(yc h v6)
def y2ri (s : St) : OX := yls (s 6) s.h
theorem y299 : T0 y1ip [.t 4] y2ri := fun _ => by kernel_rfl
def yle (v5 v6 : AV) (h : Heap) : OX :=
ob (evLd true 9 v5 h) fun v29 =>
oh (y7 E (y8 E) 0 none true 22 [v29] h) fun v30 h1 =>
gb v30 true (some v6) fun v32 =>
gb v30 true (evFa 6 v5) fun v33 =>
gb v30 true (evLd false 1 v33 h1) fun v34 =>
gh v30 true (y7 E (y8 E) 0 none true 46 [v32, v34] h1) h1 fun v35 h2 =>
gb v30 true (evUn .not v35) fun v36 =>
ob (yb v30 v36 (AV.bool false)) fun v37 =>
cnd v37
 (ob (evFa 6 v5) fun v39 =>
ob (evLd false 1 v39 h2) fun v40 =>
oh (yw 0 (some 4) 1 1 [(.int .i64 0)] [(0, v40)] h2) fun v41 h3 =>
oh (y3h 0 (some 5) 1 8 v6 v41 h3) fun v42 h4 =>
(yls v42 h4))
 ((yls v6 h2))
def y2pn (s : St) : OX := yle (s 5) (s 6) s.h
theorem y278 : T0 y1hz [.t 4] y2pn := sq y299 fun _ => by kernel_rfl
def ylr (v1 v5 v6 : AV) (h : Heap) : OX :=
ob (evLd true 9 v5 h) fun v21 =>
oh (y7 E (y8 E) 0 none true 24 [v21] h) fun v22 h5 =>
ob (evUn .not v22) fun v23 =>
cnd v23
 (ob (y5 .add v1 (AV.int .i64 1)) fun v26 =>
oh (yw 0 (some 2) 1 1 [(.int .i64 0)] [(0, v26)] h5) fun v27 h6 =>
oh (y3h 0 (some 3) 1 8 v6 v27 h6) fun v28 h7 =>
(yle v5 v28 h7))
 ((yle v5 v6 h5))
def y2q9 (s : St) : OX := ylr (s 1) (s 5) (s 6) s.h
theorem y28z : T0 y1mq [.t 4] y2q9 := sq y278 fun _ => by kernel_rfl
def y1pi (v1 v5 : AV) (h : Heap) : OX :=
(ylr v1 v5 AV.nils h)
def y2oo (s : St) : OX := y1pi (s 1) (s 5) s.h
theorem y23s : T0 y1k2 [.t 4] y2oo := sq y28z fun _ => by kernel_rfl
def y1kf (v1 v2 : AV) (h : Heap) : OX :=
ob (evFa 3 v2) fun v16 =>
ob (evLd false 1 v16 h) fun v17 =>
ob (yi 9 v17 v1) fun v19 =>
ob (evLd true 9 v19 h) fun v20 =>
oh (newC 0 (some 1) [(.int .i64 0), (.int .i64 0), (.int .i64 0), (.int .i64 0), (.int .i64 0), (.int .i64 0), (.int .i64 0), (.str []), .nils] h) fun v5 h8 =>
oh (evSt 9 v5 v20 h8) fun _ h9 =>
(y1pi v1 v5 h9)
def y2tj (s : St) : OX := y1kf (s 1) (s 2) s.h
theorem y271 : T0 y1z3 [.t 4] y2tj := sq y23s fun _ => by kernel_rfl
def y1m5 (v1 v2 : AV) (h : Heap) : OX :=
ob (y5 .lss v1 (AV.int .i64 0)) fun v8 =>
gb v8 false (some v1) fun v10 =>
gb v8 false (evFa 3 v2) fun v11 =>
gb v8 false (evLd false 1 v11 h) fun v12 =>
gb v8 false (yq 1 v12 h) fun v13 =>
gb v8 false (y5 .geq v10 v13) fun v14 =>
ob (yb v8 (AV.bool true) v14) fun v15 =>
cnd v15
 ((yc h AV.nils))
 ((y1kf v1 v2 h))
def y2rm (s : St) : OX := y1m5 (s 1) (s 2) s.h
theorem y214 : T0 y1ib [.t 4] y2rm := sq y271 fun _ => by kernel_rfl
def y1bc (v0 v1 : AV) (h : Heap) : OX :=
oh (newC 0 (some 0) (cellsOf v0) h) fun v2 h10 =>
(y1m5 v1 v2 h10)
def y2ud (s : St) : OX := y1bc (s 0) (s 1) s.h
theorem y290 : T0 y1ry [.t 4] y2ud := sq y214 fun _ => by kernel_rfl
@[simp] theorem y2xw : E.pure 81 = true := rfl
theorem y2vo (v0 v1 : AV) : (y8 E).p 81 [v0, v1] = y1bc v0 v1 [⟨0, .dead⟩, ⟨0, .dead⟩, ⟨0, .dead⟩, ⟨0, .dead⟩, ⟨0, .dead⟩, ⟨0, .dead⟩] :=
  (yz (cf := y2o6) (by kernel_rfl) rfl).trans ((y290 _).trans (by kernel_rfl))
def y2ex (v10 : AV) (h : Heap) : OX :=
(yc h v10)
def yau (s : St) : OX := y2ex (s 10) s.h
theorem y21p : T0 y1nv [.t 2] yau := fun _ => by kernel_rfl
def yw1 (v3 v10 v96 v97 : AV) (h : Heap) : OX :=
  W E 0 ypw ⟨[(3, v3), (10, v10), (96, v96), (97, v97)], h⟩ yau (y1 6 yau xN) (finP [.t 2])
def ydi (s : St) : OX := yw1 (s 3) (s 10) (s 96) (s 97) s.h
theorem ytb : T1 ypw yau (y1 6 yau xN) [.t 2] ydi := fun s => ye.trans (by kernel_rfl)
def y1w4 (v3 v10 v96 v97 : AV) (h : Heap) : OX :=
ob (y5 .add v97 (AV.int .i64 1)) fun v108 =>
(yw1 v3 v10 v96 v108 h)
def y2tg (s : St) : OX := y1w4 (s 3) (s 10) (s 96) (s 97) s.h
theorem y274 : T1 y1ya ydi (y1 6 yau xN) [.t 2] y2tg := fun _ => by kernel_rfl
def y27u (v3 v10 v96 v97 : AV) (h : Heap) : OX :=
ob (yi 1 v3 v97) fun v102 =>
ob (evLd false 1 v102 h) fun v103 =>
cnd v103
 (oh (yw 0 (some 5) 1 1 [(.int .i64 0)] [(0, v97)] h) fun v106 h1 =>
oh (y3h 0 (some 6) 1 8 v10 v106 h1) fun v107 h2 =>
(y1w4 v3 v107 v96 v97 h2))
 ((y1w4 v3 v10 v96 v97 h))
def y2st (s : St) : OX := y27u (s 3) (s 10) (s 96) (s 97) s.h
theorem y21x : T1 y1fr ydi (y1 6 yau xN) [.t 2] y2st := sq y274 fun _ => by kernel_rfl
def y1hd (v3 v10 v96 v97 v98 : AV) (h : Heap) : OX :=
cnd v98
 ((y27u v3 v10 v96 v97 h))
 ((y2ex v10 h))
def y2sk (s : St) : OX := y1hd (s 3) (s 10) (s 96) (s 97) (s 98) s.h
theorem y279 : T1 y1o0 ydi (y1 6 yau xN) [.t 2] y2sk := sq y21x fun _ => by kernel_rfl
def y1tp (v3 v10 v96 v97 : AV) (h : Heap) : OX :=
ob (y5 .lss v97 v96) fun v98 =>
(y1hd v3 v10 v96 v97 v98 h)
def y2s0 (s : St) : OX := y1tp (s 3) (s 10) (s 96) (s 97) s.h
theorem y25t : T1 y1rn ydi (y1 6 yau xN) [.t 2] y2s0 := sq y279 fun _ => by kernel_rfl
theorem yvy (v3 v10 v96 v97 : AV) (h : Heap) : yw1 v3 v10 v96 v97 h = (y1tp v3 v10 v96 v97 h) :=
  y19.trans ((y12 _ _ _ (n' := ydi) (fun s => ytb s)).trans ((y25t _).trans (by kernel_rfl)))
theorem y255 : T1 y1pp yau xN [.t 2] ydi := fun s => yo.trans (ytb s)
def y2l1 (v1 v3 v10 : AV) (h : Heap) : OX :=
ob (evFa 3 v1) fun v94 =>
ob (evLd false 1 v94 h) fun v95 =>
ob (yq 1 v95 h) fun v96 =>
(yw1 v3 v10 v96 (AV.int .i64 0) h)
def y2c9 (s : St) : OX := y2l1 (s 1) (s 3) (s 10) s.h
theorem y24a : T1 y1kd yau xN [.t 2] y2c9 := sq y255 fun _ => by kernel_rfl
theorem y244 : T0 y1nc [.t 2] y2c9 := sq y21p y24a
def ynn (v1 v3 : AV) (h : Heap) : OX :=
(y2l1 v1 v3 AV.nils h)
def y39 (s : St) : OX := ynn (s 1) (s 3) s.h
theorem y1lj : T0 y196 [.t 2] y39 := sq y244 fun _ => by kernel_rfl
def yjw (v1 v3 v62 v63 v64 : AV) (h : Heap) : OX :=
  W E 0 yis ⟨[(1, v1), (3, v3), (62, v62), (63, v63), (64, v64)], h⟩ y39 (y1 2 y39 xN) (finP [.t 2])
def y8g (s : St) : OX := yjw (s 1) (s 3) (s 62) (s 63) (s 64) s.h
theorem yoc : T1 yis y39 (y1 2 y39 xN) [.t 2] y8g := fun s => ye.trans (by kernel_rfl)
def yzw (v1 v3 v62 v63 v64 : AV) (h : Heap) : OX :=
ob (y5 .add v64 (AV.int .i64 1)) fun v93 =>
(yjw v1 v3 v62 v63 v93 h)
def y31 (s : St) : OX := yzw (s 1) (s 3) (s 62) (s 63) (s 64) s.h
theorem y1sq : T1 y17f y8g (y1 2 y39 xN) [.t 2] y31 := fun _ => by kernel_rfl
def ygm (v1 v3 v62 v63 v64 v74 v75 v76 : AV) (h : Heap) : OX :=
  W E 0 yjz ⟨[(1, v1), (3, v3), (62, v62), (63, v63), (64, v64), (74, v74), (75, v75), (76, v76)], h⟩ y31 (y1 4 y31 (y1 3 y31 (y1 2 y39 xN))) (finP [.t 2])
def y93 (s : St) : OX := ygm (s 1) (s 3) (s 62) (s 63) (s 64) (s 74) (s 75) (s 76) s.h
theorem yoj : T1 yjz y31 (y1 4 y31 (y1 3 y31 (y1 2 y39 xN))) [.t 2] y93 := fun s => ye.trans (by kernel_rfl)
def yor (v1 v3 v62 v63 v64 v74 v75 v76 : AV) (h : Heap) : OX :=
ob (y5 .add v76 (AV.int .i64 1)) fun v92 =>
(ygm v1 v3 v62 v63 v64 v74 v75 v92 h)
def y2mg (s : St) : OX := yor (s 1) (s 3) (s 62) (s 63) (s 64) (s 74) (s 75) (s 76) s.h
theorem y1lq : T1 y152 y93 (y1 4 y31 (y1 3 y31 (y1 2 y39 xN))) [.t 2] y2mg := fun _ => by kernel_rfl
def ytr (v1 v3 v62 v63 v64 v74 v75 v76 : AV) (h : Heap) : OX :=
ob (yi 1 v74 v76) fun v78 =>
ob (evLd false 1 v78 h) fun v79 =>
ob (y5 .geq v79 (AV.int .i64 0)) fun v81 =>
gb v81 true (some v79) fun v83 =>
gb v81 true (evFa 3 v1) fun v84 =>
gb v81 true (evLd false 1 v84 h) fun v85 =>
gb v81 true (yq 1 v85 h) fun v86 =>
gb v81 true (y5 .lss v83 v86) fun v87 =>
ob (yb v81 v87 (AV.bool false)) fun v88 =>
cnd v88
 (ob (yi 1 v3 v79) fun v91 =>
oh (evSt 1 v91 (AV.bool true) h) fun _ h3 =>
(yor v1 v3 v62 v63 v64 v74 v75 v76 h3))
 ((yor v1 v3 v62 v63 v64 v74 v75 v76 h))
def y2ju (s : St) : OX := ytr (s 1) (s 3) (s 62) (s 63) (s 64) (s 74) (s 75) (s 76) s.h
theorem y1rc : T1 y0h y93 (y1 4 y31 (y1 3 y31 (y1 2 y39 xN))) [.t 2] y2ju := sq y1lq fun _ => by kernel_rfl
def ylz (v1 v3 v62 v63 v64 v74 v75 v76 v77 : AV) (h : Heap) : OX :=
cnd v77
 ((ytr v1 v3 v62 v63 v64 v74 v75 v76 h))
 ((yzw v1 v3 v62 v63 v64 h))
def y2fq (s : St) : OX := ylz (s 1) (s 3) (s 62) (s 63) (s 64) (s 74) (s 75) (s 76) (s 77) s.h
theorem y1ud : T1 y14k y93 (y1 4 y31 (y1 3 y31 (y1 2 y39 xN))) [.t 2] y2fq := sq y1rc fun _ => by kernel_rfl
def yo9 (v1 v3 v62 v63 v64 v74 v75 v76 : AV) (h : Heap) : OX :=
ob (y5 .lss v76 v75) fun v77 =>
(ylz v1 v3 v62 v63 v64 v74 v75 v76 v77 h)
def y2e4 (s : St) : OX := yo9 (s 1) (s 3) (s 62) (s 63) (s 64) (s 74) (s 75) (s 76) s.h
theorem y1j8 : T1 y19p y93 (y1 4 y31 (y1 3 y31 (y1 2 y39 xN))) [.t 2] y2e4 := sq y1ud fun _ => by kernel_rfl
theorem ymu (v1 v3 v62 v63 v64 v74 v75 v76 : AV) (h : Heap) : ygm v1 v3 v62 v63 v64 v74 v75 v76 h = (yo9 v1 v3 v62 v63 v64 v74 v75 v76 h) :=
  y19.trans ((y12 _ _ _ (n' := y93) (fun s => yoj s)).trans ((y1j8 _).trans (by kernel_rfl)))
theorem y1s4 : T1 y18x y31 (y1 3 y31 (y1 2 y39 xN)) [.t 2] y93 := fun s => yo.trans (yoj s)
def y1uv (v1 v3 v7 v62 v63 v64 : AV) (h : Heap) : OX :=
ob (evFa 0 v7) fun v68 =>
ob (evLd false 1 v68 h) fun v69 =>
ob (evFa 1 v7) fun v70 =>
ob (evLd false 1 v70 h) fun v71 =>
ob (evFa 2 v7) fun v72 =>
ob (evLd false 1 v72 h) fun v73 =>
oh (yw 0 (some 4) 1 3 [(.int .i64 0)] [(0, v69), (1, v71), (2, v73)] h) fun v74 h4 =>
ob (yq 1 v74 h4) fun v75 =>
(ygm v1 v3 v62 v63 v64 v74 v75 (AV.int .i64 0) h4)
def y2lh (s : St) : OX := y1uv (s 1) (s 3) (s 7) (s 62) (s 63) (s 64) s.h
theorem y1g9 : T1 y16o y31 (y1 3 y31 (y1 2 y39 xN)) [.t 2] y2lh := sq y1s4 fun _ => by kernel_rfl
def y1oy (v1 v3 v62 v63 v64 : AV) (h : Heap) : OX :=
ob (yi 4 v62 v64) fun v66 =>
ob (evLd true 4 v66 h) fun v67 =>
oh (newC 0 (some 3) [(.int .i64 0), (.int .i64 0), (.int .i64 0), (.str [])] h) fun v7 h5 =>
oh (evSt 4 v7 v67 h5) fun _ h6 =>
(y1uv v1 v3 v7 v62 v63 v64 h6)
def yxz (s : St) : OX := y1oy (s 1) (s 3) (s 62) (s 63) (s 64) s.h
theorem y1oa : T1 y12m y31 (y1 3 y31 (y1 2 y39 xN)) [.t 2] yxz := sq y1g9 fun _ => by kernel_rfl
theorem y1we : T1 yzt y31 (y1 2 y39 xN) [.t 2] yxz := fun s => yo.trans (y1oa s)
theorem y1yc : T1 y14m y8g (y1 2 y39 xN) [.t 2] yxz := sq y1sq y1we
def y15g (v1 v3 v62 v63 v64 v65 : AV) (h : Heap) : OX :=
cnd v65
 ((y1oy v1 v3 v62 v63 v64 h))
 ((ynn v1 v3 h))
def y2h4 (s : St) : OX := y15g (s 1) (s 3) (s 62) (s 63) (s 64) (s 65) s.h
theorem y1vx : T1 yyp y8g (y1 2 y39 xN) [.t 2] y2h4 := sq y1yc fun _ => by kernel_rfl
def yvg (v1 v3 v62 v63 v64 : AV) (h : Heap) : OX :=
ob (y5 .lss v64 v63) fun v65 =>
(y15g v1 v3 v62 v63 v64 v65 h)
def y2le (s : St) : OX := yvg (s 1) (s 3) (s 62) (s 63) (s 64) s.h
theorem y1go : T1 y145 y8g (y1 2 y39 xN) [.t 2] y2le := sq y1vx fun _ => by kernel_rfl
theorem yow (v1 v3 v62 v63 v64 : AV) (h : Heap) : yjw v1 v3 v62 v63 v64 h = (yvg v1 v3 v62 v63 v64 h) :=
  y19.trans ((y12 _ _ _ (n' := y8g) (fun s => yoc s)).trans ((y1go _).trans (by kernel_rfl)))
theorem y1xk : T1 y12s y39 xN [.t 2] y8g := fun s => yo.trans (yoc s)
def yse (v1 v3 : AV) (h : Heap) : OX :=
ob (evFa 4 v1) fun v61 =>
ob (evLd false 1 v61 h) fun v62 =>
ob (yq 1 v62 h) fun v63 =>
(yjw v1 v3 v62 v63 (AV.int .i64 0) h)
def y48 (s : St) : OX := yse (s 1) (s 3) s.h
theorem y1vz : T1 y12p y39 xN [.t 2] y48 := sq y1xk fun _ => by kernel_rfl
theorem y1hf : T0 yzb [.t 2] y48 := sq y1lj y1vz
def yib (v1 v3 v24 v25 v26 : AV) (h : Heap) : OX :=
  W E 0 yld ⟨[(1, v1), (3, v3), (24, v24), (25, v25), (26, v26)], h⟩ y48 (y1 0 y48 xN) (finP [.t 2])
def y8z (s : St) : OX := yib (s 1) (s 3) (s 24) (s 25) (s 26) s.h
theorem ymg : T1 yld y48 (y1 0 y48 xN) [.t 2] y8z := fun s => ye.trans (by kernel_rfl)
def yti (v1 v3 v24 v25 v26 : AV) (h : Heap) : OX :=
ob (y5 .add v26 (AV.int .i64 1)) fun v60 =>
(yib v1 v3 v24 v25 v60 h)
def yao (s : St) : OX := yti (s 1) (s 3) (s 24) (s 25) (s 26) s.h
theorem y1yj : T1 y16f y8z (y1 0 y48 xN) [.t 2] yao := fun _ => by kernel_rfl
def yng (v1 v3 v4 v5 v24 v25 v26 : AV) (h : Heap) : OX :=
ob (evLd true 9 v5 h) fun v50 =>
oh (y7 E (y8 E) 0 none true 22 [v50] h) fun v51 h7 =>
gb v51 false (evLd true 9 v5 h7) fun v53 =>
gh v51 false (y7 E (y8 E) 0 none true 24 [v53] h7) h7 fun v54 h8 =>
ob (yb v51 (AV.bool true) v54) fun v55 =>
cnd v55
 (ob (y5 .add v4 (AV.int .i64 1)) fun v58 =>
ob (yi 1 v3 v58) fun v59 =>
oh (evSt 1 v59 (AV.bool true) h8) fun _ h9 =>
(yti v1 v3 v24 v25 v26 h9))
 ((yti v1 v3 v24 v25 v26 h8))
def y2ml (s : St) : OX := yng (s 1) (s 3) (s 4) (s 5) (s 24) (s 25) (s 26) s.h
theorem y1uh : T1 yzr yao (y1 1 yao (y1 0 y48 xN)) [.t 2] y2ml := fun _ => by kernel_rfl
def yh1 (v1 v3 v4 v5 v24 v25 v26 : AV) (h : Heap) : OX :=
ob (evLd true 9 v5 h) fun v31 =>
oh (y7 E (y8 E) 0 none true 22 [v31] h) fun v32 h10 =>
gb v32 true (evFa 6 v5) fun v34 =>
gb v32 true (evLd false 1 v34 h10) fun v35 =>
gb v32 true (y5 .geq v35 (AV.int .i64 0)) fun v36 =>
ob (yb v32 v36 (AV.bool false)) fun v37 =>
gb v37 true (evFa 6 v5) fun v39 =>
gb v37 true (evLd false 1 v39 h10) fun v40 =>
gb v37 true (evFa 3 v1) fun v41 =>
gb v37 true (evLd false 1 v41 h10) fun v42 =>
gb v37 true (yq 1 v42 h10) fun v43 =>
gb v37 true (y5 .lss v40 v43) fun v44 =>
ob (yb v37 v44 (AV.bool false)) fun v45 =>
cnd v45
 (ob (evFa 6 v5) fun v47 =>
ob (evLd false 1 v47 h10) fun v48 =>
ob (yi 1 v3 v48) fun v49 =>
oh (evSt 1 v49 (AV.bool true) h10) fun _ h11 =>
(yng v1 v3 v4 v5 v24 v25 v26 h11))
 ((yng v1 v3 v4 v5 v24 v25 v26 h10))
def y2dj (s : St) : OX := yh1 (s 1) (s 3) (s 4) (s 5) (s 24) (s 25) (s 26) s.h
theorem y1om : T1 y12k yao (y1 1 yao (y1 0 y48 xN)) [.t 2] y2dj := sq y1uh fun _ => by kernel_rfl
def y1g0 (v1 v3 v24 v25 v26 : AV) (h : Heap) : OX :=
ob (yi 9 v24 v26) fun v29 =>
ob (evLd true 9 v29 h) fun v30 =>
oh (newC 0 (some 2) [(.int .i64 0), (.int .i64 0), (.int .i64 0), (.int .i64 0), (.int .i64 0), (.int .i64 0), (.int .i64 0), (.str []), .nils] h) fun v5 h12 =>
oh (evSt 9 v5 v30 h12) fun _ h13 =>
(yh1 v1 v3 v26 v5 v24 v25 v26 h13)
def yx8 (s : St) : OX := y1g0 (s 1) (s 3) (s 24) (s 25) (s 26) s.h
theorem y1or : T1 yzy yao (y1 1 yao (y1 0 y48 xN)) [.t 2] yx8 := sq y1om fun _ => by kernel_rfl
theorem y1p5 : T1 y11z yao (y1 0 y48 xN) [.t 2] yx8 := fun s => yo.trans (y1or s)
theorem y1yw : T1 y1a7 y8z (y1 0 y48 xN) [.t 2] yx8 := sq y1yj y1p5
def y1ak (v1 v3 v24 v25 v26 v27 : AV) (h : Heap) : OX :=
cnd v27
 ((y1g0 v1 v3 v24 v25 v26 h))
 ((yse v1 v3 h))
def y2i9 (s : St) : OX := y1ak (s 1) (s 3) (s 24) (s 25) (s 26) (s 27) s.h
theorem y1jj : T1 y12w y8z (y1 0 y48 xN) [.t 2] y2i9 := sq y1yw fun _ => by kernel_rfl
def yvr (v1 v3 v24 v25 v26 : AV) (h : Heap) : OX :=
ob (y5 .lss v26 v25) fun v27 =>
(y1ak v1 v3 v24 v25 v26 v27 h)
def y2l4 (s : St) : OX := yvr (s 1) (s 3) (s 24) (s 25) (s 26) s.h
theorem y1oh : T1 y16l y8z (y1 0 y48 xN) [.t 2] y2l4 := sq y1jj fun _ => by kernel_rfl
theorem ymd (v1 v3 v24 v25 v26 : AV) (h : Heap) : yib v1 v3 v24 v25 v26 h = (yvr v1 v3 v24 v25 v26 h) :=
  y19.trans ((y12 _ _ _ (n' := y8z) (fun s => ymg s)).trans ((y1oh _).trans (by kernel_rfl)))
theorem y1kb : T1 y16a y48 xN [.t 2] y8z := fun s => yo.trans (ymg s)
def yw0 (v1 v3 : AV) (h : Heap) : OX :=
ob (evFa 3 v1) fun v23 =>
ob (evLd false 1 v23 h) fun v24 =>
ob (yq 1 v24 h) fun v25 =>
(yib v1 v3 v24 v25 (AV.int .i64 0) h)
def y1m9 (s : St) : OX := yw0 (s 1) (s 3) s.h
theorem y1r8 : T1 y14s y48 xN [.t 2] y1m9 := sq y1kb fun _ => by kernel_rfl
theorem y1i0 : T0 y16z [.t 2] y1m9 := sq y1hf y1r8
def yvd (v1 v3 : AV) (h : Heap) : OX :=
ob (evFa 3 v1) fun v17 =>
ob (evLd false 1 v17 h) fun v18 =>
ob (yq 1 v18 h) fun v19 =>
ob (y5 .gtr v19 (AV.int .i64 0)) fun v20 =>
cnd v20
 (ob (yi 1 v3 (AV.int .i64 0)) fun v22 =>
oh (evSt 1 v22 (AV.bool true) h) fun _ h14 =>
(yw0 v1 v3 h14))
 ((yw0 v1 v3 h))
def y2kg (s : St) : OX := yvd (s 1) (s 3) s.h
theorem y1kw : T0 y164 [.t 2] y2kg := sq y1i0 fun _ => by kernel_rfl
def y1hh (v1 : AV) (h : Heap) : OX :=
ob (evFa 3 v1) fun v12 =>
ob (evLd false 1 v12 h) fun v13 =>
ob (yq 1 v13 h) fun v14 =>
ob (y5 .add v14 (AV.int .i64 1)) fun v15 =>
oh (mkSC 0 (some 1) 1 1 [(.bool false)] v15 v15 h) fun v16 h15 =>
(yvd v1 v16 h15)
def y2hk (s : St) : OX := y1hh (s 1) s.h
theorem y202 : T0 y156 [.t 2] y2hk := sq y1kw fun _ => by kernel_rfl
def y130 (v0 : AV) (h : Heap) : OX :=
oh (newC 0 (some 0) (cellsOf v0) h) fun v1 h16 =>
(y1hh v1 h16)
def y2f5 (s : St) : OX := y130 (s 0) s.h
theorem y1mx : T0 y18w [.t 2] y2f5 := sq y202 fun _ => by kernel_rfl
@[simp] theorem y2uu : E.pure 102 = true := rfl
theorem y2wa (v0 : AV) : (y8 E).p 102 [v0] = y130 v0 [⟨0, .dead⟩, ⟨0, .dead⟩, ⟨0, .dead⟩, ⟨0, .dead⟩, ⟨0, .dead⟩, ⟨0, .dead⟩, ⟨0, .dead⟩] :=
  (yz (cf := y2qe) (by kernel_rfl) rfl).trans ((y1mx _).trans (by kernel_rfl))
def y1gv (v0 : AV) (h : Heap) : OX :=
oh (yw 0 (some 0) 1 3 [(.int .i64 0)] [(0, (AV.int .i64 27)), (1, (AV.int .i64 30)), (2, (AV.int .i64 31))] h) fun v4 h1 =>
oh (y7 E (y8 E) 0 none true 42 [v0, v4] h1) fun v5 h2 =>
(yc h2 v5)
def y2lo (s : St) : OX := y1gv (s 0) s.h
theorem y1ta : T0 y11e [.t 2] y2lo := fun _ => by kernel_rfl
@[simp] theorem y2ye : E.pure 25 = true := rfl
theorem y2oe (v0 : AV) : (y8 E).p 25 [v0] = y1gv v0 [⟨0, .dead⟩] :=
  (yz (cf := y2ck) (by kernel_rfl) rfl).trans ((y1ta _).trans (by kernel_rfl))
def yrp (v1 v2 : AV) (h : Heap) : OX :=
ob (evFa 0 v2) fun v14 =>
ob (evLd false 1 v14 h) fun v15 =>
ob (yi 1 v15 v1) fun v17 =>
ob (evLd false 1 v17 h) fun v18 =>
(yc h v18)
def y2ih (s : St) : OX := yrp (s 1) (s 2) s.h
theorem y1gq : T0 yzq [.t 4] y2ih := fun _ => by kernel_rfl
def yrr (v1 v2 : AV) (h : Heap) : OX :=
ob (y5 .lss v1 (AV.int .i64 0)) fun v6 =>
gb v6 false (some v1) fun v8 =>
gb v6 false (evFa 0 v2) fun v9 =>
gb v6 false (evLd false 1 v9 h) fun v10 =>
gb v6 false (yq 1 v10 h) fun v11 =>
gb v6 false (y5 .geq v8 v11) fun v12 =>
ob (yb v6 (AV.bool true) v12) fun v13 =>
cnd v13
 ((yc h (AV.int .i64 0)))
 ((yrp v1 v2 h))
def y2iw (s : St) : OX := yrr (s 1) (s 2) s.h
theorem y1kx : T0 y146 [.t 4] y2iw := sq y1gq fun _ => by kernel_rfl
def yuu (v0 v1 : AV) (h : Heap) : OX :=
oh (newC 0 (some 0) (cellsOf v0) h) fun v2 h1 =>
(yrr v1 v2 h1)
def y2mu (s : St) : OX := yuu (s 0) (s 1) s.h
theorem y1sh : T0 y18i [.t 4] y2mu := sq y1kx fun _ => by kernel_rfl
@[simp] theorem y2wz : E.pure 48 = true := rfl
theorem y2qs (v0 v1 : AV) : (y8 E).p 48 [v0, v1] = yuu v0 v1 [⟨0, .dead⟩] :=
  (yz (cf := y2cn) (by kernel_rfl) rfl).trans ((y1sh _).trans (by kernel_rfl))
def ymp (h : Heap) : OX :=
(yc h (AV.bool false))
def y7j (s : St) : OX := ymp s.h
theorem y1pj : T0 y0z [.t 4] y7j := fun _ => by kernel_rfl
def yla (v0 v1 v5 : AV) (h : Heap) : OX :=
  W E 0 yj3 ⟨[(0, v0), (1, v1), (5, v5)], h⟩ y7j (y1 0 y7j xN) (finP [.t 4])
def yc1 (s : St) : OX := yla (s 0) (s 1) (s 5) s.h
theorem yob : T1 yj3 y7j (y1 0 y7j xN) [.t 4] yc1 := fun s => ye.trans (by kernel_rfl)
def ymf (v0 v1 v5 : AV) (h : Heap) : OX :=
ob (y5 .add v5 (AV.int .i64 1)) fun v11 =>
(yla v0 v1 v11 h)
def y2fz (s : St) : OX := ymf (s 0) (s 1) (s 5) s.h
theorem y1nx : T1 y1a5 yc1 (y1 0 y7j xN) [.t 4] y2fz := fun _ => by kernel_rfl
def ynd (v0 v1 v5 : AV) (h : Heap) : OX :=
ob (yi 1 v1 v5) fun v14 =>
ob (evLd false 1 v14 h) fun v15 =>
ob (y5 .eql v15 v0) fun v17 =>
cnd v17
 ((yc h (AV.bool true)))
 ((ymf v0 v1 v5 h))
def y2gv (s : St) : OX := ynd (s 0) (s 1) (s 5) s.h
theorem y1z5 : T1 y182 yc1 (y1 0 y7j xN) [.t 4] y2gv := sq y1nx fun _ => by kernel_rfl
def ymx (v0 v1 v5 : AV) (h : Heap) : OX :=
ob (yq 1 v1 h) fun v8 =>
ob (y5 .lss v5 v8) fun v9 =>
cnd v9
 ((ynd v0 v1 v5 h))
 ((ymp h))
def y2kj (s : St) : OX := ymx (s 0) (s 1) (s 5) s.h
theorem y1u0 : T1 y11j yc1 (y1 0 y7j xN) [.t 4] y2kj := sq y1z5 fun _ => by kernel_rfl
theorem yo6 (v0 v1 v5 : AV) (h : Heap) : yla v0 v1 v5 h = (ymx v0 v1 v5 h) :=
  y19.trans ((y12 _ _ _ (n' := yc1) (fun s => yob s)).trans ((y1u0 _).trans (by kernel_rfl)))
theorem y1yg : T1 y11v y7j xN [.t 4] yc1 := fun s => yo.trans (yob s)
def ylw (v0 v1 : AV) (h : Heap) : OX :=
(yla v0 v1 (AV.int .i64 0) h)
def y1ne (s : St) : OX := ylw (s 0) (s 1) s.h
theorem y1ot : T1 y176 y7j xN [.t 4] y1ne := sq y1yg fun _ => by kernel_rfl
theorem y1q2 : T0 y17z [.t 4] y1ne := sq y1pj y1ot
def ymv (v0 v1 : AV) (h : Heap) : OX :=
(ylw v0 v1 h)
def y2dx (s : St) : OX := ymv (s 0) (s 1) s.h
theorem y1m7 : T0 y18e [.t 4] y2dx := sq y1q2 fun _ => by kernel_rfl
@[simp] theorem y2zg : E.pure 42 = true := rfl
theorem y2nl (v0 v1 : AV) : (y8 E).p 42 [v0, v1] = ymv v0 v1 [] :=
  (yz (cf := y2bs) (by kernel_rfl) rfl).trans ((y1m7 _).trans (by kernel_rfl))
end
end Go.Vm
