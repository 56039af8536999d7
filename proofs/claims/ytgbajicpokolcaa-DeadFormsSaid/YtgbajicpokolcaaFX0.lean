/- Functions of the machine as plain functions that go on with what follows. -/
import Derived.Test.YtgbajicpokolcaaFEnv
set_option linter.unusedSimpArgs false
set_option linter.unusedVariables false
set_option linter.unusedSectionVars false
namespace Go.Vm
noncomputable section
def y222 (v1 v3 : AV) (h : Heap) : OX :=
ob (evLd true 5 v3 h) fun v30 =>
oh (y8 E (y9 E) 0 none true 29 [v30] h) fun v31 h1 =>
ob (y7 .eql v31 (AV.int .i64 0)) fun v32 =>
gb v32 true (evFa 3 v3) fun v34 =>
gb v32 true (evLd false 1 v34 h1) fun v35 =>
gb v32 true (y14 1 v35 h1) fun v36 =>
gb v32 true (evFa 3 v1) fun v37 =>
gb v32 true (evLd false 1 v37 h1) fun v38 =>
gb v32 true (y14 1 v38 h1) fun v39 =>
gb v32 true (y7 .eql v36 v39) fun v40 =>
ob (yd v32 v40 (AV.bool false)) fun v41 =>
gb v41 true (evLd true 5 v1 h1) fun v43 =>
gh v41 true (y8 E (y9 E) 0 none true 77 [v43] h1) h1 fun v44 h2 =>
gb v41 true (evUn .not v44) fun v45 =>
gb v41 true (some v45) fun v46 =>
gb v46 false (evLd true 5 v3 h2) fun v47 =>
gh v46 false (y8 E (y9 E) 0 none true 77 [v47] h2) h2 fun v48 h3 =>
gb v41 true (yd v46 (AV.bool true) v48) fun v49 =>
ob (yd v41 v49 (AV.bool false)) fun v50 =>
(ye h3 v50)
def y2l9 (s : St) : OX := y222 (s 1) (s 3) s.h
theorem y238 : T0 y1q7 [.t 2] y2l9 := fun _ => by kernel_rfl
def y1aq (v1 v3 : AV) (h : Heap) : OX :=
ob (evLd true 5 v1 h) fun v24 =>
oh (y8 E (y9 E) 0 none true 29 [v24] h) fun v25 h4 =>
ob (y7 .neq v25 (AV.int .i64 0)) fun v26 =>
cnd v26
 (ob (evLd true 5 v1 h4) fun v27 =>
ob (evLd true 5 v3 h4) fun v28 =>
oh (y8 E (y9 E) 0 none true 14 [v27, v28] h4) fun v29 h5 =>
(ye h5 v29))
 ((y222 v1 v3 h4))
def y2m0 (s : St) : OX := y1aq (s 1) (s 3) s.h
theorem y251 : T0 y1so [.t 2] y2m0 := sq y238 fun _ => by kernel_rfl
def y1p7 (v1 : AV) (h : Heap) : OX :=
ob (evLd true 5 v1 h) fun v22 =>
oh (y8 E (y9 E) 0 none true 118 [v22] h) fun v23 h6 =>
oh (newC 0 (some 1) [.nils, .nils, (.int .i64 0), .nils, .nils] h6) fun v3 h7 =>
oh (evSt 5 v3 v23 h7) fun _ h8 =>
(y1aq v1 v3 h8)
def y2l0 (s : St) : OX := y1p7 (s 1) s.h
theorem y212 : T0 y1wz [.t 2] y2l0 := sq y251 fun _ => by kernel_rfl
def y1c7 (v1 : AV) (h : Heap) : OX :=
ob (evFa 3 v1) fun v6 =>
ob (evLd false 1 v6 h) fun v7 =>
ob (y14 1 v7 h) fun v8 =>
ob (y7 .gtr v8 (AV.int .i64 400)) fun v9 =>
gb v9 false (evFa 0 v1) fun v11 =>
gb v9 false (evLd false 1 v11 h) fun v12 =>
gb v9 false (y14 1 v12 h) fun v13 =>
gb v9 false (y7 .gtr v13 (AV.int .i64 100)) fun v14 =>
ob (yd v9 (AV.bool true) v14) fun v15 =>
gb v15 false (evFa 4 v1) fun v17 =>
gb v15 false (evLd false 1 v17 h) fun v18 =>
gb v15 false (y14 1 v18 h) fun v19 =>
gb v15 false (y7 .gtr v19 (AV.int .i64 50)) fun v20 =>
ob (yd v15 (AV.bool true) v20) fun v21 =>
cnd v21
 ((ye h (AV.bool true)))
 ((y1p7 v1 h))
def y2l6 (s : St) : OX := y1c7 (s 1) s.h
theorem y1zc : T0 y1hp [.t 2] y2l6 := sq y212 fun _ => by kernel_rfl
def y19d (v1 : AV) (h : Heap) : OX :=
oh (y8 E (y9 E) 0 none true 117 [] h) fun v4 h9 =>
ob (evUn .not v4) fun v5 =>
cnd v5
 ((ye h9 (AV.bool false)))
 ((y1c7 v1 h9))
def y2nf (s : St) : OX := y19d (s 1) s.h
theorem y24d : T0 y1dz [.t 2] y2nf := sq y1zc fun _ => by kernel_rfl
def yw0 (v0 : AV) (h : Heap) : OX :=
oh (newC 0 (some 0) (cellsOf v0) h) fun v1 h10 =>
(y19d v1 h10)
def y2nb (s : St) : OX := yw0 (s 0) s.h
theorem y20s : T0 y1fw [.t 2] y2nb := sq y24d fun _ => by kernel_rfl
@[simp] theorem y2ob : E.pure 116 = true := rfl
theorem y2oz (v0 : AV) : (y9 E).p 116 [v0] = yw0 v0 [⟨0, .dead⟩, ⟨0, .dead⟩] :=
  (y12 (cf := y2km) (by kernel_rfl) rfl).trans ((y20s _).trans (by kernel_rfl))
def y1sd (v2 v3 : AV) (h : Heap) : OX :=
ob (evLd true 5 v3 h) fun v39 =>
oh (evSt 5 v2 v39 h) fun _ h1 =>
(ob (evLd true 5 v2 h1) fun r0 =>
  ye h1 r0)
def yah (s : St) : OX := y1sd (s 2) (s 3) s.h
theorem y209 : T0 y1lg [.cell 2 true 5] yah := fun _ => by kernel_rfl
def yt9 (v2 v3 v22 v23 : AV) (h : Heap) : OX :=
  W E 0 yp8 ⟨[(2, v2), (3, v3), (22, v22), (23, v23)], h⟩ yah (y5 0 yah xN) (finP [.cell 2 true 5])
def yd7 (s : St) : OX := yt9 (s 2) (s 3) (s 22) (s 23) s.h
theorem yqu : T1 yp8 yah (y5 0 yah xN) [.cell 2 true 5] yd7 := fun s => yi.trans (by kernel_rfl)
def y28g (v2 v3 v22 v23 : AV) (h : Heap) : OX :=
ob (y7 .add v23 (AV.int .i64 1)) fun v38 =>
(yt9 v2 v3 v22 v38 h)
def y2ki (s : St) : OX := y28g (s 2) (s 3) (s 22) (s 23) s.h
theorem y1zu : T1 y1ut yd7 (y5 0 yah xN) [.cell 2 true 5] y2ki := fun _ => by kernel_rfl
def y29b (v2 v3 v22 v23 : AV) (h : Heap) : OX :=
ob (evFa 3 v3) fun v26 =>
ob (evLd false 1 v26 h) fun v27 =>
ob (evFa 3 v3) fun v29 =>
ob (evLd false 1 v29 h) fun v30 =>
ob (yt 9 v30 v23) fun v32 =>
ob (evFa 8 v32) fun v33 =>
ob (evLd false 1 v33 h) fun v34 =>
ofp (y5j E (y9 E) 0 none true 39 [v34] h) fun f9 =>
oh (y8 E (y9 E) 0 none true 39 [v34] h) fun v35 h2 =>
ob (yt 9 v27 v23) fun v36 =>
ob (evFa 8 v36) fun v37 =>
oh (evSt 1 v37 v35 h2) fun _ h3 =>
okK (yf [([], []), (ids1 v26, []), ([], []), ([], []), (ids1 v29, []), ([], []), ([], []), ([], []), (ids1 v33, []), f9, ([], []), ([], []), ([], ids1 v37)] [(1, 9)]) <|
(y28g v2 v3 v22 v23 h3)
def y2ih (s : St) : OX := y29b (s 2) (s 3) (s 22) (s 23) s.h
theorem y20i : T1 y1fz yd7 (y5 0 yah xN) [.cell 2 true 5] y2ih := sq y1zu fun _ => by kernel_rfl
def y260 (v2 v3 v22 v23 v24 : AV) (h : Heap) : OX :=
cnd v24
 ((y29b v2 v3 v22 v23 h))
 ((y1sd v2 v3 h))
def y2mr (s : St) : OX := y260 (s 2) (s 3) (s 22) (s 23) (s 24) s.h
theorem y21z : T1 y1r7 yd7 (y5 0 yah xN) [.cell 2 true 5] y2mr := sq y20i fun _ => by kernel_rfl
def y239 (v2 v3 v22 v23 : AV) (h : Heap) : OX :=
ob (y7 .lss v23 v22) fun v24 =>
(y260 v2 v3 v22 v23 v24 h)
def y2jl (s : St) : OX := y239 (s 2) (s 3) (s 22) (s 23) s.h
theorem y1ze : T1 y1pn yd7 (y5 0 yah xN) [.cell 2 true 5] y2jl := sq y21z fun _ => by kernel_rfl
theorem yq6 (v2 v3 v22 v23 : AV) (h : Heap) : yt9 v2 v3 v22 v23 h = (y239 v2 v3 v22 v23 h) :=
  y1n.trans ((y17 _ _ _ (n' := yd7) (fun s => yqu s)).trans ((y1ze _).trans (by kernel_rfl)))
theorem y23f : T1 y1fq yah xN [.cell 2 true 5] yd7 := fun s => yw.trans (yqu s)
def y1ge (v2 v3 : AV) (h : Heap) : OX :=
ob (evFa 3 v3) fun v20 =>
ob (evLd false 1 v20 h) fun v21 =>
ob (y14 1 v21 h) fun v22 =>
(yt9 v2 v3 v22 (AV.int .i64 0) h)
def y27k (s : St) : OX := y1ge (s 2) (s 3) s.h
theorem y25x : T1 y1kr yah xN [.cell 2 true 5] y27k := sq y23f fun _ => by kernel_rfl
theorem y20q : T0 y1sz [.cell 2 true 5] y27k := sq y209 y25x
def yqk (v1 v2 : AV) (h : Heap) : OX :=
ob (evFa 0 v1) fun v5 =>
ob (evLd false 1 v5 h) fun v6 =>
ofp (y5j E (y9 E) 0 (some 2) false 39 [v6] h) fun f2 =>
oh (y8 E (y9 E) 0 (some 2) false 39 [v6] h) fun v7 h4 =>
ob (evFa 1 v1) fun v8 =>
ob (evLd false 1 v8 h4) fun v9 =>
ofp (y5j E (y9 E) 0 (some 3) false 39 [v9] h4) fun f5 =>
oh (y8 E (y9 E) 0 (some 3) false 39 [v9] h4) fun v10 h5 =>
ob (evFa 2 v1) fun v11 =>
ob (evLd false 1 v11 h5) fun v12 =>
ob (evFa 3 v1) fun v13 =>
ob (evLd false 1 v13 h5) fun v14 =>
ofp (y5j E (y9 E) 0 (some 4) false 40 [v14] h5) fun f10 =>
oh (y8 E (y9 E) 0 (some 4) false 40 [v14] h5) fun v15 h6 =>
ob (evFa 4 v1) fun v16 =>
ob (evLd false 1 v16 h6) fun v17 =>
ofp (y5j E (y9 E) 0 (some 5) false 41 [v17] h6) fun f13 =>
oh (y8 E (y9 E) 0 (some 5) false 41 [v17] h6) fun v18 h7 =>
ob (y1c [.nils, .nils, (.int .i64 0), .nils, .nils] [(0, 1, v7), (1, 1, v10), (2, 1, v12), (3, 1, v15), (4, 1, v18)]) fun v19 =>
oh (newC 0 (some 6) [.nils, .nils, (.int .i64 0), .nils, .nils] h7) fun v3 h8 =>
oh (evSt 5 v3 v19 h8) fun _ h9 =>
okK (yf [([], []), (ids1 v5, []), f2, ([], []), (ids1 v8, []), f5, ([], []), (ids1 v11, []), ([], []), (ids1 v13, []), f10, ([], []), (ids1 v16, []), f13, ([], []), ([], [0 + 6]), ([], ids1 v3)] [(2, 4), (2, 7), (5, 7), (2, 9), (5, 9), (7, 10), (2, 12), (5, 12), (10, 12), (7, 13), (1, 15), (2, 15), (4, 15), (5, 15), (7, 15), (9, 15), (10, 15), (12, 15), (13, 15)]) <|
(y1ge v2 v3 h9)
def y2b9 (s : St) : OX := yqk (s 1) (s 2) s.h
theorem y1ci : T0 y13h [.cell 2 true 5] y2b9 := sq y20q fun _ => by kernel_rfl
def y12r (v0 : AV) (h : Heap) : OX :=
oh (newC 0 (some 0) (cellsOf v0) h) fun v1 h10 =>
oh (newC 0 (some 1) [.nils, .nils, (.int .i64 0), .nils, .nils] h10) fun v2 h11 =>
(yqk v1 v2 h11)
def y2g0 (s : St) : OX := y12r (s 0) s.h
theorem y1ct : T0 y121 [.cell 2 true 5] y2g0 := sq y1ci fun _ => by kernel_rfl
@[simp] theorem y2pg : E.pure 13 = true := rfl
theorem y2s3 (v0 : AV) : (y9 E).p 13 [v0] = y12r v0 [⟨0, .dead⟩, ⟨0, .dead⟩, ⟨0, .dead⟩, ⟨0, .dead⟩, ⟨0, .dead⟩, ⟨0, .dead⟩, ⟨0, .dead⟩] :=
  (y12 (cf := y2ne) (by kernel_rfl) rfl).trans ((y1ct _).trans (by kernel_rfl))
def y1t0 (h : Heap) : OX :=
(ye h (AV.bool true))
def y74 (s : St) : OX := y1t0 s.h
theorem y1fc : T0 yy0 [.t 4] y74 := fun _ => by kernel_rfl
def yjb (v2 v3 v6 : AV) (h : Heap) : OX :=
  W E 0 yk8 ⟨[(2, v2), (3, v3), (6, v6)], h⟩ y74 (y5 2 y74 xN) (finP [.t 4])
def ybe (s : St) : OX := yjb (s 2) (s 3) (s 6) s.h
theorem ymh : T1 yk8 y74 (y5 2 y74 xN) [.t 4] ybe := fun s => yi.trans (by kernel_rfl)
def y16d (v2 v3 v6 : AV) (h : Heap) : OX :=
ob (y7 .add v6 (AV.int .i64 1)) fun v71 =>
(yjb v2 v3 v71 h)
def y2gk (s : St) : OX := y16d (s 2) (s 3) (s 6) s.h
theorem y1mz : T1 y17z ybe (y5 2 y74 xN) [.t 4] y2gk := fun _ => by kernel_rfl
def y12d (v2 v3 v6 : AV) (h : Heap) : OX :=
ob (evFa 4 v2) fun v72 =>
ob (evLd false 1 v72 h) fun v73 =>
ob (yt 4 v73 v6) fun v75 =>
ob (evLd true 4 v75 h) fun v76 =>
ob (evFa 4 v3) fun v77 =>
ob (evLd false 1 v77 h) fun v78 =>
ob (yt 4 v78 v6) fun v80 =>
ob (evLd true 4 v80 h) fun v81 =>
ob (y1mc true [0, 0, 0, 2] v76 v81) fun v82 =>
cnd v82
 ((ye h (AV.bool false)))
 ((y16d v2 v3 v6 h))
def y2ba (s : St) : OX := y12d (s 2) (s 3) (s 6) s.h
theorem y1mn : T1 yx6 ybe (y5 2 y74 xN) [.t 4] y2ba := sq y1mz fun _ => by kernel_rfl
def ysd (v2 v3 v6 : AV) (h : Heap) : OX :=
ob (evFa 4 v2) fun v66 =>
ob (evLd false 1 v66 h) fun v67 =>
ob (y14 1 v67 h) fun v68 =>
ob (y7 .lss v6 v68) fun v69 =>
cnd v69
 ((y12d v2 v3 v6 h))
 ((y1t0 h))
def y2fn (s : St) : OX := ysd (s 2) (s 3) (s 6) s.h
theorem y1wp : T1 ywe ybe (y5 2 y74 xN) [.t 4] y2fn := sq y1mn fun _ => by kernel_rfl
theorem yll (v2 v3 v6 : AV) (h : Heap) : yjb v2 v3 v6 h = (ysd v2 v3 v6 h) :=
  y1n.trans ((y17 _ _ _ (n' := ybe) (fun s => ymh s)).trans ((y1wp _).trans (by kernel_rfl)))
theorem y1gz : T1 y172 y74 xN [.t 4] ybe := fun s => yw.trans (ymh s)
def y1cx (v2 v3 : AV) (h : Heap) : OX :=
(yjb v2 v3 (AV.int .i64 0) h)
def y66 (s : St) : OX := y1cx (s 2) (s 3) s.h
theorem y1q3 : T1 y17r y74 xN [.t 4] y66 := sq y1gz fun _ => by kernel_rfl
theorem y1fs : T0 yxh [.t 4] y66 := sq y1fc y1q3
def yhp (v2 v3 v5 : AV) (h : Heap) : OX :=
  W E 0 yhy ⟨[(2, v2), (3, v3), (5, v5)], h⟩ y66 (y5 0 y66 xN) (finP [.t 4])
def ybn (s : St) : OX := yhp (s 2) (s 3) (s 5) s.h
theorem ylv : T1 yhy y66 (y5 0 y66 xN) [.t 4] ybn := fun s => yi.trans (by kernel_rfl)
def yv7 (v2 v3 v5 : AV) (h : Heap) : OX :=
ob (y7 .add v5 (AV.int .i64 1)) fun v52 =>
(yhp v2 v3 v52 h)
def y1zy (s : St) : OX := yv7 (s 2) (s 3) (s 5) s.h
theorem y195 : T1 ytd ybn (y5 0 y66 xN) [.t 4] y1zy := fun _ => by kernel_rfl
def ype (v2 v3 v5 : AV) (h : Heap) : OX :=
ob (evFa 3 v2) fun v53 =>
ob (evLd false 1 v53 h) fun v54 =>
ob (yt 9 v54 v5) fun v56 =>
ob (evLd true 9 v56 h) fun v57 =>
ob (evFa 3 v3) fun v58 =>
ob (evLd false 1 v58 h) fun v59 =>
ob (yt 9 v59 v5) fun v61 =>
ob (evLd true 9 v61 h) fun v62 =>
oh (y8 E (y9 E) 0 none true 28 [v57, v62] h) fun v63 h1 =>
ob (evUn .not v63) fun v64 =>
cnd v64
 ((ye h1 (AV.bool false)))
 ((yv7 v2 v3 v5 h1))
def y20f (s : St) : OX := ype (s 2) (s 3) (s 5) s.h
theorem y18p : T1 ysu ybn (y5 0 y66 xN) [.t 4] y20f := sq y195 fun _ => by kernel_rfl
def yhj (v2 v3 v5 : AV) (h : Heap) : OX :=
ob (evFa 3 v2) fun v47 =>
ob (evLd false 1 v47 h) fun v48 =>
ob (y14 1 v48 h) fun v49 =>
ob (y7 .lss v5 v49) fun v50 =>
cnd v50
 ((ype v2 v3 v5 h))
 ((y1cx v2 v3 h))
def y23w (s : St) : OX := yhj (s 2) (s 3) (s 5) s.h
theorem y1bg : T1 yrx ybn (y5 0 y66 xN) [.t 4] y23w := sq y18p fun _ => by kernel_rfl
theorem yl4 (v2 v3 v5 : AV) (h : Heap) : yhp v2 v3 v5 h = (yhj v2 v3 v5 h) :=
  y1n.trans ((y17 _ _ _ (n' := ybn) (fun s => ylv s)).trans ((y1bg _).trans (by kernel_rfl)))
theorem y1ai : T1 ytw y66 xN [.t 4] ybn := fun s => yw.trans (ylv s)
def yul (v2 v3 : AV) (h : Heap) : OX :=
(yhp v2 v3 (AV.int .i64 0) h)
def y0u (s : St) : OX := yul (s 2) (s 3) s.h
theorem y1a2 : T1 ytl y66 xN [.t 4] y0u := sq y1ai fun _ => by kernel_rfl
theorem y1bk : T0 yrm [.t 4] y0u := sq y1fs y1a2
def yal (v2 v3 : AV) (h : Heap) : OX :=
ob (evFa 0 v2) fun v7 =>
ob (evLd false 1 v7 h) fun v8 =>
ob (evFa 0 v3) fun v9 =>
ob (evLd false 1 v9 h) fun v10 =>
oh (y8 E (y9 E) 0 none true 11 [v8, v10] h) fun v11 h2 =>
ob (evUn .not v11) fun v12 =>
gb v12 false (evFa 1 v2) fun v14 =>
gb v12 false (evLd false 1 v14 h2) fun v15 =>
gb v12 false (evFa 1 v3) fun v16 =>
gb v12 false (evLd false 1 v16 h2) fun v17 =>
gh v12 false (y8 E (y9 E) 0 none true 11 [v15, v17] h2) h2 fun v18 h3 =>
gb v12 false (evUn .not v18) fun v19 =>
ob (yd v12 (AV.bool true) v19) fun v20 =>
gb v20 false (evFa 2 v2) fun v22 =>
gb v20 false (evLd false 1 v22 h3) fun v23 =>
gb v20 false (evFa 2 v3) fun v24 =>
gb v20 false (evLd false 1 v24 h3) fun v25 =>
gb v20 false (y7 .neq v23 v25) fun v26 =>
ob (yd v20 (AV.bool true) v26) fun v27 =>
gb v27 false (evFa 3 v2) fun v29 =>
gb v27 false (evLd false 1 v29 h3) fun v30 =>
gb v27 false (y14 1 v30 h3) fun v31 =>
gb v27 false (evFa 3 v3) fun v32 =>
gb v27 false (evLd false 1 v32 h3) fun v33 =>
gb v27 false (y14 1 v33 h3) fun v34 =>
gb v27 false (y7 .neq v31 v34) fun v35 =>
ob (yd v27 (AV.bool true) v35) fun v36 =>
gb v36 false (evFa 4 v2) fun v38 =>
gb v36 false (evLd false 1 v38 h3) fun v39 =>
gb v36 false (y14 1 v39 h3) fun v40 =>
gb v36 false (evFa 4 v3) fun v41 =>
gb v36 false (evLd false 1 v41 h3) fun v42 =>
gb v36 false (y14 1 v42 h3) fun v43 =>
gb v36 false (y7 .neq v40 v43) fun v44 =>
ob (yd v36 (AV.bool true) v44) fun v45 =>
cnd v45
 ((ye h3 (AV.bool false)))
 ((yul v2 v3 h3))
def y20d (s : St) : OX := yal (s 2) (s 3) s.h
theorem y18h : T0 yr8 [.t 4] y20d := sq y1bk fun _ => by kernel_rfl
def yae (v0 v1 : AV) (h : Heap) : OX :=
oh (newC 0 (some 0) (cellsOf v0) h) fun v2 h4 =>
oh (newC 0 (some 1) (cellsOf v1) h4) fun v3 h5 =>
(yal v2 v3 h5)
def y23o (s : St) : OX := yae (s 0) (s 1) s.h
theorem y1bi : T0 ysb [.t 4] y23o := sq y18h fun _ => by kernel_rfl
@[simp] theorem y2p4 : E.pure 14 = true := rfl
theorem y2n3 (v0 v1 : AV) : (y9 E).p 14 [v0, v1] = yae v0 v1 [⟨0, .dead⟩, ⟨0, .dead⟩] :=
  (y12 (cf := y273) (by kernel_rfl) rfl).trans ((y1bi _).trans (by kernel_rfl))
def y2a6 (h : Heap) : OX :=
(ye h (AV.int .i64 0))
def yap (s : St) : OX := y2a6 s.h
theorem y25y : T0 y1db [.t 2] yap := fun _ => by kernel_rfl
def ylx (v1 v3 v136 v137 v138 : AV) (h : Heap) : OX :=
  W E 0 yoj ⟨[(1, v1), (3, v3), (136, v136), (137, v137), (138, v138)], h⟩ yap (y5 6 yap xN) (finP [.t 2])
def yd0 (s : St) : OX := ylx (s 1) (s 3) (s 136) (s 137) (s 138) s.h
theorem ytu : T1 yoj yap (y5 6 yap xN) [.t 2] yd0 := fun s => yi.trans (by kernel_rfl)
def y2cn (v1 v3 v136 v137 v138 : AV) (h : Heap) : OX :=
ob (y7 .add v138 (AV.int .i64 1)) fun v179 =>
(ylx v1 v3 v136 v137 v179 h)
def y2nx (s : St) : OX := y2cn (s 1) (s 3) (s 136) (s 137) (s 138) s.h
theorem y1x5 : T1 y1ni yd0 (y5 6 yap xN) [.t 2] y2nx := fun _ => by kernel_rfl
def yp0 (v1 v3 v136 v137 v138 : AV) (h : Heap) : OX :=
ob (yt 4 v136 v138) fun v140 =>
ob (evLd true 4 v140 h) fun v141 =>
oh (newC 0 (some 2) [(.int .i64 0), (.int .i64 0), (.int .i64 0), (.str [])] h) fun v11 h1 =>
oh (evSt 4 v11 v141 h1) fun _ h2 =>
ob (evFa 0 v11) fun v142 =>
ob (evLd false 1 v142 h2) fun v143 =>
ob (y7 .lss v143 (AV.int .i64 0)) fun v144 =>
gb v144 false (evFa 0 v11) fun v146 =>
gb v144 false (evLd false 1 v146 h2) fun v147 =>
gb v144 false (evFa 1 v11) fun v148 =>
gb v144 false (evLd false 1 v148 h2) fun v149 =>
gb v144 false (y7 .geq v147 v149) fun v150 =>
ob (yd v144 (AV.bool true) v150) fun v151 =>
gb v151 false (evFa 1 v11) fun v153 =>
gb v151 false (evLd false 1 v153 h2) fun v154 =>
gb v151 false (some v3) fun v155 =>
gb v151 false (y7 .gtr v154 v155) fun v156 =>
ob (yd v151 (AV.bool true) v156) fun v157 =>
gb v157 false (evFa 2 v11) fun v159 =>
gb v157 false (evLd false 1 v159 h2) fun v160 =>
gb v157 false (y7 .lss v160 (AV.int .i64 0)) fun v161 =>
ob (yd v157 (AV.bool true) v161) fun v162 =>
gb v162 false (evFa 2 v11) fun v164 =>
gb v162 false (evLd false 1 v164 h2) fun v165 =>
gb v162 false (some v3) fun v166 =>
gb v162 false (y7 .geq v165 v166) fun v167 =>
ob (yd v162 (AV.bool true) v167) fun v168 =>
gb v168 false (evFa 3 v1) fun v170 =>
gb v168 false (evLd false 1 v170 h2) fun v171 =>
gb v168 false (evFa 2 v11) fun v172 =>
gb v168 false (evLd false 1 v172 h2) fun v173 =>
gb v168 false (yt 9 v171 v173) fun v174 =>
gb v168 false (evFa 0 v174) fun v175 =>
gb v168 false (evLd false 1 v175 h2) fun v176 =>
gb v168 false (y7 .neq v176 (AV.int .i64 32)) fun v177 =>
ob (yd v168 (AV.bool true) v177) fun v178 =>
cnd v178
 ((ye h2 (AV.int .i64 80)))
 ((y2cn v1 v3 v136 v137 v138 h2))
def y2jg (s : St) : OX := yp0 (s 1) (s 3) (s 136) (s 137) (s 138) s.h
theorem y1y3 : T1 y1w7 yd0 (y5 6 yap xN) [.t 2] y2jg := sq y1x5 fun _ => by kernel_rfl
def y23u (v1 v3 v136 v137 v138 v139 : AV) (h : Heap) : OX :=
cnd v139
 ((yp0 v1 v3 v136 v137 v138 h))
 ((y2a6 h))
def y2l8 (s : St) : OX := y23u (s 1) (s 3) (s 136) (s 137) (s 138) (s 139) s.h
theorem y229 : T1 y1q5 yd0 (y5 6 yap xN) [.t 2] y2l8 := sq y1y3 fun _ => by kernel_rfl
def y20p (v1 v3 v136 v137 v138 : AV) (h : Heap) : OX :=
ob (y7 .lss v138 v137) fun v139 =>
(y23u v1 v3 v136 v137 v138 v139 h)
def y2li (s : St) : OX := y20p (s 1) (s 3) (s 136) (s 137) (s 138) s.h
theorem y24h : T1 y1sm yd0 (y5 6 yap xN) [.t 2] y2li := sq y229 fun _ => by kernel_rfl
theorem yqw (v1 v3 v136 v137 v138 : AV) (h : Heap) : ylx v1 v3 v136 v137 v138 h = (y20p v1 v3 v136 v137 v138 h) :=
  y1n.trans ((y17 _ _ _ (n' := yd0) (fun s => ytu s)).trans ((y24h _).trans (by kernel_rfl)))
theorem y227 : T1 y1wh yap xN [.t 2] yd0 := fun s => yw.trans (ytu s)
def y1ud (v1 v3 : AV) (h : Heap) : OX :=
ob (evFa 4 v1) fun v135 =>
ob (evLd false 1 v135 h) fun v136 =>
ob (y14 1 v136 h) fun v137 =>
(ylx v1 v3 v136 v137 (AV.int .i64 0) h)
def y5z (s : St) : OX := y1ud (s 1) (s 3) s.h
theorem y24v : T1 y1i3 yap xN [.t 2] y5z := sq y227 fun _ => by kernel_rfl
theorem y20m : T0 y1r4 [.t 2] y5z := sq y25y y24v
def yeo (v1 v3 v92 v93 v94 : AV) (h : Heap) : OX :=
  W E 0 yj3 ⟨[(1, v1), (3, v3), (92, v92), (93, v93), (94, v94)], h⟩ y5z (y5 4 y5z xN) (finP [.t 2])
def y86 (s : St) : OX := yeo (s 1) (s 3) (s 92) (s 93) (s 94) s.h
theorem ymy : T1 yj3 y5z (y5 4 y5z xN) [.t 2] y86 := fun s => yi.trans (by kernel_rfl)
def yy9 (v1 v3 v92 v93 v94 : AV) (h : Heap) : OX :=
ob (y7 .add v94 (AV.int .i64 1)) fun v134 =>
(yeo v1 v3 v92 v93 v134 h)
def yas (s : St) : OX := yy9 (s 1) (s 3) (s 92) (s 93) (s 94) s.h
theorem y1va : T1 y11m y86 (y5 4 y5z xN) [.t 2] yas := fun _ => by kernel_rfl
def yc4 (v1 v3 v8 v9 v92 v93 v94 : AV) (h : Heap) : OX :=
ob (evFa 0 v9) fun v103 =>
ob (evLd false 1 v103 h) fun v104 =>
ob (y7 .eql v104 (AV.int .i64 32)) fun v105 =>
gb v105 true (some v8) fun v107 =>
gb v105 true (y7 .eql v107 (AV.int .i64 0)) fun v108 =>
gb v105 true (some v108) fun v109 =>
gb v109 false (evFa 3 v1) fun v110 =>
gb v109 false (evLd false 1 v110 h) fun v111 =>
gb v109 false (some v8) fun v112 =>
gb v109 false (y7 .sub v112 (AV.int .i64 1)) fun v113 =>
gb v109 false (yt 9 v111 v113) fun v114 =>
gb v109 false (evLd true 9 v114 h) fun v115 =>
gh v109 false (y8 E (y9 E) 0 none true 24 [v115] h) h fun v116 h3 =>
gb v109 false (evUn .not v116) fun v117 =>
gb v105 true (yd v109 (AV.bool true) v117) fun v118 =>
ob (yd v105 v118 (AV.bool false)) fun v119 =>
gb v119 false (evLd true 9 v9 h3) fun v121 =>
gh v119 false (y8 E (y9 E) 0 none true 22 [v121] h3) h3 fun v122 h4 =>
gb v119 false (some v122) fun v123 =>
gb v123 true (evFa 3 v1) fun v124 =>
gb v123 true (evLd false 1 v124 h4) fun v125 =>
gb v123 true (evFa 6 v9) fun v126 =>
gb v123 true (evLd false 1 v126 h4) fun v127 =>
gb v123 true (yt 9 v125 v127) fun v128 =>
gb v123 true (evFa 0 v128) fun v129 =>
gb v123 true (evLd false 1 v129 h4) fun v130 =>
gb v123 true (y7 .eql v130 (AV.int .i64 32)) fun v131 =>
gb v119 false (yd v123 v131 (AV.bool false)) fun v132 =>
ob (yd v119 (AV.bool true) v132) fun v133 =>
cnd v133
 ((ye h4 (AV.int .i64 80)))
 ((yy9 v1 v3 v92 v93 v94 h4))
def y2gh (s : St) : OX := yc4 (s 1) (s 3) (s 8) (s 9) (s 92) (s 93) (s 94) s.h
theorem y1gq : T1 y111 yas (y5 5 yas (y5 4 y5z xN)) [.t 2] y2gh := fun _ => by kernel_rfl
def y13z (v1 v3 v8 v9 v92 v93 v94 : AV) (h : Heap) : OX :=
ob (evLd true 5 v1 h) fun v99 =>
ob (evLd true 9 v9 h) fun v100 =>
oh (y8 E (y9 E) 0 none true 63 [v99, v100] h) fun v101 h5 =>
ob (evUn .not v101) fun v102 =>
cnd v102
 ((ye h5 (AV.int .i64 80)))
 ((yc4 v1 v3 v8 v9 v92 v93 v94 h5))
def y2dv (s : St) : OX := y13z (s 1) (s 3) (s 8) (s 9) (s 92) (s 93) (s 94) s.h
theorem y1k9 : T1 y16f yas (y5 5 yas (y5 4 y5z xN)) [.t 2] y2dv := sq y1gq fun _ => by kernel_rfl
def yq8 (v1 v3 v92 v93 v94 : AV) (h : Heap) : OX :=
ob (yt 9 v92 v94) fun v97 =>
ob (evLd true 9 v97 h) fun v98 =>
oh (newC 0 (some 1) [(.int .i64 0), (.int .i64 0), (.int .i64 0), (.int .i64 0), (.int .i64 0), (.int .i64 0), (.int .i64 0), (.str []), .nils] h) fun v9 h6 =>
oh (evSt 9 v9 v98 h6) fun _ h7 =>
(y13z v1 v3 v94 v9 v92 v93 v94 h7)
def yuv (s : St) : OX := yq8 (s 1) (s 3) (s 92) (s 93) (s 94) s.h
theorem y1rh : T1 y0f yas (y5 5 yas (y5 4 y5z xN)) [.t 2] yuv := sq y1k9 fun _ => by kernel_rfl
theorem y1ve : T1 y17q yas (y5 4 y5z xN) [.t 2] yuv := fun s => yw.trans (y1rh s)
theorem y1rl : T1 y12g y86 (y5 4 y5z xN) [.t 2] yuv := sq y1va y1ve
def y13o (v1 v3 v92 v93 v94 v95 : AV) (h : Heap) : OX :=
cnd v95
 ((yq8 v1 v3 v92 v93 v94 h))
 ((y1ud v1 v3 h))
def y29q (s : St) : OX := y13o (s 1) (s 3) (s 92) (s 93) (s 94) (s 95) s.h
theorem y1pv : T1 y17i y86 (y5 4 y5z xN) [.t 2] y29q := sq y1rl fun _ => by kernel_rfl
def yyc (v1 v3 v92 v93 v94 : AV) (h : Heap) : OX :=
ob (y7 .lss v94 v93) fun v95 =>
(y13o v1 v3 v92 v93 v94 v95 h)
def y2b0 (s : St) : OX := yyc (s 1) (s 3) (s 92) (s 93) (s 94) s.h
theorem y1ha : T1 y01 y86 (y5 4 y5z xN) [.t 2] y2b0 := sq y1pv fun _ => by kernel_rfl
theorem yna (v1 v3 v92 v93 v94 : AV) (h : Heap) : yeo v1 v3 v92 v93 v94 h = (yyc v1 v3 v92 v93 v94 h) :=
  y1n.trans ((y17 _ _ _ (n' := y86) (fun s => ymy s)).trans ((y1ha _).trans (by kernel_rfl)))
theorem y1f7 : T1 y17t y5z xN [.t 2] y86 := fun s => yw.trans (ymy s)
def yr9 (v1 v3 : AV) (h : Heap) : OX :=
ob (evFa 3 v1) fun v91 =>
ob (evLd false 1 v91 h) fun v92 =>
ob (y14 1 v92 h) fun v93 =>
(yeo v1 v3 v92 v93 (AV.int .i64 0) h)
def y5x (s : St) : OX := yr9 (s 1) (s 3) s.h
theorem y1ne : T1 y112 y5z xN [.t 2] y5x := sq y1f7 fun _ => by kernel_rfl
theorem y1rx : T0 y14v [.t 2] y5x := sq y20m y1ne
def yf9 (v1 v3 v62 v63 v64 : AV) (h : Heap) : OX :=
  W E 0 yjg ⟨[(1, v1), (3, v3), (62, v62), (63, v63), (64, v64)], h⟩ y5x (y5 2 y5x xN) (finP [.t 2])
def y7y (s : St) : OX := yf9 (s 1) (s 3) (s 62) (s 63) (s 64) s.h
theorem yla : T1 yjg y5x (y5 2 y5x xN) [.t 2] y7y := fun s => yi.trans (by kernel_rfl)
def y1um (v1 v3 v62 v63 v64 : AV) (h : Heap) : OX :=
ob (y7 .add v64 (AV.int .i64 1)) fun v90 =>
(yf9 v1 v3 v62 v63 v90 h)
def y2gj (s : St) : OX := y1um (s 1) (s 3) (s 62) (s 63) (s 64) s.h
theorem y1wi : T1 yzv y7y (y5 2 y5x xN) [.t 2] y2gj := fun _ => by kernel_rfl
def yhg (v1 v3 v62 v63 v64 : AV) (h : Heap) : OX :=
ob (yt 1 v62 v64) fun v67 =>
ob (evLd false 1 v67 h) fun v68 =>
ob (y7 .lss v68 (AV.int .i64 0)) fun v70 =>
gb v70 false (some v68) fun v72 =>
gb v70 false (evFa 0 v1) fun v73 =>
gb v70 false (evLd false 1 v73 h) fun v74 =>
gb v70 false (y14 1 v74 h) fun v75 =>
gb v70 false (y7 .geq v72 v75) fun v76 =>
ob (yd v70 (AV.bool true) v76) fun v77 =>
gb v77 false (evFa 1 v1) fun v79 =>
gb v77 false (evLd false 1 v79 h) fun v80 =>
gb v77 false (some v64) fun v81 =>
gb v77 false (yby 1 v80 none (some v81)) fun v82 =>
gb v77 false (some v68) fun v83 =>
gh v77 false (y8 E (y9 E) 0 none true 46 [v82, v83] h) h fun v84 h8 =>
ob (yd v77 (AV.bool true) v84) fun v85 =>
gb v85 false (some v64) fun v87 =>
gb v85 false (y7 .gtr v87 (AV.int .i64 20)) fun v88 =>
ob (yd v85 (AV.bool true) v88) fun v89 =>
cnd v89
 ((ye h8 (AV.int .i64 80)))
 ((y1um v1 v3 v62 v63 v64 h8))
def y2fi (s : St) : OX := yhg (s 1) (s 3) (s 62) (s 63) (s 64) s.h
theorem y1wb : T1 yyz y7y (y5 2 y5x xN) [.t 2] y2fi := sq y1wi fun _ => by kernel_rfl
def y04 (v1 v3 v62 v63 v64 v65 : AV) (h : Heap) : OX :=
cnd v65
 ((yhg v1 v3 v62 v63 v64 h))
 ((yr9 v1 v3 h))
def y293 (s : St) : OX := y04 (s 1) (s 3) (s 62) (s 63) (s 64) (s 65) s.h
theorem y1q6 : T1 y14e y7y (y5 2 y5x xN) [.t 2] y293 := sq y1wb fun _ => by kernel_rfl
def y115 (v1 v3 v62 v63 v64 : AV) (h : Heap) : OX :=
ob (y7 .lss v64 v63) fun v65 =>
(y04 v1 v3 v62 v63 v64 v65 h)
def y2a3 (s : St) : OX := y115 (s 1) (s 3) (s 62) (s 63) (s 64) s.h
theorem y1l7 : T1 y17y y7y (y5 2 y5x xN) [.t 2] y2a3 := sq y1q6 fun _ => by kernel_rfl
theorem ylf (v1 v3 v62 v63 v64 : AV) (h : Heap) : yf9 v1 v3 v62 v63 v64 h = (y115 v1 v3 v62 v63 v64 h) :=
  y1n.trans ((y17 _ _ _ (n' := y7y) (fun s => yla s)).trans ((y1l7 _).trans (by kernel_rfl)))
theorem y1tv : T1 y144 y5x xN [.t 2] y7y := fun s => yw.trans (yla s)
def yrw (v1 v3 : AV) (h : Heap) : OX :=
ob (evFa 1 v1) fun v61 =>
ob (evLd false 1 v61 h) fun v62 =>
ob (y14 1 v62 h) fun v63 =>
(yf9 v1 v3 v62 v63 (AV.int .i64 0) h)
def y5m (s : St) : OX := yrw (s 1) (s 3) s.h
theorem y1k0 : T1 y16g y5x xN [.t 2] y5m := sq y1tv fun _ => by kernel_rfl
theorem y1j2 : T0 yx7 [.t 2] y5m := sq y1rx y1k0
def yfp (v1 v3 v48 v49 v50 : AV) (h : Heap) : OX :=
  W E 0 yh5 ⟨[(1, v1), (3, v3), (48, v48), (49, v49), (50, v50)], h⟩ y5m (y5 0 y5m xN) (finP [.t 2])
def y88 (s : St) : OX := yfp (s 1) (s 3) (s 48) (s 49) (s 50) s.h
theorem ymk : T1 yh5 y5m (y5 0 y5m xN) [.t 2] y88 := fun s => yi.trans (by kernel_rfl)
def y1g6 (v1 v3 v48 v49 v50 : AV) (h : Heap) : OX :=
ob (y7 .add v50 (AV.int .i64 1)) fun v60 =>
(yfp v1 v3 v48 v49 v60 h)
def y2a8 (s : St) : OX := y1g6 (s 1) (s 3) (s 48) (s 49) (s 50) s.h
theorem y1vs : T1 yxj y88 (y5 0 y5m xN) [.t 2] y2a8 := fun _ => by kernel_rfl
def ys6 (v1 v3 v48 v49 v50 : AV) (h : Heap) : OX :=
ob (yt 1 v48 v50) fun v52 =>
ob (evLd false 1 v52 h) fun v53 =>
ob (y7 .lss v53 (AV.int .i64 1)) fun v55 =>
gb v55 false (some v53) fun v57 =>
gb v55 false (y7 .gtr v57 (AV.int .i64 3)) fun v58 =>
ob (yd v55 (AV.bool true) v58) fun v59 =>
cnd v59
 ((ye h (AV.int .i64 80)))
 ((y1g6 v1 v3 v48 v49 v50 h))
def y2bm (s : St) : OX := ys6 (s 1) (s 3) (s 48) (s 49) (s 50) s.h
theorem y1wm : T1 y11e y88 (y5 0 y5m xN) [.t 2] y2bm := sq y1vs fun _ => by kernel_rfl
def y188 (v1 v3 v48 v49 v50 v51 : AV) (h : Heap) : OX :=
cnd v51
 ((ys6 v1 v3 v48 v49 v50 h))
 ((yrw v1 v3 h))
def y2d6 (s : St) : OX := y188 (s 1) (s 3) (s 48) (s 49) (s 50) (s 51) s.h
theorem y1hv : T1 yxi y88 (y5 0 y5m xN) [.t 2] y2d6 := sq y1wm fun _ => by kernel_rfl
def y17h (v1 v3 v48 v49 v50 : AV) (h : Heap) : OX :=
ob (y7 .lss v50 v49) fun v51 =>
(y188 v1 v3 v48 v49 v50 v51 h)
def y2ac (s : St) : OX := y17h (s 1) (s 3) (s 48) (s 49) (s 50) s.h
theorem y1hx : T1 y163 y88 (y5 0 y5m xN) [.t 2] y2ac := sq y1hv fun _ => by kernel_rfl
theorem yl2 (v1 v3 v48 v49 v50 : AV) (h : Heap) : yfp v1 v3 v48 v49 v50 h = (y17h v1 v3 v48 v49 v50 h) :=
  y1n.trans ((y17 _ _ _ (n' := y88) (fun s => ymk s)).trans ((y1hx _).trans (by kernel_rfl)))
theorem y1ir : T1 y186 y5m xN [.t 2] y88 := fun s => yw.trans (ymk s)
def yl0 (v1 v3 : AV) (h : Heap) : OX :=
ob (evFa 0 v1) fun v47 =>
ob (evLd false 1 v47 h) fun v48 =>
ob (y14 1 v48 h) fun v49 =>
(yfp v1 v3 v48 v49 (AV.int .i64 0) h)
def y1dw (s : St) : OX := yl0 (s 1) (s 3) s.h
theorem y1ms : T1 y147 y5m xN [.t 2] y1dw := sq y1ir fun _ => by kernel_rfl
theorem y1vp : T0 y15w [.t 2] y1dw := sq y1j2 y1ms
def yeg (v1 v3 : AV) (h : Heap) : OX :=
ob (y7 .lss v3 (AV.int .i64 1)) fun v16 =>
gb v16 false (some v3) fun v18 =>
gb v16 false (y7 .gtr v18 (AV.int .i64 20000)) fun v19 =>
ob (yd v16 (AV.bool true) v19) fun v20 =>
gb v20 false (evFa 0 v1) fun v22 =>
gb v20 false (evLd false 1 v22 h) fun v23 =>
gb v20 false (y14 1 v23 h) fun v24 =>
gb v20 false (y7 .gtr v24 (AV.int .i64 20000)) fun v25 =>
ob (yd v20 (AV.bool true) v25) fun v26 =>
gb v26 false (evFa 2 v1) fun v28 =>
gb v26 false (evLd false 1 v28 h) fun v29 =>
gb v26 false (y7 .lss v29 (AV.int .i64 0)) fun v30 =>
ob (yd v26 (AV.bool true) v30) fun v31 =>
gb v31 false (evFa 2 v1) fun v33 =>
gb v31 false (evLd false 1 v33 h) fun v34 =>
gb v31 false (y7 .gtr v34 (AV.int .i64 3)) fun v35 =>
ob (yd v31 (AV.bool true) v35) fun v36 =>
gb v36 false (evFa 3 v1) fun v38 =>
gb v36 false (evLd false 1 v38 h) fun v39 =>
gb v36 false (some v3) fun v40 =>
gb v36 false (y7 .sub v40 (AV.int .i64 1)) fun v41 =>
gb v36 false (yt 9 v39 v41) fun v42 =>
gb v36 false (evLd true 9 v42 h) fun v43 =>
gh v36 false (y8 E (y9 E) 0 none true 24 [v43] h) h fun v44 h9 =>
gb v36 false (evUn .not v44) fun v45 =>
ob (yd v36 (AV.bool true) v45) fun v46 =>
cnd v46
 ((ye h9 (AV.int .i64 80)))
 ((yl0 v1 v3 h9))
def y2d5 (s : St) : OX := yeg (s 1) (s 3) s.h
theorem y1ll : T0 y13d [.t 2] y2d5 := sq y1vp fun _ => by kernel_rfl
def ydi (v1 : AV) (h : Heap) : OX :=
ob (evFa 3 v1) fun v12 =>
ob (evLd false 1 v12 h) fun v13 =>
ob (y14 1 v13 h) fun v14 =>
(yeg v1 v14 h)
def y290 (s : St) : OX := ydi (s 1) s.h
theorem y1ow : T0 y181 [.t 2] y290 := sq y1ll fun _ => by kernel_rfl
def yc7 (v0 : AV) (h : Heap) : OX :=
oh (newC 0 (some 0) (cellsOf v0) h) fun v1 h10 =>
(ydi v1 h10)
def y2fq (s : St) : OX := yc7 (s 0) s.h
theorem y1uj : T0 y13g [.t 2] y2fq := sq y1ow fun _ => by kernel_rfl
@[simp] theorem y2t2 : E.pure 8 = true := rfl
theorem y2qf (v0 : AV) : (y9 E).p 8 [v0] = yc7 v0 [⟨0, .dead⟩, ⟨0, .dead⟩, ⟨0, .dead⟩] :=
  (y12 (cf := y2i4) (by kernel_rfl) rfl).trans ((y1uj _).trans (by kernel_rfl))
@[simp] theorem y2og : E.pure 117 = true := rfl
def q6_1 (v1 v2 : AV) (h : Heap) : OX :=
ob (evLd true 5 v1 h) fun v40 =>
oh (evSt 5 v2 v40 h) fun _ h1 =>
(ob (evLd true 5 v2 h1) fun r0 =>
  ye h1 r0)
def y80 (s : St) : OX := q6_1 (s 1) (s 2) s.h
theorem y29y : T0 y28e [.cell 2 true 5] y80 := fun _ => by kernel_rfl
def yp9 (v1 v2 v3 : AV) (h : Heap) : OX :=
  W E 0 yvg ⟨[(1, v1), (2, v2), (3, v3)], h⟩ y80 (y5 0 y80 xN) (finP [.cell 2 true 5])
def y38 (s : St) : OX := yp9 (s 1) (s 2) (s 3) s.h
theorem y137 : T1 yvg y80 (y5 0 y80 xN) [.cell 2 true 5] y38 := fun s => yi.trans (by kernel_rfl)
def y1br (v1 v2 v3 v4 v17 v18 v19 : AV) (h : Heap) : OX :=
  W E 0 yvk ⟨[(1, v1), (2, v2), (3, v3), (4, v4), (17, v17), (18, v18), (19, v19)], h⟩ y38 (y5 2 y38 (y5 1 y38 (y5 0 y80 xN))) (finP [.cell 2 true 5])
def yj6 (s : St) : OX := y1br (s 1) (s 2) (s 3) (s 4) (s 17) (s 18) (s 19) s.h
theorem y12j : T1 yvk y38 (y5 2 y38 (y5 1 y38 (y5 0 y80 xN))) [.cell 2 true 5] yj6 := fun s => yi.trans (by kernel_rfl)
def q6_4 (v1 v2 v3 v4 v17 v18 v19 : AV) (h : Heap) : OX :=
ob (y7 .add v19 (AV.int .i64 1)) fun v39 =>
(y1br v1 v2 v3 v4 v17 v18 v39 h)
def y2qr (s : St) : OX := q6_4 (s 1) (s 2) (s 3) (s 4) (s 17) (s 18) (s 19) s.h
theorem y2fb : T1 y27r yj6 (y5 2 y38 (y5 1 y38 (y5 0 y80 xN))) [.cell 2 true 5] y2qr := fun _ => by kernel_rfl
def q6_5 (v1 v2 v3 v4 v17 v18 v19 : AV) (h : Heap) : OX :=
ob (yt 9 v17 v19) fun v22 =>
ob (evLd true 9 v22 h) fun v23 =>
oh (newC 0 (some 10) [(.int .i64 0), (.int .i64 0), (.int .i64 0), (.int .i64 0), (.int .i64 0), (.int .i64 0), (.int .i64 0), (.str []), .nils] h) fun v6 h2 =>
oh (evSt 9 v6 v23 h2) fun _ h3 =>
ob (evLd true 9 v6 h3) fun v24 =>
oh (y8 E (y9 E) 0 none true 20 [v24] h3) fun v25 h4 =>
gb v25 true (some v4) fun v27 =>
gb v25 true (some v19) fun v28 =>
gb v25 true (evFa 1 v6) fun v29 =>
gb v25 true (evLd false 1 v29 h4) fun v30 =>
gh v25 true (y8 E (y9 E) 0 none true 87 [v27, v28, v30] h4) h4 fun v31 h5 =>
gb v25 true (evUn .not v31) fun v32 =>
ob (yd v25 v32 (AV.bool false)) fun v33 =>
cnd v33
 (ob (evFa 3 v1) fun v34 =>
ob (evLd false 1 v34 h5) fun v35 =>
ob (y1c [(.int .i64 0), (.int .i64 0), (.int .i64 0), (.int .i64 0), (.int .i64 0), (.int .i64 0), (.int .i64 0), (.str []), .nils] [(0, 1, (AV.int .i64 33))]) fun v37 =>
ob (yt 9 v35 v19) fun v38 =>
oh (evSt 9 v38 v37 h5) fun _ h6 =>
(q6_4 v1 v2 (AV.bool true) v4 v17 v18 v19 h6))
 ((q6_4 v1 v2 v3 v4 v17 v18 v19 h5))
def y2r6 (s : St) : OX := q6_5 (s 1) (s 2) (s 3) (s 4) (s 17) (s 18) (s 19) s.h
theorem y294 : T1 y27v yj6 (y5 2 y38 (y5 1 y38 (y5 0 y80 xN))) [.cell 2 true 5] y2r6 := sq y2fb fun _ => by kernel_rfl
def q6_6 (v1 v2 v3 v4 v17 v18 v19 v20 : AV) (h : Heap) : OX :=
cnd v20
 ((q6_5 v1 v2 v3 v4 v17 v18 v19 h))
 ((yp9 v1 v2 v3 h))
def y2pq (s : St) : OX := q6_6 (s 1) (s 2) (s 3) (s 4) (s 17) (s 18) (s 19) (s 20) s.h
theorem y2e5 : T1 y26e yj6 (y5 2 y38 (y5 1 y38 (y5 0 y80 xN))) [.cell 2 true 5] y2pq := sq y294 fun _ => by kernel_rfl
def q6_7 (v1 v2 v3 v4 v17 v18 v19 : AV) (h : Heap) : OX :=
ob (y7 .lss v19 v18) fun v20 =>
(q6_6 v1 v2 v3 v4 v17 v18 v19 v20 h)
def y2pz (s : St) : OX := q6_7 (s 1) (s 2) (s 3) (s 4) (s 17) (s 18) (s 19) s.h
theorem y2d1 : T1 y282 yj6 (y5 2 y38 (y5 1 y38 (y5 0 y80 xN))) [.cell 2 true 5] y2pz := sq y2e5 fun _ => by kernel_rfl
theorem y143 (v1 v2 v3 v4 v17 v18 v19 : AV) (h : Heap) : y1br v1 v2 v3 v4 v17 v18 v19 h = (q6_7 v1 v2 v3 v4 v17 v18 v19 h) :=
  y1n.trans ((y17 _ _ _ (n' := yj6) (fun s => y12j s)).trans ((y2d1 _).trans (by kernel_rfl)))
theorem y2g1 : T1 y27o y38 (y5 1 y38 (y5 0 y80 xN)) [.cell 2 true 5] yj6 := fun s => yw.trans (y12j s)
def q6_9 (v1 v2 v3 v4 : AV) (h : Heap) : OX :=
ob (evFa 3 v1) fun v16 =>
ob (evLd false 1 v16 h) fun v17 =>
ob (y14 1 v17 h) fun v18 =>
(y1br v1 v2 v3 v4 v17 v18 (AV.int .i64 0) h)
def y2p3 (s : St) : OX := q6_9 (s 1) (s 2) (s 3) (s 4) s.h
theorem y2bo : T1 y27f y38 (y5 1 y38 (y5 0 y80 xN)) [.cell 2 true 5] y2p3 := sq y2g1 fun _ => by kernel_rfl
def y2h0 (v1 v2 v3 : AV) (h : Heap) : OX :=
ob (evLd true 5 v1 h) fun v14 =>
oh (y8 E (y9 E) 0 none true 75 [v14] h) fun v15 h7 =>
(q6_9 v1 v2 v3 v15 h7)
def y2i0 (s : St) : OX := y2h0 (s 1) (s 2) (s 3) s.h
theorem y20y : T1 y1pe y38 (y5 1 y38 (y5 0 y80 xN)) [.cell 2 true 5] y2i0 := sq y2bo fun _ => by kernel_rfl
def y2cb (v1 v2 : AV) (h : Heap) : OX :=
(y2h0 v1 v2 (AV.bool false) h)
def y26m (s : St) : OX := y2cb (s 1) (s 2) s.h
theorem y20g : T1 y1s8 y38 (y5 1 y38 (y5 0 y80 xN)) [.cell 2 true 5] y26m := sq y20y fun _ => by kernel_rfl
theorem y206 : T1 y1hd y38 (y5 0 y80 xN) [.cell 2 true 5] y26m := fun s => yw.trans (y20g s)
def y202 (v1 v2 v3 : AV) (h : Heap) : OX :=
cnd v3
 ((y2cb v1 v2 h))
 ((q6_1 v1 v2 h))
def y2kk (s : St) : OX := y202 (s 1) (s 2) (s 3) s.h
theorem y23q : T1 y1s2 y38 (y5 0 y80 xN) [.cell 2 true 5] y2kk := sq y206 fun _ => by kernel_rfl
theorem y113 (v1 v2 v3 : AV) (h : Heap) : yp9 v1 v2 v3 h = (y202 v1 v2 v3 h) :=
  y1n.trans ((y17 _ _ _ (n' := y38) (fun s => y137 s)).trans ((y23q _).trans (by kernel_rfl)))
theorem y25a : T1 y1nm y80 xN [.cell 2 true 5] y38 := fun s => yw.trans (y137 s)
def y2ck (v1 v2 : AV) (h : Heap) : OX :=
(yp9 v1 v2 (AV.bool true) h)
def y26c (s : St) : OX := y2ck (s 1) (s 2) s.h
theorem y24r : T1 y1gj y80 xN [.cell 2 true 5] y26c := sq y25a fun _ => by kernel_rfl
theorem y1x9 : T0 y1p1 [.cell 2 true 5] y26c := sq y29y y24r
def y1v9 (v1 v2 : AV) (h : Heap) : OX :=
ob (evLd true 5 v1 h) fun v9 =>
oh (y8 E (y9 E) 0 none true 8 [v9] h) fun v10 h8 =>
ob (y7 .neq v10 (AV.int .i64 0)) fun v11 =>
cnd v11
 (ob (evLd true 5 v1 h8) fun v12 =>
oh (evSt 5 v2 v12 h8) fun _ h9 =>
(ob (evLd true 5 v2 h9) fun r0 =>
  ye h9 r0))
 ((y2ck v1 v2 h8))
def y2hq (s : St) : OX := y1v9 (s 1) (s 2) s.h
theorem y255 : T0 y1ur [.cell 2 true 5] y2hq := sq y1x9 fun _ => by kernel_rfl
def y2ca (v1 v2 : AV) (h : Heap) : OX :=
ob (evLd true 5 v1 h) fun v7 =>
oh (y8 E (y9 E) 0 (some 2) false 13 [v7] h) fun v8 h10 =>
oh (evSt 5 v1 v8 h10) fun _ h11 =>
(y1v9 v1 v2 h11)
def y2lo (s : St) : OX := y2ca (s 1) (s 2) s.h
theorem y20e : T0 y1si [.cell 2 true 5] y2lo := sq y255 fun _ => by kernel_rfl
def y2gz (v0 : AV) (h : Heap) : OX :=
oh (newC 0 (some 0) (cellsOf v0) h) fun v1 h12 =>
oh (newC 0 (some 1) [.nils, .nils, (.int .i64 0), .nils, .nils] h12) fun v2 h13 =>
(y2ca v1 v2 h13)
def y2nd (s : St) : OX := y2gz (s 0) s.h
theorem y1xv : T0 y1cq [.cell 2 true 5] y2nd := sq y20e fun _ => by kernel_rfl
@[simp] theorem y2of : E.pure 118 = true := rfl
theorem x_q6 (v0 : AV) : (y9 E).p 118 [v0] = y2gz v0 [⟨0, .dead⟩, ⟨0, .dead⟩, ⟨0, .dead⟩, ⟨0, .dead⟩, ⟨0, .dead⟩, ⟨0, .dead⟩, ⟨0, .dead⟩, ⟨0, .dead⟩, ⟨0, .dead⟩, ⟨0, .dead⟩, ⟨0, .dead⟩] :=
  (y12 (cf := c_q6) (by kernel_rfl) rfl).trans ((y1xv _).trans (by kernel_rfl))
def yk9 (h : Heap) : OX :=
(ye h (AV.int .i64 0))
def y7d (s : St) : OX := yk9 s.h
theorem y1fv : T0 y126 [.t 2] y7d := fun _ => by kernel_rfl
def yet (v1 v3 v8 : AV) (h : Heap) : OX :=
  W E 0 yjl ⟨[(1, v1), (3, v3), (8, v8)], h⟩ y7d (y5 6 y7d xN) (finP [.t 2])
def ybg (s : St) : OX := yet (s 1) (s 3) (s 8) s.h
theorem ylg : T1 yjl y7d (y5 6 y7d xN) [.t 2] ybg := fun s => yi.trans (by kernel_rfl)
def yhw (v1 v3 v8 : AV) (h : Heap) : OX :=
ob (y7 .add v8 (AV.int .i64 1)) fun v155 =>
(yet v1 v3 v155 h)
def y28w (s : St) : OX := yhw (s 1) (s 3) (s 8) s.h
theorem y1q0 : T1 y12y ybg (y5 6 y7d xN) [.t 2] y28w := fun _ => by kernel_rfl
def y7p (v1 v3 v8 : AV) (h : Heap) : OX :=
ob (evFa 4 v1) fun v156 =>
ob (evLd false 1 v156 h) fun v157 =>
ob (yt 4 v157 v8) fun v159 =>
ob (evLd true 4 v159 h) fun v160 =>
oh (newC 0 (some 2) [(.int .i64 0), (.int .i64 0), (.int .i64 0), (.str [])] h) fun v9 h1 =>
oh (evSt 4 v9 v160 h1) fun _ h2 =>
ob (evFa 0 v9) fun v161 =>
ob (evLd false 1 v161 h2) fun v162 =>
ob (y7 .lss v162 (AV.int .i64 0)) fun v163 =>
gb v163 false (evFa 0 v9) fun v165 =>
gb v163 false (evLd false 1 v165 h2) fun v166 =>
gb v163 false (evFa 1 v9) fun v167 =>
gb v163 false (evLd false 1 v167 h2) fun v168 =>
gb v163 false (y7 .geq v166 v168) fun v169 =>
ob (yd v163 (AV.bool true) v169) fun v170 =>
gb v170 false (evFa 1 v9) fun v172 =>
gb v170 false (evLd false 1 v172 h2) fun v173 =>
gb v170 false (some v3) fun v174 =>
gb v170 false (y7 .gtr v173 v174) fun v175 =>
ob (yd v170 (AV.bool true) v175) fun v176 =>
gb v176 false (evLd true 5 v1 h2) fun v178 =>
gb v176 false (evFa 2 v9) fun v179 =>
gb v176 false (evLd false 1 v179 h2) fun v180 =>
gh v176 false (y8 E (y9 E) 0 none true 49 [v178, v180] h2) h2 fun v181 h3 =>
gb v176 false (evUn .not v181) fun v182 =>
ob (yd v176 (AV.bool true) v182) fun v183 =>
gb v183 false (evFa 3 v1) fun v185 =>
gb v183 false (evLd false 1 v185 h3) fun v186 =>
gb v183 false (evFa 2 v9) fun v187 =>
gb v183 false (evLd false 1 v187 h3) fun v188 =>
gb v183 false (yt 9 v186 v188) fun v189 =>
gb v183 false (evFa 0 v189) fun v190 =>
gb v183 false (evLd false 1 v190 h3) fun v191 =>
gb v183 false (y7 .neq v191 (AV.int .i64 32)) fun v192 =>
ob (yd v183 (AV.bool true) v192) fun v193 =>
cnd v193
 ((ye h3 (AV.int .i64 80)))
 ((yhw v1 v3 v8 h3))
def y2ay (s : St) : OX := y7p (s 1) (s 3) (s 8) s.h
theorem y1ju : T1 y0j ybg (y5 6 y7d xN) [.t 2] y2ay := sq y1q0 fun _ => by kernel_rfl
def y71 (v1 v3 v8 : AV) (h : Heap) : OX :=
ob (evFa 4 v1) fun v150 =>
ob (evLd false 1 v150 h) fun v151 =>
ob (y14 1 v151 h) fun v152 =>
ob (y7 .lss v8 v152) fun v153 =>
cnd v153
 ((y7p v1 v3 v8 h))
 ((yk9 h))
def y2gp (s : St) : OX := y71 (s 1) (s 3) (s 8) s.h
theorem y1v8 : T1 y13k ybg (y5 6 y7d xN) [.t 2] y2gp := sq y1ju fun _ => by kernel_rfl
theorem ynj (v1 v3 v8 : AV) (h : Heap) : yet v1 v3 v8 h = (y71 v1 v3 v8 h) :=
  y1n.trans ((y17 _ _ _ (n' := ybg) (fun s => ylg s)).trans ((y1v8 _).trans (by kernel_rfl)))
theorem y1s3 : T1 y11a y7d xN [.t 2] ybg := fun s => yw.trans (ylg s)
def yge (v1 v3 : AV) (h : Heap) : OX :=
(yet v1 v3 (AV.int .i64 0) h)
def y69 (s : St) : OX := yge (s 1) (s 3) s.h
theorem y1l2 : T1 y125 y7d xN [.t 2] y69 := sq y1s3 fun _ => by kernel_rfl
theorem y1sw : T0 yyq [.t 2] y69 := sq y1fv y1l2
def yfl (v1 v3 v6 : AV) (h : Heap) : OX :=
  W E 0 yj7 ⟨[(1, v1), (3, v3), (6, v6)], h⟩ y69 (y5 4 y69 xN) (finP [.t 2])
def ybl (s : St) : OX := yfl (s 1) (s 3) (s 6) s.h
theorem yn5 : T1 yj7 y69 (y5 4 y69 xN) [.t 2] ybl := fun s => yi.trans (by kernel_rfl)
def y9y (v1 v3 v6 : AV) (h : Heap) : OX :=
ob (y7 .add v6 (AV.int .i64 1)) fun v104 =>
(yfl v1 v3 v104 h)
def y1zq (s : St) : OX := y9y (s 1) (s 3) (s 6) s.h
theorem y19j : T1 ytf ybl (y5 4 y69 xN) [.t 2] y1zq := fun _ => by kernel_rfl
def y4r (v1 v3 v6 : AV) (h : Heap) : OX :=
ob (evFa 3 v1) fun v105 =>
ob (evLd false 1 v105 h) fun v106 =>
ob (yt 9 v106 v6) fun v108 =>
ob (evLd true 9 v108 h) fun v109 =>
oh (newC 0 (some 1) [(.int .i64 0), (.int .i64 0), (.int .i64 0), (.int .i64 0), (.int .i64 0), (.int .i64 0), (.int .i64 0), (.str []), .nils] h) fun v7 h4 =>
oh (evSt 9 v7 v109 h4) fun _ h5 =>
ob (evLd true 5 v1 h5) fun v110 =>
ob (evLd true 9 v7 h5) fun v111 =>
oh (y8 E (y9 E) 0 none true 64 [v110, v111] h5) fun v112 h6 =>
ob (evUn .not v112) fun v113 =>
gb v113 false (evFa 0 v7) fun v115 =>
gb v113 false (evLd false 1 v115 h6) fun v116 =>
gb v113 false (y7 .eql v116 (AV.int .i64 32)) fun v117 =>
gb v113 false (some v117) fun v118 =>
gb v118 true (some v6) fun v119 =>
gb v118 true (y7 .eql v119 (AV.int .i64 0)) fun v120 =>
gb v118 true (some v120) fun v121 =>
gb v121 false (evFa 3 v1) fun v122 =>
gb v121 false (evLd false 1 v122 h6) fun v123 =>
gb v121 false (some v6) fun v124 =>
gb v121 false (y7 .sub v124 (AV.int .i64 1)) fun v125 =>
gb v121 false (yt 9 v123 v125) fun v126 =>
gb v121 false (evFa 0 v126) fun v127 =>
gb v121 false (evLd false 1 v127 h6) fun v128 =>
gh v121 false (y8 E (y9 E) 0 none true 25 [v128] h6) h6 fun v129 h7 =>
gb v121 false (evUn .not v129) fun v130 =>
gb v118 true (yd v121 (AV.bool true) v130) fun v131 =>
gb v113 false (yd v118 v131 (AV.bool false)) fun v132 =>
ob (yd v113 (AV.bool true) v132) fun v133 =>
gb v133 false (evFa 0 v7) fun v135 =>
gb v133 false (evLd false 1 v135 h7) fun v136 =>
gh v133 false (y8 E (y9 E) 0 none true 23 [v136] h7) h7 fun v137 h8 =>
gb v133 false (some v137) fun v138 =>
gb v138 true (evFa 3 v1) fun v139 =>
gb v138 true (evLd false 1 v139 h8) fun v140 =>
gb v138 true (evFa 6 v7) fun v141 =>
gb v138 true (evLd false 1 v141 h8) fun v142 =>
gb v138 true (yt 9 v140 v142) fun v143 =>
gb v138 true (evFa 0 v143) fun v144 =>
gb v138 true (evLd false 1 v144 h8) fun v145 =>
gb v138 true (y7 .eql v145 (AV.int .i64 32)) fun v146 =>
gb v133 false (yd v138 v146 (AV.bool false)) fun v147 =>
ob (yd v133 (AV.bool true) v147) fun v148 =>
cnd v148
 ((ye h8 (AV.int .i64 80)))
 ((y9y v1 v3 v6 h8))
def y1zt (s : St) : OX := y4r (s 1) (s 3) (s 6) s.h
theorem y19p : T1 yr5 ybl (y5 4 y69 xN) [.t 2] y1zt := sq y19j fun _ => by kernel_rfl
def ya5 (v1 v3 v6 : AV) (h : Heap) : OX :=
ob (y7 .lss v6 v3) fun v102 =>
cnd v102
 ((y4r v1 v3 v6 h))
 ((yge v1 v3 h))
def y228 (s : St) : OX := ya5 (s 1) (s 3) (s 6) s.h
theorem y1a7 : T1 ys2 ybl (y5 4 y69 xN) [.t 2] y228 := sq y19p fun _ => by kernel_rfl
theorem ynb (v1 v3 v6 : AV) (h : Heap) : yfl v1 v3 v6 h = (ya5 v1 v3 v6 h) :=
  y1n.trans ((y17 _ _ _ (n' := ybl) (fun s => yn5 s)).trans ((y1a7 _).trans (by kernel_rfl)))
theorem y1ac : T1 yqj y69 xN [.t 2] ybl := fun s => yw.trans (yn5 s)
def yb5 (v1 v3 : AV) (h : Heap) : OX :=
(yfl v1 v3 (AV.int .i64 0) h)
def y4n (s : St) : OX := yb5 (s 1) (s 3) s.h
theorem y1aw : T1 yu4 y69 xN [.t 2] y4n := sq y1ac fun _ => by kernel_rfl
theorem y1c8 : T0 ysp [.t 2] y4n := sq y1sw y1aw
def yb7 (v1 v3 v5 : AV) (h : Heap) : OX :=
  W E 0 yer ⟨[(1, v1), (3, v3), (5, v5)], h⟩ y4n (y5 2 y4n xN) (finP [.t 2])
def y7g (s : St) : OX := yb7 (s 1) (s 3) (s 5) s.h
theorem yhh : T1 yer y4n (y5 2 y4n xN) [.t 2] y7g := fun s => yi.trans (by kernel_rfl)
def yct (v1 v3 v5 : AV) (h : Heap) : OX :=
ob (y7 .add v5 (AV.int .i64 1)) fun v79 =>
(yb7 v1 v3 v79 h)
def y21g (s : St) : OX := yct (s 1) (s 3) (s 5) s.h
theorem y18z : T1 yt6 y7g (y5 2 y4n xN) [.t 2] y21g := fun _ => by kernel_rfl
def y7u (v1 v3 v5 : AV) (h : Heap) : OX :=
ob (evLd true 5 v1 h) fun v80 =>
ob (evFa 1 v1) fun v81 =>
ob (evLd false 1 v81 h) fun v82 =>
ob (yt 1 v82 v5) fun v84 =>
ob (evLd false 1 v84 h) fun v85 =>
oh (y8 E (y9 E) 0 none true 48 [v80, v85] h) fun v86 h9 =>
ob (y7 .eql v86 (AV.int .i64 0)) fun v87 =>
gb v87 false (evFa 1 v1) fun v89 =>
gb v87 false (evLd false 1 v89 h9) fun v90 =>
gb v87 false (some v5) fun v91 =>
gb v87 false (yt 1 v90 v91) fun v92 =>
gb v87 false (evLd false 1 v92 h9) fun v93 =>
gb v87 false (evFa 1 v1) fun v94 =>
gb v87 false (evLd false 1 v94 h9) fun v95 =>
gb v87 false (some v5) fun v96 =>
gb v87 false (yby 1 v95 none (some v96)) fun v97 =>
gh v87 false (y8 E (y9 E) 0 none true 42 [v93, v97] h9) h9 fun v98 h10 =>
ob (yd v87 (AV.bool true) v98) fun v99 =>
cnd v99
 ((ye h10 (AV.int .i64 80)))
 ((yct v1 v3 v5 h10))
def y1yr (s : St) : OX := y7u (s 1) (s 3) (s 5) s.h
theorem y19o : T1 ytc y7g (y5 2 y4n xN) [.t 2] y1yr := sq y18z fun _ => by kernel_rfl
def y7e (v1 v3 v5 : AV) (h : Heap) : OX :=
ob (evFa 1 v1) fun v74 =>
ob (evLd false 1 v74 h) fun v75 =>
ob (y14 1 v75 h) fun v76 =>
ob (y7 .lss v5 v76) fun v77 =>
cnd v77
 ((y7u v1 v3 v5 h))
 ((yb5 v1 v3 h))
def y213 (s : St) : OX := y7e (s 1) (s 3) (s 5) s.h
theorem y197 : T1 yrv y7g (y5 2 y4n xN) [.t 2] y213 := sq y19o fun _ => by kernel_rfl
theorem yi1 (v1 v3 v5 : AV) (h : Heap) : yb7 v1 v3 v5 h = (y7e v1 v3 v5 h) :=
  y1n.trans ((y17 _ _ _ (n' := y7g) (fun s => yhh s)).trans ((y197 _).trans (by kernel_rfl)))
theorem y1bp : T1 yqg y4n xN [.t 2] y7g := fun s => yw.trans (yhh s)
def yad (v1 v3 : AV) (h : Heap) : OX :=
(yb7 v1 v3 (AV.int .i64 0) h)
def y4q (s : St) : OX := yad (s 1) (s 3) s.h
theorem y19e : T1 ytg y4n xN [.t 2] y4q := sq y1bp fun _ => by kernel_rfl
theorem y1bj : T0 ysk [.t 2] y4q := sq y1c8 y19e
def ybc (v1 v3 v4 : AV) (h : Heap) : OX :=
  W E 0 yf2 ⟨[(1, v1), (3, v3), (4, v4)], h⟩ y4q (y5 0 y4q xN) (finP [.t 2])
def y7f (s : St) : OX := ybc (s 1) (s 3) (s 4) s.h
theorem ykb : T1 yf2 y4q (y5 0 y4q xN) [.t 2] y7f := fun s => yi.trans (by kernel_rfl)
def ycm (v1 v3 v4 : AV) (h : Heap) : OX :=
ob (y7 .add v4 (AV.int .i64 1)) fun v58 =>
(ybc v1 v3 v58 h)
def y1y2 (s : St) : OX := ycm (s 1) (s 3) (s 4) s.h
theorem y194 : T1 ysq y7f (y5 0 y4q xN) [.t 2] y1y2 := fun _ => by kernel_rfl
def y7x (v1 v3 v4 : AV) (h : Heap) : OX :=
ob (evFa 0 v1) fun v59 =>
ob (evLd false 1 v59 h) fun v60 =>
ob (yt 1 v60 v4) fun v62 =>
ob (evLd false 1 v62 h) fun v63 =>
ob (y7 .lss v63 (AV.int .i64 1)) fun v64 =>
gb v64 false (evFa 0 v1) fun v66 =>
gb v64 false (evLd false 1 v66 h) fun v67 =>
gb v64 false (some v4) fun v68 =>
gb v64 false (yt 1 v67 v68) fun v69 =>
gb v64 false (evLd false 1 v69 h) fun v70 =>
gb v64 false (y7 .gtr v70 (AV.int .i64 3)) fun v71 =>
ob (yd v64 (AV.bool true) v71) fun v72 =>
cnd v72
 ((ye h (AV.int .i64 80)))
 ((ycm v1 v3 v4 h))
def y22v (s : St) : OX := y7x (s 1) (s 3) (s 4) s.h
theorem y18m : T1 yrf y7f (y5 0 y4q xN) [.t 2] y22v := sq y194 fun _ => by kernel_rfl
def y78 (v1 v3 v4 : AV) (h : Heap) : OX :=
ob (evFa 0 v1) fun v53 =>
ob (evLd false 1 v53 h) fun v54 =>
ob (y14 1 v54 h) fun v55 =>
ob (y7 .lss v4 v55) fun v56 =>
cnd v56
 ((y7x v1 v3 v4 h))
 ((yad v1 v3 h))
def y23k (s : St) : OX := y78 (s 1) (s 3) (s 4) s.h
theorem y19g : T1 ypy y7f (y5 0 y4q xN) [.t 2] y23k := sq y18m fun _ => by kernel_rfl
theorem yk0 (v1 v3 v4 : AV) (h : Heap) : ybc v1 v3 v4 h = (y78 v1 v3 v4 h) :=
  y1n.trans ((y17 _ _ _ (n' := y7f) (fun s => ykb s)).trans ((y19g _).trans (by kernel_rfl)))
theorem y19t : T1 ypg y4q xN [.t 2] y7f := fun s => yw.trans (ykb s)
def yfi (v1 v3 : AV) (h : Heap) : OX :=
(ybc v1 v3 (AV.int .i64 0) h)
def y141 (s : St) : OX := yfi (s 1) (s 3) s.h
theorem y1b4 : T1 ypj y4q xN [.t 2] y141 := sq y19t fun _ => by kernel_rfl
theorem y1c3 : T0 yrg [.t 2] y141 := sq y1bj y1b4
def y4w (v1 v3 : AV) (h : Heap) : OX :=
ob (y7 .eql v3 (AV.int .i64 0)) fun v14 =>
gb v14 false (some v3) fun v16 =>
gb v14 false (y7 .gtr v16 (AV.int .i64 20000)) fun v17 =>
ob (yd v14 (AV.bool true) v17) fun v18 =>
gb v18 false (evFa 0 v1) fun v20 =>
gb v18 false (evLd false 1 v20 h) fun v21 =>
gb v18 false (y14 1 v21 h) fun v22 =>
gb v18 false (y7 .gtr v22 (AV.int .i64 20000)) fun v23 =>
ob (yd v18 (AV.bool true) v23) fun v24 =>
gb v24 false (evFa 1 v1) fun v26 =>
gb v24 false (evLd false 1 v26 h) fun v27 =>
gb v24 false (y14 1 v27 h) fun v28 =>
gb v24 false (y7 .gtr v28 (AV.int .i64 21)) fun v29 =>
ob (yd v24 (AV.bool true) v29) fun v30 =>
gb v30 false (evFa 2 v1) fun v32 =>
gb v30 false (evLd false 1 v32 h) fun v33 =>
gb v30 false (y7 .lss v33 (AV.int .i64 0)) fun v34 =>
ob (yd v30 (AV.bool true) v34) fun v35 =>
gb v35 false (evFa 2 v1) fun v37 =>
gb v35 false (evLd false 1 v37 h) fun v38 =>
gb v35 false (y7 .gtr v38 (AV.int .i64 3)) fun v39 =>
ob (yd v35 (AV.bool true) v39) fun v40 =>
gb v40 false (evFa 3 v1) fun v42 =>
gb v40 false (evLd false 1 v42 h) fun v43 =>
gb v40 false (some v3) fun v44 =>
gb v40 false (y7 .sub v44 (AV.int .i64 1)) fun v45 =>
gb v40 false (yt 9 v43 v45) fun v46 =>
gb v40 false (evFa 0 v46) fun v47 =>
gb v40 false (evLd false 1 v47 h) fun v48 =>
gh v40 false (y8 E (y9 E) 0 none true 25 [v48] h) h fun v49 h11 =>
gb v40 false (evUn .not v49) fun v50 =>
ob (yd v40 (AV.bool true) v50) fun v51 =>
cnd v51
 ((ye h11 (AV.int .i64 80)))
 ((yfi v1 v3 h11))
def y1zz (s : St) : OX := y4w (s 1) (s 3) s.h
theorem y199 : T0 yr0 [.t 2] y1zz := sq y1c3 fun _ => by kernel_rfl
def y4o (v1 : AV) (h : Heap) : OX :=
ob (evFa 3 v1) fun v10 =>
ob (evLd false 1 v10 h) fun v11 =>
ob (y14 1 v11 h) fun v12 =>
(y4w v1 v12 h)
def y24p (s : St) : OX := y4o (s 1) s.h
theorem y192 : T0 yrh [.t 2] y24p := sq y199 fun _ => by kernel_rfl
def y4f (v0 : AV) (h : Heap) : OX :=
oh (newC 0 (some 0) (cellsOf v0) h) fun v1 h12 =>
(y4o v1 h12)
def y216 (s : St) : OX := y4f (s 0) s.h
theorem y18w : T0 yq5 [.t 2] y216 := sq y192 fun _ => by kernel_rfl
@[simp] theorem y2ry : E.pure 29 = true := rfl
theorem y2n5 (v0 : AV) : (y9 E).p 29 [v0] = y4f v0 [⟨0, .dead⟩, ⟨0, .dead⟩, ⟨0, .dead⟩] :=
  (y12 (cf := y287) (by kernel_rfl) rfl).trans ((y18w _).trans (by kernel_rfl))
def y2bw (h : Heap) : OX :=
(ye h (AV.bool true))
def y43 (s : St) : OX := y2bw s.h
theorem y20w : T0 y1dt [.t 2] y43 := fun _ => by kernel_rfl
def ymv (v3 v104 v105 v106 : AV) (h : Heap) : OX :=
  W E 0 yp2 ⟨[(3, v3), (104, v104), (105, v105), (106, v106)], h⟩ y43 (y5 8 y43 xN) (finP [.t 2])
def ycs (s : St) : OX := ymv (s 3) (s 104) (s 105) (s 106) s.h
theorem ys0 : T1 yp2 y43 (y5 8 y43 xN) [.t 2] ycs := fun s => yi.trans (by kernel_rfl)
def y1uz (v3 v104 v105 v106 : AV) (h : Heap) : OX :=
ob (y7 .add v106 (AV.int .i64 1)) fun v134 =>
(ymv v3 v104 v105 v134 h)
def y3z (s : St) : OX := y1uz (s 3) (s 104) (s 105) (s 106) s.h
theorem y21h : T1 y1mw ycs (y5 8 y43 xN) [.t 2] y3z := fun _ => by kernel_rfl
def yqs (v3 v15 v104 v105 v106 v112 v113 v114 : AV) (h : Heap) : OX :=
  W E 0 yos ⟨[(3, v3), (15, v15), (104, v104), (105, v105), (106, v106), (112, v112), (113, v113), (114, v114)], h⟩ y3z (y5 10 y3z (y5 9 y3z (y5 8 y43 xN))) (finP [.t 2])
def yd6 (s : St) : OX := yqs (s 3) (s 15) (s 104) (s 105) (s 106) (s 112) (s 113) (s 114) s.h
theorem yqp : T1 yos y3z (y5 10 y3z (y5 9 y3z (y5 8 y43 xN))) [.t 2] yd6 := fun s => yi.trans (by kernel_rfl)
def y24k (v3 v15 v104 v105 v106 v112 v113 v114 : AV) (h : Heap) : OX :=
ob (y7 .add v114 (AV.int .i64 1)) fun v133 =>
(yqs v3 v15 v104 v105 v106 v112 v113 v133 h)
def y2mp (s : St) : OX := y24k (s 3) (s 15) (s 104) (s 105) (s 106) (s 112) (s 113) (s 114) s.h
theorem y25u : T1 y1r6 yd6 (y5 10 y3z (y5 9 y3z (y5 8 y43 xN))) [.t 2] y2mp := fun _ => by kernel_rfl
def y1n7 (v3 v15 v104 v105 v106 v112 v113 v114 : AV) (h : Heap) : OX :=
ob (yt 1 v112 v114) fun v116 =>
ob (evLd false 1 v116 h) fun v117 =>
ob (yt 1 v3 v15) fun v120 =>
ob (evLd false 1 v120 h) fun v121 =>
ob (y5f 1 true v121 AV.nils) fun v122 =>
gb v122 true (some v3) fun v124 =>
gb v122 true (some v15) fun v125 =>
gb v122 true (yt 1 v124 v125) fun v126 =>
gb v122 true (evLd false 1 v126 h) fun v127 =>
gb v122 true (some v117) fun v128 =>
gb v122 true (yt 1 v127 v128) fun v129 =>
gb v122 true (evLd false 1 v129 h) fun v130 =>
gb v122 true (evUn .not v130) fun v131 =>
ob (yd v122 v131 (AV.bool false)) fun v132 =>
cnd v132
 ((ye h (AV.bool false)))
 ((y24k v3 v15 v104 v105 v106 v112 v113 v114 h))
def y2n9 (s : St) : OX := y1n7 (s 3) (s 15) (s 104) (s 105) (s 106) (s 112) (s 113) (s 114) s.h
theorem y23c : T1 y1lx yd6 (y5 10 y3z (y5 9 y3z (y5 8 y43 xN))) [.t 2] y2n9 := sq y25u fun _ => by kernel_rfl
def y1au (v3 v15 v104 v105 v106 v112 v113 v114 v115 : AV) (h : Heap) : OX :=
cnd v115
 ((y1n7 v3 v15 v104 v105 v106 v112 v113 v114 h))
 ((y1uz v3 v104 v105 v106 h))
def y2ib (s : St) : OX := y1au (s 3) (s 15) (s 104) (s 105) (s 106) (s 112) (s 113) (s 114) (s 115) s.h
theorem y22h : T1 y1j7 yd6 (y5 10 y3z (y5 9 y3z (y5 8 y43 xN))) [.t 2] y2ib := sq y23c fun _ => by kernel_rfl
def y19l (v3 v15 v104 v105 v106 v112 v113 v114 : AV) (h : Heap) : OX :=
ob (y7 .lss v114 v113) fun v115 =>
(y1au v3 v15 v104 v105 v106 v112 v113 v114 v115 h)
def y2ig (s : St) : OX := y19l (s 3) (s 15) (s 104) (s 105) (s 106) (s 112) (s 113) (s 114) s.h
theorem y1xq : T1 y1tq yd6 (y5 10 y3z (y5 9 y3z (y5 8 y43 xN))) [.t 2] y2ig := sq y22h fun _ => by kernel_rfl
theorem yr1 (v3 v15 v104 v105 v106 v112 v113 v114 : AV) (h : Heap) : yqs v3 v15 v104 v105 v106 v112 v113 v114 h = (y19l v3 v15 v104 v105 v106 v112 v113 v114 h) :=
  y1n.trans ((y17 _ _ _ (n' := yd6) (fun s => yqp s)).trans ((y1xq _).trans (by kernel_rfl)))
theorem y217 : T1 y1p4 y3z (y5 9 y3z (y5 8 y43 xN)) [.t 2] yd6 := fun s => yw.trans (yqp s)
def y1po (v3 v15 v16 v104 v105 v106 : AV) (h : Heap) : OX :=
ob (evLd true 9 v16 h) fun v111 =>
oh (y8 E (y9 E) 0 none true 10 [v111] h) fun v112 h1 =>
ob (y14 1 v112 h1) fun v113 =>
(yqs v3 v15 v104 v105 v106 v112 v113 (AV.int .i64 0) h1)
def y2eu (s : St) : OX := y1po (s 3) (s 15) (s 16) (s 104) (s 105) (s 106) s.h
theorem y1lr : T1 y142 y3z (y5 9 y3z (y5 8 y43 xN)) [.t 2] y2eu := sq y217 fun _ => by kernel_rfl
def y1iu (v3 v104 v105 v106 : AV) (h : Heap) : OX :=
ob (yt 9 v104 v106) fun v109 =>
ob (evLd true 9 v109 h) fun v110 =>
oh (newC 0 (some 5) [(.int .i64 0), (.int .i64 0), (.int .i64 0), (.int .i64 0), (.int .i64 0), (.int .i64 0), (.int .i64 0), (.str []), .nils] h) fun v16 h2 =>
oh (evSt 9 v16 v110 h2) fun _ h3 =>
(y1po v3 v106 v16 v104 v105 v106 h3)
def ywb (s : St) : OX := y1iu (s 3) (s 104) (s 105) (s 106) s.h
theorem y1rq : T1 ywn y3z (y5 9 y3z (y5 8 y43 xN)) [.t 2] ywb := sq y1lr fun _ => by kernel_rfl
theorem y1wr : T1 y12c y3z (y5 8 y43 xN) [.t 2] ywb := fun s => yw.trans (y1rq s)
theorem y1ee : T1 ywh ycs (y5 8 y43 xN) [.t 2] ywb := sq y21h y1wr
def y12x (v3 v104 v105 v106 v107 : AV) (h : Heap) : OX :=
cnd v107
 ((y1iu v3 v104 v105 v106 h))
 ((y2bw h))
def y2dq (s : St) : OX := y12x (s 3) (s 104) (s 105) (s 106) (s 107) s.h
theorem y1in : T1 y145 ycs (y5 8 y43 xN) [.t 2] y2dq := sq y1ee fun _ => by kernel_rfl
def yxe (v3 v104 v105 v106 : AV) (h : Heap) : OX :=
ob (y7 .lss v106 v105) fun v107 =>
(y12x v3 v104 v105 v106 v107 h)
def y2cl (s : St) : OX := yxe (s 3) (s 104) (s 105) (s 106) s.h
theorem y1jk : T1 y13i ycs (y5 8 y43 xN) [.t 2] y2cl := sq y1in fun _ => by kernel_rfl
theorem yqn (v3 v104 v105 v106 : AV) (h : Heap) : ymv v3 v104 v105 v106 h = (yxe v3 v104 v105 v106 h) :=
  y1n.trans ((y17 _ _ _ (n' := ycs) (fun s => ys0 s)).trans ((y1jk _).trans (by kernel_rfl)))
theorem y1fe : T1 yzg y43 xN [.t 2] ycs := fun s => yw.trans (ys0 s)
def yqy (v1 v3 : AV) (h : Heap) : OX :=
ob (evFa 3 v1) fun v103 =>
ob (evLd false 1 v103 h) fun v104 =>
ob (y14 1 v104 h) fun v105 =>
(ymv v3 v104 v105 (AV.int .i64 0) h)
def y24 (s : St) : OX := yqy (s 1) (s 3) s.h
theorem y1t6 : T1 y174 y43 xN [.t 2] y24 := sq y1fe fun _ => by kernel_rfl
theorem y1kc : T0 y118 [.t 2] y24 := sq y20w y1t6
def yfj (v1 v3 v7 : AV) (h : Heap) : OX :=
  W E 0 yke ⟨[(1, v1), (3, v3), (7, v7)], h⟩ y24 (y5 2 y24 xN) (finP [.t 2])
def yy (s : St) : OX := yfj (s 1) (s 3) (s 7) s.h
theorem yky : T1 yke y24 (y5 2 y24 xN) [.t 2] yy := fun s => yi.trans (by kernel_rfl)
def yd2 (v1 v3 v7 v9 v91 v92 v93 : AV) (h : Heap) : OX :=
  W E 0 yjh ⟨[(1, v1), (3, v3), (7, v7), (9, v9), (91, v91), (92, v92), (93, v93)], h⟩ yy (y5 6 yy (y5 3 yy (y5 2 y24 xN))) (finP [.t 2])
def y8o (s : St) : OX := yd2 (s 1) (s 3) (s 7) (s 9) (s 91) (s 92) (s 93) s.h
theorem ymx : T1 yjh yy (y5 6 yy (y5 3 yy (y5 2 y24 xN))) [.t 2] y8o := fun s => yi.trans (by kernel_rfl)
def y1gf (v1 v3 v7 v9 v91 v92 v93 : AV) (h : Heap) : OX :=
ob (y7 .add v93 (AV.int .i64 1)) fun v102 =>
(yd2 v1 v3 v7 v9 v91 v92 v102 h)
def y2h1 (s : St) : OX := y1gf (s 1) (s 3) (s 7) (s 9) (s 91) (s 92) (s 93) s.h
theorem y1vt : T1 y13r y8o (y5 6 yy (y5 3 yy (y5 2 y24 xN))) [.t 2] y2h1 := fun _ => by kernel_rfl
def y1sl (v1 v3 v7 v9 v91 v92 v93 : AV) (h : Heap) : OX :=
ob (yt 1 v91 v93) fun v95 =>
ob (evLd false 1 v95 h) fun v96 =>
oh (y8 E (y9 E) 0 none false 80 [v3, v96, v9, v7] h) fun v101 h4 =>
(y1gf v1 v3 v101 v9 v91 v92 v93 h4)
def y29h (s : St) : OX := y1sl (s 1) (s 3) (s 7) (s 9) (s 91) (s 92) (s 93) s.h
theorem y1kx : T1 y11l y8o (y5 6 yy (y5 3 yy (y5 2 y24 xN))) [.t 2] y29h := sq y1vt fun _ => by kernel_rfl
def ywl (v1 v3 v7 v9 v91 v92 v93 v94 : AV) (h : Heap) : OX :=
cnd v94
 ((y1sl v1 v3 v7 v9 v91 v92 v93 h))
 ((yfj v1 v3 v7 h))
def y2b4 (s : St) : OX := ywl (s 1) (s 3) (s 7) (s 9) (s 91) (s 92) (s 93) (s 94) s.h
theorem y1mb : T1 y11q y8o (y5 6 yy (y5 3 yy (y5 2 y24 xN))) [.t 2] y2b4 := sq y1kx fun _ => by kernel_rfl
def y133 (v1 v3 v7 v9 v91 v92 v93 : AV) (h : Heap) : OX :=
ob (y7 .lss v93 v92) fun v94 =>
(ywl v1 v3 v7 v9 v91 v92 v93 v94 h)
def y2di (s : St) : OX := y133 (s 1) (s 3) (s 7) (s 9) (s 91) (s 92) (s 93) s.h
theorem y1ns : T1 y03 y8o (y5 6 yy (y5 3 yy (y5 2 y24 xN))) [.t 2] y2di := sq y1mb fun _ => by kernel_rfl
theorem ylw (v1 v3 v7 v9 v91 v92 v93 : AV) (h : Heap) : yd2 v1 v3 v7 v9 v91 v92 v93 h = (y133 v1 v3 v7 v9 v91 v92 v93 h) :=
  y1n.trans ((y17 _ _ _ (n' := y8o) (fun s => ymx s)).trans ((y1ns _).trans (by kernel_rfl)))
theorem y1ed : T1 y17c yy (y5 3 yy (y5 2 y24 xN)) [.t 2] y8o := fun s => yw.trans (ymx s)
def yne (v1 v3 v7 v8 v9 : AV) (h : Heap) : OX :=
ob (evLd true 5 v1 h) fun v89 =>
oh (y8 E (y9 E) 0 none true 81 [v89, v8] h) fun v91 h5 =>
ob (y14 1 v91 h5) fun v92 =>
(yd2 v1 v3 v7 v9 v91 v92 (AV.int .i64 0) h5)
def y29x (s : St) : OX := yne (s 1) (s 3) (s 7) (s 8) (s 9) s.h
theorem y1r5 : T1 y18c yy (y5 3 yy (y5 2 y24 xN)) [.t 2] y29x := sq y1ed fun _ => by kernel_rfl
def ynl (v1 v3 v7 v8 v9 : AV) (h : Heap) : OX :=
ob (evFa 3 v1) fun v78 =>
ob (evLd false 1 v78 h) fun v79 =>
ob (yt 9 v79 v8) fun v81 =>
ob (evLd true 9 v81 h) fun v82 =>
oh (y8 E (y9 E) 0 none true 9 [v82] h) fun v83 h6 =>
ob (y7 .geq v83 (AV.int .i64 0)) fun v85 =>
cnd v85
 (ob (yt 1 v9 v83) fun v88 =>
oh (evSt 1 v88 (AV.bool true) h6) fun _ h7 =>
(yne v1 v3 v7 v8 v9 h7))
 ((yne v1 v3 v7 v8 v9 h6))
def y6i (s : St) : OX := ynl (s 1) (s 3) (s 7) (s 8) (s 9) s.h
theorem y1dp : T1 yz9 yy (y5 3 yy (y5 2 y24 xN)) [.t 2] y6i := sq y1r5 fun _ => by kernel_rfl
def yep (v1 v3 v7 v8 v9 v66 v67 v68 : AV) (h : Heap) : OX :=
  W E 0 yj2 ⟨[(1, v1), (3, v3), (7, v7), (8, v8), (9, v9), (66, v66), (67, v67), (68, v68)], h⟩ y6i (y5 4 y6i (y5 3 yy (y5 2 y24 xN))) (finP [.t 2])
def y8a (s : St) : OX := yep (s 1) (s 3) (s 7) (s 8) (s 9) (s 66) (s 67) (s 68) s.h
theorem ykz : T1 yj2 y6i (y5 4 y6i (y5 3 yy (y5 2 y24 xN))) [.t 2] y8a := fun s => yi.trans (by kernel_rfl)
def y1f2 (v1 v3 v7 v8 v9 v66 v67 v68 : AV) (h : Heap) : OX :=
ob (y7 .add v68 (AV.int .i64 1)) fun v77 =>
(yep v1 v3 v7 v8 v9 v66 v67 v77 h)
def y2gt (s : St) : OX := y1f2 (s 1) (s 3) (s 7) (s 8) (s 9) (s 66) (s 67) (s 68) s.h
theorem y1ia : T1 y16n y8a (y5 4 y6i (y5 3 yy (y5 2 y24 xN))) [.t 2] y2gt := fun _ => by kernel_rfl
def y1iy (v1 v3 v7 v8 v9 v66 v67 v68 : AV) (h : Heap) : OX :=
ob (yt 1 v66 v68) fun v70 =>
ob (evLd false 1 v70 h) fun v71 =>
oh (y8 E (y9 E) 0 none false 80 [v3, v71, v9, v7] h) fun v76 h8 =>
(y1f2 v1 v3 v76 v8 v9 v66 v67 v68 h8)
def y2f2 (s : St) : OX := y1iy (s 1) (s 3) (s 7) (s 8) (s 9) (s 66) (s 67) (s 68) s.h
theorem y1g0 : T1 y11g y8a (y5 4 y6i (y5 3 yy (y5 2 y24 xN))) [.t 2] y2f2 := sq y1ia fun _ => by kernel_rfl
def y11y (v1 v3 v7 v8 v9 v66 v67 v68 v69 : AV) (h : Heap) : OX :=
cnd v69
 ((y1iy v1 v3 v7 v8 v9 v66 v67 v68 h))
 ((ynl v1 v3 v7 v8 v9 h))
def y2du (s : St) : OX := y11y (s 1) (s 3) (s 7) (s 8) (s 9) (s 66) (s 67) (s 68) (s 69) s.h
theorem y1w6 : T1 yzj y8a (y5 4 y6i (y5 3 yy (y5 2 y24 xN))) [.t 2] y2du := sq y1g0 fun _ => by kernel_rfl
def y17f (v1 v3 v7 v8 v9 v66 v67 v68 : AV) (h : Heap) : OX :=
ob (y7 .lss v68 v67) fun v69 =>
(y11y v1 v3 v7 v8 v9 v66 v67 v68 v69 h)
def y2dj (s : St) : OX := y17f (s 1) (s 3) (s 7) (s 8) (s 9) (s 66) (s 67) (s 68) s.h
theorem y1q9 : T1 y16o y8a (y5 4 y6i (y5 3 yy (y5 2 y24 xN))) [.t 2] y2dj := sq y1w6 fun _ => by kernel_rfl
theorem ykt (v1 v3 v7 v8 v9 v66 v67 v68 : AV) (h : Heap) : yep v1 v3 v7 v8 v9 v66 v67 v68 h = (y17f v1 v3 v7 v8 v9 v66 v67 v68 h) :=
  y1n.trans ((y17 _ _ _ (n' := y8a) (fun s => ykz s)).trans ((y1q9 _).trans (by kernel_rfl)))
theorem y1u2 : T1 y185 y6i (y5 3 yy (y5 2 y24 xN)) [.t 2] y8a := fun s => yw.trans (ykz s)
def y1u4 (v1 v3 v7 v8 v9 : AV) (h : Heap) : OX :=
ob (evLd true 5 v1 h) fun v64 =>
oh (y8 E (y9 E) 0 none true 79 [v64, v8] h) fun v66 h9 =>
ob (y14 1 v66 h9) fun v67 =>
(yep v1 v3 v7 v8 v9 v66 v67 (AV.int .i64 0) h9)
def y1x0 (s : St) : OX := y1u4 (s 1) (s 3) (s 7) (s 8) (s 9) s.h
theorem y1ub : T1 y11t y6i (y5 3 yy (y5 2 y24 xN)) [.t 2] y1x0 := sq y1u2 fun _ => by kernel_rfl
theorem y1p9 : T1 yyl yy (y5 3 yy (y5 2 y24 xN)) [.t 2] y1x0 := sq y1dp y1ub
def y0x (v1 v3 v7 v8 : AV) (h : Heap) : OX :=
ob (yt 1 v3 v8) fun v61 =>
ob (evLd false 1 v61 h) fun v62 =>
oh (y8 E (y9 E) 0 (some 4) false 78 [v62] h) fun v63 h10 =>
(y1u4 v1 v3 v7 v8 v63 h10)
def y2b2 (s : St) : OX := y0x (s 1) (s 3) (s 7) (s 8) s.h
theorem y1pm : T1 ywi yy (y5 3 yy (y5 2 y24 xN)) [.t 2] y2b2 := sq y1p9 fun _ => by kernel_rfl
def y1k4 (v1 v3 v7 v8 : AV) (h : Heap) : OX :=
ob (y14 1 v7 h) fun v56 =>
ob (y7 .sub v56 (AV.int .i64 1)) fun v57 =>
ob (yby 1 v7 none (some v57)) fun v58 =>
(y0x v1 v3 v58 v8 h)
def y2do (s : St) : OX := y1k4 (s 1) (s 3) (s 7) (s 8) s.h
theorem y1tm : T1 ywg yy (y5 3 yy (y5 2 y24 xN)) [.t 2] y2do := sq y1pm fun _ => by kernel_rfl
def y1lc (v1 v3 v7 : AV) (h : Heap) : OX :=
ob (y14 1 v7 h) fun v50 =>
ob (y7 .sub v50 (AV.int .i64 1)) fun v51 =>
ob (yt 1 v7 v51) fun v52 =>
ob (evLd false 1 v52 h) fun v53 =>
(y1k4 v1 v3 v7 v53 h)
def y1sb (s : St) : OX := y1lc (s 1) (s 3) (s 7) s.h
theorem y1j3 : T1 yyy yy (y5 3 yy (y5 2 y24 xN)) [.t 2] y1sb := sq y1tm fun _ => by kernel_rfl
theorem y1jr : T1 yyv yy (y5 2 y24 xN) [.t 2] y1sb := fun s => yw.trans (y1j3 s)
def ytt (v1 v3 v7 : AV) (h : Heap) : OX :=
ob (y14 1 v7 h) fun v46 =>
ob (y7 .gtr v46 (AV.int .i64 0)) fun v47 =>
cnd v47
 ((y1lc v1 v3 v7 h))
 ((yqy v1 v3 h))
def y29z (s : St) : OX := ytt (s 1) (s 3) (s 7) s.h
theorem y1vi : T1 yy6 yy (y5 2 y24 xN) [.t 2] y29z := sq y1jr fun _ => by kernel_rfl
theorem y1af (v1 v3 v7 : AV) (h : Heap) : yfj v1 v3 v7 h = (ytt v1 v3 v7 h) :=
  y1n.trans ((y17 _ _ _ (n' := yy) (fun s => yky s)).trans ((y1vi _).trans (by kernel_rfl)))
theorem y1ts : T1 y12p y24 xN [.t 2] yy := fun s => yw.trans (yky s)
theorem y1ch : T0 y16a [.t 2] yy := sq y1kc y1ts
def y1o2 (v1 v3 v4 v7 : AV) (h : Heap) : OX :=
ob (yt 1 v3 (AV.int .i64 0)) fun v44 =>
oh (evSt 1 v44 v4 h) fun _ h11 =>
(yfj v1 v3 v7 h11)
def y2h2 (s : St) : OX := y1o2 (s 1) (s 3) (s 4) (s 7) s.h
theorem y1tw : T0 y170 [.t 2] y2h2 := sq y1ch fun _ => by kernel_rfl
def yxg (v1 v3 v4 : AV) (h : Heap) : OX :=
oh (y11 0 (some 3) 1 1 [(.int .i64 0)] [(0, (AV.int .i64 0))] h) fun v41 h12 =>
(y1o2 v1 v3 v4 v41 h12)
def y67 (s : St) : OX := yxg (s 1) (s 3) (s 4) s.h
theorem y1w0 : T0 y13u [.t 2] y67 := sq y1tw fun _ => by kernel_rfl
def yii (v1 v3 v4 v31 v32 v33 : AV) (h : Heap) : OX :=
  W E 0 yjm ⟨[(1, v1), (3, v3), (4, v4), (31, v31), (32, v32), (33, v33)], h⟩ y67 (y5 0 y67 xN) (finP [.t 2])
def y8n (s : St) : OX := yii (s 1) (s 3) (s 4) (s 31) (s 32) (s 33) s.h
theorem ymq : T1 yjm y67 (y5 0 y67 xN) [.t 2] y8n := fun s => yi.trans (by kernel_rfl)
def y1fm (v1 v3 v4 v31 v32 v33 : AV) (h : Heap) : OX :=
ob (y7 .add v33 (AV.int .i64 1)) fun v40 =>
(yii v1 v3 v4 v31 v32 v40 h)
def y2g8 (s : St) : OX := y1fm (s 1) (s 3) (s 4) (s 31) (s 32) (s 33) s.h
theorem y1mt : T1 y06 y8n (y5 0 y67 xN) [.t 2] y2g8 := fun _ => by kernel_rfl
def y1r2 (v1 v3 v4 v31 v32 v33 : AV) (h : Heap) : OX :=
ob (yt 1 v31 v33) fun v35 =>
ob (evLd false 1 v35 h) fun v36 =>
ob (yt 1 v4 v36) fun v39 =>
oh (evSt 1 v39 (AV.bool true) h) fun _ h13 =>
(y1fm v1 v3 v4 v31 v32 v33 h13)
def y2dl (s : St) : OX := y1r2 (s 1) (s 3) (s 4) (s 31) (s 32) (s 33) s.h
theorem y1ox : T1 y14g y8n (y5 0 y67 xN) [.t 2] y2dl := sq y1mt fun _ => by kernel_rfl
def ywr (v1 v3 v4 v31 v32 v33 v34 : AV) (h : Heap) : OX :=
cnd v34
 ((y1r2 v1 v3 v4 v31 v32 v33 h))
 ((yxg v1 v3 v4 h))
def y2ev (s : St) : OX := ywr (s 1) (s 3) (s 4) (s 31) (s 32) (s 33) (s 34) s.h
theorem y1kh : T1 y13a y8n (y5 0 y67 xN) [.t 2] y2ev := sq y1ox fun _ => by kernel_rfl
def yz4 (v1 v3 v4 v31 v32 v33 : AV) (h : Heap) : OX :=
ob (y7 .lss v33 v32) fun v34 =>
(ywr v1 v3 v4 v31 v32 v33 v34 h)
def y2bc (s : St) : OX := yz4 (s 1) (s 3) (s 4) (s 31) (s 32) (s 33) s.h
theorem y1ma : T1 y0q y8n (y5 0 y67 xN) [.t 2] y2bc := sq y1kh fun _ => by kernel_rfl
theorem ynd (v1 v3 v4 v31 v32 v33 : AV) (h : Heap) : yii v1 v3 v4 v31 v32 v33 h = (yz4 v1 v3 v4 v31 v32 v33 h) :=
  y1n.trans ((y17 _ _ _ (n' := y8n) (fun s => ymq s)).trans ((y1ma _).trans (by kernel_rfl)))
theorem y1ph : T1 y14h y67 xN [.t 2] y8n := fun s => yw.trans (ymq s)
def y1n4 (v1 v3 v4 : AV) (h : Heap) : OX :=
ob (evFa 1 v1) fun v30 =>
ob (evLd false 1 v30 h) fun v31 =>
ob (y14 1 v31 h) fun v32 =>
(yii v1 v3 v4 v31 v32 (AV.int .i64 0) h)
def y1rp (s : St) : OX := y1n4 (s 1) (s 3) (s 4) s.h
theorem y1ta : T1 y17v y67 xN [.t 2] y1rp := sq y1ph fun _ => by kernel_rfl
theorem y1ls : T0 y17s [.t 2] y1rp := sq y1w0 y1ta
def y1lf (v1 v3 : AV) (h : Heap) : OX :=
ob (evFa 0 v1) fun v26 =>
ob (evLd false 1 v26 h) fun v27 =>
ob (y14 1 v27 h) fun v28 =>
oh (mkSC 0 (some 2) 1 1 [(.bool false)] v28 v28 h) fun v29 h14 =>
(y1n4 v1 v3 v29 h14)
def y2a7 (s : St) : OX := y1lf (s 1) (s 3) s.h
theorem y1uk : T0 ywt [.t 2] y2a7 := sq y1ls fun _ => by kernel_rfl
def y1qj (v1 : AV) (h : Heap) : OX :=
ob (evFa 3 v1) fun v22 =>
ob (evLd false 1 v22 h) fun v23 =>
ob (y14 1 v23 h) fun v24 =>
oh (mkSC 0 (some 1) 1 24 [.nils] v24 v24 h) fun v25 h15 =>
(y1lf v1 v25 h15)
def y2a9 (s : St) : OX := y1qj (s 1) s.h
theorem y1lt : T0 yxw [.t 2] y2a9 := sq y1uk fun _ => by kernel_rfl
def y169 (v1 : AV) (h : Heap) : OX :=
ob (evLd true 5 v1 h) fun v19 =>
oh (y8 E (y9 E) 0 none true 8 [v19] h) fun v20 h16 =>
ob (y7 .neq v20 (AV.int .i64 0)) fun v21 =>
cnd v21
 ((ye h16 (AV.bool false)))
 ((y1qj v1 h16))
def y2cz (s : St) : OX := y169 (s 1) s.h
theorem y1ho : T0 yyr [.t 2] y2cz := sq y1lt fun _ => by kernel_rfl
def yyi (v0 : AV) (h : Heap) : OX :=
oh (newC 0 (some 0) (cellsOf v0) h) fun v1 h17 =>
(y169 v1 h17)
def y2ey (s : St) : OX := yyi (s 0) s.h
theorem y1w9 : T0 y150 [.t 2] y2ey := sq y1ho fun _ => by kernel_rfl
@[simp] theorem y2p6 : E.pure 77 = true := rfl
theorem y2r3 (v0 : AV) : (y9 E).p 77 [v0] = yyi v0 [⟨0, .dead⟩, ⟨0, .dead⟩, ⟨0, .dead⟩, ⟨0, .dead⟩, ⟨0, .dead⟩, ⟨0, .dead⟩] :=
  (y12 (cf := y2mo) (by kernel_rfl) rfl).trans ((y1w9 _).trans (by kernel_rfl))
def yco (h : Heap) : OX :=
(ye h AV.nils)
def y36 (s : St) : OX := yco s.h
theorem y220 : T0 y1nx [.t 2] y36 := fun _ => by kernel_rfl
def ydh (v1 : AV) (h : Heap) : OX :=
ob (evFa 2 v1) fun v58 =>
ob (evLd false 1 v58 h) fun v59 =>
ob (evFa 3 v1) fun v60 =>
ob (evLd false 1 v60 h) fun v61 =>
oh (y11 0 (some 6) 1 2 [(.int .i64 0)] [(0, v59), (1, v61)] h) fun v62 h1 =>
(ye h1 v62)
def y2n4 (s : St) : OX := ydh (s 1) s.h
theorem y24l : T1 y1fp y36 (y5 0 y36 xN) [.t 2] y2n4 := fun _ => by kernel_rfl
def yel (v1 : AV) (h : Heap) : OX :=
ob (evFa 3 v1) fun v52 =>
ob (evLd false 1 v52 h) fun v53 =>
ob (y7 .lss v53 (AV.int .i64 0)) fun v54 =>
cnd v54
 (ob (evFa 2 v1) fun v55 =>
ob (evLd false 1 v55 h) fun v56 =>
oh (y11 0 (some 5) 1 1 [(.int .i64 0)] [(0, v56)] h) fun v57 h2 =>
(ye h2 v57))
 ((ydh v1 h))
def y2hs (s : St) : OX := yel (s 1) s.h
theorem y25m : T1 y1qt y36 (y5 0 y36 xN) [.t 2] y2hs := sq y24l fun _ => by kernel_rfl
def ydz (v1 v4 v50 : AV) (h : Heap) : OX :=
cnd v50
 ((yel v1 h))
 (ob (y7 .eql v4 (AV.int .i64 30)) fun v64 =>
cnd v64
 (ob (evFa 2 v1) fun v65 =>
ob (evLd false 1 v65 h) fun v66 =>
ob (y7 .geq v66 (AV.int .i64 0)) fun v67 =>
cnd v67
 (ob (evFa 2 v1) fun v68 =>
ob (evLd false 1 v68 h) fun v69 =>
oh (y11 0 (some 7) 1 1 [(.int .i64 0)] [(0, v69)] h) fun v70 h3 =>
(ye h3 v70))
 ((yco h)))
 ((yco h)))
def y2n7 (s : St) : OX := ydz (s 1) (s 4) (s 50) s.h
theorem y1yd : T1 y1i8 y36 (y5 0 y36 xN) [.t 2] y2n7 := fun s => (y1g (y25m s) rfl).trans (by kernel_rfl)
def ye7 (v1 v4 : AV) (h : Heap) : OX :=
ob (y7 .eql v4 (AV.int .i64 29)) fun v51 =>
(ydz v1 v4 v51 h)
def y2kd (s : St) : OX := ye7 (s 1) (s 4) s.h
theorem y25i : T1 y1jf y36 (y5 0 y36 xN) [.t 2] y2kd := sq y1yd fun _ => by kernel_rfl
def yai (v1 v4 v42 : AV) (h : Heap) : OX :=
cnd v42
 (ob (evFa 8 v1) fun v47 =>
ob (evLd false 1 v47 h) fun v48 =>
oh (y8 E (y9 E) 0 (some 4) false 39 [v48] h) fun v49 h4 =>
(ye h4 v49))
 ((ye7 v1 v4 h))
def y2mh (s : St) : OX := yai (s 1) (s 4) (s 42) s.h
theorem y22a : T1 y1h2 y36 (y5 0 y36 xN) [.t 2] y2mh := fun s => (y1g rfl (y25i s)).trans (by kernel_rfl)
def yef (v1 v4 : AV) (h : Heap) : OX :=
ob (y7 .eql v4 (AV.int .i64 23)) fun v43 =>
cnd v43
 ((yai v1 v4 v43 h))
 (ob (y7 .eql v4 (AV.int .i64 24)) fun v44 =>
cnd v44
 ((yai v1 v4 v44 h))
 (ob (y7 .eql v4 (AV.int .i64 25)) fun v45 =>
cnd v45
 ((yai v1 v4 v45 h))
 (ob (y7 .eql v4 (AV.int .i64 26)) fun v46 =>
(yai v1 v4 v46 h))))
def y2m2 (s : St) : OX := yef (s 1) (s 4) s.h
theorem y1yu : T1 y1vj y36 (y5 0 y36 xN) [.t 2] y2m2 := sq y22a fun _ => by kernel_rfl
def ydp (v1 v4 v33 : AV) (h : Heap) : OX :=
cnd v33
 (ob (evFa 2 v1) fun v35 =>
ob (evLd false 1 v35 h) fun v36 =>
ob (evFa 3 v1) fun v37 =>
ob (evLd false 1 v37 h) fun v38 =>
ob (evFa 4 v1) fun v39 =>
ob (evLd false 1 v39 h) fun v40 =>
oh (y11 0 (some 3) 1 3 [(.int .i64 0)] [(0, v36), (1, v38), (2, v40)] h) fun v41 h5 =>
(ye h5 v41))
 ((yef v1 v4 h))
def y2kb (s : St) : OX := ydp (s 1) (s 4) (s 33) s.h
theorem y242 : T1 y1e4 y36 (y5 0 y36 xN) [.t 2] y2kb := fun s => (y1g rfl (y1yu s)).trans (by kernel_rfl)
def ydc (v1 v4 : AV) (h : Heap) : OX :=
ob (y7 .eql v4 (AV.int .i64 14)) fun v34 =>
(ydp v1 v4 v34 h)
def y2m3 (s : St) : OX := ydc (s 1) (s 4) s.h
theorem y21v : T1 y1oi y36 (y5 0 y36 xN) [.t 2] y2m3 := sq y242 fun _ => by kernel_rfl
def y4k (v1 v4 v21 : AV) (h : Heap) : OX :=
cnd v21
 (ob (evFa 2 v1) fun v28 =>
ob (evLd false 1 v28 h) fun v29 =>
ob (evFa 3 v1) fun v30 =>
ob (evLd false 1 v30 h) fun v31 =>
oh (y11 0 (some 2) 1 2 [(.int .i64 0)] [(0, v29), (1, v31)] h) fun v32 h6 =>
(ye h6 v32))
 ((ydc v1 v4 h))
def y29s (s : St) : OX := y4k (s 1) (s 4) (s 21) s.h
theorem y1kj : T1 y154 y36 (y5 0 y36 xN) [.t 2] y29s := fun s => (y1g rfl (y21v s)).trans (by kernel_rfl)
def y6r (v1 v4 : AV) (h : Heap) : OX :=
ob (y7 .eql v4 (AV.int .i64 5)) fun v22 =>
cnd v22
 ((y4k v1 v4 v22 h))
 (ob (y7 .eql v4 (AV.int .i64 9)) fun v23 =>
cnd v23
 ((y4k v1 v4 v23 h))
 (ob (y7 .eql v4 (AV.int .i64 11)) fun v24 =>
cnd v24
 ((y4k v1 v4 v24 h))
 (ob (y7 .eql v4 (AV.int .i64 13)) fun v25 =>
cnd v25
 ((y4k v1 v4 v25 h))
 (ob (y7 .eql v4 (AV.int .i64 17)) fun v26 =>
cnd v26
 ((y4k v1 v4 v26 h))
 (ob (y7 .eql v4 (AV.int .i64 28)) fun v27 =>
(y4k v1 v4 v27 h))))))
def y2af (s : St) : OX := y6r (s 1) (s 4) s.h
theorem y1d7 : T1 yxa y36 (y5 0 y36 xN) [.t 2] y2af := sq y1kj fun _ => by kernel_rfl
def y3l (v1 v4 v5 : AV) (h : Heap) : OX :=
cnd v5
 (ob (evFa 2 v1) fun v18 =>
ob (evLd false 1 v18 h) fun v19 =>
oh (y11 0 (some 1) 1 1 [(.int .i64 0)] [(0, v19)] h) fun v20 h7 =>
(ye h7 v20))
 ((y6r v1 v4 h))
def y2ft (s : St) : OX := y3l (s 1) (s 4) (s 5) s.h
theorem y1sk : T1 y15a y36 (y5 0 y36 xN) [.t 2] y2ft := fun s => (y1g rfl (y1d7 s)).trans (by kernel_rfl)
def y6y (v1 v4 : AV) (h : Heap) : OX :=
ob (y7 .eql v4 (AV.int .i64 4)) fun v6 =>
cnd v6
 ((y3l v1 v4 v6 h))
 (ob (y7 .eql v4 (AV.int .i64 6)) fun v7 =>
cnd v7
 ((y3l v1 v4 v7 h))
 (ob (y7 .eql v4 (AV.int .i64 7)) fun v8 =>
cnd v8
 ((y3l v1 v4 v8 h))
 (ob (y7 .eql v4 (AV.int .i64 8)) fun v9 =>
cnd v9
 ((y3l v1 v4 v9 h))
 (ob (y7 .eql v4 (AV.int .i64 10)) fun v10 =>
cnd v10
 ((y3l v1 v4 v10 h))
 (ob (y7 .eql v4 (AV.int .i64 12)) fun v11 =>
cnd v11
 ((y3l v1 v4 v11 h))
 (ob (y7 .eql v4 (AV.int .i64 15)) fun v12 =>
cnd v12
 ((y3l v1 v4 v12 h))
 (ob (y7 .eql v4 (AV.int .i64 16)) fun v13 =>
cnd v13
 ((y3l v1 v4 v13 h))
 (ob (y7 .eql v4 (AV.int .i64 19)) fun v14 =>
cnd v14
 ((y3l v1 v4 v14 h))
 (ob (y7 .eql v4 (AV.int .i64 21)) fun v15 =>
cnd v15
 ((y3l v1 v4 v15 h))
 (ob (y7 .eql v4 (AV.int .i64 22)) fun v16 =>
cnd v16
 ((y3l v1 v4 v16 h))
 (ob (y7 .eql v4 (AV.int .i64 31)) fun v17 =>
(y3l v1 v4 v17 h))))))))))))
def y1op (s : St) : OX := y6y (s 1) (s 4) s.h
theorem y1pi : T1 y14j y36 (y5 0 y36 xN) [.t 2] y1op := sq y1sk fun _ => by kernel_rfl
theorem y1cj : T1 y17d y36 xN [.t 2] y1op := fun s => yw.trans (y1pi s)
def y6x (v1 : AV) (h : Heap) : OX :=
ob (evFa 0 v1) fun v3 =>
ob (evLd false 1 v3 h) fun v4 =>
(y6y v1 v4 h)
def y1ep (s : St) : OX := y6x (s 1) s.h
theorem y1tz : T1 yz7 y36 xN [.t 2] y1ep := sq y1cj fun _ => by kernel_rfl
theorem y1hh : T0 yzh [.t 2] y1ep := sq y220 y1tz
def y72 (v0 : AV) (h : Heap) : OX :=
oh (newC 0 (some 0) (cellsOf v0) h) fun v1 h8 =>
(y6x v1 h8)
def y29k (s : St) : OX := y72 (s 0) s.h
theorem y1o1 : T0 ywd [.t 2] y29k := sq y1hh fun _ => by kernel_rfl
@[simp] theorem y2rn : E.pure 10 = true := rfl
theorem yv2 (v0 : AV) : (y9 E).p 10 [v0] = y72 v0 [⟨0, .dead⟩, ⟨0, .dead⟩, ⟨0, .dead⟩, ⟨0, .dead⟩, ⟨0, .dead⟩, ⟨0, .dead⟩, ⟨0, .dead⟩, ⟨0, .dead⟩] :=
  (y12 (cf := y2ix) (by kernel_rfl) rfl).trans ((y1o1 _).trans (by kernel_rfl))
def y1fb (h : Heap) : OX :=
(ye h (AV.int .i64 (-1)))
def y2id (s : St) : OX := y1fb s.h
theorem y24n : T0 y1ql [.t 2] y2id := fun _ => by kernel_rfl
def y1j8 (v1 : AV) (h : Heap) : OX :=
ob (evLd true 9 v1 h) fun v22 =>
oh (y8 E (y9 E) 0 none true 17 [v22] h) fun v23 h1 =>
cnd v23
 (ob (evFa 1 v1) fun v24 =>
ob (evLd false 1 v24 h1) fun v25 =>
(ye h1 v25))
 ((y1fb h1))
def yir (s : St) : OX := y1j8 (s 1) s.h
theorem y1xs : T0 y1d8 [.t 2] yir := sq y24n fun _ => by kernel_rfl
def y9w (v1 v5 : AV) (h : Heap) : OX :=
cnd v5
 (ob (evFa 1 v1) fun v20 =>
ob (evLd false 1 v20 h) fun v21 =>
(ye h v21))
 ((y1j8 v1 h))
def y2ml (s : St) : OX := y9w (s 1) (s 5) s.h
theorem y1y8 : T1 y1ul yir (y5 0 yir xN) [.t 2] y2ml := fun _ => by kernel_rfl
def y1w5 (v1 v4 : AV) (h : Heap) : OX :=
ob (y7 .eql v4 (AV.int .i64 1)) fun v6 =>
cnd v6
 ((y9w v1 v6 h))
 (ob (y7 .eql v4 (AV.int .i64 2)) fun v7 =>
cnd v7
 ((y9w v1 v7 h))
 (ob (y7 .eql v4 (AV.int .i64 3)) fun v8 =>
cnd v8
 ((y9w v1 v8 h))
 (ob (y7 .eql v4 (AV.int .i64 4)) fun v9 =>
cnd v9
 ((y9w v1 v9 h))
 (ob (y7 .eql v4 (AV.int .i64 5)) fun v10 =>
cnd v10
 ((y9w v1 v10 h))
 (ob (y7 .eql v4 (AV.int .i64 6)) fun v11 =>
cnd v11
 ((y9w v1 v11 h))
 (ob (y7 .eql v4 (AV.int .i64 13)) fun v12 =>
cnd v12
 ((y9w v1 v12 h))
 (ob (y7 .eql v4 (AV.int .i64 15)) fun v13 =>
cnd v13
 ((y9w v1 v13 h))
 (ob (y7 .eql v4 (AV.int .i64 16)) fun v14 =>
cnd v14
 ((y9w v1 v14 h))
 (ob (y7 .eql v4 (AV.int .i64 18)) fun v15 =>
cnd v15
 ((y9w v1 v15 h))
 (ob (y7 .eql v4 (AV.int .i64 20)) fun v16 =>
cnd v16
 ((y9w v1 v16 h))
 (ob (y7 .eql v4 (AV.int .i64 21)) fun v17 =>
cnd v17
 ((y9w v1 v17 h))
 (ob (y7 .eql v4 (AV.int .i64 22)) fun v18 =>
cnd v18
 ((y9w v1 v18 h))
 (ob (y7 .eql v4 (AV.int .i64 32)) fun v19 =>
(y9w v1 v19 h))))))))))))))
def y27w (s : St) : OX := y1w5 (s 1) (s 4) s.h
theorem y1yk : T1 y1lu yir (y5 0 yir xN) [.t 2] y27w := sq y1y8 fun _ => by kernel_rfl
theorem y22q : T1 y1pu yir xN [.t 2] y27w := fun s => yw.trans (y1yk s)
def y1rn (v1 : AV) (h : Heap) : OX :=
ob (evFa 0 v1) fun v3 =>
ob (evLd false 1 v3 h) fun v4 =>
(y1w5 v1 v4 h)
def y283 (s : St) : OX := y1rn (s 1) s.h
theorem y1yh : T1 y1ji yir xN [.t 2] y283 := sq y22q fun _ => by kernel_rfl
theorem y1xe : T0 y1n6 [.t 2] y283 := sq y1xs y1yh
def y1td (v0 : AV) (h : Heap) : OX :=
oh (newC 0 (some 0) (cellsOf v0) h) fun v1 h2 =>
(y1rn v1 h2)
def y2m6 (s : St) : OX := y1td (s 0) s.h
theorem y22t : T0 y1c9 [.t 2] y2m6 := sq y1xe fun _ => by kernel_rfl
@[simp] theorem y2t5 : E.pure 9 = true := rfl
theorem y2op (v0 : AV) : (y9 E).p 9 [v0] = y1td v0 [⟨0, .dead⟩] :=
  (y12 (cf := y2jf) (by kernel_rfl) rfl).trans ((y22t _).trans (by kernel_rfl))
def yyb (v0 : AV) (h : Heap) : OX :=
oh (y11 0 (some 0) 1 0 [(.int .i64 0)] [] h) fun v5 h1 =>
oh (y37 0 (some 1) 1 8 v5 v0 h1) fun v7 h2 =>
(ye h2 v7)
def y2d0 (s : St) : OX := yyb (s 0) s.h
theorem y1nw : T0 yxz [.t 2] y2d0 := fun _ => by kernel_rfl
def y13t (v0 : AV) (h : Heap) : OX :=
ob (y5f 1 false v0 AV.nils) fun v4 =>
cnd v4
 ((ye h AV.nils))
 ((yyb v0 h))
def y2df (s : St) : OX := y13t (s 0) s.h
theorem y1vf : T0 yx8 [.t 2] y2df := sq y1nw fun _ => by kernel_rfl
def y14p (v0 : AV) (h : Heap) : OX :=
(y13t v0 h)
def y2cw (s : St) : OX := y14p (s 0) s.h
theorem y1ng : T0 yzy [.t 2] y2cw := sq y1vf fun _ => by kernel_rfl
@[simp] theorem y2qs : E.pure 39 = true := rfl
theorem y2jb (v0 : AV) : (y9 E).p 39 [v0] = y14p v0 [⟨0, .dead⟩, ⟨0, .dead⟩] :=
  (y12 (cf := y272) (by kernel_rfl) rfl).trans ((y1ng _).trans (by kernel_rfl))
def y151 (v0 : AV) (h : Heap) : OX :=
oh (y11 0 (some 0) 9 0 [(.int .i64 0), (.int .i64 0), (.int .i64 0), (.int .i64 0), (.int .i64 0), (.int .i64 0), (.int .i64 0), (.str []), .nils] [] h) fun v5 h1 =>
oh (y37 0 (some 1) 9 96 v5 v0 h1) fun v7 h2 =>
(ye h2 v7)
def y2fe (s : St) : OX := y151 (s 0) s.h
theorem y1ot : T0 y14q [.t 2] y2fe := fun _ => by kernel_rfl
def yzw (v0 : AV) (h : Heap) : OX :=
ob (y5f 1 false v0 AV.nils) fun v4 =>
cnd v4
 ((ye h AV.nils))
 ((y151 v0 h))
def y2e4 (s : St) : OX := yzw (s 0) s.h
theorem y1uu : T0 y119 [.t 2] y2e4 := sq y1ot fun _ => by kernel_rfl
def y15u (v0 : AV) (h : Heap) : OX :=
(yzw v0 h)
def y2d2 (s : St) : OX := y15u (s 0) s.h
theorem y1mu : T0 y16l [.t 2] y2d2 := sq y1uu fun _ => by kernel_rfl
@[simp] theorem y2ps : E.pure 40 = true := rfl
theorem y2il (v0 : AV) : (y9 E).p 40 [v0] = y15u v0 [⟨0, .dead⟩, ⟨0, .dead⟩] :=
  (y12 (cf := y27b) (by kernel_rfl) rfl).trans ((y1mu _).trans (by kernel_rfl))
def yxl (v0 : AV) (h : Heap) : OX :=
oh (y11 0 (some 0) 4 0 [(.int .i64 0), (.int .i64 0), (.int .i64 0), (.str [])] [] h) fun v5 h1 =>
oh (y37 0 (some 1) 4 40 v5 v0 h1) fun v7 h2 =>
(ye h2 v7)
def y2bx (s : St) : OX := yxl (s 0) s.h
theorem y1wx : T0 y11k [.t 2] y2bx := fun _ => by kernel_rfl
def y15b (v0 : AV) (h : Heap) : OX :=
ob (y5f 1 false v0 AV.nils) fun v4 =>
cnd v4
 ((ye h AV.nils))
 ((yxl v0 h))
def y2fk (s : St) : OX := y15b (s 0) s.h
theorem y1p5 : T0 y16s [.t 2] y2fk := sq y1wx fun _ => by kernel_rfl
def yza (v0 : AV) (h : Heap) : OX :=
(y15b v0 h)
def y2fg (s : St) : OX := yza (s 0) s.h
theorem y1me : T0 y16q [.t 2] y2fg := sq y1p5 fun _ => by kernel_rfl
@[simp] theorem y2pe : E.pure 41 = true := rfl
theorem y2np (v0 : AV) : (y9 E).p 41 [v0] = yza v0 [⟨0, .dead⟩, ⟨0, .dead⟩] :=
  (y12 (cf := y26v) (by kernel_rfl) rfl).trans ((y1me _).trans (by kernel_rfl))
def yhd (h : Heap) : OX :=
(ye h (AV.bool true))
def y79 (s : St) : OX := yhd s.h
theorem y1je : T0 yzf [.t 4] y79 := fun _ => by kernel_rfl
def yfb (v0 v1 v5 : AV) (h : Heap) : OX :=
  W E 0 ykf ⟨[(0, v0), (1, v1), (5, v5)], h⟩ y79 (y5 0 y79 xN) (finP [.t 4])
def ybp (s : St) : OX := yfb (s 0) (s 1) (s 5) s.h
theorem yn0 : T1 ykf y79 (y5 0 y79 xN) [.t 4] ybp := fun s => yi.trans (by kernel_rfl)
def yh7 (v0 v1 v5 : AV) (h : Heap) : OX :=
ob (y7 .add v5 (AV.int .i64 1)) fun v16 =>
(yfb v0 v1 v16 h)
def y2gf (s : St) : OX := yh7 (s 0) (s 1) (s 5) s.h
theorem y1qq : T1 ywo ybp (y5 0 y79 xN) [.t 4] y2gf := fun _ => by kernel_rfl
def yil (v0 v1 v5 : AV) (h : Heap) : OX :=
ob (yt 1 v0 v5) fun v19 =>
ob (evLd false 1 v19 h) fun v20 =>
ob (yt 1 v1 v5) fun v23 =>
ob (evLd false 1 v23 h) fun v24 =>
ob (y7 .neq v20 v24) fun v25 =>
cnd v25
 ((ye h (AV.bool false)))
 ((yh7 v0 v1 v5 h))
def y2ge (s : St) : OX := yil (s 0) (s 1) (s 5) s.h
theorem y1k7 : T1 y0l ybp (y5 0 y79 xN) [.t 4] y2ge := sq y1qq fun _ => by kernel_rfl
def yid (v0 v1 v5 : AV) (h : Heap) : OX :=
ob (y14 1 v0 h) fun v13 =>
ob (y7 .lss v5 v13) fun v14 =>
cnd v14
 ((yil v0 v1 v5 h))
 ((yhd h))
def y2bs (s : St) : OX := yid (s 0) (s 1) (s 5) s.h
theorem y1wa : T1 y161 ybp (y5 0 y79 xN) [.t 4] y2bs := sq y1k7 fun _ => by kernel_rfl
theorem yml (v0 v1 v5 : AV) (h : Heap) : yfb v0 v1 v5 h = (yid v0 v1 v5 h) :=
  y1n.trans ((y17 _ _ _ (n' := ybp) (fun s => yn0 s)).trans ((y1wa _).trans (by kernel_rfl)))
theorem y1qa : T1 y17k y79 xN [.t 4] ybp := fun s => yw.trans (yn0 s)
def yk2 (v0 v1 : AV) (h : Heap) : OX :=
(yfb v0 v1 (AV.int .i64 0) h)
def y1lq (s : St) : OX := yk2 (s 0) (s 1) s.h
theorem y1cd : T1 yyw y79 xN [.t 4] y1lq := sq y1qa fun _ => by kernel_rfl
theorem y1do : T0 y15i [.t 4] y1lq := sq y1je y1cd
def yjv (v0 v1 : AV) (h : Heap) : OX :=
ob (y14 1 v0 h) fun v7 =>
ob (y14 1 v1 h) fun v9 =>
ob (y7 .neq v7 v9) fun v10 =>
cnd v10
 ((ye h (AV.bool false)))
 ((yk2 v0 v1 h))
def y2cj (s : St) : OX := yjv (s 0) (s 1) s.h
theorem y1ua : T0 y13y [.t 4] y2cj := sq y1do fun _ => by kernel_rfl
def ycy (v0 v1 : AV) (h : Heap) : OX :=
(yjv v0 v1 h)
def y1y0 (s : St) : OX := ycy (s 0) (s 1) s.h
theorem y1b8 : T0 yt7 [.t 4] y1y0 := sq y1ua fun _ => by kernel_rfl
@[simp] theorem y2s7 : E.pure 11 = true := rfl
theorem y2jz (v0 v1 : AV) : (y9 E).p 11 [v0, v1] = ycy v0 v1 [] :=
  (y12 (cf := y27p) (by kernel_rfl) rfl).trans ((y1b8 _).trans (by kernel_rfl))
def yaj (v0 v1 : AV) (h : Heap) : OX :=
oh (newC 0 (some 0) (cellsOf v0) h) fun v2 h1 =>
oh (newC 0 (some 1) (cellsOf v1) h1) fun v3 h2 =>
ob (evFa 0 v2) fun v5 =>
ob (evLd false 1 v5 h2) fun v6 =>
ob (evFa 0 v3) fun v7 =>
ob (evLd false 1 v7 h2) fun v8 =>
ob (y7 .eql v6 v8) fun v9 =>
gb v9 true (evFa 1 v2) fun v11 =>
gb v9 true (evLd false 1 v11 h2) fun v12 =>
gb v9 true (evFa 1 v3) fun v13 =>
gb v9 true (evLd false 1 v13 h2) fun v14 =>
gb v9 true (y7 .eql v12 v14) fun v15 =>
ob (yd v9 v15 (AV.bool false)) fun v16 =>
gb v16 true (evFa 2 v2) fun v18 =>
gb v16 true (evLd false 1 v18 h2) fun v19 =>
gb v16 true (evFa 2 v3) fun v20 =>
gb v16 true (evLd false 1 v20 h2) fun v21 =>
gb v16 true (y7 .eql v19 v21) fun v22 =>
ob (yd v16 v22 (AV.bool false)) fun v23 =>
gb v23 true (evFa 3 v2) fun v25 =>
gb v23 true (evLd false 1 v25 h2) fun v26 =>
gb v23 true (evFa 3 v3) fun v27 =>
gb v23 true (evLd false 1 v27 h2) fun v28 =>
gb v23 true (y7 .eql v26 v28) fun v29 =>
ob (yd v23 v29 (AV.bool false)) fun v30 =>
gb v30 true (evFa 4 v2) fun v32 =>
gb v30 true (evLd false 1 v32 h2) fun v33 =>
gb v30 true (evFa 4 v3) fun v34 =>
gb v30 true (evLd false 1 v34 h2) fun v35 =>
gb v30 true (y7 .eql v33 v35) fun v36 =>
ob (yd v30 v36 (AV.bool false)) fun v37 =>
gb v37 true (evFa 5 v2) fun v39 =>
gb v37 true (evLd false 1 v39 h2) fun v40 =>
gb v37 true (evFa 5 v3) fun v41 =>
gb v37 true (evLd false 1 v41 h2) fun v42 =>
gb v37 true (y7 .eql v40 v42) fun v43 =>
ob (yd v37 v43 (AV.bool false)) fun v44 =>
gb v44 true (evFa 6 v2) fun v46 =>
gb v44 true (evLd false 1 v46 h2) fun v47 =>
gb v44 true (evFa 6 v3) fun v48 =>
gb v44 true (evLd false 1 v48 h2) fun v49 =>
gb v44 true (y7 .eql v47 v49) fun v50 =>
ob (yd v44 v50 (AV.bool false)) fun v51 =>
gb v51 true (evFa 7 v2) fun v53 =>
gb v51 true (evLd false 1 v53 h2) fun v54 =>
gb v51 true (evFa 7 v3) fun v55 =>
gb v51 true (evLd false 1 v55 h2) fun v56 =>
gb v51 true (y7 .eql v54 v56) fun v57 =>
ob (yd v51 v57 (AV.bool false)) fun v58 =>
gb v58 true (evFa 8 v2) fun v60 =>
gb v58 true (evLd false 1 v60 h2) fun v61 =>
gb v58 true (evFa 8 v3) fun v62 =>
gb v58 true (evLd false 1 v62 h2) fun v63 =>
gh v58 true (y8 E (y9 E) 0 none true 11 [v61, v63] h2) h2 fun v64 h3 =>
ob (yd v58 v64 (AV.bool false)) fun v65 =>
(ye h3 v65)
def y29w (s : St) : OX := yaj (s 0) (s 1) s.h
theorem y1v1 : T0 y11j [.t 4] y29w := fun _ => by kernel_rfl
@[simp] theorem y2si : E.pure 28 = true := rfl
theorem y2mj (v0 v1 : AV) : (y9 E).p 28 [v0, v1] = yaj v0 v1 [⟨0, .dead⟩, ⟨0, .dead⟩] :=
  (y12 (cf := y278) (by kernel_rfl) rfl).trans ((y1v1 _).trans (by kernel_rfl))
def y2e1 (v0 : AV) (h : Heap) : OX :=
oh (newC 0 (some 0) (cellsOf v0) h) fun v1 h1 =>
ob (evFa 0 v1) fun v3 =>
ob (evLd false 1 v3 h1) fun v4 =>
ob (y7 .eql v4 (AV.int .i64 27)) fun v5 =>
gb v5 false (evFa 0 v1) fun v7 =>
gb v5 false (evLd false 1 v7 h1) fun v8 =>
gb v5 false (y7 .eql v8 (AV.int .i64 30)) fun v9 =>
ob (yd v5 (AV.bool true) v9) fun v10 =>
gb v10 false (evFa 0 v1) fun v12 =>
gb v10 false (evLd false 1 v12 h1) fun v13 =>
gb v10 false (y7 .eql v13 (AV.int .i64 31)) fun v14 =>
ob (yd v10 (AV.bool true) v14) fun v15 =>
(ye h1 v15)
def y2jq (s : St) : OX := y2e1 (s 0) s.h
theorem y24x : T0 y1ij [.t 2] y2jq := fun _ => by kernel_rfl
@[simp] theorem y2rf : E.pure 24 = true := rfl
theorem y2sd (v0 : AV) : (y9 E).p 24 [v0] = y2e1 v0 [⟨0, .dead⟩] :=
  (y12 (cf := y2lw) (by kernel_rfl) rfl).trans ((y24x _).trans (by kernel_rfl))
def y16w (v0 v1 : AV) (h : Heap) : OX :=
oh (y8 E (y9 E) 0 none true 45 [v0, v1] h) fun v7 h1 =>
ob (y7 .geq v7 (AV.int .i64 0)) fun v8 =>
(ye h1 v8)
def y2b6 (s : St) : OX := y16w (s 0) (s 1) s.h
theorem y1j5 : T0 y13s [.t 4] y2b6 := fun _ => by kernel_rfl
@[simp] theorem y2rs : E.pure 46 = true := rfl
theorem y2nv (v0 v1 : AV) : (y9 E).p 46 [v0, v1] = y16w v0 v1 [] :=
  (y12 (cf := y26y) (by kernel_rfl) rfl).trans ((y1j5 _).trans (by kernel_rfl))
def y1jd (v2 v3 : AV) (h : Heap) : OX :=
ob (evLd true 9 v3 h) fun v183 =>
oh (y8 E (y9 E) 0 none true 22 [v183] h) fun v184 h1 =>
ob (evUn .not v184) fun v185 =>
gb v185 false (evFa 6 v3) fun v187 =>
gb v185 false (evLd false 1 v187 h1) fun v188 =>
gb v185 false (y7 .geq v188 (AV.int .i64 0)) fun v189 =>
gb v185 false (some v189) fun v190 =>
gb v190 true (evFa 6 v3) fun v191 =>
gb v190 true (evLd false 1 v191 h1) fun v192 =>
gb v190 true (evFa 3 v2) fun v193 =>
gb v190 true (evLd false 1 v193 h1) fun v194 =>
gb v190 true (y14 1 v194 h1) fun v195 =>
gb v190 true (y7 .lss v192 v195) fun v196 =>
gb v185 false (yd v190 v196 (AV.bool false)) fun v197 =>
ob (yd v185 (AV.bool true) v197) fun v198 =>
(ye h1 v198)
def y2lk (s : St) : OX := y1jd (s 2) (s 3) s.h
theorem y1x3 : T0 y1rf [.t 4] y2lk := fun _ => by kernel_rfl
def y9v (v2 v3 : AV) (h : Heap) : OX :=
ob (evFa 0 v3) fun v105 =>
ob (evLd false 1 v105 h) fun v106 =>
ob (y7 .eql v106 (AV.int .i64 1)) fun v108 =>
cnd v108
 (ob (evFa 0 v2) fun v109 =>
ob (evLd false 1 v109 h) fun v110 =>
ob (evFa 1 v3) fun v111 =>
ob (evLd false 1 v111 h) fun v112 =>
ob (yt 1 v110 v112) fun v113 =>
ob (evLd false 1 v113 h) fun v114 =>
ob (y7 .neq v114 (AV.int .i64 3)) fun v115 =>
gb v115 true (evFa 0 v2) fun v117 =>
gb v115 true (evLd false 1 v117 h) fun v118 =>
gb v115 true (evFa 1 v3) fun v119 =>
gb v115 true (evLd false 1 v119 h) fun v120 =>
gb v115 true (yt 1 v118 v120) fun v121 =>
gb v115 true (evLd false 1 v121 h) fun v122 =>
gb v115 true (y7 .eql v122 (AV.int .i64 2)) fun v123 =>
gb v115 true (some v123) fun v124 =>
gb v124 false (evFa 5 v3) fun v125 =>
gb v124 false (evLd false 1 v125 h) fun v126 =>
gb v124 false (evFa 5 v3) fun v127 =>
gb v124 false (evLd false 1 v127 h) fun v128 =>
gb v124 false (y1a9 .i32 v128) fun v129 =>
gb v124 false (y1a9 .i64 v129) fun v130 =>
gb v124 false (y7 .eql v126 v130) fun v131 =>
gb v115 true (yd v124 (AV.bool true) v131) fun v132 =>
ob (yd v115 v132 (AV.bool false)) fun v133 =>
(ye h v133))
 (ob (y7 .eql v106 (AV.int .i64 4)) fun v135 =>
cnd v135
 (ob (evFa 0 v2) fun v136 =>
ob (evLd false 1 v136 h) fun v137 =>
ob (evFa 1 v3) fun v138 =>
ob (evLd false 1 v138 h) fun v139 =>
ob (yt 1 v137 v139) fun v140 =>
ob (evLd false 1 v140 h) fun v141 =>
ob (evFa 0 v2) fun v142 =>
ob (evLd false 1 v142 h) fun v143 =>
ob (evFa 2 v3) fun v144 =>
ob (evLd false 1 v144 h) fun v145 =>
ob (yt 1 v143 v145) fun v146 =>
ob (evLd false 1 v146 h) fun v147 =>
ob (y7 .eql v141 v147) fun v148 =>
(ye h v148))
 (ob (y7 .eql v106 (AV.int .i64 7)) fun v150 =>
cnd v150
 (ob (evFa 0 v2) fun v151 =>
ob (evLd false 1 v151 h) fun v152 =>
ob (evFa 2 v3) fun v153 =>
ob (evLd false 1 v153 h) fun v154 =>
ob (yt 1 v152 v154) fun v155 =>
ob (evLd false 1 v155 h) fun v156 =>
ob (y7 .neq v156 (AV.int .i64 3)) fun v157 =>
(ye h v157))
 (ob (y7 .eql v106 (AV.int .i64 30)) fun v159 =>
cnd v159
 (ob (evFa 2 v3) fun v160 =>
ob (evLd false 1 v160 h) fun v161 =>
ob (y7 .eql v161 (AV.int .i64 (-1))) fun v162 =>
ob (evFa 2 v2) fun v163 =>
ob (evLd false 1 v163 h) fun v164 =>
ob (y7 .eql v164 (AV.int .i64 0)) fun v165 =>
ob (y244 false v162 v165) fun v166 =>
gb v166 true (evFa 2 v3) fun v168 =>
gb v166 true (evLd false 1 v168 h) fun v169 =>
gb v166 true (y7 .eql v169 (AV.int .i64 (-1))) fun v170 =>
gb v166 true (some v170) fun v171 =>
gb v171 false (evFa 0 v2) fun v172 =>
gb v171 false (evLd false 1 v172 h) fun v173 =>
gb v171 false (evFa 2 v3) fun v174 =>
gb v171 false (evLd false 1 v174 h) fun v175 =>
gb v171 false (yt 1 v173 v175) fun v176 =>
gb v171 false (evLd false 1 v176 h) fun v177 =>
gb v171 false (evFa 2 v2) fun v178 =>
gb v171 false (evLd false 1 v178 h) fun v179 =>
gb v171 false (y7 .eql v177 v179) fun v180 =>
gb v166 true (yd v171 (AV.bool true) v180) fun v181 =>
ob (yd v166 v181 (AV.bool false)) fun v182 =>
(ye h v182))
 ((y1jd v2 v3 h)))))
def y6p (s : St) : OX := y9v (s 2) (s 3) s.h
theorem y1yv : T0 y1sg [.t 4] y6p := sq y1x3 fun _ => by kernel_rfl
def yjc (v2 v3 v63 v64 v65 : AV) (h : Heap) : OX :=
  W E 0 yoh ⟨[(2, v2), (3, v3), (63, v63), (64, v64), (65, v65)], h⟩ y6p (y5 2 y6p xN) (finP [.t 4])
def ycw (s : St) : OX := yjc (s 2) (s 3) (s 63) (s 64) (s 65) s.h
theorem ypu : T1 yoh y6p (y5 2 y6p xN) [.t 4] ycw := fun s => yi.trans (by kernel_rfl)
def y1k1 (v2 v3 v63 v64 v65 : AV) (h : Heap) : OX :=
ob (y7 .add v65 (AV.int .i64 1)) fun v104 =>
(yjc v2 v3 v63 v64 v104 h)
def yg8 (s : St) : OX := y1k1 (s 2) (s 3) (s 63) (s 64) (s 65) s.h
theorem y1xn : T1 y1vy ycw (y5 2 y6p xN) [.t 4] yg8 := fun _ => by kernel_rfl
def yjn (v2 v3 v9 v10 v63 v64 v65 : AV) (h : Heap) : OX :=
ob (y7 .lss v10 (AV.int .i64 0)) fun v74 =>
gb v74 false (some v10) fun v76 =>
gb v74 false (evFa 0 v2) fun v77 =>
gb v74 false (evLd false 1 v77 h) fun v78 =>
gb v74 false (y14 1 v78 h) fun v79 =>
gb v74 false (y7 .geq v76 v79) fun v80 =>
ob (yd v74 (AV.bool true) v80) fun v81 =>
gb v81 false (some v9) fun v83 =>
gb v81 false (y7 .eql v83 (AV.int .i64 0)) fun v84 =>
gb v81 false (some v84) fun v85 =>
gb v85 true (evFa 0 v3) fun v86 =>
gb v85 true (evLd false 1 v86 h) fun v87 =>
gb v85 true (y7 .eql v87 (AV.int .i64 24)) fun v88 =>
gb v85 true (some v88) fun v89 =>
gb v89 false (evFa 0 v3) fun v90 =>
gb v89 false (evLd false 1 v90 h) fun v91 =>
gb v89 false (y7 .eql v91 (AV.int .i64 25)) fun v92 =>
gb v85 true (yd v89 (AV.bool true) v92) fun v93 =>
gb v81 false (yd v85 v93 (AV.bool false)) fun v94 =>
gb v81 false (some v94) fun v95 =>
gb v95 true (evFa 0 v2) fun v96 =>
gb v95 true (evLd false 1 v96 h) fun v97 =>
gb v95 true (some v10) fun v98 =>
gb v95 true (yt 1 v97 v98) fun v99 =>
gb v95 true (evLd false 1 v99 h) fun v100 =>
gb v95 true (y7 .neq v100 (AV.int .i64 3)) fun v101 =>
gb v81 false (yd v95 v101 (AV.bool false)) fun v102 =>
ob (yd v81 (AV.bool true) v102) fun v103 =>
cnd v103
 ((ye h (AV.bool false)))
 ((y1k1 v2 v3 v63 v64 v65 h))
def y2ir (s : St) : OX := yjn (s 2) (s 3) (s 9) (s 10) (s 63) (s 64) (s 65) s.h
theorem y203 : T1 y1hg yg8 (y5 3 yg8 (y5 2 y6p xN)) [.t 4] y2ir := fun _ => by kernel_rfl
def y1f5 (v2 v3 v9 v10 v63 v64 v65 : AV) (h : Heap) : OX :=
ob (evLd true 9 v3 h) fun v70 =>
oh (y8 E (y9 E) 0 none true 17 [v70] h) fun v71 h2 =>
ob (evUn .not v71) fun v72 =>
cnd v72
 ((y9v v2 v3 h2))
 ((yjn v2 v3 v9 v10 v63 v64 v65 h2))
def y2if (s : St) : OX := y1f5 (s 2) (s 3) (s 9) (s 10) (s 63) (s 64) (s 65) s.h
theorem y232 : T1 y1lj yg8 (y5 3 yg8 (y5 2 y6p xN)) [.t 4] y2if := sq y203 fun _ => by kernel_rfl
def y1gx (v2 v3 v63 v64 v65 : AV) (h : Heap) : OX :=
ob (yt 1 v63 v65) fun v68 =>
ob (evLd false 1 v68 h) fun v69 =>
(y1f5 v2 v3 v65 v69 v63 v64 v65 h)
def y1jh (s : St) : OX := y1gx (s 2) (s 3) (s 63) (s 64) (s 65) s.h
theorem y241 : T1 y1dx yg8 (y5 3 yg8 (y5 2 y6p xN)) [.t 4] y1jh := sq y232 fun _ => by kernel_rfl
theorem y25l : T1 y1hq yg8 (y5 2 y6p xN) [.t 4] y1jh := fun s => yw.trans (y241 s)
theorem y1xt : T1 y1dy ycw (y5 2 y6p xN) [.t 4] y1jh := sq y1xn y25l
def yjx (v2 v3 v63 v64 v65 v66 : AV) (h : Heap) : OX :=
cnd v66
 ((y1gx v2 v3 v63 v64 v65 h))
 ((y9v v2 v3 h))
def y2bb (s : St) : OX := yjx (s 2) (s 3) (s 63) (s 64) (s 65) (s 66) s.h
theorem y1kf : T1 y149 ycw (y5 2 y6p xN) [.t 4] y2bb := sq y1xt fun _ => by kernel_rfl
def yi7 (v2 v3 v63 v64 v65 : AV) (h : Heap) : OX :=
ob (y7 .lss v65 v64) fun v66 =>
(yjx v2 v3 v63 v64 v65 v66 h)
def y2ab (s : St) : OX := yi7 (s 2) (s 3) (s 63) (s 64) (s 65) s.h
theorem y1rm : T1 y131 ycw (y5 2 y6p xN) [.t 4] y2ab := sq y1kf fun _ => by kernel_rfl
theorem yhb (v2 v3 v63 v64 v65 : AV) (h : Heap) : yjc v2 v3 v63 v64 v65 h = (yi7 v2 v3 v63 v64 v65 h) :=
  y1n.trans ((y17 _ _ _ (n' := ycw) (fun s => ypu s)).trans ((y1rm _).trans (by kernel_rfl)))
theorem y1hs : T1 yx9 y6p xN [.t 4] ycw := fun s => yw.trans (ypu s)
def ysl (v2 v3 : AV) (h : Heap) : OX :=
ob (evFa 8 v3) fun v62 =>
ob (evLd false 1 v62 h) fun v63 =>
ob (y14 1 v63 h) fun v64 =>
(yjc v2 v3 v63 v64 (AV.int .i64 0) h)
def y40 (s : St) : OX := ysl (s 2) (s 3) s.h
theorem y1v6 : T1 y08 y6p xN [.t 4] y40 := sq y1hs fun _ => by kernel_rfl
theorem y1tp : T0 y14b [.t 4] y40 := sq y1yv y1v6
def ycn (v2 v3 v5 v26 v27 : AV) (h : Heap) : OX :=
  W E 0 yio ⟨[(2, v2), (3, v3), (5, v5), (26, v26), (27, v27)], h⟩ y40 (y5 0 y40 xN) (finP [.t 4])
def y83 (s : St) : OX := ycn (s 2) (s 3) (s 5) (s 26) (s 27) s.h
theorem ymr : T1 yio y40 (y5 0 y40 xN) [.t 4] y83 := fun s => yi.trans (by kernel_rfl)
def yu0 (v2 v3 v5 v26 v27 : AV) (h : Heap) : OX :=
ob (y7 .add v27 (AV.int .i64 1)) fun v61 =>
(ycn v2 v3 v5 v26 v61 h)
def ya7 (s : St) : OX := yu0 (s 2) (s 3) (s 5) (s 26) (s 27) s.h
theorem y1oc : T1 y15z y83 (y5 0 y40 xN) [.t 4] ya7 := fun _ => by kernel_rfl
def yiz (v2 v3 v5 v7 v8 v26 v27 : AV) (h : Heap) : OX :=
ob (y7 .lss v8 (AV.int .i64 0)) fun v36 =>
gb v36 false (some v8) fun v38 =>
gb v36 false (evFa 0 v2) fun v39 =>
gb v36 false (evLd false 1 v39 h) fun v40 =>
gb v36 false (y14 1 v40 h) fun v41 =>
gb v36 false (y7 .geq v38 v41) fun v42 =>
ob (yd v36 (AV.bool true) v42) fun v43 =>
gb v43 false (some v7) fun v45 =>
gb v43 false (yo7 4 1 v5 v45) fun v46 =>
gb v43 false (evLd false 1 v46 h) fun v47 =>
gb v43 false (y7 .gtr v47 (AV.int .i64 0)) fun v48 =>
gb v43 false (some v48) fun v49 =>
gb v49 true (evFa 0 v2) fun v50 =>
gb v49 true (evLd false 1 v50 h) fun v51 =>
gb v49 true (some v8) fun v52 =>
gb v49 true (yt 1 v51 v52) fun v53 =>
gb v49 true (evLd false 1 v53 h) fun v54 =>
gb v49 true (some v7) fun v55 =>
gb v49 true (yo7 4 1 v5 v55) fun v56 =>
gb v49 true (evLd false 1 v56 h) fun v57 =>
gb v49 true (y7 .neq v54 v57) fun v58 =>
gb v43 false (yd v49 v58 (AV.bool false)) fun v59 =>
ob (yd v43 (AV.bool true) v59) fun v60 =>
cnd v60
 ((ye h (AV.bool false)))
 ((yu0 v2 v3 v5 v26 v27 h))
def y2cc (s : St) : OX := yiz (s 2) (s 3) (s 5) (s 7) (s 8) (s 26) (s 27) s.h
theorem y1hc : T1 y13f ya7 (y5 1 ya7 (y5 0 y40 xN)) [.t 4] y2cc := fun _ => by kernel_rfl
def ydd (v2 v3 v5 v7 v8 v26 v27 : AV) (h : Heap) : OX :=
ob (yo7 4 1 v5 v7) fun v32 =>
ob (evLd false 1 v32 h) fun v33 =>
ob (y7 .lss v33 (AV.int .i64 0)) fun v34 =>
cnd v34
 ((yu0 v2 v3 v5 v26 v27 h))
 ((yiz v2 v3 v5 v7 v8 v26 v27 h))
def y28i (s : St) : OX := ydd (s 2) (s 3) (s 5) (s 7) (s 8) (s 26) (s 27) s.h
theorem y1v3 : T1 y187 ya7 (y5 1 ya7 (y5 0 y40 xN)) [.t 4] y28i := sq y1hc fun _ => by kernel_rfl
def y1hw (v2 v3 v5 v26 v27 : AV) (h : Heap) : OX :=
ob (yon false 4 1 v26 v27) fun v30 =>
(ydd v2 v3 v5 v27 v30 v26 v27 h)
def yv6 (s : St) : OX := y1hw (s 2) (s 3) (s 5) (s 26) (s 27) s.h
theorem y1mr : T1 yxu ya7 (y5 1 ya7 (y5 0 y40 xN)) [.t 4] yv6 := sq y1v3 fun _ => by kernel_rfl
theorem y1wn : T1 y17a ya7 (y5 0 y40 xN) [.t 4] yv6 := fun s => yw.trans (y1mr s)
theorem y1vq : T1 y158 y83 (y5 0 y40 xN) [.t 4] yv6 := sq y1oc y1wn
def y09 (v2 v3 v5 v26 v27 v28 : AV) (h : Heap) : OX :=
cnd v28
 ((y1hw v2 v3 v5 v26 v27 h))
 ((ysl v2 v3 h))
def y291 (s : St) : OX := y09 (s 2) (s 3) (s 5) (s 26) (s 27) (s 28) s.h
theorem y1rk : T1 y14s y83 (y5 0 y40 xN) [.t 4] y291 := sq y1vq fun _ => by kernel_rfl
def y14a (v2 v3 v5 v26 v27 : AV) (h : Heap) : OX :=
ob (y7 .lss v27 (AV.int .i64 4)) fun v28 =>
(y09 v2 v3 v5 v26 v27 v28 h)
def y29c (s : St) : OX := y14a (s 2) (s 3) (s 5) (s 26) (s 27) s.h
theorem y1ny : T1 y129 y83 (y5 0 y40 xN) [.t 4] y29c := sq y1rk fun _ => by kernel_rfl
theorem ynm (v2 v3 v5 v26 v27 : AV) (h : Heap) : ycn v2 v3 v5 v26 v27 h = (y14a v2 v3 v5 v26 v27 h) :=
  y1n.trans ((y17 _ _ _ (n' := y83) (fun s => ymr s)).trans ((y1ny _).trans (by kernel_rfl)))
theorem y1o3 : T1 y157 y40 xN [.t 4] y83 := fun s => yw.trans (ymr s)
def y1qd (v2 v3 v5 : AV) (h : Heap) : OX :=
ob (evFa 1 v3) fun v18 =>
ob (evLd false 1 v18 h) fun v19 =>
ob (evFa 2 v3) fun v20 =>
ob (evLd false 1 v20 h) fun v21 =>
ob (evFa 3 v3) fun v22 =>
ob (evLd false 1 v22 h) fun v23 =>
ob (evFa 4 v3) fun v24 =>
ob (evLd false 1 v24 h) fun v25 =>
ob (y1c [(.int .i64 0), (.int .i64 0), (.int .i64 0), (.int .i64 0)] [(0, 1, v19), (1, 1, v21), (2, 1, v23), (3, 1, v25)]) fun v26 =>
(ycn v2 v3 v5 v26 (AV.int .i64 0) h)
def y1ip (s : St) : OX := y1qd (s 2) (s 3) (s 5) s.h
theorem y1kk : T1 y14x y40 xN [.t 4] y1ip := sq y1o3 fun _ => by kernel_rfl
theorem y1f8 : T0 y128 [.t 4] y1ip := sq y1tp y1kk
def yze (v2 v3 v5 v6 : AV) (h : Heap) : OX :=
ob (evUn .not v6) fun v17 =>
cnd v17
 ((ye h (AV.bool false)))
 ((y1qd v2 v3 v5 h))
def y2al (s : St) : OX := yze (s 2) (s 3) (s 5) (s 6) s.h
theorem y1hb : T0 y16x [.t 4] y2al := sq y1f8 fun _ => by kernel_rfl
def y16t (v2 v3 : AV) (h : Heap) : OX :=
ob (evLd true 9 v3 h) fun v12 =>
oh (y8 E (y9 E) 0 none true 47 [v12] h) fun v13 h3 =>
ob (ybu 0 v13) fun v14 =>
ob (ybu 1 v13) fun v15 =>
oh (newC 0 (some 2) [(.int .i64 0), (.int .i64 0), (.int .i64 0), (.int .i64 0)] h3) fun v5 h4 =>
oh (evSt 4 v5 v14 h4) fun _ h5 =>
(yze v2 v3 v5 v15 h5)
def y2d7 (s : St) : OX := y16t (s 2) (s 3) s.h
theorem y1ib : T0 y176 [.t 4] y2d7 := sq y1hb fun _ => by kernel_rfl
def yr7 (v0 v1 : AV) (h : Heap) : OX :=
oh (newC 0 (some 0) (cellsOf v0) h) fun v2 h6 =>
oh (newC 0 (some 1) (cellsOf v1) h6) fun v3 h7 =>
(y16t v2 v3 h7)
def y2eh (s : St) : OX := yr7 (s 0) (s 1) s.h
theorem y1ld : T0 y13x [.t 4] y2eh := sq y1ib fun _ => by kernel_rfl
@[simp] theorem y2rv : E.pure 63 = true := rfl
theorem y2s1 (v0 v1 : AV) : (y9 E).p 63 [v0, v1] = yr7 v0 v1 [⟨0, .dead⟩, ⟨0, .dead⟩, ⟨0, .dead⟩] :=
  (y12 (cf := y2jj) (by kernel_rfl) rfl).trans ((y1ld _).trans (by kernel_rfl))
def y2dd (v0 : AV) (h : Heap) : OX :=
oh (newC 0 (some 0) (cellsOf v0) h) fun v1 h1 =>
ob (evFa 0 v1) fun v3 =>
ob (evLd false 1 v3 h1) fun v4 =>
ob (y7 .eql v4 (AV.int .i64 27)) fun v5 =>
gb v5 false (evFa 0 v1) fun v7 =>
gb v5 false (evLd false 1 v7 h1) fun v8 =>
gb v5 false (y7 .eql v8 (AV.int .i64 28)) fun v9 =>
ob (yd v5 (AV.bool true) v9) fun v10 =>
gb v10 false (evFa 0 v1) fun v12 =>
gb v10 false (evLd false 1 v12 h1) fun v13 =>
gb v10 false (y7 .eql v13 (AV.int .i64 29)) fun v14 =>
ob (yd v10 (AV.bool true) v14) fun v15 =>
(ye h1 v15)
def y2kp (s : St) : OX := y2dd (s 0) s.h
theorem y1yw : T0 y1g5 [.t 2] y2kp := fun _ => by kernel_rfl
@[simp] theorem y2s2 : E.pure 22 = true := rfl
theorem y2p9 (v0 : AV) : (y9 E).p 22 [v0] = y2dd v0 [⟨0, .dead⟩] :=
  (y12 (cf := y2iw) (by kernel_rfl) rfl).trans ((y1yw _).trans (by kernel_rfl))
def y1n9 (v5 : AV) (h : Heap) : OX :=
(ye h v5)
def y1e (s : St) : OX := y1n9 (s 5) s.h
theorem y236 : T0 y1oz [.t 2] y1e := fun _ => by kernel_rfl
def ydj (v1 v3 v5 v6 : AV) (h : Heap) : OX :=
  W E 0 yob ⟨[(1, v1), (3, v3), (5, v5), (6, v6)], h⟩ y1e (y5 2 y1e xN) (finP [.t 2])
def yg (s : St) : OX := ydj (s 1) (s 3) (s 5) (s 6) s.h
theorem ysv : T1 yob y1e (y5 2 y1e xN) [.t 2] yg := fun s => yi.trans (by kernel_rfl)
def yje (v1 v3 v5 v6 v7 : AV) (h : Heap) : OX :=
  W E 0 yo1 ⟨[(1, v1), (3, v3), (5, v5), (6, v6), (7, v7)], h⟩ yg (y5 4 yg (y5 3 yg (y5 2 y1e xN))) (finP [.t 2])
def yfa (s : St) : OX := yje (s 1) (s 3) (s 5) (s 6) (s 7) s.h
theorem yq9 : T1 yo1 yg (y5 4 yg (y5 3 yg (y5 2 y1e xN))) [.t 2] yfa := fun s => yi.trans (by kernel_rfl)
def y23j (v1 v3 v5 v6 v7 : AV) (h : Heap) : OX :=
ob (y7 .sub v7 (AV.int .i64 1)) fun v75 =>
(yje v1 v3 v5 v6 v75 h)
def y25 (s : St) : OX := y23j (s 1) (s 3) (s 5) (s 6) (s 7) s.h
theorem y1yi : T1 y1fd yfa (y5 4 yg (y5 3 yg (y5 2 y1e xN))) [.t 2] y25 := fun _ => by kernel_rfl
def y1a3 (v1 v3 v5 v6 v7 v12 : AV) (h : Heap) : OX :=
ob (y1t v5) fun v168 =>
ob (evFa 0 v168) fun v169 =>
ob (evLd false 1 v169 h) fun v170 =>
ob (yt 1 v170 v7) fun v172 =>
ob (evLd false 1 v172 h) fun v173 =>
oh (y8 E (y9 E) 0 none false 84 [v173, v12] h) fun v175 h1 =>
gb v175 false (some v6) fun v177 =>
ob (yd v175 (AV.bool true) v177) fun v178 =>
(y23j v1 v3 v5 v178 v7 h1)
def yay (s : St) : OX := y1a3 (s 1) (s 3) (s 5) (s 6) (s 7) (s 12) s.h
theorem y21m : T1 y1v5 y25 (y5 5 y25 (y5 4 yg (y5 3 yg (y5 2 y1e xN)))) [.t 2] yay := fun _ => by kernel_rfl
def yqi (v1 v3 v5 v6 v7 v12 v157 v158 v159 : AV) (h : Heap) : OX :=
  W E 0 ypa ⟨[(1, v1), (3, v3), (5, v5), (6, v6), (7, v7), (12, v12), (157, v157), (158, v158), (159, v159)], h⟩ yay (y5 10 yay (y5 5 y25 (y5 4 yg (y5 3 yg (y5 2 y1e xN))))) (finP [.t 2])
def yd8 (s : St) : OX := yqi (s 1) (s 3) (s 5) (s 6) (s 7) (s 12) (s 157) (s 158) (s 159) s.h
theorem yqv : T1 ypa yay (y5 10 yay (y5 5 y25 (y5 4 yg (y5 3 yg (y5 2 y1e xN))))) [.t 2] yd8 := fun s => yi.trans (by kernel_rfl)
def y28z (v1 v3 v5 v6 v7 v12 v157 v158 v159 : AV) (h : Heap) : OX :=
ob (y7 .add v159 (AV.int .i64 1)) fun v166 =>
(yqi v1 v3 v5 v6 v7 v12 v157 v158 v166 h)
def y2ii (s : St) : OX := y28z (s 1) (s 3) (s 5) (s 6) (s 7) (s 12) (s 157) (s 158) (s 159) s.h
theorem y1x1 : T1 y1pl yd8 (y5 10 yay (y5 5 y25 (y5 4 yg (y5 3 yg (y5 2 y1e xN))))) [.t 2] y2ii := fun _ => by kernel_rfl
def y2cq (v1 v3 v5 v6 v7 v12 v157 v158 v159 : AV) (h : Heap) : OX :=
ob (yt 1 v157 v159) fun v161 =>
ob (evLd false 1 v161 h) fun v162 =>
oh (y8 E (y9 E) 0 none false 86 [v12, v162] h) fun v165 h2 =>
(y28z v1 v3 v5 v6 v7 v12 v157 v158 v159 h2)
def y2nw (s : St) : OX := y2cq (s 1) (s 3) (s 5) (s 6) (s 7) (s 12) (s 157) (s 158) (s 159) s.h
theorem y23i : T1 y1qi yd8 (y5 10 yay (y5 5 y25 (y5 4 yg (y5 3 yg (y5 2 y1e xN))))) [.t 2] y2nw := sq y1x1 fun _ => by kernel_rfl
def y214 (v1 v3 v5 v6 v7 v12 v157 v158 v159 v160 : AV) (h : Heap) : OX :=
cnd v160
 ((y2cq v1 v3 v5 v6 v7 v12 v157 v158 v159 h))
 ((y1a3 v1 v3 v5 v6 v7 v12 h))
def y2lu (s : St) : OX := y214 (s 1) (s 3) (s 5) (s 6) (s 7) (s 12) (s 157) (s 158) (s 159) (s 160) s.h
theorem y20u : T1 y1dn yd8 (y5 10 yay (y5 5 y25 (y5 4 yg (y5 3 yg (y5 2 y1e xN))))) [.t 2] y2lu := sq y23i fun _ => by kernel_rfl
def y171 (v1 v3 v5 v6 v7 v12 v157 v158 v159 : AV) (h : Heap) : OX :=
ob (y7 .lss v159 v158) fun v160 =>
(y214 v1 v3 v5 v6 v7 v12 v157 v158 v159 v160 h)
def y2gb (s : St) : OX := y171 (s 1) (s 3) (s 5) (s 6) (s 7) (s 12) (s 157) (s 158) (s 159) s.h
theorem y1qe : T1 y14r yd8 (y5 10 yay (y5 5 y25 (y5 4 yg (y5 3 yg (y5 2 y1e xN))))) [.t 2] y2gb := sq y20u fun _ => by kernel_rfl
theorem ypr (v1 v3 v5 v6 v7 v12 v157 v158 v159 : AV) (h : Heap) : yqi v1 v3 v5 v6 v7 v12 v157 v158 v159 h = (y171 v1 v3 v5 v6 v7 v12 v157 v158 v159 h) :=
  y1n.trans ((y17 _ _ _ (n' := yd8) (fun s => yqv s)).trans ((y1qe _).trans (by kernel_rfl)))
theorem y1cw : T1 y155 yay (y5 5 y25 (y5 4 yg (y5 3 yg (y5 2 y1e xN)))) [.t 2] yd8 := fun s => yw.trans (yqv s)
def y1g9 (v1 v3 v5 v6 v7 v12 : AV) (h : Heap) : OX :=
ob (evFa 3 v1) fun v152 =>
ob (evLd false 1 v152 h) fun v153 =>
ob (yt 9 v153 v7) fun v155 =>
ob (evLd true 9 v155 h) fun v156 =>
oh (y8 E (y9 E) 0 none true 10 [v156] h) fun v157 h3 =>
ob (y14 1 v157 h3) fun v158 =>
(yqi v1 v3 v5 v6 v7 v12 v157 v158 (AV.int .i64 0) h3)
def y1cr (s : St) : OX := y1g9 (s 1) (s 3) (s 5) (s 6) (s 7) (s 12) s.h
theorem y1eh : T1 yyu yay (y5 5 y25 (y5 4 yg (y5 3 yg (y5 2 y1e xN)))) [.t 2] y1cr := sq y1cw fun _ => by kernel_rfl
theorem y1n5 : T1 y15n y25 (y5 5 y25 (y5 4 yg (y5 3 yg (y5 2 y1e xN)))) [.t 2] y1cr := sq y21m y1eh
def yle (v1 v3 v5 v6 v7 v12 : AV) (h : Heap) : OX :=
ob (y1t v5) fun v145 =>
ob (evFa 2 v145) fun v146 =>
ob (evLd false 1 v146 h) fun v147 =>
ob (yt 1 v147 v7) fun v149 =>
ob (evLd false 1 v149 h) fun v150 =>
oh (y8 E (y9 E) 0 none false 84 [v12, v150] h) fun v151 h4 =>
(y1g9 v1 v3 v5 v6 v7 v12 h4)
def y2gs (s : St) : OX := yle (s 1) (s 3) (s 5) (s 6) (s 7) (s 12) s.h
theorem y1ic : T1 y11z y25 (y5 5 y25 (y5 4 yg (y5 3 yg (y5 2 y1e xN)))) [.t 2] y2gs := sq y1n5 fun _ => by kernel_rfl
def yn9 (v1 v3 v5 v6 v7 v12 : AV) (h : Heap) : OX :=
ob (evFa 3 v1) fun v132 =>
ob (evLd false 1 v132 h) fun v133 =>
ob (yt 9 v133 v7) fun v135 =>
ob (evLd true 9 v135 h) fun v136 =>
oh (y8 E (y9 E) 0 none true 9 [v136] h) fun v137 h5 =>
ob (y7 .geq v137 (AV.int .i64 0)) fun v139 =>
cnd v139
 (oh (y8 E (y9 E) 0 none false 85 [v12, v137] h5) fun v142 h6 =>
(yle v1 v3 v5 v6 v7 v12 h6))
 ((yle v1 v3 v5 v6 v7 v12 h5))
def y2da (s : St) : OX := yn9 (s 1) (s 3) (s 5) (s 6) (s 7) (s 12) s.h
theorem y1li : T1 y116 y25 (y5 5 y25 (y5 4 yg (y5 3 yg (y5 2 y1e xN)))) [.t 2] y2da := sq y1ic fun _ => by kernel_rfl
def y1l1 (v1 v3 v5 v6 v7 : AV) (h : Heap) : OX :=
ob (y1t v5) fun v125 =>
ob (evFa 1 v125) fun v126 =>
ob (evLd false 1 v126 h) fun v127 =>
ob (yt 1 v127 v7) fun v129 =>
ob (evLd false 1 v129 h) fun v130 =>
oh (y37 0 (some 2) 1 8 AV.nils v130 h) fun v131 h7 =>
(yn9 v1 v3 v5 v6 v7 v131 h7)
def y6c (s : St) : OX := y1l1 (s 1) (s 3) (s 5) (s 6) (s 7) s.h
theorem y1ke : T1 yww y25 (y5 5 y25 (y5 4 yg (y5 3 yg (y5 2 y1e xN)))) [.t 2] y6c := sq y1li fun _ => by kernel_rfl
def yd3 (v1 v3 v5 v6 v7 v102 v103 v104 : AV) (h : Heap) : OX :=
  W E 0 yji ⟨[(1, v1), (3, v3), (5, v5), (6, v6), (7, v7), (102, v102), (103, v103), (104, v104)], h⟩ y6c (y5 8 y6c (y5 5 y25 (y5 4 yg (y5 3 yg (y5 2 y1e xN))))) (finP [.t 2])
def y82 (s : St) : OX := yd3 (s 1) (s 3) (s 5) (s 6) (s 7) (s 102) (s 103) (s 104) s.h
theorem ylt : T1 yji y6c (y5 8 y6c (y5 5 y25 (y5 4 yg (y5 3 yg (y5 2 y1e xN))))) [.t 2] y82 := fun s => yi.trans (by kernel_rfl)
def y1e5 (v1 v3 v5 v6 v7 v102 v103 v104 : AV) (h : Heap) : OX :=
ob (y7 .add v104 (AV.int .i64 1)) fun v123 =>
(yd3 v1 v3 v5 v6 v7 v102 v103 v123 h)
def y2g9 (s : St) : OX := y1e5 (s 1) (s 3) (s 5) (s 6) (s 7) (s 102) (s 103) (s 104) s.h
theorem y1n0 : T1 y0r y82 (y5 8 y6c (y5 5 y25 (y5 4 yg (y5 3 yg (y5 2 y1e xN))))) [.t 2] y2g9 := fun _ => by kernel_rfl
def y1pz (v1 v3 v5 v6 v7 v102 v103 v104 : AV) (h : Heap) : OX :=
ob (yt 1 v102 v104) fun v106 =>
ob (evLd false 1 v106 h) fun v107 =>
ob (y1t v5) fun v109 =>
ob (evFa 2 v109) fun v110 =>
ob (evLd false 1 v110 h) fun v111 =>
ob (yt 1 v111 v7) fun v113 =>
ob (evLd false 1 v113 h) fun v114 =>
ob (y1t v5) fun v116 =>
ob (evFa 0 v116) fun v117 =>
ob (evLd false 1 v117 h) fun v118 =>
ob (yt 1 v118 v107) fun v120 =>
ob (evLd false 1 v120 h) fun v121 =>
oh (y8 E (y9 E) 0 none false 84 [v114, v121] h) fun v122 h8 =>
(y1e5 v1 v3 v5 v6 v7 v102 v103 v104 h8)
def y297 (s : St) : OX := y1pz (s 1) (s 3) (s 5) (s 6) (s 7) (s 102) (s 103) (s 104) s.h
theorem y1qh : T1 yz0 y82 (y5 8 y6c (y5 5 y25 (y5 4 yg (y5 3 yg (y5 2 y1e xN))))) [.t 2] y297 := sq y1n0 fun _ => by kernel_rfl
def y14y (v1 v3 v5 v6 v7 v102 v103 v104 v105 : AV) (h : Heap) : OX :=
cnd v105
 ((y1pz v1 v3 v5 v6 v7 v102 v103 v104 h))
 ((y1l1 v1 v3 v5 v6 v7 h))
def y28k (s : St) : OX := y14y (s 1) (s 3) (s 5) (s 6) (s 7) (s 102) (s 103) (s 104) (s 105) s.h
theorem y1ie : T1 y0n y82 (y5 8 y6c (y5 5 y25 (y5 4 yg (y5 3 yg (y5 2 y1e xN))))) [.t 2] y28k := sq y1qh fun _ => by kernel_rfl
def y15e (v1 v3 v5 v6 v7 v102 v103 v104 : AV) (h : Heap) : OX :=
ob (y7 .lss v104 v103) fun v105 =>
(y14y v1 v3 v5 v6 v7 v102 v103 v104 v105 h)
def y28y (s : St) : OX := y15e (s 1) (s 3) (s 5) (s 6) (s 7) (s 102) (s 103) (s 104) s.h
theorem y1n8 : T1 y15m y82 (y5 8 y6c (y5 5 y25 (y5 4 yg (y5 3 yg (y5 2 y1e xN))))) [.t 2] y28y := sq y1ie fun _ => by kernel_rfl
theorem ymn (v1 v3 v5 v6 v7 v102 v103 v104 : AV) (h : Heap) : yd3 v1 v3 v5 v6 v7 v102 v103 v104 h = (y15e v1 v3 v5 v6 v7 v102 v103 v104 h) :=
  y1n.trans ((y17 _ _ _ (n' := y82) (fun s => ylt s)).trans ((y1n8 _).trans (by kernel_rfl)))
theorem y1m1 : T1 yzd y6c (y5 5 y25 (y5 4 yg (y5 3 yg (y5 2 y1e xN)))) [.t 2] y82 := fun s => yw.trans (ylt s)
def y1th (v1 v3 v5 v6 v7 : AV) (h : Heap) : OX :=
ob (evLd true 5 v1 h) fun v100 =>
oh (y8 E (y9 E) 0 none true 79 [v100, v7] h) fun v102 h9 =>
ob (y14 1 v102 h9) fun v103 =>
(yd3 v1 v3 v5 v6 v7 v102 v103 (AV.int .i64 0) h9)
def y5s (s : St) : OX := y1th (s 1) (s 3) (s 5) (s 6) (s 7) s.h
theorem y1of : T1 yy8 y6c (y5 5 y25 (y5 4 yg (y5 3 yg (y5 2 y1e xN)))) [.t 2] y5s := sq y1m1 fun _ => by kernel_rfl
theorem y1pp : T1 y15k y25 (y5 5 y25 (y5 4 yg (y5 3 yg (y5 2 y1e xN)))) [.t 2] y5s := sq y1ke y1of
def ycg (v1 v3 v5 v6 v7 v78 v79 v80 : AV) (h : Heap) : OX :=
  W E 0 yhr ⟨[(1, v1), (3, v3), (5, v5), (6, v6), (7, v7), (78, v78), (79, v79), (80, v80)], h⟩ y5s (y5 6 y5s (y5 5 y25 (y5 4 yg (y5 3 yg (y5 2 y1e xN))))) (finP [.t 2])
def y8l (s : St) : OX := ycg (s 1) (s 3) (s 5) (s 6) (s 7) (s 78) (s 79) (s 80) s.h
theorem ym4 : T1 yhr y5s (y5 6 y5s (y5 5 y25 (y5 4 yg (y5 3 yg (y5 2 y1e xN))))) [.t 2] y8l := fun s => yi.trans (by kernel_rfl)
def y1px (v1 v3 v5 v6 v7 v78 v79 v80 : AV) (h : Heap) : OX :=
ob (y7 .add v80 (AV.int .i64 1)) fun v99 =>
(ycg v1 v3 v5 v6 v7 v78 v79 v99 h)
def y28v (s : St) : OX := y1px (s 1) (s 3) (s 5) (s 6) (s 7) (s 78) (s 79) (s 80) s.h
theorem y1uv : T1 y189 y8l (y5 6 y5s (y5 5 y25 (y5 4 yg (y5 3 yg (y5 2 y1e xN))))) [.t 2] y28v := fun _ => by kernel_rfl
def y1h8 (v1 v3 v5 v6 v7 v78 v79 v80 : AV) (h : Heap) : OX :=
ob (yt 1 v78 v80) fun v82 =>
ob (evLd false 1 v82 h) fun v83 =>
ob (y1t v5) fun v85 =>
ob (evFa 1 v85) fun v86 =>
ob (evLd false 1 v86 h) fun v87 =>
ob (yt 1 v87 v7) fun v89 =>
ob (evLd false 1 v89 h) fun v90 =>
ob (y1t v5) fun v92 =>
ob (evFa 0 v92) fun v93 =>
ob (evLd false 1 v93 h) fun v94 =>
ob (yt 1 v94 v83) fun v96 =>
ob (evLd false 1 v96 h) fun v97 =>
oh (y8 E (y9 E) 0 none false 84 [v90, v97] h) fun v98 h10 =>
(y1px v1 v3 v5 v6 v7 v78 v79 v80 h10)
def y2aw (s : St) : OX := y1h8 (s 1) (s 3) (s 5) (s 6) (s 7) (s 78) (s 79) (s 80) s.h
theorem y1kz : T1 y12m y8l (y5 6 y5s (y5 5 y25 (y5 4 yg (y5 3 yg (y5 2 y1e xN))))) [.t 2] y2aw := sq y1uv fun _ => by kernel_rfl
def y12f (v1 v3 v5 v6 v7 v78 v79 v80 v81 : AV) (h : Heap) : OX :=
cnd v81
 ((y1h8 v1 v3 v5 v6 v7 v78 v79 v80 h))
 ((y1th v1 v3 v5 v6 v7 h))
def y2f5 (s : St) : OX := y12f (s 1) (s 3) (s 5) (s 6) (s 7) (s 78) (s 79) (s 80) (s 81) s.h
theorem y1kv : T1 y135 y8l (y5 6 y5s (y5 5 y25 (y5 4 yg (y5 3 yg (y5 2 y1e xN))))) [.t 2] y2f5 := sq y1kz fun _ => by kernel_rfl
def y16p (v1 v3 v5 v6 v7 v78 v79 v80 : AV) (h : Heap) : OX :=
ob (y7 .lss v80 v79) fun v81 =>
(y12f v1 v3 v5 v6 v7 v78 v79 v80 v81 h)
def y2f4 (s : St) : OX := y16p (s 1) (s 3) (s 5) (s 6) (s 7) (s 78) (s 79) (s 80) s.h
theorem y1nz : T1 y12a y8l (y5 6 y5s (y5 5 y25 (y5 4 yg (y5 3 yg (y5 2 y1e xN))))) [.t 2] y2f4 := sq y1kv fun _ => by kernel_rfl
theorem ynq (v1 v3 v5 v6 v7 v78 v79 v80 : AV) (h : Heap) : ycg v1 v3 v5 v6 v7 v78 v79 v80 h = (y16p v1 v3 v5 v6 v7 v78 v79 v80 h) :=
  y1n.trans ((y17 _ _ _ (n' := y8l) (fun s => ym4 s)).trans ((y1nz _).trans (by kernel_rfl)))
theorem y1el : T1 y12w y5s (y5 5 y25 (y5 4 yg (y5 3 yg (y5 2 y1e xN)))) [.t 2] y8l := fun s => yw.trans (ym4 s)
def y1h0 (v1 v3 v5 v6 v7 : AV) (h : Heap) : OX :=
ob (evLd true 5 v1 h) fun v76 =>
oh (y8 E (y9 E) 0 none true 81 [v76, v7] h) fun v78 h11 =>
ob (y14 1 v78 h11) fun v79 =>
(ycg v1 v3 v5 v6 v7 v78 v79 (AV.int .i64 0) h11)
def yo5 (s : St) : OX := y1h0 (s 1) (s 3) (s 5) (s 6) (s 7) s.h
theorem y1fl : T1 y0m y5s (y5 5 y25 (y5 4 yg (y5 3 yg (y5 2 y1e xN)))) [.t 2] yo5 := sq y1el fun _ => by kernel_rfl
theorem y1v7 : T1 y15s y25 (y5 5 y25 (y5 4 yg (y5 3 yg (y5 2 y1e xN)))) [.t 2] yo5 := sq y1pp y1fl
theorem y1wt : T1 y179 y25 (y5 4 yg (y5 3 yg (y5 2 y1e xN))) [.t 2] yo5 := fun s => yw.trans (y1v7 s)
theorem y1qr : T1 y164 yfa (y5 4 yg (y5 3 yg (y5 2 y1e xN))) [.t 2] yo5 := sq y1yi y1wt
def y15v (v1 v3 v5 v6 v7 : AV) (h : Heap) : OX :=
ob (y7 .geq v7 (AV.int .i64 0)) fun v73 =>
cnd v73
 ((y1h0 v1 v3 v5 v6 v7 h))
 ((ydj v1 v3 v5 v6 h))
def y2ej (s : St) : OX := y15v (s 1) (s 3) (s 5) (s 6) (s 7) s.h
theorem y1qs : T1 yyx yfa (y5 4 yg (y5 3 yg (y5 2 y1e xN))) [.t 2] y2ej := sq y1qr fun _ => by kernel_rfl
theorem yrk (v1 v3 v5 v6 v7 : AV) (h : Heap) : yje v1 v3 v5 v6 v7 h = (y15v v1 v3 v5 v6 v7 h) :=
  y1n.trans ((y17 _ _ _ (n' := yfa) (fun s => yq9 s)).trans ((y1qs _).trans (by kernel_rfl)))
theorem y1dj : T1 y16y yg (y5 3 yg (y5 2 y1e xN)) [.t 2] yfa := fun s => yw.trans (yq9 s)
def y1oh (v1 v3 v5 v6 : AV) (h : Heap) : OX :=
ob (y7 .sub v3 (AV.int .i64 1)) fun v71 =>
(yje v1 v3 v5 v6 v71 h)
def y2fu (s : St) : OX := y1oh (s 1) (s 3) (s 5) (s 6) s.h
theorem y1nv : T1 y0k yg (y5 3 yg (y5 2 y1e xN)) [.t 2] y2fu := sq y1dj fun _ => by kernel_rfl
def y1wl (v1 v3 v5 : AV) (h : Heap) : OX :=
(y1oh v1 v3 v5 (AV.bool false) h)
def y1o7 (s : St) : OX := y1wl (s 1) (s 3) (s 5) s.h
theorem y1jy : T1 y14i yg (y5 3 yg (y5 2 y1e xN)) [.t 2] y1o7 := sq y1nv fun _ => by kernel_rfl
theorem y1rr : T1 y15h yg (y5 2 y1e xN) [.t 2] y1o7 := fun s => yw.trans (y1jy s)
def y11w (v1 v3 v5 v6 : AV) (h : Heap) : OX :=
cnd v6
 ((y1wl v1 v3 v5 h))
 ((y1n9 v5 h))
def y2c2 (s : St) : OX := y11w (s 1) (s 3) (s 5) (s 6) s.h
theorem y1dl : T1 yyn yg (y5 2 y1e xN) [.t 2] y2c2 := sq y1rr fun _ => by kernel_rfl
theorem yrr (v1 v3 v5 v6 : AV) (h : Heap) : ydj v1 v3 v5 v6 h = (y11w v1 v3 v5 v6 h) :=
  y1n.trans ((y17 _ _ _ (n' := yg) (fun s => ysv s)).trans ((y1dl _).trans (by kernel_rfl)))
theorem y1k5 : T1 yzn y1e xN [.t 2] yg := fun s => yw.trans (ysv s)
def y15p (v1 v3 v5 : AV) (h : Heap) : OX :=
(ydj v1 v3 v5 (AV.bool true) h)
def y5w (s : St) : OX := y15p (s 1) (s 3) (s 5) s.h
theorem y1m3 : T1 y16v y1e xN [.t 2] y5w := sq y1k5 fun _ => by kernel_rfl
theorem y1jv : T0 yz3 [.t 2] y5w := sq y236 y1m3
def yhv (v1 v3 v4 v5 v32 v33 : AV) (h : Heap) : OX :=
  W E 0 yk4 ⟨[(1, v1), (3, v3), (4, v4), (5, v5), (32, v32), (33, v33)], h⟩ y5w (y5 0 y5w xN) (finP [.t 2])
def y8c (s : St) : OX := yhv (s 1) (s 3) (s 4) (s 5) (s 32) (s 33) s.h
theorem yno : T1 yk4 y5w (y5 0 y5w xN) [.t 2] y8c := fun s => yi.trans (by kernel_rfl)
def ynp (v1 v3 v4 v5 v32 v33 : AV) (h : Heap) : OX :=
ob (y7 .add v33 (AV.int .i64 1)) fun v68 =>
(yhv v1 v3 v4 v5 v32 v68 h)
def y2f7 (s : St) : OX := ynp (s 1) (s 3) (s 4) (s 5) (s 32) (s 33) s.h
theorem y1f0 : T1 y0a y8c (y5 0 y5w xN) [.t 2] y2f7 := fun _ => by kernel_rfl
def yn7 (v1 v3 v4 v5 v32 v33 : AV) (h : Heap) : OX :=
ob (y1t v5) fun v39 =>
ob (evFa 0 v39) fun v40 =>
ob (evLd false 1 v40 (h ++ yk 9)) fun v41 =>
oh (mkSC h.length (some 0) 1 8 [(.int .u64 0)] v4 v4 (h ++ yk 9)) fun v43 h12 =>
oh (y11 h.length (some 1) 1 1 [.nils] [(0, v43)] h12) fun v44 h13 =>
oh (y37 h.length (some 2) 1 24 v41 v44 h13) fun v45 h14 =>
ob (y1t v5) fun v47 =>
ob (evFa 1 v47) fun v48 =>
ob (evLd false 1 v48 h14) fun v49 =>
oh (mkSC h.length (some 3) 1 8 [(.int .u64 0)] v4 v4 h14) fun v51 h15 =>
oh (y11 h.length (some 4) 1 1 [.nils] [(0, v51)] h15) fun v52 h16 =>
oh (y37 h.length (some 5) 1 24 v49 v52 h16) fun v53 h17 =>
ob (y1t v5) fun v55 =>
ob (evFa 2 v55) fun v56 =>
ob (evLd false 1 v56 h17) fun v57 =>
oh (mkSC h.length (some 6) 1 8 [(.int .u64 0)] v4 v4 h17) fun v59 h18 =>
oh (y11 h.length (some 7) 1 1 [.nils] [(0, v59)] h18) fun v60 h19 =>
oh (y37 h.length (some 8) 1 24 v57 v60 h19) fun v61 h20 =>
ob (y1t v5) fun v62 =>
ob (evFa 0 v62) fun v63 =>
oh (evSt 1 v63 v45 h20) fun _ h21 =>
ob (y1t v5) fun v64 =>
ob (evFa 1 v64) fun v65 =>
oh (evSt 1 v65 v53 h21) fun _ h22 =>
ob (y1t v5) fun v66 =>
ob (evFa 2 v66) fun v67 =>
oh (evSt 1 v67 v61 h22) fun _ h23 =>
okK (yf [([], []), ([], []), ([], []), ([], []), ([], []), ([], []), (ids1 v40, []), ([], []), ([], [h.length + 0]), ([], [h.length + 1]), (ids1 v44, ids1 v41 ++ [h.length + 2]), ([], []), ([], []), ([], []), (ids1 v48, []), ([], []), ([], [h.length + 3]), ([], [h.length + 4]), (ids1 v52, ids1 v49 ++ [h.length + 5]), ([], []), ([], []), ([], []), (ids1 v56, []), ([], []), ([], [h.length + 6]), ([], [h.length + 7]), (ids1 v60, ids1 v57 ++ [h.length + 8]), ([], []), ([], []), ([], ids1 v63), ([], []), ([], []), ([], ids1 v65), ([], []), ([], []), ([], ids1 v67)] [(6, 8), (6, 9), (8, 14), (9, 14), (10, 14), (6, 16), (8, 16), (9, 16), (10, 16), (14, 16), (6, 17), (8, 17), (9, 17), (10, 17), (14, 17), (8, 22), (9, 22), (10, 22), (16, 22), (17, 22), (18, 22), (6, 24), (8, 24), (9, 24), (10, 24), (14, 24), (16, 24), (17, 24), (18, 24), (22, 24), (6, 25), (8, 25), (9, 25), (10, 25), (14, 25), (16, 25), (17, 25), (18, 25), (22, 25)]) <|
(ynp v1 v3 v4 v5 v32 v33 h23)
def y2c3 (s : St) : OX := yn7 (s 1) (s 3) (s 4) (s 5) (s 32) (s 33) s.h
theorem y1d3 : T1 y0w y8c (y5 0 y5w xN) [.t 2] y2c3 := sq y1f0 fun _ => by kernel_rfl
def yps (v1 v3 v4 v5 v32 v33 v34 : AV) (h : Heap) : OX :=
cnd v34
 ((yn7 v1 v3 v4 v5 v32 v33 h))
 ((y15p v1 v3 v5 h))
def y2bg (s : St) : OX := yps (s 1) (s 3) (s 4) (s 5) (s 32) (s 33) (s 34) s.h
theorem y1h9 : T1 y00 y8c (y5 0 y5w xN) [.t 2] y2bg := sq y1d3 fun _ => by kernel_rfl
def ysn (v1 v3 v4 v5 v32 v33 : AV) (h : Heap) : OX :=
ob (y7 .lss v33 v32) fun v34 =>
(yps v1 v3 v4 v5 v32 v33 v34 h)
def y2cv (s : St) : OX := ysn (s 1) (s 3) (s 4) (s 5) (s 32) (s 33) s.h
theorem y1fj : T1 y16b y8c (y5 0 y5w xN) [.t 2] y2cv := sq y1h9 fun _ => by kernel_rfl
theorem yew (v1 v3 v4 v5 v32 v33 : AV) (h : Heap) : yhv v1 v3 v4 v5 v32 v33 h = (ysn v1 v3 v4 v5 v32 v33 h) :=
  y1n.trans ((y17 _ _ _ (n' := y8c) (fun s => yno s)).trans ((y1fj _).trans (by kernel_rfl)))
theorem y1gp : T1 y180 y5w xN [.t 2] y8c := fun s => yw.trans (yno s)
def y1en (v1 v3 v4 v5 : AV) (h : Heap) : OX :=
(yhv v1 v3 v4 v5 v3 (AV.int .i64 0) h)
def y1h7 (s : St) : OX := y1en (s 1) (s 3) (s 4) (s 5) s.h
theorem y1fr : T1 yxr y5w xN [.t 2] y1h7 := sq y1gp fun _ => by kernel_rfl
theorem y1jj : T0 yx5 [.t 2] y1h7 := sq y1jv y1fr
def y1im (v1 v3 v4 : AV) (h : Heap) : OX :=
ob (evFa 0 v1) fun v27 =>
ob (evLd false 1 v27 h) fun v28 =>
ob (y14 1 v28 h) fun v29 =>
ob (y1c [.nils, .nils, .nils, (.int .i64 0)] [(3, 1, v29)]) fun v30 =>
oh (newC 0 (some 1) (cellsOf v30) h) fun v31 h24 =>
(y1en v1 v3 v4 v31 h24)
def y29p (s : St) : OX := y1im (s 1) (s 3) (s 4) s.h
theorem y1qf : T0 ywx [.t 2] y29p := sq y1jj fun _ => by kernel_rfl
def y1wy (v1 : AV) (h : Heap) : OX :=
ob (evFa 3 v1) fun v19 =>
ob (evLd false 1 v19 h) fun v20 =>
ob (y14 1 v20 h) fun v21 =>
ob (evFa 0 v1) fun v22 =>
ob (evLd false 1 v22 h) fun v23 =>
ob (y14 1 v23 h) fun v24 =>
ob (y7 .quo v24 (AV.int .i64 64)) fun v25 =>
ob (y7 .add v25 (AV.int .i64 1)) fun v26 =>
(y1im v1 v21 v26 h)
def y2gi (s : St) : OX := y1wy (s 1) s.h
theorem y1ko : T0 yy1 [.t 2] y2gi := sq y1qf fun _ => by kernel_rfl
def y1m4 (v1 : AV) (h : Heap) : OX :=
ob (evLd true 5 v1 h) fun v16 =>
oh (y8 E (y9 E) 0 none true 8 [v16] h) fun v17 h25 =>
ob (y7 .neq v17 (AV.int .i64 0)) fun v18 =>
cnd v18
 ((ye h25 AV.nilp))
 ((y1wy v1 h25))
def y29j (s : St) : OX := y1m4 (s 1) s.h
theorem y1tx : T0 yzb [.t 2] y29j := sq y1ko fun _ => by kernel_rfl
def y1mh (v0 : AV) (h : Heap) : OX :=
oh (newC 0 (some 0) (cellsOf v0) h) fun v1 h26 =>
(y1m4 v1 h26)
def y28u (s : St) : OX := y1mh (s 0) s.h
theorem y1e6 : T0 y11p [.t 2] y28u := sq y1tx fun _ => by kernel_rfl
@[simp] theorem y2rq : E.pure 75 = true := rfl
theorem y2rp (v0 : AV) : (y9 E).p 75 [v0] = y1mh v0 [⟨0, .dead⟩, ⟨0, .dead⟩, ⟨0, .dead⟩] :=
  (y12 (cf := y2nl) (by kernel_rfl) rfl).trans ((y1e6 _).trans (by kernel_rfl))
def y1i1 (h : Heap) : OX :=
(ye h (AV.bool false))
def yj9 (s : St) : OX := y1i1 s.h
theorem y24z : T0 y1vh [.t 2] yj9 := fun _ => by kernel_rfl
def ycz (v5 : AV) (h : Heap) : OX :=
cnd v5
 ((ye h (AV.bool true)))
 ((y1i1 h))
def y2in (s : St) : OX := ycz (s 5) s.h
theorem y1yg : T1 y1e8 yj9 (y5 0 yj9 xN) [.t 2] y2in := fun _ => by kernel_rfl
def y1d5 (v4 : AV) (h : Heap) : OX :=
ob (y7 .eql v4 (AV.int .i64 1)) fun v6 =>
cnd v6
 ((ycz v6 h))
 (ob (y7 .eql v4 (AV.int .i64 2)) fun v7 =>
cnd v7
 ((ycz v7 h))
 (ob (y7 .eql v4 (AV.int .i64 3)) fun v8 =>
cnd v8
 ((ycz v8 h))
 (ob (y7 .eql v4 (AV.int .i64 4)) fun v9 =>
cnd v9
 ((ycz v9 h))
 (ob (y7 .eql v4 (AV.int .i64 5)) fun v10 =>
cnd v10
 ((ycz v10 h))
 (ob (y7 .eql v4 (AV.int .i64 6)) fun v11 =>
cnd v11
 ((ycz v11 h))
 (ob (y7 .eql v4 (AV.int .i64 13)) fun v12 =>
cnd v12
 ((ycz v12 h))
 (ob (y7 .eql v4 (AV.int .i64 15)) fun v13 =>
cnd v13
 ((ycz v13 h))
 (ob (y7 .eql v4 (AV.int .i64 16)) fun v14 =>
cnd v14
 ((ycz v14 h))
 (ob (y7 .eql v4 (AV.int .i64 18)) fun v15 =>
cnd v15
 ((ycz v15 h))
 (ob (y7 .eql v4 (AV.int .i64 22)) fun v16 =>
(ycz v16 h)))))))))))
def y27j (s : St) : OX := y1d5 (s 4) s.h
theorem y208 : T1 y1kw yj9 (y5 0 yj9 xN) [.t 2] y27j := sq y1yg fun _ => by kernel_rfl
theorem y23a : T1 y1gv yj9 xN [.t 2] y27j := fun s => yw.trans (y208 s)
def y1se (v1 : AV) (h : Heap) : OX :=
ob (evFa 0 v1) fun v3 =>
ob (evLd false 1 v3 h) fun v4 =>
(y1d5 v4 h)
def y277 (s : St) : OX := y1se (s 1) s.h
theorem y205 : T1 y1h3 yj9 xN [.t 2] y277 := sq y23a fun _ => by kernel_rfl
theorem y22r : T0 y1j6 [.t 2] y277 := sq y24z y205
def y1m5 (v0 : AV) (h : Heap) : OX :=
oh (newC 0 (some 0) (cellsOf v0) h) fun v1 h1 =>
(y1se v1 h1)
def y2jv (s : St) : OX := y1m5 (s 0) s.h
theorem y1ye : T0 y1p2 [.t 2] y2jv := sq y22r fun _ => by kernel_rfl
@[simp] theorem y2pa : E.pure 20 = true := rfl
theorem y2sr (v0 : AV) : (y9 E).p 20 [v0] = y1m5 v0 [⟨0, .dead⟩] :=
  (y12 (cf := y2ia) (by kernel_rfl) rfl).trans ((y1ye _).trans (by kernel_rfl))
def y2fl (v0 v1 v2 : AV) (h : Heap) : OX :=
ob (y5f 0 true v0 AV.nilp) fun v8 =>
gb v8 true (some v0) fun v10 =>
gb v8 true (some v0) fun v11 =>
gb v8 true (y1t v11) fun v12 =>
gb v8 true (evFa 1 v12) fun v13 =>
gb v8 true (evLd false 1 v13 h) fun v14 =>
gb v8 true (some v1) fun v15 =>
gb v8 true (some v2) fun v16 =>
gh v8 true (y8 E (y9 E) 0 none true 82 [v10, v14, v15, v16] h) h fun v17 h1 =>
ob (yd v8 v17 (AV.bool false)) fun v18 =>
(ye h1 v18)
def y2j9 (s : St) : OX := y2fl (s 0) (s 1) (s 2) s.h
theorem y25c : T0 y1m2 [.t 6] y2j9 := fun _ => by kernel_rfl
@[simp] theorem y2r8 : E.pure 87 = true := rfl
theorem y2qh (v0 v1 v2 : AV) : (y9 E).p 87 [v0, v1, v2] = y2fl v0 v1 v2 [] :=
  (y12 (cf := y2ji) (by kernel_rfl) rfl).trans ((y25c _).trans (by kernel_rfl))
def y1ht (v5 : AV) (h : Heap) : OX :=
(ye h v5)
def y5y (s : St) : OX := y1ht (s 5) s.h
theorem y23m : T0 y1u8 [.t 4] y5y := fun _ => by kernel_rfl
def yrt (v1 v5 v27 v28 v29 : AV) (h : Heap) : OX :=
  W E 0 yof ⟨[(1, v1), (5, v5), (27, v27), (28, v28), (29, v29)], h⟩ y5y (y5 0 y5y xN) (finP [.t 4])
def ych (s : St) : OX := yrt (s 1) (s 5) (s 27) (s 28) (s 29) s.h
theorem yth : T1 yof y5y (y5 0 y5y xN) [.t 4] ych := fun s => yi.trans (by kernel_rfl)
def y193 (v1 v5 v27 v28 v29 : AV) (h : Heap) : OX :=
ob (y7 .add v29 (AV.int .i64 1)) fun v56 =>
(yrt v1 v5 v27 v28 v56 h)
def yc5 (s : St) : OX := y193 (s 1) (s 5) (s 27) (s 28) (s 29) s.h
theorem y1yf : T1 y1ix ych (y5 0 y5y xN) [.t 4] yc5 := fun _ => by kernel_rfl
def y19q (v1 v5 v7 v27 v28 v29 : AV) (h : Heap) : OX :=
ob (evFa 3 v7) fun v53 =>
ob (evLd false 1 v53 h) fun v54 =>
ob (y7 .eql v54 (AV.str [])) fun v55 =>
cnd v55
 ((y1ht v5 h))
 ((y193 v1 v5 v27 v28 v29 h))
def y2n6 (s : St) : OX := y19q (s 1) (s 5) (s 7) (s 27) (s 28) (s 29) s.h
theorem y21t : T1 y1i5 yc5 (y5 1 yc5 (y5 0 y5y xN)) [.t 4] y2n6 := fun _ => by kernel_rfl
def y20a (v1 v5 v7 v27 v28 v29 : AV) (h : Heap) : OX :=
ob (evFa 2 v7) fun v44 =>
ob (evLd false 1 v44 h) fun v45 =>
oh (y8 E (y9 E) 0 none true 46 [v5, v45] h) fun v46 h1 =>
ob (evUn .not v46) fun v47 =>
cnd v47
 (ob (evFa 2 v7) fun v49 =>
ob (evLd false 1 v49 h1) fun v50 =>
oh (y11 0 (some 2) 1 1 [(.int .i64 0)] [(0, v50)] h1) fun v51 h2 =>
oh (y37 0 (some 3) 1 8 v5 v51 h2) fun v52 h3 =>
(y19q v1 v52 v7 v27 v28 v29 h3))
 ((y19q v1 v5 v7 v27 v28 v29 h1))
def y2ly (s : St) : OX := y20a (s 1) (s 5) (s 7) (s 27) (s 28) (s 29) s.h
theorem y1zk : T1 y1cp yc5 (y5 1 yc5 (y5 0 y5y xN)) [.t 4] y2ly := sq y21t fun _ => by kernel_rfl
def yvr (v1 v5 v7 v27 v28 v29 : AV) (h : Heap) : OX :=
ob (evFa 0 v7) fun v34 =>
ob (evLd false 1 v34 h) fun v35 =>
ob (y7 .lss v1 v35) fun v36 =>
gb v36 false (some v1) fun v38 =>
gb v36 false (evFa 1 v7) fun v39 =>
gb v36 false (evLd false 1 v39 h) fun v40 =>
gb v36 false (y7 .geq v38 v40) fun v41 =>
ob (yd v36 (AV.bool true) v41) fun v42 =>
cnd v42
 ((y193 v1 v5 v27 v28 v29 h))
 ((y20a v1 v5 v7 v27 v28 v29 h))
def y2hu (s : St) : OX := yvr (s 1) (s 5) (s 7) (s 27) (s 28) (s 29) s.h
theorem y204 : T1 y1t1 yc5 (y5 1 yc5 (y5 0 y5y xN)) [.t 4] y2hu := sq y1zk fun _ => by kernel_rfl
def y2fv (v1 v5 v27 v28 v29 : AV) (h : Heap) : OX :=
ob (yt 4 v27 v29) fun v31 =>
ob (evLd true 4 v31 h) fun v32 =>
oh (newC 0 (some 1) [(.int .i64 0), (.int .i64 0), (.int .i64 0), (.str [])] h) fun v7 h4 =>
oh (evSt 4 v7 v32 h4) fun _ h5 =>
(yvr v1 v5 v7 v27 v28 v29 h5)
def y1o6 (s : St) : OX := y2fv (s 1) (s 5) (s 27) (s 28) (s 29) s.h
theorem y23t : T1 y1u1 yc5 (y5 1 yc5 (y5 0 y5y xN)) [.t 4] y1o6 := sq y204 fun _ => by kernel_rfl
theorem y22y : T1 y1s6 yc5 (y5 0 y5y xN) [.t 4] y1o6 := fun s => yw.trans (y23t s)
theorem y1yn : T1 y1co ych (y5 0 y5y xN) [.t 4] y1o6 := sq y1yf y22y
def y15q (v1 v5 v27 v28 v29 v30 : AV) (h : Heap) : OX :=
cnd v30
 ((y2fv v1 v5 v27 v28 v29 h))
 ((y1ht v5 h))
def y2dy (s : St) : OX := y15q (s 1) (s 5) (s 27) (s 28) (s 29) (s 30) s.h
theorem y1p6 : T1 yz6 ych (y5 0 y5y xN) [.t 4] y2dy := sq y1yn fun _ => by kernel_rfl
def ypp (v1 v5 v27 v28 v29 : AV) (h : Heap) : OX :=
ob (y7 .lss v29 v28) fun v30 =>
(y15q v1 v5 v27 v28 v29 v30 h)
def y2fr (s : St) : OX := ypp (s 1) (s 5) (s 27) (s 28) (s 29) s.h
theorem y1r8 : T1 y12b ych (y5 0 y5y xN) [.t 4] y2fr := sq y1p6 fun _ => by kernel_rfl
theorem ysf (v1 v5 v27 v28 v29 : AV) (h : Heap) : yrt v1 v5 v27 v28 v29 h = (ypp v1 v5 v27 v28 v29 h) :=
  y1n.trans ((y17 _ _ _ (n' := ych) (fun s => yth s)).trans ((y1r8 _).trans (by kernel_rfl)))
theorem y1kn : T1 y15j y5y xN [.t 4] ych := fun s => yw.trans (yth s)
def y1g2 (v1 v2 v5 : AV) (h : Heap) : OX :=
ob (evFa 4 v2) fun v26 =>
ob (evLd false 1 v26 h) fun v27 =>
ob (y14 1 v27 h) fun v28 =>
(yrt v1 v5 v27 v28 (AV.int .i64 0) h)
def y1g7 (s : St) : OX := y1g2 (s 1) (s 2) (s 5) s.h
theorem y1vc : T1 y16m y5y xN [.t 4] y1g7 := sq y1kn fun _ => by kernel_rfl
theorem y1ru : T0 y177 [.t 4] y1g7 := sq y23m y1vc
def y1gt (v1 v2 : AV) (h : Heap) : OX :=
(y1g2 v1 v2 AV.nils h)
def y2aa (s : St) : OX := y1gt (s 1) (s 2) s.h
theorem y1sq : T0 yzt [.t 4] y2aa := sq y1ru fun _ => by kernel_rfl
def yn6 (v1 v2 : AV) (h : Heap) : OX :=
ob (y7 .lss v1 (AV.int .i64 0)) fun v9 =>
gb v9 false (some v1) fun v11 =>
gb v9 false (evFa 3 v2) fun v12 =>
gb v9 false (evLd false 1 v12 h) fun v13 =>
gb v9 false (y14 1 v13 h) fun v14 =>
gb v9 false (y7 .geq v11 v14) fun v15 =>
ob (yd v9 (AV.bool true) v15) fun v16 =>
gb v16 false (evFa 3 v2) fun v18 =>
gb v16 false (evLd false 1 v18 h) fun v19 =>
gb v16 false (some v1) fun v20 =>
gb v16 false (yt 9 v19 v20) fun v21 =>
gb v16 false (evLd true 9 v21 h) fun v22 =>
gh v16 false (y8 E (y9 E) 0 none true 18 [v22] h) h fun v23 h6 =>
gb v16 false (evUn .not v23) fun v24 =>
ob (yd v16 (AV.bool true) v24) fun v25 =>
cnd v25
 ((ye h6 AV.nils))
 ((y1gt v1 v2 h6))
def y2fy (s : St) : OX := yn6 (s 1) (s 2) s.h
theorem y1nt : T0 y173 [.t 4] y2fy := sq y1sq fun _ => by kernel_rfl
def yl1 (v0 v1 : AV) (h : Heap) : OX :=
oh (newC 0 (some 0) (cellsOf v0) h) fun v2 h7 =>
(yn6 v1 v2 h7)
def y2ep (s : St) : OX := yl1 (s 0) (s 1) s.h
theorem y1km : T0 yz1 [.t 4] y2ep := sq y1nt fun _ => by kernel_rfl
@[simp] theorem y2s0 : E.pure 79 = true := rfl
theorem y2qj (v0 v1 : AV) : (y9 E).p 79 [v0, v1] = yl1 v0 v1 [⟨0, .dead⟩, ⟨0, .dead⟩, ⟨0, .dead⟩, ⟨0, .dead⟩] :=
  (y12 (cf := y2hp) (by kernel_rfl) rfl).trans ((y1km _).trans (by kernel_rfl))
def ykm (v6 : AV) (h : Heap) : OX :=
(ye h v6)
def y2k8 (s : St) : OX := ykm (s 6) s.h
theorem y24j : T0 y1eg [.t 4] y2k8 := fun _ => by kernel_rfl
def ykn (v5 v6 : AV) (h : Heap) : OX :=
ob (evLd true 9 v5 h) fun v29 =>
oh (y8 E (y9 E) 0 none true 22 [v29] h) fun v30 h1 =>
gb v30 true (some v6) fun v32 =>
gb v30 true (evFa 6 v5) fun v33 =>
gb v30 true (evLd false 1 v33 h1) fun v34 =>
gh v30 true (y8 E (y9 E) 0 none true 46 [v32, v34] h1) h1 fun v35 h2 =>
gb v30 true (evUn .not v35) fun v36 =>
ob (yd v30 v36 (AV.bool false)) fun v37 =>
cnd v37
 (ob (evFa 6 v5) fun v39 =>
ob (evLd false 1 v39 h2) fun v40 =>
oh (y11 0 (some 4) 1 1 [(.int .i64 0)] [(0, v40)] h2) fun v41 h3 =>
oh (y37 0 (some 5) 1 8 v6 v41 h3) fun v42 h4 =>
(ykm v42 h4))
 ((ykm v6 h2))
def y2ny (s : St) : OX := ykn (s 5) (s 6) s.h
theorem y224 : T0 y1oy [.t 4] y2ny := sq y24j fun _ => by kernel_rfl
def ykq (v1 v5 v6 : AV) (h : Heap) : OX :=
ob (evLd true 9 v5 h) fun v21 =>
oh (y8 E (y9 E) 0 none true 24 [v21] h) fun v22 h5 =>
ob (evUn .not v22) fun v23 =>
cnd v23
 (ob (y7 .add v1 (AV.int .i64 1)) fun v26 =>
oh (y11 0 (some 2) 1 1 [(.int .i64 0)] [(0, v26)] h5) fun v27 h6 =>
oh (y37 0 (some 3) 1 8 v6 v27 h6) fun v28 h7 =>
(ykn v5 v28 h7))
 ((ykn v5 v6 h5))
def y2me (s : St) : OX := ykq (s 1) (s 5) (s 6) s.h
theorem y20o : T0 y1jt [.t 4] y2me := sq y224 fun _ => by kernel_rfl
def y1ml (v1 v5 : AV) (h : Heap) : OX :=
(ykq v1 v5 AV.nils h)
def y2iv (s : St) : OX := y1ml (s 1) (s 5) s.h
theorem y22n : T0 y1uo [.t 4] y2iv := sq y20o fun _ => by kernel_rfl
def y1l5 (v1 v2 : AV) (h : Heap) : OX :=
ob (evFa 3 v2) fun v16 =>
ob (evLd false 1 v16 h) fun v17 =>
ob (yt 9 v17 v1) fun v19 =>
ob (evLd true 9 v19 h) fun v20 =>
oh (newC 0 (some 1) [(.int .i64 0), (.int .i64 0), (.int .i64 0), (.int .i64 0), (.int .i64 0), (.int .i64 0), (.int .i64 0), (.str []), .nils] h) fun v5 h8 =>
oh (evSt 9 v5 v20 h8) fun _ h9 =>
(y1ml v1 v5 h9)
def y2nt (s : St) : OX := y1l5 (s 1) (s 2) s.h
theorem y1xw : T0 y1nh [.t 4] y2nt := sq y22n fun _ => by kernel_rfl
def y1nn (v1 v2 : AV) (h : Heap) : OX :=
ob (y7 .lss v1 (AV.int .i64 0)) fun v8 =>
gb v8 false (some v1) fun v10 =>
gb v8 false (evFa 3 v2) fun v11 =>
gb v8 false (evLd false 1 v11 h) fun v12 =>
gb v8 false (y14 1 v12 h) fun v13 =>
gb v8 false (y7 .geq v10 v13) fun v14 =>
ob (yd v8 (AV.bool true) v14) fun v15 =>
cnd v15
 ((ye h AV.nils))
 ((y1l5 v1 v2 h))
def y2kc (s : St) : OX := y1nn (s 1) (s 2) s.h
theorem y1z2 : T0 y1ei [.t 4] y2kc := sq y1xw fun _ => by kernel_rfl
def y1bz (v0 v1 : AV) (h : Heap) : OX :=
oh (newC 0 (some 0) (cellsOf v0) h) fun v2 h10 =>
(y1nn v1 v2 h10)
def y2kq (s : St) : OX := y1bz (s 0) (s 1) s.h
theorem y24o : T0 y1gu [.t 4] y2kq := sq y1z2 fun _ => by kernel_rfl
@[simp] theorem y2s8 : E.pure 81 = true := rfl
theorem y2qn (v0 v1 : AV) : (y9 E).p 81 [v0, v1] = y1bz v0 v1 [⟨0, .dead⟩, ⟨0, .dead⟩, ⟨0, .dead⟩, ⟨0, .dead⟩, ⟨0, .dead⟩, ⟨0, .dead⟩] :=
  (y12 (cf := y2hx) (by kernel_rfl) rfl).trans ((y24o _).trans (by kernel_rfl))
def y1jc (v0 : AV) (h : Heap) : OX :=
oh (y11 0 (some 0) 1 3 [(.int .i64 0)] [(0, (AV.int .i64 27)), (1, (AV.int .i64 30)), (2, (AV.int .i64 31))] h) fun v4 h1 =>
oh (y8 E (y9 E) 0 none true 42 [v0, v4] h1) fun v5 h2 =>
(ye h2 v5)
def y2dz (s : St) : OX := y1jc (s 0) s.h
theorem y1g3 : T0 y17n [.t 2] y2dz := fun _ => by kernel_rfl
@[simp] theorem y2qm : E.pure 25 = true := rfl
theorem y2ja (v0 : AV) : (y9 E).p 25 [v0] = y1jc v0 [⟨0, .dead⟩] :=
  (y12 (cf := y26a) (by kernel_rfl) rfl).trans ((y1g3 _).trans (by kernel_rfl))
def yr4 (v1 v2 : AV) (h : Heap) : OX :=
ob (evFa 0 v2) fun v14 =>
ob (evLd false 1 v14 h) fun v15 =>
ob (yt 1 v15 v1) fun v17 =>
ob (evLd false 1 v17 h) fun v18 =>
(ye h v18)
def y2en (s : St) : OX := yr4 (s 1) (s 2) s.h
theorem y1d0 : T0 y16u [.t 4] y2en := fun _ => by kernel_rfl
def yu5 (v1 v2 : AV) (h : Heap) : OX :=
ob (y7 .lss v1 (AV.int .i64 0)) fun v6 =>
gb v6 false (some v1) fun v8 =>
gb v6 false (evFa 0 v2) fun v9 =>
gb v6 false (evLd false 1 v9 h) fun v10 =>
gb v6 false (y14 1 v10 h) fun v11 =>
gb v6 false (y7 .geq v8 v11) fun v12 =>
ob (yd v6 (AV.bool true) v12) fun v13 =>
cnd v13
 ((ye h (AV.int .i64 0)))
 ((yr4 v1 v2 h))
def y292 (s : St) : OX := yu5 (s 1) (s 2) s.h
theorem y1fk : T0 yzp [.t 4] y292 := sq y1d0 fun _ => by kernel_rfl
def yte (v0 v1 : AV) (h : Heap) : OX :=
oh (newC 0 (some 0) (cellsOf v0) h) fun v2 h1 =>
(yu5 v1 v2 h1)
def y2d8 (s : St) : OX := yte (s 0) (s 1) s.h
theorem y1vr : T0 y117 [.t 4] y2d8 := sq y1fk fun _ => by kernel_rfl
@[simp] theorem y2rk : E.pure 48 = true := rfl
theorem y2mt (v0 v1 : AV) : (y9 E).p 48 [v0, v1] = yte v0 v1 [⟨0, .dead⟩] :=
  (y12 (cf := y265) (by kernel_rfl) rfl).trans ((y1vr _).trans (by kernel_rfl))
def ymt (h : Heap) : OX :=
(ye h (AV.bool false))
def y7b (s : St) : OX := ymt s.h
theorem y1ku : T0 ywz [.t 4] y7b := fun _ => by kernel_rfl
def yic (v0 v1 v5 : AV) (h : Heap) : OX :=
  W E 0 yh6 ⟨[(0, v0), (1, v1), (5, v5)], h⟩ y7b (y5 0 y7b xN) (finP [.t 4])
def ybb (s : St) : OX := yic (s 0) (s 1) (s 5) s.h
theorem ymi : T1 yh6 y7b (y5 0 y7b xN) [.t 4] ybb := fun s => yi.trans (by kernel_rfl)
def ynf (v0 v1 v5 : AV) (h : Heap) : OX :=
ob (y7 .add v5 (AV.int .i64 1)) fun v11 =>
(yic v0 v1 v11 h)
def y2fo (s : St) : OX := ynf (s 0) (s 1) (s 5) s.h
theorem y1tr : T1 y14c ybb (y5 0 y7b xN) [.t 4] y2fo := fun _ => by kernel_rfl
def ylo (v0 v1 v5 : AV) (h : Heap) : OX :=
ob (yt 1 v1 v5) fun v14 =>
ob (evLd false 1 v14 h) fun v15 =>
ob (y7 .eql v15 v0) fun v17 =>
cnd v17
 ((ye h (AV.bool true)))
 ((ynf v0 v1 v5 h))
def y2d4 (s : St) : OX := ylo (s 0) (s 1) (s 5) s.h
theorem y1ux : T1 y17e ybb (y5 0 y7b xN) [.t 4] y2d4 := sq y1tr fun _ => by kernel_rfl
def ylq (v0 v1 v5 : AV) (h : Heap) : OX :=
ob (y14 1 v1 h) fun v8 =>
ob (y7 .lss v5 v8) fun v9 =>
cnd v9
 ((ylo v0 v1 v5 h))
 ((ymt h))
def y2cg (s : St) : OX := ylq (s 0) (s 1) (s 5) s.h
theorem y1u3 : T1 ywv ybb (y5 0 y7b xN) [.t 4] y2cg := sq y1ux fun _ => by kernel_rfl
theorem ykw (v0 v1 v5 : AV) (h : Heap) : yic v0 v1 v5 h = (ylq v0 v1 v5 h) :=
  y1n.trans ((y17 _ _ _ (n' := ybb) (fun s => ymi s)).trans ((y1u3 _).trans (by kernel_rfl)))
theorem y1sa : T1 yzx y7b xN [.t 4] ybb := fun s => yw.trans (ymi s)
def ym2 (v0 v1 : AV) (h : Heap) : OX :=
(yic v0 v1 (AV.int .i64 0) h)
def y1od (s : St) : OX := ym2 (s 0) (s 1) s.h
theorem y1m6 : T1 yyt y7b xN [.t 4] y1od := sq y1sa fun _ => by kernel_rfl
theorem y1rs : T0 y17x [.t 4] y1od := sq y1ku y1m6
def ymd (v0 v1 : AV) (h : Heap) : OX :=
(ym2 v0 v1 h)
def y2fx (s : St) : OX := ymd (s 0) (s 1) s.h
theorem y1pb : T0 y124 [.t 4] y2fx := sq y1rs fun _ => by kernel_rfl
@[simp] theorem y2p1 : E.pure 42 = true := rfl
theorem y2mx (v0 v1 : AV) : (y9 E).p 42 [v0, v1] = ymd v0 v1 [] :=
  (y12 (cf := y289) (by kernel_rfl) rfl).trans ((y1pb _).trans (by kernel_rfl))
end
end Go.Vm
