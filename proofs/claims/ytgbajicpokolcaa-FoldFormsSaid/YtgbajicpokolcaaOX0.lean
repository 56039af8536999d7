/- Functions of the machine as plain functions that go on with what follows. -/
import Derived.Test.YtgbajicpokolcaaOEnv
set_option linter.unusedSimpArgs false
set_option linter.unusedVariables false
set_option linter.unusedSectionVars false
namespace Go.Vm
noncomputable section
def y213 (v1 v3 : AV) (h : Heap) : OX :=
ob (evLd true 5 v3 h) fun v30 =>
oh (y5 E (y7 E) 0 none true 29 [v30] h) fun v31 h1 =>
ob (y2 .eql v31 (AV.int .i64 0)) fun v32 =>
gb v32 true (evFa 3 v3) fun v34 =>
gb v32 true (evLd false 1 v34 h1) fun v35 =>
gb v32 true (yv 1 v35 h1) fun v36 =>
gb v32 true (evFa 3 v1) fun v37 =>
gb v32 true (evLd false 1 v37 h1) fun v38 =>
gb v32 true (yv 1 v38 h1) fun v39 =>
gb v32 true (y2 .eql v36 v39) fun v40 =>
ob (y9 v32 v40 (AV.bool false)) fun v41 =>
gb v41 true (evLd true 5 v1 h1) fun v43 =>
gh v41 true (y5 E (y7 E) 0 none true 77 [v43] h1) h1 fun v44 h2 =>
gb v41 true (evUn .not v44) fun v45 =>
gb v41 true (some v45) fun v46 =>
gb v46 false (evLd true 5 v3 h2) fun v47 =>
gh v46 false (y5 E (y7 E) 0 none true 77 [v47] h2) h2 fun v48 h3 =>
gb v41 true (y9 v46 (AV.bool true) v48) fun v49 =>
ob (y9 v41 v49 (AV.bool false)) fun v50 =>
(yc h3 v50)
def y2kz (s : St) : OX := y213 (s 1) (s 3) s.h
theorem y22l : T0 y1xh [.t 2] y2kz := fun _ => by kernel_rfl
def y1be (v1 v3 : AV) (h : Heap) : OX :=
ob (evLd true 5 v1 h) fun v24 =>
oh (y5 E (y7 E) 0 none true 29 [v24] h) fun v25 h4 =>
ob (y2 .neq v25 (AV.int .i64 0)) fun v26 =>
cnd v26
 (ob (evLd true 5 v1 h4) fun v27 =>
ob (evLd true 5 v3 h4) fun v28 =>
oh (y5 E (y7 E) 0 none true 14 [v27, v28] h4) fun v29 h5 =>
(yc h5 v29))
 ((y213 v1 v3 h4))
def y2qd (s : St) : OX := y1be (s 1) (s 3) s.h
theorem y1zh : T0 y1sz [.t 2] y2qd := sq y22l fun _ => by kernel_rfl
def y1ug (v1 : AV) (h : Heap) : OX :=
ob (evLd true 5 v1 h) fun v22 =>
oh (y5 E (y7 E) 0 none true 125 [v22] h) fun v23 h6 =>
oh (newC 0 (some 1) [.nils, .nils, (.int .i64 0), .nils, .nils] h6) fun v3 h7 =>
oh (evSt 5 v3 v23 h7) fun _ h8 =>
(y1be v1 v3 h8)
def y2nb (s : St) : OX := y1ug (s 1) s.h
theorem y27a : T0 y1e7 [.t 2] y2nb := sq y1zh fun _ => by kernel_rfl
def y1c1 (v1 : AV) (h : Heap) : OX :=
ob (evFa 3 v1) fun v6 =>
ob (evLd false 1 v6 h) fun v7 =>
ob (yv 1 v7 h) fun v8 =>
ob (y2 .gtr v8 (AV.int .i64 400)) fun v9 =>
gb v9 false (evFa 0 v1) fun v11 =>
gb v9 false (evLd false 1 v11 h) fun v12 =>
gb v9 false (yv 1 v12 h) fun v13 =>
gb v9 false (y2 .gtr v13 (AV.int .i64 100)) fun v14 =>
ob (y9 v9 (AV.bool true) v14) fun v15 =>
gb v15 false (evFa 4 v1) fun v17 =>
gb v15 false (evLd false 1 v17 h) fun v18 =>
gb v15 false (yv 1 v18 h) fun v19 =>
gb v15 false (y2 .gtr v19 (AV.int .i64 50)) fun v20 =>
ob (y9 v15 (AV.bool true) v20) fun v21 =>
cnd v21
 ((yc h (AV.bool true)))
 ((y1ug v1 h))
def y2me (s : St) : OX := y1c1 (s 1) s.h
theorem y24l : T0 y1y1 [.t 2] y2me := sq y27a fun _ => by kernel_rfl
def y19r (v1 : AV) (h : Heap) : OX :=
oh (y5 E (y7 E) 0 none true 124 [] h) fun v4 h9 =>
ob (evUn .not v4) fun v5 =>
cnd v5
 ((yc h9 (AV.bool false)))
 ((y1c1 v1 h9))
def y2mu (s : St) : OX := y19r (s 1) s.h
theorem y23y : T0 y1l1 [.t 2] y2mu := sq y24l fun _ => by kernel_rfl
def yws (v0 : AV) (h : Heap) : OX :=
oh (newC 0 (some 0) (cellsOf v0) h) fun v1 h10 =>
(y19r v1 h10)
def y2l4 (s : St) : OX := yws (s 0) s.h
theorem y252 : T0 y1r4 [.t 2] y2l4 := sq y23y fun _ => by kernel_rfl
@[simp] theorem y2qx : E.pure 123 = true := rfl
theorem y2ss (v0 : AV) : (y7 E).p 123 [v0] = yws v0 [⟨0, .dead⟩, ⟨0, .dead⟩] :=
  (yu (cf := y2qk) (by kernel_rfl) rfl).trans ((y252 _).trans (by kernel_rfl))
def y1s5 (v2 v3 : AV) (h : Heap) : OX :=
ob (evLd true 5 v3 h) fun v39 =>
oh (evSt 5 v2 v39 h) fun _ h1 =>
(ob (evLd true 5 v2 h1) fun r0 =>
  yc h1 r0)
def yal (s : St) : OX := y1s5 (s 2) (s 3) s.h
theorem y23a : T0 y1ty [.cell 2 true 5] yal := fun _ => by kernel_rfl
def ysy (v2 v3 v22 v23 : AV) (h : Heap) : OX :=
  W E 0 ypg ⟨[(2, v2), (3, v3), (22, v22), (23, v23)], h⟩ yal (y1 0 yal xN) (finP [.cell 2 true 5])
def yct (s : St) : OX := ysy (s 2) (s 3) (s 22) (s 23) s.h
theorem yrn : T1 ypg yal (y1 0 yal xN) [.cell 2 true 5] yct := fun s => yf.trans (by kernel_rfl)
def y2ee (v2 v3 v22 v23 : AV) (h : Heap) : OX :=
ob (y2 .add v23 (AV.int .i64 1)) fun v38 =>
(ysy v2 v3 v22 v38 h)
def y2m2 (s : St) : OX := y2ee (s 2) (s 3) (s 22) (s 23) s.h
theorem y25h : T1 y1jc yct (y1 0 yal xN) [.cell 2 true 5] y2m2 := fun _ => by kernel_rfl
def y2ap (v2 v3 v22 v23 : AV) (h : Heap) : OX :=
ob (evFa 3 v3) fun v26 =>
ob (evLd false 1 v26 h) fun v27 =>
ob (evFa 3 v3) fun v29 =>
ob (evLd false 1 v29 h) fun v30 =>
ob (yp 9 v30 v23) fun v32 =>
ob (evFa 8 v32) fun v33 =>
ob (evLd false 1 v33 h) fun v34 =>
ofp (y3y E (y7 E) 0 none true 39 [v34] h) fun f9 =>
oh (y5 E (y7 E) 0 none true 39 [v34] h) fun v35 h2 =>
ob (yp 9 v27 v23) fun v36 =>
ob (evFa 8 v36) fun v37 =>
oh (evSt 1 v37 v35 h2) fun _ h3 =>
okK (yd [([], []), (ids1 v26, []), ([], []), ([], []), (ids1 v29, []), ([], []), ([], []), ([], []), (ids1 v33, []), f9, ([], []), ([], []), ([], ids1 v37)] [(1, 9)]) <|
(y2ee v2 v3 v22 v23 h3)
def y2mq (s : St) : OX := y2ap (s 2) (s 3) (s 22) (s 23) s.h
theorem y27n : T1 y1jg yct (y1 0 yal xN) [.cell 2 true 5] y2mq := sq y25h fun _ => by kernel_rfl
def y21n (v2 v3 v22 v23 v24 : AV) (h : Heap) : OX :=
cnd v24
 ((y2ap v2 v3 v22 v23 h))
 ((y1s5 v2 v3 h))
def y2kv (s : St) : OX := y21n (s 2) (s 3) (s 22) (s 23) (s 24) s.h
theorem y22a : T1 y1hv yct (y1 0 yal xN) [.cell 2 true 5] y2kv := sq y27n fun _ => by kernel_rfl
def y26o (v2 v3 v22 v23 : AV) (h : Heap) : OX :=
ob (y2 .lss v23 v22) fun v24 =>
(y21n v2 v3 v22 v23 v24 h)
def y2n2 (s : St) : OX := y26o (s 2) (s 3) (s 22) (s 23) s.h
theorem y21f : T1 y1s3 yct (y1 0 yal xN) [.cell 2 true 5] y2n2 := sq y22a fun _ => by kernel_rfl
theorem yv0 (v2 v3 v22 v23 : AV) (h : Heap) : ysy v2 v3 v22 v23 h = (y26o v2 v3 v22 v23 h) :=
  y22.trans ((y15 _ _ _ (n' := yct) (fun s => yrn s)).trans ((y21f _).trans (by kernel_rfl)))
theorem y229 : T1 y1vv yal xN [.cell 2 true 5] yct := fun s => yi.trans (yrn s)
def y1f4 (v2 v3 : AV) (h : Heap) : OX :=
ob (evFa 3 v3) fun v20 =>
ob (evLd false 1 v20 h) fun v21 =>
ob (yv 1 v21 h) fun v22 =>
(ysy v2 v3 v22 (AV.int .i64 0) h)
def y295 (s : St) : OX := y1f4 (s 2) (s 3) s.h
theorem y270 : T1 y1ga yal xN [.cell 2 true 5] y295 := sq y229 fun _ => by kernel_rfl
theorem y250 : T0 y1l2 [.cell 2 true 5] y295 := sq y23a y270
def yqj (v1 v2 : AV) (h : Heap) : OX :=
ob (evFa 0 v1) fun v5 =>
ob (evLd false 1 v5 h) fun v6 =>
ofp (y3y E (y7 E) 0 (some 2) false 39 [v6] h) fun f2 =>
oh (y5 E (y7 E) 0 (some 2) false 39 [v6] h) fun v7 h4 =>
ob (evFa 1 v1) fun v8 =>
ob (evLd false 1 v8 h4) fun v9 =>
ofp (y3y E (y7 E) 0 (some 3) false 39 [v9] h4) fun f5 =>
oh (y5 E (y7 E) 0 (some 3) false 39 [v9] h4) fun v10 h5 =>
ob (evFa 2 v1) fun v11 =>
ob (evLd false 1 v11 h5) fun v12 =>
ob (evFa 3 v1) fun v13 =>
ob (evLd false 1 v13 h5) fun v14 =>
ofp (y3y E (y7 E) 0 (some 4) false 40 [v14] h5) fun f10 =>
oh (y5 E (y7 E) 0 (some 4) false 40 [v14] h5) fun v15 h6 =>
ob (evFa 4 v1) fun v16 =>
ob (evLd false 1 v16 h6) fun v17 =>
ofp (y3y E (y7 E) 0 (some 5) false 41 [v17] h6) fun f13 =>
oh (y5 E (y7 E) 0 (some 5) false 41 [v17] h6) fun v18 h7 =>
ob (y11 [.nils, .nils, (.int .i64 0), .nils, .nils] [(0, 1, v7), (1, 1, v10), (2, 1, v12), (3, 1, v15), (4, 1, v18)]) fun v19 =>
oh (newC 0 (some 6) [.nils, .nils, (.int .i64 0), .nils, .nils] h7) fun v3 h8 =>
oh (evSt 5 v3 v19 h8) fun _ h9 =>
okK (yd [([], []), (ids1 v5, []), f2, ([], []), (ids1 v8, []), f5, ([], []), (ids1 v11, []), ([], []), (ids1 v13, []), f10, ([], []), (ids1 v16, []), f13, ([], []), ([], [0 + 6]), ([], ids1 v3)] [(2, 4), (2, 7), (5, 7), (2, 9), (5, 9), (7, 10), (2, 12), (5, 12), (10, 12), (7, 13), (1, 15), (2, 15), (4, 15), (5, 15), (7, 15), (9, 15), (10, 15), (12, 15), (13, 15)]) <|
(y1f4 v2 v3 h9)
def y2g5 (s : St) : OX := yqj (s 1) (s 2) s.h
theorem y1xr : T0 y123 [.cell 2 true 5] y2g5 := sq y250 fun _ => by kernel_rfl
def y125 (v0 : AV) (h : Heap) : OX :=
oh (newC 0 (some 0) (cellsOf v0) h) fun v1 h10 =>
oh (newC 0 (some 1) [.nils, .nils, (.int .i64 0), .nils, .nils] h10) fun v2 h11 =>
(yqj v1 v2 h11)
def y2ay (s : St) : OX := y125 (s 0) s.h
theorem y1o0 : T0 yz0 [.cell 2 true 5] y2ay := sq y1xr fun _ => by kernel_rfl
@[simp] theorem y2s9 : E.pure 13 = true := rfl
theorem y2uv (v0 : AV) : (y7 E).p 13 [v0] = y125 v0 [⟨0, .dead⟩, ⟨0, .dead⟩, ⟨0, .dead⟩, ⟨0, .dead⟩, ⟨0, .dead⟩, ⟨0, .dead⟩, ⟨0, .dead⟩] :=
  (yu (cf := y2pw) (by kernel_rfl) rfl).trans ((y1o0 _).trans (by kernel_rfl))
def y1p6 (h : Heap) : OX :=
(yc h (AV.bool true))
def y7k (s : St) : OX := y1p6 s.h
theorem y1mq : T0 y192 [.t 4] y7k := fun _ => by kernel_rfl
def ykf (v2 v3 v6 : AV) (h : Heap) : OX :=
  W E 0 yji ⟨[(2, v2), (3, v3), (6, v6)], h⟩ y7k (y1 2 y7k xN) (finP [.t 4])
def ybw (s : St) : OX := ykf (s 2) (s 3) (s 6) s.h
theorem yn8 : T1 yji y7k (y1 2 y7k xN) [.t 4] ybw := fun s => yf.trans (by kernel_rfl)
def y120 (v2 v3 v6 : AV) (h : Heap) : OX :=
ob (y2 .add v6 (AV.int .i64 1)) fun v71 =>
(ykf v2 v3 v71 h)
def y2cb (s : St) : OX := y120 (s 2) (s 3) (s 6) s.h
theorem y1ww : T1 y11j ybw (y1 2 y7k xN) [.t 4] y2cb := fun _ => by kernel_rfl
def y14m (v2 v3 v6 : AV) (h : Heap) : OX :=
ob (evFa 4 v2) fun v72 =>
ob (evLd false 1 v72 h) fun v73 =>
ob (yp 4 v73 v6) fun v75 =>
ob (evLd true 4 v75 h) fun v76 =>
ob (evFa 4 v3) fun v77 =>
ob (evLd false 1 v77 h) fun v78 =>
ob (yp 4 v78 v6) fun v80 =>
ob (evLd true 4 v80 h) fun v81 =>
ob (y1k2 true [0, 0, 0, 2] v76 v81) fun v82 =>
cnd v82
 ((yc h (AV.bool false)))
 ((y120 v2 v3 v6 h))
def y2dh (s : St) : OX := y14m (s 2) (s 3) (s 6) s.h
theorem y1ei : T1 y16h ybw (y1 2 y7k xN) [.t 4] y2dh := sq y1ww fun _ => by kernel_rfl
def yv3 (v2 v3 v6 : AV) (h : Heap) : OX :=
ob (evFa 4 v2) fun v66 =>
ob (evLd false 1 v66 h) fun v67 =>
ob (yv 1 v67 h) fun v68 =>
ob (y2 .lss v6 v68) fun v69 =>
cnd v69
 ((y14m v2 v3 v6 h))
 ((y1p6 h))
def y2j6 (s : St) : OX := yv3 (s 2) (s 3) (s 6) s.h
theorem y1pf : T1 y0g ybw (y1 2 y7k xN) [.t 4] y2j6 := sq y1ei fun _ => by kernel_rfl
theorem ynq (v2 v3 v6 : AV) (h : Heap) : ykf v2 v3 v6 h = (yv3 v2 v3 v6 h) :=
  y22.trans ((y15 _ _ _ (n' := ybw) (fun s => yn8 s)).trans ((y1pf _).trans (by kernel_rfl)))
theorem y1yi : T1 y15u y7k xN [.t 4] ybw := fun s => yi.trans (yn8 s)
def y1y9 (v2 v3 : AV) (h : Heap) : OX :=
(ykf v2 v3 (AV.int .i64 0) h)
def y67 (s : St) : OX := y1y9 (s 2) (s 3) s.h
theorem y1l0 : T1 y163 y7k xN [.t 4] y67 := sq y1yi fun _ => by kernel_rfl
theorem y1po : T0 y188 [.t 4] y67 := sq y1mq y1l0
def ykj (v2 v3 v5 : AV) (h : Heap) : OX :=
  W E 0 yky ⟨[(2, v2), (3, v3), (5, v5)], h⟩ y67 (y1 0 y67 xN) (finP [.t 4])
def ybv (s : St) : OX := ykj (s 2) (s 3) (s 5) s.h
theorem ymp : T1 yky y67 (y1 0 y67 xN) [.t 4] ybv := fun s => yf.trans (by kernel_rfl)
def yxh (v2 v3 v5 : AV) (h : Heap) : OX :=
ob (y2 .add v5 (AV.int .i64 1)) fun v52 =>
(ykj v2 v3 v52 h)
def y20n (s : St) : OX := yxh (s 2) (s 3) (s 5) s.h
theorem y1cg : T1 yu2 ybv (y1 0 y67 xN) [.t 4] y20n := fun _ => by kernel_rfl
def ypv (v2 v3 v5 : AV) (h : Heap) : OX :=
ob (evFa 3 v2) fun v53 =>
ob (evLd false 1 v53 h) fun v54 =>
ob (yp 9 v54 v5) fun v56 =>
ob (evLd true 9 v56 h) fun v57 =>
ob (evFa 3 v3) fun v58 =>
ob (evLd false 1 v58 h) fun v59 =>
ob (yp 9 v59 v5) fun v61 =>
ob (evLd true 9 v61 h) fun v62 =>
oh (y5 E (y7 E) 0 none true 28 [v57, v62] h) fun v63 h1 =>
ob (evUn .not v63) fun v64 =>
cnd v64
 ((yc h1 (AV.bool false)))
 ((yxh v2 v3 v5 h1))
def y25w (s : St) : OX := ypv (s 2) (s 3) (s 5) s.h
theorem y19v : T1 yqk ybv (y1 0 y67 xN) [.t 4] y25w := sq y1cg fun _ => by kernel_rfl
def yhy (v2 v3 v5 : AV) (h : Heap) : OX :=
ob (evFa 3 v2) fun v47 =>
ob (evLd false 1 v47 h) fun v48 =>
ob (yv 1 v48 h) fun v49 =>
ob (y2 .lss v5 v49) fun v50 =>
cnd v50
 ((ypv v2 v3 v5 h))
 ((y1y9 v2 v3 h))
def y22e (s : St) : OX := yhy (s 2) (s 3) (s 5) s.h
theorem y1cj : T1 yqw ybv (y1 0 y67 xN) [.t 4] y22e := sq y19v fun _ => by kernel_rfl
theorem ymg (v2 v3 v5 : AV) (h : Heap) : ykj v2 v3 v5 h = (yhy v2 v3 v5 h) :=
  y22.trans ((y15 _ _ _ (n' := ybv) (fun s => ymp s)).trans ((y1cj _).trans (by kernel_rfl)))
theorem y1cl : T1 ytd y67 xN [.t 4] ybv := fun s => yi.trans (ymp s)
def yvv (v2 v3 : AV) (h : Heap) : OX :=
(ykj v2 v3 (AV.int .i64 0) h)
def y181 (s : St) : OX := yvv (s 2) (s 3) s.h
theorem y1bm : T1 yqo y67 xN [.t 4] y181 := sq y1cl fun _ => by kernel_rfl
theorem y1br : T0 yqt [.t 4] y181 := sq y1po y1bm
def yat (v2 v3 : AV) (h : Heap) : OX :=
ob (evFa 0 v2) fun v7 =>
ob (evLd false 1 v7 h) fun v8 =>
ob (evFa 0 v3) fun v9 =>
ob (evLd false 1 v9 h) fun v10 =>
oh (y5 E (y7 E) 0 none true 11 [v8, v10] h) fun v11 h2 =>
ob (evUn .not v11) fun v12 =>
gb v12 false (evFa 1 v2) fun v14 =>
gb v12 false (evLd false 1 v14 h2) fun v15 =>
gb v12 false (evFa 1 v3) fun v16 =>
gb v12 false (evLd false 1 v16 h2) fun v17 =>
gh v12 false (y5 E (y7 E) 0 none true 11 [v15, v17] h2) h2 fun v18 h3 =>
gb v12 false (evUn .not v18) fun v19 =>
ob (y9 v12 (AV.bool true) v19) fun v20 =>
gb v20 false (evFa 2 v2) fun v22 =>
gb v20 false (evLd false 1 v22 h3) fun v23 =>
gb v20 false (evFa 2 v3) fun v24 =>
gb v20 false (evLd false 1 v24 h3) fun v25 =>
gb v20 false (y2 .neq v23 v25) fun v26 =>
ob (y9 v20 (AV.bool true) v26) fun v27 =>
gb v27 false (evFa 3 v2) fun v29 =>
gb v27 false (evLd false 1 v29 h3) fun v30 =>
gb v27 false (yv 1 v30 h3) fun v31 =>
gb v27 false (evFa 3 v3) fun v32 =>
gb v27 false (evLd false 1 v32 h3) fun v33 =>
gb v27 false (yv 1 v33 h3) fun v34 =>
gb v27 false (y2 .neq v31 v34) fun v35 =>
ob (y9 v27 (AV.bool true) v35) fun v36 =>
gb v36 false (evFa 4 v2) fun v38 =>
gb v36 false (evLd false 1 v38 h3) fun v39 =>
gb v36 false (yv 1 v39 h3) fun v40 =>
gb v36 false (evFa 4 v3) fun v41 =>
gb v36 false (evLd false 1 v41 h3) fun v42 =>
gb v36 false (yv 1 v42 h3) fun v43 =>
gb v36 false (y2 .neq v40 v43) fun v44 =>
ob (y9 v36 (AV.bool true) v44) fun v45 =>
cnd v45
 ((yc h3 (AV.bool false)))
 ((yvv v2 v3 h3))
def y235 (s : St) : OX := yat (s 2) (s 3) s.h
theorem y1bj : T0 yr8 [.t 4] y235 := sq y1br fun _ => by kernel_rfl
def yb0 (v0 v1 : AV) (h : Heap) : OX :=
oh (newC 0 (some 0) (cellsOf v0) h) fun v2 h4 =>
oh (newC 0 (some 1) (cellsOf v1) h4) fun v3 h5 =>
(yat v2 v3 h5)
def y289 (s : St) : OX := yb0 (s 0) (s 1) s.h
theorem y1an : T0 ysu [.t 4] y289 := sq y1bj fun _ => by kernel_rfl
@[simp] theorem y2st : E.pure 14 = true := rfl
theorem y2mn (v0 v1 : AV) : (y7 E).p 14 [v0, v1] = yb0 v0 v1 [⟨0, .dead⟩, ⟨0, .dead⟩] :=
  (yu (cf := y2a9) (by kernel_rfl) rfl).trans ((y1an _).trans (by kernel_rfl))
def y2iu (h : Heap) : OX :=
(yc h (AV.int .i64 0))
def yb9 (s : St) : OX := y2iu s.h
theorem y21w : T0 y1yf [.t 2] yb9 := fun _ => by kernel_rfl
def ymw (v1 v3 v136 v137 v138 : AV) (h : Heap) : OX :=
  W E 0 yop ⟨[(1, v1), (3, v3), (136, v136), (137, v137), (138, v138)], h⟩ yb9 (y1 6 yb9 xN) (finP [.t 2])
def ydf (s : St) : OX := ymw (s 1) (s 3) (s 136) (s 137) (s 138) s.h
theorem yuj : T1 yop yb9 (y1 6 yb9 xN) [.t 2] ydf := fun s => yf.trans (by kernel_rfl)
def y2d8 (v1 v3 v136 v137 v138 : AV) (h : Heap) : OX :=
ob (y2 .add v138 (AV.int .i64 1)) fun v179 =>
(ymw v1 v3 v136 v137 v179 h)
def y2mk (s : St) : OX := y2d8 (s 1) (s 3) (s 136) (s 137) (s 138) s.h
theorem y267 : T1 y1wl ydf (y1 6 yb9 xN) [.t 2] y2mk := fun _ => by kernel_rfl
def yoq (v1 v3 v136 v137 v138 : AV) (h : Heap) : OX :=
ob (yp 4 v136 v138) fun v140 =>
ob (evLd true 4 v140 h) fun v141 =>
oh (newC 0 (some 2) [(.int .i64 0), (.int .i64 0), (.int .i64 0), (.str [])] h) fun v11 h1 =>
oh (evSt 4 v11 v141 h1) fun _ h2 =>
ob (evFa 0 v11) fun v142 =>
ob (evLd false 1 v142 h2) fun v143 =>
ob (y2 .lss v143 (AV.int .i64 0)) fun v144 =>
gb v144 false (evFa 0 v11) fun v146 =>
gb v144 false (evLd false 1 v146 h2) fun v147 =>
gb v144 false (evFa 1 v11) fun v148 =>
gb v144 false (evLd false 1 v148 h2) fun v149 =>
gb v144 false (y2 .geq v147 v149) fun v150 =>
ob (y9 v144 (AV.bool true) v150) fun v151 =>
gb v151 false (evFa 1 v11) fun v153 =>
gb v151 false (evLd false 1 v153 h2) fun v154 =>
gb v151 false (some v3) fun v155 =>
gb v151 false (y2 .gtr v154 v155) fun v156 =>
ob (y9 v151 (AV.bool true) v156) fun v157 =>
gb v157 false (evFa 2 v11) fun v159 =>
gb v157 false (evLd false 1 v159 h2) fun v160 =>
gb v157 false (y2 .lss v160 (AV.int .i64 0)) fun v161 =>
ob (y9 v157 (AV.bool true) v161) fun v162 =>
gb v162 false (evFa 2 v11) fun v164 =>
gb v162 false (evLd false 1 v164 h2) fun v165 =>
gb v162 false (some v3) fun v166 =>
gb v162 false (y2 .geq v165 v166) fun v167 =>
ob (y9 v162 (AV.bool true) v167) fun v168 =>
gb v168 false (evFa 3 v1) fun v170 =>
gb v168 false (evLd false 1 v170 h2) fun v171 =>
gb v168 false (evFa 2 v11) fun v172 =>
gb v168 false (evLd false 1 v172 h2) fun v173 =>
gb v168 false (yp 9 v171 v173) fun v174 =>
gb v168 false (evFa 0 v174) fun v175 =>
gb v168 false (evLd false 1 v175 h2) fun v176 =>
gb v168 false (y2 .neq v176 (AV.int .i64 32)) fun v177 =>
ob (y9 v168 (AV.bool true) v177) fun v178 =>
cnd v178
 ((yc h2 (AV.int .i64 80)))
 ((y2d8 v1 v3 v136 v137 v138 h2))
def y2pq (s : St) : OX := yoq (s 1) (s 3) (s 136) (s 137) (s 138) s.h
theorem y1zl : T1 y1vq ydf (y1 6 yb9 xN) [.t 2] y2pq := sq y267 fun _ => by kernel_rfl
def y20d (v1 v3 v136 v137 v138 v139 : AV) (h : Heap) : OX :=
cnd v139
 ((yoq v1 v3 v136 v137 v138 h))
 ((y2iu h))
def y2oo (s : St) : OX := y20d (s 1) (s 3) (s 136) (s 137) (s 138) (s 139) s.h
theorem y27g : T1 y1lx ydf (y1 6 yb9 xN) [.t 2] y2oo := sq y1zl fun _ => by kernel_rfl
def y23k (v1 v3 v136 v137 v138 : AV) (h : Heap) : OX :=
ob (y2 .lss v138 v137) fun v139 =>
(y20d v1 v3 v136 v137 v138 v139 h)
def y2ql (s : St) : OX := y23k (s 1) (s 3) (s 136) (s 137) (s 138) s.h
theorem y25t : T1 y1uy ydf (y1 6 yb9 xN) [.t 2] y2ql := sq y27g fun _ => by kernel_rfl
theorem ys8 (v1 v3 v136 v137 v138 : AV) (h : Heap) : ymw v1 v3 v136 v137 v138 h = (y23k v1 v3 v136 v137 v138 h) :=
  y22.trans ((y15 _ _ _ (n' := ydf) (fun s => yuj s)).trans ((y25t _).trans (by kernel_rfl)))
theorem y258 : T1 y1g9 yb9 xN [.t 2] ydf := fun s => yi.trans (yuj s)
def y1ni (v1 v3 : AV) (h : Heap) : OX :=
ob (evFa 4 v1) fun v135 =>
ob (evLd false 1 v135 h) fun v136 =>
ob (yv 1 v136 h) fun v137 =>
(ymw v1 v3 v136 v137 (AV.int .i64 0) h)
def y5y (s : St) : OX := y1ni (s 1) (s 3) s.h
theorem y21p : T1 y1yk yb9 xN [.t 2] y5y := sq y258 fun _ => by kernel_rfl
theorem y22z : T0 y1xo [.t 2] y5y := sq y21w y21p
def yfk (v1 v3 v92 v93 v94 : AV) (h : Heap) : OX :=
  W E 0 yl5 ⟨[(1, v1), (3, v3), (92, v92), (93, v93), (94, v94)], h⟩ y5y (y1 4 y5y xN) (finP [.t 2])
def y8l (s : St) : OX := yfk (s 1) (s 3) (s 92) (s 93) (s 94) s.h
theorem yn0 : T1 yl5 y5y (y1 4 y5y xN) [.t 2] y8l := fun s => yf.trans (by kernel_rfl)
def y15v (v1 v3 v92 v93 v94 : AV) (h : Heap) : OX :=
ob (y2 .add v94 (AV.int .i64 1)) fun v134 =>
(yfk v1 v3 v92 v93 v134 h)
def yb5 (s : St) : OX := y15v (s 1) (s 3) (s 92) (s 93) (s 94) s.h
theorem y1jj : T1 y11e y8l (y1 4 y5y xN) [.t 2] yb5 := fun _ => by kernel_rfl
def ycf (v1 v3 v8 v9 v92 v93 v94 : AV) (h : Heap) : OX :=
ob (evFa 0 v9) fun v103 =>
ob (evLd false 1 v103 h) fun v104 =>
ob (y2 .eql v104 (AV.int .i64 32)) fun v105 =>
gb v105 true (some v8) fun v107 =>
gb v105 true (y2 .eql v107 (AV.int .i64 0)) fun v108 =>
gb v105 true (some v108) fun v109 =>
gb v109 false (evFa 3 v1) fun v110 =>
gb v109 false (evLd false 1 v110 h) fun v111 =>
gb v109 false (some v8) fun v112 =>
gb v109 false (y2 .sub v112 (AV.int .i64 1)) fun v113 =>
gb v109 false (yp 9 v111 v113) fun v114 =>
gb v109 false (evLd true 9 v114 h) fun v115 =>
gh v109 false (y5 E (y7 E) 0 none true 24 [v115] h) h fun v116 h3 =>
gb v109 false (evUn .not v116) fun v117 =>
gb v105 true (y9 v109 (AV.bool true) v117) fun v118 =>
ob (y9 v105 v118 (AV.bool false)) fun v119 =>
gb v119 false (evLd true 9 v9 h3) fun v121 =>
gh v119 false (y5 E (y7 E) 0 none true 22 [v121] h3) h3 fun v122 h4 =>
gb v119 false (some v122) fun v123 =>
gb v123 true (evFa 3 v1) fun v124 =>
gb v123 true (evLd false 1 v124 h4) fun v125 =>
gb v123 true (evFa 6 v9) fun v126 =>
gb v123 true (evLd false 1 v126 h4) fun v127 =>
gb v123 true (yp 9 v125 v127) fun v128 =>
gb v123 true (evFa 0 v128) fun v129 =>
gb v123 true (evLd false 1 v129 h4) fun v130 =>
gb v123 true (y2 .eql v130 (AV.int .i64 32)) fun v131 =>
gb v119 false (y9 v123 v131 (AV.bool false)) fun v132 =>
ob (y9 v119 (AV.bool true) v132) fun v133 =>
cnd v133
 ((yc h4 (AV.int .i64 80)))
 ((y15v v1 v3 v92 v93 v94 h4))
def y2gf (s : St) : OX := ycf (s 1) (s 3) (s 8) (s 9) (s 92) (s 93) (s 94) s.h
theorem y1hj : T1 y178 yb5 (y1 5 yb5 (y1 4 y5y xN)) [.t 2] y2gf := fun _ => by kernel_rfl
def y13h (v1 v3 v8 v9 v92 v93 v94 : AV) (h : Heap) : OX :=
ob (evLd true 5 v1 h) fun v99 =>
ob (evLd true 9 v9 h) fun v100 =>
oh (y5 E (y7 E) 0 none true 63 [v99, v100] h) fun v101 h5 =>
ob (evUn .not v101) fun v102 =>
cnd v102
 ((yc h5 (AV.int .i64 80)))
 ((ycf v1 v3 v8 v9 v92 v93 v94 h5))
def y2bx (s : St) : OX := y13h (s 1) (s 3) (s 8) (s 9) (s 92) (s 93) (s 94) s.h
theorem y1on : T1 y19f yb5 (y1 5 yb5 (y1 4 y5y xN)) [.t 2] y2bx := sq y1hj fun _ => by kernel_rfl
def yr9 (v1 v3 v92 v93 v94 : AV) (h : Heap) : OX :=
ob (yp 9 v92 v94) fun v97 =>
ob (evLd true 9 v97 h) fun v98 =>
oh (newC 0 (some 1) [(.int .i64 0), (.int .i64 0), (.int .i64 0), (.int .i64 0), (.int .i64 0), (.int .i64 0), (.int .i64 0), (.str []), .nils] h) fun v9 h6 =>
oh (evSt 9 v9 v98 h6) fun _ h7 =>
(y13h v1 v3 v94 v9 v92 v93 v94 h7)
def yxe (s : St) : OX := yr9 (s 1) (s 3) (s 92) (s 93) (s 94) s.h
theorem y1rv : T1 y159 yb5 (y1 5 yb5 (y1 4 y5y xN)) [.t 2] yxe := sq y1on fun _ => by kernel_rfl
theorem y1hg : T1 y14d yb5 (y1 4 y5y xN) [.t 2] yxe := fun s => yi.trans (y1rv s)
theorem y1ek : T1 y12u y8l (y1 4 y5y xN) [.t 2] yxe := sq y1jj y1hg
def y162 (v1 v3 v92 v93 v94 v95 : AV) (h : Heap) : OX :=
cnd v95
 ((yr9 v1 v3 v92 v93 v94 h))
 ((y1ni v1 v3 h))
def y2b6 (s : St) : OX := y162 (s 1) (s 3) (s 92) (s 93) (s 94) (s 95) s.h
theorem y1ou : T1 y0n y8l (y1 4 y5y xN) [.t 2] y2b6 := sq y1ek fun _ => by kernel_rfl
def y19l (v1 v3 v92 v93 v94 : AV) (h : Heap) : OX :=
ob (y2 .lss v94 v93) fun v95 =>
(y162 v1 v3 v92 v93 v94 v95 h)
def y2ea (s : St) : OX := y19l (s 1) (s 3) (s 92) (s 93) (s 94) s.h
theorem y1ms : T1 y11c y8l (y1 4 y5y xN) [.t 2] y2ea := sq y1ou fun _ => by kernel_rfl
theorem yoe (v1 v3 v92 v93 v94 : AV) (h : Heap) : yfk v1 v3 v92 v93 v94 h = (y19l v1 v3 v92 v93 v94 h) :=
  y22.trans ((y15 _ _ _ (n' := y8l) (fun s => yn0 s)).trans ((y1ms _).trans (by kernel_rfl)))
theorem y1lk : T1 yyc y5y xN [.t 2] y8l := fun s => yi.trans (yn0 s)
def ytb (v1 v3 : AV) (h : Heap) : OX :=
ob (evFa 3 v1) fun v91 =>
ob (evLd false 1 v91 h) fun v92 =>
ob (yv 1 v92 h) fun v93 =>
(yfk v1 v3 v92 v93 (AV.int .i64 0) h)
def y5r (s : St) : OX := ytb (s 1) (s 3) s.h
theorem y1r7 : T1 y15s y5y xN [.t 2] y5r := sq y1lk fun _ => by kernel_rfl
theorem y1j7 : T0 y15d [.t 2] y5r := sq y22z y1r7
def yfj (v1 v3 v62 v63 v64 : AV) (h : Heap) : OX :=
  W E 0 yku ⟨[(1, v1), (3, v3), (62, v62), (63, v63), (64, v64)], h⟩ y5r (y1 2 y5r xN) (finP [.t 2])
def y90 (s : St) : OX := yfj (s 1) (s 3) (s 62) (s 63) (s 64) s.h
theorem yog : T1 yku y5r (y1 2 y5r xN) [.t 2] y90 := fun s => yf.trans (by kernel_rfl)
def y1oc (v1 v3 v62 v63 v64 : AV) (h : Heap) : OX :=
ob (y2 .add v64 (AV.int .i64 1)) fun v90 =>
(yfj v1 v3 v62 v63 v90 h)
def y2hi (s : St) : OX := y1oc (s 1) (s 3) (s 62) (s 63) (s 64) s.h
theorem y1nh : T1 y199 y90 (y1 2 y5r xN) [.t 2] y2hi := fun _ => by kernel_rfl
def yjo (v1 v3 v62 v63 v64 : AV) (h : Heap) : OX :=
ob (yp 1 v62 v64) fun v67 =>
ob (evLd false 1 v67 h) fun v68 =>
ob (y2 .lss v68 (AV.int .i64 0)) fun v70 =>
gb v70 false (some v68) fun v72 =>
gb v70 false (evFa 0 v1) fun v73 =>
gb v70 false (evLd false 1 v73 h) fun v74 =>
gb v70 false (yv 1 v74 h) fun v75 =>
gb v70 false (y2 .geq v72 v75) fun v76 =>
ob (y9 v70 (AV.bool true) v76) fun v77 =>
gb v77 false (evFa 1 v1) fun v79 =>
gb v77 false (evLd false 1 v79 h) fun v80 =>
gb v77 false (some v64) fun v81 =>
gb v77 false (yc9 1 v80 none (some v81)) fun v82 =>
gb v77 false (some v68) fun v83 =>
gh v77 false (y5 E (y7 E) 0 none true 46 [v82, v83] h) h fun v84 h8 =>
ob (y9 v77 (AV.bool true) v84) fun v85 =>
gb v85 false (some v64) fun v87 =>
gb v85 false (y2 .gtr v87 (AV.int .i64 20)) fun v88 =>
ob (y9 v85 (AV.bool true) v88) fun v89 =>
cnd v89
 ((yc h8 (AV.int .i64 80)))
 ((y1oc v1 v3 v62 v63 v64 h8))
def y2cw (s : St) : OX := yjo (s 1) (s 3) (s 62) (s 63) (s 64) s.h
theorem y1q9 : T1 yy0 y90 (y1 2 y5r xN) [.t 2] y2cw := sq y1nh fun _ => by kernel_rfl
def y11k (v1 v3 v62 v63 v64 v65 : AV) (h : Heap) : OX :=
cnd v65
 ((yjo v1 v3 v62 v63 v64 h))
 ((ytb v1 v3 h))
def y2ew (s : St) : OX := y11k (s 1) (s 3) (s 62) (s 63) (s 64) (s 65) s.h
theorem y1w2 : T1 y155 y90 (y1 2 y5r xN) [.t 2] y2ew := sq y1q9 fun _ => by kernel_rfl
def yy8 (v1 v3 v62 v63 v64 : AV) (h : Heap) : OX :=
ob (y2 .lss v64 v63) fun v65 =>
(y11k v1 v3 v62 v63 v64 v65 h)
def y2j0 (s : St) : OX := yy8 (s 1) (s 3) (s 62) (s 63) (s 64) s.h
theorem y1f0 : T1 y184 y90 (y1 2 y5r xN) [.t 2] y2j0 := sq y1w2 fun _ => by kernel_rfl
theorem ymj (v1 v3 v62 v63 v64 : AV) (h : Heap) : yfj v1 v3 v62 v63 v64 h = (yy8 v1 v3 v62 v63 v64 h) :=
  y22.trans ((y15 _ _ _ (n' := y90) (fun s => yog s)).trans ((y1f0 _).trans (by kernel_rfl)))
theorem y1qv : T1 y11l y5r xN [.t 2] y90 := fun s => yi.trans (yog s)
def yth (v1 v3 : AV) (h : Heap) : OX :=
ob (evFa 1 v1) fun v61 =>
ob (evLd false 1 v61 h) fun v62 =>
ob (yv 1 v62 h) fun v63 =>
(yfj v1 v3 v62 v63 (AV.int .i64 0) h)
def y5s (s : St) : OX := yth (s 1) (s 3) s.h
theorem y1fq : T1 yzk y5r xN [.t 2] y5s := sq y1qv fun _ => by kernel_rfl
theorem y1vj : T0 y16f [.t 2] y5s := sq y1j7 y1fq
def yg6 (v1 v3 v48 v49 v50 : AV) (h : Heap) : OX :=
  W E 0 yie ⟨[(1, v1), (3, v3), (48, v48), (49, v49), (50, v50)], h⟩ y5s (y1 0 y5s xN) (finP [.t 2])
def y8i (s : St) : OX := yg6 (s 1) (s 3) (s 48) (s 49) (s 50) s.h
theorem ynm : T1 yie y5s (y1 0 y5s xN) [.t 2] y8i := fun s => yf.trans (by kernel_rfl)
def y1tm (v1 v3 v48 v49 v50 : AV) (h : Heap) : OX :=
ob (y2 .add v50 (AV.int .i64 1)) fun v60 =>
(yg6 v1 v3 v48 v49 v60 h)
def y2c4 (s : St) : OX := y1tm (s 1) (s 3) (s 48) (s 49) (s 50) s.h
theorem y1ii : T1 yzu y8i (y1 0 y5s xN) [.t 2] y2c4 := fun _ => by kernel_rfl
def yu4 (v1 v3 v48 v49 v50 : AV) (h : Heap) : OX :=
ob (yp 1 v48 v50) fun v52 =>
ob (evLd false 1 v52 h) fun v53 =>
ob (y2 .lss v53 (AV.int .i64 1)) fun v55 =>
gb v55 false (some v53) fun v57 =>
gb v55 false (y2 .gtr v57 (AV.int .i64 3)) fun v58 =>
ob (y9 v55 (AV.bool true) v58) fun v59 =>
cnd v59
 ((yc h (AV.int .i64 80)))
 ((y1tm v1 v3 v48 v49 v50 h))
def y2cf (s : St) : OX := yu4 (s 1) (s 3) (s 48) (s 49) (s 50) s.h
theorem y1my : T1 y17r y8i (y1 0 y5s xN) [.t 2] y2cf := sq y1ii fun _ => by kernel_rfl
def yzm (v1 v3 v48 v49 v50 v51 : AV) (h : Heap) : OX :=
cnd v51
 ((yu4 v1 v3 v48 v49 v50 h))
 ((yth v1 v3 h))
def y2gi (s : St) : OX := yzm (s 1) (s 3) (s 48) (s 49) (s 50) (s 51) s.h
theorem y1dr : T1 y15n y8i (y1 0 y5s xN) [.t 2] y2gi := sq y1my fun _ => by kernel_rfl
def yy9 (v1 v3 v48 v49 v50 : AV) (h : Heap) : OX :=
ob (y2 .lss v50 v49) fun v51 =>
(yzm v1 v3 v48 v49 v50 v51 h)
def y2fh (s : St) : OX := yy9 (s 1) (s 3) (s 48) (s 49) (s 50) s.h
theorem y1vd : T1 yxs y8i (y1 0 y5s xN) [.t 2] y2fh := sq y1dr fun _ => by kernel_rfl
theorem yne (v1 v3 v48 v49 v50 : AV) (h : Heap) : yg6 v1 v3 v48 v49 v50 h = (yy9 v1 v3 v48 v49 v50 h) :=
  y22.trans ((y15 _ _ _ (n' := y8i) (fun s => ynm s)).trans ((y1vd _).trans (by kernel_rfl)))
theorem y1pd : T1 y13q y5s xN [.t 2] y8i := fun s => yi.trans (ynm s)
def yn6 (v1 v3 : AV) (h : Heap) : OX :=
ob (evFa 0 v1) fun v47 =>
ob (evLd false 1 v47 h) fun v48 =>
ob (yv 1 v48 h) fun v49 =>
(yg6 v1 v3 v48 v49 (AV.int .i64 0) h)
def y1qo (s : St) : OX := yn6 (s 1) (s 3) s.h
theorem y1xc : T1 y14a y5s xN [.t 2] y1qo := sq y1pd fun _ => by kernel_rfl
theorem y1je : T0 y16s [.t 2] y1qo := sq y1vj y1xc
def yfe (v1 v3 : AV) (h : Heap) : OX :=
ob (y2 .lss v3 (AV.int .i64 1)) fun v16 =>
gb v16 false (some v3) fun v18 =>
gb v16 false (y2 .gtr v18 (AV.int .i64 20000)) fun v19 =>
ob (y9 v16 (AV.bool true) v19) fun v20 =>
gb v20 false (evFa 0 v1) fun v22 =>
gb v20 false (evLd false 1 v22 h) fun v23 =>
gb v20 false (yv 1 v23 h) fun v24 =>
gb v20 false (y2 .gtr v24 (AV.int .i64 20000)) fun v25 =>
ob (y9 v20 (AV.bool true) v25) fun v26 =>
gb v26 false (evFa 2 v1) fun v28 =>
gb v26 false (evLd false 1 v28 h) fun v29 =>
gb v26 false (y2 .lss v29 (AV.int .i64 0)) fun v30 =>
ob (y9 v26 (AV.bool true) v30) fun v31 =>
gb v31 false (evFa 2 v1) fun v33 =>
gb v31 false (evLd false 1 v33 h) fun v34 =>
gb v31 false (y2 .gtr v34 (AV.int .i64 3)) fun v35 =>
ob (y9 v31 (AV.bool true) v35) fun v36 =>
gb v36 false (evFa 3 v1) fun v38 =>
gb v36 false (evLd false 1 v38 h) fun v39 =>
gb v36 false (some v3) fun v40 =>
gb v36 false (y2 .sub v40 (AV.int .i64 1)) fun v41 =>
gb v36 false (yp 9 v39 v41) fun v42 =>
gb v36 false (evLd true 9 v42 h) fun v43 =>
gh v36 false (y5 E (y7 E) 0 none true 24 [v43] h) h fun v44 h9 =>
gb v36 false (evUn .not v44) fun v45 =>
ob (y9 v36 (AV.bool true) v45) fun v46 =>
cnd v46
 ((yc h9 (AV.int .i64 80)))
 ((yn6 v1 v3 h9))
def y2fk (s : St) : OX := yfe (s 1) (s 3) s.h
theorem y1ra : T0 y19i [.t 2] y2fk := sq y1je fun _ => by kernel_rfl
def yei (v1 : AV) (h : Heap) : OX :=
ob (evFa 3 v1) fun v12 =>
ob (evLd false 1 v12 h) fun v13 =>
ob (yv 1 v13 h) fun v14 =>
(yfe v1 v14 h)
def y2bz (s : St) : OX := yei (s 1) s.h
theorem y1og : T0 y15y [.t 2] y2bz := sq y1ra fun _ => by kernel_rfl
def ycl (v0 : AV) (h : Heap) : OX :=
oh (newC 0 (some 0) (cellsOf v0) h) fun v1 h10 =>
(yei v1 h10)
def y2dv (s : St) : OX := ycl (s 0) s.h
theorem y1qt : T0 y07 [.t 2] y2dv := sq y1og fun _ => by kernel_rfl
@[simp] theorem y2v3 : E.pure 8 = true := rfl
theorem y2td (v0 : AV) : (y7 E).p 8 [v0] = ycl v0 [⟨0, .dead⟩, ⟨0, .dead⟩, ⟨0, .dead⟩] :=
  (yu (cf := y2pk) (by kernel_rfl) rfl).trans ((y1qt _).trans (by kernel_rfl))
@[simp] theorem y2qz : E.pure 124 = true := rfl
def y1p1 (v1 v2 : AV) (h : Heap) : OX :=
ob (evLd true 5 v1 h) fun v62 =>
oh (evSt 5 v2 v62 h) fun _ h1 =>
(ob (evLd true 5 v2 h1) fun r0 =>
  yc h1 r0)
def y6s (s : St) : OX := y1p1 (s 1) (s 2) s.h
theorem y268 : T0 y1l4 [.cell 2 true 5] y6s := fun _ => by kernel_rfl
def ylw (v1 v2 v3 v6 v29 v30 v31 : AV) (h : Heap) : OX :=
  W E 0 ypc ⟨[(1, v1), (2, v2), (3, v3), (6, v6), (29, v29), (30, v30), (31, v31)], h⟩ y6s (y1 2 y6s xN) (finP [.cell 2 true 5])
def ycr (s : St) : OX := ylw (s 1) (s 2) (s 3) (s 6) (s 29) (s 30) (s 31) s.h
theorem ys4 : T1 ypc y6s (y1 2 y6s xN) [.cell 2 true 5] ycr := fun s => yf.trans (by kernel_rfl)
def yq6 (v1 v2 v3 v6 v29 v30 v31 : AV) (h : Heap) : OX :=
ob (y2 .add v31 (AV.int .i64 1)) fun v61 =>
(ylw v1 v2 v3 v6 v29 v30 v61 h)
def ygx (s : St) : OX := yq6 (s 1) (s 2) (s 3) (s 6) (s 29) (s 30) (s 31) s.h
theorem y27b : T1 y1o4 ycr (y1 2 y6s xN) [.cell 2 true 5] ygx := fun _ => by kernel_rfl
def yvz (v1 v2 v3 v6 v7 v8 v29 v30 v31 : AV) (h : Heap) : OX :=
ob (evLd true 9 v8 h) fun v40 =>
oh (y5 E (y7 E) 0 none false 126 [v40, v6] h) fun v42 h2 =>
oh (evSt 9 v8 v42 h2) fun _ h3 =>
ob (evFa 3 v1) fun v43 =>
ob (evLd false 1 v43 h3) fun v44 =>
ob (evLd true 9 v8 h3) fun v46 =>
ob (yp 9 v44 v7) fun v47 =>
oh (evSt 9 v47 v46 h3) fun _ h4 =>
ob (evLd true 9 v8 h4) fun v48 =>
oh (y5 E (y7 E) 0 none true 9 [v48] h4) fun v49 h5 =>
ob (y2 .geq v49 (AV.int .i64 0)) fun v51 =>
cnd v51
 (oh (yaz false [0] v6 v49 h5) fun _ h6 =>
ob (evFa 0 v8) fun v54 =>
ob (evLd false 1 v54 h6) fun v55 =>
ob (y2 .eql v55 (AV.int .i64 1)) fun v56 =>
cnd v56
 (ob (evFa 5 v8) fun v59 =>
ob (evLd false 1 v59 h6) fun v60 =>
oh (ya5 false [0] v6 v49 v60 h6) fun _ h7 =>
(yq6 v1 v2 v3 v6 v29 v30 v31 h7))
 ((yq6 v1 v2 v3 v6 v29 v30 v31 h6)))
 ((yq6 v1 v2 v3 v6 v29 v30 v31 h5))
def y2nj (s : St) : OX := yvz (s 1) (s 2) (s 3) (s 6) (s 7) (s 8) (s 29) (s 30) (s 31) s.h
theorem y25e : T1 y1ge ygx (y1 3 ygx (y1 2 y6s xN)) [.cell 2 true 5] y2nj := fun _ => by kernel_rfl
def y1mn (v1 v2 v3 v6 v7 v8 v29 v30 v31 : AV) (h : Heap) : OX :=
ob (y5d false [0] (.bool false) false v3 v7 h) fun v38 =>
cnd v38
 (oh (ycb v6 h) fun _ h8 =>
(yvz v1 v2 v3 v6 v7 v8 v29 v30 v31 h8))
 ((yvz v1 v2 v3 v6 v7 v8 v29 v30 v31 h))
def y2nd (s : St) : OX := y1mn (s 1) (s 2) (s 3) (s 6) (s 7) (s 8) (s 29) (s 30) (s 31) s.h
theorem y285 : T1 y1x2 ygx (y1 3 ygx (y1 2 y6s xN)) [.cell 2 true 5] y2nd := sq y25e fun _ => by kernel_rfl
def y2h9 (v1 v2 v3 v6 v29 v30 v31 : AV) (h : Heap) : OX :=
ob (yp 9 v29 v31) fun v34 =>
ob (evLd true 9 v34 h) fun v35 =>
oh (newC 0 (some 12) [(.int .i64 0), (.int .i64 0), (.int .i64 0), (.int .i64 0), (.int .i64 0), (.int .i64 0), (.int .i64 0), (.str []), .nils] h) fun v8 h9 =>
oh (evSt 9 v8 v35 h9) fun _ h10 =>
(y1mn v1 v2 v3 v6 v31 v8 v29 v30 v31 h10)
def y1ik (s : St) : OX := y2h9 (s 1) (s 2) (s 3) (s 6) (s 29) (s 30) (s 31) s.h
theorem y23r : T1 y1h1 ygx (y1 3 ygx (y1 2 y6s xN)) [.cell 2 true 5] y1ik := sq y285 fun _ => by kernel_rfl
theorem y23q : T1 y1qb ygx (y1 2 y6s xN) [.cell 2 true 5] y1ik := fun s => yi.trans (y23r s)
theorem y23s : T1 y1hb ycr (y1 2 y6s xN) [.cell 2 true 5] y1ik := sq y27b y23q
def y25u (v1 v2 v3 v6 v29 v30 v31 v32 : AV) (h : Heap) : OX :=
cnd v32
 ((y2h9 v1 v2 v3 v6 v29 v30 v31 h))
 ((y1p1 v1 v2 h))
def y2ok (s : St) : OX := y25u (s 1) (s 2) (s 3) (s 6) (s 29) (s 30) (s 31) (s 32) s.h
theorem y238 : T1 y1pc ycr (y1 2 y6s xN) [.cell 2 true 5] y2ok := sq y23s fun _ => by kernel_rfl
def yyt (v1 v2 v3 v6 v29 v30 v31 : AV) (h : Heap) : OX :=
ob (y2 .lss v31 v30) fun v32 =>
(y25u v1 v2 v3 v6 v29 v30 v31 v32 h)
def y2iq (s : St) : OX := yyt (s 1) (s 2) (s 3) (s 6) (s 29) (s 30) (s 31) s.h
theorem y1x5 : T1 y12a ycr (y1 2 y6s xN) [.cell 2 true 5] y2iq := sq y238 fun _ => by kernel_rfl
theorem ytk (v1 v2 v3 v6 v29 v30 v31 : AV) (h : Heap) : ylw v1 v2 v3 v6 v29 v30 v31 h = (yyt v1 v2 v3 v6 v29 v30 v31 h) :=
  y22.trans ((y15 _ _ _ (n' := ycr) (fun s => ys4 s)).trans ((y1x5 _).trans (by kernel_rfl)))
theorem y1ns : T1 y15z y6s xN [.cell 2 true 5] ycr := fun s => yi.trans (ys4 s)
def y1fa (v1 v2 v3 v6 : AV) (h : Heap) : OX :=
ob (evFa 3 v1) fun v28 =>
ob (evLd false 1 v28 h) fun v29 =>
ob (yv 1 v29 h) fun v30 =>
(ylw v1 v2 v3 v6 v29 v30 (AV.int .i64 0) h)
def y1nn (s : St) : OX := y1fa (s 1) (s 2) (s 3) (s 6) s.h
theorem y1oi : T1 y13y y6s xN [.cell 2 true 5] y1nn := sq y1ns fun _ => by kernel_rfl
theorem y1u1 : T0 y18x [.cell 2 true 5] y1nn := sq y268 y1oi
def y15i (v1 v2 v3 : AV) (h : Heap) : OX :=
oh (mkmC 0 (some 11) h) fun v27 h11 =>
(y1fa v1 v2 v3 v27 h11)
def y6o (s : St) : OX := y15i (s 1) (s 2) (s 3) s.h
theorem y1i8 : T0 yzv [.cell 2 true 5] y6o := sq y1u1 fun _ => by kernel_rfl
def ykt (v1 v2 v3 v18 v19 v20 : AV) (h : Heap) : OX :=
  W E 0 yjw ⟨[(1, v1), (2, v2), (3, v3), (18, v18), (19, v19), (20, v20)], h⟩ y6o (y1 0 y6o xN) (finP [.cell 2 true 5])
def y8q (s : St) : OX := ykt (s 1) (s 2) (s 3) (s 18) (s 19) (s 20) s.h
theorem yn9 : T1 yjw y6o (y1 0 y6o xN) [.cell 2 true 5] y8q := fun s => yf.trans (by kernel_rfl)
def y1oh (v1 v2 v3 v18 v19 v20 : AV) (h : Heap) : OX :=
ob (y2 .add v20 (AV.int .i64 1)) fun v26 =>
(ykt v1 v2 v3 v18 v19 v26 h)
def y2dk (s : St) : OX := y1oh (s 1) (s 2) (s 3) (s 18) (s 19) (s 20) s.h
theorem y1x7 : T1 y14j y8q (y1 0 y6o xN) [.cell 2 true 5] y2dk := fun _ => by kernel_rfl
def y1dz (v1 v2 v3 v18 v19 v20 : AV) (h : Heap) : OX :=
ob (yp 1 v18 v20) fun v22 =>
ob (evLd false 1 v22 h) fun v23 =>
oh (ya5 false [0] v3 v23 (AV.bool true) h) fun _ h12 =>
(y1oh v1 v2 v3 v18 v19 v20 h12)
def y2b8 (s : St) : OX := y1dz (s 1) (s 2) (s 3) (s 18) (s 19) (s 20) s.h
theorem y1wg : T1 y15t y8q (y1 0 y6o xN) [.cell 2 true 5] y2b8 := sq y1x7 fun _ => by kernel_rfl
def y19g (v1 v2 v3 v18 v19 v20 v21 : AV) (h : Heap) : OX :=
cnd v21
 ((y1dz v1 v2 v3 v18 v19 v20 h))
 ((y15i v1 v2 v3 h))
def y2i0 (s : St) : OX := y19g (s 1) (s 2) (s 3) (s 18) (s 19) (s 20) (s 21) s.h
theorem y1or : T1 y19p y8q (y1 0 y6o xN) [.cell 2 true 5] y2i0 := sq y1wg fun _ => by kernel_rfl
def y13v (v1 v2 v3 v18 v19 v20 : AV) (h : Heap) : OX :=
ob (y2 .lss v20 v19) fun v21 =>
(y19g v1 v2 v3 v18 v19 v20 v21 h)
def y2aw (s : St) : OX := y13v (s 1) (s 2) (s 3) (s 18) (s 19) (s 20) s.h
theorem y1t9 : T1 y17p y8q (y1 0 y6o xN) [.cell 2 true 5] y2aw := sq y1or fun _ => by kernel_rfl
theorem ylx (v1 v2 v3 v18 v19 v20 : AV) (h : Heap) : ykt v1 v2 v3 v18 v19 v20 h = (y13v v1 v2 v3 v18 v19 v20 h) :=
  y22.trans ((y15 _ _ _ (n' := y8q) (fun s => yn9 s)).trans ((y1t9 _).trans (by kernel_rfl)))
theorem y1lp : T1 y13m y6o xN [.cell 2 true 5] y8q := fun s => yi.trans (yn9 s)
def yy6 (v1 v2 v3 : AV) (h : Heap) : OX :=
ob (evLd true 5 v1 h) fun v17 =>
oh (y5 E (y7 E) 0 none true 102 [v17] h) fun v18 h13 =>
ob (yv 1 v18 h13) fun v19 =>
(ykt v1 v2 v3 v18 v19 (AV.int .i64 0) h13)
def y1t6 (s : St) : OX := yy6 (s 1) (s 2) (s 3) s.h
theorem y1z9 : T1 y118 y6o xN [.cell 2 true 5] y1t6 := sq y1lp fun _ => by kernel_rfl
theorem y1xv : T0 y18d [.cell 2 true 5] y1t6 := sq y1i8 y1z9
def y1sc (v1 v2 : AV) (h : Heap) : OX :=
oh (mkmC 0 (some 10) h) fun v16 h14 =>
(yy6 v1 v2 v16 h14)
def y2cs (s : St) : OX := y1sc (s 1) (s 2) s.h
theorem y1oq : T0 y19k [.cell 2 true 5] y2cs := sq y1xv fun _ => by kernel_rfl
def ysv (v1 v2 : AV) (h : Heap) : OX :=
ob (evLd true 5 v1 h) fun v12 =>
oh (y5 E (y7 E) 0 none true 8 [v12] h) fun v13 h15 =>
ob (y2 .neq v13 (AV.int .i64 0)) fun v14 =>
cnd v14
 (ob (evLd true 5 v1 h15) fun v15 =>
oh (evSt 5 v2 v15 h15) fun _ h16 =>
(ob (evLd true 5 v2 h16) fun r0 =>
  yc h16 r0))
 ((y1sc v1 v2 h15))
def y2b3 (s : St) : OX := ysv (s 1) (s 2) s.h
theorem y1yv : T0 y12y [.cell 2 true 5] y2b3 := sq y1oq fun _ => by kernel_rfl
def y1o9 (v1 v2 : AV) (h : Heap) : OX :=
ob (evLd true 5 v1 h) fun v10 =>
oh (y5 E (y7 E) 0 (some 2) false 13 [v10] h) fun v11 h17 =>
oh (evSt 5 v1 v11 h17) fun _ h18 =>
(ysv v1 v2 h18)
def y2ik (s : St) : OX := y1o9 (s 1) (s 2) s.h
theorem y1sv : T0 y17c [.cell 2 true 5] y2ik := sq y1yv fun _ => by kernel_rfl
def y1g5 (v0 : AV) (h : Heap) : OX :=
oh (newC 0 (some 0) (cellsOf v0) h) fun v1 h19 =>
oh (newC 0 (some 1) [.nils, .nils, (.int .i64 0), .nils, .nils] h19) fun v2 h20 =>
(y1o9 v1 v2 h20)
def y2ir (s : St) : OX := y1g5 (s 0) s.h
theorem y1nq : T0 y0r [.cell 2 true 5] y2ir := sq y1sv fun _ => by kernel_rfl
@[simp] theorem y2r3 : E.pure 125 = true := rfl
theorem y2sq (v0 : AV) : (y7 E).p 125 [v0] = y1g5 v0 [⟨0, .dead⟩, ⟨0, .dead⟩, ⟨0, .dead⟩, ⟨0, .dead⟩, ⟨0, .dead⟩, ⟨0, .dead⟩, ⟨0, .dead⟩, ⟨0, .dead⟩, ⟨0, .dead⟩, ⟨0, .dead⟩, ⟨0, .dead⟩, ⟨0, .dead⟩, ⟨0, .dead⟩] :=
  (yu (cf := y2ly) (by kernel_rfl) rfl).trans ((y1nq _).trans (by kernel_rfl))
def yl1 (h : Heap) : OX :=
(yc h (AV.int .i64 0))
def y7j (s : St) : OX := yl1 s.h
theorem y1ui : T0 y12g [.t 2] y7j := fun _ => by kernel_rfl
def yge (v1 v3 v8 : AV) (h : Heap) : OX :=
  W E 0 yi1 ⟨[(1, v1), (3, v3), (8, v8)], h⟩ y7j (y1 6 y7j xN) (finP [.t 2])
def yc3 (s : St) : OX := yge (s 1) (s 3) (s 8) s.h
theorem yls : T1 yi1 y7j (y1 6 y7j xN) [.t 2] yc3 := fun s => yf.trans (by kernel_rfl)
def yjz (v1 v3 v8 : AV) (h : Heap) : OX :=
ob (y2 .add v8 (AV.int .i64 1)) fun v155 =>
(yge v1 v3 v155 h)
def y2bq (s : St) : OX := yjz (s 1) (s 3) (s 8) s.h
theorem y1hr : T1 y15b yc3 (y1 6 y7j xN) [.t 2] y2bq := fun _ => by kernel_rfl
def y7v (v1 v3 v8 : AV) (h : Heap) : OX :=
ob (evFa 4 v1) fun v156 =>
ob (evLd false 1 v156 h) fun v157 =>
ob (yp 4 v157 v8) fun v159 =>
ob (evLd true 4 v159 h) fun v160 =>
oh (newC 0 (some 2) [(.int .i64 0), (.int .i64 0), (.int .i64 0), (.str [])] h) fun v9 h1 =>
oh (evSt 4 v9 v160 h1) fun _ h2 =>
ob (evFa 0 v9) fun v161 =>
ob (evLd false 1 v161 h2) fun v162 =>
ob (y2 .lss v162 (AV.int .i64 0)) fun v163 =>
gb v163 false (evFa 0 v9) fun v165 =>
gb v163 false (evLd false 1 v165 h2) fun v166 =>
gb v163 false (evFa 1 v9) fun v167 =>
gb v163 false (evLd false 1 v167 h2) fun v168 =>
gb v163 false (y2 .geq v166 v168) fun v169 =>
ob (y9 v163 (AV.bool true) v169) fun v170 =>
gb v170 false (evFa 1 v9) fun v172 =>
gb v170 false (evLd false 1 v172 h2) fun v173 =>
gb v170 false (some v3) fun v174 =>
gb v170 false (y2 .gtr v173 v174) fun v175 =>
ob (y9 v170 (AV.bool true) v175) fun v176 =>
gb v176 false (evLd true 5 v1 h2) fun v178 =>
gb v176 false (evFa 2 v9) fun v179 =>
gb v176 false (evLd false 1 v179 h2) fun v180 =>
gh v176 false (y5 E (y7 E) 0 none true 49 [v178, v180] h2) h2 fun v181 h3 =>
gb v176 false (evUn .not v181) fun v182 =>
ob (y9 v176 (AV.bool true) v182) fun v183 =>
gb v183 false (evFa 3 v1) fun v185 =>
gb v183 false (evLd false 1 v185 h3) fun v186 =>
gb v183 false (evFa 2 v9) fun v187 =>
gb v183 false (evLd false 1 v187 h3) fun v188 =>
gb v183 false (yp 9 v186 v188) fun v189 =>
gb v183 false (evFa 0 v189) fun v190 =>
gb v183 false (evLd false 1 v190 h3) fun v191 =>
gb v183 false (y2 .neq v191 (AV.int .i64 32)) fun v192 =>
ob (y9 v183 (AV.bool true) v192) fun v193 =>
cnd v193
 ((yc h3 (AV.int .i64 80)))
 ((yjz v1 v3 v8 h3))
def y2br (s : St) : OX := y7v (s 1) (s 3) (s 8) s.h
theorem y1qq : T1 yyg yc3 (y1 6 y7j xN) [.t 2] y2br := sq y1hr fun _ => by kernel_rfl
def y78 (v1 v3 v8 : AV) (h : Heap) : OX :=
ob (evFa 4 v1) fun v150 =>
ob (evLd false 1 v150 h) fun v151 =>
ob (yv 1 v151 h) fun v152 =>
ob (y2 .lss v8 v152) fun v153 =>
cnd v153
 ((y7v v1 v3 v8 h))
 ((yl1 h))
def y2du (s : St) : OX := y78 (s 1) (s 3) (s 8) s.h
theorem y1z4 : T1 y19m yc3 (y1 6 y7j xN) [.t 2] y2du := sq y1qq fun _ => by kernel_rfl
theorem yo5 (v1 v3 v8 : AV) (h : Heap) : yge v1 v3 v8 h = (y78 v1 v3 v8 h) :=
  y22.trans ((y15 _ _ _ (n' := yc3) (fun s => yls s)).trans ((y1z4 _).trans (by kernel_rfl)))
theorem y1qc : T1 y19n y7j xN [.t 2] yc3 := fun s => yi.trans (yls s)
def yh4 (v1 v3 : AV) (h : Heap) : OX :=
(yge v1 v3 (AV.int .i64 0) h)
def y6r (s : St) : OX := yh4 (s 1) (s 3) s.h
theorem y1oz : T1 y136 y7j xN [.t 2] y6r := sq y1qc fun _ => by kernel_rfl
theorem y1wm : T0 y13j [.t 2] y6r := sq y1ui y1oz
def ygi (v1 v3 v6 : AV) (h : Heap) : OX :=
  W E 0 yi7 ⟨[(1, v1), (3, v3), (6, v6)], h⟩ y6r (y1 4 y6r xN) (finP [.t 2])
def ybk (s : St) : OX := ygi (s 1) (s 3) (s 6) s.h
theorem yoh : T1 yi7 y6r (y1 4 y6r xN) [.t 2] ybk := fun s => yf.trans (by kernel_rfl)
def yao (v1 v3 v6 : AV) (h : Heap) : OX :=
ob (y2 .add v6 (AV.int .i64 1)) fun v104 =>
(ygi v1 v3 v104 h)
def y24q (s : St) : OX := yao (s 1) (s 3) (s 6) s.h
theorem y1d8 : T1 ytx ybk (y1 4 y6r xN) [.t 2] y24q := fun _ => by kernel_rfl
def y4m (v1 v3 v6 : AV) (h : Heap) : OX :=
ob (evFa 3 v1) fun v105 =>
ob (evLd false 1 v105 h) fun v106 =>
ob (yp 9 v106 v6) fun v108 =>
ob (evLd true 9 v108 h) fun v109 =>
oh (newC 0 (some 1) [(.int .i64 0), (.int .i64 0), (.int .i64 0), (.int .i64 0), (.int .i64 0), (.int .i64 0), (.int .i64 0), (.str []), .nils] h) fun v7 h4 =>
oh (evSt 9 v7 v109 h4) fun _ h5 =>
ob (evLd true 5 v1 h5) fun v110 =>
ob (evLd true 9 v7 h5) fun v111 =>
oh (y5 E (y7 E) 0 none true 64 [v110, v111] h5) fun v112 h6 =>
ob (evUn .not v112) fun v113 =>
gb v113 false (evFa 0 v7) fun v115 =>
gb v113 false (evLd false 1 v115 h6) fun v116 =>
gb v113 false (y2 .eql v116 (AV.int .i64 32)) fun v117 =>
gb v113 false (some v117) fun v118 =>
gb v118 true (some v6) fun v119 =>
gb v118 true (y2 .eql v119 (AV.int .i64 0)) fun v120 =>
gb v118 true (some v120) fun v121 =>
gb v121 false (evFa 3 v1) fun v122 =>
gb v121 false (evLd false 1 v122 h6) fun v123 =>
gb v121 false (some v6) fun v124 =>
gb v121 false (y2 .sub v124 (AV.int .i64 1)) fun v125 =>
gb v121 false (yp 9 v123 v125) fun v126 =>
gb v121 false (evFa 0 v126) fun v127 =>
gb v121 false (evLd false 1 v127 h6) fun v128 =>
gh v121 false (y5 E (y7 E) 0 none true 25 [v128] h6) h6 fun v129 h7 =>
gb v121 false (evUn .not v129) fun v130 =>
gb v118 true (y9 v121 (AV.bool true) v130) fun v131 =>
gb v113 false (y9 v118 v131 (AV.bool false)) fun v132 =>
ob (y9 v113 (AV.bool true) v132) fun v133 =>
gb v133 false (evFa 0 v7) fun v135 =>
gb v133 false (evLd false 1 v135 h7) fun v136 =>
gh v133 false (y5 E (y7 E) 0 none true 23 [v136] h7) h7 fun v137 h8 =>
gb v133 false (some v137) fun v138 =>
gb v138 true (evFa 3 v1) fun v139 =>
gb v138 true (evLd false 1 v139 h8) fun v140 =>
gb v138 true (evFa 6 v7) fun v141 =>
gb v138 true (evLd false 1 v141 h8) fun v142 =>
gb v138 true (yp 9 v140 v142) fun v143 =>
gb v138 true (evFa 0 v143) fun v144 =>
gb v138 true (evLd false 1 v144 h8) fun v145 =>
gb v138 true (y2 .eql v145 (AV.int .i64 32)) fun v146 =>
gb v133 false (y9 v138 v146 (AV.bool false)) fun v147 =>
ob (y9 v133 (AV.bool true) v147) fun v148 =>
cnd v148
 ((yc h8 (AV.int .i64 80)))
 ((yao v1 v3 v6 h8))
def y276 (s : St) : OX := y4m (s 1) (s 3) (s 6) s.h
theorem y1cc : T1 yso ybk (y1 4 y6r xN) [.t 2] y276 := sq y1d8 fun _ => by kernel_rfl
def yb8 (v1 v3 v6 : AV) (h : Heap) : OX :=
ob (y2 .lss v6 v3) fun v102 =>
cnd v102
 ((y4m v1 v3 v6 h))
 ((yh4 v1 v3 h))
def y228 (s : St) : OX := yb8 (s 1) (s 3) (s 6) s.h
theorem y1bl : T1 yqd ybk (y1 4 y6r xN) [.t 2] y228 := sq y1cc fun _ => by kernel_rfl
theorem yn5 (v1 v3 v6 : AV) (h : Heap) : ygi v1 v3 v6 h = (yb8 v1 v3 v6 h) :=
  y22.trans ((y15 _ _ _ (n' := ybk) (fun s => yoh s)).trans ((y1bl _).trans (by kernel_rfl)))
theorem y1a9 : T1 ytm y6r xN [.t 2] ybk := fun s => yi.trans (yoh s)
def yam (v1 v3 : AV) (h : Heap) : OX :=
(ygi v1 v3 (AV.int .i64 0) h)
def y4i (s : St) : OX := yam (s 1) (s 3) s.h
theorem y1d3 : T1 ysm y6r xN [.t 2] y4i := sq y1a9 fun _ => by kernel_rfl
theorem y1b1 : T0 ysi [.t 2] y4i := sq y1wm y1d3
def ybl (v1 v3 v5 : AV) (h : Heap) : OX :=
  W E 0 yfl ⟨[(1, v1), (3, v3), (5, v5)], h⟩ y4i (y1 2 y4i xN) (finP [.t 2])
def y80 (s : St) : OX := ybl (s 1) (s 3) (s 5) s.h
theorem yjq : T1 yfl y4i (y1 2 y4i xN) [.t 2] y80 := fun s => yf.trans (by kernel_rfl)
def yd9 (v1 v3 v5 : AV) (h : Heap) : OX :=
ob (y2 .add v5 (AV.int .i64 1)) fun v79 =>
(ybl v1 v3 v79 h)
def y27t (s : St) : OX := yd9 (s 1) (s 3) (s 5) s.h
theorem y1b2 : T1 yuu y80 (y1 2 y4i xN) [.t 2] y27t := fun _ => by kernel_rfl
def y8z (v1 v3 v5 : AV) (h : Heap) : OX :=
ob (evLd true 5 v1 h) fun v80 =>
ob (evFa 1 v1) fun v81 =>
ob (evLd false 1 v81 h) fun v82 =>
ob (yp 1 v82 v5) fun v84 =>
ob (evLd false 1 v84 h) fun v85 =>
oh (y5 E (y7 E) 0 none true 48 [v80, v85] h) fun v86 h9 =>
ob (y2 .eql v86 (AV.int .i64 0)) fun v87 =>
gb v87 false (evFa 1 v1) fun v89 =>
gb v87 false (evLd false 1 v89 h9) fun v90 =>
gb v87 false (some v5) fun v91 =>
gb v87 false (yp 1 v90 v91) fun v92 =>
gb v87 false (evLd false 1 v92 h9) fun v93 =>
gb v87 false (evFa 1 v1) fun v94 =>
gb v87 false (evLd false 1 v94 h9) fun v95 =>
gb v87 false (some v5) fun v96 =>
gb v87 false (yc9 1 v95 none (some v96)) fun v97 =>
gh v87 false (y5 E (y7 E) 0 none true 42 [v93, v97] h9) h9 fun v98 h10 =>
ob (y9 v87 (AV.bool true) v98) fun v99 =>
cnd v99
 ((yc h10 (AV.int .i64 80)))
 ((yd9 v1 v3 v5 h10))
def y21r (s : St) : OX := y8z (s 1) (s 3) (s 5) s.h
theorem y19u : T1 yuq y80 (y1 2 y4i xN) [.t 2] y21r := sq y1b2 fun _ => by kernel_rfl
def y7m (v1 v3 v5 : AV) (h : Heap) : OX :=
ob (evFa 1 v1) fun v74 =>
ob (evLd false 1 v74 h) fun v75 =>
ob (yv 1 v75 h) fun v76 =>
ob (y2 .lss v5 v76) fun v77 =>
cnd v77
 ((y8z v1 v3 v5 h))
 ((yam v1 v3 h))
def y20o (s : St) : OX := y7m (s 1) (s 3) (s 5) s.h
theorem y1a0 : T1 yt3 y80 (y1 2 y4i xN) [.t 2] y20o := sq y19u fun _ => by kernel_rfl
theorem yj9 (v1 v3 v5 : AV) (h : Heap) : ybl v1 v3 v5 h = (y7m v1 v3 v5 h) :=
  y22.trans ((y15 _ _ _ (n' := y80) (fun s => yjq s)).trans ((y1a0 _).trans (by kernel_rfl)))
theorem y1da : T1 yux y4i xN [.t 2] y80 := fun s => yi.trans (yjq s)
def yan (v1 v3 : AV) (h : Heap) : OX :=
(ybl v1 v3 (AV.int .i64 0) h)
def y4h (s : St) : OX := yan (s 1) (s 3) s.h
theorem y1d0 : T1 yqf y4i xN [.t 2] y4h := sq y1da fun _ => by kernel_rfl
theorem y1ct : T0 yr4 [.t 2] y4h := sq y1b1 y1d0
def ybt (v1 v3 v4 : AV) (h : Heap) : OX :=
  W E 0 yg5 ⟨[(1, v1), (3, v3), (4, v4)], h⟩ y4h (y1 0 y4h xN) (finP [.t 2])
def y7w (s : St) : OX := ybt (s 1) (s 3) (s 4) s.h
theorem yid : T1 yg5 y4h (y1 0 y4h xN) [.t 2] y7w := fun s => yf.trans (by kernel_rfl)
def yd3 (v1 v3 v4 : AV) (h : Heap) : OX :=
ob (y2 .add v4 (AV.int .i64 1)) fun v58 =>
(ybt v1 v3 v58 h)
def y287 (s : St) : OX := yd3 (s 1) (s 3) (s 4) s.h
theorem y1b7 : T1 yqy y7w (y1 0 y4h xN) [.t 2] y287 := fun _ => by kernel_rfl
def y8d (v1 v3 v4 : AV) (h : Heap) : OX :=
ob (evFa 0 v1) fun v59 =>
ob (evLd false 1 v59 h) fun v60 =>
ob (yp 1 v60 v4) fun v62 =>
ob (evLd false 1 v62 h) fun v63 =>
ob (y2 .lss v63 (AV.int .i64 1)) fun v64 =>
gb v64 false (evFa 0 v1) fun v66 =>
gb v64 false (evLd false 1 v66 h) fun v67 =>
gb v64 false (some v4) fun v68 =>
gb v64 false (yp 1 v67 v68) fun v69 =>
gb v64 false (evLd false 1 v69 h) fun v70 =>
gb v64 false (y2 .gtr v70 (AV.int .i64 3)) fun v71 =>
ob (y9 v64 (AV.bool true) v71) fun v72 =>
cnd v72
 ((yc h (AV.int .i64 80)))
 ((yd3 v1 v3 v4 h))
def y200 (s : St) : OX := y8d (s 1) (s 3) (s 4) s.h
theorem y1ae : T1 yrs y7w (y1 0 y4h xN) [.t 2] y200 := sq y1b7 fun _ => by kernel_rfl
def y7g (v1 v3 v4 : AV) (h : Heap) : OX :=
ob (evFa 0 v1) fun v53 =>
ob (evLd false 1 v53 h) fun v54 =>
ob (yv 1 v54 h) fun v55 =>
ob (y2 .lss v4 v55) fun v56 =>
cnd v56
 ((y8d v1 v3 v4 h))
 ((yan v1 v3 h))
def y28j (s : St) : OX := y7g (s 1) (s 3) (s 4) s.h
theorem y1bb : T1 yum y7w (y1 0 y4h xN) [.t 2] y28j := sq y1ae fun _ => by kernel_rfl
theorem yk7 (v1 v3 v4 : AV) (h : Heap) : ybt v1 v3 v4 h = (y7g v1 v3 v4 h) :=
  y22.trans ((y15 _ _ _ (n' := y7w) (fun s => yid s)).trans ((y1bb _).trans (by kernel_rfl)))
theorem y1c3 : T1 yrp y4h xN [.t 2] y7w := fun s => yi.trans (yid s)
def yfx (v1 v3 : AV) (h : Heap) : OX :=
(ybt v1 v3 (AV.int .i64 0) h)
def yze (s : St) : OX := yfx (s 1) (s 3) s.h
theorem y1ah : T1 yup y4h xN [.t 2] yze := sq y1c3 fun _ => by kernel_rfl
theorem y1df : T0 yrq [.t 2] yze := sq y1ct y1ah
def y4p (v1 v3 : AV) (h : Heap) : OX :=
ob (y2 .eql v3 (AV.int .i64 0)) fun v14 =>
gb v14 false (some v3) fun v16 =>
gb v14 false (y2 .gtr v16 (AV.int .i64 20000)) fun v17 =>
ob (y9 v14 (AV.bool true) v17) fun v18 =>
gb v18 false (evFa 0 v1) fun v20 =>
gb v18 false (evLd false 1 v20 h) fun v21 =>
gb v18 false (yv 1 v21 h) fun v22 =>
gb v18 false (y2 .gtr v22 (AV.int .i64 20000)) fun v23 =>
ob (y9 v18 (AV.bool true) v23) fun v24 =>
gb v24 false (evFa 1 v1) fun v26 =>
gb v24 false (evLd false 1 v26 h) fun v27 =>
gb v24 false (yv 1 v27 h) fun v28 =>
gb v24 false (y2 .gtr v28 (AV.int .i64 21)) fun v29 =>
ob (y9 v24 (AV.bool true) v29) fun v30 =>
gb v30 false (evFa 2 v1) fun v32 =>
gb v30 false (evLd false 1 v32 h) fun v33 =>
gb v30 false (y2 .lss v33 (AV.int .i64 0)) fun v34 =>
ob (y9 v30 (AV.bool true) v34) fun v35 =>
gb v35 false (evFa 2 v1) fun v37 =>
gb v35 false (evLd false 1 v37 h) fun v38 =>
gb v35 false (y2 .gtr v38 (AV.int .i64 3)) fun v39 =>
ob (y9 v35 (AV.bool true) v39) fun v40 =>
gb v40 false (evFa 3 v1) fun v42 =>
gb v40 false (evLd false 1 v42 h) fun v43 =>
gb v40 false (some v3) fun v44 =>
gb v40 false (y2 .sub v44 (AV.int .i64 1)) fun v45 =>
gb v40 false (yp 9 v43 v45) fun v46 =>
gb v40 false (evFa 0 v46) fun v47 =>
gb v40 false (evLd false 1 v47 h) fun v48 =>
gh v40 false (y5 E (y7 E) 0 none true 25 [v48] h) h fun v49 h11 =>
gb v40 false (evUn .not v49) fun v50 =>
ob (y9 v40 (AV.bool true) v50) fun v51 =>
cnd v51
 ((yc h11 (AV.int .i64 80)))
 ((yfx v1 v3 h11))
def y1zc (s : St) : OX := y4p (s 1) (s 3) s.h
theorem y1b8 : T0 ys6 [.t 2] y1zc := sq y1df fun _ => by kernel_rfl
def y4q (v1 : AV) (h : Heap) : OX :=
ob (evFa 3 v1) fun v10 =>
ob (evLd false 1 v10 h) fun v11 =>
ob (yv 1 v11 h) fun v12 =>
(y4p v1 v12 h)
def y23f (s : St) : OX := y4q (s 1) s.h
theorem y1a5 : T0 ysf [.t 2] y23f := sq y1b8 fun _ => by kernel_rfl
def y4a (v0 : AV) (h : Heap) : OX :=
oh (newC 0 (some 0) (cellsOf v0) h) fun v1 h12 =>
(y4q v1 h12)
def y21a (s : St) : OX := y4a (s 0) s.h
theorem y1bw : T0 yu7 [.t 2] y21a := sq y1a5 fun _ => by kernel_rfl
@[simp] theorem y2ts : E.pure 29 = true := rfl
theorem y2jy (v0 : AV) : (y7 E).p 29 [v0] = y4a v0 [⟨0, .dead⟩, ⟨0, .dead⟩, ⟨0, .dead⟩] :=
  (yu (cf := y291) (by kernel_rfl) rfl).trans ((y1bw _).trans (by kernel_rfl))
def y2gq (h : Heap) : OX :=
(yc h (AV.bool true))
def y41 (s : St) : OX := y2gq s.h
theorem y241 : T0 y1o8 [.t 2] y41 := fun _ => by kernel_rfl
def yoi (v3 v104 v105 v106 : AV) (h : Heap) : OX :=
  W E 0 yp5 ⟨[(3, v3), (104, v104), (105, v105), (106, v106)], h⟩ y41 (y1 8 y41 xN) (finP [.t 2])
def ycv (s : St) : OX := yoi (s 3) (s 104) (s 105) (s 106) s.h
theorem yqn : T1 yp5 y41 (y1 8 y41 xN) [.t 2] ycv := fun s => yf.trans (by kernel_rfl)
def y1ve (v3 v104 v105 v106 : AV) (h : Heap) : OX :=
ob (y2 .add v106 (AV.int .i64 1)) fun v134 =>
(yoi v3 v104 v105 v134 h)
def y3q (s : St) : OX := y1ve (s 3) (s 104) (s 105) (s 106) s.h
theorem y25r : T1 y1xw ycv (y1 8 y41 xN) [.t 2] y3q := fun _ => by kernel_rfl
def ys3 (v3 v15 v104 v105 v106 v112 v113 v114 : AV) (h : Heap) : OX :=
  W E 0 ypx ⟨[(3, v3), (15, v15), (104, v104), (105, v105), (106, v106), (112, v112), (113, v113), (114, v114)], h⟩ y3q (y1 10 y3q (y1 9 y3q (y1 8 y41 xN))) (finP [.t 2])
def yd6 (s : St) : OX := ys3 (s 3) (s 15) (s 104) (s 105) (s 106) (s 112) (s 113) (s 114) s.h
theorem yqu : T1 ypx y3q (y1 10 y3q (y1 9 y3q (y1 8 y41 xN))) [.t 2] yd6 := fun s => yf.trans (by kernel_rfl)
def y232 (v3 v15 v104 v105 v106 v112 v113 v114 : AV) (h : Heap) : OX :=
ob (y2 .add v114 (AV.int .i64 1)) fun v133 =>
(ys3 v3 v15 v104 v105 v106 v112 v113 v133 h)
def y2m8 (s : St) : OX := y232 (s 3) (s 15) (s 104) (s 105) (s 106) (s 112) (s 113) (s 114) s.h
theorem y1ze : T1 y1q6 yd6 (y1 10 y3q (y1 9 y3q (y1 8 y41 xN))) [.t 2] y2m8 := fun _ => by kernel_rfl
def y1k8 (v3 v15 v104 v105 v106 v112 v113 v114 : AV) (h : Heap) : OX :=
ob (yp 1 v112 v114) fun v116 =>
ob (evLd false 1 v116 h) fun v117 =>
ob (yp 1 v3 v15) fun v120 =>
ob (evLd false 1 v120 h) fun v121 =>
ob (y86 1 true v121 AV.nils) fun v122 =>
gb v122 true (some v3) fun v124 =>
gb v122 true (some v15) fun v125 =>
gb v122 true (yp 1 v124 v125) fun v126 =>
gb v122 true (evLd false 1 v126 h) fun v127 =>
gb v122 true (some v117) fun v128 =>
gb v122 true (yp 1 v127 v128) fun v129 =>
gb v122 true (evLd false 1 v129 h) fun v130 =>
gb v122 true (evUn .not v130) fun v131 =>
ob (y9 v122 v131 (AV.bool false)) fun v132 =>
cnd v132
 ((yc h (AV.bool false)))
 ((y232 v3 v15 v104 v105 v106 v112 v113 v114 h))
def y2og (s : St) : OX := y1k8 (s 3) (s 15) (s 104) (s 105) (s 106) (s 112) (s 113) (s 114) s.h
theorem y214 : T1 y1vt yd6 (y1 10 y3q (y1 9 y3q (y1 8 y41 xN))) [.t 2] y2og := sq y1ze fun _ => by kernel_rfl
def y1aa (v3 v15 v104 v105 v106 v112 v113 v114 v115 : AV) (h : Heap) : OX :=
cnd v115
 ((y1k8 v3 v15 v104 v105 v106 v112 v113 v114 h))
 ((y1ve v3 v104 v105 v106 h))
def y2lc (s : St) : OX := y1aa (s 3) (s 15) (s 104) (s 105) (s 106) (s 112) (s 113) (s 114) (s 115) s.h
theorem y25k : T1 y1ux yd6 (y1 10 y3q (y1 9 y3q (y1 8 y41 xN))) [.t 2] y2lc := sq y214 fun _ => by kernel_rfl
def y1ak (v3 v15 v104 v105 v106 v112 v113 v114 : AV) (h : Heap) : OX :=
ob (y2 .lss v114 v113) fun v115 =>
(y1aa v3 v15 v104 v105 v106 v112 v113 v114 v115 h)
def y2nn (s : St) : OX := y1ak (s 3) (s 15) (s 104) (s 105) (s 106) (s 112) (s 113) (s 114) s.h
theorem y23n : T1 y1v2 yd6 (y1 10 y3q (y1 9 y3q (y1 8 y41 xN))) [.t 2] y2nn := sq y25k fun _ => by kernel_rfl
theorem yqc (v3 v15 v104 v105 v106 v112 v113 v114 : AV) (h : Heap) : ys3 v3 v15 v104 v105 v106 v112 v113 v114 h = (y1ak v3 v15 v104 v105 v106 v112 v113 v114 h) :=
  y22.trans ((y15 _ _ _ (n' := yd6) (fun s => yqu s)).trans ((y23n _).trans (by kernel_rfl)))
theorem y27s : T1 y1wv y3q (y1 9 y3q (y1 8 y41 xN)) [.t 2] yd6 := fun s => yi.trans (yqu s)
def y1ew (v3 v15 v16 v104 v105 v106 : AV) (h : Heap) : OX :=
ob (evLd true 9 v16 h) fun v111 =>
oh (y5 E (y7 E) 0 none true 10 [v111] h) fun v112 h1 =>
ob (yv 1 v112 h1) fun v113 =>
(ys3 v3 v15 v104 v105 v106 v112 v113 (AV.int .i64 0) h1)
def y2ax (s : St) : OX := y1ew (s 3) (s 15) (s 16) (s 104) (s 105) (s 106) s.h
theorem y1xp : T1 yxu y3q (y1 9 y3q (y1 8 y41 xN)) [.t 2] y2ax := sq y27s fun _ => by kernel_rfl
def y1r3 (v3 v104 v105 v106 : AV) (h : Heap) : OX :=
ob (yp 9 v104 v106) fun v109 =>
ob (evLd true 9 v109 h) fun v110 =>
oh (newC 0 (some 5) [(.int .i64 0), (.int .i64 0), (.int .i64 0), (.int .i64 0), (.int .i64 0), (.int .i64 0), (.int .i64 0), (.str []), .nils] h) fun v16 h2 =>
oh (evSt 9 v16 v110 h2) fun _ h3 =>
(y1ew v3 v106 v16 v104 v105 v106 h3)
def yv5 (s : St) : OX := y1r3 (s 3) (s 104) (s 105) (s 106) s.h
theorem y1sy : T1 y193 y3q (y1 9 y3q (y1 8 y41 xN)) [.t 2] yv5 := sq y1xp fun _ => by kernel_rfl
theorem y1hs : T1 yye y3q (y1 8 y41 xN) [.t 2] yv5 := fun s => yi.trans (y1sy s)
theorem y1m2 : T1 yyx ycv (y1 8 y41 xN) [.t 2] yv5 := sq y25r y1hs
def y18n (v3 v104 v105 v106 v107 : AV) (h : Heap) : OX :=
cnd v107
 ((y1r3 v3 v104 v105 v106 h))
 ((y2gq h))
def y2hf (s : St) : OX := y18n (s 3) (s 104) (s 105) (s 106) (s 107) s.h
theorem y1o1 : T1 y186 ycv (y1 8 y41 xN) [.t 2] y2hf := sq y1m2 fun _ => by kernel_rfl
def yyi (v3 v104 v105 v106 : AV) (h : Heap) : OX :=
ob (y2 .lss v106 v105) fun v107 =>
(y18n v3 v104 v105 v106 v107 h)
def y2fd (s : St) : OX := yyi (s 3) (s 104) (s 105) (s 106) s.h
theorem y1t3 : T1 y11z ycv (y1 8 y41 xN) [.t 2] y2fd := sq y1o1 fun _ => by kernel_rfl
theorem ys9 (v3 v104 v105 v106 : AV) (h : Heap) : yoi v3 v104 v105 v106 h = (yyi v3 v104 v105 v106 h) :=
  y22.trans ((y15 _ _ _ (n' := ycv) (fun s => yqn s)).trans ((y1t3 _).trans (by kernel_rfl)))
theorem y1js : T1 y12o y41 xN [.t 2] ycv := fun s => yi.trans (yqn s)
def yrt (v1 v3 : AV) (h : Heap) : OX :=
ob (evFa 3 v1) fun v103 =>
ob (evLd false 1 v103 h) fun v104 =>
ob (yv 1 v104 h) fun v105 =>
(yoi v3 v104 v105 (AV.int .i64 0) h)
def y20 (s : St) : OX := yrt (s 1) (s 3) s.h
theorem y1jd : T1 y0x y41 xN [.t 2] y20 := sq y1js fun _ => by kernel_rfl
theorem y1u3 : T0 y13c [.t 2] y20 := sq y241 y1jd
def ygg (v1 v3 v7 : AV) (h : Heap) : OX :=
  W E 0 yi5 ⟨[(1, v1), (3, v3), (7, v7)], h⟩ y20 (y1 2 y20 xN) (finP [.t 2])
def yq (s : St) : OX := ygg (s 1) (s 3) (s 7) s.h
theorem yo4 : T1 yi5 y20 (y1 2 y20 xN) [.t 2] yq := fun s => yf.trans (by kernel_rfl)
def ycy (v1 v3 v7 v9 v91 v92 v93 : AV) (h : Heap) : OX :=
  W E 0 yj4 ⟨[(1, v1), (3, v3), (7, v7), (9, v9), (91, v91), (92, v92), (93, v93)], h⟩ yq (y1 6 yq (y1 3 yq (y1 2 y20 xN))) (finP [.t 2])
def y91 (s : St) : OX := ycy (s 1) (s 3) (s 7) (s 9) (s 91) (s 92) (s 93) s.h
theorem ynz : T1 yj4 yq (y1 6 yq (y1 3 yq (y1 2 y20 xN))) [.t 2] y91 := fun s => yf.trans (by kernel_rfl)
def y1id (v1 v3 v7 v9 v91 v92 v93 : AV) (h : Heap) : OX :=
ob (y2 .add v93 (AV.int .i64 1)) fun v102 =>
(ycy v1 v3 v7 v9 v91 v92 v102 h)
def y2be (s : St) : OX := y1id (s 1) (s 3) (s 7) (s 9) (s 91) (s 92) (s 93) s.h
theorem y1tl : T1 y0j y91 (y1 6 yq (y1 3 yq (y1 2 y20 xN))) [.t 2] y2be := fun _ => by kernel_rfl
def y1ru (v1 v3 v7 v9 v91 v92 v93 : AV) (h : Heap) : OX :=
ob (yp 1 v91 v93) fun v95 =>
ob (evLd false 1 v95 h) fun v96 =>
oh (y5 E (y7 E) 0 none false 80 [v3, v96, v9, v7] h) fun v101 h4 =>
(y1id v1 v3 v101 v9 v91 v92 v93 h4)
def y2et (s : St) : OX := y1ru (s 1) (s 3) (s 7) (s 9) (s 91) (s 92) (s 93) s.h
theorem y1kh : T1 y17u y91 (y1 6 yq (y1 3 yq (y1 2 y20 xN))) [.t 2] y2et := sq y1tl fun _ => by kernel_rfl
def y142 (v1 v3 v7 v9 v91 v92 v93 v94 : AV) (h : Heap) : OX :=
cnd v94
 ((y1ru v1 v3 v7 v9 v91 v92 v93 h))
 ((ygg v1 v3 v7 h))
def y2c1 (s : St) : OX := y142 (s 1) (s 3) (s 7) (s 9) (s 91) (s 92) (s 93) (s 94) s.h
theorem y1jn : T1 y18p y91 (y1 6 yq (y1 3 yq (y1 2 y20 xN))) [.t 2] y2c1 := sq y1kh fun _ => by kernel_rfl
def y14p (v1 v3 v7 v9 v91 v92 v93 : AV) (h : Heap) : OX :=
ob (y2 .lss v93 v92) fun v94 =>
(y142 v1 v3 v7 v9 v91 v92 v93 v94 h)
def y2gn (s : St) : OX := y14p (s 1) (s 3) (s 7) (s 9) (s 91) (s 92) (s 93) s.h
theorem y1vr : T1 yyj y91 (y1 6 yq (y1 3 yq (y1 2 y20 xN))) [.t 2] y2gn := sq y1jn fun _ => by kernel_rfl
theorem ynr (v1 v3 v7 v9 v91 v92 v93 : AV) (h : Heap) : ycy v1 v3 v7 v9 v91 v92 v93 h = (y14p v1 v3 v7 v9 v91 v92 v93 h) :=
  y22.trans ((y15 _ _ _ (n' := y91) (fun s => ynz s)).trans ((y1vr _).trans (by kernel_rfl)))
theorem y1n4 : T1 yyz yq (y1 3 yq (y1 2 y20 xN)) [.t 2] y91 := fun s => yi.trans (ynz s)
def ym8 (v1 v3 v7 v8 v9 : AV) (h : Heap) : OX :=
ob (evLd true 5 v1 h) fun v89 =>
oh (y5 E (y7 E) 0 none true 81 [v89, v8] h) fun v91 h5 =>
ob (yv 1 v91 h5) fun v92 =>
(ycy v1 v3 v7 v9 v91 v92 (AV.int .i64 0) h5)
def y2f1 (s : St) : OX := ym8 (s 1) (s 3) (s 7) (s 8) (s 9) s.h
theorem y1v5 : T1 yzt yq (y1 3 yq (y1 2 y20 xN)) [.t 2] y2f1 := sq y1n4 fun _ => by kernel_rfl
def yme (v1 v3 v7 v8 v9 : AV) (h : Heap) : OX :=
ob (evFa 3 v1) fun v78 =>
ob (evLd false 1 v78 h) fun v79 =>
ob (yp 9 v79 v8) fun v81 =>
ob (evLd true 9 v81 h) fun v82 =>
oh (y5 E (y7 E) 0 none true 9 [v82] h) fun v83 h6 =>
ob (y2 .geq v83 (AV.int .i64 0)) fun v85 =>
cnd v85
 (ob (yp 1 v9 v83) fun v88 =>
oh (evSt 1 v88 (AV.bool true) h6) fun _ h7 =>
(ym8 v1 v3 v7 v8 v9 h7))
 ((ym8 v1 v3 v7 v8 v9 h6))
def y69 (s : St) : OX := yme (s 1) (s 3) (s 7) (s 8) (s 9) s.h
theorem y1h4 : T1 y133 yq (y1 3 yq (y1 2 y20 xN)) [.t 2] y69 := sq y1v5 fun _ => by kernel_rfl
def yfp (v1 v3 v7 v8 v9 v66 v67 v68 : AV) (h : Heap) : OX :=
  W E 0 yj8 ⟨[(1, v1), (3, v3), (7, v7), (8, v8), (9, v9), (66, v66), (67, v67), (68, v68)], h⟩ y69 (y1 4 y69 (y1 3 yq (y1 2 y20 xN))) (finP [.t 2])
def y8v (s : St) : OX := yfp (s 1) (s 3) (s 7) (s 8) (s 9) (s 66) (s 67) (s 68) s.h
theorem yly : T1 yj8 y69 (y1 4 y69 (y1 3 yq (y1 2 y20 xN))) [.t 2] y8v := fun s => yf.trans (by kernel_rfl)
def y1et (v1 v3 v7 v8 v9 v66 v67 v68 : AV) (h : Heap) : OX :=
ob (y2 .add v68 (AV.int .i64 1)) fun v77 =>
(yfp v1 v3 v7 v8 v9 v66 v67 v77 h)
def y2ez (s : St) : OX := y1et (s 1) (s 3) (s 7) (s 8) (s 9) (s 66) (s 67) (s 68) s.h
theorem y1sw : T1 y11x y8v (y1 4 y69 (y1 3 yq (y1 2 y20 xN))) [.t 2] y2ez := fun _ => by kernel_rfl
def y1pj (v1 v3 v7 v8 v9 v66 v67 v68 : AV) (h : Heap) : OX :=
ob (yp 1 v66 v68) fun v70 =>
ob (evLd false 1 v70 h) fun v71 =>
oh (y5 E (y7 E) 0 none false 80 [v3, v71, v9, v7] h) fun v76 h8 =>
(y1et v1 v3 v76 v8 v9 v66 v67 v68 h8)
def y2bc (s : St) : OX := y1pj (s 1) (s 3) (s 7) (s 8) (s 9) (s 66) (s 67) (s 68) s.h
theorem y1es : T1 y11g y8v (y1 4 y69 (y1 3 yq (y1 2 y20 xN))) [.t 2] y2bc := sq y1sw fun _ => by kernel_rfl
def yyr (v1 v3 v7 v8 v9 v66 v67 v68 v69 : AV) (h : Heap) : OX :=
cnd v69
 ((y1pj v1 v3 v7 v8 v9 v66 v67 v68 h))
 ((yme v1 v3 v7 v8 v9 h))
def y2bs (s : St) : OX := yyr (s 1) (s 3) (s 7) (s 8) (s 9) (s 66) (s 67) (s 68) (s 69) s.h
theorem y1me : T1 yxi y8v (y1 4 y69 (y1 3 yq (y1 2 y20 xN))) [.t 2] y2bs := sq y1es fun _ => by kernel_rfl
def y13w (v1 v3 v7 v8 v9 v66 v67 v68 : AV) (h : Heap) : OX :=
ob (y2 .lss v68 v67) fun v69 =>
(yyr v1 v3 v7 v8 v9 v66 v67 v68 v69 h)
def y2b9 (s : St) : OX := y13w (s 1) (s 3) (s 7) (s 8) (s 9) (s 66) (s 67) (s 68) s.h
theorem y1rl : T1 y154 y8v (y1 4 y69 (y1 3 yq (y1 2 y20 xN))) [.t 2] y2b9 := sq y1me fun _ => by kernel_rfl
theorem ylz (v1 v3 v7 v8 v9 v66 v67 v68 : AV) (h : Heap) : yfp v1 v3 v7 v8 v9 v66 v67 v68 h = (y13w v1 v3 v7 v8 v9 v66 v67 v68 h) :=
  y22.trans ((y15 _ _ _ (n' := y8v) (fun s => yly s)).trans ((y1rl _).trans (by kernel_rfl)))
theorem y1gl : T1 y13b y69 (y1 3 yq (y1 2 y20 xN)) [.t 2] y8v := fun s => yi.trans (yly s)
def y1hz (v1 v3 v7 v8 v9 : AV) (h : Heap) : OX :=
ob (evLd true 5 v1 h) fun v64 =>
oh (y5 E (y7 E) 0 none true 79 [v64, v8] h) fun v66 h9 =>
ob (yv 1 v66 h9) fun v67 =>
(yfp v1 v3 v7 v8 v9 v66 v67 (AV.int .i64 0) h9)
def y1ql (s : St) : OX := y1hz (s 1) (s 3) (s 7) (s 8) (s 9) s.h
theorem y1mc : T1 y180 y69 (y1 3 yq (y1 2 y20 xN)) [.t 2] y1ql := sq y1gl fun _ => by kernel_rfl
theorem y1kd : T1 y12m yq (y1 3 yq (y1 2 y20 xN)) [.t 2] y1ql := sq y1h4 y1mc
def y15j (v1 v3 v7 v8 : AV) (h : Heap) : OX :=
ob (yp 1 v3 v8) fun v61 =>
ob (evLd false 1 v61 h) fun v62 =>
oh (y5 E (y7 E) 0 (some 4) false 78 [v62] h) fun v63 h10 =>
(y1hz v1 v3 v7 v8 v63 h10)
def y2j3 (s : St) : OX := y15j (s 1) (s 3) (s 7) (s 8) s.h
theorem y1mu : T1 yym yq (y1 3 yq (y1 2 y20 xN)) [.t 2] y2j3 := sq y1kd fun _ => by kernel_rfl
def y1g0 (v1 v3 v7 v8 : AV) (h : Heap) : OX :=
ob (yv 1 v7 h) fun v56 =>
ob (y2 .sub v56 (AV.int .i64 1)) fun v57 =>
ob (yc9 1 v7 none (some v57)) fun v58 =>
(y15j v1 v3 v58 v8 h)
def y2bj (s : St) : OX := y1g0 (s 1) (s 3) (s 7) (s 8) s.h
theorem y1vh : T1 y0k yq (y1 3 yq (y1 2 y20 xN)) [.t 2] y2bj := sq y1mu fun _ => by kernel_rfl
def y1ko (v1 v3 v7 : AV) (h : Heap) : OX :=
ob (yv 1 v7 h) fun v50 =>
ob (y2 .sub v50 (AV.int .i64 1)) fun v51 =>
ob (yp 1 v7 v51) fun v52 =>
ob (evLd false 1 v52 h) fun v53 =>
(y1g0 v1 v3 v7 v53 h)
def y1hl (s : St) : OX := y1ko (s 1) (s 3) (s 7) s.h
theorem y1g2 : T1 y18t yq (y1 3 yq (y1 2 y20 xN)) [.t 2] y1hl := sq y1vh fun _ => by kernel_rfl
theorem y1jy : T1 y141 yq (y1 2 y20 xN) [.t 2] y1hl := fun s => yi.trans (y1g2 s)
def yrf (v1 v3 v7 : AV) (h : Heap) : OX :=
ob (yv 1 v7 h) fun v46 =>
ob (y2 .gtr v46 (AV.int .i64 0)) fun v47 =>
cnd v47
 ((y1ko v1 v3 v7 h))
 ((yrt v1 v3 h))
def y2g2 (s : St) : OX := yrf (s 1) (s 3) (s 7) s.h
theorem y1pu : T1 y02 yq (y1 2 y20 xN) [.t 2] y2g2 := sq y1jy fun _ => by kernel_rfl
theorem y1d9 (v1 v3 v7 : AV) (h : Heap) : ygg v1 v3 v7 h = (yrf v1 v3 v7 h) :=
  y22.trans ((y15 _ _ _ (n' := yq) (fun s => yo4 s)).trans ((y1pu _).trans (by kernel_rfl)))
theorem y1rw : T1 y18i y20 xN [.t 2] yq := fun s => yi.trans (yo4 s)
theorem y1jk : T0 yxo [.t 2] yq := sq y1u3 y1rw
def y1ez (v1 v3 v4 v7 : AV) (h : Heap) : OX :=
ob (yp 1 v3 (AV.int .i64 0)) fun v44 =>
oh (evSt 1 v44 v4 h) fun _ h11 =>
(ygg v1 v3 v7 h11)
def y2gw (s : St) : OX := y1ez (s 1) (s 3) (s 4) (s 7) s.h
theorem y1r2 : T0 yz1 [.t 2] y2gw := sq y1jk fun _ => by kernel_rfl
def yxp (v1 v3 v4 : AV) (h : Heap) : OX :=
oh (yx 0 (some 3) 1 1 [(.int .i64 0)] [(0, (AV.int .i64 0))] h) fun v41 h12 =>
(y1ez v1 v3 v4 v41 h12)
def y68 (s : St) : OX := yxp (s 1) (s 3) (s 4) s.h
theorem y1f1 : T0 y15a [.t 2] y68 := sq y1r2 fun _ => by kernel_rfl
def ykq (v1 v3 v4 v31 v32 v33 : AV) (h : Heap) : OX :=
  W E 0 yi9 ⟨[(1, v1), (3, v3), (4, v4), (31, v31), (32, v32), (33, v33)], h⟩ y68 (y1 0 y68 xN) (finP [.t 2])
def y8h (s : St) : OX := ykq (s 1) (s 3) (s 4) (s 31) (s 32) (s 33) s.h
theorem yn7 : T1 yi9 y68 (y1 0 y68 xN) [.t 2] y8h := fun s => yf.trans (by kernel_rfl)
def y1kt (v1 v3 v4 v31 v32 v33 : AV) (h : Heap) : OX :=
ob (y2 .add v33 (AV.int .i64 1)) fun v40 =>
(ykq v1 v3 v4 v31 v32 v40 h)
def y2ep (s : St) : OX := y1kt (s 1) (s 3) (s 4) (s 31) (s 32) (s 33) s.h
theorem y1ha : T1 y198 y8h (y1 0 y68 xN) [.t 2] y2ep := fun _ => by kernel_rfl
def y1fk (v1 v3 v4 v31 v32 v33 : AV) (h : Heap) : OX :=
ob (yp 1 v31 v33) fun v35 =>
ob (evLd false 1 v35 h) fun v36 =>
ob (yp 1 v4 v36) fun v39 =>
oh (evSt 1 v39 (AV.bool true) h) fun _ h13 =>
(y1kt v1 v3 v4 v31 v32 v33 h13)
def y2cl (s : St) : OX := y1fk (s 1) (s 3) (s 4) (s 31) (s 32) (s 33) s.h
theorem y1hh : T1 yyy y8h (y1 0 y68 xN) [.t 2] y2cl := sq y1ha fun _ => by kernel_rfl
def y11s (v1 v3 v4 v31 v32 v33 v34 : AV) (h : Heap) : OX :=
cnd v34
 ((y1fk v1 v3 v4 v31 v32 v33 h))
 ((yxp v1 v3 v4 h))
def y2iv (s : St) : OX := y11s (s 1) (s 3) (s 4) (s 31) (s 32) (s 33) (s 34) s.h
theorem y1ej : T1 y12v y8h (y1 0 y68 xN) [.t 2] y2iv := sq y1hh fun _ => by kernel_rfl
def y11a (v1 v3 v4 v31 v32 v33 : AV) (h : Heap) : OX :=
ob (y2 .lss v33 v32) fun v34 =>
(y11s v1 v3 v4 v31 v32 v33 v34 h)
def y2bw (s : St) : OX := y11a (s 1) (s 3) (s 4) (s 31) (s 32) (s 33) s.h
theorem y1g6 : T1 y11h y8h (y1 0 y68 xN) [.t 2] y2bw := sq y1ej fun _ => by kernel_rfl
theorem ymv (v1 v3 v4 v31 v32 v33 : AV) (h : Heap) : ykq v1 v3 v4 v31 v32 v33 h = (y11a v1 v3 v4 v31 v32 v33 h) :=
  y22.trans ((y15 _ _ _ (n' := y8h) (fun s => yn7 s)).trans ((y1g6 _).trans (by kernel_rfl)))
theorem y1ss : T1 y16w y68 xN [.t 2] y8h := fun s => yi.trans (yn7 s)
def y1m4 (v1 v3 v4 : AV) (h : Heap) : OX :=
ob (evFa 1 v1) fun v30 =>
ob (evLd false 1 v30 h) fun v31 =>
ob (yv 1 v31 h) fun v32 =>
(ykq v1 v3 v4 v31 v32 (AV.int .i64 0) h)
def y1vg (s : St) : OX := y1m4 (s 1) (s 3) (s 4) s.h
theorem y1na : T1 y14i y68 xN [.t 2] y1vg := sq y1ss fun _ => by kernel_rfl
theorem y1hm : T0 y12r [.t 2] y1vg := sq y1f1 y1na
def y1mz (v1 v3 : AV) (h : Heap) : OX :=
ob (evFa 0 v1) fun v26 =>
ob (evLd false 1 v26 h) fun v27 =>
ob (yv 1 v27 h) fun v28 =>
oh (mkSC 0 (some 2) 1 1 [(.bool false)] v28 v28 h) fun v29 h14 =>
(y1m4 v1 v3 v29 h14)
def y2df (s : St) : OX := y1mz (s 1) (s 3) s.h
theorem y1em : T0 y17v [.t 2] y2df := sq y1hm fun _ => by kernel_rfl
def y1w4 (v1 : AV) (h : Heap) : OX :=
ob (evFa 3 v1) fun v22 =>
ob (evLd false 1 v22 h) fun v23 =>
ob (yv 1 v23 h) fun v24 =>
oh (mkSC 0 (some 1) 1 24 [.nils] v24 v24 h) fun v25 h15 =>
(y1mz v1 v25 h15)
def y2e8 (s : St) : OX := y1w4 (s 1) s.h
theorem y1z5 : T0 y18s [.t 2] y2e8 := sq y1em fun _ => by kernel_rfl
def y14g (v1 : AV) (h : Heap) : OX :=
ob (evLd true 5 v1 h) fun v19 =>
oh (y5 E (y7 E) 0 none true 8 [v19] h) fun v20 h16 =>
ob (y2 .neq v20 (AV.int .i64 0)) fun v21 =>
cnd v21
 ((yc h16 (AV.bool false)))
 ((y1w4 v1 h16))
def y2ia (s : St) : OX := y14g (s 1) s.h
theorem y1uw : T0 y19e [.t 2] y2ia := sq y1z5 fun _ => by kernel_rfl
def yzy (v0 : AV) (h : Heap) : OX :=
oh (newC 0 (some 0) (cellsOf v0) h) fun v1 h17 =>
(y14g v1 h17)
def y2az (s : St) : OX := yzy (s 0) s.h
theorem y1t2 : T0 y12i [.t 2] y2az := sq y1uw fun _ => by kernel_rfl
@[simp] theorem y2rx : E.pure 77 = true := rfl
theorem y2s0 (v0 : AV) : (y7 E).p 77 [v0] = yzy v0 [⟨0, .dead⟩, ⟨0, .dead⟩, ⟨0, .dead⟩, ⟨0, .dead⟩, ⟨0, .dead⟩, ⟨0, .dead⟩] :=
  (yu (cf := y2l6) (by kernel_rfl) rfl).trans ((y1t2 _).trans (by kernel_rfl))
def yd5 (h : Heap) : OX :=
(yc h AV.nils)
def y32 (s : St) : OX := yd5 s.h
theorem y23i : T0 y1ph [.t 2] y32 := fun _ => by kernel_rfl
def ydy (v1 : AV) (h : Heap) : OX :=
ob (evFa 2 v1) fun v58 =>
ob (evLd false 1 v58 h) fun v59 =>
ob (evFa 3 v1) fun v60 =>
ob (evLd false 1 v60 h) fun v61 =>
oh (yx 0 (some 6) 1 2 [(.int .i64 0)] [(0, v59), (1, v61)] h) fun v62 h1 =>
(yc h1 v62)
def y2q0 (s : St) : OX := ydy (s 1) s.h
theorem y263 : T1 y1si y32 (y1 0 y32 xN) [.t 2] y2q0 := fun _ => by kernel_rfl
def ye3 (v1 : AV) (h : Heap) : OX :=
ob (evFa 3 v1) fun v52 =>
ob (evLd false 1 v52 h) fun v53 =>
ob (y2 .lss v53 (AV.int .i64 0)) fun v54 =>
cnd v54
 (ob (evFa 2 v1) fun v55 =>
ob (evLd false 1 v55 h) fun v56 =>
oh (yx 0 (some 5) 1 1 [(.int .i64 0)] [(0, v56)] h) fun v57 h2 =>
(yc h2 v57))
 ((ydy v1 h))
def y2ob (s : St) : OX := ye3 (s 1) s.h
theorem y257 : T1 y1nu y32 (y1 0 y32 xN) [.t 2] y2ob := sq y263 fun _ => by kernel_rfl
def ydv (v1 v4 v50 : AV) (h : Heap) : OX :=
cnd v50
 ((ye3 v1 h))
 (ob (y2 .eql v4 (AV.int .i64 30)) fun v64 =>
cnd v64
 (ob (evFa 2 v1) fun v65 =>
ob (evLd false 1 v65 h) fun v66 =>
ob (y2 .geq v66 (AV.int .i64 0)) fun v67 =>
cnd v67
 (ob (evFa 2 v1) fun v68 =>
ob (evLd false 1 v68 h) fun v69 =>
oh (yx 0 (some 7) 1 1 [(.int .i64 0)] [(0, v69)] h) fun v70 h3 =>
(yc h3 v70))
 ((yd5 h)))
 ((yd5 h)))
def y2o5 (s : St) : OX := ydv (s 1) (s 4) (s 50) s.h
theorem y218 : T1 y1ol y32 (y1 0 y32 xN) [.t 2] y2o5 := fun s => (yw (y257 s) rfl).trans (by kernel_rfl)
def yef (v1 v4 : AV) (h : Heap) : OX :=
ob (y2 .eql v4 (AV.int .i64 29)) fun v51 =>
(ydv v1 v4 v51 h)
def y2o7 (s : St) : OX := yef (s 1) (s 4) s.h
theorem y20s : T1 y1ne y32 (y1 0 y32 xN) [.t 2] y2o7 := sq y218 fun _ => by kernel_rfl
def yas (v1 v4 v42 : AV) (h : Heap) : OX :=
cnd v42
 (ob (evFa 8 v1) fun v47 =>
ob (evLd false 1 v47 h) fun v48 =>
oh (y5 E (y7 E) 0 (some 4) false 39 [v48] h) fun v49 h4 =>
(yc h4 v49))
 ((yef v1 v4 h))
def y2oi (s : St) : OX := yas (s 1) (s 4) (s 42) s.h
theorem y20z : T1 y1vl y32 (y1 0 y32 xN) [.t 2] y2oi := fun s => (yw rfl (y20s s)).trans (by kernel_rfl)
def yeb (v1 v4 : AV) (h : Heap) : OX :=
ob (y2 .eql v4 (AV.int .i64 23)) fun v43 =>
cnd v43
 ((yas v1 v4 v43 h))
 (ob (y2 .eql v4 (AV.int .i64 24)) fun v44 =>
cnd v44
 ((yas v1 v4 v44 h))
 (ob (y2 .eql v4 (AV.int .i64 25)) fun v45 =>
cnd v45
 ((yas v1 v4 v45 h))
 (ob (y2 .eql v4 (AV.int .i64 26)) fun v46 =>
(yas v1 v4 v46 h))))
def y2oh (s : St) : OX := yeb (s 1) (s 4) s.h
theorem y27o : T1 y1e4 y32 (y1 0 y32 xN) [.t 2] y2oh := sq y20z fun _ => by kernel_rfl
def yf6 (v1 v4 v33 : AV) (h : Heap) : OX :=
cnd v33
 (ob (evFa 2 v1) fun v35 =>
ob (evLd false 1 v35 h) fun v36 =>
ob (evFa 3 v1) fun v37 =>
ob (evLd false 1 v37 h) fun v38 =>
ob (evFa 4 v1) fun v39 =>
ob (evLd false 1 v39 h) fun v40 =>
oh (yx 0 (some 3) 1 3 [(.int .i64 0)] [(0, v36), (1, v38), (2, v40)] h) fun v41 h5 =>
(yc h5 v41))
 ((yeb v1 v4 h))
def y2o6 (s : St) : OX := yf6 (s 1) (s 4) (s 33) s.h
theorem y25q : T1 y1q3 y32 (y1 0 y32 xN) [.t 2] y2o6 := fun s => (yw rfl (y27o s)).trans (by kernel_rfl)
def yeo (v1 v4 : AV) (h : Heap) : OX :=
ob (y2 .eql v4 (AV.int .i64 14)) fun v34 =>
(yf6 v1 v4 v34 h)
def y2qj (s : St) : OX := yeo (s 1) (s 4) s.h
theorem y273 : T1 y1tc y32 (y1 0 y32 xN) [.t 2] y2qj := sq y25q fun _ => by kernel_rfl
def y4r (v1 v4 v21 : AV) (h : Heap) : OX :=
cnd v21
 (ob (evFa 2 v1) fun v28 =>
ob (evLd false 1 v28 h) fun v29 =>
ob (evFa 3 v1) fun v30 =>
ob (evLd false 1 v30 h) fun v31 =>
oh (yx 0 (some 2) 1 2 [(.int .i64 0)] [(0, v29), (1, v31)] h) fun v32 h6 =>
(yc h6 v32))
 ((yeo v1 v4 h))
def y2i1 (s : St) : OX := y4r (s 1) (s 4) (s 21) s.h
theorem y1fx : T1 yz3 y32 (y1 0 y32 xN) [.t 2] y2i1 := fun s => (yw rfl (y273 s)).trans (by kernel_rfl)
def y73 (v1 v4 : AV) (h : Heap) : OX :=
ob (y2 .eql v4 (AV.int .i64 5)) fun v22 =>
cnd v22
 ((y4r v1 v4 v22 h))
 (ob (y2 .eql v4 (AV.int .i64 9)) fun v23 =>
cnd v23
 ((y4r v1 v4 v23 h))
 (ob (y2 .eql v4 (AV.int .i64 11)) fun v24 =>
cnd v24
 ((y4r v1 v4 v24 h))
 (ob (y2 .eql v4 (AV.int .i64 13)) fun v25 =>
cnd v25
 ((y4r v1 v4 v25 h))
 (ob (y2 .eql v4 (AV.int .i64 17)) fun v26 =>
cnd v26
 ((y4r v1 v4 v26 h))
 (ob (y2 .eql v4 (AV.int .i64 28)) fun v27 =>
(y4r v1 v4 v27 h))))))
def y2cx (s : St) : OX := y73 (s 1) (s 4) s.h
theorem y1sq : T1 y169 y32 (y1 0 y32 xN) [.t 2] y2cx := sq y1fx fun _ => by kernel_rfl
def y37 (v1 v4 v5 : AV) (h : Heap) : OX :=
cnd v5
 (ob (evFa 2 v1) fun v18 =>
ob (evLd false 1 v18 h) fun v19 =>
oh (yx 0 (some 1) 1 1 [(.int .i64 0)] [(0, v19)] h) fun v20 h7 =>
(yc h7 v20))
 ((y73 v1 v4 h))
def y2gp (s : St) : OX := y37 (s 1) (s 4) (s 5) s.h
theorem y1o3 : T1 yxr y32 (y1 0 y32 xN) [.t 2] y2gp := fun s => (yw rfl (y1sq s)).trans (by kernel_rfl)
def y7a (v1 v4 : AV) (h : Heap) : OX :=
ob (y2 .eql v4 (AV.int .i64 4)) fun v6 =>
cnd v6
 ((y37 v1 v4 v6 h))
 (ob (y2 .eql v4 (AV.int .i64 6)) fun v7 =>
cnd v7
 ((y37 v1 v4 v7 h))
 (ob (y2 .eql v4 (AV.int .i64 7)) fun v8 =>
cnd v8
 ((y37 v1 v4 v8 h))
 (ob (y2 .eql v4 (AV.int .i64 8)) fun v9 =>
cnd v9
 ((y37 v1 v4 v9 h))
 (ob (y2 .eql v4 (AV.int .i64 10)) fun v10 =>
cnd v10
 ((y37 v1 v4 v10 h))
 (ob (y2 .eql v4 (AV.int .i64 12)) fun v11 =>
cnd v11
 ((y37 v1 v4 v11 h))
 (ob (y2 .eql v4 (AV.int .i64 15)) fun v12 =>
cnd v12
 ((y37 v1 v4 v12 h))
 (ob (y2 .eql v4 (AV.int .i64 16)) fun v13 =>
cnd v13
 ((y37 v1 v4 v13 h))
 (ob (y2 .eql v4 (AV.int .i64 19)) fun v14 =>
cnd v14
 ((y37 v1 v4 v14 h))
 (ob (y2 .eql v4 (AV.int .i64 21)) fun v15 =>
cnd v15
 ((y37 v1 v4 v15 h))
 (ob (y2 .eql v4 (AV.int .i64 22)) fun v16 =>
cnd v16
 ((y37 v1 v4 v16 h))
 (ob (y2 .eql v4 (AV.int .i64 31)) fun v17 =>
(y37 v1 v4 v17 h))))))))))))
def y1ks (s : St) : OX := y7a (s 1) (s 4) s.h
theorem y1nr : T1 y14q y32 (y1 0 y32 xN) [.t 2] y1ks := sq y1o3 fun _ => by kernel_rfl
theorem y1hu : T1 y12p y32 xN [.t 2] y1ks := fun s => yi.trans (y1nr s)
def y71 (v1 : AV) (h : Heap) : OX :=
ob (evFa 0 v1) fun v3 =>
ob (evLd false 1 v3 h) fun v4 =>
(y7a v1 v4 h)
def y1s6 (s : St) : OX := y71 (s 1) s.h
theorem y1s4 : T1 y14n y32 xN [.t 2] y1s6 := sq y1hu fun _ => by kernel_rfl
theorem y1kb : T0 y12f [.t 2] y1s6 := sq y23i y1s4
def y6z (v0 : AV) (h : Heap) : OX :=
oh (newC 0 (some 0) (cellsOf v0) h) fun v1 h8 =>
(y71 v1 h8)
def y2hc (s : St) : OX := y6z (s 0) s.h
theorem y1vo : T0 y126 [.t 2] y2hc := sq y1kb fun _ => by kernel_rfl
@[simp] theorem y2tk : E.pure 10 = true := rfl
theorem ywd (v0 : AV) : (y7 E).p 10 [v0] = y6z v0 [⟨0, .dead⟩, ⟨0, .dead⟩, ⟨0, .dead⟩, ⟨0, .dead⟩, ⟨0, .dead⟩, ⟨0, .dead⟩, ⟨0, .dead⟩, ⟨0, .dead⟩] :=
  (yu (cf := y2ou) (by kernel_rfl) rfl).trans ((y1vo _).trans (by kernel_rfl))
def y1nx (h : Heap) : OX :=
(yc h (AV.int .i64 (-1)))
def y2kr (s : St) : OX := y1nx s.h
theorem y23t : T0 y1rn [.t 2] y2kr := fun _ => by kernel_rfl
def y1tr (v1 : AV) (h : Heap) : OX :=
ob (evLd true 9 v1 h) fun v22 =>
oh (y5 E (y7 E) 0 none true 17 [v22] h) fun v23 h1 =>
cnd v23
 (ob (evFa 1 v1) fun v24 =>
ob (evLd false 1 v24 h1) fun v25 =>
(yc h1 v25))
 ((y1nx h1))
def ykh (s : St) : OX := y1tr (s 1) s.h
theorem y27r : T0 y1lm [.t 2] ykh := sq y23t fun _ => by kernel_rfl
def yad (v1 v5 : AV) (h : Heap) : OX :=
cnd v5
 (ob (evFa 1 v1) fun v20 =>
ob (evLd false 1 v20 h) fun v21 =>
(yc h v21))
 ((y1tr v1 h))
def y2p4 (s : St) : OX := yad (s 1) (s 5) s.h
theorem y26m : T1 y1wr ykh (y1 0 ykh xN) [.t 2] y2p4 := fun _ => by kernel_rfl
def y1xg (v1 v4 : AV) (h : Heap) : OX :=
ob (y2 .eql v4 (AV.int .i64 1)) fun v6 =>
cnd v6
 ((yad v1 v6 h))
 (ob (y2 .eql v4 (AV.int .i64 2)) fun v7 =>
cnd v7
 ((yad v1 v7 h))
 (ob (y2 .eql v4 (AV.int .i64 3)) fun v8 =>
cnd v8
 ((yad v1 v8 h))
 (ob (y2 .eql v4 (AV.int .i64 4)) fun v9 =>
cnd v9
 ((yad v1 v9 h))
 (ob (y2 .eql v4 (AV.int .i64 5)) fun v10 =>
cnd v10
 ((yad v1 v10 h))
 (ob (y2 .eql v4 (AV.int .i64 6)) fun v11 =>
cnd v11
 ((yad v1 v11 h))
 (ob (y2 .eql v4 (AV.int .i64 13)) fun v12 =>
cnd v12
 ((yad v1 v12 h))
 (ob (y2 .eql v4 (AV.int .i64 15)) fun v13 =>
cnd v13
 ((yad v1 v13 h))
 (ob (y2 .eql v4 (AV.int .i64 16)) fun v14 =>
cnd v14
 ((yad v1 v14 h))
 (ob (y2 .eql v4 (AV.int .i64 18)) fun v15 =>
cnd v15
 ((yad v1 v15 h))
 (ob (y2 .eql v4 (AV.int .i64 20)) fun v16 =>
cnd v16
 ((yad v1 v16 h))
 (ob (y2 .eql v4 (AV.int .i64 21)) fun v17 =>
cnd v17
 ((yad v1 v17 h))
 (ob (y2 .eql v4 (AV.int .i64 22)) fun v18 =>
cnd v18
 ((yad v1 v18 h))
 (ob (y2 .eql v4 (AV.int .i64 32)) fun v19 =>
(yad v1 v19 h))))))))))))))
def y28n (s : St) : OX := y1xg (s 1) (s 4) s.h
theorem y24o : T1 y1fy ykh (y1 0 ykh xN) [.t 2] y28n := sq y26m fun _ => by kernel_rfl
theorem y24f : T1 y1t1 ykh xN [.t 2] y28n := fun s => yi.trans (y24o s)
def y1jx (v1 : AV) (h : Heap) : OX :=
ob (evFa 0 v1) fun v3 =>
ob (evLd false 1 v3 h) fun v4 =>
(y1xg v1 v4 h)
def y29n (s : St) : OX := y1jx (s 1) s.h
theorem y23c : T1 y1tf ykh xN [.t 2] y29n := sq y24f fun _ => by kernel_rfl
theorem y20r : T0 y1wt [.t 2] y29n := sq y27r y23c
def y1rp (v0 : AV) (h : Heap) : OX :=
oh (newC 0 (some 0) (cellsOf v0) h) fun v1 h2 =>
(y1jx v1 h2)
def y2kf (s : St) : OX := y1rp (s 0) s.h
theorem y20g : T0 y1ps [.t 2] y2kf := sq y20r fun _ => by kernel_rfl
@[simp] theorem y2v9 : E.pure 9 = true := rfl
theorem y2rk (v0 : AV) : (y7 E).p 9 [v0] = y1rp v0 [⟨0, .dead⟩] :=
  (yu (cf := y2o3) (by kernel_rfl) rfl).trans ((y20g _).trans (by kernel_rfl))
def y19h (v0 : AV) (h : Heap) : OX :=
oh (yx 0 (some 0) 1 0 [(.int .i64 0)] [] h) fun v5 h1 =>
oh (y3t 0 (some 1) 1 8 v5 v0 h1) fun v7 h2 =>
(yc h2 v7)
def y2b2 (s : St) : OX := y19h (s 0) s.h
theorem y1ll : T0 y12e [.t 2] y2b2 := fun _ => by kernel_rfl
def yz4 (v0 : AV) (h : Heap) : OX :=
ob (y86 1 false v0 AV.nils) fun v4 =>
cnd v4
 ((yc h AV.nils))
 ((y19h v0 h))
def y2by (s : St) : OX := yz4 (s 0) s.h
theorem y1yn : T0 y17b [.t 2] y2by := sq y1ll fun _ => by kernel_rfl
def y175 (v0 : AV) (h : Heap) : OX :=
(yz4 v0 h)
def y2em (s : St) : OX := y175 (s 0) s.h
theorem y1v0 : T0 y12z [.t 2] y2em := sq y1yn fun _ => by kernel_rfl
@[simp] theorem y2u7 : E.pure 39 = true := rfl
theorem y2mv (v0 : AV) : (y7 E).p 39 [v0] = y175 v0 [⟨0, .dead⟩, ⟨0, .dead⟩] :=
  (yu (cf := y297) (by kernel_rfl) rfl).trans ((y1v0 _).trans (by kernel_rfl))
def y06 (v0 : AV) (h : Heap) : OX :=
oh (yx 0 (some 0) 9 0 [(.int .i64 0), (.int .i64 0), (.int .i64 0), (.int .i64 0), (.int .i64 0), (.int .i64 0), (.int .i64 0), (.str []), .nils] [] h) fun v5 h1 =>
oh (y3t 0 (some 1) 9 96 v5 v0 h1) fun v7 h2 =>
(yc h2 v7)
def y2f7 (s : St) : OX := y06 (s 0) s.h
theorem y1ib : T0 y03 [.t 2] y2f7 := fun _ => by kernel_rfl
def y0z (v0 : AV) (h : Heap) : OX :=
ob (y86 1 false v0 AV.nils) fun v4 =>
cnd v4
 ((yc h AV.nils))
 ((y06 v0 h))
def y2hq (s : St) : OX := y0z (s 0) s.h
theorem y1t5 : T0 y0f [.t 2] y2hq := sq y1ib fun _ => by kernel_rfl
def yy7 (v0 : AV) (h : Heap) : OX :=
(y0z v0 h)
def y2gt (s : St) : OX := yy7 (s 0) s.h
theorem y1uv : T0 yy3 [.t 2] y2gt := sq y1t5 fun _ => by kernel_rfl
@[simp] theorem y2th : E.pure 40 = true := rfl
theorem y2q7 (v0 : AV) : (y7 E).p 40 [v0] = yy7 v0 [⟨0, .dead⟩, ⟨0, .dead⟩] :=
  (yu (cf := y29j) (by kernel_rfl) rfl).trans ((y1uv _).trans (by kernel_rfl))
def y15p (v0 : AV) (h : Heap) : OX :=
oh (yx 0 (some 0) 4 0 [(.int .i64 0), (.int .i64 0), (.int .i64 0), (.str [])] [] h) fun v5 h1 =>
oh (y3t 0 (some 1) 4 40 v5 v0 h1) fun v7 h2 =>
(yc h2 v7)
def y2cp (s : St) : OX := y15p (s 0) s.h
theorem y1w5 : T0 y183 [.t 2] y2cp := fun _ => by kernel_rfl
def y0c (v0 : AV) (h : Heap) : OX :=
ob (y86 1 false v0 AV.nils) fun v4 =>
cnd v4
 ((yc h AV.nils))
 ((y15p v0 h))
def y2j4 (s : St) : OX := y0c (s 0) s.h
theorem y1ma : T0 y11o [.t 2] y2j4 := sq y1w5 fun _ => by kernel_rfl
def y11n (v0 : AV) (h : Heap) : OX :=
(y0c v0 h)
def y2cv (s : St) : OX := y11n (s 0) s.h
theorem y1pp : T0 yy2 [.t 2] y2cv := sq y1ma fun _ => by kernel_rfl
@[simp] theorem y2tl : E.pure 41 = true := rfl
theorem y2jw (v0 : AV) : (y7 E).p 41 [v0] = y11n v0 [⟨0, .dead⟩, ⟨0, .dead⟩] :=
  (yu (cf := y29g) (by kernel_rfl) rfl).trans ((y1pp _).trans (by kernel_rfl))
def yi4 (h : Heap) : OX :=
(yc h (AV.bool true))
def y7f (s : St) : OX := yi4 s.h
theorem y1mt : T0 y12j [.t 4] y7f := fun _ => by kernel_rfl
def yg8 (v0 v1 v5 : AV) (h : Heap) : OX :=
  W E 0 yko ⟨[(0, v0), (1, v1), (5, v5)], h⟩ y7f (y1 0 y7f xN) (finP [.t 4])
def ybs (s : St) : OX := yg8 (s 0) (s 1) (s 5) s.h
theorem ym1 : T1 yko y7f (y1 0 y7f xN) [.t 4] ybs := fun s => yf.trans (by kernel_rfl)
def yic (v0 v1 v5 : AV) (h : Heap) : OX :=
ob (y2 .add v5 (AV.int .i64 1)) fun v16 =>
(yg8 v0 v1 v16 h)
def y2bf (s : St) : OX := yic (s 0) (s 1) (s 5) s.h
theorem y1g3 : T1 yyu ybs (y1 0 y7f xN) [.t 4] y2bf := fun _ => by kernel_rfl
def yi3 (v0 v1 v5 : AV) (h : Heap) : OX :=
ob (yp 1 v0 v5) fun v19 =>
ob (evLd false 1 v19 h) fun v20 =>
ob (yp 1 v1 v5) fun v23 =>
ob (evLd false 1 v23 h) fun v24 =>
ob (y2 .neq v20 v24) fun v25 =>
cnd v25
 ((yc h (AV.bool false)))
 ((yic v0 v1 v5 h))
def y2ha (s : St) : OX := yi3 (s 0) (s 1) (s 5) s.h
theorem y1n9 : T1 y15g ybs (y1 0 y7f xN) [.t 4] y2ha := sq y1g3 fun _ => by kernel_rfl
def yjr (v0 v1 v5 : AV) (h : Heap) : OX :=
ob (yv 1 v0 h) fun v13 =>
ob (y2 .lss v5 v13) fun v14 =>
cnd v14
 ((yi3 v0 v1 v5 h))
 ((yi4 h))
def y2d1 (s : St) : OX := yjr (s 0) (s 1) (s 5) s.h
theorem y1l6 : T1 yzb ybs (y1 0 y7f xN) [.t 4] y2d1 := sq y1n9 fun _ => by kernel_rfl
theorem ymy (v0 v1 v5 : AV) (h : Heap) : yg8 v0 v1 v5 h = (yjr v0 v1 v5 h) :=
  y22.trans ((y15 _ _ _ (n' := ybs) (fun s => ym1 s)).trans ((y1l6 _).trans (by kernel_rfl)))
theorem y1s7 : T1 y17w y7f xN [.t 4] ybs := fun s => yi.trans (ym1 s)
def yk6 (v0 v1 : AV) (h : Heap) : OX :=
(yg8 v0 v1 (AV.int .i64 0) h)
def y1jh (s : St) : OX := yk6 (s 0) (s 1) s.h
theorem y1y7 : T1 y16d y7f xN [.t 4] y1jh := sq y1s7 fun _ => by kernel_rfl
theorem y1wn : T0 y17f [.t 4] y1jh := sq y1mt y1y7
def yk1 (v0 v1 : AV) (h : Heap) : OX :=
ob (yv 1 v0 h) fun v7 =>
ob (yv 1 v1 h) fun v9 =>
ob (y2 .neq v7 v9) fun v10 =>
cnd v10
 ((yc h (AV.bool false)))
 ((yk6 v0 v1 h))
def y2fr (s : St) : OX := yk1 (s 0) (s 1) s.h
theorem y1hx : T0 y18b [.t 4] y2fr := sq y1wn fun _ => by kernel_rfl
def ydg (v0 v1 : AV) (h : Heap) : OX :=
(yk1 v0 v1 h)
def y240 (s : St) : OX := ydg (s 0) (s 1) s.h
theorem y1bc : T0 yv1 [.t 4] y240 := sq y1hx fun _ => by kernel_rfl
@[simp] theorem y2sy : E.pure 11 = true := rfl
theorem y2pm (v0 v1 : AV) : (y7 E).p 11 [v0, v1] = ydg v0 v1 [] :=
  (yu (cf := y293) (by kernel_rfl) rfl).trans ((y1bc _).trans (by kernel_rfl))
def ybb (v0 v1 : AV) (h : Heap) : OX :=
oh (newC 0 (some 0) (cellsOf v0) h) fun v2 h1 =>
oh (newC 0 (some 1) (cellsOf v1) h1) fun v3 h2 =>
ob (evFa 0 v2) fun v5 =>
ob (evLd false 1 v5 h2) fun v6 =>
ob (evFa 0 v3) fun v7 =>
ob (evLd false 1 v7 h2) fun v8 =>
ob (y2 .eql v6 v8) fun v9 =>
gb v9 true (evFa 1 v2) fun v11 =>
gb v9 true (evLd false 1 v11 h2) fun v12 =>
gb v9 true (evFa 1 v3) fun v13 =>
gb v9 true (evLd false 1 v13 h2) fun v14 =>
gb v9 true (y2 .eql v12 v14) fun v15 =>
ob (y9 v9 v15 (AV.bool false)) fun v16 =>
gb v16 true (evFa 2 v2) fun v18 =>
gb v16 true (evLd false 1 v18 h2) fun v19 =>
gb v16 true (evFa 2 v3) fun v20 =>
gb v16 true (evLd false 1 v20 h2) fun v21 =>
gb v16 true (y2 .eql v19 v21) fun v22 =>
ob (y9 v16 v22 (AV.bool false)) fun v23 =>
gb v23 true (evFa 3 v2) fun v25 =>
gb v23 true (evLd false 1 v25 h2) fun v26 =>
gb v23 true (evFa 3 v3) fun v27 =>
gb v23 true (evLd false 1 v27 h2) fun v28 =>
gb v23 true (y2 .eql v26 v28) fun v29 =>
ob (y9 v23 v29 (AV.bool false)) fun v30 =>
gb v30 true (evFa 4 v2) fun v32 =>
gb v30 true (evLd false 1 v32 h2) fun v33 =>
gb v30 true (evFa 4 v3) fun v34 =>
gb v30 true (evLd false 1 v34 h2) fun v35 =>
gb v30 true (y2 .eql v33 v35) fun v36 =>
ob (y9 v30 v36 (AV.bool false)) fun v37 =>
gb v37 true (evFa 5 v2) fun v39 =>
gb v37 true (evLd false 1 v39 h2) fun v40 =>
gb v37 true (evFa 5 v3) fun v41 =>
gb v37 true (evLd false 1 v41 h2) fun v42 =>
gb v37 true (y2 .eql v40 v42) fun v43 =>
ob (y9 v37 v43 (AV.bool false)) fun v44 =>
gb v44 true (evFa 6 v2) fun v46 =>
gb v44 true (evLd false 1 v46 h2) fun v47 =>
gb v44 true (evFa 6 v3) fun v48 =>
gb v44 true (evLd false 1 v48 h2) fun v49 =>
gb v44 true (y2 .eql v47 v49) fun v50 =>
ob (y9 v44 v50 (AV.bool false)) fun v51 =>
gb v51 true (evFa 7 v2) fun v53 =>
gb v51 true (evLd false 1 v53 h2) fun v54 =>
gb v51 true (evFa 7 v3) fun v55 =>
gb v51 true (evLd false 1 v55 h2) fun v56 =>
gb v51 true (y2 .eql v54 v56) fun v57 =>
ob (y9 v51 v57 (AV.bool false)) fun v58 =>
gb v58 true (evFa 8 v2) fun v60 =>
gb v58 true (evLd false 1 v60 h2) fun v61 =>
gb v58 true (evFa 8 v3) fun v62 =>
gb v58 true (evLd false 1 v62 h2) fun v63 =>
gh v58 true (y5 E (y7 E) 0 none true 11 [v61, v63] h2) h2 fun v64 h3 =>
ob (y9 v58 v64 (AV.bool false)) fun v65 =>
(yc h3 v65)
def y2g0 (s : St) : OX := ybb (s 0) (s 1) s.h
theorem y1yj : T0 y17k [.t 4] y2g0 := fun _ => by kernel_rfl
@[simp] theorem y2t6 : E.pure 28 = true := rfl
theorem y2k5 (v0 v1 : AV) : (y7 E).p 28 [v0, v1] = ybb v0 v1 [⟨0, .dead⟩, ⟨0, .dead⟩] :=
  (yu (cf := y292) (by kernel_rfl) rfl).trans ((y1yj _).trans (by kernel_rfl))
def y2e6 (v0 : AV) (h : Heap) : OX :=
oh (newC 0 (some 0) (cellsOf v0) h) fun v1 h1 =>
ob (evFa 0 v1) fun v3 =>
ob (evLd false 1 v3 h1) fun v4 =>
ob (y2 .eql v4 (AV.int .i64 27)) fun v5 =>
gb v5 false (evFa 0 v1) fun v7 =>
gb v5 false (evLd false 1 v7 h1) fun v8 =>
gb v5 false (y2 .eql v8 (AV.int .i64 30)) fun v9 =>
ob (y9 v5 (AV.bool true) v9) fun v10 =>
gb v10 false (evFa 0 v1) fun v12 =>
gb v10 false (evLd false 1 v12 h1) fun v13 =>
gb v10 false (y2 .eql v13 (AV.int .i64 31)) fun v14 =>
ob (y9 v10 (AV.bool true) v14) fun v15 =>
(yc h1 v15)
def y2ld (s : St) : OX := y2e6 (s 0) s.h
theorem y23w : T0 y1n1 [.t 2] y2ld := fun _ => by kernel_rfl
@[simp] theorem y2v0 : E.pure 24 = true := rfl
theorem y2uw (v0 : AV) : (y7 E).p 24 [v0] = y2e6 v0 [⟨0, .dead⟩] :=
  (yu (cf := y2kq) (by kernel_rfl) rfl).trans ((y23w _).trans (by kernel_rfl))
def y0l (v0 v1 : AV) (h : Heap) : OX :=
oh (y5 E (y7 E) 0 none true 45 [v0, v1] h) fun v7 h1 =>
ob (y2 .geq v7 (AV.int .i64 0)) fun v8 =>
(yc h1 v8)
def y2eh (s : St) : OX := y0l (s 0) (s 1) s.h
theorem y1nf : T0 y11q [.t 4] y2eh := fun _ => by kernel_rfl
@[simp] theorem y2ud : E.pure 46 = true := rfl
theorem y2mr (v0 v1 : AV) : (y7 E).p 46 [v0, v1] = y0l v0 v1 [] :=
  (yu (cf := y29m) (by kernel_rfl) rfl).trans ((y1nf _).trans (by kernel_rfl))
def y1vy (v2 v3 : AV) (h : Heap) : OX :=
ob (evLd true 9 v3 h) fun v183 =>
oh (y5 E (y7 E) 0 none true 22 [v183] h) fun v184 h1 =>
ob (evUn .not v184) fun v185 =>
gb v185 false (evFa 6 v3) fun v187 =>
gb v185 false (evLd false 1 v187 h1) fun v188 =>
gb v185 false (y2 .geq v188 (AV.int .i64 0)) fun v189 =>
gb v185 false (some v189) fun v190 =>
gb v190 true (evFa 6 v3) fun v191 =>
gb v190 true (evLd false 1 v191 h1) fun v192 =>
gb v190 true (evFa 3 v2) fun v193 =>
gb v190 true (evLd false 1 v193 h1) fun v194 =>
gb v190 true (yv 1 v194 h1) fun v195 =>
gb v190 true (y2 .lss v192 v195) fun v196 =>
gb v185 false (y9 v190 v196 (AV.bool false)) fun v197 =>
ob (y9 v185 (AV.bool true) v197) fun v198 =>
(yc h1 v198)
def y2o4 (s : St) : OX := y1vy (s 2) (s 3) s.h
theorem y20f : T0 y1ju [.t 4] y2o4 := fun _ => by kernel_rfl
def yac (v2 v3 : AV) (h : Heap) : OX :=
ob (evFa 0 v3) fun v105 =>
ob (evLd false 1 v105 h) fun v106 =>
ob (y2 .eql v106 (AV.int .i64 1)) fun v108 =>
cnd v108
 (ob (evFa 0 v2) fun v109 =>
ob (evLd false 1 v109 h) fun v110 =>
ob (evFa 1 v3) fun v111 =>
ob (evLd false 1 v111 h) fun v112 =>
ob (yp 1 v110 v112) fun v113 =>
ob (evLd false 1 v113 h) fun v114 =>
ob (y2 .neq v114 (AV.int .i64 3)) fun v115 =>
gb v115 true (evFa 0 v2) fun v117 =>
gb v115 true (evLd false 1 v117 h) fun v118 =>
gb v115 true (evFa 1 v3) fun v119 =>
gb v115 true (evLd false 1 v119 h) fun v120 =>
gb v115 true (yp 1 v118 v120) fun v121 =>
gb v115 true (evLd false 1 v121 h) fun v122 =>
gb v115 true (y2 .eql v122 (AV.int .i64 2)) fun v123 =>
gb v115 true (some v123) fun v124 =>
gb v124 false (evFa 5 v3) fun v125 =>
gb v124 false (evLd false 1 v125 h) fun v126 =>
gb v124 false (evFa 5 v3) fun v127 =>
gb v124 false (evLd false 1 v127 h) fun v128 =>
gb v124 false (y3x .i32 v128) fun v129 =>
gb v124 false (y3x .i64 v129) fun v130 =>
gb v124 false (y2 .eql v126 v130) fun v131 =>
gb v115 true (y9 v124 (AV.bool true) v131) fun v132 =>
ob (y9 v115 v132 (AV.bool false)) fun v133 =>
(yc h v133))
 (ob (y2 .eql v106 (AV.int .i64 4)) fun v135 =>
cnd v135
 (ob (evFa 0 v2) fun v136 =>
ob (evLd false 1 v136 h) fun v137 =>
ob (evFa 1 v3) fun v138 =>
ob (evLd false 1 v138 h) fun v139 =>
ob (yp 1 v137 v139) fun v140 =>
ob (evLd false 1 v140 h) fun v141 =>
ob (evFa 0 v2) fun v142 =>
ob (evLd false 1 v142 h) fun v143 =>
ob (evFa 2 v3) fun v144 =>
ob (evLd false 1 v144 h) fun v145 =>
ob (yp 1 v143 v145) fun v146 =>
ob (evLd false 1 v146 h) fun v147 =>
ob (y2 .eql v141 v147) fun v148 =>
(yc h v148))
 (ob (y2 .eql v106 (AV.int .i64 7)) fun v150 =>
cnd v150
 (ob (evFa 0 v2) fun v151 =>
ob (evLd false 1 v151 h) fun v152 =>
ob (evFa 2 v3) fun v153 =>
ob (evLd false 1 v153 h) fun v154 =>
ob (yp 1 v152 v154) fun v155 =>
ob (evLd false 1 v155 h) fun v156 =>
ob (y2 .neq v156 (AV.int .i64 3)) fun v157 =>
(yc h v157))
 (ob (y2 .eql v106 (AV.int .i64 30)) fun v159 =>
cnd v159
 (ob (evFa 2 v3) fun v160 =>
ob (evLd false 1 v160 h) fun v161 =>
ob (y2 .eql v161 (AV.int .i64 (-1))) fun v162 =>
ob (evFa 2 v2) fun v163 =>
ob (evLd false 1 v163 h) fun v164 =>
ob (y2 .eql v164 (AV.int .i64 0)) fun v165 =>
ob (y24n false v162 v165) fun v166 =>
gb v166 true (evFa 2 v3) fun v168 =>
gb v166 true (evLd false 1 v168 h) fun v169 =>
gb v166 true (y2 .eql v169 (AV.int .i64 (-1))) fun v170 =>
gb v166 true (some v170) fun v171 =>
gb v171 false (evFa 0 v2) fun v172 =>
gb v171 false (evLd false 1 v172 h) fun v173 =>
gb v171 false (evFa 2 v3) fun v174 =>
gb v171 false (evLd false 1 v174 h) fun v175 =>
gb v171 false (yp 1 v173 v175) fun v176 =>
gb v171 false (evLd false 1 v176 h) fun v177 =>
gb v171 false (evFa 2 v2) fun v178 =>
gb v171 false (evLd false 1 v178 h) fun v179 =>
gb v171 false (y2 .eql v177 v179) fun v180 =>
gb v166 true (y9 v171 (AV.bool true) v180) fun v181 =>
ob (y9 v166 v181 (AV.bool false)) fun v182 =>
(yc h v182))
 ((y1vy v2 v3 h)))))
def y6v (s : St) : OX := yac (s 2) (s 3) s.h
theorem y22o : T0 y1e3 [.t 4] y6v := sq y20f fun _ => by kernel_rfl
def yif (v2 v3 v63 v64 v65 : AV) (h : Heap) : OX :=
  W E 0 yoy ⟨[(2, v2), (3, v3), (63, v63), (64, v64), (65, v65)], h⟩ y6v (y1 2 y6v xN) (finP [.t 4])
def yd7 (s : St) : OX := yif (s 2) (s 3) (s 63) (s 64) (s 65) s.h
theorem yv4 : T1 yoy y6v (y1 2 y6v xN) [.t 4] yd7 := fun s => yf.trans (by kernel_rfl)
def y1ep (v2 v3 v63 v64 v65 : AV) (h : Heap) : OX :=
ob (y2 .add v65 (AV.int .i64 1)) fun v104 =>
(yif v2 v3 v63 v64 v104 h)
def yha (s : St) : OX := y1ep (s 2) (s 3) (s 63) (s 64) (s 65) s.h
theorem y1zw : T1 y1pa yd7 (y1 2 y6v xN) [.t 4] yha := fun _ => by kernel_rfl
def yjh (v2 v3 v9 v10 v63 v64 v65 : AV) (h : Heap) : OX :=
ob (y2 .lss v10 (AV.int .i64 0)) fun v74 =>
gb v74 false (some v10) fun v76 =>
gb v74 false (evFa 0 v2) fun v77 =>
gb v74 false (evLd false 1 v77 h) fun v78 =>
gb v74 false (yv 1 v78 h) fun v79 =>
gb v74 false (y2 .geq v76 v79) fun v80 =>
ob (y9 v74 (AV.bool true) v80) fun v81 =>
gb v81 false (some v9) fun v83 =>
gb v81 false (y2 .eql v83 (AV.int .i64 0)) fun v84 =>
gb v81 false (some v84) fun v85 =>
gb v85 true (evFa 0 v3) fun v86 =>
gb v85 true (evLd false 1 v86 h) fun v87 =>
gb v85 true (y2 .eql v87 (AV.int .i64 24)) fun v88 =>
gb v85 true (some v88) fun v89 =>
gb v89 false (evFa 0 v3) fun v90 =>
gb v89 false (evLd false 1 v90 h) fun v91 =>
gb v89 false (y2 .eql v91 (AV.int .i64 25)) fun v92 =>
gb v85 true (y9 v89 (AV.bool true) v92) fun v93 =>
gb v81 false (y9 v85 v93 (AV.bool false)) fun v94 =>
gb v81 false (some v94) fun v95 =>
gb v95 true (evFa 0 v2) fun v96 =>
gb v95 true (evLd false 1 v96 h) fun v97 =>
gb v95 true (some v10) fun v98 =>
gb v95 true (yp 1 v97 v98) fun v99 =>
gb v95 true (evLd false 1 v99 h) fun v100 =>
gb v95 true (y2 .neq v100 (AV.int .i64 3)) fun v101 =>
gb v81 false (y9 v95 v101 (AV.bool false)) fun v102 =>
ob (y9 v81 (AV.bool true) v102) fun v103 =>
cnd v103
 ((yc h (AV.bool false)))
 ((y1ep v2 v3 v63 v64 v65 h))
def y2jv (s : St) : OX := yjh (s 2) (s 3) (s 9) (s 10) (s 63) (s 64) (s 65) s.h
theorem y25a : T1 y1pn yha (y1 3 yha (y1 2 y6v xN)) [.t 4] y2jv := fun _ => by kernel_rfl
def y1uc (v2 v3 v9 v10 v63 v64 v65 : AV) (h : Heap) : OX :=
ob (evLd true 9 v3 h) fun v70 =>
oh (y5 E (y7 E) 0 none true 17 [v70] h) fun v71 h2 =>
ob (evUn .not v71) fun v72 =>
cnd v72
 ((yac v2 v3 h2))
 ((yjh v2 v3 v9 v10 v63 v64 v65 h2))
def y2qn (s : St) : OX := y1uc (s 2) (s 3) (s 9) (s 10) (s 63) (s 64) (s 65) s.h
theorem y20y : T1 y1yo yha (y1 3 yha (y1 2 y6v xN)) [.t 4] y2qn := sq y25a fun _ => by kernel_rfl
def y1l8 (v2 v3 v63 v64 v65 : AV) (h : Heap) : OX :=
ob (yp 1 v63 v65) fun v68 =>
ob (evLd false 1 v68 h) fun v69 =>
(y1uc v2 v3 v65 v69 v63 v64 v65 h)
def y1p7 (s : St) : OX := y1l8 (s 2) (s 3) (s 63) (s 64) (s 65) s.h
theorem y254 : T1 y1u4 yha (y1 3 yha (y1 2 y6v xN)) [.t 4] y1p7 := sq y20y fun _ => by kernel_rfl
theorem y22m : T1 y1qf yha (y1 2 y6v xN) [.t 4] y1p7 := fun s => yi.trans (y254 s)
theorem y21v : T1 y1wi yd7 (y1 2 y6v xN) [.t 4] y1p7 := sq y1zw y22m
def yjl (v2 v3 v63 v64 v65 v66 : AV) (h : Heap) : OX :=
cnd v66
 ((y1l8 v2 v3 v63 v64 v65 h))
 ((yac v2 v3 h))
def y2hr (s : St) : OX := yjl (s 2) (s 3) (s 63) (s 64) (s 65) (s 66) s.h
theorem y1qg : T1 y150 yd7 (y1 2 y6v xN) [.t 4] y2hr := sq y21v fun _ => by kernel_rfl
def yiy (v2 v3 v63 v64 v65 : AV) (h : Heap) : OX :=
ob (y2 .lss v65 v64) fun v66 =>
(yjl v2 v3 v63 v64 v65 v66 h)
def y2c7 (s : St) : OX := yiy (s 2) (s 3) (s 63) (s 64) (s 65) s.h
theorem y1v1 : T1 y11r yd7 (y1 2 y6v xN) [.t 4] y2c7 := sq y1qg fun _ => by kernel_rfl
theorem yk0 (v2 v3 v63 v64 v65 : AV) (h : Heap) : yif v2 v3 v63 v64 v65 h = (yiy v2 v3 v63 v64 v65 h) :=
  y22.trans ((y15 _ _ _ (n' := yd7) (fun s => yv4 s)).trans ((y1v1 _).trans (by kernel_rfl)))
theorem y1er : T1 y14t y6v xN [.t 4] yd7 := fun s => yi.trans (yv4 s)
def ytu (v2 v3 : AV) (h : Heap) : OX :=
ob (evFa 8 v3) fun v62 =>
ob (evLd false 1 v62 h) fun v63 =>
ob (yv 1 v63 h) fun v64 =>
(yif v2 v3 v63 v64 (AV.int .i64 0) h)
def y3u (s : St) : OX := ytu (s 2) (s 3) s.h
theorem y1i9 : T1 y16r y6v xN [.t 4] y3u := sq y1er fun _ => by kernel_rfl
theorem y1ub : T0 yyd [.t 4] y3u := sq y22o y1i9
def ycs (v2 v3 v5 v26 v27 : AV) (h : Heap) : OX :=
  W E 0 yk9 ⟨[(2, v2), (3, v3), (5, v5), (26, v26), (27, v27)], h⟩ y3u (y1 0 y3u xN) (finP [.t 4])
def y8s (s : St) : OX := ycs (s 2) (s 3) (s 5) (s 26) (s 27) s.h
theorem ym2 : T1 yk9 y3u (y1 0 y3u xN) [.t 4] y8s := fun s => yf.trans (by kernel_rfl)
def ysz (v2 v3 v5 v26 v27 : AV) (h : Heap) : OX :=
ob (y2 .add v27 (AV.int .i64 1)) fun v61 =>
(ycs v2 v3 v5 v26 v61 h)
def ybe (s : St) : OX := ysz (s 2) (s 3) (s 5) (s 26) (s 27) s.h
theorem y1nj : T1 yya y8s (y1 0 y3u xN) [.t 4] ybe := fun _ => by kernel_rfl
def ykr (v2 v3 v5 v7 v8 v26 v27 : AV) (h : Heap) : OX :=
ob (y2 .lss v8 (AV.int .i64 0)) fun v36 =>
gb v36 false (some v8) fun v38 =>
gb v36 false (evFa 0 v2) fun v39 =>
gb v36 false (evLd false 1 v39 h) fun v40 =>
gb v36 false (yv 1 v40 h) fun v41 =>
gb v36 false (y2 .geq v38 v41) fun v42 =>
ob (y9 v36 (AV.bool true) v42) fun v43 =>
gb v43 false (some v7) fun v45 =>
gb v43 false (ypn 4 1 v5 v45) fun v46 =>
gb v43 false (evLd false 1 v46 h) fun v47 =>
gb v43 false (y2 .gtr v47 (AV.int .i64 0)) fun v48 =>
gb v43 false (some v48) fun v49 =>
gb v49 true (evFa 0 v2) fun v50 =>
gb v49 true (evLd false 1 v50 h) fun v51 =>
gb v49 true (some v8) fun v52 =>
gb v49 true (yp 1 v51 v52) fun v53 =>
gb v49 true (evLd false 1 v53 h) fun v54 =>
gb v49 true (some v7) fun v55 =>
gb v49 true (ypn 4 1 v5 v55) fun v56 =>
gb v49 true (evLd false 1 v56 h) fun v57 =>
gb v49 true (y2 .neq v54 v57) fun v58 =>
gb v43 false (y9 v49 v58 (AV.bool false)) fun v59 =>
ob (y9 v43 (AV.bool true) v59) fun v60 =>
cnd v60
 ((yc h (AV.bool false)))
 ((ysz v2 v3 v5 v26 v27 h))
def y2ga (s : St) : OX := ykr (s 2) (s 3) (s 5) (s 7) (s 8) (s 26) (s 27) s.h
theorem y1q2 : T1 y127 ybe (y1 1 ybe (y1 0 y3u xN)) [.t 4] y2ga := fun _ => by kernel_rfl
def ydz (v2 v3 v5 v7 v8 v26 v27 : AV) (h : Heap) : OX :=
ob (ypn 4 1 v5 v7) fun v32 =>
ob (evLd false 1 v32 h) fun v33 =>
ob (y2 .lss v33 (AV.int .i64 0)) fun v34 =>
cnd v34
 ((ysz v2 v3 v5 v26 v27 h))
 ((ykr v2 v3 v5 v7 v8 v26 v27 h))
def y2fz (s : St) : OX := ydz (s 2) (s 3) (s 5) (s 7) (s 8) (s 26) (s 27) s.h
theorem y1qn : T1 y187 ybe (y1 1 ybe (y1 0 y3u xN)) [.t 4] y2fz := sq y1q2 fun _ => by kernel_rfl
def y1jz (v2 v3 v5 v26 v27 : AV) (h : Heap) : OX :=
ob (ypa false 4 1 v26 v27) fun v30 =>
(ydz v2 v3 v5 v27 v30 v26 v27 h)
def yw6 (s : St) : OX := y1jz (s 2) (s 3) (s 5) (s 26) (s 27) s.h
theorem y1eu : T1 y14c ybe (y1 1 ybe (y1 0 y3u xN)) [.t 4] yw6 := sq y1qn fun _ => by kernel_rfl
theorem y1th : T1 yzo ybe (y1 0 y3u xN) [.t 4] yw6 := fun s => yi.trans (y1eu s)
theorem y1ow : T1 y11i y8s (y1 0 y3u xN) [.t 4] yw6 := sq y1nj y1th
def y18k (v2 v3 v5 v26 v27 v28 : AV) (h : Heap) : OX :=
cnd v28
 ((y1jz v2 v3 v5 v26 v27 h))
 ((ytu v2 v3 h))
def y2e0 (s : St) : OX := y18k (s 2) (s 3) (s 5) (s 26) (s 27) (s 28) s.h
theorem y1gw : T1 y17n y8s (y1 0 y3u xN) [.t 4] y2e0 := sq y1ow fun _ => by kernel_rfl
def yyv (v2 v3 v5 v26 v27 : AV) (h : Heap) : OX :=
ob (y2 .lss v27 (AV.int .i64 4)) fun v28 =>
(y18k v2 v3 v5 v26 v27 v28 h)
def y2f3 (s : St) : OX := yyv (s 2) (s 3) (s 5) (s 26) (s 27) s.h
theorem y1kr : T1 y15m y8s (y1 0 y3u xN) [.t 4] y2f3 := sq y1gw fun _ => by kernel_rfl
theorem yml (v2 v3 v5 v26 v27 : AV) (h : Heap) : ycs v2 v3 v5 v26 v27 h = (yyv v2 v3 v5 v26 v27 h) :=
  y22.trans ((y15 _ _ _ (n' := y8s) (fun s => ym2 s)).trans ((y1kr _).trans (by kernel_rfl)))
theorem y1lw : T1 y12s y3u xN [.t 4] y8s := fun s => yi.trans (ym2 s)
def y1jq (v2 v3 v5 : AV) (h : Heap) : OX :=
ob (evFa 1 v3) fun v18 =>
ob (evLd false 1 v18 h) fun v19 =>
ob (evFa 2 v3) fun v20 =>
ob (evLd false 1 v20 h) fun v21 =>
ob (evFa 3 v3) fun v22 =>
ob (evLd false 1 v22 h) fun v23 =>
ob (evFa 4 v3) fun v24 =>
ob (evLd false 1 v24 h) fun v25 =>
ob (y11 [(.int .i64 0), (.int .i64 0), (.int .i64 0), (.int .i64 0)] [(0, 1, v19), (1, 1, v21), (2, 1, v23), (3, 1, v25)]) fun v26 =>
(ycs v2 v3 v5 v26 (AV.int .i64 0) h)
def y1ky (s : St) : OX := y1jq (s 2) (s 3) (s 5) s.h
theorem y1ng : T1 y13r y3u xN [.t 4] y1ky := sq y1lw fun _ => by kernel_rfl
theorem y1uu : T0 y144 [.t 4] y1ky := sq y1ub y1ng
def y13o (v2 v3 v5 v6 : AV) (h : Heap) : OX :=
ob (evUn .not v6) fun v17 =>
cnd v17
 ((yc h (AV.bool false)))
 ((y1jq v2 v3 v5 h))
def y2c2 (s : St) : OX := y13o (s 2) (s 3) (s 5) (s 6) s.h
theorem y1rk : T0 yxx [.t 4] y2c2 := sq y1uu fun _ => by kernel_rfl
def y194 (v2 v3 : AV) (h : Heap) : OX :=
ob (evLd true 9 v3 h) fun v12 =>
oh (y5 E (y7 E) 0 none true 47 [v12] h) fun v13 h3 =>
ob (y6w 0 v13) fun v14 =>
ob (y6w 1 v13) fun v15 =>
oh (newC 0 (some 2) [(.int .i64 0), (.int .i64 0), (.int .i64 0), (.int .i64 0)] h3) fun v5 h4 =>
oh (evSt 4 v5 v14 h4) fun _ h5 =>
(y13o v2 v3 v5 v15 h5)
def y2ft (s : St) : OX := y194 (s 2) (s 3) s.h
theorem y1tq : T0 y09 [.t 4] y2ft := sq y1rk fun _ => by kernel_rfl
def ytp (v0 v1 : AV) (h : Heap) : OX :=
oh (newC 0 (some 0) (cellsOf v0) h) fun v2 h6 =>
oh (newC 0 (some 1) (cellsOf v1) h6) fun v3 h7 =>
(y194 v2 v3 h7)
def y2gm (s : St) : OX := ytp (s 0) (s 1) s.h
theorem y1j9 : T0 y19d [.t 4] y2gm := sq y1tq fun _ => by kernel_rfl
@[simp] theorem y2uh : E.pure 63 = true := rfl
theorem y2tm (v0 v1 : AV) : (y7 E).p 63 [v0, v1] = ytp v0 v1 [⟨0, .dead⟩, ⟨0, .dead⟩, ⟨0, .dead⟩] :=
  (yu (cf := y2k4) (by kernel_rfl) rfl).trans ((y1j9 _).trans (by kernel_rfl))
def y2h0 (v0 : AV) (h : Heap) : OX :=
oh (newC 0 (some 0) (cellsOf v0) h) fun v1 h1 =>
ob (evFa 0 v1) fun v3 =>
ob (evLd false 1 v3 h1) fun v4 =>
ob (y2 .eql v4 (AV.int .i64 27)) fun v5 =>
gb v5 false (evFa 0 v1) fun v7 =>
gb v5 false (evLd false 1 v7 h1) fun v8 =>
gb v5 false (y2 .eql v8 (AV.int .i64 28)) fun v9 =>
ob (y9 v5 (AV.bool true) v9) fun v10 =>
gb v10 false (evFa 0 v1) fun v12 =>
gb v10 false (evLd false 1 v12 h1) fun v13 =>
gb v10 false (y2 .eql v13 (AV.int .i64 29)) fun v14 =>
ob (y9 v10 (AV.bool true) v14) fun v15 =>
(yc h1 v15)
def y2jq (s : St) : OX := y2h0 (s 0) s.h
theorem y1zt : T0 y1x0 [.t 2] y2jq := fun _ => by kernel_rfl
@[simp] theorem y2ru : E.pure 22 = true := rfl
theorem y2s4 (v0 : AV) : (y7 E).p 22 [v0] = y2h0 v0 [⟨0, .dead⟩] :=
  (yu (cf := y2qb) (by kernel_rfl) rfl).trans ((y1zt _).trans (by kernel_rfl))
def y1w3 (v5 : AV) (h : Heap) : OX :=
(yc h v5)
def y5w (s : St) : OX := y1w3 (s 5) s.h
theorem y26k : T0 y1s9 [.t 4] y5w := fun _ => by kernel_rfl
def yqq (v1 v5 v27 v28 v29 : AV) (h : Heap) : OX :=
  W E 0 yox ⟨[(1, v1), (5, v5), (27, v27), (28, v28), (29, v29)], h⟩ y5w (y1 0 y5w xN) (finP [.t 4])
def ydi (s : St) : OX := yqq (s 1) (s 5) (s 27) (s 28) (s 29) s.h
theorem yr7 : T1 yox y5w (y1 0 y5w xN) [.t 4] ydi := fun s => yf.trans (by kernel_rfl)
def y1bx (v1 v5 v27 v28 v29 : AV) (h : Heap) : OX :=
ob (y2 .add v29 (AV.int .i64 1)) fun v56 =>
(yqq v1 v5 v27 v28 v56 h)
def ycm (s : St) : OX := y1bx (s 1) (s 5) (s 27) (s 28) (s 29) s.h
theorem y26a : T1 y1xz ydi (y1 0 y5w xN) [.t 4] ycm := fun _ => by kernel_rfl
def y1a4 (v1 v5 v7 v27 v28 v29 : AV) (h : Heap) : OX :=
ob (evFa 3 v7) fun v53 =>
ob (evLd false 1 v53 h) fun v54 =>
ob (y2 .eql v54 (AV.str [])) fun v55 =>
cnd v55
 ((y1w3 v5 h))
 ((y1bx v1 v5 v27 v28 v29 h))
def y2lh (s : St) : OX := y1a4 (s 1) (s 5) (s 7) (s 27) (s 28) (s 29) s.h
theorem y1zf : T1 y1xd ycm (y1 1 ycm (y1 0 y5w xN)) [.t 4] y2lh := fun _ => by kernel_rfl
def y24v (v1 v5 v7 v27 v28 v29 : AV) (h : Heap) : OX :=
ob (evFa 2 v7) fun v44 =>
ob (evLd false 1 v44 h) fun v45 =>
oh (y5 E (y7 E) 0 none true 46 [v5, v45] h) fun v46 h1 =>
ob (evUn .not v46) fun v47 =>
cnd v47
 (ob (evFa 2 v7) fun v49 =>
ob (evLd false 1 v49 h1) fun v50 =>
oh (yx 0 (some 2) 1 1 [(.int .i64 0)] [(0, v50)] h1) fun v51 h2 =>
oh (y3t 0 (some 3) 1 8 v5 v51 h2) fun v52 h3 =>
(y1a4 v1 v52 v7 v27 v28 v29 h3))
 ((y1a4 v1 v5 v7 v27 v28 v29 h1))
def y2lv (s : St) : OX := y24v (s 1) (s 5) (s 7) (s 27) (s 28) (s 29) s.h
theorem y231 : T1 y1i3 ycm (y1 1 ycm (y1 0 y5w xN)) [.t 4] y2lv := sq y1zf fun _ => by kernel_rfl
def yx4 (v1 v5 v7 v27 v28 v29 : AV) (h : Heap) : OX :=
ob (evFa 0 v7) fun v34 =>
ob (evLd false 1 v34 h) fun v35 =>
ob (y2 .lss v1 v35) fun v36 =>
gb v36 false (some v1) fun v38 =>
gb v36 false (evFa 1 v7) fun v39 =>
gb v36 false (evLd false 1 v39 h) fun v40 =>
gb v36 false (y2 .geq v38 v40) fun v41 =>
ob (y9 v36 (AV.bool true) v41) fun v42 =>
cnd v42
 ((y1bx v1 v5 v27 v28 v29 h))
 ((y24v v1 v5 v7 v27 v28 v29 h))
def y2m1 (s : St) : OX := yx4 (s 1) (s 5) (s 7) (s 27) (s 28) (s 29) s.h
theorem y221 : T1 y1yr ycm (y1 1 ycm (y1 0 y5w xN)) [.t 4] y2m1 := sq y231 fun _ => by kernel_rfl
def y2f0 (v1 v5 v27 v28 v29 : AV) (h : Heap) : OX :=
ob (yp 4 v27 v29) fun v31 =>
ob (evLd true 4 v31 h) fun v32 =>
oh (newC 0 (some 1) [(.int .i64 0), (.int .i64 0), (.int .i64 0), (.str [])] h) fun v7 h4 =>
oh (evSt 4 v7 v32 h4) fun _ h5 =>
(yx4 v1 v5 v7 v27 v28 v29 h5)
def y1od (s : St) : OX := y2f0 (s 1) (s 5) (s 27) (s 28) (s 29) s.h
theorem y1zz : T1 y1qe ycm (y1 1 ycm (y1 0 y5w xN)) [.t 4] y1od := sq y221 fun _ => by kernel_rfl
theorem y24p : T1 y1fr ycm (y1 0 y5w xN) [.t 4] y1od := fun s => yi.trans (y1zz s)
theorem y21z : T1 y1tg ydi (y1 0 y5w xN) [.t 4] y1od := sq y26a y24p
def yzf (v1 v5 v27 v28 v29 v30 : AV) (h : Heap) : OX :=
cnd v30
 ((y2f0 v1 v5 v27 v28 v29 h))
 ((y1w3 v5 h))
def y2ef (s : St) : OX := yzf (s 1) (s 5) (s 27) (s 28) (s 29) (s 30) s.h
theorem y1v9 : T1 y18a ydi (y1 0 y5w xN) [.t 4] y2ef := sq y21z fun _ => by kernel_rfl
def yrc (v1 v5 v27 v28 v29 : AV) (h : Heap) : OX :=
ob (y2 .lss v29 v28) fun v30 =>
(yzf v1 v5 v27 v28 v29 v30 h)
def y2hg (s : St) : OX := yrc (s 1) (s 5) (s 27) (s 28) (s 29) s.h
theorem y1le : T1 y15e ydi (y1 0 y5w xN) [.t 4] y2hg := sq y1v9 fun _ => by kernel_rfl
theorem ytr (v1 v5 v27 v28 v29 : AV) (h : Heap) : yqq v1 v5 v27 v28 v29 h = (yrc v1 v5 v27 v28 v29 h) :=
  y22.trans ((y15 _ _ _ (n' := ydi) (fun s => yr7 s)).trans ((y1le _).trans (by kernel_rfl)))
theorem y1z7 : T1 y17i y5w xN [.t 4] ydi := fun s => yi.trans (yr7 s)
def y1m6 (v1 v2 v5 : AV) (h : Heap) : OX :=
ob (evFa 4 v2) fun v26 =>
ob (evLd false 1 v26 h) fun v27 =>
ob (yv 1 v27 h) fun v28 =>
(yqq v1 v5 v27 v28 (AV.int .i64 0) h)
def y1q8 (s : St) : OX := y1m6 (s 1) (s 2) (s 5) s.h
theorem y1rd : T1 y130 y5w xN [.t 4] y1q8 := sq y1z7 fun _ => by kernel_rfl
theorem y1sd : T0 y17m [.t 4] y1q8 := sq y26k y1rd
def y1ds (v1 v2 : AV) (h : Heap) : OX :=
(y1m6 v1 v2 AV.nils h)
def y2ib (s : St) : OX := y1ds (s 1) (s 2) s.h
theorem y1lr : T0 y13x [.t 4] y2ib := sq y1sd fun _ => by kernel_rfl
def ynl (v1 v2 : AV) (h : Heap) : OX :=
ob (y2 .lss v1 (AV.int .i64 0)) fun v9 =>
gb v9 false (some v1) fun v11 =>
gb v9 false (evFa 3 v2) fun v12 =>
gb v9 false (evLd false 1 v12 h) fun v13 =>
gb v9 false (yv 1 v13 h) fun v14 =>
gb v9 false (y2 .geq v11 v14) fun v15 =>
ob (y9 v9 (AV.bool true) v15) fun v16 =>
gb v16 false (evFa 3 v2) fun v18 =>
gb v16 false (evLd false 1 v18 h) fun v19 =>
gb v16 false (some v1) fun v20 =>
gb v16 false (yp 9 v19 v20) fun v21 =>
gb v16 false (evLd true 9 v21 h) fun v22 =>
gh v16 false (y5 E (y7 E) 0 none true 18 [v22] h) h fun v23 h6 =>
gb v16 false (evUn .not v23) fun v24 =>
ob (y9 v16 (AV.bool true) v24) fun v25 =>
cnd v25
 ((yc h6 AV.nils))
 ((y1ds v1 v2 h6))
def y2f9 (s : St) : OX := ynl (s 1) (s 2) s.h
theorem y1j0 : T0 y05 [.t 4] y2f9 := sq y1lr fun _ => by kernel_rfl
def yny (v0 v1 : AV) (h : Heap) : OX :=
oh (newC 0 (some 0) (cellsOf v0) h) fun v2 h7 =>
(ynl v1 v2 h7)
def y2b7 (s : St) : OX := yny (s 0) (s 1) s.h
theorem y1gs : T0 y122 [.t 4] y2b7 := sq y1j0 fun _ => by kernel_rfl
@[simp] theorem y2ri : E.pure 79 = true := rfl
theorem y2rt (v0 v1 : AV) : (y7 E).p 79 [v0, v1] = yny v0 v1 [⟨0, .dead⟩, ⟨0, .dead⟩, ⟨0, .dead⟩, ⟨0, .dead⟩] :=
  (yu (cf := y2pg) (by kernel_rfl) rfl).trans ((y1gs _).trans (by kernel_rfl))
def ylf (v6 : AV) (h : Heap) : OX :=
(yc h v6)
def y2k9 (s : St) : OX := ylf (s 6) s.h
theorem y23u : T0 y1vi [.t 4] y2k9 := fun _ => by kernel_rfl
def ylm (v5 v6 : AV) (h : Heap) : OX :=
ob (evLd true 9 v5 h) fun v29 =>
oh (y5 E (y7 E) 0 none true 22 [v29] h) fun v30 h1 =>
gb v30 true (some v6) fun v32 =>
gb v30 true (evFa 6 v5) fun v33 =>
gb v30 true (evLd false 1 v33 h1) fun v34 =>
gh v30 true (y5 E (y7 E) 0 none true 46 [v32, v34] h1) h1 fun v35 h2 =>
gb v30 true (evUn .not v35) fun v36 =>
ob (y9 v30 v36 (AV.bool false)) fun v37 =>
cnd v37
 (ob (evFa 6 v5) fun v39 =>
ob (evLd false 1 v39 h2) fun v40 =>
oh (yx 0 (some 4) 1 1 [(.int .i64 0)] [(0, v40)] h2) fun v41 h3 =>
oh (y3t 0 (some 5) 1 8 v6 v41 h3) fun v42 h4 =>
(ylf v42 h4))
 ((ylf v6 h2))
def y2ng (s : St) : OX := ylm (s 5) (s 6) s.h
theorem y26f : T0 y1ye [.t 4] y2ng := sq y23u fun _ => by kernel_rfl
def yld (v1 v5 v6 : AV) (h : Heap) : OX :=
ob (evLd true 9 v5 h) fun v21 =>
oh (y5 E (y7 E) 0 none true 24 [v21] h) fun v22 h5 =>
ob (evUn .not v22) fun v23 =>
cnd v23
 (ob (y2 .add v1 (AV.int .i64 1)) fun v26 =>
oh (yx 0 (some 2) 1 1 [(.int .i64 0)] [(0, v26)] h5) fun v27 h6 =>
oh (y3t 0 (some 3) 1 8 v6 v27 h6) fun v28 h7 =>
(ylm v5 v28 h7))
 ((ylm v5 v6 h5))
def y2l7 (s : St) : OX := yld (s 1) (s 5) (s 6) s.h
theorem y27q : T0 y1l5 [.t 4] y2l7 := sq y26f fun _ => by kernel_rfl
def y1f2 (v1 v5 : AV) (h : Heap) : OX :=
(yld v1 v5 AV.nils h)
def y2p0 (s : St) : OX := y1f2 (s 1) (s 5) s.h
theorem y25z : T0 y1dt [.t 4] y2p0 := sq y27q fun _ => by kernel_rfl
def y1gg (v1 v2 : AV) (h : Heap) : OX :=
ob (evFa 3 v2) fun v16 =>
ob (evLd false 1 v16 h) fun v17 =>
ob (yp 9 v17 v1) fun v19 =>
ob (evLd true 9 v19 h) fun v20 =>
oh (newC 0 (some 1) [(.int .i64 0), (.int .i64 0), (.int .i64 0), (.int .i64 0), (.int .i64 0), (.int .i64 0), (.int .i64 0), (.str []), .nils] h) fun v5 h8 =>
oh (evSt 9 v5 v20 h8) fun _ h9 =>
(y1f2 v1 v5 h9)
def y2k3 (s : St) : OX := y1gg (s 1) (s 2) s.h
theorem y23p : T0 y1xj [.t 4] y2k3 := sq y25z fun _ => by kernel_rfl
def y1gh (v1 v2 : AV) (h : Heap) : OX :=
ob (y2 .lss v1 (AV.int .i64 0)) fun v8 =>
gb v8 false (some v1) fun v10 =>
gb v8 false (evFa 3 v2) fun v11 =>
gb v8 false (evLd false 1 v11 h) fun v12 =>
gb v8 false (yv 1 v12 h) fun v13 =>
gb v8 false (y2 .geq v10 v13) fun v14 =>
ob (y9 v8 (AV.bool true) v14) fun v15 =>
cnd v15
 ((yc h AV.nils))
 ((y1gg v1 v2 h))
def y2m9 (s : St) : OX := y1gh (s 1) (s 2) s.h
theorem y27j : T0 y1v7 [.t 4] y2m9 := sq y23p fun _ => by kernel_rfl
def y19x (v0 v1 : AV) (h : Heap) : OX :=
oh (newC 0 (some 0) (cellsOf v0) h) fun v2 h10 =>
(y1gh v1 v2 h10)
def y2nr (s : St) : OX := y19x (s 0) (s 1) s.h
theorem y205 : T0 y1k1 [.t 4] y2nr := sq y27j fun _ => by kernel_rfl
@[simp] theorem y2ui : E.pure 81 = true := rfl
theorem y2ti (v0 v1 : AV) : (y7 E).p 81 [v0, v1] = y19x v0 v1 [⟨0, .dead⟩, ⟨0, .dead⟩, ⟨0, .dead⟩, ⟨0, .dead⟩, ⟨0, .dead⟩, ⟨0, .dead⟩] :=
  (yu (cf := y2qg) (by kernel_rfl) rfl).trans ((y205 _).trans (by kernel_rfl))
def y2i2 (v10 : AV) (h : Heap) : OX :=
(yc h v10)
def yb4 (s : St) : OX := y2i2 (s 10) s.h
theorem y26z : T0 y1oo [.t 2] yb4 := fun _ => by kernel_rfl
def yri (v3 v10 v96 v97 : AV) (h : Heap) : OX :=
  W E 0 yp2 ⟨[(3, v3), (10, v10), (96, v96), (97, v97)], h⟩ yb4 (y1 6 yb4 xN) (finP [.t 2])
def ydc (s : St) : OX := yri (s 3) (s 10) (s 96) (s 97) s.h
theorem yqz : T1 yp2 yb4 (y1 6 yb4 xN) [.t 2] ydc := fun s => yf.trans (by kernel_rfl)
def y1i5 (v3 v10 v96 v97 : AV) (h : Heap) : OX :=
ob (y2 .add v97 (AV.int .i64 1)) fun v108 =>
(yri v3 v10 v96 v108 h)
def y2n5 (s : St) : OX := y1i5 (s 3) (s 10) (s 96) (s 97) s.h
theorem y25g : T1 y1no ydc (y1 6 yb4 xN) [.t 2] y2n5 := fun _ => by kernel_rfl
def y1zn (v3 v10 v96 v97 : AV) (h : Heap) : OX :=
ob (yp 1 v3 v97) fun v102 =>
ob (evLd false 1 v102 h) fun v103 =>
cnd v103
 (oh (yx 0 (some 5) 1 1 [(.int .i64 0)] [(0, v97)] h) fun v106 h1 =>
oh (y3t 0 (some 6) 1 8 v10 v106 h1) fun v107 h2 =>
(y1i5 v3 v107 v96 v97 h2))
 ((y1i5 v3 v10 v96 v97 h))
def y2ka (s : St) : OX := y1zn (s 3) (s 10) (s 96) (s 97) s.h
theorem y283 : T1 y1ey ydc (y1 6 yb4 xN) [.t 2] y2ka := sq y25g fun _ => by kernel_rfl
def y1x1 (v3 v10 v96 v97 v98 : AV) (h : Heap) : OX :=
cnd v98
 ((y1zn v3 v10 v96 v97 h))
 ((y2i2 v10 h))
def y2ps (s : St) : OX := y1x1 (s 3) (s 10) (s 96) (s 97) (s 98) s.h
theorem y20h : T1 y1p0 ydc (y1 6 yb4 xN) [.t 2] y2ps := sq y283 fun _ => by kernel_rfl
def y1s1 (v3 v10 v96 v97 : AV) (h : Heap) : OX :=
ob (y2 .lss v97 v96) fun v98 =>
(y1x1 v3 v10 v96 v97 v98 h)
def y2qc (s : St) : OX := y1s1 (s 3) (s 10) (s 96) (s 97) s.h
theorem y201 : T1 y1v6 ydc (y1 6 yb4 xN) [.t 2] y2qc := sq y20h fun _ => by kernel_rfl
theorem yv2 (v3 v10 v96 v97 : AV) (h : Heap) : yri v3 v10 v96 v97 h = (y1s1 v3 v10 v96 v97 h) :=
  y22.trans ((y15 _ _ _ (n' := ydc) (fun s => yqz s)).trans ((y201 _).trans (by kernel_rfl)))
theorem y22g : T1 y1ij yb4 xN [.t 2] ydc := fun s => yi.trans (yqz s)
def y2ih (v1 v3 v10 : AV) (h : Heap) : OX :=
ob (evFa 3 v1) fun v94 =>
ob (evLd false 1 v94 h) fun v95 =>
ob (yv 1 v95 h) fun v96 =>
(yri v3 v10 v96 (AV.int .i64 0) h)
def y29u (s : St) : OX := y2ih (s 1) (s 3) (s 10) s.h
theorem y282 : T1 y1li yb4 xN [.t 2] y29u := sq y22g fun _ => by kernel_rfl
theorem y24t : T0 y1sb [.t 2] y29u := sq y26z y282
def yn4 (v1 v3 : AV) (h : Heap) : OX :=
(y2ih v1 v3 AV.nils h)
def y30 (s : St) : OX := yn4 (s 1) (s 3) s.h
theorem y1xu : T0 y11v [.t 2] y30 := sq y24t fun _ => by kernel_rfl
def yjk (v1 v3 v62 v63 v64 : AV) (h : Heap) : OX :=
  W E 0 ykg ⟨[(1, v1), (3, v3), (62, v62), (63, v63), (64, v64)], h⟩ y30 (y1 2 y30 xN) (finP [.t 2])
def y8c (s : St) : OX := yjk (s 1) (s 3) (s 62) (s 63) (s 64) s.h
theorem ymb : T1 ykg y30 (y1 2 y30 xN) [.t 2] y8c := fun s => yf.trans (by kernel_rfl)
def y13p (v1 v3 v62 v63 v64 : AV) (h : Heap) : OX :=
ob (y2 .add v64 (AV.int .i64 1)) fun v93 =>
(yjk v1 v3 v62 v63 v93 h)
def y2t (s : St) : OX := y13p (s 1) (s 3) (s 62) (s 63) (s 64) s.h
theorem y1ym : T1 y14u y8c (y1 2 y30 xN) [.t 2] y2t := fun _ => by kernel_rfl
def yfh (v1 v3 v62 v63 v64 v74 v75 v76 : AV) (h : Heap) : OX :=
  W E 0 yiw ⟨[(1, v1), (3, v3), (62, v62), (63, v63), (64, v64), (74, v74), (75, v75), (76, v76)], h⟩ y2t (y1 4 y2t (y1 3 y2t (y1 2 y30 xN))) (finP [.t 2])
def y8g (s : St) : OX := yfh (s 1) (s 3) (s 62) (s 63) (s 64) (s 74) (s 75) (s 76) s.h
theorem ymk : T1 yiw y2t (y1 4 y2t (y1 3 y2t (y1 2 y30 xN))) [.t 2] y8g := fun s => yf.trans (by kernel_rfl)
def yof (v1 v3 v62 v63 v64 v74 v75 v76 : AV) (h : Heap) : OX :=
ob (y2 .add v76 (AV.int .i64 1)) fun v92 =>
(yfh v1 v3 v62 v63 v64 v74 v75 v92 h)
def y2gg (s : St) : OX := yof (s 1) (s 3) (s 62) (s 63) (s 64) (s 74) (s 75) (s 76) s.h
theorem y1wq : T1 yz8 y8g (y1 4 y2t (y1 3 y2t (y1 2 y30 xN))) [.t 2] y2gg := fun _ => by kernel_rfl
def yst (v1 v3 v62 v63 v64 v74 v75 v76 : AV) (h : Heap) : OX :=
ob (yp 1 v74 v76) fun v78 =>
ob (evLd false 1 v78 h) fun v79 =>
ob (y2 .geq v79 (AV.int .i64 0)) fun v81 =>
gb v81 true (some v79) fun v83 =>
gb v81 true (evFa 3 v1) fun v84 =>
gb v81 true (evLd false 1 v84 h) fun v85 =>
gb v81 true (yv 1 v85 h) fun v86 =>
gb v81 true (y2 .lss v83 v86) fun v87 =>
ob (y9 v81 v87 (AV.bool false)) fun v88 =>
cnd v88
 (ob (yp 1 v3 v79) fun v91 =>
oh (evSt 1 v91 (AV.bool true) h) fun _ h3 =>
(yof v1 v3 v62 v63 v64 v74 v75 v76 h3))
 ((yof v1 v3 v62 v63 v64 v74 v75 v76 h))
def y2fg (s : St) : OX := yst (s 1) (s 3) (s 62) (s 63) (s 64) (s 74) (s 75) (s 76) s.h
theorem y1p9 : T1 y01 y8g (y1 4 y2t (y1 3 y2t (y1 2 y30 xN))) [.t 2] y2fg := sq y1wq fun _ => by kernel_rfl
def ynd (v1 v3 v62 v63 v64 v74 v75 v76 v77 : AV) (h : Heap) : OX :=
cnd v77
 ((yst v1 v3 v62 v63 v64 v74 v75 v76 h))
 ((y13p v1 v3 v62 v63 v64 h))
def y2fn (s : St) : OX := ynd (s 1) (s 3) (s 62) (s 63) (s 64) (s 74) (s 75) (s 76) (s 77) s.h
theorem y1nk : T1 y11b y8g (y1 4 y2t (y1 3 y2t (y1 2 y30 xN))) [.t 2] y2fn := sq y1p9 fun _ => by kernel_rfl
def yob (v1 v3 v62 v63 v64 v74 v75 v76 : AV) (h : Heap) : OX :=
ob (y2 .lss v76 v75) fun v77 =>
(ynd v1 v3 v62 v63 v64 v74 v75 v76 v77 h)
def y2io (s : St) : OX := yob (s 1) (s 3) (s 62) (s 63) (s 64) (s 74) (s 75) (s 76) s.h
theorem y1rb : T1 y12x y8g (y1 4 y2t (y1 3 y2t (y1 2 y30 xN))) [.t 2] y2io := sq y1nk fun _ => by kernel_rfl
theorem ync (v1 v3 v62 v63 v64 v74 v75 v76 : AV) (h : Heap) : yfh v1 v3 v62 v63 v64 v74 v75 v76 h = (yob v1 v3 v62 v63 v64 v74 v75 v76 h) :=
  y22.trans ((y15 _ _ _ (n' := y8g) (fun s => ymk s)).trans ((y1rb _).trans (by kernel_rfl)))
theorem y1gf : T1 yzs y2t (y1 3 y2t (y1 2 y30 xN)) [.t 2] y8g := fun s => yi.trans (ymk s)
def y1mk (v1 v3 v7 v62 v63 v64 : AV) (h : Heap) : OX :=
ob (evFa 0 v7) fun v68 =>
ob (evLd false 1 v68 h) fun v69 =>
ob (evFa 1 v7) fun v70 =>
ob (evLd false 1 v70 h) fun v71 =>
ob (evFa 2 v7) fun v72 =>
ob (evLd false 1 v72 h) fun v73 =>
oh (yx 0 (some 4) 1 3 [(.int .i64 0)] [(0, v69), (1, v71), (2, v73)] h) fun v74 h4 =>
ob (yv 1 v74 h4) fun v75 =>
(yfh v1 v3 v62 v63 v64 v74 v75 (AV.int .i64 0) h4)
def y2dz (s : St) : OX := y1mk (s 1) (s 3) (s 7) (s 62) (s 63) (s 64) s.h
theorem y1ht : T1 y14x y2t (y1 3 y2t (y1 2 y30 xN)) [.t 2] y2dz := sq y1gf fun _ => by kernel_rfl
def y1eh (v1 v3 v62 v63 v64 : AV) (h : Heap) : OX :=
ob (yp 4 v62 v64) fun v66 =>
ob (evLd true 4 v66 h) fun v67 =>
oh (newC 0 (some 3) [(.int .i64 0), (.int .i64 0), (.int .i64 0), (.str [])] h) fun v7 h5 =>
oh (evSt 4 v7 v67 h5) fun _ h6 =>
(y1mk v1 v3 v7 v62 v63 v64 h6)
def yw3 (s : St) : OX := y1eh (s 1) (s 3) (s 62) (s 63) (s 64) s.h
theorem y1n7 : T1 yzp y2t (y1 3 y2t (y1 2 y30 xN)) [.t 2] yw3 := sq y1ht fun _ => by kernel_rfl
theorem y1kk : T1 yzz y2t (y1 2 y30 xN) [.t 2] yw3 := fun s => yi.trans (y1n7 s)
theorem y1r0 : T1 y129 y8c (y1 2 y30 xN) [.t 2] yw3 := sq y1ym y1kk
def y15x (v1 v3 v62 v63 v64 v65 : AV) (h : Heap) : OX :=
cnd v65
 ((y1eh v1 v3 v62 v63 v64 h))
 ((yn4 v1 v3 h))
def y2e5 (s : St) : OX := y15x (s 1) (s 3) (s 62) (s 63) (s 64) (s 65) s.h
theorem y1ke : T1 y12l y8c (y1 2 y30 xN) [.t 2] y2e5 := sq y1r0 fun _ => by kernel_rfl
def ysh (v1 v3 v62 v63 v64 : AV) (h : Heap) : OX :=
ob (y2 .lss v64 v63) fun v65 =>
(y15x v1 v3 v62 v63 v64 v65 h)
def y2cn (s : St) : OX := ysh (s 1) (s 3) (s 62) (s 63) (s 64) s.h
theorem y1xn : T1 y17q y8c (y1 2 y30 xN) [.t 2] y2cn := sq y1ke fun _ => by kernel_rfl
theorem ynf (v1 v3 v62 v63 v64 : AV) (h : Heap) : yjk v1 v3 v62 v63 v64 h = (ysh v1 v3 v62 v63 v64 h) :=
  y22.trans ((y15 _ _ _ (n' := y8c) (fun s => ymb s)).trans ((y1xn _).trans (by kernel_rfl)))
theorem y1wb : T1 y196 y30 xN [.t 2] y8c := fun s => yi.trans (ymb s)
def yqb (v1 v3 : AV) (h : Heap) : OX :=
ob (evFa 4 v1) fun v61 =>
ob (evLd false 1 v61 h) fun v62 =>
ob (yv 1 v62 h) fun v63 =>
(yjk v1 v3 v62 v63 (AV.int .i64 0) h)
def y3w (s : St) : OX := yqb (s 1) (s 3) s.h
theorem y1y3 : T1 y110 y30 xN [.t 2] y3w := sq y1wb fun _ => by kernel_rfl
theorem y1fc : T0 y137 [.t 2] y3w := sq y1xu y1y3
def yiu (v1 v3 v24 v25 v26 : AV) (h : Heap) : OX :=
  W E 0 yiz ⟨[(1, v1), (3, v3), (24, v24), (25, v25), (26, v26)], h⟩ y3w (y1 0 y3w xN) (finP [.t 2])
def y8u (s : St) : OX := yiu (s 1) (s 3) (s 24) (s 25) (s 26) s.h
theorem yms : T1 yiz y3w (y1 0 y3w xN) [.t 2] y8u := fun s => yf.trans (by kernel_rfl)
def yta (v1 v3 v24 v25 v26 : AV) (h : Heap) : OX :=
ob (y2 .add v26 (AV.int .i64 1)) fun v60 =>
(yiu v1 v3 v24 v25 v60 h)
def ybf (s : St) : OX := yta (s 1) (s 3) (s 24) (s 25) (s 26) s.h
theorem y1e8 : T1 y0a y8u (y1 0 y3w xN) [.t 2] ybf := fun _ => by kernel_rfl
def ymr (v1 v3 v4 v5 v24 v25 v26 : AV) (h : Heap) : OX :=
ob (evLd true 9 v5 h) fun v50 =>
oh (y5 E (y7 E) 0 none true 22 [v50] h) fun v51 h7 =>
gb v51 false (evLd true 9 v5 h7) fun v53 =>
gh v51 false (y5 E (y7 E) 0 none true 24 [v53] h7) h7 fun v54 h8 =>
ob (y9 v51 (AV.bool true) v54) fun v55 =>
cnd v55
 (ob (y2 .add v4 (AV.int .i64 1)) fun v58 =>
ob (yp 1 v3 v58) fun v59 =>
oh (evSt 1 v59 (AV.bool true) h8) fun _ h9 =>
(yta v1 v3 v24 v25 v26 h9))
 ((yta v1 v3 v24 v25 v26 h8))
def y2go (s : St) : OX := ymr (s 1) (s 3) (s 4) (s 5) (s 24) (s 25) (s 26) s.h
theorem y1ff : T1 yzd ybf (y1 1 ybf (y1 0 y3w xN)) [.t 2] y2go := fun _ => by kernel_rfl
def ygt (v1 v3 v4 v5 v24 v25 v26 : AV) (h : Heap) : OX :=
ob (evLd true 9 v5 h) fun v31 =>
oh (y5 E (y7 E) 0 none true 22 [v31] h) fun v32 h10 =>
gb v32 true (evFa 6 v5) fun v34 =>
gb v32 true (evLd false 1 v34 h10) fun v35 =>
gb v32 true (y2 .geq v35 (AV.int .i64 0)) fun v36 =>
ob (y9 v32 v36 (AV.bool false)) fun v37 =>
gb v37 true (evFa 6 v5) fun v39 =>
gb v37 true (evLd false 1 v39 h10) fun v40 =>
gb v37 true (evFa 3 v1) fun v41 =>
gb v37 true (evLd false 1 v41 h10) fun v42 =>
gb v37 true (yv 1 v42 h10) fun v43 =>
gb v37 true (y2 .lss v40 v43) fun v44 =>
ob (y9 v37 v44 (AV.bool false)) fun v45 =>
cnd v45
 (ob (evFa 6 v5) fun v47 =>
ob (evLd false 1 v47 h10) fun v48 =>
ob (yp 1 v3 v48) fun v49 =>
oh (evSt 1 v49 (AV.bool true) h10) fun _ h11 =>
(ymr v1 v3 v4 v5 v24 v25 v26 h11))
 ((ymr v1 v3 v4 v5 v24 v25 v26 h10))
def y2c8 (s : St) : OX := ygt (s 1) (s 3) (s 4) (s 5) (s 24) (s 25) (s 26) s.h
theorem y1y6 : T1 y197 ybf (y1 1 ybf (y1 0 y3w xN)) [.t 2] y2c8 := sq y1ff fun _ => by kernel_rfl
def y1sx (v1 v3 v24 v25 v26 : AV) (h : Heap) : OX :=
ob (yp 9 v24 v26) fun v29 =>
ob (evLd true 9 v29 h) fun v30 =>
oh (newC 0 (some 2) [(.int .i64 0), (.int .i64 0), (.int .i64 0), (.int .i64 0), (.int .i64 0), (.int .i64 0), (.int .i64 0), (.str []), .nils] h) fun v5 h12 =>
oh (evSt 9 v5 v30 h12) fun _ h13 =>
(ygt v1 v3 v26 v5 v24 v25 v26 h13)
def yvm (s : St) : OX := y1sx (s 1) (s 3) (s 24) (s 25) (s 26) s.h
theorem y1e9 : T1 y121 ybf (y1 1 ybf (y1 0 y3w xN)) [.t 2] yvm := sq y1y6 fun _ => by kernel_rfl
theorem y1yu : T1 y14v ybf (y1 0 y3w xN) [.t 2] yvm := fun s => yi.trans (y1e9 s)
theorem y1qh : T1 yxl y8u (y1 0 y3w xN) [.t 2] yvm := sq y1e8 y1yu
def y18q (v1 v3 v24 v25 v26 v27 : AV) (h : Heap) : OX :=
cnd v27
 ((y1sx v1 v3 v24 v25 v26 h))
 ((yqb v1 v3 h))
def y2d6 (s : St) : OX := y18q (s 1) (s 3) (s 24) (s 25) (s 26) (s 27) s.h
theorem y1tx : T1 y149 y8u (y1 0 y3w xN) [.t 2] y2d6 := sq y1qh fun _ => by kernel_rfl
def ytl (v1 v3 v24 v25 v26 : AV) (h : Heap) : OX :=
ob (y2 .lss v26 v25) fun v27 =>
(y18q v1 v3 v24 v25 v26 v27 h)
def y2c3 (s : St) : OX := ytl (s 1) (s 3) (s 24) (s 25) (s 26) s.h
theorem y1ie : T1 y16g y8u (y1 0 y3w xN) [.t 2] y2c3 := sq y1tx fun _ => by kernel_rfl
theorem ymd (v1 v3 v24 v25 v26 : AV) (h : Heap) : yiu v1 v3 v24 v25 v26 h = (ytl v1 v3 v24 v25 v26 h) :=
  y22.trans ((y15 _ _ _ (n' := y8u) (fun s => yms s)).trans ((y1ie _).trans (by kernel_rfl)))
theorem y1pz : T1 y17g y3w xN [.t 2] y8u := fun s => yi.trans (yms s)
def ytg (v1 v3 : AV) (h : Heap) : OX :=
ob (evFa 3 v1) fun v23 =>
ob (evLd false 1 v23 h) fun v24 =>
ob (yv 1 v24 h) fun v25 =>
(yiu v1 v3 v24 v25 (AV.int .i64 0) h)
def y1gb (s : St) : OX := ytg (s 1) (s 3) s.h
theorem y1iy : T1 y15l y3w xN [.t 2] y1gb := sq y1pz fun _ => by kernel_rfl
theorem y1ov : T0 y13z [.t 2] y1gb := sq y1fc y1iy
def yuh (v1 v3 : AV) (h : Heap) : OX :=
ob (evFa 3 v1) fun v17 =>
ob (evLd false 1 v17 h) fun v18 =>
ob (yv 1 v18 h) fun v19 =>
ob (y2 .gtr v19 (AV.int .i64 0)) fun v20 =>
cnd v20
 (ob (yp 1 v3 (AV.int .i64 0)) fun v22 =>
oh (evSt 1 v22 (AV.bool true) h) fun _ h14 =>
(ytg v1 v3 h14))
 ((ytg v1 v3 h))
def y2f2 (s : St) : OX := yuh (s 1) (s 3) s.h
theorem y1q4 : T0 y14e [.t 2] y2f2 := sq y1ov fun _ => by kernel_rfl
def y1yd (v1 : AV) (h : Heap) : OX :=
ob (evFa 3 v1) fun v12 =>
ob (evLd false 1 v12 h) fun v13 =>
ob (yv 1 v13 h) fun v14 =>
ob (y2 .add v14 (AV.int .i64 1)) fun v15 =>
oh (mkSC 0 (some 1) 1 1 [(.bool false)] v15 v15 h) fun v16 h15 =>
(yuh v1 v16 h15)
def y2dt (s : St) : OX := y1yd (s 1) s.h
theorem y1gt : T0 yzq [.t 2] y2dt := sq y1q4 fun _ => by kernel_rfl
def y11t (v0 : AV) (h : Heap) : OX :=
oh (newC 0 (some 0) (cellsOf v0) h) fun v1 h16 =>
(y1yd v1 h16)
def y2j5 (s : St) : OX := y11t (s 0) s.h
theorem y1yw : T0 y0v [.t 2] y2j5 := sq y1gt fun _ => by kernel_rfl
@[simp] theorem y2qq : E.pure 102 = true := rfl
theorem y2t8 (v0 : AV) : (y7 E).p 102 [v0] = y11t v0 [⟨0, .dead⟩, ⟨0, .dead⟩, ⟨0, .dead⟩, ⟨0, .dead⟩, ⟨0, .dead⟩, ⟨0, .dead⟩, ⟨0, .dead⟩] :=
  (yu (cf := y2no) (by kernel_rfl) rfl).trans ((y1yw _).trans (by kernel_rfl))
def yr6 (fb : Nat) (v2 v4 : AV) (h : Heap) : Option (AV × Heap) :=
ob (evLd true 9 v2 h) fun v80 =>
oh (evSt 9 v4 v80 h) fun _ h1 =>
(ob (evLd true 9 v4 h1) fun r0 =>
  some (r0, h1))
def y2o (fb : Nat) (s : St) : Option (AV × Heap) := yr6 fb (s 2) (s 4) s.h
theorem y236 (fb : Nat) (s : St) : W E fb y1ul s (finI [.cell 4 true 9]) xN (finI [.cell 4 true 9]) = y2o fb s :=
  by kernel_rfl
def y2d7 (fb : Nat) (v4 : AV) (h : Heap) : Option (AV × Heap) :=
ob (y11 [(.int .i64 0), (.int .i64 0), (.int .i64 0), (.int .i64 0), (.int .i64 0), (.int .i64 0), (.int .i64 0), (.str []), .nils] [(0, 1, (AV.int .i64 33))]) fun v79 =>
oh (evSt 9 v4 v79 h) fun _ h2 =>
(ob (evLd true 9 v4 h2) fun r0 =>
  some (r0, h2))
def y29o (fb : Nat) (s : St) : Option (AV × Heap) := y2d7 fb (s 4) s.h
theorem y1zo (fb : Nat) (s : St) : W E fb y1xm s (y2o fb) (y1 0 (y2o fb) xN) (finI [.cell 4 true 9]) = y29o fb s :=
  by kernel_rfl
def y1zj (fb : Nat) (v2 v4 v5 v9 : AV) (h : Heap) : Option (AV × Heap) :=
ob (evFa 5 v2) fun v71 =>
ob (evLd false 1 v71 h) fun v72 =>
oh (y5 E (y7 E) fb none true 129 [v72, v5, v9] h) fun v75 h3 =>
cnd v75
 (ob (evFa 6 v2) fun v76 =>
ob (evLd false 1 v76 h3) fun v77 =>
ob (y11 [(.int .i64 0), (.int .i64 0), (.int .i64 0), (.int .i64 0), (.int .i64 0), (.int .i64 0), (.int .i64 0), (.str []), .nils] [(0, 1, (AV.int .i64 27)), (6, 1, v77)]) fun v78 =>
oh (evSt 9 v4 v78 h3) fun _ h4 =>
(ob (evLd true 9 v4 h4) fun r0 =>
  some (r0, h4)))
 ((y2d7 fb v4 h3))
def y2nm (fb : Nat) (s : St) : Option (AV × Heap) := y1zj fb (s 2) (s 4) (s 5) (s 9) s.h
theorem y1zg (fb : Nat) (s : St) : W E fb y1om s (y2o fb) (y1 0 (y2o fb) xN) (finI [.cell 4 true 9]) = y2nm fb s :=
  (y7p (k := (y29o fb)) (fun s => y1zo fb s)).trans (by kernel_rfl)
def yxa (fb : Nat) (v2 v4 v5 v9 v70 : AV) (h : Heap) : Option (AV × Heap) :=
cnd v70
 ((y1zj fb v2 v4 v5 v9 h))
 ((yr6 fb v2 v4 h))
def y29a (fb : Nat) (s : St) : Option (AV × Heap) := yxa fb (s 2) (s 4) (s 5) (s 9) (s 70) s.h
theorem y20t (fb : Nat) (s : St) : W E fb y1p2 s (y2o fb) (y1 0 (y2o fb) xN) (finI [.cell 4 true 9]) = y29a fb s :=
  (yw (y1zg fb s) rfl).trans (by kernel_rfl)
def ywn (fb : Nat) (v2 v4 v5 v6 v9 v10 : AV) (h : Heap) : Option (AV × Heap) :=
gb v6 true (some v10) fun v69 =>
ob (y9 v6 v69 (AV.bool false)) fun v70 =>
(yxa fb v2 v4 v5 v9 v70 h)
def y2a1 (fb : Nat) (s : St) : Option (AV × Heap) := ywn fb (s 2) (s 4) (s 5) (s 6) (s 9) (s 10) s.h
theorem y271 (fb : Nat) (s : St) : W E fb y1rm s (y2o fb) (y1 0 (y2o fb) xN) (finI [.cell 4 true 9]) = y2a1 fb s :=
  (y7p (k := (y29a fb)) (fun s => y20t fb s)).trans (by kernel_rfl)
def yx5 (fb : Nat) (v1 v2 v4 v5 v6 : AV) (h : Heap) : Option (AV × Heap) :=
ob (evFa 3 v2) fun v62 =>
ob (evLd false 1 v62 h) fun v63 =>
ob (y5d false [0] (.int .i64 0) true v1 v63 h) fun v64 =>
ob (y6w 0 v64) fun v65 =>
ob (y6w 1 v64) fun v66 =>
(ywn fb v2 v4 v5 v6 v65 v66 h)
def y2nv (fb : Nat) (s : St) : Option (AV × Heap) := yx5 fb (s 1) (s 2) (s 4) (s 5) (s 6) s.h
theorem y23o (fb : Nat) (s : St) : W E fb y1dq s (y2o fb) (y1 0 (y2o fb) xN) (finI [.cell 4 true 9]) = y2nv fb s :=
  (y7p (k := (y2a1 fb)) (fun s => y271 fb s)).trans (by kernel_rfl)
def ypd (fb : Nat) (v1 v2 v4 v5 v6 v58 : AV) (h : Heap) : Option (AV × Heap) :=
cnd v58
 ((yx5 fb v1 v2 v4 v5 v6 h))
 ((yr6 fb v2 v4 h))
def y2ah (fb : Nat) (s : St) : Option (AV × Heap) := ypd fb (s 1) (s 2) (s 4) (s 5) (s 6) (s 58) s.h
theorem y21h (fb : Nat) (s : St) : W E fb y1h8 s (y2o fb) (y1 0 (y2o fb) xN) (finI [.cell 4 true 9]) = y2ah fb s :=
  (yw (y23o fb s) rfl).trans (by kernel_rfl)
def ypk (fb : Nat) (v1 v2 v4 v5 v6 v19 : AV) (h : Heap) : Option (AV × Heap) :=
ob (y2 .eql v19 (AV.int .i64 28)) fun v59 =>
(ypd fb v1 v2 v4 v5 v6 v59 h)
def y2lf (fb : Nat) (s : St) : Option (AV × Heap) := ypk fb (s 1) (s 2) (s 4) (s 5) (s 6) (s 19) s.h
theorem y26d (fb : Nat) (s : St) : W E fb y1fh s (y2o fb) (y1 0 (y2o fb) xN) (finI [.cell 4 true 9]) = y2lf fb s :=
  (y7p (k := (y2ah fb)) (fun s => y21h fb s)).trans (by kernel_rfl)
def yih (fb : Nat) (v1 v2 v4 v5 v6 v19 v51 : AV) (h : Heap) : Option (AV × Heap) :=
cnd v51
 (cnd v6
 (ob (evFa 1 v2) fun v54 =>
ob (evLd false 1 v54 h) fun v55 =>
ob (y11 [(.int .i64 0), (.int .i64 0), (.int .i64 0), (.int .i64 0), (.int .i64 0), (.int .i64 0), (.int .i64 0), (.str []), .nils] [(0, 1, (AV.int .i64 1)), (1, 1, v55), (5, 1, v5)]) fun v57 =>
oh (evSt 9 v4 v57 h) fun _ h5 =>
(ob (evLd true 9 v4 h5) fun r0 =>
  some (r0, h5)))
 ((yr6 fb v2 v4 h)))
 ((ypk fb v1 v2 v4 v5 v6 v19 h))
def y2ak (fb : Nat) (s : St) : Option (AV × Heap) := yih fb (s 1) (s 2) (s 4) (s 5) (s 6) (s 19) (s 51) s.h
theorem y233 (fb : Nat) (s : St) : W E fb y1eo s (y2o fb) (y1 0 (y2o fb) xN) (finI [.cell 4 true 9]) = y2ak fb s :=
  (yw rfl (y26d fb s)).trans (by kernel_rfl)
def yay (fb : Nat) (v1 v2 v4 v5 v6 v19 : AV) (h : Heap) : Option (AV × Heap) :=
ob (y2 .eql v19 (AV.int .i64 4)) fun v52 =>
(yih fb v1 v2 v4 v5 v6 v19 v52 h)
def y2cz (fb : Nat) (s : St) : Option (AV × Heap) := yay fb (s 1) (s 2) (s 4) (s 5) (s 6) (s 19) s.h
theorem y1xi (fb : Nat) (s : St) : W E fb y16n s (y2o fb) (y1 0 (y2o fb) xN) (finI [.cell 4 true 9]) = y2cz fb s :=
  (y7p (k := (y2ak fb)) (fun s => y233 fb s)).trans (by kernel_rfl)
def y6n (fb : Nat) (v1 v2 v4 v5 v6 v19 v30 : AV) (h : Heap) : Option (AV × Heap) :=
cnd v30
 (ob (evFa 3 v2) fun v34 =>
ob (evLd false 1 v34 h) fun v35 =>
ob (y5d false [0] (.int .i64 0) true v1 v35 h) fun v36 =>
ob (y6w 0 v36) fun v37 =>
ob (y6w 1 v36) fun v38 =>
gb v6 true (some v38) fun v41 =>
ob (y9 v6 v41 (AV.bool false)) fun v42 =>
cnd v42
 (ob (evFa 1 v2) fun v43 =>
ob (evLd false 1 v43 h) fun v44 =>
ob (evFa 5 v2) fun v45 =>
ob (evLd false 1 v45 h) fun v46 =>
ofp (y3y E (y7 E) fb none true 128 [v46, v5, v37] h) fun f6 =>
oh (y5 E (y7 E) fb none true 128 [v46, v5, v37] h) fun v49 h6 =>
ob (y11 [(.int .i64 0), (.int .i64 0), (.int .i64 0), (.int .i64 0), (.int .i64 0), (.int .i64 0), (.int .i64 0), (.str []), .nils] [(0, 1, (AV.int .i64 1)), (1, 1, v44), (5, 1, v49)]) fun v50 =>
oh (evSt 9 v4 v50 h6) fun _ h7 =>
okK (yd [([], []), (ids1 v43, []), ([], []), (ids1 v45, []), ([], []), ([], []), f6, ([], []), ([], ids1 v4)] [(1, 6)]) <|
(ob (evLd true 9 v4 h7) fun r0 =>
  some (r0, h7)))
 ((yr6 fb v2 v4 h)))
 ((yay fb v1 v2 v4 v5 v6 v19 h))
def y1su (fb : Nat) (s : St) : Option (AV × Heap) := y6n fb (s 1) (s 2) (s 4) (s 5) (s 6) (s 19) (s 30) s.h
theorem y1l9 (fb : Nat) (s : St) : W E fb yyp s (y2o fb) (y1 0 (y2o fb) xN) (finI [.cell 4 true 9]) = y1su fb s :=
  (yw rfl (y1xi fb s)).trans (by kernel_rfl)
def y6p (fb : Nat) (v1 v2 v4 v5 v6 v19 : AV) (h : Heap) : Option (AV × Heap) :=
ob (y2 .eql v19 (AV.int .i64 5)) fun v31 =>
(y6n fb v1 v2 v4 v5 v6 v19 v31 h)
def y2b5 (fb : Nat) (s : St) : Option (AV × Heap) := y6p fb (s 1) (s 2) (s 4) (s 5) (s 6) (s 19) s.h
theorem y1rz (fb : Nat) (s : St) : W E fb y172 s (y2o fb) (y1 0 (y2o fb) xN) (finI [.cell 4 true 9]) = y2b5 fb s :=
  (y7p (k := (y1su fb)) (fun s => y1l9 fb s)).trans (by kernel_rfl)
def y5a (fb : Nat) (v1 v2 v4 v5 v6 v19 v20 : AV) (h : Heap) : Option (AV × Heap) :=
cnd v20
 (cnd v6
 (ob (evFa 1 v2) fun v23 =>
ob (evLd false 1 v23 h) fun v24 =>
ob (evFa 5 v2) fun v25 =>
ob (evLd false 1 v25 h) fun v26 =>
ofp (y3y E (y7 E) fb none true 127 [v26, v5] h) fun f5 =>
oh (y5 E (y7 E) fb none true 127 [v26, v5] h) fun v28 h8 =>
ob (y11 [(.int .i64 0), (.int .i64 0), (.int .i64 0), (.int .i64 0), (.int .i64 0), (.int .i64 0), (.int .i64 0), (.str []), .nils] [(0, 1, (AV.int .i64 1)), (1, 1, v24), (5, 1, v28)]) fun v29 =>
oh (evSt 9 v4 v29 h8) fun _ h9 =>
okK (yd [([], []), (ids1 v23, []), ([], []), (ids1 v25, []), ([], []), f5, ([], []), ([], ids1 v4)] [(1, 5)]) <|
(ob (evLd true 9 v4 h9) fun r0 =>
  some (r0, h9)))
 ((yr6 fb v2 v4 h)))
 ((y6p fb v1 v2 v4 v5 v6 v19 h))
def y1uz (fb : Nat) (s : St) : Option (AV × Heap) := y5a fb (s 1) (s 2) (s 4) (s 5) (s 6) (s 19) (s 20) s.h
theorem y1l3 (fb : Nat) (s : St) : W E fb y0d s (y2o fb) (y1 0 (y2o fb) xN) (finI [.cell 4 true 9]) = y1uz fb s :=
  (yw rfl (y1rz fb s)).trans (by kernel_rfl)
def y5b (fb : Nat) (v1 v2 v4 v5 v6 v19 : AV) (h : Heap) : Option (AV × Heap) :=
ob (y2 .eql v19 (AV.int .i64 6)) fun v21 =>
(y5a fb v1 v2 v4 v5 v6 v19 v21 h)
def yvj (fb : Nat) (s : St) : Option (AV × Heap) := y5b fb (s 1) (s 2) (s 4) (s 5) (s 6) (s 19) s.h
theorem y1ud (fb : Nat) (s : St) : W E fb y15w s (y2o fb) (y1 0 (y2o fb) xN) (finI [.cell 4 true 9]) = yvj fb s :=
  (y7p (k := (y1uz fb)) (fun s => y1l3 fb s)).trans (by kernel_rfl)
theorem y1rt (fb : Nat) (s : St) : W E fb y14k s (y2o fb) xN (finI [.cell 4 true 9]) = yvj fb s :=
  yi.trans (y1ud fb s)
def y5c (fb : Nat) (v1 v2 v4 v5 v6 : AV) (h : Heap) : Option (AV × Heap) :=
ob (evFa 0 v2) fun v18 =>
ob (evLd false 1 v18 h) fun v19 =>
(y5b fb v1 v2 v4 v5 v6 v19 h)
def yv6 (fb : Nat) (s : St) : Option (AV × Heap) := y5c fb (s 1) (s 2) (s 4) (s 5) (s 6) s.h
theorem y1i2 (fb : Nat) (s : St) : W E fb y0u s (y2o fb) xN (finI [.cell 4 true 9]) = yv6 fb s :=
  (y7p (k := (yvj fb)) (fun s => y1rt fb s)).trans (by kernel_rfl)
theorem y1qp (fb : Nat) (s : St) : W E fb y15f s (finI [.cell 4 true 9]) xN (finI [.cell 4 true 9]) = yv6 fb s :=
  (y7p (k := (y2o fb)) (fun s => y236 fb s)).trans (y1i2 fb s)
def y4y (fb : Nat) (v1 v2 v4 : AV) (h : Heap) : Option (AV × Heap) :=
ob (evFa 2 v2) fun v13 =>
ob (evLd false 1 v13 h) fun v14 =>
ob (y5d false [0] (.int .i64 0) true v1 v14 h) fun v15 =>
ob (y6w 0 v15) fun v16 =>
ob (y6w 1 v15) fun v17 =>
(y5c fb v1 v2 v4 v16 v17 h)
def y1sk (fb : Nat) (s : St) : Option (AV × Heap) := y4y fb (s 1) (s 2) (s 4) s.h
theorem y1jl (fb : Nat) (s : St) : W E fb yxj s (finI [.cell 4 true 9]) xN (finI [.cell 4 true 9]) = y1sk fb s :=
  (y7p (k := (yv6 fb)) (fun s => y1qp fb s)).trans (by kernel_rfl)
def y16z (fb : Nat) (v0 v1 : AV) (h : Heap) : Option (AV × Heap) :=
oh (newC fb (some 0) (cellsOf v0) h) fun v2 h10 =>
oh (newC fb (some 1) [(.int .i64 0), (.int .i64 0), (.int .i64 0), (.int .i64 0), (.int .i64 0), (.int .i64 0), (.int .i64 0), (.str []), .nils] h10) fun v4 h11 =>
(y4y fb v1 v2 v4 h11)
def y2dg (fb : Nat) (s : St) : Option (AV × Heap) := y16z fb (s 0) (s 1) s.h
theorem y1lv (fb : Nat) (s : St) : W E fb y171 s (finI [.cell 4 true 9]) xN (finI [.cell 4 true 9]) = y2dg fb s :=
  (y7p (k := (y1sk fb)) (fun s => y1jl fb s)).trans (by kernel_rfl)
@[simp] theorem y2rd : E.pure 126 = false := rfl
theorem y2uj (fb : Nat) (v0 v1 : AV) (h : Heap) : (y7 E).i 126 [v0, v1] fb h = y16z fb v0 v1 (if fb = h.length then h ++ yk 2 else h) :=
  (y1u2 (cf := y2lq) (by kernel_rfl) rfl).trans ((y1lv fb _).trans (by kernel_rfl))
def y1vb (v0 : AV) (h : Heap) : OX :=
oh (yx 0 (some 0) 1 3 [(.int .i64 0)] [(0, (AV.int .i64 27)), (1, (AV.int .i64 30)), (2, (AV.int .i64 31))] h) fun v4 h1 =>
oh (y5 E (y7 E) 0 none true 42 [v0, v4] h1) fun v5 h2 =>
(yc h2 v5)
def y2ii (s : St) : OX := y1vb (s 0) s.h
theorem y1kq : T0 y19o [.t 2] y2ii := fun _ => by kernel_rfl
@[simp] theorem y2uq : E.pure 25 = true := rfl
theorem y2l9 (v0 : AV) : (y7 E).p 25 [v0] = y1vb v0 [⟨0, .dead⟩] :=
  (yu (cf := y2a6) (by kernel_rfl) rfl).trans ((y1kq _).trans (by kernel_rfl))
def ys0 (v1 v2 : AV) (h : Heap) : OX :=
ob (evFa 0 v2) fun v14 =>
ob (evLd false 1 v14 h) fun v15 =>
ob (yp 1 v15 v1) fun v17 =>
ob (evLd false 1 v17 h) fun v18 =>
(yc h v18)
def y2gb (s : St) : OX := ys0 (s 1) (s 2) s.h
theorem y1y4 : T0 y19q [.t 4] y2gb := fun _ => by kernel_rfl
def yq8 (v1 v2 : AV) (h : Heap) : OX :=
ob (y2 .lss v1 (AV.int .i64 0)) fun v6 =>
gb v6 false (some v1) fun v8 =>
gb v6 false (evFa 0 v2) fun v9 =>
gb v6 false (evLd false 1 v9 h) fun v10 =>
gb v6 false (yv 1 v10 h) fun v11 =>
gb v6 false (y2 .geq v8 v11) fun v12 =>
ob (y9 v6 (AV.bool true) v12) fun v13 =>
cnd v13
 ((yc h (AV.int .i64 0)))
 ((ys0 v1 v2 h))
def y2gu (s : St) : OX := yq8 (s 1) (s 2) s.h
theorem y1oe : T0 y17j [.t 4] y2gu := sq y1y4 fun _ => by kernel_rfl
def yu8 (v0 v1 : AV) (h : Heap) : OX :=
oh (newC 0 (some 0) (cellsOf v0) h) fun v2 h1 =>
(yq8 v1 v2 h1)
def y2i8 (s : St) : OX := yu8 (s 0) (s 1) s.h
theorem y1iw : T0 y0t [.t 4] y2i8 := sq y1oe fun _ => by kernel_rfl
@[simp] theorem y2s2 : E.pure 48 = true := rfl
theorem y2ke (v0 v1 : AV) : (y7 E).p 48 [v0, v1] = yu8 v0 v1 [⟨0, .dead⟩] :=
  (yu (cf := y294) (by kernel_rfl) rfl).trans ((y1iw _).trans (by kernel_rfl))
def yn3 (h : Heap) : OX :=
(yc h (AV.bool false))
def y7h (s : St) : OX := yn3 s.h
theorem y1ls : T0 y16l [.t 4] y7h := fun _ => by kernel_rfl
def yk4 (v0 v1 v5 : AV) (h : Heap) : OX :=
  W E 0 ykm ⟨[(0, v0), (1, v1), (5, v5)], h⟩ y7h (y1 0 y7h xN) (finP [.t 4])
def ybu (s : St) : OX := yk4 (s 0) (s 1) (s 5) s.h
theorem ym5 : T1 ykm y7h (y1 0 y7h xN) [.t 4] ybu := fun s => yf.trans (by kernel_rfl)
def yns (v0 v1 v5 : AV) (h : Heap) : OX :=
ob (y2 .add v5 (AV.int .i64 1)) fun v11 =>
(yk4 v0 v1 v11 h)
def y2cr (s : St) : OX := yns (s 0) (s 1) (s 5) s.h
theorem y1nb : T1 y14f ybu (y1 0 y7h xN) [.t 4] y2cr := fun _ => by kernel_rfl
def ynb (v0 v1 v5 : AV) (h : Heap) : OX :=
ob (yp 1 v1 v5) fun v14 =>
ob (evLd false 1 v14 h) fun v15 =>
ob (y2 .eql v15 v0) fun v17 =>
cnd v17
 ((yc h (AV.bool true)))
 ((yns v0 v1 v5 h))
def y2fy (s : St) : OX := ynb (s 0) (s 1) (s 5) s.h
theorem y1n5 : T1 y165 ybu (y1 0 y7h xN) [.t 4] y2fy := sq y1nb fun _ => by kernel_rfl
def ymf (v0 v1 v5 : AV) (h : Heap) : OX :=
ob (yv 1 v1 h) fun v8 =>
ob (y2 .lss v5 v8) fun v9 =>
cnd v9
 ((ynb v0 v1 v5 h))
 ((yn3 h))
def y2dm (s : St) : OX := ymf (s 0) (s 1) (s 5) s.h
theorem y1op : T1 y17z ybu (y1 0 y7h xN) [.t 4] y2dm := sq y1n5 fun _ => by kernel_rfl
theorem ymh (v0 v1 v5 : AV) (h : Heap) : yk4 v0 v1 v5 h = (ymf v0 v1 v5 h) :=
  y22.trans ((y15 _ _ _ (n' := ybu) (fun s => ym5 s)).trans ((y1op _).trans (by kernel_rfl)))
theorem y1pl : T1 y132 y7h xN [.t 4] ybu := fun s => yi.trans (ym5 s)
def ym7 (v0 v1 : AV) (h : Heap) : OX :=
(yk4 v0 v1 (AV.int .i64 0) h)
def y1el (s : St) : OX := ym7 (s 0) (s 1) s.h
theorem y1kf : T1 yxt y7h xN [.t 4] y1el := sq y1pl fun _ => by kernel_rfl
theorem y1go : T0 yxy [.t 4] y1el := sq y1ls y1kf
def yol (v0 v1 : AV) (h : Heap) : OX :=
(ym7 v0 v1 h)
def y2hk (s : St) : OX := yol (s 0) (s 1) s.h
theorem y1km : T0 y00 [.t 4] y2hk := sq y1go fun _ => by kernel_rfl
@[simp] theorem y2ry : E.pure 42 = true := rfl
theorem y2pf (v0 v1 : AV) : (y7 E).p 42 [v0, v1] = yol v0 v1 [] :=
  (yu (cf := y29y) (by kernel_rfl) rfl).trans ((y1km _).trans (by kernel_rfl))
end
end Go.Vm
