/- Functions of the machine as plain functions that go on with what follows. -/
import Derived.Test.YtgbajicpokolcaaWEnv
set_option linter.unusedSimpArgs false
set_option linter.unusedVariables false
set_option linter.unusedSectionVars false
namespace Go.Vm
noncomputable section
def ymq (v2 : AV) (h : Heap) : OX :=
ob (yb [(.int .i64 0), (.int .i64 0), (.int .i64 0), (.int .i64 0)] []) fun v73 =>
oh (evSt 4 v2 v73 h) fun _ h1 =>
(ob (evLd true 4 v2 h1) fun r0 =>
  y7 h1 (.tup [r0, (AV.bool false)]))
def y1f (s : St) : OX := ymq (s 2) s.h
theorem y1le : T0 y19g [.cell 2 true 4, .t 3] y1f := fun _ => by kernel_rfl
def yl1 (v1 v2 v4 : AV) (h : Heap) : OX :=
ob (yb [(.int .i64 0), (.int .i64 0), (.int .i64 0), (.int .i64 0)] [(0, 1, (AV.int .i64 (-1))), (1, 1, (AV.int .i64 3)), (2, 1, v4), (3, 1, (AV.int .i64 (-1)))]) fun v16 =>
ob (evFa 5 v1) fun v17 =>
ob (evLd false 1 v17 h) fun v18 =>
ob (y2 .eql v18 (AV.int .i64 0)) fun v19 =>
ofp (fgd v19 false (some ([], []))) fun f6 =>
gb v19 false (evFa 5 v1) fun v21 =>
ofp (fgd v19 false (some (ids1 v21, []))) fun f7 =>
gb v19 false (evLd false 1 v21 h) fun v22 =>
ofp (fgd v19 false (some ([], []))) fun f8 =>
gb v19 false (y2 .eql v22 (AV.int .i64 1)) fun v23 =>
ob (y9 v19 (AV.bool true) v23) fun v24 =>
oh (evSt 4 v2 v16 h) fun _ h2 =>
okK (yp [([], []), ([], []), ([], []), (ids1 v17, []), ([], []), ([], []), f6, f7, f8, ([], []), ([], ids1 v2), ([], [])] [(7, 10)]) <|
(ob (evLd true 4 v2 h2) fun r0 =>
  y7 h2 (.tup [r0, v24]))
def y20o (s : St) : OX := yl1 (s 1) (s 2) (s 4) s.h
theorem y1k9 : T1 y13e y1f (y1 0 y1f xN) [.cell 2 true 4, .t 3] y20o := fun _ => by kernel_rfl
def yom (v1 v2 v4 : AV) (h : Heap) : OX :=
ob (evFa 3 v1) fun v12 =>
ob (evLd false 1 v12 h) fun v13 =>
ob (y2 .neq v13 (AV.int .i64 (-1))) fun v14 =>
cnd v14
 ((yl1 v1 v2 (AV.int .i64 3) h))
 ((yl1 v1 v2 v4 h))
def y209 (s : St) : OX := yom (s 1) (s 2) (s 4) s.h
theorem y1n1 : T1 y18s y1f (y1 0 y1f xN) [.cell 2 true 4, .t 3] y209 := sq y1k9 fun _ => by kernel_rfl
def yn2 (v1 v2 : AV) (h : Heap) : OX :=
(yom v1 v2 (AV.int .i64 (-1)) h)
def y1xz (s : St) : OX := yn2 (s 1) (s 2) s.h
theorem y1i9 : T1 y164 y1f (y1 0 y1f xN) [.cell 2 true 4, .t 3] y1xz := sq y1n1 fun _ => by kernel_rfl
def ykw (v2 v5 : AV) (h : Heap) : OX :=
ob (yb [(.int .i64 0), (.int .i64 0), (.int .i64 0), (.int .i64 0)] [(0, 1, (AV.int .i64 (-1))), (1, 1, v5), (2, 1, (AV.int .i64 (-1))), (3, 1, (AV.int .i64 (-1)))]) fun v31 =>
oh (evSt 4 v2 v31 h) fun _ h3 =>
(ob (evLd true 4 v2 h3) fun r0 =>
  y7 h3 (.tup [r0, (AV.bool true)]))
def y1za (s : St) : OX := ykw (s 2) (s 5) s.h
theorem y1jf : T1 y1et y1f (y1 0 y1f xN) [.cell 2 true 4, .t 3] y1za := fun _ => by kernel_rfl
def ymt (v1 v2 v5 : AV) (h : Heap) : OX :=
ob (evFa 2 v1) fun v27 =>
ob (evLd false 1 v27 h) fun v28 =>
ob (y2 .neq v28 (AV.int .i64 (-1))) fun v29 =>
cnd v29
 ((ykw v2 (AV.int .i64 0) h))
 ((ykw v2 v5 h))
def y1yc (s : St) : OX := ymt (s 1) (s 2) (s 5) s.h
theorem y1gy : T1 y18a y1f (y1 0 y1f xN) [.cell 2 true 4, .t 3] y1yc := sq y1jf fun _ => by kernel_rfl
def ynh (v1 v2 : AV) (h : Heap) : OX :=
(ymt v1 v2 (AV.int .i64 (-1)) h)
def y20d (s : St) : OX := ynh (s 1) (s 2) s.h
theorem y1gs : T1 y04 y1f (y1 0 y1f xN) [.cell 2 true 4, .t 3] y20d := sq y1gy fun _ => by kernel_rfl
def yk1 (v1 v2 v6 : AV) (h : Heap) : OX :=
ob (evFa 0 v1) fun v40 =>
ob (evLd false 1 v40 h) fun v41 =>
ob (y2 .eql v41 (AV.int .i64 23)) fun v42 =>
gb v42 false (evFa 0 v1) fun v44 =>
gb v42 false (evLd false 1 v44 h) fun v45 =>
gb v42 false (y2 .eql v45 (AV.int .i64 26)) fun v46 =>
ob (y9 v42 (AV.bool true) v46) fun v47 =>
gb v47 false (evFa 8 v1) fun v49 =>
gb v47 false (evLd false 1 v49 h) fun v50 =>
gb v47 false (yy 1 v50 h) fun v51 =>
gb v47 false (y2 .gtr v51 (AV.int .i64 0)) fun v52 =>
ob (y9 v47 (AV.bool true) v52) fun v53 =>
ob (yb [(.int .i64 0), (.int .i64 0), (.int .i64 0), (.int .i64 0)] [(0, 1, v6), (1, 1, (AV.int .i64 (-1))), (2, 1, (AV.int .i64 (-1))), (3, 1, (AV.int .i64 (-1)))]) fun v55 =>
ofp (fgd v53 true (some ([], []))) fun f4 =>
gb v53 true (evFa 5 v1) fun v58 =>
ofp (fgd v53 true (some (ids1 v58, []))) fun f5 =>
gb v53 true (evLd false 1 v58 h) fun v59 =>
ofp (fgd v53 true (some ([], []))) fun f6 =>
gb v53 true (y2 .geq v59 (AV.int .i64 0)) fun v60 =>
ofp (fgd v53 true (some ([], []))) fun f7 =>
gb v53 true (some v60) fun v61 =>
ofp (fgd v61 false (some ([], []))) fun f8 =>
gb v61 false (evFa 0 v1) fun v62 =>
ofp (fgd v61 false (some (ids1 v62, []))) fun f9 =>
gb v61 false (evLd false 1 v62 h) fun v63 =>
ofp (fgd v61 false (some ([], []))) fun f10 =>
gb v61 false (y2 .eql v63 (AV.int .i64 25)) fun v64 =>
ofp (fgd v53 true (some ([], []))) fun f11 =>
gb v53 true (y9 v61 (AV.bool true) v64) fun v65 =>
ob (y9 v53 v65 (AV.bool false)) fun v66 =>
ofp (fgd v66 true (some ([], []))) fun f14 =>
gb v66 true (evFa 8 v1) fun v68 =>
ofp (fgd v66 true (some (ids1 v68, []))) fun f15 =>
gb v66 true (evLd false 1 v68 h) fun v69 =>
ofp (fgd v66 true (some (ids1 v69, []))) fun f16 =>
gb v66 true (yy 1 v69 h) fun v70 =>
ofp (fgd v66 true (some ([], []))) fun f17 =>
gb v66 true (y2 .leq v70 (AV.int .i64 21)) fun v71 =>
ob (y9 v66 v71 (AV.bool false)) fun v72 =>
oh (evSt 4 v2 v55 h) fun _ h4 =>
okK (yp [([], []), ([], []), ([], []), ([], []), f4, f5, f6, f7, f8, f9, f10, f11, ([], []), ([], []), f14, f15, f16, f17, ([], []), ([], ids1 v2), ([], [])] [(15, 19), (16, 19)]) <|
(ob (evLd true 4 v2 h4) fun r0 =>
  y7 h4 (.tup [r0, v72]))
def y1zz (s : St) : OX := yk1 (s 1) (s 2) (s 6) s.h
theorem y1hi : T1 y1e5 y1f (y1 0 y1f xN) [.cell 2 true 4, .t 3] y1zz := fun _ => by kernel_rfl
def yn4 (v1 v2 v6 : AV) (h : Heap) : OX :=
ob (evFa 1 v1) fun v37 =>
ob (evLd false 1 v37 h) fun v38 =>
ob (y2 .neq v38 (AV.int .i64 (-1))) fun v39 =>
cnd v39
 ((yk1 v1 v2 (AV.int .i64 0) h))
 ((yk1 v1 v2 v6 h))
def y220 (s : St) : OX := yn4 (s 1) (s 2) (s 6) s.h
theorem y1jz : T1 y11q y1f (y1 0 y1f xN) [.cell 2 true 4, .t 3] y220 := sq y1hi fun _ => by kernel_rfl
def yf0 (v1 v2 : AV) (h : Heap) : OX :=
(yn4 v1 v2 (AV.int .i64 (-1)) h)
def y1rg (s : St) : OX := yf0 (s 1) (s 2) s.h
theorem y113 : T1 yqg y1f (y1 0 y1f xN) [.cell 2 true 4, .t 3] y1rg := sq y1jz fun _ => by kernel_rfl
def y94 (v1 v2 v32 : AV) (h : Heap) : OX :=
cnd v32
 ((yf0 v1 v2 h))
 ((ymq v2 h))
def y1vt (s : St) : OX := y94 (s 1) (s 2) (s 32) s.h
theorem y138 : T1 ytw y1f (y1 0 y1f xN) [.cell 2 true 4, .t 3] y1vt := fun s => (yu (y113 s) rfl).trans (by kernel_rfl)
def yfc (v1 v2 v9 : AV) (h : Heap) : OX :=
ob (y2 .eql v9 (AV.int .i64 23)) fun v33 =>
cnd v33
 ((y94 v1 v2 v33 h))
 (ob (y2 .eql v9 (AV.int .i64 24)) fun v34 =>
cnd v34
 ((y94 v1 v2 v34 h))
 (ob (y2 .eql v9 (AV.int .i64 25)) fun v35 =>
cnd v35
 ((y94 v1 v2 v35 h))
 (ob (y2 .eql v9 (AV.int .i64 26)) fun v36 =>
(y94 v1 v2 v36 h))))
def y1td (s : St) : OX := yfc (s 1) (s 2) (s 9) s.h
theorem y1fa : T1 yox y1f (y1 0 y1f xN) [.cell 2 true 4, .t 3] y1td := sq y138 fun _ => by kernel_rfl
def yfp (v1 v2 v9 v25 : AV) (h : Heap) : OX :=
cnd v25
 ((ynh v1 v2 h))
 ((yfc v1 v2 v9 h))
def y1vz (s : St) : OX := yfp (s 1) (s 2) (s 9) (s 25) s.h
theorem y12x : T1 yuu y1f (y1 0 y1f xN) [.cell 2 true 4, .t 3] y1vz := fun s => (yu (y1gs s) (y1fa s)).trans (by kernel_rfl)
def yft (v1 v2 v9 : AV) (h : Heap) : OX :=
ob (y2 .eql v9 (AV.int .i64 30)) fun v26 =>
(yfp v1 v2 v9 v26 h)
def y1v0 (s : St) : OX := yft (s 1) (s 2) (s 9) s.h
theorem y12y : T1 yqr y1f (y1 0 y1f xN) [.cell 2 true 4, .t 3] y1v0 := sq y12x fun _ => by kernel_rfl
def yfd (v1 v2 v9 v10 : AV) (h : Heap) : OX :=
cnd v10
 ((yn2 v1 v2 h))
 ((yft v1 v2 v9 h))
def y1qc (s : St) : OX := yfd (s 1) (s 2) (s 9) (s 10) s.h
theorem y1eo : T1 ytz y1f (y1 0 y1f xN) [.cell 2 true 4, .t 3] y1qc := fun s => (yu (y1i9 s) (y12y s)).trans (by kernel_rfl)
def yej (v1 v2 v9 : AV) (h : Heap) : OX :=
ob (y2 .eql v9 (AV.int .i64 29)) fun v11 =>
(yfd v1 v2 v9 v11 h)
def y110 (s : St) : OX := yej (s 1) (s 2) (s 9) s.h
theorem y19m : T1 yuq y1f (y1 0 y1f xN) [.cell 2 true 4, .t 3] y110 := sq y1eo fun _ => by kernel_rfl
theorem y15p : T1 yro y1f xN [.cell 2 true 4, .t 3] y110 := fun s => yk.trans (y19m s)
def ye5 (v1 v2 : AV) (h : Heap) : OX :=
ob (evFa 0 v1) fun v8 =>
ob (evLd false 1 v8 h) fun v9 =>
(yej v1 v2 v9 h)
def y1dz (s : St) : OX := ye5 (s 1) (s 2) s.h
theorem y1b2 : T1 ytg y1f xN [.cell 2 true 4, .t 3] y1dz := sq y15p fun _ => by kernel_rfl
theorem y16i : T0 yw5 [.cell 2 true 4, .t 3] y1dz := sq y1le y1b2
def ydo (v0 : AV) (h : Heap) : OX :=
oh (newC 0 (some 0) (cellsOf v0) h) fun v1 h5 =>
oh (newC 0 (some 1) [(.int .i64 0), (.int .i64 0), (.int .i64 0), (.int .i64 0)] h5) fun v2 h6 =>
(ye5 v1 v2 h6)
def y1u1 (s : St) : OX := ydo (s 0) s.h
theorem y0k : T0 ywv [.cell 2 true 4, .t 3] y1u1 := sq y16i fun _ => by kernel_rfl
@[simp] theorem y235 : E.pure 51 = true := rfl
theorem y1ka (v0 : AV) : (y5 E).p 51 [v0] = ydo v0 [⟨0, .dead⟩, ⟨0, .dead⟩] :=
  (y10 (cf := y1yl) (by kernel_rfl) rfl).trans ((y0k _).trans (by kernel_rfl))
def ya5 (h : Heap) : OX :=
(y7 h (AV.int .i32 0))
def y3g (s : St) : OX := ya5 s.h
theorem y1l5 : T0 y0u [.t 6] y3g := fun _ => by kernel_rfl
def y9q (v0 v1 v2 v7 v23 : AV) (h : Heap) : OX :=
cnd v23
 (ob (y2 .eql v0 (AV.int .i64 112)) fun v27 =>
ob (y2q .i64 v1) fun v29 =>
ob (y2q .i64 v2) fun v31 =>
oh (y4 E (y5 E) 0 none true 132 [v27, v29, v31] h) fun v32 h1 =>
ob (y2q .i32 v32) fun v33 =>
(y7 h1 v33))
 (ob (y2 .eql v7 (AV.int .i64 120)) fun v35 =>
cnd v35
 (ob (y2q .u32 v2) fun v38 =>
ob (y2 .and v38 (AV.int .u32 31)) fun v39 =>
ob (y2 .shl v1 v39) fun v40 =>
(y7 h v40))
 (ob (y2 .eql v7 (AV.int .i64 122)) fun v42 =>
cnd v42
 (ob (y2q .u32 v2) fun v45 =>
ob (y2 .and v45 (AV.int .u32 31)) fun v46 =>
ob (y2 .shr v1 v46) fun v47 =>
(y7 h v47))
 (ob (y2 .eql v7 (AV.int .i64 124)) fun v49 =>
cnd v49
 (ob (y2q .u32 v1) fun v51 =>
ob (y2q .u32 v2) fun v53 =>
ob (y2 .and v53 (AV.int .u32 31)) fun v54 =>
ob (y2 .shr v51 v54) fun v55 =>
ob (y2q .i32 v55) fun v56 =>
(y7 h v56))
 (ob (y2 .eql v7 (AV.int .i64 126)) fun v58 =>
cnd v58
 (ob (y2 .and v1 v2) fun v61 =>
(y7 h v61))
 (ob (y2 .eql v7 (AV.int .i64 128)) fun v63 =>
cnd v63
 (ob (y2 .or v1 v2) fun v66 =>
(y7 h v66))
 (ob (y2 .eql v7 (AV.int .i64 130)) fun v68 =>
cnd v68
 (ob (y2 .xor v1 v2) fun v71 =>
(y7 h v71))
 ((ya5 h))))))))
def y1ye (s : St) : OX := y9q (s 0) (s 1) (s 2) (s 7) (s 23) s.h
theorem y1ms : T1 y19k y3g (y1 0 y3g xN) [.t 6] y1ye := fun _ => by kernel_rfl
def ya7 (v0 v1 v2 v7 : AV) (h : Heap) : OX :=
ob (y2 .eql v7 (AV.int .i64 108)) fun v24 =>
cnd v24
 ((y9q v0 v1 v2 v7 v24 h))
 (ob (y2 .eql v7 (AV.int .i64 112)) fun v25 =>
(y9q v0 v1 v2 v7 v25 h))
def y1zj (s : St) : OX := ya7 (s 0) (s 1) (s 2) (s 7) s.h
theorem y1jg : T1 y1g0 y3g (y1 0 y3g xN) [.t 6] y1zj := sq y1ms fun _ => by kernel_rfl
def ya4 (v0 v1 v2 v7 v18 : AV) (h : Heap) : OX :=
cnd v18
 (ob (y2 .mul v1 v2) fun v22 =>
(y7 h v22))
 ((ya7 v0 v1 v2 v7 h))
def y1x1 (s : St) : OX := ya4 (s 0) (s 1) (s 2) (s 7) (s 18) s.h
theorem y1jk : T1 y193 y3g (y1 0 y3g xN) [.t 6] y1x1 := fun s => (yu rfl (y1jg s)).trans (by kernel_rfl)
def yaa (v0 v1 v2 v7 : AV) (h : Heap) : OX :=
ob (y2 .eql v7 (AV.int .i64 104)) fun v19 =>
(ya4 v0 v1 v2 v7 v19 h)
def y1xa (s : St) : OX := yaa (s 0) (s 1) (s 2) (s 7) s.h
theorem y1ko : T1 y18p y3g (y1 0 y3g xN) [.t 6] y1xa := sq y1jk fun _ => by kernel_rfl
def yat (v0 v1 v2 v7 v13 : AV) (h : Heap) : OX :=
cnd v13
 (ob (y2 .sub v1 v2) fun v17 =>
(y7 h v17))
 ((yaa v0 v1 v2 v7 h))
def y1yz (s : St) : OX := yat (s 0) (s 1) (s 2) (s 7) (s 13) s.h
theorem y1nj : T1 y17r y3g (y1 0 y3g xN) [.t 6] y1yz := fun s => (yu rfl (y1ko s)).trans (by kernel_rfl)
def ya8 (v0 v1 v2 v7 : AV) (h : Heap) : OX :=
ob (y2 .eql v7 (AV.int .i64 100)) fun v14 =>
(yat v0 v1 v2 v7 v14 h)
def y221 (s : St) : OX := ya8 (s 0) (s 1) (s 2) (s 7) s.h
theorem y1iq : T1 y1aq y3g (y1 0 y3g xN) [.t 6] y221 := sq y1nj fun _ => by kernel_rfl
def yb6 (v0 v1 v2 v7 v8 : AV) (h : Heap) : OX :=
cnd v8
 (ob (y2 .add v1 v2) fun v12 =>
(y7 h v12))
 ((ya8 v0 v1 v2 v7 h))
def y21i (s : St) : OX := yb6 (s 0) (s 1) (s 2) (s 7) (s 8) s.h
theorem y1mp : T1 y13r y3g (y1 0 y3g xN) [.t 6] y21i := fun s => (yu rfl (y1iq s)).trans (by kernel_rfl)
def ybf (v0 v1 v2 v7 : AV) (h : Heap) : OX :=
ob (y2 .eql v7 (AV.int .i64 96)) fun v9 =>
(yb6 v0 v1 v2 v7 v9 h)
def y1p6 (s : St) : OX := ybf (s 0) (s 1) (s 2) (s 7) s.h
theorem y1ls : T1 y12g y3g (y1 0 y3g xN) [.t 6] y1p6 := sq y1mp fun _ => by kernel_rfl
theorem y125 : T1 yv4 y3g xN [.t 6] y1p6 := fun s => yk.trans (y1ls s)
def y59 (v0 v1 v2 : AV) (h : Heap) : OX :=
(ybf v0 v1 v2 v0 h)
def y19o (s : St) : OX := y59 (s 0) (s 1) (s 2) s.h
theorem y126 : T1 yq5 y3g xN [.t 6] y19o := sq y125 fun _ => by kernel_rfl
theorem y1cf : T0 ywh [.t 6] y19o := sq y1l5 y126
def y54 (v0 v1 v2 : AV) (h : Heap) : OX :=
(y59 v0 v1 v2 h)
def y1ra (s : St) : OX := y54 (s 0) (s 1) (s 2) s.h
theorem y14l : T0 ywf [.t 6] y1ra := sq y1cf fun _ => by kernel_rfl
@[simp] theorem y22s : E.pure 130 = true := rfl
theorem y23d (v0 v1 v2 : AV) : (y5 E).p 130 [v0, v1, v2] = y54 v0 v1 v2 [] :=
  (y10 (cf := y21t) (by kernel_rfl) rfl).trans ((y14l _).trans (by kernel_rfl))
def ya3 (h : Heap) : OX :=
(y7 h (AV.int .i64 0))
def y3e (s : St) : OX := ya3 s.h
theorem y1gm : T0 y1ds [.t 6] y3e := fun _ => by kernel_rfl
def y9g (v0 v1 v2 v7 v23 : AV) (h : Heap) : OX :=
cnd v23
 (ob (y2 .eql v0 (AV.int .i64 113)) fun v27 =>
oh (y4 E (y5 E) 0 none true 132 [v27, v1, v2] h) fun v30 h1 =>
(y7 h1 v30))
 (ob (y2 .eql v7 (AV.int .i64 121)) fun v32 =>
cnd v32
 (ob (y2q .u64 v2) fun v35 =>
ob (y2 .and v35 (AV.int .u64 63)) fun v36 =>
ob (y2 .shl v1 v36) fun v37 =>
(y7 h v37))
 (ob (y2 .eql v7 (AV.int .i64 123)) fun v39 =>
cnd v39
 (ob (y2q .u64 v2) fun v42 =>
ob (y2 .and v42 (AV.int .u64 63)) fun v43 =>
ob (y2 .shr v1 v43) fun v44 =>
(y7 h v44))
 (ob (y2 .eql v7 (AV.int .i64 125)) fun v46 =>
cnd v46
 (ob (y2q .u64 v1) fun v48 =>
ob (y2q .u64 v2) fun v50 =>
ob (y2 .and v50 (AV.int .u64 63)) fun v51 =>
ob (y2 .shr v48 v51) fun v52 =>
ob (y2q .i64 v52) fun v53 =>
(y7 h v53))
 (ob (y2 .eql v7 (AV.int .i64 127)) fun v55 =>
cnd v55
 (ob (y2 .and v1 v2) fun v58 =>
(y7 h v58))
 (ob (y2 .eql v7 (AV.int .i64 129)) fun v60 =>
cnd v60
 (ob (y2 .or v1 v2) fun v63 =>
(y7 h v63))
 (ob (y2 .eql v7 (AV.int .i64 131)) fun v65 =>
cnd v65
 (ob (y2 .xor v1 v2) fun v68 =>
(y7 h v68))
 ((ya3 h))))))))
def y1z3 (s : St) : OX := y9g (s 0) (s 1) (s 2) (s 7) (s 23) s.h
theorem y1lg : T1 y1fn y3e (y1 0 y3e xN) [.t 6] y1z3 := fun _ => by kernel_rfl
def y9w (v0 v1 v2 v7 : AV) (h : Heap) : OX :=
ob (y2 .eql v7 (AV.int .i64 109)) fun v24 =>
cnd v24
 ((y9g v0 v1 v2 v7 v24 h))
 (ob (y2 .eql v7 (AV.int .i64 113)) fun v25 =>
(y9g v0 v1 v2 v7 v25 h))
def y1wu (s : St) : OX := y9w (s 0) (s 1) (s 2) (s 7) s.h
theorem y1m5 : T1 y1ez y3e (y1 0 y3e xN) [.t 6] y1wu := sq y1lg fun _ => by kernel_rfl
def ya1 (v0 v1 v2 v7 v18 : AV) (h : Heap) : OX :=
cnd v18
 (ob (y2 .mul v1 v2) fun v22 =>
(y7 h v22))
 ((y9w v0 v1 v2 v7 h))
def y1xq (s : St) : OX := ya1 (s 0) (s 1) (s 2) (s 7) (s 18) s.h
theorem y1mi : T1 y11o y3e (y1 0 y3e xN) [.t 6] y1xq := fun s => (yu rfl (y1m5 s)).trans (by kernel_rfl)
def yb8 (v0 v1 v2 v7 : AV) (h : Heap) : OX :=
ob (y2 .eql v7 (AV.int .i64 105)) fun v19 =>
(ya1 v0 v1 v2 v7 v19 h)
def y1zy (s : St) : OX := yb8 (s 0) (s 1) (s 2) (s 7) s.h
theorem y1mv : T1 y12a y3e (y1 0 y3e xN) [.t 6] y1zy := sq y1mi fun _ => by kernel_rfl
def ya2 (v0 v1 v2 v7 v13 : AV) (h : Heap) : OX :=
cnd v13
 (ob (y2 .sub v1 v2) fun v17 =>
(y7 h v17))
 ((yb8 v0 v1 v2 v7 h))
def y1zn (s : St) : OX := ya2 (s 0) (s 1) (s 2) (s 7) (s 13) s.h
theorem y1ic : T1 y196 y3e (y1 0 y3e xN) [.t 6] y1zn := fun s => (yu rfl (y1mv s)).trans (by kernel_rfl)
def yb1 (v0 v1 v2 v7 : AV) (h : Heap) : OX :=
ob (y2 .eql v7 (AV.int .i64 101)) fun v14 =>
(ya2 v0 v1 v2 v7 v14 h)
def y1z7 (s : St) : OX := yb1 (s 0) (s 1) (s 2) (s 7) s.h
theorem y1n4 : T1 yzy y3e (y1 0 y3e xN) [.t 6] y1z7 := sq y1ic fun _ => by kernel_rfl
def yak (v0 v1 v2 v7 v8 : AV) (h : Heap) : OX :=
cnd v8
 (ob (y2 .add v1 v2) fun v12 =>
(y7 h v12))
 ((yb1 v0 v1 v2 v7 h))
def y1z8 (s : St) : OX := yak (s 0) (s 1) (s 2) (s 7) (s 8) s.h
theorem y1md : T1 y18o y3e (y1 0 y3e xN) [.t 6] y1z8 := fun s => (yu rfl (y1n4 s)).trans (by kernel_rfl)
def yap (v0 v1 v2 v7 : AV) (h : Heap) : OX :=
ob (y2 .eql v7 (AV.int .i64 97)) fun v9 =>
(yak v0 v1 v2 v7 v9 h)
def y1ou (s : St) : OX := yap (s 0) (s 1) (s 2) (s 7) s.h
theorem y1hu : T1 y1ek y3e (y1 0 y3e xN) [.t 6] y1ou := sq y1md fun _ => by kernel_rfl
theorem y17q : T1 yx0 y3e xN [.t 6] y1ou := fun s => yk.trans (y1hu s)
def y5a (v0 v1 v2 : AV) (h : Heap) : OX :=
(yap v0 v1 v2 v0 h)
def y1ei (s : St) : OX := y5a (s 0) (s 1) (s 2) s.h
theorem y12p : T1 yot y3e xN [.t 6] y1ei := sq y17q fun _ => by kernel_rfl
theorem y1f7 : T0 yvj [.t 6] y1ei := sq y1gm y12p
def y58 (v0 v1 v2 : AV) (h : Heap) : OX :=
(y5a v0 v1 v2 h)
def y1ro (s : St) : OX := y58 (s 0) (s 1) (s 2) s.h
theorem y18t : T0 ysq [.t 6] y1ro := sq y1f7 fun _ => by kernel_rfl
@[simp] theorem y225 : E.pure 131 = true := rfl
theorem y24a (v0 v1 v2 : AV) : (y5 E).p 131 [v0, v1, v2] = y58 v0 v1 v2 [] :=
  (y10 (cf := y21w) (by kernel_rfl) rfl).trans ((y18t _).trans (by kernel_rfl))
def q9_1 (h : Heap) : OX :=
(y7 h (AV.int .i64 0))
def y2c (s : St) : OX := q9_1 s.h
theorem y1vh : T0 y1o5 [.t 2] y2c := fun _ => by kernel_rfl
def y198 (v0 v3 v4 : AV) (h : Heap) : OX :=
  W E 0 yo7 ⟨[(0, v0), (3, v3), (4, v4)], h⟩ y2c (y1 3 y2c (y1 2 y2c xN)) (finP [.t 2])
def yhz (s : St) : OX := y198 (s 0) (s 3) (s 4) s.h
theorem ypn : T1 yo7 y2c (y1 3 y2c (y1 2 y2c xN)) [.t 2] yhz := fun s => yf.trans (by kernel_rfl)
def q9_3 (v0 v3 v4 : AV) (h : Heap) : OX :=
ob (y2 .add v4 (AV.int .i64 1)) fun v42 =>
(y198 v0 v3 v42 h)
def yga (s : St) : OX := q9_3 (s 0) (s 3) (s 4) s.h
theorem y1vn : T1 y1p4 yhz (y1 3 y2c (y1 2 y2c xN)) [.t 2] yga := fun _ => by kernel_rfl
def q9_4 (h : Heap) : OX :=
(y7 h (AV.int .i64 0))
def y23i (s : St) : OX := q9_4 s.h
theorem y1sb : T1 y1ok yga (y1 4 yga (y1 3 y2c (y1 2 y2c xN))) [.t 2] y23i := fun _ => by kernel_rfl
def q9_5 (v0 v3 v4 : AV) (h : Heap) : OX :=
ob (y2 .add v3 (AV.int .i64 1)) fun v49 =>
ob (y1a1 v0 (some v49) (some v4)) fun v51 =>
oh (y4 E (y5 E) 0 none true 60 [v51, (AV.bool false)] h) fun v52 h1 =>
cnd v52
 (ob (y2 .add v4 (AV.int .i64 1)) fun v54 =>
(y7 h1 v54))
 ((q9_4 h1))
def y22y (s : St) : OX := q9_5 (s 0) (s 3) (s 4) s.h
theorem y1te : T1 y1o8 yga (y1 4 yga (y1 3 y2c (y1 2 y2c xN))) [.t 2] y22y := sq y1sb fun _ => by kernel_rfl
def q9_6 (v0 v3 v4 v46 : AV) (h : Heap) : OX :=
cnd v46
 ((q9_5 v0 v3 v4 h))
 ((q9_3 v0 v3 v4 h))
def y238 (s : St) : OX := q9_6 (s 0) (s 3) (s 4) (s 46) s.h
theorem y1vu : T1 y1p9 yga (y1 4 yga (y1 3 y2c (y1 2 y2c xN))) [.t 2] y238 := fun s => (yu (y1te s) rfl).trans (by kernel_rfl)
def q9_7 (v0 v3 v4 : AV) (h : Heap) : OX :=
ob (y82 v0 v4) fun v45 =>
ob (y2 .eql v45 (AV.int .u8 59)) fun v46 =>
(q9_6 v0 v3 v4 v46 h)
def y1s4 (s : St) : OX := q9_7 (s 0) (s 3) (s 4) s.h
theorem y1sa : T1 y1or yga (y1 4 yga (y1 3 y2c (y1 2 y2c xN))) [.t 2] y1s4 := sq y1vu fun _ => by kernel_rfl
theorem y1pp : T1 y1p2 yga (y1 3 y2c (y1 2 y2c xN)) [.t 2] y1s4 := fun s => yk.trans (y1sa s)
theorem y1v4 : T1 y1ob yhz (y1 3 y2c (y1 2 y2c xN)) [.t 2] y1s4 := sq y1vn y1pp
def yz5 (v0 v3 v4 : AV) (h : Heap) : OX :=
ob (yy 0 v0 h) fun v39 =>
ob (y2 .lss v4 v39) fun v40 =>
cnd v40
 ((q9_7 v0 v3 v4 h))
 ((q9_1 h))
def y20b (s : St) : OX := yz5 (s 0) (s 3) (s 4) s.h
theorem y1js : T1 y06 yhz (y1 3 y2c (y1 2 y2c xN)) [.t 2] y20b := sq y1v4 fun _ => by kernel_rfl
theorem ypl (v0 v3 v4 : AV) (h : Heap) : y198 v0 v3 v4 h = (yz5 v0 v3 v4 h) :=
  y2b.trans ((y1h _ _ _ (n' := yhz) (fun s => ypn s)).trans ((y1js _).trans (by kernel_rfl)))
theorem y1i0 : T1 yzz y2c (y1 2 y2c xN) [.t 2] yhz := fun s => yk.trans (ypn s)
def y1rw (v0 v3 : AV) (h : Heap) : OX :=
ob (y2 .add v3 (AV.int .i64 1)) fun v36 =>
(y198 v0 v3 v36 h)
def y1zq (s : St) : OX := y1rw (s 0) (s 3) s.h
theorem y1l3 : T1 y1cc y2c (y1 2 y2c xN) [.t 2] y1zq := sq y1i0 fun _ => by kernel_rfl
def y1ia (v0 v3 v33 : AV) (h : Heap) : OX :=
cnd v33
 ((y1rw v0 v3 h))
 ((q9_1 h))
def y1zr (s : St) : OX := y1ia (s 0) (s 3) (s 33) s.h
theorem y1kf : T1 y1cd y2c (y1 2 y2c xN) [.t 2] y1zr := fun s => (yu (y1l3 s) rfl).trans (by kernel_rfl)
def y1j9 (v0 v3 v27 : AV) (h : Heap) : OX :=
ob (y2 .eql v27 (AV.int .u8 76)) fun v34 =>
(y1ia v0 v3 v34 h)
def y1yt (s : St) : OX := y1j9 (s 0) (s 3) (s 27) s.h
theorem y1ld : T1 y14p y2c (y1 2 y2c xN) [.t 2] y1yt := sq y1kf fun _ => by kernel_rfl
def yms (v0 v3 v27 v28 : AV) (h : Heap) : OX :=
cnd v28
 (ob (y2 .add v3 (AV.int .i64 1)) fun v32 =>
(y7 h v32))
 ((y1j9 v0 v3 v27 h))
def y1ze (s : St) : OX := yms (s 0) (s 3) (s 27) (s 28) s.h
theorem y1jx : T1 y1aj y2c (y1 2 y2c xN) [.t 2] y1ze := fun s => (yu rfl (y1ld s)).trans (by kernel_rfl)
def yym (v0 v3 v27 : AV) (h : Heap) : OX :=
ob (y2 .eql v27 (AV.int .u8 73)) fun v29 =>
cnd v29
 ((yms v0 v3 v27 v29 h))
 (ob (y2 .eql v27 (AV.int .u8 74)) fun v30 =>
(yms v0 v3 v27 v30 h))
def y1pb (s : St) : OX := yym (s 0) (s 3) (s 27) s.h
theorem y1l8 : T1 y12c y2c (y1 2 y2c xN) [.t 2] y1pb := sq y1jx fun _ => by kernel_rfl
theorem y1h0 : T1 y1f1 y2c xN [.t 2] y1pb := fun s => yk.trans (y1l8 s)
def yxr (v0 v3 : AV) (h : Heap) : OX :=
ob (y82 v0 v3) fun v27 =>
(yym v0 v3 v27 h)
def y1ow (s : St) : OX := yxr (s 0) (s 3) s.h
theorem y1jn : T1 y14o y2c xN [.t 2] y1ow := sq y1h0 fun _ => by kernel_rfl
theorem y1ho : T0 y12k [.t 2] y1ow := sq y1vh y1jn
def yg5 (v0 v3 : AV) (h : Heap) : OX :=
ob (y2 .gtr v3 (AV.int .i64 8)) fun v18 =>
gb v18 false (some v3) fun v20 =>
gb v18 false (some v0) fun v21 =>
gb v18 false (yy 0 v21 h) fun v22 =>
gb v18 false (y2 .eql v20 v22) fun v23 =>
ob (y9 v18 (AV.bool true) v23) fun v24 =>
cnd v24
 ((y7 h (AV.int .i64 0)))
 ((yxr v0 v3 h))
def ych (s : St) : OX := yg5 (s 0) (s 3) s.h
theorem y1gn : T0 y19y [.t 2] ych := sq y1ho fun _ => by kernel_rfl
def ykf (v0 v3 : AV) (h : Heap) : OX :=
  W E 0 yix ⟨[(0, v0), (3, v3)], h⟩ ych (y1 0 ych xN) (finP [.t 2])
def ybl (s : St) : OX := ykf (s 0) (s 3) s.h
theorem yls : T1 yix ych (y1 0 ych xN) [.t 2] ybl := fun s => yf.trans (by kernel_rfl)
def y1uv (v0 v3 : AV) (h : Heap) : OX :=
ob (y2 .add v3 (AV.int .i64 1)) fun v16 =>
(ykf v0 v16 h)
def y21f (s : St) : OX := y1uv (s 0) (s 3) s.h
theorem y1jc : T1 yzt ybl (y1 0 ych xN) [.t 2] y21f := fun _ => by kernel_rfl
def y1au (v0 v3 : AV) (h : Heap) : OX :=
ob (yy 0 v0 h) fun v7 =>
ob (y2 .lss v3 v7) fun v8 =>
gb v8 true (some v0) fun v10 =>
gb v8 true (some v3) fun v11 =>
gb v8 true (y82 v10 v11) fun v12 =>
gb v8 true (y2 .eql v12 (AV.int .u8 91)) fun v13 =>
ob (y9 v8 v13 (AV.bool false)) fun v14 =>
cnd v14
 ((y1uv v0 v3 h))
 ((yg5 v0 v3 h))
def y215 (s : St) : OX := y1au (s 0) (s 3) s.h
theorem y1h3 : T1 y1gh ybl (y1 0 ych xN) [.t 2] y215 := sq y1jc fun _ => by kernel_rfl
theorem ylh (v0 v3 : AV) (h : Heap) : ykf v0 v3 h = (y1au v0 v3 h) :=
  y2b.trans ((y1h _ _ _ (n' := ybl) (fun s => yls s)).trans ((y1h3 _).trans (by kernel_rfl)))
theorem y1m6 : T1 y157 ych xN [.t 2] ybl := fun s => yk.trans (yls s)
theorem y1kg : T0 y1fm [.t 2] ybl := sq y1gn y1m6
def y1t7 (v0 : AV) (h : Heap) : OX :=
(ykf v0 (AV.int .i64 0) h)
def y1wv (s : St) : OX := y1t7 (s 0) s.h
theorem y1k3 : T0 y19p [.t 2] y1wv := sq y1kg fun _ => by kernel_rfl
def y1r8 (v0 : AV) (h : Heap) : OX :=
(y1t7 v0 h)
def y20a (s : St) : OX := y1r8 (s 0) s.h
theorem y1kc : T0 y13q [.t 2] y20a := sq y1k3 fun _ => by kernel_rfl
@[simp] theorem y25c : E.pure 44 = true := rfl
theorem x_q9 (v0 : AV) : (y5 E).p 44 [v0] = y1r8 v0 [] :=
  (y10 (cf := c_q9) (by kernel_rfl) rfl).trans ((y1kc _).trans (by kernel_rfl))
def y16p (v1 v2 : AV) (h : Heap) : OX :=
ob (y2 .quo v1 v2) fun v23 =>
(y7 h v23)
def y5d (s : St) : OX := y16p (s 1) (s 2) s.h
theorem y1ll : T0 y0h [.t 6] y5d := fun _ => by kernel_rfl
def y191 (v1 : AV) (h : Heap) : OX :=
ob (evUn .neg v1) fun v15 =>
(y7 h v15)
def y1xb (s : St) : OX := y191 (s 1) s.h
theorem y1l7 : T1 y1ap y5d (y1 0 y5d xN) [.t 6] y1xb := fun _ => by kernel_rfl
def y1an (v0 v1 : AV) (h : Heap) : OX :=
cnd v0
 ((y7 h (AV.int .i64 0)))
 ((y191 v1 h))
def y20y (s : St) : OX := y1an (s 0) (s 1) s.h
theorem y1nc : T1 y12n y5d (y1 0 y5d xN) [.t 6] y20y := sq y1l7 fun _ => by kernel_rfl
def y1gg (v0 v1 v2 v10 : AV) (h : Heap) : OX :=
cnd v10
 ((y1an v0 v1 h))
 (cnd v0
 (ob (y2 .rem v1 v2) fun v20 =>
(y7 h v20))
 ((y16p v1 v2 h)))
def y1yp (s : St) : OX := y1gg (s 0) (s 1) (s 2) (s 10) s.h
theorem y1io : T1 y1e8 y5d (y1 0 y5d xN) [.t 6] y1yp := fun s => (yu (y1nc s) rfl).trans (by kernel_rfl)
def y14h (v0 v1 v2 : AV) (h : Heap) : OX :=
ob (y2 .eql v2 (AV.int .i64 (-1))) fun v12 =>
(y1gg v0 v1 v2 v12 h)
def y1zb (s : St) : OX := y14h (s 0) (s 1) (s 2) s.h
theorem y1mu : T1 y11s y5d (y1 0 y5d xN) [.t 6] y1zb := sq y1io fun _ => by kernel_rfl
def y11u (v0 v1 v2 v7 : AV) (h : Heap) : OX :=
cnd v7
 ((y7 h (AV.int .i64 0)))
 ((y14h v0 v1 v2 h))
def y1z9 (s : St) : OX := y11u (s 0) (s 1) (s 2) (s 7) s.h
theorem y1n3 : T1 y15w y5d (y1 0 y5d xN) [.t 6] y1z9 := fun s => (yu rfl (y1mu s)).trans (by kernel_rfl)
def y17u (v0 v1 v2 : AV) (h : Heap) : OX :=
ob (y2 .eql v2 (AV.int .i64 0)) fun v9 =>
(y11u v0 v1 v2 v9 h)
def yzk (s : St) : OX := y17u (s 0) (s 1) (s 2) s.h
theorem y1hk : T1 yz7 y5d (y1 0 y5d xN) [.t 6] yzk := sq y1n3 fun _ => by kernel_rfl
theorem y1nb : T1 y119 y5d xN [.t 6] yzk := fun s => yk.trans (y1hk s)
theorem y1hc : T0 y1g1 [.t 6] yzk := sq y1ll y1nb
def ymb (v0 v1 v2 : AV) (h : Heap) : OX :=
(y17u v0 v1 v2 h)
def y1r5 (s : St) : OX := ymb (s 0) (s 1) (s 2) s.h
theorem y1cs : T0 ywm [.t 6] y1r5 := sq y1hc fun _ => by kernel_rfl
@[simp] theorem y22w : E.pure 132 = true := rfl
theorem y24c (v0 v1 v2 : AV) : (y5 E).p 132 [v0, v1, v2] = ymb v0 v1 v2 [] :=
  (y10 (cf := y21q) (by kernel_rfl) rfl).trans ((y1cs _).trans (by kernel_rfl))
def q7_1 (h : Heap) : OX :=
(y7 h (AV.bool true))
def yfr (s : St) : OX := q7_1 s.h
theorem y1sc : T0 y1oe [.t 4] yfr := fun _ => by kernel_rfl
def y01 (v1 v17 v18 v19 : AV) (h : Heap) : OX :=
  W E 0 ynt ⟨[(1, v1), (17, v17), (18, v18), (19, v19)], h⟩ yfr (y1 0 yfr xN) (finP [.t 4])
def yf5 (s : St) : OX := y01 (s 1) (s 17) (s 18) (s 19) s.h
theorem ypi : T1 ynt yfr (y1 0 yfr xN) [.t 4] yf5 := fun s => yf.trans (by kernel_rfl)
def q7_3 (v1 v17 v18 v19 : AV) (h : Heap) : OX :=
ob (y2 .add v19 (AV.int .i64 1)) fun v71 =>
(y01 v1 v17 v18 v71 h)
def y23b (s : St) : OX := q7_3 (s 1) (s 17) (s 18) (s 19) s.h
theorem y1uy : T1 y1nu yf5 (y1 0 yfr xN) [.t 4] y23b := fun _ => by kernel_rfl
def q7_4 (v1 v17 v18 v19 : AV) (h : Heap) : OX :=
ob (yi 1 v17 v19) fun v21 =>
ob (evLd false 1 v21 h) fun v22 =>
ob (y2 .geq v22 (AV.int .u8 97)) fun v24 =>
gb v24 true (some v22) fun v26 =>
gb v24 true (y2 .leq v26 (AV.int .u8 122)) fun v27 =>
ob (y9 v24 v27 (AV.bool false)) fun v28 =>
gb v28 false (some v22) fun v30 =>
gb v28 false (y2 .geq v30 (AV.int .u8 65)) fun v31 =>
gb v28 false (some v31) fun v32 =>
gb v32 true (some v22) fun v33 =>
gb v32 true (y2 .leq v33 (AV.int .u8 90)) fun v34 =>
gb v28 false (y9 v32 v34 (AV.bool false)) fun v35 =>
ob (y9 v28 (AV.bool true) v35) fun v36 =>
gb v36 false (some v22) fun v38 =>
gb v36 false (y2 .geq v38 (AV.int .u8 48)) fun v39 =>
gb v36 false (some v39) fun v40 =>
gb v40 true (some v22) fun v41 =>
gb v40 true (y2 .leq v41 (AV.int .u8 57)) fun v42 =>
gb v36 false (y9 v40 v42 (AV.bool false)) fun v43 =>
ob (y9 v36 (AV.bool true) v43) fun v44 =>
gb v44 false (some v22) fun v46 =>
gb v44 false (y2 .eql v46 (AV.int .u8 95)) fun v47 =>
ob (y9 v44 (AV.bool true) v47) fun v48 =>
gb v48 false (some v22) fun v50 =>
gb v48 false (y2 .eql v50 (AV.int .u8 36)) fun v51 =>
ob (y9 v48 (AV.bool true) v51) fun v52 =>
gb v52 false (some v22) fun v54 =>
gb v52 false (y2 .eql v54 (AV.int .u8 47)) fun v55 =>
ob (y9 v52 (AV.bool true) v55) fun v56 =>
ob (evUn .not v56) fun v58 =>
gb v58 true (some v1) fun v60 =>
gb v58 true (some v60) fun v61 =>
gb v61 true (some v22) fun v62 =>
gb v61 true (y2 .eql v62 (AV.int .u8 60)) fun v63 =>
gb v61 true (some v63) fun v64 =>
gb v64 false (some v22) fun v65 =>
gb v64 false (y2 .eql v65 (AV.int .u8 62)) fun v66 =>
gb v61 true (y9 v64 (AV.bool true) v66) fun v67 =>
gb v58 true (y9 v61 v67 (AV.bool false)) fun v68 =>
gb v58 true (evUn .not v68) fun v69 =>
ob (y9 v58 v69 (AV.bool false)) fun v70 =>
cnd v70
 ((y7 h (AV.bool false)))
 ((q7_3 v1 v17 v18 v19 h))
def y25m (s : St) : OX := q7_4 (s 1) (s 17) (s 18) (s 19) s.h
theorem y1qv : T1 y1of yf5 (y1 0 yfr xN) [.t 4] y25m := sq y1uy fun _ => by kernel_rfl
def q7_5 (v1 v17 v18 v19 v20 : AV) (h : Heap) : OX :=
cnd v20
 ((q7_4 v1 v17 v18 v19 h))
 ((q7_1 h))
def y24x (s : St) : OX := q7_5 (s 1) (s 17) (s 18) (s 19) (s 20) s.h
theorem y1pm : T1 y1nx yf5 (y1 0 yfr xN) [.t 4] y24x := sq y1qv fun _ => by kernel_rfl
def q7_6 (v1 v17 v18 v19 : AV) (h : Heap) : OX :=
ob (y2 .lss v19 v18) fun v20 =>
(q7_5 v1 v17 v18 v19 v20 h)
def y239 (s : St) : OX := q7_6 (s 1) (s 17) (s 18) (s 19) s.h
theorem y1qy : T1 y1o4 yf5 (y1 0 yfr xN) [.t 4] y239 := sq y1pm fun _ => by kernel_rfl
theorem yve (v1 v17 v18 v19 : AV) (h : Heap) : y01 v1 v17 v18 v19 h = (q7_6 v1 v17 v18 v19 h) :=
  y2b.trans ((y1h _ _ _ (n' := yf5) (fun s => ypi s)).trans ((y1qy _).trans (by kernel_rfl)))
theorem y1q1 : T1 y1ot yfr xN [.t 4] yf5 := fun s => yk.trans (ypi s)
def q7_8 (v0 v1 : AV) (h : Heap) : OX :=
oh (s2bC 0 (some 0) v0 h) fun v17 h1 =>
ob (yy 1 v17 h1) fun v18 =>
(y01 v1 v17 v18 (AV.int .i64 0) h1)
def y20n (s : St) : OX := q7_8 (s 0) (s 1) s.h
theorem y1ru : T1 y1o0 yfr xN [.t 4] y20n := sq y1q1 fun _ => by kernel_rfl
theorem y1r6 : T0 y1o9 [.t 4] y20n := sq y1sc y1ru
def y15n (v0 v1 : AV) (h : Heap) : OX :=
ob (yy 0 v0 h) fun v9 =>
ob (y2 .lss v9 (AV.int .i64 1)) fun v10 =>
gb v10 false (some v0) fun v12 =>
gb v10 false (yy 0 v12 h) fun v13 =>
gb v10 false (y2 .gtr v13 (AV.int .i64 60)) fun v14 =>
ob (y9 v10 (AV.bool true) v14) fun v15 =>
cnd v15
 ((y7 h (AV.bool false)))
 ((q7_8 v0 v1 h))
def y1z5 (s : St) : OX := y15n (s 0) (s 1) s.h
theorem y1j7 : T0 y14s [.t 4] y1z5 := sq y1r6 fun _ => by kernel_rfl
def y1fk (v0 v1 : AV) (h : Heap) : OX :=
(y15n v0 v1 h)
def y1y8 (s : St) : OX := y1fk (s 0) (s 1) s.h
theorem y1i1 : T0 y1ak [.t 4] y1y8 := sq y1j7 fun _ => by kernel_rfl
@[simp] theorem y25e : E.pure 60 = true := rfl
theorem x_q7 (v0 v1 : AV) : (y5 E).p 60 [v0, v1] = y1fk v0 v1 [⟨0, .dead⟩] :=
  (y10 (cf := c_q7) (by kernel_rfl) rfl).trans ((y1i1 _).trans (by kernel_rfl))
end
end Go.Vm
