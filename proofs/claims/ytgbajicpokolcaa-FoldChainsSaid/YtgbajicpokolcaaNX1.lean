/- Functions of the machine as plain functions that go on with what follows. -/
import Derived.Test.YtgbajicpokolcaaNEnv
set_option linter.unusedSimpArgs false
set_option linter.unusedVariables false
set_option linter.unusedSectionVars false
namespace Go.Vm
noncomputable section
def y1um (h : Heap) : OX :=
(y7 h (.tup [(AV.int .i64 0), (AV.int .i64 0), (AV.int .i64 0)]))
def y2e (s : St) : OX := y1um s.h
theorem y1lu : T0 y12e [.t 2, .t 3, .t 4] y2e := fun _ => by kernel_rfl
def yyu (v5 v33 : AV) (h : Heap) : OX :=
cnd v33
 ((y7 h (.tup [(AV.int .i64 1), (AV.int .i64 0), (AV.int .i64 1)])))
 (ob (y2 .eql v5 (AV.int .i64 117)) fun v39 =>
cnd v39
 ((y7 h (.tup [(AV.int .i64 2), (AV.int .i64 0), (AV.int .i64 2)])))
 (ob (y2 .eql v5 (AV.int .i64 133)) fun v41 =>
cnd v41
 ((y7 h (.tup [(AV.int .i64 1), (AV.int .i64 0), (AV.int .i64 2)])))
 (ob (y2 .eql v5 (AV.int .i64 136)) fun v43 =>
cnd v43
 ((y7 h (.tup [(AV.int .i64 2), (AV.int .i64 0), (AV.int .i64 1)])))
 ((y1um h)))))
def y20a (s : St) : OX := yyu (s 5) (s 33) s.h
theorem y1os : T1 y11g y2e (y1 0 y2e xN) [.t 2, .t 3, .t 4] y20a := fun _ => by kernel_rfl
def y1sl (v5 : AV) (h : Heap) : OX :=
ob (y2 .eql v5 (AV.int .i64 116)) fun v34 =>
cnd v34
 ((yyu v5 v34 h))
 (ob (y2 .eql v5 (AV.int .i64 145)) fun v35 =>
cnd v35
 ((yyu v5 v35 h))
 (ob (y2 .eql v5 (AV.int .i64 146)) fun v36 =>
cnd v36
 ((yyu v5 v36 h))
 (ob (y2 .eql v5 (AV.int .i64 147)) fun v37 =>
(yyu v5 v37 h))))
def y23w (s : St) : OX := y1sl (s 5) s.h
theorem y1m7 : T1 y194 y2e (y1 0 y2e xN) [.t 2, .t 3, .t 4] y23w := sq y1os fun _ => by kernel_rfl
def y1wm (v5 v31 : AV) (h : Heap) : OX :=
cnd v31
 ((y7 h (.tup [(AV.int .i64 2), (AV.int .i64 2), (AV.int .i64 1)])))
 ((y1sl v5 h))
def y25o (s : St) : OX := y1wm (s 5) (s 31) s.h
theorem y1p9 : T1 y1d2 y2e (y1 0 y2e xN) [.t 2, .t 3, .t 4] y25o := fun s => (yt rfl (y1m7 s)).trans (by kernel_rfl)
def y1w1 (v5 : AV) (h : Heap) : OX :=
ob (y2 .eql v5 (AV.int .i64 148)) fun v32 =>
(y1wm v5 v32 h)
def y20o (s : St) : OX := y1w1 (s 5) s.h
theorem y1o0 : T1 y07 y2e (y1 0 y2e xN) [.t 2, .t 3, .t 4] y20o := sq y1p9 fun _ => by kernel_rfl
def y18h (v5 v27 : AV) (h : Heap) : OX :=
cnd v27
 ((y7 h (.tup [(AV.int .i64 2), (AV.int .i64 1), (AV.int .i64 2)])))
 ((y1w1 v5 h))
def y26g (s : St) : OX := y18h (s 5) (s 27) s.h
theorem y1o2 : T1 yzt y2e (y1 0 y2e xN) [.t 2, .t 3, .t 4] y26g := fun s => (yt rfl (y1o0 s)).trans (by kernel_rfl)
def y1sv (v5 : AV) (h : Heap) : OX :=
ob (y2 .eql v5 (AV.int .i64 121)) fun v28 =>
cnd v28
 ((y18h v5 v28 h))
 (ob (y2 .eql v5 (AV.int .i64 123)) fun v29 =>
cnd v29
 ((y18h v5 v29 h))
 (ob (y2 .eql v5 (AV.int .i64 125)) fun v30 =>
(y18h v5 v30 h)))
def y22m (s : St) : OX := y1sv (s 5) s.h
theorem y1ir : T1 y19r y2e (y1 0 y2e xN) [.t 2, .t 3, .t 4] y22m := sq y1o2 fun _ => by kernel_rfl
def yg2 (v5 v18 : AV) (h : Heap) : OX :=
cnd v18
 ((y7 h (.tup [(AV.int .i64 2), (AV.int .i64 2), (AV.int .i64 2)])))
 ((y1sv v5 h))
def y25f (s : St) : OX := yg2 (s 5) (s 18) s.h
theorem y1og : T1 y1ek y2e (y1 0 y2e xN) [.t 2, .t 3, .t 4] y25f := fun s => (yt rfl (y1ir s)).trans (by kernel_rfl)
def y1v8 (v5 : AV) (h : Heap) : OX :=
ob (y2 .eql v5 (AV.int .i64 97)) fun v19 =>
cnd v19
 ((yg2 v5 v19 h))
 (ob (y2 .eql v5 (AV.int .i64 101)) fun v20 =>
cnd v20
 ((yg2 v5 v20 h))
 (ob (y2 .eql v5 (AV.int .i64 105)) fun v21 =>
cnd v21
 ((yg2 v5 v21 h))
 (ob (y2 .eql v5 (AV.int .i64 109)) fun v22 =>
cnd v22
 ((yg2 v5 v22 h))
 (ob (y2 .eql v5 (AV.int .i64 113)) fun v23 =>
cnd v23
 ((yg2 v5 v23 h))
 (ob (y2 .eql v5 (AV.int .i64 127)) fun v24 =>
cnd v24
 ((yg2 v5 v24 h))
 (ob (y2 .eql v5 (AV.int .i64 129)) fun v25 =>
cnd v25
 ((yg2 v5 v25 h))
 (ob (y2 .eql v5 (AV.int .i64 131)) fun v26 =>
(yg2 v5 v26 h))))))))
def y1zv (s : St) : OX := y1v8 (s 5) s.h
theorem y1l1 : T1 y17n y2e (y1 0 y2e xN) [.t 2, .t 3, .t 4] y1zv := sq y1og fun _ => by kernel_rfl
def y5l (v5 v6 : AV) (h : Heap) : OX :=
cnd v6
 ((y7 h (.tup [(AV.int .i64 1), (AV.int .i64 1), (AV.int .i64 1)])))
 ((y1v8 v5 h))
def y1vp (s : St) : OX := y5l (s 5) (s 6) s.h
theorem y12x : T1 ys5 y2e (y1 0 y2e xN) [.t 2, .t 3, .t 4] y1vp := fun s => (yt rfl (y1l1 s)).trans (by kernel_rfl)
def y1go (v5 : AV) (h : Heap) : OX :=
ob (y2 .eql v5 (AV.int .i64 96)) fun v7 =>
cnd v7
 ((y5l v5 v7 h))
 (ob (y2 .eql v5 (AV.int .i64 100)) fun v8 =>
cnd v8
 ((y5l v5 v8 h))
 (ob (y2 .eql v5 (AV.int .i64 104)) fun v9 =>
cnd v9
 ((y5l v5 v9 h))
 (ob (y2 .eql v5 (AV.int .i64 108)) fun v10 =>
cnd v10
 ((y5l v5 v10 h))
 (ob (y2 .eql v5 (AV.int .i64 112)) fun v11 =>
cnd v11
 ((y5l v5 v11 h))
 (ob (y2 .eql v5 (AV.int .i64 120)) fun v12 =>
cnd v12
 ((y5l v5 v12 h))
 (ob (y2 .eql v5 (AV.int .i64 122)) fun v13 =>
cnd v13
 ((y5l v5 v13 h))
 (ob (y2 .eql v5 (AV.int .i64 124)) fun v14 =>
cnd v14
 ((y5l v5 v14 h))
 (ob (y2 .eql v5 (AV.int .i64 126)) fun v15 =>
cnd v15
 ((y5l v5 v15 h))
 (ob (y2 .eql v5 (AV.int .i64 128)) fun v16 =>
cnd v16
 ((y5l v5 v16 h))
 (ob (y2 .eql v5 (AV.int .i64 130)) fun v17 =>
(y5l v5 v17 h)))))))))))
def y1d9 (s : St) : OX := y1go (s 5) s.h
theorem y1fo : T1 yrf y2e (y1 0 y2e xN) [.t 2, .t 3, .t 4] y1d9 := sq y12x fun _ => by kernel_rfl
theorem y14u : T1 yt4 y2e xN [.t 2, .t 3, .t 4] y1d9 := fun s => yl.trans (y1fo s)
def y13y (v0 : AV) (h : Heap) : OX :=
(y1go v0 h)
def y17g (s : St) : OX := y13y (s 0) s.h
theorem y121 : T1 yx3 y2e xN [.t 2, .t 3, .t 4] y17g := sq y14u fun _ => by kernel_rfl
theorem y17v : T0 yqj [.t 2, .t 3, .t 4] y17g := sq y1lu y121
def y1fr (v0 : AV) (h : Heap) : OX :=
(y13y v0 h)
def y1z3 (s : St) : OX := y1fr (s 0) s.h
theorem y16h : T0 yqs [.t 2, .t 3, .t 4] y1z3 := sq y17v fun _ => by kernel_rfl
@[simp] theorem y2a7 : E.pure 50 = true := rfl
theorem y28f (v0 : AV) : (y6 E).p 50 [v0] = y1fr v0 [] :=
  (yo (cf := y1zx) (by kernel_rfl) rfl).trans ((y16h _).trans (by kernel_rfl))
def q8_1 (v0 : AV) (h : Heap) : OX :=
ob (y2 .neq v0 (AV.str [])) fun v4 =>
gb v4 true (some v0) fun v6 =>
gh v4 true (y4 E (y6 E) 0 none true 44 [v6] h) h fun v7 h1 =>
gb v4 true (some v0) fun v8 =>
gb v4 true (y13 0 v8 h1) fun v9 =>
gb v4 true (y2 .eql v7 v9) fun v10 =>
ob (ye v4 v10 (AV.bool false)) fun v11 =>
(y7 h1 v11)
def y290 (s : St) : OX := q8_1 (s 0) s.h
theorem y1uk : T0 y1qy [.t 2] y290 := fun _ => by kernel_rfl
@[simp] theorem y29a : E.pure 37 = true := rfl
theorem x_q8 (v0 : AV) : (y6 E).p 37 [v0] = q8_1 v0 [] :=
  (yo (cf := c_q8) (by kernel_rfl) rfl).trans ((y1uk _).trans (by kernel_rfl))
def yna (v2 : AV) (h : Heap) : OX :=
ob (yh [(.int .i64 0), (.int .i64 0), (.int .i64 0), (.int .i64 0)] []) fun v73 =>
oh (evSt 4 v2 v73 h) fun _ h1 =>
(ob (evLd true 4 v2 h1) fun r0 =>
  y7 h1 (.tup [r0, (AV.bool false)]))
def y1d (s : St) : OX := yna (s 2) s.h
theorem y1j8 : T0 y0i [.cell 2 true 4, .t 3] y1d := fun _ => by kernel_rfl
def ylk (v1 v2 v4 : AV) (h : Heap) : OX :=
ob (yh [(.int .i64 0), (.int .i64 0), (.int .i64 0), (.int .i64 0)] [(0, 1, (AV.int .i64 (-1))), (1, 1, (AV.int .i64 3)), (2, 1, v4), (3, 1, (AV.int .i64 (-1)))]) fun v16 =>
ob (evFa 5 v1) fun v17 =>
ob (evLd false 1 v17 h) fun v18 =>
ob (y2 .eql v18 (AV.int .i64 0)) fun v19 =>
ofp (fgd v19 false (some ([], []))) fun f6 =>
gb v19 false (evFa 5 v1) fun v21 =>
ofp (fgd v19 false (some (ids1 v21, []))) fun f7 =>
gb v19 false (evLd false 1 v21 h) fun v22 =>
ofp (fgd v19 false (some ([], []))) fun f8 =>
gb v19 false (y2 .eql v22 (AV.int .i64 1)) fun v23 =>
ob (ye v19 (AV.bool true) v23) fun v24 =>
oh (evSt 4 v2 v16 h) fun _ h2 =>
okK (yu [([], []), ([], []), ([], []), (ids1 v17, []), ([], []), ([], []), f6, f7, f8, ([], []), ([], ids1 v2), ([], [])] [(7, 10)]) <|
(ob (evLd true 4 v2 h2) fun r0 =>
  y7 h2 (.tup [r0, v24]))
def y25a (s : St) : OX := ylk (s 1) (s 2) (s 4) s.h
theorem y1oz : T1 y1e8 y1d (y1 0 y1d xN) [.cell 2 true 4, .t 3] y25a := fun _ => by kernel_rfl
def ymk (v1 v2 v4 : AV) (h : Heap) : OX :=
ob (evFa 3 v1) fun v12 =>
ob (evLd false 1 v12 h) fun v13 =>
ob (y2 .neq v13 (AV.int .i64 (-1))) fun v14 =>
cnd v14
 ((ylk v1 v2 (AV.int .i64 3) h))
 ((ylk v1 v2 v4 h))
def y24n (s : St) : OX := ymk (s 1) (s 2) (s 4) s.h
theorem y1pp : T1 y17k y1d (y1 0 y1d xN) [.cell 2 true 4, .t 3] y24n := sq y1oz fun _ => by kernel_rfl
def ymv (v1 v2 : AV) (h : Heap) : OX :=
(ymk v1 v2 (AV.int .i64 (-1)) h)
def y22o (s : St) : OX := ymv (s 1) (s 2) s.h
theorem y1ig : T1 y15f y1d (y1 0 y1d xN) [.cell 2 true 4, .t 3] y22o := sq y1pp fun _ => by kernel_rfl
def ylq (v2 v5 : AV) (h : Heap) : OX :=
ob (yh [(.int .i64 0), (.int .i64 0), (.int .i64 0), (.int .i64 0)] [(0, 1, (AV.int .i64 (-1))), (1, 1, v5), (2, 1, (AV.int .i64 (-1))), (3, 1, (AV.int .i64 (-1)))]) fun v31 =>
oh (evSt 4 v2 v31 h) fun _ h3 =>
(ob (evLd true 4 v2 h3) fun r0 =>
  y7 h3 (.tup [r0, (AV.bool true)]))
def y21a (s : St) : OX := ylq (s 2) (s 5) s.h
theorem y1lg : T1 y19i y1d (y1 0 y1d xN) [.cell 2 true 4, .t 3] y21a := fun _ => by kernel_rfl
def yn9 (v1 v2 v5 : AV) (h : Heap) : OX :=
ob (evFa 2 v1) fun v27 =>
ob (evLd false 1 v27 h) fun v28 =>
ob (y2 .neq v28 (AV.int .i64 (-1))) fun v29 =>
cnd v29
 ((ylq v2 (AV.int .i64 0) h))
 ((ylq v2 v5 h))
def y204 (s : St) : OX := yn9 (s 1) (s 2) (s 5) s.h
theorem y1lk : T1 y13b y1d (y1 0 y1d xN) [.cell 2 true 4, .t 3] y204 := sq y1lg fun _ => by kernel_rfl
def yob (v1 v2 : AV) (h : Heap) : OX :=
(yn9 v1 v2 (AV.int .i64 (-1)) h)
def y21l (s : St) : OX := yob (s 1) (s 2) s.h
theorem y1nw : T1 y0u y1d (y1 0 y1d xN) [.cell 2 true 4, .t 3] y21l := sq y1lk fun _ => by kernel_rfl
def yk7 (v1 v2 v6 : AV) (h : Heap) : OX :=
ob (evFa 0 v1) fun v40 =>
ob (evLd false 1 v40 h) fun v41 =>
ob (y2 .eql v41 (AV.int .i64 23)) fun v42 =>
gb v42 false (evFa 0 v1) fun v44 =>
gb v42 false (evLd false 1 v44 h) fun v45 =>
gb v42 false (y2 .eql v45 (AV.int .i64 26)) fun v46 =>
ob (ye v42 (AV.bool true) v46) fun v47 =>
gb v47 false (evFa 8 v1) fun v49 =>
gb v47 false (evLd false 1 v49 h) fun v50 =>
gb v47 false (y13 1 v50 h) fun v51 =>
gb v47 false (y2 .gtr v51 (AV.int .i64 0)) fun v52 =>
ob (ye v47 (AV.bool true) v52) fun v53 =>
ob (yh [(.int .i64 0), (.int .i64 0), (.int .i64 0), (.int .i64 0)] [(0, 1, v6), (1, 1, (AV.int .i64 (-1))), (2, 1, (AV.int .i64 (-1))), (3, 1, (AV.int .i64 (-1)))]) fun v55 =>
ofp (fgd v53 true (some ([], []))) fun f4 =>
gb v53 true (evFa 5 v1) fun v58 =>
ofp (fgd v53 true (some (ids1 v58, []))) fun f5 =>
gb v53 true (evLd false 1 v58 h) fun v59 =>
ofp (fgd v53 true (some ([], []))) fun f6 =>
gb v53 true (y2 .geq v59 (AV.int .i64 0)) fun v60 =>
ofp (fgd v53 true (some ([], []))) fun f7 =>
gb v53 true (some v60) fun v61 =>
ofp (fgd v61 false (some ([], []))) fun f8 =>
gb v61 false (evFa 0 v1) fun v62 =>
ofp (fgd v61 false (some (ids1 v62, []))) fun f9 =>
gb v61 false (evLd false 1 v62 h) fun v63 =>
ofp (fgd v61 false (some ([], []))) fun f10 =>
gb v61 false (y2 .eql v63 (AV.int .i64 25)) fun v64 =>
ofp (fgd v53 true (some ([], []))) fun f11 =>
gb v53 true (ye v61 (AV.bool true) v64) fun v65 =>
ob (ye v53 v65 (AV.bool false)) fun v66 =>
ofp (fgd v66 true (some ([], []))) fun f14 =>
gb v66 true (evFa 8 v1) fun v68 =>
ofp (fgd v66 true (some (ids1 v68, []))) fun f15 =>
gb v66 true (evLd false 1 v68 h) fun v69 =>
ofp (fgd v66 true (some (ids1 v69, []))) fun f16 =>
gb v66 true (y13 1 v69 h) fun v70 =>
ofp (fgd v66 true (some ([], []))) fun f17 =>
gb v66 true (y2 .leq v70 (AV.int .i64 21)) fun v71 =>
ob (ye v66 v71 (AV.bool false)) fun v72 =>
oh (evSt 4 v2 v55 h) fun _ h4 =>
okK (yu [([], []), ([], []), ([], []), ([], []), f4, f5, f6, f7, f8, f9, f10, f11, ([], []), ([], []), f14, f15, f16, f17, ([], []), ([], ids1 v2), ([], [])] [(15, 19), (16, 19)]) <|
(ob (evLd true 4 v2 h4) fun r0 =>
  y7 h4 (.tup [r0, v72]))
def y23n (s : St) : OX := yk7 (s 1) (s 2) (s 6) s.h
theorem y1ov : T1 y175 y1d (y1 0 y1d xN) [.cell 2 true 4, .t 3] y23n := fun _ => by kernel_rfl
def ymr (v1 v2 v6 : AV) (h : Heap) : OX :=
ob (evFa 1 v1) fun v37 =>
ob (evLd false 1 v37 h) fun v38 =>
ob (y2 .neq v38 (AV.int .i64 (-1))) fun v39 =>
cnd v39
 ((yk7 v1 v2 (AV.int .i64 0) h))
 ((yk7 v1 v2 v6 h))
def y23l (s : St) : OX := ymr (s 1) (s 2) (s 6) s.h
theorem y1p5 : T1 y1gr y1d (y1 0 y1d xN) [.cell 2 true 4, .t 3] y23l := sq y1ov fun _ => by kernel_rfl
def ydr (v1 v2 : AV) (h : Heap) : OX :=
(ymr v1 v2 (AV.int .i64 (-1)) h)
def y1xr (s : St) : OX := ydr (s 1) (s 2) s.h
theorem y12m : T1 yv8 y1d (y1 0 y1d xN) [.cell 2 true 4, .t 3] y1xr := sq y1p5 fun _ => by kernel_rfl
def y8m (v1 v2 v32 : AV) (h : Heap) : OX :=
cnd v32
 ((ydr v1 v2 h))
 ((yna v2 h))
def y1uf (s : St) : OX := y8m (s 1) (s 2) (s 32) s.h
theorem yzy : T1 yv4 y1d (y1 0 y1d xN) [.cell 2 true 4, .t 3] y1uf := fun s => (yt (y12m s) rfl).trans (by kernel_rfl)
def ydo (v1 v2 v9 : AV) (h : Heap) : OX :=
ob (y2 .eql v9 (AV.int .i64 23)) fun v33 =>
cnd v33
 ((y8m v1 v2 v33 h))
 (ob (y2 .eql v9 (AV.int .i64 24)) fun v34 =>
cnd v34
 ((y8m v1 v2 v34 h))
 (ob (y2 .eql v9 (AV.int .i64 25)) fun v35 =>
cnd v35
 ((y8m v1 v2 v35 h))
 (ob (y2 .eql v9 (AV.int .i64 26)) fun v36 =>
(y8m v1 v2 v36 h))))
def y1vw (s : St) : OX := ydo (s 1) (s 2) (s 9) s.h
theorem y03 : T1 ysg y1d (y1 0 y1d xN) [.cell 2 true 4, .t 3] y1vw := sq yzy fun _ => by kernel_rfl
def yfh (v1 v2 v9 v25 : AV) (h : Heap) : OX :=
cnd v25
 ((yob v1 v2 h))
 ((ydo v1 v2 v9 h))
def y1xc (s : St) : OX := yfh (s 1) (s 2) (s 9) (s 25) s.h
theorem y11c : T1 ysr y1d (y1 0 y1d xN) [.cell 2 true 4, .t 3] y1xc := fun s => (yt (y1nw s) (y03 s)).trans (by kernel_rfl)
def yde (v1 v2 v9 : AV) (h : Heap) : OX :=
ob (y2 .eql v9 (AV.int .i64 30)) fun v26 =>
(yfh v1 v2 v9 v26 h)
def y1ta (s : St) : OX := yde (s 1) (s 2) (s 9) s.h
theorem y14j : T1 yrv y1d (y1 0 y1d xN) [.cell 2 true 4, .t 3] y1ta := sq y11c fun _ => by kernel_rfl
def ydz (v1 v2 v9 v10 : AV) (h : Heap) : OX :=
cnd v10
 ((ymv v1 v2 h))
 ((yde v1 v2 v9 h))
def y1ya (s : St) : OX := ydz (s 1) (s 2) (s 9) (s 10) s.h
theorem y1ak : T1 yup y1d (y1 0 y1d xN) [.cell 2 true 4, .t 3] y1ya := fun s => (yt (y1ig s) (y14j s)).trans (by kernel_rfl)
def yf4 (v1 v2 v9 : AV) (h : Heap) : OX :=
ob (y2 .eql v9 (AV.int .i64 29)) fun v11 =>
(ydz v1 v2 v9 v11 h)
def y13g (s : St) : OX := yf4 (s 1) (s 2) (s 9) s.h
theorem y12j : T1 ytp y1d (y1 0 y1d xN) [.cell 2 true 4, .t 3] y13g := sq y1ak fun _ => by kernel_rfl
theorem y16x : T1 yq5 y1d xN [.cell 2 true 4, .t 3] y13g := fun s => yl.trans (y12j s)
def yf6 (v1 v2 : AV) (h : Heap) : OX :=
ob (evFa 0 v1) fun v8 =>
ob (evLd false 1 v8 h) fun v9 =>
(yf4 v1 v2 v9 h)
def y1bm (s : St) : OX := yf6 (s 1) (s 2) s.h
theorem y162 : T1 yx5 y1d xN [.cell 2 true 4, .t 3] y1bm := sq y16x fun _ => by kernel_rfl
theorem y15r : T0 yq0 [.cell 2 true 4, .t 3] y1bm := sq y1j8 y162
def yf5 (v0 : AV) (h : Heap) : OX :=
oh (newC 0 (some 0) (cellsOf v0) h) fun v1 h5 =>
oh (newC 0 (some 1) [(.int .i64 0), (.int .i64 0), (.int .i64 0), (.int .i64 0)] h5) fun v2 h6 =>
(yf6 v1 v2 h6)
def y1u7 (s : St) : OX := yf5 (s 0) s.h
theorem y18v : T0 yrj [.cell 2 true 4, .t 3] y1u7 := sq y15r fun _ => by kernel_rfl
@[simp] theorem y29h : E.pure 51 = true := rfl
theorem y1kz (v0 : AV) : (y6 E).p 51 [v0] = yf5 v0 [⟨0, .dead⟩, ⟨0, .dead⟩] :=
  (yo (cf := y26c) (by kernel_rfl) rfl).trans ((y18v _).trans (by kernel_rfl))
def y1s0 (v0 v1 : AV) (h : Heap) : OX :=
ob (y2 .shr v0 v1) fun v7 =>
ob (y2 .and v7 (AV.int .i64 1)) fun v8 =>
(y7 h v8)
def y215 (s : St) : OX := y1s0 (s 0) (s 1) s.h
theorem y1ln : T0 y1a4 [.t 4] y215 := fun _ => by kernel_rfl
@[simp] theorem y26v : E.pure 143 = true := rfl
theorem y2a8 (v0 v1 : AV) : (y6 E).p 143 [v0, v1] = y1s0 v0 v1 [] :=
  (yo (cf := y249) (by kernel_rfl) rfl).trans ((y1ln _).trans (by kernel_rfl))
def y1k1 (v1 v5 : AV) (h : Heap) : OX :=
oh (y4 E (y6 E) 0 none true 135 [v5, v1] h) fun v22 h1 =>
(y7 h1 v22)
def y8w (s : St) : OX := y1k1 (s 1) (s 5) s.h
theorem y1k4 : T0 yzq [.t 4] y8w := fun _ => by kernel_rfl
def yhy (v0 v1 v5 v6 : AV) (h : Heap) : OX :=
  W E 0 yib ⟨[(0, v0), (1, v1), (5, v5), (6, v6)], h⟩ y8w (y1 0 y8w xN) (finP [.t 4])
def ybu (s : St) : OX := yhy (s 0) (s 1) (s 5) (s 6) s.h
theorem yld : T1 yib y8w (y1 0 y8w xN) [.t 4] ybu := fun s => yi.trans (by kernel_rfl)
def y1wp (v0 v1 v5 v6 : AV) (h : Heap) : OX :=
ob (y2 .add v6 (AV.int .i64 1)) fun v11 =>
(yhy v0 v1 v5 v11 h)
def y219 (s : St) : OX := y1wp (s 0) (s 1) (s 5) (s 6) s.h
theorem y1p8 : T1 y1au ybu (y1 0 y8w xN) [.t 4] y219 := fun _ => by kernel_rfl
def y1tz (v0 v1 v5 v6 : AV) (h : Heap) : OX :=
ob (yv 1 v0 v6) fun v15 =>
ob (evLd false 1 v15 h) fun v16 =>
ob (y2 .shl v16 v6) fun v18 =>
ob (y2 .or v5 v18) fun v19 =>
(y1wp v0 v1 v19 v6 h)
def y24l (s : St) : OX := y1tz (s 0) (s 1) (s 5) (s 6) s.h
theorem y1hr : T1 y16g ybu (y1 0 y8w xN) [.t 4] y24l := sq y1p8 fun _ => by kernel_rfl
def y1mr (v0 v1 v5 v6 : AV) (h : Heap) : OX :=
ob (y2 .lss v6 v1) fun v9 =>
cnd v9
 ((y1tz v0 v1 v5 v6 h))
 ((y1k1 v1 v5 h))
def y24h (s : St) : OX := y1mr (s 0) (s 1) (s 5) (s 6) s.h
theorem y1il : T1 y1fh ybu (y1 0 y8w xN) [.t 4] y24h := sq y1hr fun _ => by kernel_rfl
theorem yk6 (v0 v1 v5 v6 : AV) (h : Heap) : yhy v0 v1 v5 v6 h = (y1mr v0 v1 v5 v6 h) :=
  y22.trans ((y17 _ _ _ (n' := ybu) (fun s => yld s)).trans ((y1il _).trans (by kernel_rfl)))
theorem y1lt : T1 y1bd y8w xN [.t 4] ybu := fun s => yl.trans (yld s)
def y229 (v0 v1 v5 : AV) (h : Heap) : OX :=
(yhy v0 v1 v5 (AV.int .i64 0) h)
def y1qz (s : St) : OX := y229 (s 0) (s 1) (s 5) s.h
theorem y1ke : T1 y12u y8w xN [.t 4] y1qz := sq y1lt fun _ => by kernel_rfl
theorem y1i7 : T0 y14w [.t 4] y1qz := sq y1k4 y1ke
def y23f (v0 v1 : AV) (h : Heap) : OX :=
(y229 v0 v1 (AV.int .i64 0) h)
def y1zy (s : St) : OX := y23f (s 0) (s 1) s.h
theorem y1m8 : T0 y1h0 [.t 4] y1zy := sq y1i7 fun _ => by kernel_rfl
def y1rw (v0 v1 : AV) (h : Heap) : OX :=
(y23f v0 v1 h)
def y1wb (s : St) : OX := y1rw (s 0) (s 1) s.h
theorem y16z : T0 yt6 [.t 4] y1wb := sq y1m8 fun _ => by kernel_rfl
@[simp] theorem y26u : E.pure 144 = true := rfl
theorem y2a9 (v0 v1 : AV) : (y6 E).p 144 [v0, v1] = y1rw v0 v1 [] :=
  (yo (cf := y22w) (by kernel_rfl) rfl).trans ((y16z _).trans (by kernel_rfl))
def y1ax (v0 v1 : AV) (h : Heap) : OX :=
ob (evUn .xor v0) fun v6 =>
oh (y4 E (y6 E) 0 none true 138 [(AV.int .i64 0), v6, (AV.int .i64 1), v1] h) fun v8 h1 =>
(y7 h1 v8)
def y1uy (s : St) : OX := y1ax (s 0) (s 1) s.h
theorem y1ds : T0 yvb [.t 4] y1uy := fun _ => by kernel_rfl
@[simp] theorem y272 : E.pure 145 = true := rfl
theorem y21m (v0 v1 : AV) : (y6 E).p 145 [v0, v1] = y1ax v0 v1 [] :=
  (yo (cf := y1q9) (by kernel_rfl) rfl).trans ((y1ds _).trans (by kernel_rfl))
def y1m2 (v0 : AV) (h : Heap) : OX :=
ob (y2d .u64 v0) fun v11 =>
(y7 h v11)
def y242 (s : St) : OX := y1m2 (s 0) s.h
theorem y1oy : T0 y11b [.t 2] y242 := fun _ => by kernel_rfl
def y1im (v0 : AV) (h : Heap) : OX :=
ob (y2 .lss v0 (AV.int .i64 0)) fun v4 =>
cnd v4
 (ob (y2 .add v0 (AV.int .i64 1)) fun v6 =>
ob (evUn .neg v6) fun v7 =>
ob (y2d .u64 v7) fun v8 =>
ob (y2 .add v8 (AV.int .u64 1)) fun v9 =>
(y7 h v9))
 ((y1m2 v0 h))
def y24v (s : St) : OX := y1im (s 0) s.h
theorem y1kd : T0 y1ew [.t 2] y24v := sq y1oy fun _ => by kernel_rfl
def y1hk (v0 : AV) (h : Heap) : OX :=
(y1im v0 h)
def y24a (s : St) : OX := y1hk (s 0) s.h
theorem y1p2 : T0 y1dr [.t 2] y24a := sq y1kd fun _ => by kernel_rfl
@[simp] theorem y277 : E.pure 146 = true := rfl
theorem y29j (v0 : AV) : (y6 E).p 146 [v0] = y1hk v0 [] :=
  (yo (cf := y22p) (by kernel_rfl) rfl).trans ((y1p2 _).trans (by kernel_rfl))
def yav (h : Heap) : OX :=
(y7 h (AV.int .i32 0))
def y3a (s : St) : OX := yav s.h
theorem y1jf : T0 y14c [.t 6] y3a := fun _ => by kernel_rfl
def y9m (v0 v1 v2 v7 v23 : AV) (h : Heap) : OX :=
cnd v23
 (ob (y2 .eql v0 (AV.int .i64 112)) fun v27 =>
ob (y2d .i64 v1) fun v29 =>
ob (y2d .i64 v2) fun v31 =>
oh (y4 E (y6 E) 0 none true 132 [v27, v29, v31] h) fun v32 h1 =>
ob (y2d .i32 v32) fun v33 =>
(y7 h1 v33))
 (ob (y2 .eql v7 (AV.int .i64 120)) fun v35 =>
cnd v35
 (ob (y2d .u32 v2) fun v38 =>
ob (y2 .and v38 (AV.int .u32 31)) fun v39 =>
ob (y2 .shl v1 v39) fun v40 =>
(y7 h v40))
 (ob (y2 .eql v7 (AV.int .i64 122)) fun v42 =>
cnd v42
 (ob (y2d .u32 v2) fun v45 =>
ob (y2 .and v45 (AV.int .u32 31)) fun v46 =>
ob (y2 .shr v1 v46) fun v47 =>
(y7 h v47))
 (ob (y2 .eql v7 (AV.int .i64 124)) fun v49 =>
cnd v49
 (ob (y2d .u32 v1) fun v51 =>
ob (y2d .u32 v2) fun v53 =>
ob (y2 .and v53 (AV.int .u32 31)) fun v54 =>
ob (y2 .shr v51 v54) fun v55 =>
ob (y2d .i32 v55) fun v56 =>
(y7 h v56))
 (ob (y2 .eql v7 (AV.int .i64 126)) fun v58 =>
cnd v58
 (ob (y2 .and v1 v2) fun v61 =>
(y7 h v61))
 (ob (y2 .eql v7 (AV.int .i64 128)) fun v63 =>
cnd v63
 (ob (y2 .or v1 v2) fun v66 =>
(y7 h v66))
 (ob (y2 .eql v7 (AV.int .i64 130)) fun v68 =>
cnd v68
 (ob (y2 .xor v1 v2) fun v71 =>
(y7 h v71))
 ((yav h))))))))
def y24r (s : St) : OX := y9m (s 0) (s 1) (s 2) (s 7) (s 23) s.h
theorem y1ou : T1 y15e y3a (y1 0 y3a xN) [.t 6] y24r := fun _ => by kernel_rfl
def ya3 (v0 v1 v2 v7 : AV) (h : Heap) : OX :=
ob (y2 .eql v7 (AV.int .i64 108)) fun v24 =>
cnd v24
 ((y9m v0 v1 v2 v7 v24 h))
 (ob (y2 .eql v7 (AV.int .i64 112)) fun v25 =>
(y9m v0 v1 v2 v7 v25 h))
def y26j (s : St) : OX := ya3 (s 0) (s 1) (s 2) (s 7) s.h
theorem y1kt : T1 y11l y3a (y1 0 y3a xN) [.t 6] y26j := sq y1ou fun _ => by kernel_rfl
def y9z (v0 v1 v2 v7 v18 : AV) (h : Heap) : OX :=
cnd v18
 (ob (y2 .mul v1 v2) fun v22 =>
(y7 h v22))
 ((ya3 v0 v1 v2 v7 h))
def y23i (s : St) : OX := y9z (s 0) (s 1) (s 2) (s 7) (s 18) s.h
theorem y1j5 : T1 yzg y3a (y1 0 y3a xN) [.t 6] y23i := fun s => (yt rfl (y1kt s)).trans (by kernel_rfl)
def ya9 (v0 v1 v2 v7 : AV) (h : Heap) : OX :=
ob (y2 .eql v7 (AV.int .i64 104)) fun v19 =>
(y9z v0 v1 v2 v7 v19 h)
def y252 (s : St) : OX := ya9 (s 0) (s 1) (s 2) (s 7) s.h
theorem y1oa : T1 y1d4 y3a (y1 0 y3a xN) [.t 6] y252 := sq y1j5 fun _ => by kernel_rfl
def y9p (v0 v1 v2 v7 v13 : AV) (h : Heap) : OX :=
cnd v13
 (ob (y2 .sub v1 v2) fun v17 =>
(y7 h v17))
 ((ya9 v0 v1 v2 v7 h))
def y1zq (s : St) : OX := y9p (s 0) (s 1) (s 2) (s 7) (s 13) s.h
theorem y1j2 : T1 y1bv y3a (y1 0 y3a xN) [.t 6] y1zq := fun s => (yt rfl (y1oa s)).trans (by kernel_rfl)
def yak (v0 v1 v2 v7 : AV) (h : Heap) : OX :=
ob (y2 .eql v7 (AV.int .i64 100)) fun v14 =>
(y9p v0 v1 v2 v7 v14 h)
def y228 (s : St) : OX := yak (s 0) (s 1) (s 2) (s 7) s.h
theorem y1it : T1 y1ga y3a (y1 0 y3a xN) [.t 6] y228 := sq y1j2 fun _ => by kernel_rfl
def ya5 (v0 v1 v2 v7 v8 : AV) (h : Heap) : OX :=
cnd v8
 (ob (y2 .add v1 v2) fun v12 =>
(y7 h v12))
 ((yak v0 v1 v2 v7 h))
def y21p (s : St) : OX := ya5 (s 0) (s 1) (s 2) (s 7) (s 8) s.h
theorem y1pg : T1 yzs y3a (y1 0 y3a xN) [.t 6] y21p := fun s => (yt rfl (y1it s)).trans (by kernel_rfl)
def yay (v0 v1 v2 v7 : AV) (h : Heap) : OX :=
ob (y2 .eql v7 (AV.int .i64 96)) fun v9 =>
(ya5 v0 v1 v2 v7 v9 h)
def y1rb (s : St) : OX := yay (s 0) (s 1) (s 2) (s 7) s.h
theorem y1kl : T1 y1dh y3a (y1 0 y3a xN) [.t 6] y1rb := sq y1pg fun _ => by kernel_rfl
theorem y16m : T1 yt2 y3a xN [.t 6] y1rb := fun s => yl.trans (y1kl s)
def y4y (v0 v1 v2 : AV) (h : Heap) : OX :=
(yay v0 v1 v2 v0 h)
def y1f3 (s : St) : OX := y4y (s 0) (s 1) (s 2) s.h
theorem y1bz : T1 yug y3a xN [.t 6] y1f3 := sq y16m fun _ => by kernel_rfl
theorem y11i : T0 yqe [.t 6] y1f3 := sq y1jf y1bz
def y4w (v0 v1 v2 : AV) (h : Heap) : OX :=
(y4y v0 v1 v2 h)
def y1t5 (s : St) : OX := y4w (s 0) (s 1) (s 2) s.h
theorem y1g7 : T0 yt3 [.t 6] y1t5 := sq y11i fun _ => by kernel_rfl
@[simp] theorem y27n : E.pure 130 = true := rfl
theorem y28y (v0 v1 v2 : AV) : (y6 E).p 130 [v0, v1, v2] = y4w v0 v1 v2 [] :=
  (yo (cf := y22v) (by kernel_rfl) rfl).trans ((y1g7 _).trans (by kernel_rfl))
def ya8 (h : Heap) : OX :=
(y7 h (AV.int .i64 0))
def y36 (s : St) : OX := ya8 s.h
theorem y1mi : T0 y19a [.t 6] y36 := fun _ => by kernel_rfl
def y95 (v0 v1 v2 v7 v23 : AV) (h : Heap) : OX :=
cnd v23
 (ob (y2 .eql v0 (AV.int .i64 113)) fun v27 =>
oh (y4 E (y6 E) 0 none true 132 [v27, v1, v2] h) fun v30 h1 =>
(y7 h1 v30))
 (ob (y2 .eql v7 (AV.int .i64 121)) fun v32 =>
cnd v32
 (ob (y2d .u64 v2) fun v35 =>
ob (y2 .and v35 (AV.int .u64 63)) fun v36 =>
ob (y2 .shl v1 v36) fun v37 =>
(y7 h v37))
 (ob (y2 .eql v7 (AV.int .i64 123)) fun v39 =>
cnd v39
 (ob (y2d .u64 v2) fun v42 =>
ob (y2 .and v42 (AV.int .u64 63)) fun v43 =>
ob (y2 .shr v1 v43) fun v44 =>
(y7 h v44))
 (ob (y2 .eql v7 (AV.int .i64 125)) fun v46 =>
cnd v46
 (ob (y2d .u64 v1) fun v48 =>
ob (y2d .u64 v2) fun v50 =>
ob (y2 .and v50 (AV.int .u64 63)) fun v51 =>
ob (y2 .shr v48 v51) fun v52 =>
ob (y2d .i64 v52) fun v53 =>
(y7 h v53))
 (ob (y2 .eql v7 (AV.int .i64 127)) fun v55 =>
cnd v55
 (ob (y2 .and v1 v2) fun v58 =>
(y7 h v58))
 (ob (y2 .eql v7 (AV.int .i64 129)) fun v60 =>
cnd v60
 (ob (y2 .or v1 v2) fun v63 =>
(y7 h v63))
 (ob (y2 .eql v7 (AV.int .i64 131)) fun v65 =>
cnd v65
 (ob (y2 .xor v1 v2) fun v68 =>
(y7 h v68))
 ((ya8 h))))))))
def y21i (s : St) : OX := y95 (s 0) (s 1) (s 2) (s 7) (s 23) s.h
theorem y1iy : T1 y132 y36 (y1 0 y36 xN) [.t 6] y21i := fun _ => by kernel_rfl
def y9x (v0 v1 v2 v7 : AV) (h : Heap) : OX :=
ob (y2 .eql v7 (AV.int .i64 109)) fun v24 =>
cnd v24
 ((y95 v0 v1 v2 v7 v24 h))
 (ob (y2 .eql v7 (AV.int .i64 113)) fun v25 =>
(y95 v0 v1 v2 v7 v25 h))
def y25q (s : St) : OX := y9x (s 0) (s 1) (s 2) (s 7) s.h
theorem y1ms : T1 y19h y36 (y1 0 y36 xN) [.t 6] y25q := sq y1iy fun _ => by kernel_rfl
def yb0 (v0 v1 v2 v7 v18 : AV) (h : Heap) : OX :=
cnd v18
 (ob (y2 .mul v1 v2) fun v22 =>
(y7 h v22))
 ((y9x v0 v1 v2 v7 h))
def y20q (s : St) : OX := yb0 (s 0) (s 1) (s 2) (s 7) (s 18) s.h
theorem y1od : T1 y14a y36 (y1 0 y36 xN) [.t 6] y20q := fun s => (yt rfl (y1ms s)).trans (by kernel_rfl)
def yae (v0 v1 v2 v7 : AV) (h : Heap) : OX :=
ob (y2 .eql v7 (AV.int .i64 105)) fun v19 =>
(yb0 v0 v1 v2 v7 v19 h)
def y24b (s : St) : OX := yae (s 0) (s 1) (s 2) (s 7) s.h
theorem y1pv : T1 y12w y36 (y1 0 y36 xN) [.t 6] y24b := sq y1od fun _ => by kernel_rfl
def y9o (v0 v1 v2 v7 v13 : AV) (h : Heap) : OX :=
cnd v13
 (ob (y2 .sub v1 v2) fun v17 =>
(y7 h v17))
 ((yae v0 v1 v2 v7 h))
def y20k (s : St) : OX := y9o (s 0) (s 1) (s 2) (s 7) (s 13) s.h
theorem y1mb : T1 y1fj y36 (y1 0 y36 xN) [.t 6] y20k := fun s => (yt rfl (y1pv s)).trans (by kernel_rfl)
def ya1 (v0 v1 v2 v7 : AV) (h : Heap) : OX :=
ob (y2 .eql v7 (AV.int .i64 101)) fun v14 =>
(y9o v0 v1 v2 v7 v14 h)
def y22u (s : St) : OX := ya1 (s 0) (s 1) (s 2) (s 7) s.h
theorem y1j4 : T1 y12p y36 (y1 0 y36 xN) [.t 6] y22u := sq y1mb fun _ => by kernel_rfl
def yb1 (v0 v1 v2 v7 v8 : AV) (h : Heap) : OX :=
cnd v8
 (ob (y2 .add v1 v2) fun v12 =>
(y7 h v12))
 ((ya1 v0 v1 v2 v7 h))
def y243 (s : St) : OX := yb1 (s 0) (s 1) (s 2) (s 7) (s 8) s.h
theorem y1kc : T1 y1b2 y36 (y1 0 y36 xN) [.t 6] y243 := fun s => (yt rfl (y1j4 s)).trans (by kernel_rfl)
def ya7 (v0 v1 v2 v7 : AV) (h : Heap) : OX :=
ob (y2 .eql v7 (AV.int .i64 97)) fun v9 =>
(yb1 v0 v1 v2 v7 v9 h)
def y1q8 (s : St) : OX := ya7 (s 0) (s 1) (s 2) (s 7) s.h
theorem y1hz : T1 y13j y36 (y1 0 y36 xN) [.t 6] y1q8 := sq y1kc fun _ => by kernel_rfl
theorem y14r : T1 yp4 y36 xN [.t 6] y1q8 := fun s => yl.trans (y1hz s)
def y51 (v0 v1 v2 : AV) (h : Heap) : OX :=
(ya7 v0 v1 v2 v0 h)
def y18u (s : St) : OX := y51 (s 0) (s 1) (s 2) s.h
theorem y128 : T1 yw1 y36 xN [.t 6] y18u := sq y14r fun _ => by kernel_rfl
theorem y1f4 : T0 ytr [.t 6] y18u := sq y1mi y128
def y4x (v0 v1 v2 : AV) (h : Heap) : OX :=
(y51 v0 v1 v2 h)
def y1ss (s : St) : OX := y4x (s 0) (s 1) (s 2) s.h
theorem y18s : T0 ywd [.t 6] y1ss := sq y1f4 fun _ => by kernel_rfl
@[simp] theorem y26y : E.pure 131 = true := rfl
theorem y288 (v0 v1 v2 : AV) : (y6 E).p 131 [v0, v1, v2] = y4x v0 v1 v2 [] :=
  (yo (cf := y26a) (by kernel_rfl) rfl).trans ((y18s _).trans (by kernel_rfl))
def q9_1 (h : Heap) : OX :=
(y7 h (AV.int .i64 0))
def y2a (s : St) : OX := q9_1 s.h
theorem y1xv : T0 y1rj [.t 2] y2a := fun _ => by kernel_rfl
def y14z (v0 v3 v4 : AV) (h : Heap) : OX :=
  W E 0 yns ⟨[(0, v0), (3, v3), (4, v4)], h⟩ y2a (y1 3 y2a (y1 2 y2a xN)) (finP [.t 2])
def yg8 (s : St) : OX := y14z (s 0) (s 3) (s 4) s.h
theorem ysf : T1 yns y2a (y1 3 y2a (y1 2 y2a xN)) [.t 2] yg8 := fun s => yi.trans (by kernel_rfl)
def q9_3 (v0 v3 v4 : AV) (h : Heap) : OX :=
ob (y2 .add v4 (AV.int .i64 1)) fun v42 =>
(y14z v0 v3 v42 h)
def yfs (s : St) : OX := q9_3 (s 0) (s 3) (s 4) s.h
theorem y1xl : T1 y1qs yg8 (y1 3 y2a (y1 2 y2a xN)) [.t 2] yfs := fun _ => by kernel_rfl
def q9_4 (h : Heap) : OX :=
(y7 h (AV.int .i64 0))
def y299 (s : St) : OX := q9_4 s.h
theorem y1t8 : T1 y1rn yfs (y1 4 yfs (y1 3 y2a (y1 2 y2a xN))) [.t 2] y299 := fun _ => by kernel_rfl
def q9_5 (v0 v3 v4 : AV) (h : Heap) : OX :=
ob (y2 .add v3 (AV.int .i64 1)) fun v49 =>
ob (y153 v0 (some v49) (some v4)) fun v51 =>
oh (y4 E (y6 E) 0 none true 60 [v51, (AV.bool false)] h) fun v52 h1 =>
cnd v52
 (ob (y2 .add v4 (AV.int .i64 1)) fun v54 =>
(y7 h1 v54))
 ((q9_4 h1))
def y29g (s : St) : OX := q9_5 (s 0) (s 3) (s 4) s.h
theorem y1x7 : T1 y1pz yfs (y1 4 yfs (y1 3 y2a (y1 2 y2a xN))) [.t 2] y29g := sq y1t8 fun _ => by kernel_rfl
def q9_6 (v0 v3 v4 v46 : AV) (h : Heap) : OX :=
cnd v46
 ((q9_5 v0 v3 v4 h))
 ((q9_3 v0 v3 v4 h))
def y2ac (s : St) : OX := q9_6 (s 0) (s 3) (s 4) (s 46) s.h
theorem y1xb : T1 y1rg yfs (y1 4 yfs (y1 3 y2a (y1 2 y2a xN))) [.t 2] y2ac := fun s => (yt (y1x7 s) rfl).trans (by kernel_rfl)
def q9_7 (v0 v3 v4 : AV) (h : Heap) : OX :=
ob (y7l v0 v4) fun v45 =>
ob (y2 .eql v45 (AV.int .u8 59)) fun v46 =>
(q9_6 v0 v3 v4 v46 h)
def y1w2 (s : St) : OX := q9_7 (s 0) (s 3) (s 4) s.h
theorem y1yv : T1 y1qr yfs (y1 4 yfs (y1 3 y2a (y1 2 y2a xN))) [.t 2] y1w2 := sq y1xb fun _ => by kernel_rfl
theorem y1yj : T1 y1qc yfs (y1 3 y2a (y1 2 y2a xN)) [.t 2] y1w2 := fun s => yl.trans (y1yv s)
theorem y1tm : T1 y1rq yg8 (y1 3 y2a (y1 2 y2a xN)) [.t 2] y1w2 := sq y1xl y1yj
def yxu (v0 v3 v4 : AV) (h : Heap) : OX :=
ob (y13 0 v0 h) fun v39 =>
ob (y2 .lss v4 v39) fun v40 =>
cnd v40
 ((q9_7 v0 v3 v4 h))
 ((q9_1 h))
def y1zw (s : St) : OX := yxu (s 0) (s 3) (s 4) s.h
theorem y1oc : T1 y1as yg8 (y1 3 y2a (y1 2 y2a xN)) [.t 2] y1zw := sq y1tm fun _ => by kernel_rfl
theorem ywv (v0 v3 v4 : AV) (h : Heap) : y14z v0 v3 v4 h = (yxu v0 v3 v4 h) :=
  y22.trans ((y17 _ _ _ (n' := yg8) (fun s => ysf s)).trans ((y1oc _).trans (by kernel_rfl)))
theorem y1kk : T1 y01 y2a (y1 2 y2a xN) [.t 2] yg8 := fun s => yl.trans (ysf s)
def y1v2 (v0 v3 : AV) (h : Heap) : OX :=
ob (y2 .add v3 (AV.int .i64 1)) fun v36 =>
(y14z v0 v3 v36 h)
def y21n (s : St) : OX := y1v2 (s 0) (s 3) s.h
theorem y1mx : T1 y1f7 y2a (y1 2 y2a xN) [.t 2] y21n := sq y1kk fun _ => by kernel_rfl
def y1i1 (v0 v3 v33 : AV) (h : Heap) : OX :=
cnd v33
 ((y1v2 v0 v3 h))
 ((q9_1 h))
def y24u (s : St) : OX := y1i1 (s 0) (s 3) (s 33) s.h
theorem y1nm : T1 y18t y2a (y1 2 y2a xN) [.t 2] y24u := fun s => (yt (y1mx s) rfl).trans (by kernel_rfl)
def y1l6 (v0 v3 v27 : AV) (h : Heap) : OX :=
ob (y2 .eql v27 (AV.int .u8 76)) fun v34 =>
(y1i1 v0 v3 v34 h)
def y227 (s : St) : OX := y1l6 (s 0) (s 3) (s 27) s.h
theorem y1ky : T1 y15w y2a (y1 2 y2a xN) [.t 2] y227 := sq y1nm fun _ => by kernel_rfl
def ynt (v0 v3 v27 v28 : AV) (h : Heap) : OX :=
cnd v28
 (ob (y2 .add v3 (AV.int .i64 1)) fun v32 =>
(y7 h v32))
 ((y1l6 v0 v3 v27 h))
def y214 (s : St) : OX := ynt (s 0) (s 3) (s 27) (s 28) s.h
theorem y1mw : T1 y11z y2a (y1 2 y2a xN) [.t 2] y214 := fun s => (yt rfl (y1ky s)).trans (by kernel_rfl)
def yy0 (v0 v3 v27 : AV) (h : Heap) : OX :=
ob (y2 .eql v27 (AV.int .u8 73)) fun v29 =>
cnd v29
 ((ynt v0 v3 v27 v29 h))
 (ob (y2 .eql v27 (AV.int .u8 74)) fun v30 =>
(ynt v0 v3 v27 v30 h))
def y1ri (s : St) : OX := yy0 (s 0) (s 3) (s 27) s.h
theorem y1nf : T1 y1fe y2a (y1 2 y2a xN) [.t 2] y1ri := sq y1mw fun _ => by kernel_rfl
theorem y1l5 : T1 y187 y2a xN [.t 2] y1ri := fun s => yl.trans (y1nf s)
def yzb (v0 v3 : AV) (h : Heap) : OX :=
ob (y7l v0 v3) fun v27 =>
(yy0 v0 v3 v27 h)
def y1rp (s : St) : OX := yzb (s 0) (s 3) s.h
theorem y1ph : T1 y1ag y2a xN [.t 2] y1rp := sq y1l5 fun _ => by kernel_rfl
theorem y1id : T0 y1e9 [.t 2] y1rp := sq y1xv y1ph
def yg0 (v0 v3 : AV) (h : Heap) : OX :=
ob (y2 .gtr v3 (AV.int .i64 8)) fun v18 =>
gb v18 false (some v3) fun v20 =>
gb v18 false (some v0) fun v21 =>
gb v18 false (y13 0 v21 h) fun v22 =>
gb v18 false (y2 .eql v20 v22) fun v23 =>
ob (ye v18 (AV.bool true) v23) fun v24 =>
cnd v24
 ((y7 h (AV.int .i64 0)))
 ((yzb v0 v3 h))
def yce (s : St) : OX := yg0 (s 0) (s 3) s.h
theorem y1lx : T0 y17f [.t 2] yce := sq y1id fun _ => by kernel_rfl
def yls (v0 v3 : AV) (h : Heap) : OX :=
  W E 0 yj5 ⟨[(0, v0), (3, v3)], h⟩ yce (y1 0 yce xN) (finP [.t 2])
def ybl (s : St) : OX := yls (s 0) (s 3) s.h
theorem yjq : T1 yj5 yce (y1 0 yce xN) [.t 2] ybl := fun s => yi.trans (by kernel_rfl)
def y1u2 (v0 v3 : AV) (h : Heap) : OX :=
ob (y2 .add v3 (AV.int .i64 1)) fun v16 =>
(yls v0 v16 h)
def y200 (s : St) : OX := y1u2 (s 0) (s 3) s.h
theorem y1ku : T1 y1ab ybl (y1 0 yce xN) [.t 2] y200 := fun _ => by kernel_rfl
def y1f9 (v0 v3 : AV) (h : Heap) : OX :=
ob (y13 0 v0 h) fun v7 =>
ob (y2 .lss v3 v7) fun v8 =>
gb v8 true (some v0) fun v10 =>
gb v8 true (some v3) fun v11 =>
gb v8 true (y7l v10 v11) fun v12 =>
gb v8 true (y2 .eql v12 (AV.int .u8 91)) fun v13 =>
ob (ye v8 v13 (AV.bool false)) fun v14 =>
cnd v14
 ((y1u2 v0 v3 h))
 ((yg0 v0 v3 h))
def y25t (s : St) : OX := y1f9 (s 0) (s 3) s.h
theorem y1i6 : T1 y185 ybl (y1 0 yce xN) [.t 2] y25t := sq y1ku fun _ => by kernel_rfl
theorem ym0 (v0 v3 : AV) (h : Heap) : yls v0 v3 h = (y1f9 v0 v3 h) :=
  y22.trans ((y17 _ _ _ (n' := ybl) (fun s => yjq s)).trans ((y1i6 _).trans (by kernel_rfl)))
theorem y1n9 : T1 y1fi yce xN [.t 2] ybl := fun s => yl.trans (yjq s)
theorem y1jr : T0 y124 [.t 2] ybl := sq y1lx y1n9
def y1z4 (v0 : AV) (h : Heap) : OX :=
(yls v0 (AV.int .i64 0) h)
def y22i (s : St) : OX := y1z4 (s 0) s.h
theorem y1nr : T0 y171 [.t 2] y22i := sq y1jr fun _ => by kernel_rfl
def y1y6 (v0 : AV) (h : Heap) : OX :=
(y1z4 v0 h)
def y247 (s : St) : OX := y1y6 (s 0) s.h
theorem y1lp : T0 y1cl [.t 2] y247 := sq y1nr fun _ => by kernel_rfl
@[simp] theorem y27x : E.pure 44 = true := rfl
theorem x_q9 (v0 : AV) : (y6 E).p 44 [v0] = y1y6 v0 [] :=
  (yo (cf := c_q9) (by kernel_rfl) rfl).trans ((y1lp _).trans (by kernel_rfl))
def y1aa (v1 v2 : AV) (h : Heap) : OX :=
ob (y2 .quo v1 v2) fun v23 =>
(y7 h v23)
def y54 (s : St) : OX := y1aa (s 1) (s 2) s.h
theorem y1nx : T0 y126 [.t 6] y54 := fun _ => by kernel_rfl
def y12t (v1 : AV) (h : Heap) : OX :=
ob (evUn .neg v1) fun v15 =>
(y7 h v15)
def y213 (s : St) : OX := y12t (s 1) s.h
theorem y1hu : T1 y1a6 y54 (y1 0 y54 xN) [.t 6] y213 := fun _ => by kernel_rfl
def y1aj (v0 v1 : AV) (h : Heap) : OX :=
cnd v0
 ((y7 h (AV.int .i64 0)))
 ((y12t v1 h))
def y223 (s : St) : OX := y1aj (s 0) (s 1) s.h
theorem y1pi : T1 y13d y54 (y1 0 y54 xN) [.t 6] y223 := sq y1hu fun _ => by kernel_rfl
def y146 (v0 v1 v2 v10 : AV) (h : Heap) : OX :=
cnd v10
 ((y1aj v0 v1 h))
 (cnd v0
 (ob (y2 .rem v1 v2) fun v20 =>
(y7 h v20))
 ((y1aa v1 v2 h)))
def y26f (s : St) : OX := y146 (s 0) (s 1) (s 2) (s 10) s.h
theorem y1jl : T1 y1db y54 (y1 0 y54 xN) [.t 6] y26f := fun s => (yt (y1pi s) rfl).trans (by kernel_rfl)
def y1bx (v0 v1 v2 : AV) (h : Heap) : OX :=
ob (y2 .eql v2 (AV.int .i64 (-1))) fun v12 =>
(y146 v0 v1 v2 v12 h)
def y23y (s : St) : OX := y1bx (s 0) (s 1) (s 2) s.h
theorem y1n4 : T1 y1fb y54 (y1 0 y54 xN) [.t 6] y23y := sq y1jl fun _ => by kernel_rfl
def y133 (v0 v1 v2 v7 : AV) (h : Heap) : OX :=
cnd v7
 ((y7 h (AV.int .i64 0)))
 ((y1bx v0 v1 v2 h))
def y21f (s : St) : OX := y133 (s 0) (s 1) (s 2) (s 7) s.h
theorem y1ki : T1 y1h4 y54 (y1 0 y54 xN) [.t 6] y21f := fun s => (yt rfl (y1n4 s)).trans (by kernel_rfl)
def y1eq (v0 v1 v2 : AV) (h : Heap) : OX :=
ob (y2 .eql v2 (AV.int .i64 0)) fun v9 =>
(y133 v0 v1 v2 v9 h)
def y139 (s : St) : OX := y1eq (s 0) (s 1) (s 2) s.h
theorem y1iw : T1 y06 y54 (y1 0 y54 xN) [.t 6] y139 := sq y1ki fun _ => by kernel_rfl
theorem y1kr : T1 y19e y54 xN [.t 6] y139 := fun s => yl.trans (y1iw s)
theorem y1hs : T0 y1ha [.t 6] y139 := sq y1nx y1kr
def ym5 (v0 v1 v2 : AV) (h : Heap) : OX :=
(y1eq v0 v1 v2 h)
def y1t4 (s : St) : OX := ym5 (s 0) (s 1) (s 2) s.h
theorem y1gh : T0 yos [.t 6] y1t4 := sq y1hs fun _ => by kernel_rfl
@[simp] theorem y26s : E.pure 132 = true := rfl
theorem y29x (v0 v1 v2 : AV) : (y6 E).p 132 [v0, v1, v2] = ym5 v0 v1 v2 [] :=
  (yo (cf := y259) (by kernel_rfl) rfl).trans ((y1gh _).trans (by kernel_rfl))
def q7_1 (h : Heap) : OX :=
(y7 h (AV.bool true))
def ydk (s : St) : OX := q7_1 s.h
theorem y1tk : T0 y1rh [.t 4] ydk := fun _ => by kernel_rfl
def y14o (v1 v17 v18 v19 : AV) (h : Heap) : OX :=
  W E 0 yoe ⟨[(1, v1), (17, v17), (18, v18), (19, v19)], h⟩ ydk (y1 0 ydk xN) (finP [.t 4])
def yda (s : St) : OX := y14o (s 1) (s 17) (s 18) (s 19) s.h
theorem yw3 : T1 yoe ydk (y1 0 ydk xN) [.t 4] yda := fun s => yi.trans (by kernel_rfl)
def q7_3 (v1 v17 v18 v19 : AV) (h : Heap) : OX :=
ob (y2 .add v19 (AV.int .i64 1)) fun v71 =>
(y14o v1 v17 v18 v71 h)
def y28z (s : St) : OX := q7_3 (s 1) (s 17) (s 18) (s 19) s.h
theorem y1sa : T1 y1qu yda (y1 0 ydk xN) [.t 4] y28z := fun _ => by kernel_rfl
def q7_4 (v1 v17 v18 v19 : AV) (h : Heap) : OX :=
ob (yv 1 v17 v19) fun v21 =>
ob (evLd false 1 v21 h) fun v22 =>
ob (y2 .geq v22 (AV.int .u8 97)) fun v24 =>
gb v24 true (some v22) fun v26 =>
gb v24 true (y2 .leq v26 (AV.int .u8 122)) fun v27 =>
ob (ye v24 v27 (AV.bool false)) fun v28 =>
gb v28 false (some v22) fun v30 =>
gb v28 false (y2 .geq v30 (AV.int .u8 65)) fun v31 =>
gb v28 false (some v31) fun v32 =>
gb v32 true (some v22) fun v33 =>
gb v32 true (y2 .leq v33 (AV.int .u8 90)) fun v34 =>
gb v28 false (ye v32 v34 (AV.bool false)) fun v35 =>
ob (ye v28 (AV.bool true) v35) fun v36 =>
gb v36 false (some v22) fun v38 =>
gb v36 false (y2 .geq v38 (AV.int .u8 48)) fun v39 =>
gb v36 false (some v39) fun v40 =>
gb v40 true (some v22) fun v41 =>
gb v40 true (y2 .leq v41 (AV.int .u8 57)) fun v42 =>
gb v36 false (ye v40 v42 (AV.bool false)) fun v43 =>
ob (ye v36 (AV.bool true) v43) fun v44 =>
gb v44 false (some v22) fun v46 =>
gb v44 false (y2 .eql v46 (AV.int .u8 95)) fun v47 =>
ob (ye v44 (AV.bool true) v47) fun v48 =>
gb v48 false (some v22) fun v50 =>
gb v48 false (y2 .eql v50 (AV.int .u8 36)) fun v51 =>
ob (ye v48 (AV.bool true) v51) fun v52 =>
gb v52 false (some v22) fun v54 =>
gb v52 false (y2 .eql v54 (AV.int .u8 47)) fun v55 =>
ob (ye v52 (AV.bool true) v55) fun v56 =>
ob (evUn .not v56) fun v58 =>
gb v58 true (some v1) fun v60 =>
gb v58 true (some v60) fun v61 =>
gb v61 true (some v22) fun v62 =>
gb v61 true (y2 .eql v62 (AV.int .u8 60)) fun v63 =>
gb v61 true (some v63) fun v64 =>
gb v64 false (some v22) fun v65 =>
gb v64 false (y2 .eql v65 (AV.int .u8 62)) fun v66 =>
gb v61 true (ye v64 (AV.bool true) v66) fun v67 =>
gb v58 true (ye v61 v67 (AV.bool false)) fun v68 =>
gb v58 true (evUn .not v68) fun v69 =>
ob (ye v58 v69 (AV.bool false)) fun v70 =>
cnd v70
 ((y7 h (AV.bool false)))
 ((q7_3 v1 v17 v18 v19 h))
def y29u (s : St) : OX := q7_4 (s 1) (s 17) (s 18) (s 19) s.h
theorem y1wo : T1 y1r8 yda (y1 0 ydk xN) [.t 4] y29u := sq y1sa fun _ => by kernel_rfl
def q7_5 (v1 v17 v18 v19 v20 : AV) (h : Heap) : OX :=
cnd v20
 ((q7_4 v1 v17 v18 v19 h))
 ((q7_1 h))
def y27v (s : St) : OX := q7_5 (s 1) (s 17) (s 18) (s 19) (s 20) s.h
theorem y1v5 : T1 y1r5 yda (y1 0 ydk xN) [.t 4] y27v := sq y1wo fun _ => by kernel_rfl
def q7_6 (v1 v17 v18 v19 : AV) (h : Heap) : OX :=
ob (y2 .lss v19 v18) fun v20 =>
(q7_5 v1 v17 v18 v19 v20 h)
def y29s (s : St) : OX := q7_6 (s 1) (s 17) (s 18) (s 19) s.h
theorem y1td : T1 y1rd yda (y1 0 ydk xN) [.t 4] y29s := sq y1v5 fun _ => by kernel_rfl
theorem yth (v1 v17 v18 v19 : AV) (h : Heap) : y14o v1 v17 v18 v19 h = (q7_6 v1 v17 v18 v19 h) :=
  y22.trans ((y17 _ _ _ (n' := yda) (fun s => yw3 s)).trans ((y1td _).trans (by kernel_rfl)))
theorem y1sb : T1 y1qb ydk xN [.t 4] yda := fun s => yl.trans (yw3 s)
def q7_8 (v0 v1 : AV) (h : Heap) : OX :=
oh (s2bC 0 (some 0) v0 h) fun v17 h1 =>
ob (y13 1 v17 h1) fun v18 =>
(y14o v1 v17 v18 (AV.int .i64 0) h1)
def y212 (s : St) : OX := q7_8 (s 0) (s 1) s.h
theorem y1ww : T1 y1r4 ydk xN [.t 4] y212 := sq y1sb fun _ => by kernel_rfl
theorem y1u9 : T0 y1qf [.t 4] y212 := sq y1tk y1ww
def y0o (v0 v1 : AV) (h : Heap) : OX :=
ob (y13 0 v0 h) fun v9 =>
ob (y2 .lss v9 (AV.int .i64 1)) fun v10 =>
gb v10 false (some v0) fun v12 =>
gb v10 false (y13 0 v12 h) fun v13 =>
gb v10 false (y2 .gtr v13 (AV.int .i64 60)) fun v14 =>
ob (ye v10 (AV.bool true) v14) fun v15 =>
cnd v15
 ((y7 h (AV.bool false)))
 ((q7_8 v0 v1 h))
def y236 (s : St) : OX := y0o (s 0) (s 1) s.h
theorem y1hx : T0 y0k [.t 4] y236 := sq y1u9 fun _ => by kernel_rfl
def y1gk (v0 v1 : AV) (h : Heap) : OX :=
(y0o v0 v1 h)
def y21u (s : St) : OX := y1gk (s 0) (s 1) s.h
theorem y1my : T0 y14p [.t 4] y21u := sq y1hx fun _ => by kernel_rfl
@[simp] theorem y28g : E.pure 60 = true := rfl
theorem x_q7 (v0 v1 : AV) : (y6 E).p 60 [v0, v1] = y1gk v0 v1 [⟨0, .dead⟩] :=
  (yo (cf := c_q7) (by kernel_rfl) rfl).trans ((y1my _).trans (by kernel_rfl))
end
end Go.Vm
