/- Functions of the machine as plain functions that go on with what follows. -/
import Derived.Test.YtgbajicpokolcaaCEnv
set_option linter.unusedSimpArgs false
set_option linter.unusedVariables false
set_option linter.unusedSectionVars false
namespace Go.Vm
noncomputable section
def y1w7 (v7 : AV) (h : Heap) : OX :=
ob (evFa 3 v7) fun v45 =>
ob (evLd false 1 v45 h) fun v46 =>
ob (y14 1 v46 h) fun v47 =>
ob (y5 .eql v47 (AV.int .i64 1)) fun v48 =>
(yf h v48)
def y28l (s : St) : OX := y1w7 (s 7) s.h
theorem y1qn : T0 y1et [.t 4] y28l := fun _ => by kernel_rfl
def y1nj (v1 v7 : AV) (h : Heap) : OX :=
cnd v1
 (ob (evFa 3 v7) fun v41 =>
ob (evLd false 1 v41 h) fun v42 =>
ob (y14 1 v42 h) fun v43 =>
ob (y5 .eql v43 (AV.int .i64 3)) fun v44 =>
(yf h v44))
 ((y1w7 v7 h))
def y25r (s : St) : OX := y1nj (s 1) (s 7) s.h
theorem y1rw : T0 y1de [.t 4] y25r := sq y1qn fun _ => by kernel_rfl
def y1no (v1 v5 : AV) (h : Heap) : OX :=
ob (evLd true 5 v5 h) fun v37 =>
oh (y6 E (y8 E) 0 none true 118 [v37] h) fun v38 h1 =>
oh (y6 E (y8 E) 0 none true 100 [v38] h1) fun v39 h2 =>
oh (newC 0 (some 7) [.nils, .nils, (.int .i64 0), .nils, .nils] h2) fun v7 h3 =>
oh (evSt 5 v7 v39 h3) fun _ h4 =>
(y1nj v1 v7 h4)
def y25m (s : St) : OX := y1no (s 1) (s 5) s.h
theorem y1pe : T0 y12a [.t 4] y25m := sq y1rw fun _ => by kernel_rfl
def y11b (v1 v5 v6 : AV) (h : Heap) : OX :=
ob (evFa 3 v5) fun v30 =>
ob (evLd false 1 v30 h) fun v31 =>
ob (yu [(.int .i64 0), (.int .i64 0), (.int .i64 0), (.int .i64 0), (.int .i64 0), (.int .i64 0), (.int .i64 0), (.str []), .nils] [(0, 1, (AV.int .i64 30)), (2, 1, v6)]) fun v33 =>
oh (yp 0 (some 5) 9 1 [(.int .i64 0), (.int .i64 0), (.int .i64 0), (.int .i64 0), (.int .i64 0), (.int .i64 0), (.int .i64 0), (.str []), .nils] [(0, v33)] h) fun v34 h5 =>
oh (y1y 0 (some 6) 9 96 v31 v34 h5) fun v35 h6 =>
ob (evFa 3 v5) fun v36 =>
oh (evSt 1 v36 v35 h6) fun _ h7 =>
(y1no v1 v5 h7)
def y250 (s : St) : OX := y11b (s 1) (s 5) (s 6) s.h
theorem y1ta : T0 y16g [.t 4] y250 := sq y1pe fun _ => by kernel_rfl
def y1t6 (v1 v5 v6 : AV) (h : Heap) : OX :=
cnd v1
 ((y11b v1 v5 (AV.int .i64 1) h))
 ((y11b v1 v5 v6 h))
def y25v (s : St) : OX := y1t6 (s 1) (s 5) (s 6) s.h
theorem y1t9 : T0 y12n [.t 4] y25v := sq y1ta fun _ => by kernel_rfl
def yzt (v1 v5 : AV) (h : Heap) : OX :=
(y1t6 v1 v5 (AV.int .i64 0) h)
def y8n (s : St) : OX := yzt (s 1) (s 5) s.h
theorem y1of : T0 y1ji [.t 4] y8n := sq y1t9 fun _ => by kernel_rfl
def yhg (v1 v5 v18 v19 : AV) (h : Heap) : OX :=
  W E 0 yjj ⟨[(1, v1), (5, v5), (18, v18), (19, v19)], h⟩ y8n (y4 0 y8n xN) (finP [.t 4])
def y9s (s : St) : OX := yhg (s 1) (s 5) (s 18) (s 19) s.h
theorem ylq : T1 yjj y8n (y4 0 y8n xN) [.t 4] y9s := fun s => yk.trans (by kernel_rfl)
def y1y8 (v1 v5 v18 v19 : AV) (h : Heap) : OX :=
ob (y5 .add v19 (AV.int .i64 1)) fun v28 =>
(yhg v1 v5 v18 v28 h)
def y29j (s : St) : OX := y1y8 (s 1) (s 5) (s 18) (s 19) s.h
theorem y1sl : T1 y16z y9s (y4 0 y8n xN) [.t 4] y29j := fun _ => by kernel_rfl
def y1zs (v1 v5 v18 v19 : AV) (h : Heap) : OX :=
ob (evFa 3 v5) fun v21 =>
ob (evLd false 1 v21 h) fun v22 =>
ob (yu [(.int .i64 0), (.int .i64 0), (.int .i64 0), (.int .i64 0), (.int .i64 0), (.int .i64 0), (.int .i64 0), (.str []), .nils] [(0, 1, (AV.int .i64 5)), (5, 1, (AV.int .i64 96)), (1, 1, (AV.int .i64 1)), (2, 1, (AV.int .i64 0)), (3, 1, (AV.int .i64 0))]) fun v23 =>
ob (yu [(.int .i64 0), (.int .i64 0), (.int .i64 0), (.int .i64 0), (.int .i64 0), (.int .i64 0), (.int .i64 0), (.str []), .nils] [(0, 1, (AV.int .i64 5)), (5, 1, (AV.int .i64 104)), (1, 1, (AV.int .i64 1)), (2, 1, (AV.int .i64 1)), (3, 1, (AV.int .i64 1))]) fun v24 =>
oh (yp 0 (some 3) 9 2 [(.int .i64 0), (.int .i64 0), (.int .i64 0), (.int .i64 0), (.int .i64 0), (.int .i64 0), (.int .i64 0), (.str []), .nils] [(0, v23), (1, v24)] h) fun v25 h8 =>
oh (y1y 0 (some 4) 9 96 v22 v25 h8) fun v26 h9 =>
ob (evFa 3 v5) fun v27 =>
oh (evSt 1 v27 v26 h9) fun _ h10 =>
(y1y8 v1 v5 v18 v19 h10)
def y26m (s : St) : OX := y1zs (s 1) (s 5) (s 18) (s 19) s.h
theorem y1rp : T1 y1lq y9s (y4 0 y8n xN) [.t 4] y26m := sq y1sl fun _ => by kernel_rfl
def yz7 (v1 v5 v18 v19 v20 : AV) (h : Heap) : OX :=
cnd v20
 ((y1zs v1 v5 v18 v19 h))
 ((yzt v1 v5 h))
def y1wg (s : St) : OX := yz7 (s 1) (s 5) (s 18) (s 19) (s 20) s.h
theorem y1hr : T1 ys4 y9s (y4 0 y8n xN) [.t 4] y1wg := sq y1rp fun _ => by kernel_rfl
def yuc (v1 v5 v18 v19 : AV) (h : Heap) : OX :=
ob (y5 .lss v19 v18) fun v20 =>
(yz7 v1 v5 v18 v19 v20 h)
def y1x0 (s : St) : OX := yuc (s 1) (s 5) (s 18) (s 19) s.h
theorem y17k : T1 yt9 y9s (y4 0 y8n xN) [.t 4] y1x0 := sq y1hr fun _ => by kernel_rfl
theorem ylt (v1 v5 v18 v19 : AV) (h : Heap) : yhg v1 v5 v18 v19 h = (yuc v1 v5 v18 v19 h) :=
  y1w.trans ((y1b _ _ _ (n' := y9s) (fun s => ylq s)).trans ((y17k _).trans (by kernel_rfl)))
theorem y1d1 : T1 yyo y8n xN [.t 4] y9s := fun s => yw.trans (ylq s)
def y1k8 (v0 v1 v5 : AV) (h : Heap) : OX :=
(yhg v1 v5 v0 (AV.int .i64 0) h)
def y1dz (s : St) : OX := y1k8 (s 0) (s 1) (s 5) s.h
theorem y1ei : T1 yvj y8n xN [.t 4] y1dz := sq y1d1 fun _ => by kernel_rfl
theorem y186 : T0 yut [.t 4] y1dz := sq y1of y1ei
def y1cn (v0 v1 : AV) (h : Heap) : OX :=
oh (yp 0 (some 0) 1 2 [(.int .i64 0)] [(0, (AV.int .i64 1)), (1, (AV.int .i64 1))] h) fun v15 h11 =>
oh (yp 0 (some 1) 1 1 [(.int .i64 0)] [(0, (AV.int .i64 0))] h11) fun v16 h12 =>
ob (yu [.nils, .nils, (.int .i64 0), .nils, .nils] [(0, 1, v15), (1, 1, v16), (2, 1, (AV.int .i64 1))]) fun v17 =>
oh (newC 0 (some 2) [.nils, .nils, (.int .i64 0), .nils, .nils] h12) fun v5 h13 =>
oh (evSt 5 v5 v17 h13) fun _ h14 =>
(y1k8 v0 v1 v5 h14)
def y1w4 (s : St) : OX := y1cn (s 0) (s 1) s.h
theorem y1cw : T0 yst [.t 4] y1w4 := sq y186 fun _ => by kernel_rfl
def y1ao (v0 v1 : AV) (h : Heap) : OX :=
ob (y5 .rem v0 (AV.int .i64 60)) fun v11 =>
ob (y5 .add v11 (AV.int .i64 60)) fun v12 =>
ob (y5 .rem v12 (AV.int .i64 60)) fun v13 =>
ob (y5 .add v13 (AV.int .i64 1)) fun v14 =>
(y1cn v14 v1 h)
def y1xs (s : St) : OX := y1ao (s 0) (s 1) s.h
theorem y125 : T0 yq6 [.t 4] y1xs := sq y1cw fun _ => by kernel_rfl
def y16i (v0 v1 : AV) (h : Heap) : OX :=
oh (y6 E (y8 E) 0 none true 117 [] h) fun v8 h15 =>
ob (evUn .not v8) fun v9 =>
cnd v9
 ((yf h15 (AV.bool false)))
 ((y1ao v0 v1 h15))
def y21k (s : St) : OX := y16i (s 0) (s 1) s.h
theorem y1gf : T0 yua [.t 4] y21k := sq y125 fun _ => by kernel_rfl
def y1la (v0 v1 : AV) (h : Heap) : OX :=
(y16i v0 v1 h)
def y1wh (s : St) : OX := y1la (s 0) (s 1) s.h
theorem y1k4 : T0 yv3 [.t 4] y1wh := sq y1gf fun _ => by kernel_rfl
@[simp] theorem y29v : E.pure 114 = true := rfl
theorem y2de (v0 v1 : AV) : (y8 E).p 114 [v0, v1] = y1la v0 v1 [⟨0, .dead⟩, ⟨0, .dead⟩, ⟨0, .dead⟩, ⟨0, .dead⟩, ⟨0, .dead⟩, ⟨0, .dead⟩, ⟨0, .dead⟩, ⟨0, .dead⟩] :=
  (y10 (cf := y25j) (by kernel_rfl) rfl).trans ((y1k4 _).trans (by kernel_rfl))
def y1gp (v2 v3 : AV) (h : Heap) : OX :=
ob (evLd true 5 v3 h) fun v39 =>
oh (evSt 5 v2 v39 h) fun _ h1 =>
(ob (evLd true 5 v2 h1) fun r0 =>
  yf h1 r0)
def y8e (s : St) : OX := y1gp (s 2) (s 3) s.h
theorem y1pq : T0 y1au [.cell 2 true 5] y8e := fun _ => by kernel_rfl
def yle (v2 v3 v22 v23 : AV) (h : Heap) : OX :=
  W E 0 ykq ⟨[(2, v2), (3, v3), (22, v22), (23, v23)], h⟩ y8e (y4 0 y8e xN) (finP [.cell 2 true 5])
def y9t (s : St) : OX := yle (s 2) (s 3) (s 22) (s 23) s.h
theorem yl9 : T1 ykq y8e (y4 0 y8e xN) [.cell 2 true 5] y9t := fun s => yk.trans (by kernel_rfl)
def y1wq (v2 v3 v22 v23 : AV) (h : Heap) : OX :=
ob (y5 .add v23 (AV.int .i64 1)) fun v38 =>
(yle v2 v3 v22 v38 h)
def y285 (s : St) : OX := y1wq (s 2) (s 3) (s 22) (s 23) s.h
theorem y1mu : T1 y1gj y9t (y4 0 y8e xN) [.cell 2 true 5] y285 := fun _ => by kernel_rfl
def y235 (v2 v3 v22 v23 : AV) (h : Heap) : OX :=
ob (evFa 3 v3) fun v26 =>
ob (evLd false 1 v26 h) fun v27 =>
ob (evFa 3 v3) fun v29 =>
ob (evLd false 1 v29 h) fun v30 =>
ob (yv 9 v30 v23) fun v32 =>
ob (evFa 8 v32) fun v33 =>
ob (evLd false 1 v33 h) fun v34 =>
ofp (y5d E (y8 E) 0 none true 39 [v34] h) fun f9 =>
oh (y6 E (y8 E) 0 none true 39 [v34] h) fun v35 h2 =>
ob (yv 9 v27 v23) fun v36 =>
ob (evFa 8 v36) fun v37 =>
oh (evSt 1 v37 v35 h2) fun _ h3 =>
okK (y12 [([], []), (ids1 v26, []), ([], []), ([], []), (ids1 v29, []), ([], []), ([], []), ([], []), (ids1 v33, []), f9, ([], []), ([], []), ([], ids1 v37)] [(1, 9)]) <|
(y1wq v2 v3 v22 v23 h3)
def y25f (s : St) : OX := y235 (s 2) (s 3) (s 22) (s 23) s.h
theorem y1ls : T1 y1el y9t (y4 0 y8e xN) [.cell 2 true 5] y25f := sq y1mu fun _ => by kernel_rfl
def y1p5 (v2 v3 v22 v23 v24 : AV) (h : Heap) : OX :=
cnd v24
 ((y235 v2 v3 v22 v23 h))
 ((y1gp v2 v3 h))
def y28r (s : St) : OX := y1p5 (s 2) (s 3) (s 22) (s 23) (s 24) s.h
theorem y1oh : T1 y15f y9t (y4 0 y8e xN) [.cell 2 true 5] y28r := sq y1ls fun _ => by kernel_rfl
def y1r9 (v2 v3 v22 v23 : AV) (h : Heap) : OX :=
ob (y5 .lss v23 v22) fun v24 =>
(y1p5 v2 v3 v22 v23 v24 h)
def y253 (s : St) : OX := y1r9 (s 2) (s 3) (s 22) (s 23) s.h
theorem y1ne : T1 y161 y9t (y4 0 y8e xN) [.cell 2 true 5] y253 := sq y1oh fun _ => by kernel_rfl
theorem yme (v2 v3 v22 v23 : AV) (h : Heap) : yle v2 v3 v22 v23 h = (y1r9 v2 v3 v22 v23 h) :=
  y1w.trans ((y1b _ _ _ (n' := y9t) (fun s => yl9 s)).trans ((y1ne _).trans (by kernel_rfl)))
theorem y1oo : T1 y1a6 y8e xN [.cell 2 true 5] y9t := fun s => yw.trans (yl9 s)
def y17p (v2 v3 : AV) (h : Heap) : OX :=
ob (evFa 3 v3) fun v20 =>
ob (evLd false 1 v20 h) fun v21 =>
ob (y14 1 v21 h) fun v22 =>
(yle v2 v3 v22 (AV.int .i64 0) h)
def y1ts (s : St) : OX := y17p (s 2) (s 3) s.h
theorem y1nw : T1 y1g8 y8e xN [.cell 2 true 5] y1ts := sq y1oo fun _ => by kernel_rfl
theorem y1m7 : T0 y17x [.cell 2 true 5] y1ts := sq y1pq y1nw
def ymf (v1 v2 : AV) (h : Heap) : OX :=
ob (evFa 0 v1) fun v5 =>
ob (evLd false 1 v5 h) fun v6 =>
ofp (y5d E (y8 E) 0 (some 2) false 39 [v6] h) fun f2 =>
oh (y6 E (y8 E) 0 (some 2) false 39 [v6] h) fun v7 h4 =>
ob (evFa 1 v1) fun v8 =>
ob (evLd false 1 v8 h4) fun v9 =>
ofp (y5d E (y8 E) 0 (some 3) false 39 [v9] h4) fun f5 =>
oh (y6 E (y8 E) 0 (some 3) false 39 [v9] h4) fun v10 h5 =>
ob (evFa 2 v1) fun v11 =>
ob (evLd false 1 v11 h5) fun v12 =>
ob (evFa 3 v1) fun v13 =>
ob (evLd false 1 v13 h5) fun v14 =>
ofp (y5d E (y8 E) 0 (some 4) false 40 [v14] h5) fun f10 =>
oh (y6 E (y8 E) 0 (some 4) false 40 [v14] h5) fun v15 h6 =>
ob (evFa 4 v1) fun v16 =>
ob (evLd false 1 v16 h6) fun v17 =>
ofp (y5d E (y8 E) 0 (some 5) false 41 [v17] h6) fun f13 =>
oh (y6 E (y8 E) 0 (some 5) false 41 [v17] h6) fun v18 h7 =>
ob (yu [.nils, .nils, (.int .i64 0), .nils, .nils] [(0, 1, v7), (1, 1, v10), (2, 1, v12), (3, 1, v15), (4, 1, v18)]) fun v19 =>
oh (newC 0 (some 6) [.nils, .nils, (.int .i64 0), .nils, .nils] h7) fun v3 h8 =>
oh (evSt 5 v3 v19 h8) fun _ h9 =>
okK (y12 [([], []), (ids1 v5, []), f2, ([], []), (ids1 v8, []), f5, ([], []), (ids1 v11, []), ([], []), (ids1 v13, []), f10, ([], []), (ids1 v16, []), f13, ([], []), ([], [0 + 6]), ([], ids1 v3)] [(2, 4), (2, 7), (5, 7), (2, 9), (5, 9), (7, 10), (2, 12), (5, 12), (10, 12), (7, 13), (1, 15), (2, 15), (4, 15), (5, 15), (7, 15), (9, 15), (10, 15), (12, 15), (13, 15)]) <|
(y17p v2 v3 h9)
def y223 (s : St) : OX := ymf (s 1) (s 2) s.h
theorem y18s : T0 yx0 [.cell 2 true 5] y223 := sq y1m7 fun _ => by kernel_rfl
def yzi (v0 : AV) (h : Heap) : OX :=
oh (newC 0 (some 0) (cellsOf v0) h) fun v1 h10 =>
oh (newC 0 (some 1) [.nils, .nils, (.int .i64 0), .nils, .nils] h10) fun v2 h11 =>
(ymf v1 v2 h11)
def y21e (s : St) : OX := yzi (s 0) s.h
theorem y18h : T0 yxt [.cell 2 true 5] y21e := sq y18s fun _ => by kernel_rfl
@[simp] theorem y2dp : E.pure 13 = true := rfl
theorem y2b8 (v0 : AV) : (y8 E).p 13 [v0] = yzi v0 [⟨0, .dead⟩, ⟨0, .dead⟩, ⟨0, .dead⟩, ⟨0, .dead⟩, ⟨0, .dead⟩, ⟨0, .dead⟩, ⟨0, .dead⟩] :=
  (y10 (cf := y27p) (by kernel_rfl) rfl).trans ((y18h _).trans (by kernel_rfl))
@[simp] theorem y2c2 : E.pure 14 = true := rfl
def y20p (h : Heap) : OX :=
(yf h (AV.int .i64 0))
def y81 (s : St) : OX := y20p s.h
theorem y1sb : T0 y17q [.t 2] y81 := fun _ => by kernel_rfl
def yhk (v1 v3 v136 v137 v138 : AV) (h : Heap) : OX :=
  W E 0 ykp ⟨[(1, v1), (3, v3), (136, v136), (137, v137), (138, v138)], h⟩ y81 (y4 6 y81 xN) (finP [.t 2])
def ya8 (s : St) : OX := yhk (s 1) (s 3) (s 136) (s 137) (s 138) s.h
theorem yli : T1 ykp y81 (y4 6 y81 xN) [.t 2] ya8 := fun s => yk.trans (by kernel_rfl)
def y20a (v1 v3 v136 v137 v138 : AV) (h : Heap) : OX :=
ob (y5 .add v138 (AV.int .i64 1)) fun v179 =>
(yhk v1 v3 v136 v137 v179 h)
def y261 (s : St) : OX := y20a (s 1) (s 3) (s 136) (s 137) (s 138) s.h
theorem y1rb : T1 y120 ya8 (y4 6 y81 xN) [.t 2] y261 := fun _ => by kernel_rfl
def yjg (v1 v3 v136 v137 v138 : AV) (h : Heap) : OX :=
ob (yv 4 v136 v138) fun v140 =>
ob (evLd true 4 v140 h) fun v141 =>
oh (newC 0 (some 2) [(.int .i64 0), (.int .i64 0), (.int .i64 0), (.str [])] h) fun v11 h1 =>
oh (evSt 4 v11 v141 h1) fun _ h2 =>
ob (evFa 0 v11) fun v142 =>
ob (evLd false 1 v142 h2) fun v143 =>
ob (y5 .lss v143 (AV.int .i64 0)) fun v144 =>
gb v144 false (evFa 0 v11) fun v146 =>
gb v144 false (evLd false 1 v146 h2) fun v147 =>
gb v144 false (evFa 1 v11) fun v148 =>
gb v144 false (evLd false 1 v148 h2) fun v149 =>
gb v144 false (y5 .geq v147 v149) fun v150 =>
ob (ye v144 (AV.bool true) v150) fun v151 =>
gb v151 false (evFa 1 v11) fun v153 =>
gb v151 false (evLd false 1 v153 h2) fun v154 =>
gb v151 false (some v3) fun v155 =>
gb v151 false (y5 .gtr v154 v155) fun v156 =>
ob (ye v151 (AV.bool true) v156) fun v157 =>
gb v157 false (evFa 2 v11) fun v159 =>
gb v157 false (evLd false 1 v159 h2) fun v160 =>
gb v157 false (y5 .lss v160 (AV.int .i64 0)) fun v161 =>
ob (ye v157 (AV.bool true) v161) fun v162 =>
gb v162 false (evFa 2 v11) fun v164 =>
gb v162 false (evLd false 1 v164 h2) fun v165 =>
gb v162 false (some v3) fun v166 =>
gb v162 false (y5 .geq v165 v166) fun v167 =>
ob (ye v162 (AV.bool true) v167) fun v168 =>
gb v168 false (evFa 3 v1) fun v170 =>
gb v168 false (evLd false 1 v170 h2) fun v171 =>
gb v168 false (evFa 2 v11) fun v172 =>
gb v168 false (evLd false 1 v172 h2) fun v173 =>
gb v168 false (yv 9 v171 v173) fun v174 =>
gb v168 false (evFa 0 v174) fun v175 =>
gb v168 false (evLd false 1 v175 h2) fun v176 =>
gb v168 false (y5 .neq v176 (AV.int .i64 32)) fun v177 =>
ob (ye v168 (AV.bool true) v177) fun v178 =>
cnd v178
 ((yf h2 (AV.int .i64 80)))
 ((y20a v1 v3 v136 v137 v138 h2))
def y26j (s : St) : OX := yjg (s 1) (s 3) (s 136) (s 137) (s 138) s.h
theorem y1oe : T1 y15q ya8 (y4 6 y81 xN) [.t 2] y26j := sq y1rb fun _ => by kernel_rfl
def y1m0 (v1 v3 v136 v137 v138 v139 : AV) (h : Heap) : OX :=
cnd v139
 ((yjg v1 v3 v136 v137 v138 h))
 ((y20p h))
def y25e (s : St) : OX := y1m0 (s 1) (s 3) (s 136) (s 137) (s 138) (s 139) s.h
theorem y1q7 : T1 y17u ya8 (y4 6 y81 xN) [.t 2] y25e := sq y1oe fun _ => by kernel_rfl
def y1r5 (v1 v3 v136 v137 v138 : AV) (h : Heap) : OX :=
ob (y5 .lss v138 v137) fun v139 =>
(y1m0 v1 v3 v136 v137 v138 v139 h)
def y27t (s : St) : OX := y1r5 (s 1) (s 3) (s 136) (s 137) (s 138) s.h
theorem y1qv : T1 y1kf ya8 (y4 6 y81 xN) [.t 2] y27t := sq y1q7 fun _ => by kernel_rfl
theorem ymo (v1 v3 v136 v137 v138 : AV) (h : Heap) : yhk v1 v3 v136 v137 v138 h = (y1r5 v1 v3 v136 v137 v138 h) :=
  y1w.trans ((y1b _ _ _ (n' := ya8) (fun s => yli s)).trans ((y1qv _).trans (by kernel_rfl)))
theorem y1mq : T1 y18r y81 xN [.t 2] ya8 := fun s => yw.trans (yli s)
def y152 (v1 v3 : AV) (h : Heap) : OX :=
ob (evFa 4 v1) fun v135 =>
ob (evLd false 1 v135 h) fun v136 =>
ob (y14 1 v136 h) fun v137 =>
(yhk v1 v3 v136 v137 (AV.int .i64 0) h)
def y4j (s : St) : OX := y152 (s 1) (s 3) s.h
theorem y1m2 : T1 y1e7 y81 xN [.t 2] y4j := sq y1mq fun _ => by kernel_rfl
theorem y1tj : T0 y1hg [.t 2] y4j := sq y1sb y1m2
def yc1 (v1 v3 v92 v93 v94 : AV) (h : Heap) : OX :=
  W E 0 yf8 ⟨[(1, v1), (3, v3), (92, v92), (93, v93), (94, v94)], h⟩ y4j (y4 4 y4j xN) (finP [.t 2])
def y5z (s : St) : OX := yc1 (s 1) (s 3) (s 92) (s 93) (s 94) s.h
theorem yi7 : T1 yf8 y4j (y4 4 y4j xN) [.t 2] y5z := fun s => yk.trans (by kernel_rfl)
def yui (v1 v3 v92 v93 v94 : AV) (h : Heap) : OX :=
ob (y5 .add v94 (AV.int .i64 1)) fun v134 =>
(yc1 v1 v3 v92 v93 v134 h)
def y80 (s : St) : OX := yui (s 1) (s 3) (s 92) (s 93) (s 94) s.h
theorem y1fv : T1 yzg y5z (y4 4 y4j xN) [.t 2] y80 := fun _ => by kernel_rfl
def y9k (v1 v3 v8 v9 v92 v93 v94 : AV) (h : Heap) : OX :=
ob (evFa 0 v9) fun v103 =>
ob (evLd false 1 v103 h) fun v104 =>
ob (y5 .eql v104 (AV.int .i64 32)) fun v105 =>
gb v105 true (some v8) fun v107 =>
gb v105 true (y5 .eql v107 (AV.int .i64 0)) fun v108 =>
gb v105 true (some v108) fun v109 =>
gb v109 false (evFa 3 v1) fun v110 =>
gb v109 false (evLd false 1 v110 h) fun v111 =>
gb v109 false (some v8) fun v112 =>
gb v109 false (y5 .sub v112 (AV.int .i64 1)) fun v113 =>
gb v109 false (yv 9 v111 v113) fun v114 =>
gb v109 false (evLd true 9 v114 h) fun v115 =>
gh v109 false (y6 E (y8 E) 0 none true 24 [v115] h) h fun v116 h3 =>
gb v109 false (evUn .not v116) fun v117 =>
gb v105 true (ye v109 (AV.bool true) v117) fun v118 =>
ob (ye v105 v118 (AV.bool false)) fun v119 =>
gb v119 false (evLd true 9 v9 h3) fun v121 =>
gh v119 false (y6 E (y8 E) 0 none true 22 [v121] h3) h3 fun v122 h4 =>
gb v119 false (some v122) fun v123 =>
gb v123 true (evFa 3 v1) fun v124 =>
gb v123 true (evLd false 1 v124 h4) fun v125 =>
gb v123 true (evFa 6 v9) fun v126 =>
gb v123 true (evLd false 1 v126 h4) fun v127 =>
gb v123 true (yv 9 v125 v127) fun v128 =>
gb v123 true (evFa 0 v128) fun v129 =>
gb v123 true (evLd false 1 v129 h4) fun v130 =>
gb v123 true (y5 .eql v130 (AV.int .i64 32)) fun v131 =>
gb v119 false (ye v123 v131 (AV.bool false)) fun v132 =>
ob (ye v119 (AV.bool true) v132) fun v133 =>
cnd v133
 ((yf h4 (AV.int .i64 80)))
 ((yui v1 v3 v92 v93 v94 h4))
def y1yz (s : St) : OX := y9k (s 1) (s 3) (s 8) (s 9) (s 92) (s 93) (s 94) s.h
theorem y1hm : T1 yro y80 (y4 5 y80 (y4 4 y4j xN)) [.t 2] y1yz := fun _ => by kernel_rfl
def yzc (v1 v3 v8 v9 v92 v93 v94 : AV) (h : Heap) : OX :=
ob (evLd true 5 v1 h) fun v99 =>
ob (evLd true 9 v9 h) fun v100 =>
oh (y6 E (y8 E) 0 none true 63 [v99, v100] h) fun v101 h5 =>
ob (evUn .not v101) fun v102 =>
cnd v102
 ((yf h5 (AV.int .i64 80)))
 ((y9k v1 v3 v8 v9 v92 v93 v94 h5))
def y1y6 (s : St) : OX := yzc (s 1) (s 3) (s 8) (s 9) (s 92) (s 93) (s 94) s.h
theorem y1b6 : T1 yxq y80 (y4 5 y80 (y4 4 y4j xN)) [.t 2] y1y6 := sq y1hm fun _ => by kernel_rfl
def yma (v1 v3 v92 v93 v94 : AV) (h : Heap) : OX :=
ob (yv 9 v92 v94) fun v97 =>
ob (evLd true 9 v97 h) fun v98 =>
oh (newC 0 (some 1) [(.int .i64 0), (.int .i64 0), (.int .i64 0), (.int .i64 0), (.int .i64 0), (.int .i64 0), (.int .i64 0), (.str []), .nils] h) fun v9 h6 =>
oh (evSt 9 v9 v98 h6) fun _ h7 =>
(yzc v1 v3 v94 v9 v92 v93 v94 h7)
def yo5 (s : St) : OX := yma (s 1) (s 3) (s 92) (s 93) (s 94) s.h
theorem y1h3 : T1 yw1 y80 (y4 5 y80 (y4 4 y4j xN)) [.t 2] yo5 := sq y1b6 fun _ => by kernel_rfl
theorem y19r : T1 yqg y80 (y4 4 y4j xN) [.t 2] yo5 := fun s => yw.trans (y1h3 s)
theorem y1a8 : T1 ysu y5z (y4 4 y4j xN) [.t 2] yo5 := sq y1fv y19r
def yxn (v1 v3 v92 v93 v94 v95 : AV) (h : Heap) : OX :=
cnd v95
 ((yma v1 v3 v92 v93 v94 h))
 ((y152 v1 v3 h))
def y1vl (s : St) : OX := yxn (s 1) (s 3) (s 92) (s 93) (s 94) (s 95) s.h
theorem y1e1 : T1 yv8 y5z (y4 4 y4j xN) [.t 2] y1vl := sq y1a8 fun _ => by kernel_rfl
def yv9 (v1 v3 v92 v93 v94 : AV) (h : Heap) : OX :=
ob (y5 .lss v94 v93) fun v95 =>
(yxn v1 v3 v92 v93 v94 v95 h)
def y21l (s : St) : OX := yv9 (s 1) (s 3) (s 92) (s 93) (s 94) s.h
theorem y1j2 : T1 yr2 y5z (y4 4 y4j xN) [.t 2] y21l := sq y1e1 fun _ => by kernel_rfl
theorem yi6 (v1 v3 v92 v93 v94 : AV) (h : Heap) : yc1 v1 v3 v92 v93 v94 h = (yv9 v1 v3 v92 v93 v94 h) :=
  y1w.trans ((y1b _ _ _ (n' := y5z) (fun s => yi7 s)).trans ((y1j2 _).trans (by kernel_rfl)))
theorem y1ex : T1 yxw y4j xN [.t 2] y5z := fun s => yw.trans (yi7 s)
def ylp (v1 v3 : AV) (h : Heap) : OX :=
ob (evFa 3 v1) fun v91 =>
ob (evLd false 1 v91 h) fun v92 =>
ob (y14 1 v92 h) fun v93 =>
(yc1 v1 v3 v92 v93 (AV.int .i64 0) h)
def y47 (s : St) : OX := ylp (s 1) (s 3) s.h
theorem y13q : T1 yqn y4j xN [.t 2] y47 := sq y1ex fun _ => by kernel_rfl
theorem y1bv : T0 yvd [.t 2] y47 := sq y1tj y13q
def ybz (v1 v3 v62 v63 v64 : AV) (h : Heap) : OX :=
  W E 0 yfe ⟨[(1, v1), (3, v3), (62, v62), (63, v63), (64, v64)], h⟩ y47 (y4 2 y47 xN) (finP [.t 2])
def y6j (s : St) : OX := ybz (s 1) (s 3) (s 62) (s 63) (s 64) s.h
theorem ygv : T1 yfe y47 (y4 2 y47 xN) [.t 2] y6j := fun s => yk.trans (by kernel_rfl)
def y1cd (v1 v3 v62 v63 v64 : AV) (h : Heap) : OX :=
ob (y5 .add v64 (AV.int .i64 1)) fun v90 =>
(ybz v1 v3 v62 v63 v90 h)
def y1yx (s : St) : OX := y1cd (s 1) (s 3) (s 62) (s 63) (s 64) s.h
theorem y1c2 : T1 yxi y6j (y4 2 y47 xN) [.t 2] y1yx := fun _ => by kernel_rfl
def yfk (v1 v3 v62 v63 v64 : AV) (h : Heap) : OX :=
ob (yv 1 v62 v64) fun v67 =>
ob (evLd false 1 v67 h) fun v68 =>
ob (y5 .lss v68 (AV.int .i64 0)) fun v70 =>
gb v70 false (some v68) fun v72 =>
gb v70 false (evFa 0 v1) fun v73 =>
gb v70 false (evLd false 1 v73 h) fun v74 =>
gb v70 false (y14 1 v74 h) fun v75 =>
gb v70 false (y5 .geq v72 v75) fun v76 =>
ob (ye v70 (AV.bool true) v76) fun v77 =>
gb v77 false (evFa 1 v1) fun v79 =>
gb v77 false (evLd false 1 v79 h) fun v80 =>
gb v77 false (some v64) fun v81 =>
gb v77 false (ybb 1 v80 none (some v81)) fun v82 =>
gb v77 false (some v68) fun v83 =>
gh v77 false (y6 E (y8 E) 0 none true 46 [v82, v83] h) h fun v84 h8 =>
ob (ye v77 (AV.bool true) v84) fun v85 =>
gb v85 false (some v64) fun v87 =>
gb v85 false (y5 .gtr v87 (AV.int .i64 20)) fun v88 =>
ob (ye v85 (AV.bool true) v88) fun v89 =>
cnd v89
 ((yf h8 (AV.int .i64 80)))
 ((y1cd v1 v3 v62 v63 v64 h8))
def y1zm (s : St) : OX := yfk (s 1) (s 3) (s 62) (s 63) (s 64) s.h
theorem y14u : T1 ytt y6j (y4 2 y47 xN) [.t 2] y1zm := sq y1c2 fun _ => by kernel_rfl
def yyz (v1 v3 v62 v63 v64 v65 : AV) (h : Heap) : OX :=
cnd v65
 ((yfk v1 v3 v62 v63 v64 h))
 ((ylp v1 v3 h))
def y210 (s : St) : OX := yyz (s 1) (s 3) (s 62) (s 63) (s 64) (s 65) s.h
theorem y192 : T1 yyp y6j (y4 2 y47 xN) [.t 2] y210 := sq y14u fun _ => by kernel_rfl
def yuu (v1 v3 v62 v63 v64 : AV) (h : Heap) : OX :=
ob (y5 .lss v64 v63) fun v65 =>
(yyz v1 v3 v62 v63 v64 v65 h)
def y212 (s : St) : OX := yuu (s 1) (s 3) (s 62) (s 63) (s 64) s.h
theorem y1k1 : T1 yz5 y6j (y4 2 y47 xN) [.t 2] y212 := sq y192 fun _ => by kernel_rfl
theorem yhb (v1 v3 v62 v63 v64 : AV) (h : Heap) : ybz v1 v3 v62 v63 v64 h = (yuu v1 v3 v62 v63 v64 h) :=
  y1w.trans ((y1b _ _ _ (n' := y6j) (fun s => ygv s)).trans ((y1k1 _).trans (by kernel_rfl)))
theorem y1dm : T1 ys0 y47 xN [.t 2] y6j := fun s => yw.trans (ygv s)
def ymh (v1 v3 : AV) (h : Heap) : OX :=
ob (evFa 1 v1) fun v61 =>
ob (evLd false 1 v61 h) fun v62 =>
ob (y14 1 v62 h) fun v63 =>
(ybz v1 v3 v62 v63 (AV.int .i64 0) h)
def y4c (s : St) : OX := ymh (s 1) (s 3) s.h
theorem y164 : T1 ytf y47 xN [.t 2] y4c := sq y1dm fun _ => by kernel_rfl
theorem y1df : T0 yz0 [.t 2] y4c := sq y1bv y164
def yc5 (v1 v3 v48 v49 v50 : AV) (h : Heap) : OX :=
  W E 0 yfl ⟨[(1, v1), (3, v3), (48, v48), (49, v49), (50, v50)], h⟩ y4c (y4 0 y4c xN) (finP [.t 2])
def y6d (s : St) : OX := yc5 (s 1) (s 3) (s 48) (s 49) (s 50) s.h
theorem yiw : T1 yfl y4c (y4 0 y4c xN) [.t 2] y6d := fun s => yk.trans (by kernel_rfl)
def y1b3 (v1 v3 v48 v49 v50 : AV) (h : Heap) : OX :=
ob (y5 .add v50 (AV.int .i64 1)) fun v60 =>
(yc5 v1 v3 v48 v49 v60 h)
def y1xx (s : St) : OX := y1b3 (s 1) (s 3) (s 48) (s 49) (s 50) s.h
theorem y1al : T1 yy1 y6d (y4 0 y4c xN) [.t 2] y1xx := fun _ => by kernel_rfl
def ymx (v1 v3 v48 v49 v50 : AV) (h : Heap) : OX :=
ob (yv 1 v48 v50) fun v52 =>
ob (evLd false 1 v52 h) fun v53 =>
ob (y5 .lss v53 (AV.int .i64 1)) fun v55 =>
gb v55 false (some v53) fun v57 =>
gb v55 false (y5 .gtr v57 (AV.int .i64 3)) fun v58 =>
ob (ye v55 (AV.bool true) v58) fun v59 =>
cnd v59
 ((yf h (AV.int .i64 80)))
 ((y1b3 v1 v3 v48 v49 v50 h))
def y1xw (s : St) : OX := ymx (s 1) (s 3) (s 48) (s 49) (s 50) s.h
theorem y15n : T1 yxz y6d (y4 0 y4c xN) [.t 2] y1xw := sq y1al fun _ => by kernel_rfl
def ysf (v1 v3 v48 v49 v50 v51 : AV) (h : Heap) : OX :=
cnd v51
 ((ymx v1 v3 v48 v49 v50 h))
 ((ymh v1 v3 h))
def y1ym (s : St) : OX := ysf (s 1) (s 3) (s 48) (s 49) (s 50) (s 51) s.h
theorem y1fd : T1 yuf y6d (y4 0 y4c xN) [.t 2] y1ym := sq y15n fun _ => by kernel_rfl
def yzh (v1 v3 v48 v49 v50 : AV) (h : Heap) : OX :=
ob (y5 .lss v50 v49) fun v51 =>
(ysf v1 v3 v48 v49 v50 v51 h)
def y228 (s : St) : OX := yzh (s 1) (s 3) (s 48) (s 49) (s 50) s.h
theorem y140 : T1 yyi y6d (y4 0 y4c xN) [.t 2] y228 := sq y1fd fun _ => by kernel_rfl
theorem yhz (v1 v3 v48 v49 v50 : AV) (h : Heap) : yc5 v1 v3 v48 v49 v50 h = (yzh v1 v3 v48 v49 v50 h) :=
  y1w.trans ((y1b _ _ _ (n' := y6d) (fun s => yiw s)).trans ((y140 _).trans (by kernel_rfl)))
theorem y167 : T1 ys7 y4c xN [.t 2] y6d := fun s => yw.trans (yiw s)
def yio (v1 v3 : AV) (h : Heap) : OX :=
ob (evFa 0 v1) fun v47 =>
ob (evLd false 1 v47 h) fun v48 =>
ob (y14 1 v48 h) fun v49 =>
(yc5 v1 v3 v48 v49 (AV.int .i64 0) h)
def y129 (s : St) : OX := yio (s 1) (s 3) s.h
theorem y13x : T1 yyy y4c xN [.t 2] y129 := sq y167 fun _ => by kernel_rfl
theorem y1k0 : T0 ysg [.t 2] y129 := sq y1df y13x
def yaq (v1 v3 : AV) (h : Heap) : OX :=
ob (y5 .lss v3 (AV.int .i64 1)) fun v16 =>
gb v16 false (some v3) fun v18 =>
gb v16 false (y5 .gtr v18 (AV.int .i64 20000)) fun v19 =>
ob (ye v16 (AV.bool true) v19) fun v20 =>
gb v20 false (evFa 0 v1) fun v22 =>
gb v20 false (evLd false 1 v22 h) fun v23 =>
gb v20 false (y14 1 v23 h) fun v24 =>
gb v20 false (y5 .gtr v24 (AV.int .i64 20000)) fun v25 =>
ob (ye v20 (AV.bool true) v25) fun v26 =>
gb v26 false (evFa 2 v1) fun v28 =>
gb v26 false (evLd false 1 v28 h) fun v29 =>
gb v26 false (y5 .lss v29 (AV.int .i64 0)) fun v30 =>
ob (ye v26 (AV.bool true) v30) fun v31 =>
gb v31 false (evFa 2 v1) fun v33 =>
gb v31 false (evLd false 1 v33 h) fun v34 =>
gb v31 false (y5 .gtr v34 (AV.int .i64 3)) fun v35 =>
ob (ye v31 (AV.bool true) v35) fun v36 =>
gb v36 false (evFa 3 v1) fun v38 =>
gb v36 false (evLd false 1 v38 h) fun v39 =>
gb v36 false (some v3) fun v40 =>
gb v36 false (y5 .sub v40 (AV.int .i64 1)) fun v41 =>
gb v36 false (yv 9 v39 v41) fun v42 =>
gb v36 false (evLd true 9 v42 h) fun v43 =>
gh v36 false (y6 E (y8 E) 0 none true 24 [v43] h) h fun v44 h9 =>
gb v36 false (evUn .not v44) fun v45 =>
ob (ye v36 (AV.bool true) v45) fun v46 =>
cnd v46
 ((yf h9 (AV.int .i64 80)))
 ((yio v1 v3 h9))
def y1yl (s : St) : OX := yaq (s 1) (s 3) s.h
theorem y1ah : T0 ytv [.t 2] y1yl := sq y1k0 fun _ => by kernel_rfl
def yb5 (v1 : AV) (h : Heap) : OX :=
ob (evFa 3 v1) fun v12 =>
ob (evLd false 1 v12 h) fun v13 =>
ob (y14 1 v13 h) fun v14 =>
(yaq v1 v14 h)
def y1zu (s : St) : OX := yb5 (s 1) s.h
theorem y170 : T0 yy0 [.t 2] y1zu := sq y1ah fun _ => by kernel_rfl
def y9l (v0 : AV) (h : Heap) : OX :=
oh (newC 0 (some 0) (cellsOf v0) h) fun v1 h10 =>
(yb5 v1 h10)
def y22g (s : St) : OX := y9l (s 0) s.h
theorem y174 : T0 yxm [.t 2] y22g := sq y170 fun _ => by kernel_rfl
@[simp] theorem y2ew : E.pure 8 = true := rfl
theorem y2d2 (v0 : AV) : (y8 E).p 8 [v0] = y9l v0 [⟨0, .dead⟩, ⟨0, .dead⟩, ⟨0, .dead⟩] :=
  (y10 (cf := y24z) (by kernel_rfl) rfl).trans ((y174 _).trans (by kernel_rfl))
@[simp] theorem y2ad : E.pure 117 = true := rfl
def y1dv (v2 v9 : AV) (h : Heap) : OX :=
ob (evLd true 5 v9 h) fun v150 =>
oh (evSt 5 v2 v150 h) fun _ h1 =>
(ob (evLd true 5 v2 h1) fun r0 =>
  yf h1 r0)
def y88 (s : St) : OX := y1dv (s 2) (s 9) s.h
theorem y1t3 : T0 y1d5 [.cell 2 true 5] y88 := fun _ => by kernel_rfl
def yl7 (v2 v3 v6 v9 v102 v103 v104 : AV) (h : Heap) : OX :=
  W E 0 ykc ⟨[(2, v2), (3, v3), (6, v6), (9, v9), (102, v102), (103, v103), (104, v104)], h⟩ y88 (y4 6 y88 xN) (finP [.cell 2 true 5])
def y9o (s : St) : OX := yl7 (s 2) (s 3) (s 6) (s 9) (s 102) (s 103) (s 104) s.h
theorem ynv : T1 ykc y88 (y4 6 y88 xN) [.cell 2 true 5] y9o := fun s => yk.trans (by kernel_rfl)
def y0s (v2 v3 v6 v9 v102 v103 v104 : AV) (h : Heap) : OX :=
ob (y5 .add v104 (AV.int .i64 1)) fun v149 =>
(yl7 v2 v3 v6 v9 v102 v103 v149 h)
def y26v (s : St) : OX := y0s (s 2) (s 3) (s 6) (s 9) (s 102) (s 103) (s 104) s.h
theorem y1sk : T1 y1jv y9o (y4 6 y88 xN) [.cell 2 true 5] y26v := fun _ => by kernel_rfl
def y118 (v2 v3 v6 v9 v102 v103 v104 : AV) (h : Heap) : OX :=
ob (yv 4 v102 v104) fun v106 =>
ob (evLd true 4 v106 h) fun v107 =>
oh (newC 0 (some 9) [(.int .i64 0), (.int .i64 0), (.int .i64 0), (.str [])] h) fun v13 h2 =>
oh (evSt 4 v13 v107 h2) fun _ h3 =>
ob (evFa 2 v13) fun v109 =>
ob (evLd false 1 v109 h3) fun v110 =>
ob (yv 1 v3 v110) fun v111 =>
ob (evLd false 1 v111 h3) fun v112 =>
gb v112 true (some v6) fun v114 =>
gb v112 true (evFa 0 v13) fun v115 =>
gb v112 true (evLd false 1 v115 h3) fun v116 =>
gb v112 true (yv 1 v114 v116) fun v117 =>
gb v112 true (evLd false 1 v117 h3) fun v118 =>
gb v112 true (some v6) fun v119 =>
gb v112 true (evFa 1 v13) fun v120 =>
gb v112 true (evLd false 1 v120 h3) fun v121 =>
gb v112 true (yv 1 v119 v121) fun v122 =>
gb v112 true (evLd false 1 v122 h3) fun v123 =>
gb v112 true (y5 .lss v118 v123) fun v124 =>
ob (ye v112 v124 (AV.bool false)) fun v125 =>
cnd v125
 (ob (evFa 4 v9) fun v126 =>
ob (evLd false 1 v126 h3) fun v127 =>
ob (evFa 0 v13) fun v129 =>
ob (evLd false 1 v129 h3) fun v130 =>
ob (yv 1 v6 v130) fun v131 =>
ob (evLd false 1 v131 h3) fun v132 =>
ob (evFa 1 v13) fun v134 =>
ob (evLd false 1 v134 h3) fun v135 =>
ob (yv 1 v6 v135) fun v136 =>
ob (evLd false 1 v136 h3) fun v137 =>
ob (evFa 2 v13) fun v139 =>
ob (evLd false 1 v139 h3) fun v140 =>
ob (yv 1 v6 v140) fun v141 =>
ob (evLd false 1 v141 h3) fun v142 =>
ob (evFa 3 v13) fun v143 =>
ob (evLd false 1 v143 h3) fun v144 =>
ob (yu [(.int .i64 0), (.int .i64 0), (.int .i64 0), (.str [])] [(0, 1, v132), (1, 1, v137), (2, 1, v142), (3, 1, v144)]) fun v145 =>
oh (yp 0 (some 10) 4 1 [(.int .i64 0), (.int .i64 0), (.int .i64 0), (.str [])] [(0, v145)] h3) fun v146 h4 =>
oh (y1y 0 (some 11) 4 40 v127 v146 h4) fun v147 h5 =>
ob (evFa 4 v9) fun v148 =>
oh (evSt 1 v148 v147 h5) fun _ h6 =>
okK (y12 [([], []), (ids1 v126, []), ([], []), ([], []), (ids1 v129, []), ([], []), (ids1 v131, []), ([], []), ([], []), (ids1 v134, []), ([], []), (ids1 v136, []), ([], []), ([], []), (ids1 v139, []), ([], []), (ids1 v141, []), ([], []), (ids1 v143, []), ([], []), ([], [0 + 10]), (ids1 v146, ids1 v127 ++ [0 + 11]), ([], []), ([], ids1 v148)] [(1, 20)]) <|
(y0s v2 v3 v6 v9 v102 v103 v104 h6))
 ((y0s v2 v3 v6 v9 v102 v103 v104 h3))
def y268 (s : St) : OX := y118 (s 2) (s 3) (s 6) (s 9) (s 102) (s 103) (s 104) s.h
theorem y1qz : T1 y1jz y9o (y4 6 y88 xN) [.cell 2 true 5] y268 := sq y1sk fun _ => by kernel_rfl
def y1qg (v2 v3 v6 v9 v102 v103 v104 v105 : AV) (h : Heap) : OX :=
cnd v105
 ((y118 v2 v3 v6 v9 v102 v103 v104 h))
 ((y1dv v2 v9 h))
def y291 (s : St) : OX := y1qg (s 2) (s 3) (s 6) (s 9) (s 102) (s 103) (s 104) (s 105) s.h
theorem y1lt : T1 y1io y9o (y4 6 y88 xN) [.cell 2 true 5] y291 := sq y1qz fun _ => by kernel_rfl
def y17g (v2 v3 v6 v9 v102 v103 v104 : AV) (h : Heap) : OX :=
ob (y5 .lss v104 v103) fun v105 =>
(y1qg v2 v3 v6 v9 v102 v103 v104 v105 h)
def y286 (s : St) : OX := y17g (s 2) (s 3) (s 6) (s 9) (s 102) (s 103) (s 104) s.h
theorem y1pc : T1 y1ae y9o (y4 6 y88 xN) [.cell 2 true 5] y286 := sq y1lt fun _ => by kernel_rfl
theorem ynd (v2 v3 v6 v9 v102 v103 v104 : AV) (h : Heap) : yl7 v2 v3 v6 v9 v102 v103 v104 h = (y17g v2 v3 v6 v9 v102 v103 v104 h) :=
  y1w.trans ((y1b _ _ _ (n' := y9o) (fun s => ynv s)).trans ((y1pc _).trans (by kernel_rfl)))
theorem y1ny : T1 y1fu y88 xN [.cell 2 true 5] y9o := fun s => yw.trans (ynv s)
def y11n (v1 v2 v3 v6 v9 : AV) (h : Heap) : OX :=
ob (evFa 4 v1) fun v101 =>
ob (evLd false 1 v101 h) fun v102 =>
ob (y14 1 v102 h) fun v103 =>
(yl7 v2 v3 v6 v9 v102 v103 (AV.int .i64 0) h)
def y42 (s : St) : OX := y11n (s 1) (s 2) (s 3) (s 6) (s 9) s.h
theorem y1ob : T1 y1lk y88 xN [.cell 2 true 5] y42 := sq y1ny fun _ => by kernel_rfl
theorem y1re : T0 y1b4 [.cell 2 true 5] y42 := sq y1t3 y1ob
def ye1 (v1 v2 v3 v6 v9 v73 v74 v75 : AV) (h : Heap) : OX :=
  W E 0 yg3 ⟨[(1, v1), (2, v2), (3, v3), (6, v6), (9, v9), (73, v73), (74, v74), (75, v75)], h⟩ y42 (y4 4 y42 xN) (finP [.cell 2 true 5])
def y6m (s : St) : OX := ye1 (s 1) (s 2) (s 3) (s 6) (s 9) (s 73) (s 74) (s 75) s.h
theorem yhe : T1 yg3 y42 (y4 4 y42 xN) [.cell 2 true 5] y6m := fun s => yk.trans (by kernel_rfl)
def ylo (v1 v2 v3 v6 v9 v73 v74 v75 : AV) (h : Heap) : OX :=
ob (y5 .add v75 (AV.int .i64 1)) fun v100 =>
(ye1 v1 v2 v3 v6 v9 v73 v74 v100 h)
def y5i (s : St) : OX := ylo (s 1) (s 2) (s 3) (s 6) (s 9) (s 73) (s 74) (s 75) s.h
theorem y197 : T1 yuh y6m (y4 4 y42 xN) [.cell 2 true 5] y5i := fun _ => by kernel_rfl
def ymt (v1 v2 v3 v6 v9 v11 v73 v74 v75 : AV) (h : Heap) : OX :=
ob (evFa 3 v9) fun v94 =>
ob (evLd false 1 v94 h) fun v95 =>
ob (evLd true 9 v11 h) fun v96 =>
oh (yp 0 (some 7) 9 1 [(.int .i64 0), (.int .i64 0), (.int .i64 0), (.int .i64 0), (.int .i64 0), (.int .i64 0), (.int .i64 0), (.str []), .nils] [(0, v96)] h) fun v97 h7 =>
oh (y1y 0 (some 8) 9 96 v95 v97 h7) fun v98 h8 =>
ob (evFa 3 v9) fun v99 =>
oh (evSt 1 v99 v98 h8) fun _ h9 =>
(ylo v1 v2 v3 v6 v9 v73 v74 v75 h9)
def y20s (s : St) : OX := ymt (s 1) (s 2) (s 3) (s 6) (s 9) (s 11) (s 73) (s 74) (s 75) s.h
theorem y1ac : T1 yvy y5i (y4 5 y5i (y4 4 y42 xN)) [.cell 2 true 5] y20s := fun _ => by kernel_rfl
def yie (v1 v2 v3 v6 v9 v11 v73 v74 v75 : AV) (h : Heap) : OX :=
ob (evLd true 9 v11 h) fun v85 =>
oh (y6 E (y8 E) 0 none true 22 [v85] h) fun v86 h10 =>
cnd v86
 (ob (evFa 6 v11) fun v88 =>
ob (evLd false 1 v88 h10) fun v89 =>
ob (yv 1 v6 v89) fun v90 =>
ob (evLd false 1 v90 h10) fun v91 =>
ob (evFa 6 v11) fun v92 =>
oh (evSt 1 v92 v91 h10) fun _ h11 =>
(ymt v1 v2 v3 v6 v9 v11 v73 v74 v75 h11))
 (ob (evFa 6 v11) fun v93 =>
oh (evSt 1 v93 (AV.int .i64 0) h10) fun _ h12 =>
(ymt v1 v2 v3 v6 v9 v11 v73 v74 v75 h12))
def y215 (s : St) : OX := yie (s 1) (s 2) (s 3) (s 6) (s 9) (s 11) (s 73) (s 74) (s 75) s.h
theorem y1j7 : T1 yrp y5i (y4 5 y5i (y4 4 y42 xN)) [.cell 2 true 5] y215 := sq y1ac fun _ => by kernel_rfl
def ygu (v1 v2 v3 v6 v9 v10 v11 v73 v74 v75 : AV) (h : Heap) : OX :=
ob (yv 1 v3 v10) fun v82 =>
ob (evLd false 1 v82 h) fun v83 =>
ob (evUn .not v83) fun v84 =>
cnd v84
 ((ylo v1 v2 v3 v6 v9 v73 v74 v75 h))
 ((yie v1 v2 v3 v6 v9 v11 v73 v74 v75 h))
def y22q (s : St) : OX := ygu (s 1) (s 2) (s 3) (s 6) (s 9) (s 10) (s 11) (s 73) (s 74) (s 75) s.h
theorem y17n : T1 ytz y5i (y4 5 y5i (y4 4 y42 xN)) [.cell 2 true 5] y22q := sq y1j7 fun _ => by kernel_rfl
def y1ks (v1 v2 v3 v6 v9 v73 v74 v75 : AV) (h : Heap) : OX :=
ob (yv 9 v73 v75) fun v78 =>
ob (evLd true 9 v78 h) fun v79 =>
oh (newC 0 (some 6) [(.int .i64 0), (.int .i64 0), (.int .i64 0), (.int .i64 0), (.int .i64 0), (.int .i64 0), (.int .i64 0), (.str []), .nils] h) fun v11 h13 =>
oh (evSt 9 v11 v79 h13) fun _ h14 =>
(ygu v1 v2 v3 v6 v9 v75 v11 v73 v74 v75 h14)
def yoa (s : St) : OX := y1ks (s 1) (s 2) (s 3) (s 6) (s 9) (s 73) (s 74) (s 75) s.h
theorem y1lp : T1 yyw y5i (y4 5 y5i (y4 4 y42 xN)) [.cell 2 true 5] yoa := sq y17n fun _ => by kernel_rfl
theorem y1i4 : T1 yw3 y5i (y4 4 y42 xN) [.cell 2 true 5] yoa := fun s => yw.trans (y1lp s)
theorem y1fm : T1 yq4 y6m (y4 4 y42 xN) [.cell 2 true 5] yoa := sq y197 y1i4
def yy4 (v1 v2 v3 v6 v9 v73 v74 v75 v76 : AV) (h : Heap) : OX :=
cnd v76
 ((y1ks v1 v2 v3 v6 v9 v73 v74 v75 h))
 ((y11n v1 v2 v3 v6 v9 h))
def y1w9 (s : St) : OX := yy4 (s 1) (s 2) (s 3) (s 6) (s 9) (s 73) (s 74) (s 75) (s 76) s.h
theorem y1gl : T1 ys8 y6m (y4 4 y42 xN) [.cell 2 true 5] y1w9 := sq y1fm fun _ => by kernel_rfl
def ynj (v1 v2 v3 v6 v9 v73 v74 v75 : AV) (h : Heap) : OX :=
ob (y5 .lss v75 v74) fun v76 =>
(yy4 v1 v2 v3 v6 v9 v73 v74 v75 v76 h)
def y217 (s : St) : OX := ynj (s 1) (s 2) (s 3) (s 6) (s 9) (s 73) (s 74) (s 75) s.h
theorem y1b2 : T1 ywd y6m (y4 4 y42 xN) [.cell 2 true 5] y217 := sq y1gl fun _ => by kernel_rfl
theorem yin (v1 v2 v3 v6 v9 v73 v74 v75 : AV) (h : Heap) : ye1 v1 v2 v3 v6 v9 v73 v74 v75 h = (ynj v1 v2 v3 v6 v9 v73 v74 v75 h) :=
  y1w.trans ((y1b _ _ _ (n' := y6m) (fun s => yhe s)).trans ((y1b2 _).trans (by kernel_rfl)))
theorem y1bq : T1 yxx y42 xN [.cell 2 true 5] y6m := fun s => yw.trans (yhe s)
def y148 (v1 v2 v3 v6 v9 : AV) (h : Heap) : OX :=
ob (evFa 3 v1) fun v72 =>
ob (evLd false 1 v72 h) fun v73 =>
ob (y14 1 v73 h) fun v74 =>
(ye1 v1 v2 v3 v6 v9 v73 v74 (AV.int .i64 0) h)
def y1gt (s : St) : OX := y148 (s 1) (s 2) (s 3) (s 6) (s 9) s.h
theorem y1ff : T1 yxp y42 xN [.cell 2 true 5] y1gt := sq y1bq fun _ => by kernel_rfl
theorem y1jh : T0 ywb [.cell 2 true 5] y1gt := sq y1re y1ff
def yip (v1 v2 v3 v6 : AV) (h : Heap) : OX :=
ob (evFa 0 v1) fun v65 =>
ob (evLd false 1 v65 h) fun v66 =>
ob (evFa 1 v1) fun v67 =>
ob (evLd false 1 v67 h) fun v68 =>
ob (evFa 2 v1) fun v69 =>
ob (evLd false 1 v69 h) fun v70 =>
ob (yu [.nils, .nils, (.int .i64 0), .nils, .nils] [(0, 1, v66), (1, 1, v68), (2, 1, v70)]) fun v71 =>
oh (newC 0 (some 5) [.nils, .nils, (.int .i64 0), .nils, .nils] h) fun v9 h15 =>
oh (evSt 5 v9 v71 h15) fun _ h16 =>
(y148 v1 v2 v3 v6 v9 h16)
def y20f (s : St) : OX := yip (s 1) (s 2) (s 3) (s 6) s.h
theorem y1bj : T0 ys3 [.cell 2 true 5] y20f := sq y1jh fun _ => by kernel_rfl
def y1h2 (v1 v2 v3 v6 v7 : AV) (h : Heap) : OX :=
ob (evFa 3 v1) fun v60 =>
ob (evLd false 1 v60 h) fun v61 =>
ob (y14 1 v61 h) fun v62 =>
ob (yv 1 v6 v62) fun v64 =>
oh (evSt 1 v64 v7 h) fun _ h17 =>
(yip v1 v2 v3 v6 h17)
def y4r (s : St) : OX := y1h2 (s 1) (s 2) (s 3) (s 6) (s 7) s.h
theorem y15p : T0 yv7 [.cell 2 true 5] y4r := sq y1bj fun _ => by kernel_rfl
def yfh (v1 v2 v3 v6 v7 v44 v45 : AV) (h : Heap) : OX :=
  W E 0 yf6 ⟨[(1, v1), (2, v2), (3, v3), (6, v6), (7, v7), (44, v44), (45, v45)], h⟩ y4r (y4 2 y4r xN) (finP [.cell 2 true 5])
def y6f (s : St) : OX := yfh (s 1) (s 2) (s 3) (s 6) (s 7) (s 44) (s 45) s.h
theorem yj6 : T1 yf6 y4r (y4 2 y4r xN) [.cell 2 true 5] y6f := fun s => yk.trans (by kernel_rfl)
def yfi (v1 v2 v3 v6 v7 v44 v45 : AV) (h : Heap) : OX :=
ob (y5 .add v45 (AV.int .i64 1)) fun v58 =>
(yfh v1 v2 v3 v6 v7 v44 v58 h)
def y22t (s : St) : OX := yfi (s 1) (s 2) (s 3) (s 6) (s 7) (s 44) (s 45) s.h
theorem y1dc : T1 yyt y6f (y4 2 y4r xN) [.cell 2 true 5] y22t := fun _ => by kernel_rfl
def y1cp (v1 v2 v3 v6 v7 v44 v45 : AV) (h : Heap) : OX :=
ob (yv 1 v6 v45) fun v51 =>
oh (evSt 1 v51 v7 h) fun _ h18 =>
ob (yv 1 v3 v45) fun v54 =>
ob (evLd false 1 v54 h18) fun v55 =>
cnd v55
 (ob (y5 .add v7 (AV.int .i64 1)) fun v57 =>
(yfi v1 v2 v3 v6 v57 v44 v45 h18))
 ((yfi v1 v2 v3 v6 v7 v44 v45 h18))
def y21h (s : St) : OX := y1cp (s 1) (s 2) (s 3) (s 6) (s 7) (s 44) (s 45) s.h
theorem y15j : T1 yyn y6f (y4 2 y4r xN) [.cell 2 true 5] y21h := sq y1dc fun _ => by kernel_rfl
def yyr (v1 v2 v3 v6 v7 v44 v45 v46 : AV) (h : Heap) : OX :=
cnd v46
 ((y1cp v1 v2 v3 v6 v7 v44 v45 h))
 ((y1h2 v1 v2 v3 v6 v7 h))
def y1xy (s : St) : OX := yyr (s 1) (s 2) (s 3) (s 6) (s 7) (s 44) (s 45) (s 46) s.h
theorem y1jf : T1 yrr y6f (y4 2 y4r xN) [.cell 2 true 5] y1xy := sq y15j fun _ => by kernel_rfl
def ylw (v1 v2 v3 v6 v7 v44 v45 : AV) (h : Heap) : OX :=
ob (y5 .lss v45 v44) fun v46 =>
(yyr v1 v2 v3 v6 v7 v44 v45 v46 h)
def y21g (s : St) : OX := ylw (s 1) (s 2) (s 3) (s 6) (s 7) (s 44) (s 45) s.h
theorem y1fg : T1 yyu y6f (y4 2 y4r xN) [.cell 2 true 5] y21g := sq y1jf fun _ => by kernel_rfl
theorem yj9 (v1 v2 v3 v6 v7 v44 v45 : AV) (h : Heap) : yfh v1 v2 v3 v6 v7 v44 v45 h = (ylw v1 v2 v3 v6 v7 v44 v45 h) :=
  y1w.trans ((y1b _ _ _ (n' := y6f) (fun s => yj6 s)).trans ((y1fg _).trans (by kernel_rfl)))
theorem y13l : T1 yyk y4r xN [.cell 2 true 5] y6f := fun s => yw.trans (yj6 s)
def y15s (v1 v2 v3 v6 v7 : AV) (h : Heap) : OX :=
ob (evFa 3 v1) fun v42 =>
ob (evLd false 1 v42 h) fun v43 =>
ob (y14 1 v43 h) fun v44 =>
(yfh v1 v2 v3 v6 v7 v44 (AV.int .i64 0) h)
def y1c5 (s : St) : OX := y15s (s 1) (s 2) (s 3) (s 6) (s 7) s.h
theorem y1ar : T1 ysj y4r xN [.cell 2 true 5] y1c5 := sq y13l fun _ => by kernel_rfl
theorem y1ew : T0 yrk [.cell 2 true 5] y1c5 := sq y15p y1ar
def y194 (v1 v2 v3 v6 : AV) (h : Heap) : OX :=
(y15s v1 v2 v3 v6 (AV.int .i64 0) h)
def y20l (s : St) : OX := y194 (s 1) (s 2) (s 3) (s 6) s.h
theorem y166 : T0 yvl [.cell 2 true 5] y20l := sq y1ew fun _ => by kernel_rfl
def yha (v1 v2 v3 : AV) (h : Heap) : OX :=
ob (evFa 3 v1) fun v37 =>
ob (evLd false 1 v37 h) fun v38 =>
ob (y14 1 v38 h) fun v39 =>
ob (y5 .add v39 (AV.int .i64 1)) fun v40 =>
oh (mkSC 0 (some 4) 1 8 [(.int .i64 0)] v40 v40 h) fun v41 h19 =>
(y194 v1 v2 v3 v41 h19)
def y4x (s : St) : OX := yha (s 1) (s 2) (s 3) s.h
theorem y14y : T0 yyj [.cell 2 true 5] y4x := sq y166 fun _ => by kernel_rfl
def yei (v1 v2 v3 v23 v24 v25 : AV) (h : Heap) : OX :=
  W E 0 yf1 ⟨[(1, v1), (2, v2), (3, v3), (23, v23), (24, v24), (25, v25)], h⟩ y4x (y4 0 y4x xN) (finP [.cell 2 true 5])
def y6h (s : St) : OX := yei (s 1) (s 2) (s 3) (s 23) (s 24) (s 25) s.h
theorem yj3 : T1 yf1 y4x (y4 0 y4x xN) [.cell 2 true 5] y6h := fun s => yk.trans (by kernel_rfl)
def yhu (v1 v2 v3 v23 v24 v25 : AV) (h : Heap) : OX :=
ob (y5 .add v25 (AV.int .i64 1)) fun v36 =>
(yei v1 v2 v3 v23 v24 v36 h)
def y21m (s : St) : OX := yhu (s 1) (s 2) (s 3) (s 23) (s 24) (s 25) s.h
theorem y18w : T1 yvr y6h (y4 0 y4x xN) [.cell 2 true 5] y21m := fun _ => by kernel_rfl
def yxl (v1 v2 v3 v23 v24 v25 : AV) (h : Heap) : OX :=
ob (yv 9 v23 v25) fun v28 =>
ob (evLd true 9 v28 h) fun v29 =>
oh (newC 0 (some 3) [(.int .i64 0), (.int .i64 0), (.int .i64 0), (.int .i64 0), (.int .i64 0), (.int .i64 0), (.int .i64 0), (.str []), .nils] h) fun v5 h20 =>
oh (evSt 9 v5 v29 h20) fun _ h21 =>
ob (evFa 0 v5) fun v30 =>
ob (evLd false 1 v30 h21) fun v31 =>
ob (y5 .eql v31 (AV.int .i64 33)) fun v32 =>
cnd v32
 (ob (yv 1 v3 v25) fun v35 =>
oh (evSt 1 v35 (AV.bool false) h21) fun _ h22 =>
(yhu v1 v2 v3 v23 v24 v25 h22))
 ((yhu v1 v2 v3 v23 v24 v25 h21))
def y1zk (s : St) : OX := yxl (s 1) (s 2) (s 3) (s 23) (s 24) (s 25) s.h
theorem y12e : T1 yt3 y6h (y4 0 y4x xN) [.cell 2 true 5] y1zk := sq y18w fun _ => by kernel_rfl
def ynp (v1 v2 v3 v23 v24 v25 v26 : AV) (h : Heap) : OX :=
cnd v26
 ((yxl v1 v2 v3 v23 v24 v25 h))
 ((yha v1 v2 v3 h))
def y229 (s : St) : OX := ynp (s 1) (s 2) (s 3) (s 23) (s 24) (s 25) (s 26) s.h
theorem y1kd : T1 yzl y6h (y4 0 y4x xN) [.cell 2 true 5] y229 := sq y12e fun _ => by kernel_rfl
def yh3 (v1 v2 v3 v23 v24 v25 : AV) (h : Heap) : OX :=
ob (y5 .lss v25 v24) fun v26 =>
(ynp v1 v2 v3 v23 v24 v25 v26 h)
def y1zb (s : St) : OX := yh3 (s 1) (s 2) (s 3) (s 23) (s 24) (s 25) s.h
theorem y1ib : T1 yx3 y6h (y4 0 y4x xN) [.cell 2 true 5] y1zb := sq y1kd fun _ => by kernel_rfl
theorem yje (v1 v2 v3 v23 v24 v25 : AV) (h : Heap) : yei v1 v2 v3 v23 v24 v25 h = (yh3 v1 v2 v3 v23 v24 v25 h) :=
  y1w.trans ((y1b _ _ _ (n' := y6h) (fun s => yj3 s)).trans ((y1ib _).trans (by kernel_rfl)))
theorem y1kk : T1 yw7 y4x xN [.cell 2 true 5] y6h := fun s => yw.trans (yj3 s)
def y18z (v1 v2 v3 : AV) (h : Heap) : OX :=
ob (evFa 3 v1) fun v22 =>
ob (evLd false 1 v22 h) fun v23 =>
ob (y14 1 v23 h) fun v24 =>
(yei v1 v2 v3 v23 v24 (AV.int .i64 0) h)
def y1kn (s : St) : OX := y18z (s 1) (s 2) (s 3) s.h
theorem y16m : T1 yu6 y4x xN [.cell 2 true 5] y1kn := sq y1kk fun _ => by kernel_rfl
theorem y17m : T0 yup [.cell 2 true 5] y1kn := sq y14y y16m
def y1lg (v1 v2 : AV) (h : Heap) : OX :=
ob (evLd true 5 v1 h) fun v20 =>
oh (y6 E (y8 E) 0 (some 2) false 101 [v20] h) fun v21 h23 =>
(y18z v1 v2 v21 h23)
def y1wv (s : St) : OX := y1lg (s 1) (s 2) s.h
theorem y1fj : T0 yqu [.cell 2 true 5] y1wv := sq y17m fun _ => by kernel_rfl
def yhc (v1 v2 : AV) (h : Heap) : OX :=
ob (evLd true 5 v1 h) fun v16 =>
oh (y6 E (y8 E) 0 none true 8 [v16] h) fun v17 h24 =>
ob (y5 .neq v17 (AV.int .i64 0)) fun v18 =>
cnd v18
 (ob (evLd true 5 v1 h24) fun v19 =>
oh (evSt 5 v2 v19 h24) fun _ h25 =>
(ob (evLd true 5 v2 h25) fun r0 =>
  yf h25 r0))
 ((y1lg v1 v2 h24))
def y1ww (s : St) : OX := yhc (s 1) (s 2) s.h
theorem y122 : T0 yuz [.cell 2 true 5] y1ww := sq y1fj fun _ => by kernel_rfl
def y1i0 (v1 v2 : AV) (h : Heap) : OX :=
ob (evLd true 5 v1 h) fun v14 =>
oh (y6 E (y8 E) 0 none true 13 [v14] h) fun v15 h26 =>
oh (evSt 5 v1 v15 h26) fun _ h27 =>
(yhc v1 v2 h27)
def y22r (s : St) : OX := y1i0 (s 1) (s 2) s.h
theorem y18i : T0 yrw [.cell 2 true 5] y22r := sq y122 fun _ => by kernel_rfl
def yrd (v0 : AV) (h : Heap) : OX :=
oh (newC 0 (some 0) (cellsOf v0) h) fun v1 h28 =>
oh (newC 0 (some 1) [.nils, .nils, (.int .i64 0), .nils, .nils] h28) fun v2 h29 =>
(y1i0 v1 v2 h29)
def y22m (s : St) : OX := yrd (s 0) s.h
theorem y1ce : T0 yuy [.cell 2 true 5] y22m := sq y18i fun _ => by kernel_rfl
@[simp] theorem y29q : E.pure 100 = true := rfl
theorem y2d4 (v0 : AV) : (y8 E).p 100 [v0] = yrd v0 [⟨0, .dead⟩, ⟨0, .dead⟩, ⟨0, .dead⟩, ⟨0, .dead⟩, ⟨0, .dead⟩, ⟨0, .dead⟩, ⟨0, .dead⟩, ⟨0, .dead⟩, ⟨0, .dead⟩, ⟨0, .dead⟩, ⟨0, .dead⟩, ⟨0, .dead⟩] :=
  (y10 (cf := y26i) (by kernel_rfl) rfl).trans ((y1ce _).trans (by kernel_rfl))
def q6_1 (v1 v2 : AV) (h : Heap) : OX :=
ob (evLd true 5 v1 h) fun v40 =>
oh (evSt 5 v2 v40 h) fun _ h1 =>
(ob (evLd true 5 v2 h1) fun r0 =>
  yf h1 r0)
def y6n (s : St) : OX := q6_1 (s 1) (s 2) s.h
theorem y231 : T0 y1up [.cell 2 true 5] y6n := fun _ => by kernel_rfl
def yks (v1 v2 v3 : AV) (h : Heap) : OX :=
  W E 0 ypx ⟨[(1, v1), (2, v2), (3, v3)], h⟩ y6n (y4 0 y6n xN) (finP [.cell 2 true 5])
def y2c (s : St) : OX := yks (s 1) (s 2) (s 3) s.h
theorem yu3 : T1 ypx y6n (y4 0 y6n xN) [.cell 2 true 5] y2c := fun s => yk.trans (by kernel_rfl)
def y0v (v1 v2 v3 v4 v17 v18 v19 : AV) (h : Heap) : OX :=
  W E 0 yp0 ⟨[(1, v1), (2, v2), (3, v3), (4, v4), (17, v17), (18, v18), (19, v19)], h⟩ y2c (y4 2 y2c (y4 1 y2c (y4 0 y6n xN))) (finP [.cell 2 true 5])
def ydv (s : St) : OX := y0v (s 1) (s 2) (s 3) (s 4) (s 17) (s 18) (s 19) s.h
theorem yvn : T1 yp0 y2c (y4 2 y2c (y4 1 y2c (y4 0 y6n xN))) [.cell 2 true 5] ydv := fun s => yk.trans (by kernel_rfl)
def q6_4 (v1 v2 v3 v4 v17 v18 v19 : AV) (h : Heap) : OX :=
ob (y5 .add v19 (AV.int .i64 1)) fun v39 =>
(y0v v1 v2 v3 v4 v17 v18 v39 h)
def y2d7 (s : St) : OX := q6_4 (s 1) (s 2) (s 3) (s 4) (s 17) (s 18) (s 19) s.h
theorem y1x4 : T1 y1u4 ydv (y4 2 y2c (y4 1 y2c (y4 0 y6n xN))) [.cell 2 true 5] y2d7 := fun _ => by kernel_rfl
def q6_5 (v1 v2 v3 v4 v17 v18 v19 : AV) (h : Heap) : OX :=
ob (yv 9 v17 v19) fun v22 =>
ob (evLd true 9 v22 h) fun v23 =>
oh (newC 0 (some 10) [(.int .i64 0), (.int .i64 0), (.int .i64 0), (.int .i64 0), (.int .i64 0), (.int .i64 0), (.int .i64 0), (.str []), .nils] h) fun v6 h2 =>
oh (evSt 9 v6 v23 h2) fun _ h3 =>
ob (evLd true 9 v6 h3) fun v24 =>
oh (y6 E (y8 E) 0 none true 20 [v24] h3) fun v25 h4 =>
gb v25 true (some v4) fun v27 =>
gb v25 true (some v19) fun v28 =>
gb v25 true (evFa 1 v6) fun v29 =>
gb v25 true (evLd false 1 v29 h4) fun v30 =>
gh v25 true (y6 E (y8 E) 0 none true 87 [v27, v28, v30] h4) h4 fun v31 h5 =>
gb v25 true (evUn .not v31) fun v32 =>
ob (ye v25 v32 (AV.bool false)) fun v33 =>
cnd v33
 (ob (evFa 3 v1) fun v34 =>
ob (evLd false 1 v34 h5) fun v35 =>
ob (yu [(.int .i64 0), (.int .i64 0), (.int .i64 0), (.int .i64 0), (.int .i64 0), (.int .i64 0), (.int .i64 0), (.str []), .nils] [(0, 1, (AV.int .i64 33))]) fun v37 =>
ob (yv 9 v35 v19) fun v38 =>
oh (evSt 9 v38 v37 h5) fun _ h6 =>
(q6_4 v1 v2 (AV.bool true) v4 v17 v18 v19 h6))
 ((q6_4 v1 v2 v3 v4 v17 v18 v19 h5))
def y2ax (s : St) : OX := q6_5 (s 1) (s 2) (s 3) (s 4) (s 17) (s 18) (s 19) s.h
theorem y1vn : T1 y1ud ydv (y4 2 y2c (y4 1 y2c (y4 0 y6n xN))) [.cell 2 true 5] y2ax := sq y1x4 fun _ => by kernel_rfl
def q6_6 (v1 v2 v3 v4 v17 v18 v19 v20 : AV) (h : Heap) : OX :=
cnd v20
 ((q6_5 v1 v2 v3 v4 v17 v18 v19 h))
 ((yks v1 v2 v3 h))
def y2ah (s : St) : OX := q6_6 (s 1) (s 2) (s 3) (s 4) (s 17) (s 18) (s 19) (s 20) s.h
theorem y1zv : T1 y1uy ydv (y4 2 y2c (y4 1 y2c (y4 0 y6n xN))) [.cell 2 true 5] y2ah := sq y1vn fun _ => by kernel_rfl
def q6_7 (v1 v2 v3 v4 v17 v18 v19 : AV) (h : Heap) : OX :=
ob (y5 .lss v19 v18) fun v20 =>
(q6_6 v1 v2 v3 v4 v17 v18 v19 v20 h)
def y2d5 (s : St) : OX := q6_7 (s 1) (s 2) (s 3) (s 4) (s 17) (s 18) (s 19) s.h
theorem y20o : T1 y1v0 ydv (y4 2 y2c (y4 1 y2c (y4 0 y6n xN))) [.cell 2 true 5] y2d5 := sq y1zv fun _ => by kernel_rfl
theorem ywj (v1 v2 v3 v4 v17 v18 v19 : AV) (h : Heap) : y0v v1 v2 v3 v4 v17 v18 v19 h = (q6_7 v1 v2 v3 v4 v17 v18 v19 h) :=
  y1w.trans ((y1b _ _ _ (n' := ydv) (fun s => yvn s)).trans ((y20o _).trans (by kernel_rfl)))
theorem y1vp : T1 y1v4 y2c (y4 1 y2c (y4 0 y6n xN)) [.cell 2 true 5] ydv := fun s => yw.trans (yvn s)
def q6_9 (v1 v2 v3 v4 : AV) (h : Heap) : OX :=
ob (evFa 3 v1) fun v16 =>
ob (evLd false 1 v16 h) fun v17 =>
ob (y14 1 v17 h) fun v18 =>
(y0v v1 v2 v3 v4 v17 v18 (AV.int .i64 0) h)
def y2bk (s : St) : OX := q6_9 (s 1) (s 2) (s 3) (s 4) s.h
theorem y216 : T1 y1ux y2c (y4 1 y2c (y4 0 y6n xN)) [.cell 2 true 5] y2bk := sq y1vp fun _ => by kernel_rfl
def y206 (v1 v2 v3 : AV) (h : Heap) : OX :=
ob (evLd true 5 v1 h) fun v14 =>
oh (y6 E (y8 E) 0 none true 75 [v14] h) fun v15 h7 =>
(q6_9 v1 v2 v3 v15 h7)
def y26u (s : St) : OX := y206 (s 1) (s 2) (s 3) s.h
theorem y1pd : T1 y13i y2c (y4 1 y2c (y4 0 y6n xN)) [.cell 2 true 5] y26u := sq y216 fun _ => by kernel_rfl
def y1wc (v1 v2 : AV) (h : Heap) : OX :=
(y206 v1 v2 (AV.bool false) h)
def y1ue (s : St) : OX := y1wc (s 1) (s 2) s.h
theorem y1tc : T1 y1bu y2c (y4 1 y2c (y4 0 y6n xN)) [.cell 2 true 5] y1ue := sq y1pd fun _ => by kernel_rfl
theorem y1mh : T1 y14k y2c (y4 0 y6n xN) [.cell 2 true 5] y1ue := fun s => yw.trans (y1tc s)
def y1nk (v1 v2 v3 : AV) (h : Heap) : OX :=
cnd v3
 ((y1wc v1 v2 h))
 ((q6_1 v1 v2 h))
def y274 (s : St) : OX := y1nk (s 1) (s 2) (s 3) s.h
theorem y1s3 : T1 y11y y2c (y4 0 y6n xN) [.cell 2 true 5] y274 := sq y1mh fun _ => by kernel_rfl
theorem yx2 (v1 v2 v3 : AV) (h : Heap) : yks v1 v2 v3 h = (y1nk v1 v2 v3 h) :=
  y1w.trans ((y1b _ _ _ (n' := y2c) (fun s => yu3 s)).trans ((y1s3 _).trans (by kernel_rfl)))
theorem y1n9 : T1 y17s y6n xN [.cell 2 true 5] y2c := fun s => yw.trans (yu3 s)
def y20x (v1 v2 : AV) (h : Heap) : OX :=
(yks v1 v2 (AV.bool true) h)
def y1u9 (s : St) : OX := y20x (s 1) (s 2) s.h
theorem y1pg : T1 y13n y6n xN [.cell 2 true 5] y1u9 := sq y1n9 fun _ => by kernel_rfl
theorem y1t4 : T0 y14b [.cell 2 true 5] y1u9 := sq y231 y1pg
def y153 (v1 v2 : AV) (h : Heap) : OX :=
ob (evLd true 5 v1 h) fun v9 =>
oh (y6 E (y8 E) 0 none true 8 [v9] h) fun v10 h8 =>
ob (y5 .neq v10 (AV.int .i64 0)) fun v11 =>
cnd v11
 (ob (evLd true 5 v1 h8) fun v12 =>
oh (evSt 5 v2 v12 h8) fun _ h9 =>
(ob (evLd true 5 v2 h9) fun r0 =>
  yf h9 r0))
 ((y20x v1 v2 h8))
def y29c (s : St) : OX := y153 (s 1) (s 2) s.h
theorem y1tb : T0 y1gc [.cell 2 true 5] y29c := sq y1t4 fun _ => by kernel_rfl
def y1vf (v1 v2 : AV) (h : Heap) : OX :=
ob (evLd true 5 v1 h) fun v7 =>
oh (y6 E (y8 E) 0 (some 2) false 13 [v7] h) fun v8 h10 =>
oh (evSt 5 v1 v8 h10) fun _ h11 =>
(y153 v1 v2 h11)
def y24j (s : St) : OX := y1vf (s 1) (s 2) s.h
theorem y1q9 : T0 y18l [.cell 2 true 5] y24j := sq y1tb fun _ => by kernel_rfl
def y1z3 (v0 : AV) (h : Heap) : OX :=
oh (newC 0 (some 0) (cellsOf v0) h) fun v1 h12 =>
oh (newC 0 (some 1) [.nils, .nils, (.int .i64 0), .nils, .nils] h12) fun v2 h13 =>
(y1vf v1 v2 h13)
def y251 (s : St) : OX := y1z3 (s 0) s.h
theorem y1mo : T0 y1l5 [.cell 2 true 5] y251 := sq y1q9 fun _ => by kernel_rfl
@[simp] theorem y2a3 : E.pure 118 = true := rfl
theorem x_q6 (v0 : AV) : (y8 E).p 118 [v0] = y1z3 v0 [⟨0, .dead⟩, ⟨0, .dead⟩, ⟨0, .dead⟩, ⟨0, .dead⟩, ⟨0, .dead⟩, ⟨0, .dead⟩, ⟨0, .dead⟩, ⟨0, .dead⟩, ⟨0, .dead⟩, ⟨0, .dead⟩, ⟨0, .dead⟩] :=
  (y10 (cf := c_q6) (by kernel_rfl) rfl).trans ((y1mo _).trans (by kernel_rfl))
@[simp] theorem y2ap : E.pure 29 = true := rfl
def ya3 (h : Heap) : OX :=
(yf h AV.nils)
def y2b (s : St) : OX := ya3 s.h
theorem y1lw : T0 y1hw [.t 2] y2b := fun _ => by kernel_rfl
def yb1 (v1 : AV) (h : Heap) : OX :=
ob (evFa 2 v1) fun v58 =>
ob (evLd false 1 v58 h) fun v59 =>
ob (evFa 3 v1) fun v60 =>
ob (evLd false 1 v60 h) fun v61 =>
oh (yp 0 (some 6) 1 2 [(.int .i64 0)] [(0, v59), (1, v61)] h) fun v62 h1 =>
(yf h1 v62)
def y28z (s : St) : OX := yb1 (s 1) s.h
theorem y1mw : T1 y1b1 y2b (y4 0 y2b xN) [.t 2] y28z := fun _ => by kernel_rfl
def yb6 (v1 : AV) (h : Heap) : OX :=
ob (evFa 3 v1) fun v52 =>
ob (evLd false 1 v52 h) fun v53 =>
ob (y5 .lss v53 (AV.int .i64 0)) fun v54 =>
cnd v54
 (ob (evFa 2 v1) fun v55 =>
ob (evLd false 1 v55 h) fun v56 =>
oh (yp 0 (some 5) 1 1 [(.int .i64 0)] [(0, v56)] h) fun v57 h2 =>
(yf h2 v57))
 ((yb1 v1 h))
def y23v (s : St) : OX := yb6 (s 1) s.h
theorem y1qp : T1 y1d7 y2b (y4 0 y2b xN) [.t 2] y23v := sq y1mw fun _ => by kernel_rfl
def yam (v1 v4 v50 : AV) (h : Heap) : OX :=
cnd v50
 ((yb6 v1 h))
 (ob (y5 .eql v4 (AV.int .i64 30)) fun v64 =>
cnd v64
 (ob (evFa 2 v1) fun v65 =>
ob (evLd false 1 v65 h) fun v66 =>
ob (y5 .geq v66 (AV.int .i64 0)) fun v67 =>
cnd v67
 (ob (evFa 2 v1) fun v68 =>
ob (evLd false 1 v68 h) fun v69 =>
oh (yp 0 (some 7) 1 1 [(.int .i64 0)] [(0, v69)] h) fun v70 h3 =>
(yf h3 v70))
 ((ya3 h)))
 ((ya3 h)))
def y24a (s : St) : OX := yam (s 1) (s 4) (s 50) s.h
theorem y1ph : T1 y1ca y2b (y4 0 y2b xN) [.t 2] y24a := fun s => (y1k (y1qp s) rfl).trans (by kernel_rfl)
def yal (v1 v4 : AV) (h : Heap) : OX :=
ob (y5 .eql v4 (AV.int .i64 29)) fun v51 =>
(yam v1 v4 v51 h)
def y28y (s : St) : OX := yal (s 1) (s 4) s.h
theorem y1o4 : T1 y1hs y2b (y4 0 y2b xN) [.t 2] y28y := sq y1ph fun _ => by kernel_rfl
def y8o (v1 v4 v42 : AV) (h : Heap) : OX :=
cnd v42
 (ob (evFa 8 v1) fun v47 =>
ob (evLd false 1 v47 h) fun v48 =>
oh (y6 E (y8 E) 0 (some 4) false 39 [v48] h) fun v49 h4 =>
(yf h4 v49))
 ((yal v1 v4 h))
def y292 (s : St) : OX := y8o (s 1) (s 4) (s 42) s.h
theorem y1nz : T1 y13w y2b (y4 0 y2b xN) [.t 2] y292 := fun s => (y1k rfl (y1o4 s)).trans (by kernel_rfl)
def ybs (v1 v4 : AV) (h : Heap) : OX :=
ob (y5 .eql v4 (AV.int .i64 23)) fun v43 =>
cnd v43
 ((y8o v1 v4 v43 h))
 (ob (y5 .eql v4 (AV.int .i64 24)) fun v44 =>
cnd v44
 ((y8o v1 v4 v44 h))
 (ob (y5 .eql v4 (AV.int .i64 25)) fun v45 =>
cnd v45
 ((y8o v1 v4 v45 h))
 (ob (y5 .eql v4 (AV.int .i64 26)) fun v46 =>
(y8o v1 v4 v46 h))))
def y25d (s : St) : OX := ybs (s 1) (s 4) s.h
theorem y1te : T1 y18j y2b (y4 0 y2b xN) [.t 2] y25d := sq y1nz fun _ => by kernel_rfl
def yax (v1 v4 v33 : AV) (h : Heap) : OX :=
cnd v33
 (ob (evFa 2 v1) fun v35 =>
ob (evLd false 1 v35 h) fun v36 =>
ob (evFa 3 v1) fun v37 =>
ob (evLd false 1 v37 h) fun v38 =>
ob (evFa 4 v1) fun v39 =>
ob (evLd false 1 v39 h) fun v40 =>
oh (yp 0 (some 3) 1 3 [(.int .i64 0)] [(0, v36), (1, v38), (2, v40)] h) fun v41 h5 =>
(yf h5 v41))
 ((ybs v1 v4 h))
def y266 (s : St) : OX := yax (s 1) (s 4) (s 33) s.h
theorem y1rx : T1 y1f4 y2b (y4 0 y2b xN) [.t 2] y266 := fun s => (y1k rfl (y1te s)).trans (by kernel_rfl)
def ybe (v1 v4 : AV) (h : Heap) : OX :=
ob (y5 .eql v4 (AV.int .i64 14)) fun v34 =>
(yax v1 v4 v34 h)
def y247 (s : St) : OX := ybe (s 1) (s 4) s.h
theorem y1m4 : T1 y1bc y2b (y4 0 y2b xN) [.t 2] y247 := sq y1rx fun _ => by kernel_rfl
def y3p (v1 v4 v21 : AV) (h : Heap) : OX :=
cnd v21
 (ob (evFa 2 v1) fun v28 =>
ob (evLd false 1 v28 h) fun v29 =>
ob (evFa 3 v1) fun v30 =>
ob (evLd false 1 v30 h) fun v31 =>
oh (yp 0 (some 2) 1 2 [(.int .i64 0)] [(0, v29), (1, v31)] h) fun v32 h6 =>
(yf h6 v32))
 ((ybe v1 v4 h))
def y1xp (s : St) : OX := y3p (s 1) (s 4) (s 21) s.h
theorem y1ea : T1 ytm y2b (y4 0 y2b xN) [.t 2] y1xp := fun s => (y1k rfl (y1m4 s)).trans (by kernel_rfl)
def y5g (v1 v4 : AV) (h : Heap) : OX :=
ob (y5 .eql v4 (AV.int .i64 5)) fun v22 =>
cnd v22
 ((y3p v1 v4 v22 h))
 (ob (y5 .eql v4 (AV.int .i64 9)) fun v23 =>
cnd v23
 ((y3p v1 v4 v23 h))
 (ob (y5 .eql v4 (AV.int .i64 11)) fun v24 =>
cnd v24
 ((y3p v1 v4 v24 h))
 (ob (y5 .eql v4 (AV.int .i64 13)) fun v25 =>
cnd v25
 ((y3p v1 v4 v25 h))
 (ob (y5 .eql v4 (AV.int .i64 17)) fun v26 =>
cnd v26
 ((y3p v1 v4 v26 h))
 (ob (y5 .eql v4 (AV.int .i64 28)) fun v27 =>
(y3p v1 v4 v27 h))))))
def y20h (s : St) : OX := y5g (s 1) (s 4) s.h
theorem y1jb : T1 yq5 y2b (y4 0 y2b xN) [.t 2] y20h := sq y1ea fun _ => by kernel_rfl
def y2j (v1 v4 v5 : AV) (h : Heap) : OX :=
cnd v5
 (ob (evFa 2 v1) fun v18 =>
ob (evLd false 1 v18 h) fun v19 =>
oh (yp 0 (some 1) 1 1 [(.int .i64 0)] [(0, v19)] h) fun v20 h7 =>
(yf h7 v20))
 ((y5g v1 v4 h))
def y21r (s : St) : OX := y2j (s 1) (s 4) (s 5) s.h
theorem y1hj : T1 ysm y2b (y4 0 y2b xN) [.t 2] y21r := fun s => (y1k rfl (y1jb s)).trans (by kernel_rfl)
def y56 (v1 v4 : AV) (h : Heap) : OX :=
ob (y5 .eql v4 (AV.int .i64 4)) fun v6 =>
cnd v6
 ((y2j v1 v4 v6 h))
 (ob (y5 .eql v4 (AV.int .i64 6)) fun v7 =>
cnd v7
 ((y2j v1 v4 v7 h))
 (ob (y5 .eql v4 (AV.int .i64 7)) fun v8 =>
cnd v8
 ((y2j v1 v4 v8 h))
 (ob (y5 .eql v4 (AV.int .i64 8)) fun v9 =>
cnd v9
 ((y2j v1 v4 v9 h))
 (ob (y5 .eql v4 (AV.int .i64 10)) fun v10 =>
cnd v10
 ((y2j v1 v4 v10 h))
 (ob (y5 .eql v4 (AV.int .i64 12)) fun v11 =>
cnd v11
 ((y2j v1 v4 v11 h))
 (ob (y5 .eql v4 (AV.int .i64 15)) fun v12 =>
cnd v12
 ((y2j v1 v4 v12 h))
 (ob (y5 .eql v4 (AV.int .i64 16)) fun v13 =>
cnd v13
 ((y2j v1 v4 v13 h))
 (ob (y5 .eql v4 (AV.int .i64 19)) fun v14 =>
cnd v14
 ((y2j v1 v4 v14 h))
 (ob (y5 .eql v4 (AV.int .i64 21)) fun v15 =>
cnd v15
 ((y2j v1 v4 v15 h))
 (ob (y5 .eql v4 (AV.int .i64 22)) fun v16 =>
cnd v16
 ((y2j v1 v4 v16 h))
 (ob (y5 .eql v4 (AV.int .i64 31)) fun v17 =>
(y2j v1 v4 v17 h))))))))))))
def y13y (s : St) : OX := y56 (s 1) (s 4) s.h
theorem y1hn : T1 ysx y2b (y4 0 y2b xN) [.t 2] y13y := sq y1hj fun _ => by kernel_rfl
theorem y1cv : T1 yuw y2b xN [.t 2] y13y := fun s => yw.trans (y1hn s)
def y5f (v1 : AV) (h : Heap) : OX :=
ob (evFa 0 v1) fun v3 =>
ob (evLd false 1 v3 h) fun v4 =>
(y56 v1 v4 h)
def y1bs (s : St) : OX := y5f (s 1) s.h
theorem y1jx : T1 yz6 y2b xN [.t 2] y1bs := sq y1cv fun _ => by kernel_rfl
theorem y13k : T0 yu7 [.t 2] y1bs := sq y1lw y1jx
def y58 (v0 : AV) (h : Heap) : OX :=
oh (newC 0 (some 0) (cellsOf v0) h) fun v1 h8 =>
(y5f v1 h8)
def y1wo (s : St) : OX := y58 (s 0) s.h
theorem y1ja : T0 ytc [.t 2] y1wo := sq y13k fun _ => by kernel_rfl
@[simp] theorem y2b0 : E.pure 10 = true := rfl
theorem yoq (v0 : AV) : (y8 E).p 10 [v0] = y58 v0 [⟨0, .dead⟩, ⟨0, .dead⟩, ⟨0, .dead⟩, ⟨0, .dead⟩, ⟨0, .dead⟩, ⟨0, .dead⟩, ⟨0, .dead⟩, ⟨0, .dead⟩] :=
  (y10 (cf := y26y) (by kernel_rfl) rfl).trans ((y1ja _).trans (by kernel_rfl))
def y17w (h : Heap) : OX :=
(yf h (AV.int .i64 (-1)))
def y27i (s : St) : OX := y17w s.h
theorem y1s1 : T0 y1fx [.t 2] y27i := fun _ => by kernel_rfl
def y1lc (v1 : AV) (h : Heap) : OX :=
ob (evLd true 9 v1 h) fun v22 =>
oh (y6 E (y8 E) 0 none true 17 [v22] h) fun v23 h1 =>
cnd v23
 (ob (evFa 1 v1) fun v24 =>
ob (evLd false 1 v24 h1) fun v25 =>
(yf h1 v25))
 ((y17w h1))
def yea (s : St) : OX := y1lc (s 1) s.h
theorem y1oz : T0 y1gi [.t 2] yea := sq y1s1 fun _ => by kernel_rfl
def y7v (v1 v5 : AV) (h : Heap) : OX :=
cnd v5
 (ob (evFa 1 v1) fun v20 =>
ob (evLd false 1 v20 h) fun v21 =>
(yf h v21))
 ((y1lc v1 h))
def y25p (s : St) : OX := y7v (s 1) (s 5) s.h
theorem y1mp : T1 y1gh yea (y4 0 yea xN) [.t 2] y25p := fun _ => by kernel_rfl
def y1cq (v1 v4 : AV) (h : Heap) : OX :=
ob (y5 .eql v4 (AV.int .i64 1)) fun v6 =>
cnd v6
 ((y7v v1 v6 h))
 (ob (y5 .eql v4 (AV.int .i64 2)) fun v7 =>
cnd v7
 ((y7v v1 v7 h))
 (ob (y5 .eql v4 (AV.int .i64 3)) fun v8 =>
cnd v8
 ((y7v v1 v8 h))
 (ob (y5 .eql v4 (AV.int .i64 4)) fun v9 =>
cnd v9
 ((y7v v1 v9 h))
 (ob (y5 .eql v4 (AV.int .i64 5)) fun v10 =>
cnd v10
 ((y7v v1 v10 h))
 (ob (y5 .eql v4 (AV.int .i64 6)) fun v11 =>
cnd v11
 ((y7v v1 v11 h))
 (ob (y5 .eql v4 (AV.int .i64 13)) fun v12 =>
cnd v12
 ((y7v v1 v12 h))
 (ob (y5 .eql v4 (AV.int .i64 15)) fun v13 =>
cnd v13
 ((y7v v1 v13 h))
 (ob (y5 .eql v4 (AV.int .i64 16)) fun v14 =>
cnd v14
 ((y7v v1 v14 h))
 (ob (y5 .eql v4 (AV.int .i64 18)) fun v15 =>
cnd v15
 ((y7v v1 v15 h))
 (ob (y5 .eql v4 (AV.int .i64 20)) fun v16 =>
cnd v16
 ((y7v v1 v16 h))
 (ob (y5 .eql v4 (AV.int .i64 21)) fun v17 =>
cnd v17
 ((y7v v1 v17 h))
 (ob (y5 .eql v4 (AV.int .i64 22)) fun v18 =>
cnd v18
 ((y7v v1 v18 h))
 (ob (y5 .eql v4 (AV.int .i64 32)) fun v19 =>
(y7v v1 v19 h))))))))))))))
def y1v8 (s : St) : OX := y1cq (s 1) (s 4) s.h
theorem y1qw : T1 y13s yea (y4 0 yea xN) [.t 2] y1v8 := sq y1mp fun _ => by kernel_rfl
theorem y1ng : T1 y14o yea xN [.t 2] y1v8 := fun s => yw.trans (y1qw s)
def y1aa (v1 : AV) (h : Heap) : OX :=
ob (evFa 0 v1) fun v3 =>
ob (evLd false 1 v3 h) fun v4 =>
(y1cq v1 v4 h)
def y1v2 (s : St) : OX := y1aa (s 1) s.h
theorem y1qf : T1 y1ga yea xN [.t 2] y1v2 := sq y1ng fun _ => by kernel_rfl
theorem y1tm : T0 y12k [.t 2] y1v2 := sq y1oz y1qf
def y19w (v0 : AV) (h : Heap) : OX :=
oh (newC 0 (some 0) (cellsOf v0) h) fun v1 h2 =>
(y1aa v1 h2)
def y25l (s : St) : OX := y19w (s 0) s.h
theorem y1qq : T0 y16b [.t 2] y25l := sq y1tm fun _ => by kernel_rfl
@[simp] theorem y2ee : E.pure 9 = true := rfl
theorem y2do (v0 : AV) : (y8 E).p 9 [v0] = y19w v0 [⟨0, .dead⟩] :=
  (y10 (cf := y25i) (by kernel_rfl) rfl).trans ((y1qq _).trans (by kernel_rfl))
def yws (v0 : AV) (h : Heap) : OX :=
oh (yp 0 (some 0) 1 0 [(.int .i64 0)] [] h) fun v5 h1 =>
oh (y1y 0 (some 1) 1 8 v5 v0 h1) fun v7 h2 =>
(yf h2 v7)
def y22u (s : St) : OX := yws (s 0) s.h
theorem y14x : T0 yvh [.t 2] y22u := fun _ => by kernel_rfl
def yx8 (v0 : AV) (h : Heap) : OX :=
ob (y9f 1 false v0 AV.nils) fun v4 =>
cnd v4
 ((yf h AV.nils))
 ((yws v0 h))
def y1zi (s : St) : OX := yx8 (s 0) s.h
theorem y1gd : T0 yyl [.t 2] y1zi := sq y14x fun _ => by kernel_rfl
def yt2 (v0 : AV) (h : Heap) : OX :=
(yx8 v0 h)
def y1wa (s : St) : OX := yt2 (s 0) s.h
theorem y1js : T0 yy3 [.t 2] y1wa := sq y1gd fun _ => by kernel_rfl
@[simp] theorem y2e7 : E.pure 39 = true := rfl
theorem y28b (v0 : AV) : (y8 E).p 39 [v0] = yt2 v0 [⟨0, .dead⟩, ⟨0, .dead⟩] :=
  (y10 (cf := y1tv) (by kernel_rfl) rfl).trans ((y1js _).trans (by kernel_rfl))
def ywz (v0 : AV) (h : Heap) : OX :=
oh (yp 0 (some 0) 9 0 [(.int .i64 0), (.int .i64 0), (.int .i64 0), (.int .i64 0), (.int .i64 0), (.int .i64 0), (.int .i64 0), (.str []), .nils] [] h) fun v5 h1 =>
oh (y1y 0 (some 1) 9 96 v5 v0 h1) fun v7 h2 =>
(yf h2 v7)
def y21f (s : St) : OX := ywz (s 0) s.h
theorem y16v : T0 yvb [.t 2] y21f := fun _ => by kernel_rfl
def ytl (v0 : AV) (h : Heap) : OX :=
ob (y9f 1 false v0 AV.nils) fun v4 =>
cnd v4
 ((yf h AV.nils))
 ((ywz v0 h))
def y1yk (s : St) : OX := ytl (s 0) s.h
theorem y1lb : T0 ysn [.t 2] y1yk := sq y16v fun _ => by kernel_rfl
def yrg (v0 : AV) (h : Heap) : OX :=
(ytl v0 h)
def y1yv (s : St) : OX := yrg (s 0) s.h
theorem y150 : T0 yzf [.t 2] y1yv := sq y1lb fun _ => by kernel_rfl
@[simp] theorem y2e9 : E.pure 40 = true := rfl
theorem y24d (v0 : AV) : (y8 E).p 40 [v0] = yrg v0 [⟨0, .dead⟩, ⟨0, .dead⟩] :=
  (y10 (cf := y1ub) (by kernel_rfl) rfl).trans ((y150 _).trans (by kernel_rfl))
def ysz (v0 : AV) (h : Heap) : OX :=
oh (yp 0 (some 0) 4 0 [(.int .i64 0), (.int .i64 0), (.int .i64 0), (.str [])] [] h) fun v5 h1 =>
oh (y1y 0 (some 1) 4 40 v5 v0 h1) fun v7 h2 =>
(yf h2 v7)
def y1yb (s : St) : OX := ysz (s 0) s.h
theorem y1bm : T0 yyq [.t 2] y1yb := fun _ => by kernel_rfl
def ysa (v0 : AV) (h : Heap) : OX :=
ob (y9f 1 false v0 AV.nils) fun v4 =>
cnd v4
 ((yf h AV.nils))
 ((ysz v0 h))
def y230 (s : St) : OX := ysa (s 0) s.h
theorem y13f : T0 yra [.t 2] y230 := sq y1bm fun _ => by kernel_rfl
def yvm (v0 : AV) (h : Heap) : OX :=
(ysa v0 h)
def y1y3 (s : St) : OX := yvm (s 0) s.h
theorem y175 : T0 yy6 [.t 2] y1y3 := sq y13f fun _ => by kernel_rfl
@[simp] theorem y2av : E.pure 41 = true := rfl
theorem y252 (v0 : AV) : (y8 E).p 41 [v0] = yvm v0 [⟨0, .dead⟩, ⟨0, .dead⟩] :=
  (y10 (cf := y1uh) (by kernel_rfl) rfl).trans ((y175 _).trans (by kernel_rfl))
def yee (h : Heap) : OX :=
(yf h (AV.bool true))
def y5k (s : St) : OX := yee s.h
theorem y15i : T0 yqc [.t 4] y5k := fun _ => by kernel_rfl
def ycp (v0 v1 v5 : AV) (h : Heap) : OX :=
  W E 0 yfs ⟨[(0, v0), (1, v1), (5, v5)], h⟩ y5k (y4 0 y5k xN) (finP [.t 4])
def y91 (s : St) : OX := ycp (s 0) (s 1) (s 5) s.h
theorem yh9 : T1 yfs y5k (y4 0 y5k xN) [.t 4] y91 := fun s => yk.trans (by kernel_rfl)
def yfv (v0 v1 v5 : AV) (h : Heap) : OX :=
ob (y5 .add v5 (AV.int .i64 1)) fun v16 =>
(ycp v0 v1 v16 h)
def y1vj (s : St) : OX := yfv (s 0) (s 1) (s 5) s.h
theorem y1l0 : T1 yr6 y91 (y4 0 y5k xN) [.t 4] y1vj := fun _ => by kernel_rfl
def ygb (v0 v1 v5 : AV) (h : Heap) : OX :=
ob (yv 1 v0 v5) fun v19 =>
ob (evLd false 1 v19 h) fun v20 =>
ob (yv 1 v1 v5) fun v23 =>
ob (evLd false 1 v23 h) fun v24 =>
ob (y5 .neq v20 v24) fun v25 =>
cnd v25
 ((yf h (AV.bool false)))
 ((yfv v0 v1 v5 h))
def y1x2 (s : St) : OX := ygb (s 0) (s 1) (s 5) s.h
theorem y12v : T1 yw8 y91 (y4 0 y5k xN) [.t 4] y1x2 := sq y1l0 fun _ => by kernel_rfl
def yg7 (v0 v1 v5 : AV) (h : Heap) : OX :=
ob (y14 1 v0 h) fun v13 =>
ob (y5 .lss v5 v13) fun v14 =>
cnd v14
 ((ygb v0 v1 v5 h))
 ((yee h))
def y1w0 (s : St) : OX := yg7 (s 0) (s 1) (s 5) s.h
theorem y14l : T1 yqp y91 (y4 0 y5k xN) [.t 4] y1w0 := sq y12v fun _ => by kernel_rfl
theorem yh0 (v0 v1 v5 : AV) (h : Heap) : ycp v0 v1 v5 h = (yg7 v0 v1 v5 h) :=
  y1w.trans ((y1b _ _ _ (n' := y91) (fun s => yh9 s)).trans ((y14l _).trans (by kernel_rfl)))
theorem y1es : T1 yqt y5k xN [.t 4] y91 := fun s => yw.trans (yh9 s)
def ygg (v0 v1 : AV) (h : Heap) : OX :=
(ycp v0 v1 (AV.int .i64 0) h)
def y1f8 (s : St) : OX := ygg (s 0) (s 1) s.h
theorem y1hz : T1 yqr y5k xN [.t 4] y1f8 := sq y1es fun _ => by kernel_rfl
theorem y156 : T0 yx4 [.t 4] y1f8 := sq y15i y1hz
def yfc (v0 v1 : AV) (h : Heap) : OX :=
ob (y14 1 v0 h) fun v7 =>
ob (y14 1 v1 h) fun v9 =>
ob (y5 .neq v7 v9) fun v10 =>
cnd v10
 ((yf h (AV.bool false)))
 ((ygg v0 v1 h))
def y1xe (s : St) : OX := yfc (s 0) (s 1) s.h
theorem y15d : T0 yvq [.t 4] y1xe := sq y156 fun _ => by kernel_rfl
def ya4 (v0 v1 : AV) (h : Heap) : OX :=
(yfc v0 v1 h)
def y1o6 (s : St) : OX := ya4 (s 0) (s 1) s.h
theorem y0z : T0 yn0 [.t 4] y1o6 := sq y15d fun _ => by kernel_rfl
@[simp] theorem y2cw : E.pure 11 = true := rfl
theorem y27d (v0 v1 : AV) : (y8 E).p 11 [v0, v1] = ya4 v0 v1 [] :=
  (y10 (cf := y1tz) (by kernel_rfl) rfl).trans ((y0z _).trans (by kernel_rfl))
def y8d (v0 v1 : AV) (h : Heap) : OX :=
oh (newC 0 (some 0) (cellsOf v0) h) fun v2 h1 =>
oh (newC 0 (some 1) (cellsOf v1) h1) fun v3 h2 =>
ob (evFa 0 v2) fun v5 =>
ob (evLd false 1 v5 h2) fun v6 =>
ob (evFa 0 v3) fun v7 =>
ob (evLd false 1 v7 h2) fun v8 =>
ob (y5 .eql v6 v8) fun v9 =>
gb v9 true (evFa 1 v2) fun v11 =>
gb v9 true (evLd false 1 v11 h2) fun v12 =>
gb v9 true (evFa 1 v3) fun v13 =>
gb v9 true (evLd false 1 v13 h2) fun v14 =>
gb v9 true (y5 .eql v12 v14) fun v15 =>
ob (ye v9 v15 (AV.bool false)) fun v16 =>
gb v16 true (evFa 2 v2) fun v18 =>
gb v16 true (evLd false 1 v18 h2) fun v19 =>
gb v16 true (evFa 2 v3) fun v20 =>
gb v16 true (evLd false 1 v20 h2) fun v21 =>
gb v16 true (y5 .eql v19 v21) fun v22 =>
ob (ye v16 v22 (AV.bool false)) fun v23 =>
gb v23 true (evFa 3 v2) fun v25 =>
gb v23 true (evLd false 1 v25 h2) fun v26 =>
gb v23 true (evFa 3 v3) fun v27 =>
gb v23 true (evLd false 1 v27 h2) fun v28 =>
gb v23 true (y5 .eql v26 v28) fun v29 =>
ob (ye v23 v29 (AV.bool false)) fun v30 =>
gb v30 true (evFa 4 v2) fun v32 =>
gb v30 true (evLd false 1 v32 h2) fun v33 =>
gb v30 true (evFa 4 v3) fun v34 =>
gb v30 true (evLd false 1 v34 h2) fun v35 =>
gb v30 true (y5 .eql v33 v35) fun v36 =>
ob (ye v30 v36 (AV.bool false)) fun v37 =>
gb v37 true (evFa 5 v2) fun v39 =>
gb v37 true (evLd false 1 v39 h2) fun v40 =>
gb v37 true (evFa 5 v3) fun v41 =>
gb v37 true (evLd false 1 v41 h2) fun v42 =>
gb v37 true (y5 .eql v40 v42) fun v43 =>
ob (ye v37 v43 (AV.bool false)) fun v44 =>
gb v44 true (evFa 6 v2) fun v46 =>
gb v44 true (evLd false 1 v46 h2) fun v47 =>
gb v44 true (evFa 6 v3) fun v48 =>
gb v44 true (evLd false 1 v48 h2) fun v49 =>
gb v44 true (y5 .eql v47 v49) fun v50 =>
ob (ye v44 v50 (AV.bool false)) fun v51 =>
gb v51 true (evFa 7 v2) fun v53 =>
gb v51 true (evLd false 1 v53 h2) fun v54 =>
gb v51 true (evFa 7 v3) fun v55 =>
gb v51 true (evLd false 1 v55 h2) fun v56 =>
gb v51 true (y5 .eql v54 v56) fun v57 =>
ob (ye v51 v57 (AV.bool false)) fun v58 =>
gb v58 true (evFa 8 v2) fun v60 =>
gb v58 true (evLd false 1 v60 h2) fun v61 =>
gb v58 true (evFa 8 v3) fun v62 =>
gb v58 true (evLd false 1 v62 h2) fun v63 =>
gh v58 true (y6 E (y8 E) 0 none true 11 [v61, v63] h2) h2 fun v64 h3 =>
ob (ye v58 v64 (AV.bool false)) fun v65 =>
(yf h3 v65)
def y1yy (s : St) : OX := y8d (s 0) (s 1) s.h
theorem y12i : T0 ysw [.t 4] y1yy := fun _ => by kernel_rfl
@[simp] theorem y2b1 : E.pure 28 = true := rfl
theorem y272 (v0 v1 : AV) : (y8 E).p 28 [v0, v1] = y8d v0 v1 [⟨0, .dead⟩, ⟨0, .dead⟩] :=
  (y10 (cf := y1uq) (by kernel_rfl) rfl).trans ((y12i _).trans (by kernel_rfl))
def y225 (v0 : AV) (h : Heap) : OX :=
oh (newC 0 (some 0) (cellsOf v0) h) fun v1 h1 =>
ob (evFa 0 v1) fun v3 =>
ob (evLd false 1 v3 h1) fun v4 =>
ob (y5 .eql v4 (AV.int .i64 27)) fun v5 =>
gb v5 false (evFa 0 v1) fun v7 =>
gb v5 false (evLd false 1 v7 h1) fun v8 =>
gb v5 false (y5 .eql v8 (AV.int .i64 30)) fun v9 =>
ob (ye v5 (AV.bool true) v9) fun v10 =>
gb v10 false (evFa 0 v1) fun v12 =>
gb v10 false (evLd false 1 v12 h1) fun v13 =>
gb v10 false (y5 .eql v13 (AV.int .i64 31)) fun v14 =>
ob (ye v10 (AV.bool true) v14) fun v15 =>
(yf h1 v15)
def y293 (s : St) : OX := y225 (s 0) s.h
theorem y1oa : T0 y16u [.t 2] y293 := fun _ => by kernel_rfl
@[simp] theorem y2e4 : E.pure 24 = true := rfl
theorem y2dy (v0 : AV) : (y8 E).p 24 [v0] = y225 v0 [⟨0, .dead⟩] :=
  (y10 (cf := y283) (by kernel_rfl) rfl).trans ((y1oa _).trans (by kernel_rfl))
def yzb (v0 v1 : AV) (h : Heap) : OX :=
oh (y6 E (y8 E) 0 none true 45 [v0, v1] h) fun v7 h1 =>
ob (y5 .geq v7 (AV.int .i64 0)) fun v8 =>
(yf h1 v8)
def y1yn (s : St) : OX := yzb (s 0) (s 1) s.h
theorem y1kj : T0 ywe [.t 4] y1yn := fun _ => by kernel_rfl
@[simp] theorem y2bv : E.pure 46 = true := rfl
theorem y27z (v0 v1 : AV) : (y8 E).p 46 [v0, v1] = yzb v0 v1 [] :=
  (y10 (cf := y1u3) (by kernel_rfl) rfl).trans ((y1kj _).trans (by kernel_rfl))
def y17l (v2 v3 : AV) (h : Heap) : OX :=
ob (evLd true 9 v3 h) fun v183 =>
oh (y6 E (y8 E) 0 none true 22 [v183] h) fun v184 h1 =>
ob (evUn .not v184) fun v185 =>
gb v185 false (evFa 6 v3) fun v187 =>
gb v185 false (evLd false 1 v187 h1) fun v188 =>
gb v185 false (y5 .geq v188 (AV.int .i64 0)) fun v189 =>
gb v185 false (some v189) fun v190 =>
gb v190 true (evFa 6 v3) fun v191 =>
gb v190 true (evLd false 1 v191 h1) fun v192 =>
gb v190 true (evFa 3 v2) fun v193 =>
gb v190 true (evLd false 1 v193 h1) fun v194 =>
gb v190 true (y14 1 v194 h1) fun v195 =>
gb v190 true (y5 .lss v192 v195) fun v196 =>
gb v185 false (ye v190 v196 (AV.bool false)) fun v197 =>
ob (ye v185 (AV.bool true) v197) fun v198 =>
(yf h1 v198)
def y27b (s : St) : OX := y17l (s 2) (s 3) s.h
theorem y1r3 : T0 y1gz [.t 4] y27b := fun _ => by kernel_rfl
def y7u (v2 v3 : AV) (h : Heap) : OX :=
ob (evFa 0 v3) fun v105 =>
ob (evLd false 1 v105 h) fun v106 =>
ob (y5 .eql v106 (AV.int .i64 1)) fun v108 =>
cnd v108
 (ob (evFa 0 v2) fun v109 =>
ob (evLd false 1 v109 h) fun v110 =>
ob (evFa 1 v3) fun v111 =>
ob (evLd false 1 v111 h) fun v112 =>
ob (yv 1 v110 v112) fun v113 =>
ob (evLd false 1 v113 h) fun v114 =>
ob (y5 .neq v114 (AV.int .i64 3)) fun v115 =>
gb v115 true (evFa 0 v2) fun v117 =>
gb v115 true (evLd false 1 v117 h) fun v118 =>
gb v115 true (evFa 1 v3) fun v119 =>
gb v115 true (evLd false 1 v119 h) fun v120 =>
gb v115 true (yv 1 v118 v120) fun v121 =>
gb v115 true (evLd false 1 v121 h) fun v122 =>
gb v115 true (y5 .eql v122 (AV.int .i64 2)) fun v123 =>
gb v115 true (some v123) fun v124 =>
gb v124 false (evFa 5 v3) fun v125 =>
gb v124 false (evLd false 1 v125 h) fun v126 =>
gb v124 false (evFa 5 v3) fun v127 =>
gb v124 false (evLd false 1 v127 h) fun v128 =>
gb v124 false (y1lr .i32 v128) fun v129 =>
gb v124 false (y1lr .i64 v129) fun v130 =>
gb v124 false (y5 .eql v126 v130) fun v131 =>
gb v115 true (ye v124 (AV.bool true) v131) fun v132 =>
ob (ye v115 v132 (AV.bool false)) fun v133 =>
(yf h v133))
 (ob (y5 .eql v106 (AV.int .i64 4)) fun v135 =>
cnd v135
 (ob (evFa 0 v2) fun v136 =>
ob (evLd false 1 v136 h) fun v137 =>
ob (evFa 1 v3) fun v138 =>
ob (evLd false 1 v138 h) fun v139 =>
ob (yv 1 v137 v139) fun v140 =>
ob (evLd false 1 v140 h) fun v141 =>
ob (evFa 0 v2) fun v142 =>
ob (evLd false 1 v142 h) fun v143 =>
ob (evFa 2 v3) fun v144 =>
ob (evLd false 1 v144 h) fun v145 =>
ob (yv 1 v143 v145) fun v146 =>
ob (evLd false 1 v146 h) fun v147 =>
ob (y5 .eql v141 v147) fun v148 =>
(yf h v148))
 (ob (y5 .eql v106 (AV.int .i64 7)) fun v150 =>
cnd v150
 (ob (evFa 0 v2) fun v151 =>
ob (evLd false 1 v151 h) fun v152 =>
ob (evFa 2 v3) fun v153 =>
ob (evLd false 1 v153 h) fun v154 =>
ob (yv 1 v152 v154) fun v155 =>
ob (evLd false 1 v155 h) fun v156 =>
ob (y5 .neq v156 (AV.int .i64 3)) fun v157 =>
(yf h v157))
 (ob (y5 .eql v106 (AV.int .i64 30)) fun v159 =>
cnd v159
 (ob (evFa 2 v3) fun v160 =>
ob (evLd false 1 v160 h) fun v161 =>
ob (y5 .eql v161 (AV.int .i64 (-1))) fun v162 =>
ob (evFa 2 v2) fun v163 =>
ob (evLd false 1 v163 h) fun v164 =>
ob (y5 .eql v164 (AV.int .i64 0)) fun v165 =>
ob (y1nc false v162 v165) fun v166 =>
gb v166 true (evFa 2 v3) fun v168 =>
gb v166 true (evLd false 1 v168 h) fun v169 =>
gb v166 true (y5 .eql v169 (AV.int .i64 (-1))) fun v170 =>
gb v166 true (some v170) fun v171 =>
gb v171 false (evFa 0 v2) fun v172 =>
gb v171 false (evLd false 1 v172 h) fun v173 =>
gb v171 false (evFa 2 v3) fun v174 =>
gb v171 false (evLd false 1 v174 h) fun v175 =>
gb v171 false (yv 1 v173 v175) fun v176 =>
gb v171 false (evLd false 1 v176 h) fun v177 =>
gb v171 false (evFa 2 v2) fun v178 =>
gb v171 false (evLd false 1 v178 h) fun v179 =>
gb v171 false (y5 .eql v177 v179) fun v180 =>
gb v166 true (ye v171 (AV.bool true) v180) fun v181 =>
ob (ye v166 v181 (AV.bool false)) fun v182 =>
(yf h v182))
 ((y17l v2 v3 h)))))
def y53 (s : St) : OX := y7u (s 2) (s 3) s.h
theorem y1qd : T0 y14w [.t 4] y53 := sq y1r3 fun _ => by kernel_rfl
def yfq (v2 v3 v63 v64 v65 : AV) (h : Heap) : OX :=
  W E 0 yku ⟨[(2, v2), (3, v3), (63, v63), (64, v64), (65, v65)], h⟩ y53 (y4 2 y53 xN) (finP [.t 4])
def ya6 (s : St) : OX := yfq (s 2) (s 3) (s 63) (s 64) (s 65) s.h
theorem yna : T1 yku y53 (y4 2 y53 xN) [.t 4] ya6 := fun s => yk.trans (by kernel_rfl)
def y19m (v2 v3 v63 v64 v65 : AV) (h : Heap) : OX :=
ob (y5 .add v65 (AV.int .i64 1)) fun v104 =>
(yfq v2 v3 v63 v64 v104 h)
def ycr (s : St) : OX := y19m (s 2) (s 3) (s 63) (s 64) (s 65) s.h
theorem y1om : T1 y1dw ya6 (y4 2 y53 xN) [.t 4] ycr := fun _ => by kernel_rfl
def yfr (v2 v3 v9 v10 v63 v64 v65 : AV) (h : Heap) : OX :=
ob (y5 .lss v10 (AV.int .i64 0)) fun v74 =>
gb v74 false (some v10) fun v76 =>
gb v74 false (evFa 0 v2) fun v77 =>
gb v74 false (evLd false 1 v77 h) fun v78 =>
gb v74 false (y14 1 v78 h) fun v79 =>
gb v74 false (y5 .geq v76 v79) fun v80 =>
ob (ye v74 (AV.bool true) v80) fun v81 =>
gb v81 false (some v9) fun v83 =>
gb v81 false (y5 .eql v83 (AV.int .i64 0)) fun v84 =>
gb v81 false (some v84) fun v85 =>
gb v85 true (evFa 0 v3) fun v86 =>
gb v85 true (evLd false 1 v86 h) fun v87 =>
gb v85 true (y5 .eql v87 (AV.int .i64 24)) fun v88 =>
gb v85 true (some v88) fun v89 =>
gb v89 false (evFa 0 v3) fun v90 =>
gb v89 false (evLd false 1 v90 h) fun v91 =>
gb v89 false (y5 .eql v91 (AV.int .i64 25)) fun v92 =>
gb v85 true (ye v89 (AV.bool true) v92) fun v93 =>
gb v81 false (ye v85 v93 (AV.bool false)) fun v94 =>
gb v81 false (some v94) fun v95 =>
gb v95 true (evFa 0 v2) fun v96 =>
gb v95 true (evLd false 1 v96 h) fun v97 =>
gb v95 true (some v10) fun v98 =>
gb v95 true (yv 1 v97 v98) fun v99 =>
gb v95 true (evLd false 1 v99 h) fun v100 =>
gb v95 true (y5 .neq v100 (AV.int .i64 3)) fun v101 =>
gb v81 false (ye v95 v101 (AV.bool false)) fun v102 =>
ob (ye v81 (AV.bool true) v102) fun v103 =>
cnd v103
 ((yf h (AV.bool false)))
 ((y19m v2 v3 v63 v64 v65 h))
def y259 (s : St) : OX := yfr (s 2) (s 3) (s 9) (s 10) (s 63) (s 64) (s 65) s.h
theorem y1ov : T1 y1ab ycr (y4 3 ycr (y4 2 y53 xN)) [.t 4] y259 := fun _ => by kernel_rfl
def y1jt (v2 v3 v9 v10 v63 v64 v65 : AV) (h : Heap) : OX :=
ob (evLd true 9 v3 h) fun v70 =>
oh (y6 E (y8 E) 0 none true 17 [v70] h) fun v71 h2 =>
ob (evUn .not v71) fun v72 =>
cnd v72
 ((y7u v2 v3 h2))
 ((yfr v2 v3 v9 v10 v63 v64 v65 h2))
def y28k (s : St) : OX := y1jt (s 2) (s 3) (s 9) (s 10) (s 63) (s 64) (s 65) s.h
theorem y1mk : T1 y19h ycr (y4 3 ycr (y4 2 y53 xN)) [.t 4] y28k := sq y1ov fun _ => by kernel_rfl
def y1ee (v2 v3 v63 v64 v65 : AV) (h : Heap) : OX :=
ob (yv 1 v63 v65) fun v68 =>
ob (evLd false 1 v68 h) fun v69 =>
(y1jt v2 v3 v65 v69 v63 v64 v65 h)
def y1as (s : St) : OX := y1ee (s 2) (s 3) (s 63) (s 64) (s 65) s.h
theorem y1mn : T1 y17d ycr (y4 3 ycr (y4 2 y53 xN)) [.t 4] y1as := sq y1mk fun _ => by kernel_rfl
theorem y1tn : T1 y1is ycr (y4 2 y53 xN) [.t 4] y1as := fun s => yw.trans (y1mn s)
theorem y1m1 : T1 y12y ya6 (y4 2 y53 xN) [.t 4] y1as := sq y1om y1tn
def yf2 (v2 v3 v63 v64 v65 v66 : AV) (h : Heap) : OX :=
cnd v66
 ((y1ee v2 v3 v63 v64 v65 h))
 ((y7u v2 v3 h))
def y1wu (s : St) : OX := yf2 (s 2) (s 3) (s 63) (s 64) (s 65) (s 66) s.h
theorem y1bl : T1 yzp ya6 (y4 2 y53 xN) [.t 4] y1wu := sq y1m1 fun _ => by kernel_rfl
def yg4 (v2 v3 v63 v64 v65 : AV) (h : Heap) : OX :=
ob (y5 .lss v65 v64) fun v66 =>
(yf2 v2 v3 v63 v64 v65 v66 h)
def y20j (s : St) : OX := yg4 (s 2) (s 3) (s 63) (s 64) (s 65) s.h
theorem y1j1 : T1 ywt ya6 (y4 2 y53 xN) [.t 4] y20j := sq y1bl fun _ => by kernel_rfl
theorem ye8 (v2 v3 v63 v64 v65 : AV) (h : Heap) : yfq v2 v3 v63 v64 v65 h = (yg4 v2 v3 v63 v64 v65 h) :=
  y1w.trans ((y1b _ _ _ (n' := ya6) (fun s => yna s)).trans ((y1j1 _).trans (by kernel_rfl)))
theorem y1fr : T1 yv1 y53 xN [.t 4] ya6 := fun s => yw.trans (yna s)
def yn9 (v2 v3 : AV) (h : Heap) : OX :=
ob (evFa 8 v3) fun v62 =>
ob (evLd false 1 v62 h) fun v63 =>
ob (y14 1 v63 h) fun v64 =>
(yfq v2 v3 v63 v64 (AV.int .i64 0) h)
def y33 (s : St) : OX := yn9 (s 2) (s 3) s.h
theorem y13z : T1 yu1 y53 xN [.t 4] y33 := sq y1fr fun _ => by kernel_rfl
theorem y1eg : T0 yqa [.t 4] y33 := sq y1qd y13z
def ya9 (v2 v3 v5 v26 v27 : AV) (h : Heap) : OX :=
  W E 0 yer ⟨[(2, v2), (3, v3), (5, v5), (26, v26), (27, v27)], h⟩ y33 (y4 0 y33 xN) (finP [.t 4])
def y63 (s : St) : OX := ya9 (s 2) (s 3) (s 5) (s 26) (s 27) s.h
theorem yik : T1 yer y33 (y4 0 y33 xN) [.t 4] y63 := fun s => yk.trans (by kernel_rfl)
def ymv (v2 v3 v5 v26 v27 : AV) (h : Heap) : OX :=
ob (y5 .add v27 (AV.int .i64 1)) fun v61 =>
(ya9 v2 v3 v5 v26 v61 h)
def y8h (s : St) : OX := ymv (s 2) (s 3) (s 5) (s 26) (s 27) s.h
theorem y16y : T1 yqv y63 (y4 0 y33 xN) [.t 4] y8h := fun _ => by kernel_rfl
def yeu (v2 v3 v5 v7 v8 v26 v27 : AV) (h : Heap) : OX :=
ob (y5 .lss v8 (AV.int .i64 0)) fun v36 =>
gb v36 false (some v8) fun v38 =>
gb v36 false (evFa 0 v2) fun v39 =>
gb v36 false (evLd false 1 v39 h) fun v40 =>
gb v36 false (y14 1 v40 h) fun v41 =>
gb v36 false (y5 .geq v38 v41) fun v42 =>
ob (ye v36 (AV.bool true) v42) fun v43 =>
gb v43 false (some v7) fun v45 =>
gb v43 false (ykr 4 1 v5 v45) fun v46 =>
gb v43 false (evLd false 1 v46 h) fun v47 =>
gb v43 false (y5 .gtr v47 (AV.int .i64 0)) fun v48 =>
gb v43 false (some v48) fun v49 =>
gb v49 true (evFa 0 v2) fun v50 =>
gb v49 true (evLd false 1 v50 h) fun v51 =>
gb v49 true (some v8) fun v52 =>
gb v49 true (yv 1 v51 v52) fun v53 =>
gb v49 true (evLd false 1 v53 h) fun v54 =>
gb v49 true (some v7) fun v55 =>
gb v49 true (ykr 4 1 v5 v55) fun v56 =>
gb v49 true (evLd false 1 v56 h) fun v57 =>
gb v49 true (y5 .neq v54 v57) fun v58 =>
gb v43 false (ye v49 v58 (AV.bool false)) fun v59 =>
ob (ye v43 (AV.bool true) v59) fun v60 =>
cnd v60
 ((yf h (AV.bool false)))
 ((ymv v2 v3 v5 v26 v27 h))
def y1xr (s : St) : OX := yeu (s 2) (s 3) (s 5) (s 7) (s 8) (s 26) (s 27) s.h
theorem y1a4 : T1 yr1 y8h (y4 1 y8h (y4 0 y33 xN)) [.t 4] y1xr := fun _ => by kernel_rfl
def yag (v2 v3 v5 v7 v8 v26 v27 : AV) (h : Heap) : OX :=
ob (ykr 4 1 v5 v7) fun v32 =>
ob (evLd false 1 v32 h) fun v33 =>
ob (y5 .lss v33 (AV.int .i64 0)) fun v34 =>
cnd v34
 ((ymv v2 v3 v5 v26 v27 h))
 ((yeu v2 v3 v5 v7 v8 v26 v27 h))
def y227 (s : St) : OX := yag (s 2) (s 3) (s 5) (s 7) (s 8) (s 26) (s 27) s.h
theorem y16a : T1 ys9 y8h (y4 1 y8h (y4 0 y33 xN)) [.t 4] y227 := sq y1a4 fun _ => by kernel_rfl
def y1ap (v2 v3 v5 v26 v27 : AV) (h : Heap) : OX :=
ob (yjn false 4 1 v26 v27) fun v30 =>
(yag v2 v3 v5 v27 v30 v26 v27 h)
def yos (s : St) : OX := y1ap (s 2) (s 3) (s 5) (s 26) (s 27) s.h
theorem y14t : T1 yxj y8h (y4 1 y8h (y4 0 y33 xN)) [.t 4] yos := sq y16a fun _ => by kernel_rfl
theorem y16j : T1 yye y8h (y4 0 y33 xN) [.t 4] yos := fun s => yw.trans (y14t s)
theorem y16d : T1 yxc y63 (y4 0 y33 xN) [.t 4] yos := sq y16y y16j
def yuv (v2 v3 v5 v26 v27 v28 : AV) (h : Heap) : OX :=
cnd v28
 ((y1ap v2 v3 v5 v26 v27 h))
 ((yn9 v2 v3 h))
def y1zc (s : St) : OX := yuv (s 2) (s 3) (s 5) (s 26) (s 27) (s 28) s.h
theorem y198 : T1 yym y63 (y4 0 y33 xN) [.t 4] y1zc := sq y16d fun _ => by kernel_rfl
def yrf (v2 v3 v5 v26 v27 : AV) (h : Heap) : OX :=
ob (y5 .lss v27 (AV.int .i64 4)) fun v28 =>
(yuv v2 v3 v5 v26 v27 v28 h)
def y1ya (s : St) : OX := yrf (s 2) (s 3) (s 5) (s 26) (s 27) s.h
theorem y1bf : T1 yum y63 (y4 0 y33 xN) [.t 4] y1ya := sq y198 fun _ => by kernel_rfl
theorem yhd (v2 v3 v5 v26 v27 : AV) (h : Heap) : ya9 v2 v3 v5 v26 v27 h = (yrf v2 v3 v5 v26 v27 h) :=
  y1w.trans ((y1b _ _ _ (n' := y63) (fun s => yik s)).trans ((y1bf _).trans (by kernel_rfl)))
theorem y1bn : T1 yvv y33 xN [.t 4] y63 := fun s => yw.trans (yik s)
def y145 (v2 v3 v5 : AV) (h : Heap) : OX :=
ob (evFa 1 v3) fun v18 =>
ob (evLd false 1 v18 h) fun v19 =>
ob (evFa 2 v3) fun v20 =>
ob (evLd false 1 v20 h) fun v21 =>
ob (evFa 3 v3) fun v22 =>
ob (evLd false 1 v22 h) fun v23 =>
ob (evFa 4 v3) fun v24 =>
ob (evLd false 1 v24 h) fun v25 =>
ob (yu [(.int .i64 0), (.int .i64 0), (.int .i64 0), (.int .i64 0)] [(0, 1, v19), (1, 1, v21), (2, 1, v23), (3, 1, v25)]) fun v26 =>
(ya9 v2 v3 v5 v26 (AV.int .i64 0) h)
def y16n (s : St) : OX := y145 (s 2) (s 3) (s 5) s.h
theorem y1gy : T1 yti y33 xN [.t 4] y16n := sq y1bn fun _ => by kernel_rfl
theorem y1a9 : T0 yr5 [.t 4] y16n := sq y1eg y1gy
def yvt (v2 v3 v5 v6 : AV) (h : Heap) : OX :=
ob (evUn .not v6) fun v17 =>
cnd v17
 ((yf h (AV.bool false)))
 ((y145 v2 v3 v5 h))
def y23c (s : St) : OX := yvt (s 2) (s 3) (s 5) (s 6) s.h
theorem y14h : T0 yt6 [.t 4] y23c := sq y1a9 fun _ => by kernel_rfl
def yqd (v2 v3 : AV) (h : Heap) : OX :=
ob (evLd true 9 v3 h) fun v12 =>
oh (y6 E (y8 E) 0 none true 47 [v12] h) fun v13 h3 =>
ob (ybv 0 v13) fun v14 =>
ob (ybv 1 v13) fun v15 =>
oh (newC 0 (some 2) [(.int .i64 0), (.int .i64 0), (.int .i64 0), (.int .i64 0)] h3) fun v5 h4 =>
oh (evSt 4 v5 v14 h4) fun _ h5 =>
(yvt v2 v3 v5 v15 h5)
def y1xi (s : St) : OX := yqd (s 2) (s 3) s.h
theorem y1jc : T0 ywp [.t 4] y1xi := sq y14h fun _ => by kernel_rfl
def ymr (v0 v1 : AV) (h : Heap) : OX :=
oh (newC 0 (some 0) (cellsOf v0) h) fun v2 h6 =>
oh (newC 0 (some 1) (cellsOf v1) h6) fun v3 h7 =>
(yqd v2 v3 h7)
def y1xl (s : St) : OX := ymr (s 0) (s 1) s.h
theorem y171 : T0 yw4 [.t 4] y1xl := sq y1jc fun _ => by kernel_rfl
@[simp] theorem y2cs : E.pure 63 = true := rfl
theorem y2ak (v0 v1 : AV) : (y8 E).p 63 [v0, v1] = ymr v0 v1 [⟨0, .dead⟩, ⟨0, .dead⟩, ⟨0, .dead⟩] :=
  (y10 (cf := y254) (by kernel_rfl) rfl).trans ((y171 _).trans (by kernel_rfl))
def y1z7 (v0 : AV) (h : Heap) : OX :=
oh (newC 0 (some 0) (cellsOf v0) h) fun v1 h1 =>
ob (evFa 0 v1) fun v3 =>
ob (evLd false 1 v3 h1) fun v4 =>
ob (y5 .eql v4 (AV.int .i64 27)) fun v5 =>
gb v5 false (evFa 0 v1) fun v7 =>
gb v5 false (evLd false 1 v7 h1) fun v8 =>
gb v5 false (y5 .eql v8 (AV.int .i64 28)) fun v9 =>
ob (ye v5 (AV.bool true) v9) fun v10 =>
gb v10 false (evFa 0 v1) fun v12 =>
gb v10 false (evLd false 1 v12 h1) fun v13 =>
gb v10 false (y5 .eql v13 (AV.int .i64 29)) fun v14 =>
ob (ye v10 (AV.bool true) v14) fun v15 =>
(yf h1 v15)
def y28x (s : St) : OX := y1z7 (s 0) s.h
theorem y1ti : T0 y1c8 [.t 2] y28x := fun _ => by kernel_rfl
@[simp] theorem y2dx : E.pure 22 = true := rfl
theorem y2co (v0 : AV) : (y8 E).p 22 [v0] = y1z7 v0 [⟨0, .dead⟩] :=
  (y10 (cf := y28p) (by kernel_rfl) rfl).trans ((y1ti _).trans (by kernel_rfl))
def y22x (v3 : AV) (h : Heap) : OX :=
(yf h v3)
def y7l (s : St) : OX := y22x (s 3) s.h
theorem y1sw : T0 y1cz [.t 2] y7l := fun _ => by kernel_rfl
def yht (v1 v3 v4 : AV) (h : Heap) : OX :=
  W E 0 ykm ⟨[(1, v1), (3, v3), (4, v4)], h⟩ y7l (y4 0 y7l xN) (finP [.t 2])
def y3q (s : St) : OX := yht (s 1) (s 3) (s 4) s.h
theorem yn6 : T1 ykm y7l (y4 0 y7l xN) [.t 2] y3q := fun s => yk.trans (by kernel_rfl)
def y1q3 (v1 v3 v4 v5 : AV) (h : Heap) : OX :=
ob (yv 1 v3 v5) fun v41 =>
oh (evSt 1 v41 (AV.bool true) h) fun _ h1 =>
ob (evLd true 5 v1 h1) fun v43 =>
oh (y6 E (y8 E) 0 none true 81 [v43, v5] h1) fun v45 h2 =>
oh (y1y 0 (some 3) 1 8 v4 v45 h2) fun v46 h3 =>
ob (evLd true 5 v1 h3) fun v48 =>
oh (y6 E (y8 E) 0 none true 79 [v48, v5] h3) fun v50 h4 =>
oh (y1y 0 (some 4) 1 8 v46 v50 h4) fun v51 h5 =>
(yht v1 v3 v51 h5)
def y260 (s : St) : OX := y1q3 (s 1) (s 3) (s 4) (s 5) s.h
theorem y1qa : T1 y136 y3q (y4 1 y3q (y4 0 y7l xN)) [.t 2] y260 := fun _ => by kernel_rfl
def ynr (v1 v3 v4 v5 : AV) (h : Heap) : OX :=
ob (y5 .lss v5 (AV.int .i64 0)) fun v26 =>
gb v26 false (some v5) fun v28 =>
gb v26 false (some v3) fun v29 =>
gb v26 false (y14 1 v29 h) fun v30 =>
gb v26 false (y5 .geq v28 v30) fun v31 =>
ob (ye v26 (AV.bool true) v31) fun v32 =>
gb v32 false (some v3) fun v34 =>
gb v32 false (some v5) fun v35 =>
gb v32 false (yv 1 v34 v35) fun v36 =>
gb v32 false (evLd false 1 v36 h) fun v37 =>
ob (ye v32 (AV.bool true) v37) fun v38 =>
cnd v38
 ((yht v1 v3 v4 h))
 ((y1q3 v1 v3 v4 v5 h))
def y264 (s : St) : OX := ynr (s 1) (s 3) (s 4) (s 5) s.h
theorem y1n0 : T1 y1at y3q (y4 1 y3q (y4 0 y7l xN)) [.t 2] y264 := sq y1qa fun _ => by kernel_rfl
def y1vu (v1 v3 v4 v5 : AV) (h : Heap) : OX :=
ob (y14 1 v4 h) fun v22 =>
ob (y5 .sub v22 (AV.int .i64 1)) fun v23 =>
ob (ybb 1 v4 none (some v23)) fun v24 =>
(ynr v1 v3 v24 v5 h)
def y25o (s : St) : OX := y1vu (s 1) (s 3) (s 4) (s 5) s.h
theorem y1tf : T1 y1a3 y3q (y4 1 y3q (y4 0 y7l xN)) [.t 2] y25o := sq y1n0 fun _ => by kernel_rfl
def y20c (v1 v3 v4 : AV) (h : Heap) : OX :=
ob (y14 1 v4 h) fun v16 =>
ob (y5 .sub v16 (AV.int .i64 1)) fun v17 =>
ob (yv 1 v4 v17) fun v18 =>
ob (evLd false 1 v18 h) fun v19 =>
(y1vu v1 v3 v4 v19 h)
def y1v5 (s : St) : OX := y20c (s 1) (s 3) (s 4) s.h
theorem y1nx : T1 y14a y3q (y4 1 y3q (y4 0 y7l xN)) [.t 2] y1v5 := sq y1tf fun _ => by kernel_rfl
theorem y1ly : T1 y1cb y3q (y4 0 y7l xN) [.t 2] y1v5 := fun s => yw.trans (y1nx s)
def y1dj (v1 v3 v4 : AV) (h : Heap) : OX :=
ob (y14 1 v4 h) fun v12 =>
ob (y5 .gtr v12 (AV.int .i64 0)) fun v13 =>
cnd v13
 ((y20c v1 v3 v4 h))
 ((y22x v3 h))
def y29h (s : St) : OX := y1dj (s 1) (s 3) (s 4) s.h
theorem y1qc : T1 y1d6 y3q (y4 0 y7l xN) [.t 2] y29h := sq y1ly fun _ => by kernel_rfl
theorem y1cr (v1 v3 v4 : AV) (h : Heap) : yht v1 v3 v4 h = (y1dj v1 v3 v4 h) :=
  y1w.trans ((y1b _ _ _ (n' := y3q) (fun s => yn6 s)).trans ((y1qc _).trans (by kernel_rfl)))
theorem y1r0 : T1 y1kb y7l xN [.t 2] y3q := fun s => yw.trans (yn6 s)
theorem y17b : T0 yzs [.t 2] y3q := sq y1sw y1r0
def y172 (v1 v3 : AV) (h : Heap) : OX :=
oh (yp 0 (some 2) 1 1 [(.int .i64 0)] [(0, (AV.int .i64 0))] h) fun v10 h6 =>
(yht v1 v3 v10 h6)
def y1y1 (s : St) : OX := y172 (s 1) (s 3) s.h
theorem y1ld : T0 yv6 [.t 2] y1y1 := sq y17b fun _ => by kernel_rfl
def y1i1 (v1 : AV) (h : Heap) : OX :=
ob (evFa 3 v1) fun v6 =>
ob (evLd false 1 v6 h) fun v7 =>
ob (y14 1 v7 h) fun v8 =>
oh (mkSC 0 (some 1) 1 1 [(.bool false)] v8 v8 h) fun v9 h7 =>
(y172 v1 v9 h7)
def y22y (s : St) : OX := y1i1 (s 1) s.h
theorem y12h : T0 yx1 [.t 2] y22y := sq y1ld fun _ => by kernel_rfl
def y1ha (v0 : AV) (h : Heap) : OX :=
oh (newC 0 (some 0) (cellsOf v0) h) fun v1 h8 =>
(y1i1 v1 h8)
def y238 (s : St) : OX := y1ha (s 0) s.h
theorem y17z : T0 ywo [.t 2] y238 := sq y12h fun _ => by kernel_rfl
@[simp] theorem y2a6 : E.pure 101 = true := rfl
theorem y2ci (v0 : AV) : (y8 E).p 101 [v0] = y1ha v0 [⟨0, .dead⟩, ⟨0, .dead⟩, ⟨0, .dead⟩, ⟨0, .dead⟩, ⟨0, .dead⟩] :=
  (y10 (cf := y28s) (by kernel_rfl) rfl).trans ((y17z _).trans (by kernel_rfl))
def y1bo (v5 : AV) (h : Heap) : OX :=
(yf h v5)
def y13 (s : St) : OX := y1bo (s 5) s.h
theorem y1lu : T0 y13t [.t 2] y13 := fun _ => by kernel_rfl
def yb2 (v1 v3 v5 v6 : AV) (h : Heap) : OX :=
  W E 0 yjs ⟨[(1, v1), (3, v3), (5, v5), (6, v6)], h⟩ y13 (y4 2 y13 xN) (finP [.t 2])
def yb (s : St) : OX := yb2 (s 1) (s 3) (s 5) (s 6) s.h
theorem yn4 : T1 yjs y13 (y4 2 y13 xN) [.t 2] yb := fun s => yk.trans (by kernel_rfl)
def ye7 (v1 v3 v5 v6 v7 : AV) (h : Heap) : OX :=
  W E 0 ykb ⟨[(1, v1), (3, v3), (5, v5), (6, v6), (7, v7)], h⟩ yb (y4 4 yb (y4 3 yb (y4 2 y13 xN))) (finP [.t 2])
def ybx (s : St) : OX := ye7 (s 1) (s 3) (s 5) (s 6) (s 7) s.h
theorem ylu : T1 ykb yb (y4 4 yb (y4 3 yb (y4 2 y13 xN))) [.t 2] ybx := fun s => yk.trans (by kernel_rfl)
def y1th (v1 v3 v5 v6 v7 : AV) (h : Heap) : OX :=
ob (y5 .sub v7 (AV.int .i64 1)) fun v75 =>
(ye7 v1 v3 v5 v6 v75 h)
def y1f (s : St) : OX := y1th (s 1) (s 3) (s 5) (s 6) (s 7) s.h
theorem y1r7 : T1 y1kw ybx (y4 4 yb (y4 3 yb (y4 2 y13 xN))) [.t 2] y1f := fun _ => by kernel_rfl
def y11g (v1 v3 v5 v6 v7 v12 : AV) (h : Heap) : OX :=
ob (y1e v5) fun v168 =>
ob (evFa 0 v168) fun v169 =>
ob (evLd false 1 v169 h) fun v170 =>
ob (yv 1 v170 v7) fun v172 =>
ob (evLd false 1 v172 h) fun v173 =>
oh (y6 E (y8 E) 0 none false 84 [v173, v12] h) fun v175 h1 =>
gb v175 false (some v6) fun v177 =>
ob (ye v175 (AV.bool true) v177) fun v178 =>
(y1th v1 v3 v5 v178 v7 h1)
def y8k (s : St) : OX := y11g (s 1) (s 3) (s 5) (s 6) (s 7) (s 12) s.h
theorem y1mv : T1 y1hf y1f (y4 5 y1f (y4 4 yb (y4 3 yb (y4 2 y13 xN)))) [.t 2] y8k := fun _ => by kernel_rfl
def ylh (v1 v3 v5 v6 v7 v12 v157 v158 v159 : AV) (h : Heap) : OX :=
  W E 0 yjo ⟨[(1, v1), (3, v3), (5, v5), (6, v6), (7, v7), (12, v12), (157, v157), (158, v158), (159, v159)], h⟩ y8k (y4 10 y8k (y4 5 y1f (y4 4 yb (y4 3 yb (y4 2 y13 xN))))) (finP [.t 2])
def yaa (s : St) : OX := ylh (s 1) (s 3) (s 5) (s 6) (s 7) (s 12) (s 157) (s 158) (s 159) s.h
theorem yn1 : T1 yjo y8k (y4 10 y8k (y4 5 y1f (y4 4 yb (y4 3 yb (y4 2 y13 xN))))) [.t 2] yaa := fun s => yk.trans (by kernel_rfl)
def y22w (v1 v3 v5 v6 v7 v12 v157 v158 v159 : AV) (h : Heap) : OX :=
ob (y5 .add v159 (AV.int .i64 1)) fun v166 =>
(ylh v1 v3 v5 v6 v7 v12 v157 v158 v166 h)
def y26a (s : St) : OX := y22w (s 1) (s 3) (s 5) (s 6) (s 7) (s 12) (s 157) (s 158) (s 159) s.h
theorem y1o2 : T1 y16l yaa (y4 10 y8k (y4 5 y1f (y4 4 yb (y4 3 yb (y4 2 y13 xN))))) [.t 2] y26a := fun _ => by kernel_rfl
def y1z9 (v1 v3 v5 v6 v7 v12 v157 v158 v159 : AV) (h : Heap) : OX :=
ob (yv 1 v157 v159) fun v161 =>
ob (evLd false 1 v161 h) fun v162 =>
oh (y6 E (y8 E) 0 none false 86 [v12, v162] h) fun v165 h2 =>
(y22w v1 v3 v5 v6 v7 v12 v157 v158 v159 h2)
def y279 (s : St) : OX := y1z9 (s 1) (s 3) (s 5) (s 6) (s 7) (s 12) (s 157) (s 158) (s 159) s.h
theorem y1qx : T1 y14r yaa (y4 10 y8k (y4 5 y1f (y4 4 yb (y4 3 yb (y4 2 y13 xN))))) [.t 2] y279 := sq y1o2 fun _ => by kernel_rfl
def y1rs (v1 v3 v5 v6 v7 v12 v157 v158 v159 v160 : AV) (h : Heap) : OX :=
cnd v160
 ((y1z9 v1 v3 v5 v6 v7 v12 v157 v158 v159 h))
 ((y11g v1 v3 v5 v6 v7 v12 h))
def y28w (s : St) : OX := y1rs (s 1) (s 3) (s 5) (s 6) (s 7) (s 12) (s 157) (s 158) (s 159) (s 160) s.h
theorem y1m3 : T1 y12l yaa (y4 10 y8k (y4 5 y1f (y4 4 yb (y4 3 yb (y4 2 y13 xN))))) [.t 2] y28w := sq y1qx fun _ => by kernel_rfl
def yus (v1 v3 v5 v6 v7 v12 v157 v158 v159 : AV) (h : Heap) : OX :=
ob (y5 .lss v159 v158) fun v160 =>
(y1rs v1 v3 v5 v6 v7 v12 v157 v158 v159 v160 h)
def y1x6 (s : St) : OX := yus (s 1) (s 3) (s 5) (s 6) (s 7) (s 12) (s 157) (s 158) (s 159) s.h
theorem y1le : T1 yxo yaa (y4 10 y8k (y4 5 y1f (y4 4 yb (y4 3 yb (y4 2 y13 xN))))) [.t 2] y1x6 := sq y1m3 fun _ => by kernel_rfl
theorem yl4 (v1 v3 v5 v6 v7 v12 v157 v158 v159 : AV) (h : Heap) : ylh v1 v3 v5 v6 v7 v12 v157 v158 v159 h = (yus v1 v3 v5 v6 v7 v12 v157 v158 v159 h) :=
  y1w.trans ((y1b _ _ _ (n' := yaa) (fun s => yn1 s)).trans ((y1le _).trans (by kernel_rfl)))
theorem y1d0 : T1 yrz y8k (y4 5 y1f (y4 4 yb (y4 3 yb (y4 2 y13 xN)))) [.t 2] yaa := fun s => yw.trans (yn1 s)
def y159 (v1 v3 v5 v6 v7 v12 : AV) (h : Heap) : OX :=
ob (evFa 3 v1) fun v152 =>
ob (evLd false 1 v152 h) fun v153 =>
ob (yv 9 v153 v7) fun v155 =>
ob (evLd true 9 v155 h) fun v156 =>
oh (y6 E (y8 E) 0 none true 10 [v156] h) fun v157 h3 =>
ob (y14 1 v157 h3) fun v158 =>
(ylh v1 v3 v5 v6 v7 v12 v157 v158 (AV.int .i64 0) h3)
def y168 (s : St) : OX := y159 (s 1) (s 3) (s 5) (s 6) (s 7) (s 12) s.h
theorem y1jj : T1 yqz y8k (y4 5 y1f (y4 4 yb (y4 3 yb (y4 2 y13 xN)))) [.t 2] y168 := sq y1d0 fun _ => by kernel_rfl
theorem y13h : T1 ytd y1f (y4 5 y1f (y4 4 yb (y4 3 yb (y4 2 y13 xN)))) [.t 2] y168 := sq y1mv y1jj
def yia (v1 v3 v5 v6 v7 v12 : AV) (h : Heap) : OX :=
ob (y1e v5) fun v145 =>
ob (evFa 2 v145) fun v146 =>
ob (evLd false 1 v146 h) fun v147 =>
ob (yv 1 v147 v7) fun v149 =>
ob (evLd false 1 v149 h) fun v150 =>
oh (y6 E (y8 E) 0 none false 84 [v12, v150] h) fun v151 h4 =>
(y159 v1 v3 v5 v6 v7 v12 h4)
def y1vx (s : St) : OX := yia (s 1) (s 3) (s 5) (s 6) (s 7) (s 12) s.h
theorem y1j4 : T1 ywc y1f (y4 5 y1f (y4 4 yb (y4 3 yb (y4 2 y13 xN)))) [.t 2] y1vx := sq y13h fun _ => by kernel_rfl
def yh5 (v1 v3 v5 v6 v7 v12 : AV) (h : Heap) : OX :=
ob (evFa 3 v1) fun v132 =>
ob (evLd false 1 v132 h) fun v133 =>
ob (yv 9 v133 v7) fun v135 =>
ob (evLd true 9 v135 h) fun v136 =>
oh (y6 E (y8 E) 0 none true 9 [v136] h) fun v137 h5 =>
ob (y5 .geq v137 (AV.int .i64 0)) fun v139 =>
cnd v139
 (oh (y6 E (y8 E) 0 none false 85 [v12, v137] h5) fun v142 h6 =>
(yia v1 v3 v5 v6 v7 v12 h6))
 ((yia v1 v3 v5 v6 v7 v12 h5))
def y22n (s : St) : OX := yh5 (s 1) (s 3) (s 5) (s 6) (s 7) (s 12) s.h
theorem y15g : T1 yx7 y1f (y4 5 y1f (y4 4 yb (y4 3 yb (y4 2 y13 xN)))) [.t 2] y22n := sq y1j4 fun _ => by kernel_rfl
def y14i (v1 v3 v5 v6 v7 : AV) (h : Heap) : OX :=
ob (y1e v5) fun v125 =>
ob (evFa 1 v125) fun v126 =>
ob (evLd false 1 v126 h) fun v127 =>
ob (yv 1 v127 v7) fun v129 =>
ob (evLd false 1 v129 h) fun v130 =>
oh (y1y 0 (some 2) 1 8 AV.nils v130 h) fun v131 h7 =>
(yh5 v1 v3 v5 v6 v7 v131 h7)
def y52 (s : St) : OX := y14i (s 1) (s 3) (s 5) (s 6) (s 7) s.h
theorem y1h7 : T1 ywg y1f (y4 5 y1f (y4 4 yb (y4 3 yb (y4 2 y13 xN)))) [.t 2] y52 := sq y15g fun _ => by kernel_rfl
def y9v (v1 v3 v5 v6 v7 v102 v103 v104 : AV) (h : Heap) : OX :=
  W E 0 ygc ⟨[(1, v1), (3, v3), (5, v5), (6, v6), (7, v7), (102, v102), (103, v103), (104, v104)], h⟩ y52 (y4 8 y52 (y4 5 y1f (y4 4 yb (y4 3 yb (y4 2 y13 xN))))) (finP [.t 2])
def y65 (s : St) : OX := y9v (s 1) (s 3) (s 5) (s 6) (s 7) (s 102) (s 103) (s 104) s.h
theorem yiv : T1 ygc y52 (y4 8 y52 (y4 5 y1f (y4 4 yb (y4 3 yb (y4 2 y13 xN))))) [.t 2] y65 := fun s => yk.trans (by kernel_rfl)
def y1i3 (v1 v3 v5 v6 v7 v102 v103 v104 : AV) (h : Heap) : OX :=
ob (y5 .add v104 (AV.int .i64 1)) fun v123 =>
(y9v v1 v3 v5 v6 v7 v102 v103 v123 h)
def y21c (s : St) : OX := y1i3 (s 1) (s 3) (s 5) (s 6) (s 7) (s 102) (s 103) (s 104) s.h
theorem y1bp : T1 ys2 y65 (y4 8 y52 (y4 5 y1f (y4 4 yb (y4 3 yb (y4 2 y13 xN))))) [.t 2] y21c := fun _ => by kernel_rfl
def y16r (v1 v3 v5 v6 v7 v102 v103 v104 : AV) (h : Heap) : OX :=
ob (yv 1 v102 v104) fun v106 =>
ob (evLd false 1 v106 h) fun v107 =>
ob (y1e v5) fun v109 =>
ob (evFa 2 v109) fun v110 =>
ob (evLd false 1 v110 h) fun v111 =>
ob (yv 1 v111 v7) fun v113 =>
ob (evLd false 1 v113 h) fun v114 =>
ob (y1e v5) fun v116 =>
ob (evFa 0 v116) fun v117 =>
ob (evLd false 1 v117 h) fun v118 =>
ob (yv 1 v118 v107) fun v120 =>
ob (evLd false 1 v120 h) fun v121 =>
oh (y6 E (y8 E) 0 none false 84 [v114, v121] h) fun v122 h8 =>
(y1i3 v1 v3 v5 v6 v7 v102 v103 v104 h8)
def y1wk (s : St) : OX := y16r (s 1) (s 3) (s 5) (s 6) (s 7) (s 102) (s 103) (s 104) s.h
theorem y13r : T1 yu4 y65 (y4 8 y52 (y4 5 y1f (y4 4 yb (y4 3 yb (y4 2 y13 xN))))) [.t 2] y1wk := sq y1bp fun _ => by kernel_rfl
def ysh (v1 v3 v5 v6 v7 v102 v103 v104 v105 : AV) (h : Heap) : OX :=
cnd v105
 ((y16r v1 v3 v5 v6 v7 v102 v103 v104 h))
 ((y14i v1 v3 v5 v6 v7 h))
def y1zq (s : St) : OX := ysh (s 1) (s 3) (s 5) (s 6) (s 7) (s 102) (s 103) (s 104) (s 105) s.h
theorem y1g4 : T1 yr9 y65 (y4 8 y52 (y4 5 y1f (y4 4 yb (y4 3 yb (y4 2 y13 xN))))) [.t 2] y1zq := sq y13r fun _ => by kernel_rfl
def yt7 (v1 v3 v5 v6 v7 v102 v103 v104 : AV) (h : Heap) : OX :=
ob (y5 .lss v104 v103) fun v105 =>
(ysh v1 v3 v5 v6 v7 v102 v103 v104 v105 h)
def y1x7 (s : St) : OX := yt7 (s 1) (s 3) (s 5) (s 6) (s 7) (s 102) (s 103) (s 104) s.h
theorem y16s : T1 yrl y65 (y4 8 y52 (y4 5 y1f (y4 4 yb (y4 3 yb (y4 2 y13 xN))))) [.t 2] y1x7 := sq y1g4 fun _ => by kernel_rfl
theorem yib (v1 v3 v5 v6 v7 v102 v103 v104 : AV) (h : Heap) : y9v v1 v3 v5 v6 v7 v102 v103 v104 h = (yt7 v1 v3 v5 v6 v7 v102 v103 v104 h) :=
  y1w.trans ((y1b _ _ _ (n' := y65) (fun s => yiv s)).trans ((y16s _).trans (by kernel_rfl)))
theorem y187 : T1 yqx y52 (y4 5 y1f (y4 4 yb (y4 3 yb (y4 2 y13 xN)))) [.t 2] y65 := fun s => yw.trans (yiv s)
def y15b (v1 v3 v5 v6 v7 : AV) (h : Heap) : OX :=
ob (evLd true 5 v1 h) fun v100 =>
oh (y6 E (y8 E) 0 none true 79 [v100, v7] h) fun v102 h9 =>
ob (y14 1 v102 h9) fun v103 =>
(y9v v1 v3 v5 v6 v7 v102 v103 (AV.int .i64 0) h9)
def y46 (s : St) : OX := y15b (s 1) (s 3) (s 5) (s 6) (s 7) s.h
theorem y1b0 : T1 ytg y52 (y4 5 y1f (y4 4 yb (y4 3 yb (y4 2 y13 xN)))) [.t 2] y46 := sq y187 fun _ => by kernel_rfl
theorem y132 : T1 yya y1f (y4 5 y1f (y4 4 yb (y4 3 yb (y4 2 y13 xN)))) [.t 2] y46 := sq y1h7 y1b0
def y9w (v1 v3 v5 v6 v7 v78 v79 v80 : AV) (h : Heap) : OX :=
  W E 0 yep ⟨[(1, v1), (3, v3), (5, v5), (6, v6), (7, v7), (78, v78), (79, v79), (80, v80)], h⟩ y46 (y4 6 y46 (y4 5 y1f (y4 4 yb (y4 3 yb (y4 2 y13 xN))))) (finP [.t 2])
def y6e (s : St) : OX := y9w (s 1) (s 3) (s 5) (s 6) (s 7) (s 78) (s 79) (s 80) s.h
theorem yhs : T1 yep y46 (y4 6 y46 (y4 5 y1f (y4 4 yb (y4 3 yb (y4 2 y13 xN))))) [.t 2] y6e := fun s => yk.trans (by kernel_rfl)
def y1ir (v1 v3 v5 v6 v7 v78 v79 v80 : AV) (h : Heap) : OX :=
ob (y5 .add v80 (AV.int .i64 1)) fun v99 =>
(y9w v1 v3 v5 v6 v7 v78 v79 v99 h)
def y1z6 (s : St) : OX := y1ir (s 1) (s 3) (s 5) (s 6) (s 7) (s 78) (s 79) (s 80) s.h
theorem y1e3 : T1 yto y6e (y4 6 y46 (y4 5 y1f (y4 4 yb (y4 3 yb (y4 2 y13 xN))))) [.t 2] y1z6 := fun _ => by kernel_rfl
def y1d3 (v1 v3 v5 v6 v7 v78 v79 v80 : AV) (h : Heap) : OX :=
ob (yv 1 v78 v80) fun v82 =>
ob (evLd false 1 v82 h) fun v83 =>
ob (y1e v5) fun v85 =>
ob (evFa 1 v85) fun v86 =>
ob (evLd false 1 v86 h) fun v87 =>
ob (yv 1 v87 v7) fun v89 =>
ob (evLd false 1 v89 h) fun v90 =>
ob (y1e v5) fun v92 =>
ob (evFa 0 v92) fun v93 =>
ob (evLd false 1 v93 h) fun v94 =>
ob (yv 1 v94 v83) fun v96 =>
ob (evLd false 1 v96 h) fun v97 =>
oh (y6 E (y8 E) 0 none false 84 [v90, v97] h) fun v98 h10 =>
(y1ir v1 v3 v5 v6 v7 v78 v79 v80 h10)
def y1xn (s : St) : OX := y1d3 (s 1) (s 3) (s 5) (s 6) (s 7) (s 78) (s 79) (s 80) s.h
theorem y1j8 : T1 yw5 y6e (y4 6 y46 (y4 5 y1f (y4 4 yb (y4 3 yb (y4 2 y13 xN))))) [.t 2] y1xn := sq y1e3 fun _ => by kernel_rfl
def yxg (v1 v3 v5 v6 v7 v78 v79 v80 v81 : AV) (h : Heap) : OX :=
cnd v81
 ((y1d3 v1 v3 v5 v6 v7 v78 v79 v80 h))
 ((y15b v1 v3 v5 v6 v7 h))
def y22i (s : St) : OX := yxg (s 1) (s 3) (s 5) (s 6) (s 7) (s 78) (s 79) (s 80) (s 81) s.h
theorem y19l : T1 yrn y6e (y4 6 y46 (y4 5 y1f (y4 4 yb (y4 3 yb (y4 2 y13 xN))))) [.t 2] y22i := sq y1j8 fun _ => by kernel_rfl
def yy8 (v1 v3 v5 v6 v7 v78 v79 v80 : AV) (h : Heap) : OX :=
ob (y5 .lss v80 v79) fun v81 =>
(yxg v1 v3 v5 v6 v7 v78 v79 v80 v81 h)
def y1yj (s : St) : OX := yy8 (s 1) (s 3) (s 5) (s 6) (s 7) (s 78) (s 79) (s 80) s.h
theorem y1ko : T1 yqe y6e (y4 6 y46 (y4 5 y1f (y4 4 yb (y4 3 yb (y4 2 y13 xN))))) [.t 2] y1yj := sq y19l fun _ => by kernel_rfl
theorem yh4 (v1 v3 v5 v6 v7 v78 v79 v80 : AV) (h : Heap) : y9w v1 v3 v5 v6 v7 v78 v79 v80 h = (yy8 v1 v3 v5 v6 v7 v78 v79 v80 h) :=
  y1w.trans ((y1b _ _ _ (n' := y6e) (fun s => yhs s)).trans ((y1ko _).trans (by kernel_rfl)))
theorem y1fe : T1 ysi y46 (y4 5 y1f (y4 4 yb (y4 3 yb (y4 2 y13 xN)))) [.t 2] y6e := fun s => yw.trans (yhs s)
def y1if (v1 v3 v5 v6 v7 : AV) (h : Heap) : OX :=
ob (evLd true 5 v1 h) fun v76 =>
oh (y6 E (y8 E) 0 none true 81 [v76, v7] h) fun v78 h11 =>
ob (y14 1 v78 h11) fun v79 =>
(y9w v1 v3 v5 v6 v7 v78 v79 (AV.int .i64 0) h11)
def yk4 (s : St) : OX := y1if (s 1) (s 3) (s 5) (s 6) (s 7) s.h
theorem y1hv : T1 ysr y46 (y4 5 y1f (y4 4 yb (y4 3 yb (y4 2 y13 xN)))) [.t 2] yk4 := sq y1fe fun _ => by kernel_rfl
theorem y1av : T1 yrb y1f (y4 5 y1f (y4 4 yb (y4 3 yb (y4 2 y13 xN)))) [.t 2] yk4 := sq y132 y1hv
theorem y15e : T1 ys5 y1f (y4 4 yb (y4 3 yb (y4 2 y13 xN))) [.t 2] yk4 := fun s => yw.trans (y1av s)
theorem y18p : T1 yyd ybx (y4 4 yb (y4 3 yb (y4 2 y13 xN))) [.t 2] yk4 := sq y1r7 y15e
def ysy (v1 v3 v5 v6 v7 : AV) (h : Heap) : OX :=
ob (y5 .geq v7 (AV.int .i64 0)) fun v73 =>
cnd v73
 ((y1if v1 v3 v5 v6 v7 h))
 ((yb2 v1 v3 v5 v6 h))
def y1w3 (s : St) : OX := ysy (s 1) (s 3) (s 5) (s 6) (s 7) s.h
theorem y1bx : T1 yrh ybx (y4 4 yb (y4 3 yb (y4 2 y13 xN))) [.t 2] y1w3 := sq y18p fun _ => by kernel_rfl
theorem ym0 (v1 v3 v5 v6 v7 : AV) (h : Heap) : ye7 v1 v3 v5 v6 v7 h = (ysy v1 v3 v5 v6 v7 h) :=
  y1w.trans ((y1b _ _ _ (n' := ybx) (fun s => ylu s)).trans ((y1bx _).trans (by kernel_rfl)))
theorem y13d : T1 ysp yb (y4 3 yb (y4 2 y13 xN)) [.t 2] ybx := fun s => yw.trans (ylu s)
def y14z (v1 v3 v5 v6 : AV) (h : Heap) : OX :=
ob (y5 .sub v3 (AV.int .i64 1)) fun v71 =>
(ye7 v1 v3 v5 v6 v71 h)
def y1wb (s : St) : OX := y14z (s 1) (s 3) (s 5) (s 6) s.h
theorem y1l9 : T1 yq3 yb (y4 3 yb (y4 2 y13 xN)) [.t 2] y1wb := sq y13d fun _ => by kernel_rfl
def y13j (v1 v3 v5 : AV) (h : Heap) : OX :=
(y14z v1 v3 v5 (AV.bool false) h)
def y1jy (s : St) : OX := y13j (s 1) (s 3) (s 5) s.h
theorem y1en : T1 yvc yb (y4 3 yb (y4 2 y13 xN)) [.t 2] y1jy := sq y1l9 fun _ => by kernel_rfl
theorem y130 : T1 yqb yb (y4 2 y13 xN) [.t 2] y1jy := fun s => yw.trans (y1en s)
def yzn (v1 v3 v5 v6 : AV) (h : Heap) : OX :=
cnd v6
 ((y13j v1 v3 v5 h))
 ((y1bo v5 h))
def y219 (s : St) : OX := yzn (s 1) (s 3) (s 5) (s 6) s.h
theorem y133 : T1 yxs yb (y4 2 y13 xN) [.t 2] y219 := sq y130 fun _ => by kernel_rfl
theorem ymk (v1 v3 v5 v6 : AV) (h : Heap) : yb2 v1 v3 v5 v6 h = (yzn v1 v3 v5 v6 h) :=
  y1w.trans ((y1b _ _ _ (n' := yb) (fun s => yn4 s)).trans ((y133 _).trans (by kernel_rfl)))
theorem y1d8 : T1 yur y13 xN [.t 2] yb := fun s => yw.trans (yn4 s)
def yy9 (v1 v3 v5 : AV) (h : Heap) : OX :=
(yb2 v1 v3 v5 (AV.bool true) h)
def y4g (s : St) : OX := yy9 (s 1) (s 3) (s 5) s.h
theorem y18b : T1 yxy y13 xN [.t 2] y4g := sq y1d8 fun _ => by kernel_rfl
theorem y1ho : T0 yw0 [.t 2] y4g := sq y1lu y18b
def ydy (v1 v3 v4 v5 v32 v33 : AV) (h : Heap) : OX :=
  W E 0 yf9 ⟨[(1, v1), (3, v3), (4, v4), (5, v5), (32, v32), (33, v33)], h⟩ y4g (y4 0 y4g xN) (finP [.t 2])
def y62 (s : St) : OX := ydy (s 1) (s 3) (s 4) (s 5) (s 32) (s 33) s.h
theorem yj8 : T1 yf9 y4g (y4 0 y4g xN) [.t 2] y62 := fun s => yk.trans (by kernel_rfl)
def yhl (v1 v3 v4 v5 v32 v33 : AV) (h : Heap) : OX :=
ob (y5 .add v33 (AV.int .i64 1)) fun v68 =>
(ydy v1 v3 v4 v5 v32 v68 h)
def y1vh (s : St) : OX := yhl (s 1) (s 3) (s 4) (s 5) (s 32) (s 33) s.h
theorem y1kl : T1 yta y62 (y4 0 y4g xN) [.t 2] y1vh := fun _ => by kernel_rfl
def yj1 (v1 v3 v4 v5 v32 v33 : AV) (h : Heap) : OX :=
ob (y1e v5) fun v39 =>
ob (evFa 0 v39) fun v40 =>
ob (evLd false 1 v40 (h ++ yl 9)) fun v41 =>
oh (mkSC h.length (some 0) 1 8 [(.int .u64 0)] v4 v4 (h ++ yl 9)) fun v43 h12 =>
oh (yp h.length (some 1) 1 1 [.nils] [(0, v43)] h12) fun v44 h13 =>
oh (y1y h.length (some 2) 1 24 v41 v44 h13) fun v45 h14 =>
ob (y1e v5) fun v47 =>
ob (evFa 1 v47) fun v48 =>
ob (evLd false 1 v48 h14) fun v49 =>
oh (mkSC h.length (some 3) 1 8 [(.int .u64 0)] v4 v4 h14) fun v51 h15 =>
oh (yp h.length (some 4) 1 1 [.nils] [(0, v51)] h15) fun v52 h16 =>
oh (y1y h.length (some 5) 1 24 v49 v52 h16) fun v53 h17 =>
ob (y1e v5) fun v55 =>
ob (evFa 2 v55) fun v56 =>
ob (evLd false 1 v56 h17) fun v57 =>
oh (mkSC h.length (some 6) 1 8 [(.int .u64 0)] v4 v4 h17) fun v59 h18 =>
oh (yp h.length (some 7) 1 1 [.nils] [(0, v59)] h18) fun v60 h19 =>
oh (y1y h.length (some 8) 1 24 v57 v60 h19) fun v61 h20 =>
ob (y1e v5) fun v62 =>
ob (evFa 0 v62) fun v63 =>
oh (evSt 1 v63 v45 h20) fun _ h21 =>
ob (y1e v5) fun v64 =>
ob (evFa 1 v64) fun v65 =>
oh (evSt 1 v65 v53 h21) fun _ h22 =>
ob (y1e v5) fun v66 =>
ob (evFa 2 v66) fun v67 =>
oh (evSt 1 v67 v61 h22) fun _ h23 =>
okK (y12 [([], []), ([], []), ([], []), ([], []), ([], []), ([], []), (ids1 v40, []), ([], []), ([], [h.length + 0]), ([], [h.length + 1]), (ids1 v44, ids1 v41 ++ [h.length + 2]), ([], []), ([], []), ([], []), (ids1 v48, []), ([], []), ([], [h.length + 3]), ([], [h.length + 4]), (ids1 v52, ids1 v49 ++ [h.length + 5]), ([], []), ([], []), ([], []), (ids1 v56, []), ([], []), ([], [h.length + 6]), ([], [h.length + 7]), (ids1 v60, ids1 v57 ++ [h.length + 8]), ([], []), ([], []), ([], ids1 v63), ([], []), ([], []), ([], ids1 v65), ([], []), ([], []), ([], ids1 v67)] [(6, 8), (6, 9), (8, 14), (9, 14), (10, 14), (6, 16), (8, 16), (9, 16), (10, 16), (14, 16), (6, 17), (8, 17), (9, 17), (10, 17), (14, 17), (8, 22), (9, 22), (10, 22), (16, 22), (17, 22), (18, 22), (6, 24), (8, 24), (9, 24), (10, 24), (14, 24), (16, 24), (17, 24), (18, 24), (22, 24), (6, 25), (8, 25), (9, 25), (10, 25), (14, 25), (16, 25), (17, 25), (18, 25), (22, 25)]) <|
(yhl v1 v3 v4 v5 v32 v33 h23)
def y20z (s : St) : OX := yj1 (s 1) (s 3) (s 4) (s 5) (s 32) (s 33) s.h
theorem y1ey : T1 yqy y62 (y4 0 y4g xN) [.t 2] y20z := sq y1kl fun _ => by kernel_rfl
def ynq (v1 v3 v4 v5 v32 v33 v34 : AV) (h : Heap) : OX :=
cnd v34
 ((yj1 v1 v3 v4 v5 v32 v33 h))
 ((yy9 v1 v3 v5 h))
def y21w (s : St) : OX := ynq (s 1) (s 3) (s 4) (s 5) (s 32) (s 33) (s 34) s.h
theorem y1j3 : T1 yrq y62 (y4 0 y4g xN) [.t 2] y21w := sq y1ey fun _ => by kernel_rfl
def ylr (v1 v3 v4 v5 v32 v33 : AV) (h : Heap) : OX :=
ob (y5 .lss v33 v32) fun v34 =>
(ynq v1 v3 v4 v5 v32 v33 v34 h)
def y1zy (s : St) : OX := ylr (s 1) (s 3) (s 4) (s 5) (s 32) (s 33) s.h
theorem y1dl : T1 yu5 y62 (y4 0 y4g xN) [.t 2] y1zy := sq y1j3 fun _ => by kernel_rfl
theorem yc0 (v1 v3 v4 v5 v32 v33 : AV) (h : Heap) : ydy v1 v3 v4 v5 v32 v33 h = (ylr v1 v3 v4 v5 v32 v33 h) :=
  y1w.trans ((y1b _ _ _ (n' := y62) (fun s => yj8 s)).trans ((y1dl _).trans (by kernel_rfl)))
theorem y1k7 : T1 ywr y4g xN [.t 2] y62 := fun s => yw.trans (yj8 s)
def y1jo (v1 v3 v4 v5 : AV) (h : Heap) : OX :=
(ydy v1 v3 v4 v5 v3 (AV.int .i64 0) h)
def y1k3 (s : St) : OX := y1jo (s 1) (s 3) (s 4) (s 5) s.h
theorem y18a : T1 yyh y4g xN [.t 2] y1k3 := sq y1k7 fun _ => by kernel_rfl
theorem y12p : T0 yre [.t 2] y1k3 := sq y1ho y18a
def y1g6 (v1 v3 v4 : AV) (h : Heap) : OX :=
ob (evFa 0 v1) fun v27 =>
ob (evLd false 1 v27 h) fun v28 =>
ob (y14 1 v28 h) fun v29 =>
ob (yu [.nils, .nils, .nils, (.int .i64 0)] [(3, 1, v29)]) fun v30 =>
oh (newC 0 (some 1) (cellsOf v30) h) fun v31 h24 =>
(y1jo v1 v3 v4 v31 h24)
def y1xk (s : St) : OX := y1g6 (s 1) (s 3) (s 4) s.h
theorem y1ag : T0 yr3 [.t 2] y1xk := sq y12p fun _ => by kernel_rfl
def y138 (v1 : AV) (h : Heap) : OX :=
ob (evFa 3 v1) fun v19 =>
ob (evLd false 1 v19 h) fun v20 =>
ob (y14 1 v20 h) fun v21 =>
ob (evFa 0 v1) fun v22 =>
ob (evLd false 1 v22 h) fun v23 =>
ob (y14 1 v23 h) fun v24 =>
ob (y5 .quo v24 (AV.int .i64 64)) fun v25 =>
ob (y5 .add v25 (AV.int .i64 1)) fun v26 =>
(y1g6 v1 v21 v26 h)
def y21t (s : St) : OX := y138 (s 1) s.h
theorem y1cc : T0 yrv [.t 2] y21t := sq y1ag fun _ => by kernel_rfl
def y1ef (v1 : AV) (h : Heap) : OX :=
ob (evLd true 5 v1 h) fun v16 =>
oh (y6 E (y8 E) 0 none true 8 [v16] h) fun v17 h25 =>
ob (y5 .neq v17 (AV.int .i64 0)) fun v18 =>
cnd v18
 ((yf h25 AV.nilp))
 ((y138 v1 h25))
def y22z (s : St) : OX := y1ef (s 1) s.h
theorem y19u : T0 ytx [.t 2] y22z := sq y1cc fun _ => by kernel_rfl
def y1ad (v0 : AV) (h : Heap) : OX :=
oh (newC 0 (some 0) (cellsOf v0) h) fun v1 h26 =>
(y1ef v1 h26)
def y1yq (s : St) : OX := y1ad (s 0) s.h
theorem y1hc : T0 yvz [.t 2] y1yq := sq y19u fun _ => by kernel_rfl
@[simp] theorem y2d8 : E.pure 75 = true := rfl
theorem y2bo (v0 : AV) : (y8 E).p 75 [v0] = y1ad v0 [⟨0, .dead⟩, ⟨0, .dead⟩, ⟨0, .dead⟩] :=
  (y10 (cf := y25z) (by kernel_rfl) rfl).trans ((y1hc _).trans (by kernel_rfl))
def y1f1 (h : Heap) : OX :=
(yf h (AV.bool false))
def yg2 (s : St) : OX := y1f1 s.h
theorem y1mm : T0 y13b [.t 2] yg2 := fun _ => by kernel_rfl
def ya1 (v5 : AV) (h : Heap) : OX :=
cnd v5
 ((yf h (AV.bool true)))
 ((y1f1 h))
def y24v (s : St) : OX := ya1 (s 5) s.h
theorem y1sy : T1 y126 yg2 (y4 0 yg2 xN) [.t 2] y24v := fun _ => by kernel_rfl
def y15y (v4 : AV) (h : Heap) : OX :=
ob (y5 .eql v4 (AV.int .i64 1)) fun v6 =>
cnd v6
 ((ya1 v6 h))
 (ob (y5 .eql v4 (AV.int .i64 2)) fun v7 =>
cnd v7
 ((ya1 v7 h))
 (ob (y5 .eql v4 (AV.int .i64 3)) fun v8 =>
cnd v8
 ((ya1 v8 h))
 (ob (y5 .eql v4 (AV.int .i64 4)) fun v9 =>
cnd v9
 ((ya1 v9 h))
 (ob (y5 .eql v4 (AV.int .i64 5)) fun v10 =>
cnd v10
 ((ya1 v10 h))
 (ob (y5 .eql v4 (AV.int .i64 6)) fun v11 =>
cnd v11
 ((ya1 v11 h))
 (ob (y5 .eql v4 (AV.int .i64 13)) fun v12 =>
cnd v12
 ((ya1 v12 h))
 (ob (y5 .eql v4 (AV.int .i64 15)) fun v13 =>
cnd v13
 ((ya1 v13 h))
 (ob (y5 .eql v4 (AV.int .i64 16)) fun v14 =>
cnd v14
 ((ya1 v14 h))
 (ob (y5 .eql v4 (AV.int .i64 18)) fun v15 =>
cnd v15
 ((ya1 v15 h))
 (ob (y5 .eql v4 (AV.int .i64 22)) fun v16 =>
(ya1 v16 h)))))))))))
def y1un (s : St) : OX := y15y (s 4) s.h
theorem y1nl : T1 y1cx yg2 (y4 0 yg2 xN) [.t 2] y1un := sq y1sy fun _ => by kernel_rfl
theorem y1p7 : T1 y151 yg2 xN [.t 2] y1un := fun s => yw.trans (y1nl s)
def y1fs (v1 : AV) (h : Heap) : OX :=
ob (evFa 0 v1) fun v3 =>
ob (evLd false 1 v3 h) fun v4 =>
(y15y v4 h)
def y1u6 (s : St) : OX := y1fs (s 1) s.h
theorem y1n6 : T1 y1i8 yg2 xN [.t 2] y1u6 := sq y1p7 fun _ => by kernel_rfl
theorem y1or : T0 y154 [.t 2] y1u6 := sq y1mm y1n6
def y1f3 (v0 : AV) (h : Heap) : OX :=
oh (newC 0 (some 0) (cellsOf v0) h) fun v1 h1 =>
(y1fs v1 h1)
def y24y (s : St) : OX := y1f3 (s 0) s.h
theorem y1on : T0 y1d9 [.t 2] y24y := sq y1or fun _ => by kernel_rfl
@[simp] theorem y2c1 : E.pure 20 = true := rfl
theorem y2cq (v0 : AV) : (y8 E).p 20 [v0] = y1f3 v0 [⟨0, .dead⟩] :=
  (y10 (cf := y27a) (by kernel_rfl) rfl).trans ((y1on _).trans (by kernel_rfl))
def y21s (v0 v1 v2 : AV) (h : Heap) : OX :=
ob (y9f 0 true v0 AV.nilp) fun v8 =>
gb v8 true (some v0) fun v10 =>
gb v8 true (some v0) fun v11 =>
gb v8 true (y1e v11) fun v12 =>
gb v8 true (evFa 1 v12) fun v13 =>
gb v8 true (evLd false 1 v13 h) fun v14 =>
gb v8 true (some v1) fun v15 =>
gb v8 true (some v2) fun v16 =>
gh v8 true (y6 E (y8 E) 0 none true 82 [v10, v14, v15, v16] h) h fun v17 h1 =>
ob (ye v8 v17 (AV.bool false)) fun v18 =>
(yf h1 v18)
def y280 (s : St) : OX := y21s (s 0) (s 1) (s 2) s.h
theorem y1sm : T0 y12q [.t 6] y280 := fun _ => by kernel_rfl
@[simp] theorem y2ay : E.pure 87 = true := rfl
theorem y2dt (v0 v1 v2 : AV) : (y8 E).p 87 [v0, v1, v2] = y21s v0 v1 v2 [] :=
  (y10 (cf := y277) (by kernel_rfl) rfl).trans ((y1sm _).trans (by kernel_rfl))
def y1ip (v5 : AV) (h : Heap) : OX :=
(yf h v5)
def y4i (s : St) : OX := y1ip (s 5) s.h
theorem y1mf : T0 y19z [.t 4] y4i := fun _ => by kernel_rfl
def ymz (v1 v5 v27 v28 v29 : AV) (h : Heap) : OX :=
  W E 0 yjw ⟨[(1, v1), (5, v5), (27, v27), (28, v28), (29, v29)], h⟩ y4i (y4 0 y4i xN) (finP [.t 4])
def y9z (s : St) : OX := ymz (s 1) (s 5) (s 27) (s 28) (s 29) s.h
theorem yl6 : T1 yjw y4i (y4 0 y4i xN) [.t 4] y9z := fun s => yk.trans (by kernel_rfl)
def y0x (v1 v5 v27 v28 v29 : AV) (h : Heap) : OX :=
ob (y5 .add v29 (AV.int .i64 1)) fun v56 =>
(ymz v1 v5 v27 v28 v56 h)
def y9m (s : St) : OX := y0x (s 1) (s 5) (s 27) (s 28) (s 29) s.h
theorem y1mb : T1 y1jm y9z (y4 0 y4i xN) [.t 4] y9m := fun _ => by kernel_rfl
def y09 (v1 v5 v7 v27 v28 v29 : AV) (h : Heap) : OX :=
ob (evFa 3 v7) fun v53 =>
ob (evLd false 1 v53 h) fun v54 =>
ob (y5 .eql v54 (AV.str [])) fun v55 =>
cnd v55
 ((y1ip v5 h))
 ((y0x v1 v5 v27 v28 v29 h))
def y246 (s : St) : OX := y09 (s 1) (s 5) (s 7) (s 27) (s 28) (s 29) s.h
theorem y1q2 : T1 y1bh y9m (y4 1 y9m (y4 0 y4i xN)) [.t 4] y246 := fun _ => by kernel_rfl
def y1pi (v1 v5 v7 v27 v28 v29 : AV) (h : Heap) : OX :=
ob (evFa 2 v7) fun v44 =>
ob (evLd false 1 v44 h) fun v45 =>
oh (y6 E (y8 E) 0 none true 46 [v5, v45] h) fun v46 h1 =>
ob (evUn .not v46) fun v47 =>
cnd v47
 (ob (evFa 2 v7) fun v49 =>
ob (evLd false 1 v49 h1) fun v50 =>
oh (yp 0 (some 2) 1 1 [(.int .i64 0)] [(0, v50)] h1) fun v51 h2 =>
oh (y1y 0 (some 3) 1 8 v5 v51 h2) fun v52 h3 =>
(y09 v1 v52 v7 v27 v28 v29 h3))
 ((y09 v1 v5 v7 v27 v28 v29 h1))
def y295 (s : St) : OX := y1pi (s 1) (s 5) (s 7) (s 27) (s 28) (s 29) s.h
theorem y1rn : T1 y1dq y9m (y4 1 y9m (y4 0 y4i xN)) [.t 4] y295 := sq y1q2 fun _ => by kernel_rfl
def yp4 (v1 v5 v7 v27 v28 v29 : AV) (h : Heap) : OX :=
ob (evFa 0 v7) fun v34 =>
ob (evLd false 1 v34 h) fun v35 =>
ob (y5 .lss v1 v35) fun v36 =>
gb v36 false (some v1) fun v38 =>
gb v36 false (evFa 1 v7) fun v39 =>
gb v36 false (evLd false 1 v39 h) fun v40 =>
gb v36 false (y5 .geq v38 v40) fun v41 =>
ob (ye v36 (AV.bool true) v41) fun v42 =>
cnd v42
 ((y0x v1 v5 v27 v28 v29 h))
 ((y1pi v1 v5 v7 v27 v28 v29 h))
def y24g (s : St) : OX := yp4 (s 1) (s 5) (s 7) (s 27) (s 28) (s 29) s.h
theorem y1qb : T1 y177 y9m (y4 1 y9m (y4 0 y4i xN)) [.t 4] y24g := sq y1rn fun _ => by kernel_rfl
def y1y9 (v1 v5 v27 v28 v29 : AV) (h : Heap) : OX :=
ob (yv 4 v27 v29) fun v31 =>
ob (evLd true 4 v31 h) fun v32 =>
oh (newC 0 (some 1) [(.int .i64 0), (.int .i64 0), (.int .i64 0), (.str [])] h) fun v7 h4 =>
oh (evSt 4 v7 v32 h4) fun _ h5 =>
(yp4 v1 v5 v7 v27 v28 v29 h5)
def y1hq (s : St) : OX := y1y9 (s 1) (s 5) (s 27) (s 28) (s 29) s.h
theorem y1q1 : T1 y19j y9m (y4 1 y9m (y4 0 y4i xN)) [.t 4] y1hq := sq y1qb fun _ => by kernel_rfl
theorem y1lz : T1 y144 y9m (y4 0 y4i xN) [.t 4] y1hq := fun s => yw.trans (y1q1 s)
theorem y1ry : T1 y1j9 y9z (y4 0 y4i xN) [.t 4] y1hq := sq y1mb y1lz
def yq1 (v1 v5 v27 v28 v29 v30 : AV) (h : Heap) : OX :=
cnd v30
 ((y1y9 v1 v5 v27 v28 v29 h))
 ((y1ip v5 h))
def y207 (s : St) : OX := yq1 (s 1) (s 5) (s 27) (s 28) (s 29) (s 30) s.h
theorem y1ck : T1 yul y9z (y4 0 y4i xN) [.t 4] y207 := sq y1ry fun _ => by kernel_rfl
def ymd (v1 v5 v27 v28 v29 : AV) (h : Heap) : OX :=
ob (y5 .lss v29 v28) fun v30 =>
(yq1 v1 v5 v27 v28 v29 v30 h)
def y1xm (s : St) : OX := ymd (s 1) (s 5) (s 27) (s 28) (s 29) s.h
theorem y1ai : T1 yr4 y9z (y4 0 y4i xN) [.t 4] y1xm := sq y1ck fun _ => by kernel_rfl
theorem yn8 (v1 v5 v27 v28 v29 : AV) (h : Heap) : ymz v1 v5 v27 v28 v29 h = (ymd v1 v5 v27 v28 v29 h) :=
  y1w.trans ((y1b _ _ _ (n' := y9z) (fun s => yl6 s)).trans ((y1ai _).trans (by kernel_rfl)))
theorem y14f : T1 yrx y4i xN [.t 4] y9z := fun s => yw.trans (yl6 s)
def y1dp (v1 v2 v5 : AV) (h : Heap) : OX :=
ob (evFa 4 v2) fun v26 =>
ob (evLd false 1 v26 h) fun v27 =>
ob (y14 1 v27 h) fun v28 =>
(ymz v1 v5 v27 v28 (AV.int .i64 0) h)
def y1kg (s : St) : OX := y1dp (s 1) (s 2) (s 5) s.h
theorem y1hi : T1 yqj y4i xN [.t 4] y1kg := sq y14f fun _ => by kernel_rfl
theorem y1l3 : T0 yry [.t 4] y1kg := sq y1mf y1hi
def y1ik (v1 v2 : AV) (h : Heap) : OX :=
(y1dp v1 v2 AV.nils h)
def y208 (s : St) : OX := y1ik (s 1) (s 2) s.h
theorem y1an : T0 ysv [.t 4] y208 := sq y1l3 fun _ => by kernel_rfl
def yhj (v1 v2 : AV) (h : Heap) : OX :=
ob (y5 .lss v1 (AV.int .i64 0)) fun v9 =>
gb v9 false (some v1) fun v11 =>
gb v9 false (evFa 3 v2) fun v12 =>
gb v9 false (evLd false 1 v12 h) fun v13 =>
gb v9 false (y14 1 v13 h) fun v14 =>
gb v9 false (y5 .geq v11 v14) fun v15 =>
ob (ye v9 (AV.bool true) v15) fun v16 =>
gb v16 false (evFa 3 v2) fun v18 =>
gb v16 false (evLd false 1 v18 h) fun v19 =>
gb v16 false (some v1) fun v20 =>
gb v16 false (yv 9 v19 v20) fun v21 =>
gb v16 false (evLd true 9 v21 h) fun v22 =>
gh v16 false (y6 E (y8 E) 0 none true 18 [v22] h) h fun v23 h6 =>
gb v16 false (evUn .not v23) fun v24 =>
ob (ye v16 (AV.bool true) v24) fun v25 =>
cnd v25
 ((yf h6 AV.nils))
 ((y1ik v1 v2 h6))
def y1x9 (s : St) : OX := yhj (s 1) (s 2) s.h
theorem y17f : T0 yw6 [.t 4] y1x9 := sq y1an fun _ => by kernel_rfl
def yjb (v0 v1 : AV) (h : Heap) : OX :=
oh (newC 0 (some 0) (cellsOf v0) h) fun v2 h7 =>
(yhj v1 v2 h7)
def y1zt (s : St) : OX := yjb (s 0) (s 1) s.h
theorem y1g7 : T0 yq8 [.t 4] y1zt := sq y17f fun _ => by kernel_rfl
@[simp] theorem y2ai : E.pure 79 = true := rfl
theorem y2cb (v0 v1 : AV) : (y8 E).p 79 [v0, v1] = yjb v0 v1 [⟨0, .dead⟩, ⟨0, .dead⟩, ⟨0, .dead⟩, ⟨0, .dead⟩] :=
  (y10 (cf := y28o) (by kernel_rfl) rfl).trans ((y1g7 _).trans (by kernel_rfl))
def ygm (v6 : AV) (h : Heap) : OX :=
(yf h v6)
def y29n (s : St) : OX := ygm (s 6) s.h
theorem y1s4 : T0 y18u [.t 4] y29n := fun _ => by kernel_rfl
def ygl (v5 v6 : AV) (h : Heap) : OX :=
ob (evLd true 9 v5 h) fun v29 =>
oh (y6 E (y8 E) 0 none true 22 [v29] h) fun v30 h1 =>
gb v30 true (some v6) fun v32 =>
gb v30 true (evFa 6 v5) fun v33 =>
gb v30 true (evLd false 1 v33 h1) fun v34 =>
gh v30 true (y6 E (y8 E) 0 none true 46 [v32, v34] h1) h1 fun v35 h2 =>
gb v30 true (evUn .not v35) fun v36 =>
ob (ye v30 v36 (AV.bool false)) fun v37 =>
cnd v37
 (ob (evFa 6 v5) fun v39 =>
ob (evLd false 1 v39 h2) fun v40 =>
oh (yp 0 (some 4) 1 1 [(.int .i64 0)] [(0, v40)] h2) fun v41 h3 =>
oh (y1y 0 (some 5) 1 8 v6 v41 h3) fun v42 h4 =>
(ygm v42 h4))
 ((ygm v6 h2))
def y29a (s : St) : OX := ygl (s 5) (s 6) s.h
theorem y1sn : T0 y196 [.t 4] y29a := sq y1s4 fun _ => by kernel_rfl
def ygr (v1 v5 v6 : AV) (h : Heap) : OX :=
ob (evLd true 9 v5 h) fun v21 =>
oh (y6 E (y8 E) 0 none true 24 [v21] h) fun v22 h5 =>
ob (evUn .not v22) fun v23 =>
cnd v23
 (ob (y5 .add v1 (AV.int .i64 1)) fun v26 =>
oh (yp 0 (some 2) 1 1 [(.int .i64 0)] [(0, v26)] h5) fun v27 h6 =>
oh (y1y 0 (some 3) 1 8 v6 v27 h6) fun v28 h7 =>
(ygl v5 v28 h7))
 ((ygl v5 v6 h5))
def y29o (s : St) : OX := ygr (s 1) (s 5) (s 6) s.h
theorem y1pb : T0 y128 [.t 4] y29o := sq y1sn fun _ => by kernel_rfl
def y16o (v1 v5 : AV) (h : Heap) : OX :=
(ygr v1 v5 AV.nils h)
def y27m (s : St) : OX := y16o (s 1) (s 5) s.h
theorem y1q6 : T0 y12j [.t 4] y27m := sq y1pb fun _ => by kernel_rfl
def y1eb (v1 v2 : AV) (h : Heap) : OX :=
ob (evFa 3 v2) fun v16 =>
ob (evLd false 1 v16 h) fun v17 =>
ob (yv 9 v17 v1) fun v19 =>
ob (evLd true 9 v19 h) fun v20 =>
oh (newC 0 (some 1) [(.int .i64 0), (.int .i64 0), (.int .i64 0), (.int .i64 0), (.int .i64 0), (.int .i64 0), (.int .i64 0), (.str []), .nils] h) fun v5 h8 =>
oh (evSt 9 v5 v20 h8) fun _ h9 =>
(y16o v1 v5 h9)
def y25t (s : St) : OX := y1eb (s 1) (s 2) s.h
theorem y1py : T0 y12w [.t 4] y25t := sq y1q6 fun _ => by kernel_rfl
def y1ka (v1 v2 : AV) (h : Heap) : OX :=
ob (y5 .lss v1 (AV.int .i64 0)) fun v8 =>
gb v8 false (some v1) fun v10 =>
gb v8 false (evFa 3 v2) fun v11 =>
gb v8 false (evLd false 1 v11 h) fun v12 =>
gb v8 false (y14 1 v12 h) fun v13 =>
gb v8 false (y5 .geq v10 v13) fun v14 =>
ob (ye v8 (AV.bool true) v14) fun v15 =>
cnd v15
 ((yf h AV.nils))
 ((y1eb v1 v2 h))
def y25b (s : St) : OX := y1ka (s 1) (s 2) s.h
theorem y1pk : T0 y15z [.t 4] y25b := sq y1py fun _ => by kernel_rfl
def y0e (v0 v1 : AV) (h : Heap) : OX :=
oh (newC 0 (some 0) (cellsOf v0) h) fun v2 h10 =>
(y1ka v1 v2 h10)
def y26w (s : St) : OX := y0e (s 0) (s 1) s.h
theorem y1nq : T0 y1kp [.t 4] y26w := sq y1pk fun _ => by kernel_rfl
@[simp] theorem y2d1 : E.pure 81 = true := rfl
theorem y2bs (v0 v1 : AV) : (y8 E).p 81 [v0, v1] = y0e v0 v1 [⟨0, .dead⟩, ⟨0, .dead⟩, ⟨0, .dead⟩, ⟨0, .dead⟩, ⟨0, .dead⟩, ⟨0, .dead⟩] :=
  (y10 (cf := y294) (by kernel_rfl) rfl).trans ((y1nq _).trans (by kernel_rfl))
def y15m (v0 : AV) (h : Heap) : OX :=
oh (yp 0 (some 0) 1 3 [(.int .i64 0)] [(0, (AV.int .i64 27)), (1, (AV.int .i64 30)), (2, (AV.int .i64 31))] h) fun v4 h1 =>
oh (y6 E (y8 E) 0 none true 42 [v0, v4] h1) fun v5 h2 =>
(yf h2 v5)
def y226 (s : St) : OX := y15m (s 0) s.h
theorem y1bg : T0 yqk [.t 2] y226 := fun _ => by kernel_rfl
@[simp] theorem y2c0 : E.pure 25 = true := rfl
theorem y299 (v0 : AV) : (y8 E).p 25 [v0] = y15m v0 [⟨0, .dead⟩] :=
  (y10 (cf := y1v3) (by kernel_rfl) rfl).trans ((y1bg _).trans (by kernel_rfl))
def ylx (v1 v2 : AV) (h : Heap) : OX :=
ob (evFa 0 v2) fun v14 =>
ob (evLd false 1 v14 h) fun v15 =>
ob (yv 1 v15 v1) fun v17 =>
ob (evLd false 1 v17 h) fun v18 =>
(yf h v18)
def y20w (s : St) : OX := ylx (s 1) (s 2) s.h
theorem y1ia : T0 ytu [.t 4] y20w := fun _ => by kernel_rfl
def ymg (v1 v2 : AV) (h : Heap) : OX :=
ob (y5 .lss v1 (AV.int .i64 0)) fun v6 =>
gb v6 false (some v1) fun v8 =>
gb v6 false (evFa 0 v2) fun v9 =>
gb v6 false (evLd false 1 v9 h) fun v10 =>
gb v6 false (y14 1 v10 h) fun v11 =>
gb v6 false (y5 .geq v8 v11) fun v12 =>
ob (ye v6 (AV.bool true) v12) fun v13 =>
cnd v13
 ((yf h (AV.int .i64 0)))
 ((ylx v1 v2 h))
def y22j (s : St) : OX := ymg (s 1) (s 2) s.h
theorem y1ij : T0 yxk [.t 4] y22j := sq y1ia fun _ => by kernel_rfl
def ym1 (v0 v1 : AV) (h : Heap) : OX :=
oh (newC 0 (some 0) (cellsOf v0) h) fun v2 h1 =>
(ymg v1 v2 h1)
def y21n (s : St) : OX := ym1 (s 0) (s 1) s.h
theorem y15u : T0 ywq [.t 4] y21n := sq y1ij fun _ => by kernel_rfl
@[simp] theorem y2dj : E.pure 48 = true := rfl
theorem y23y (v0 v1 : AV) : (y8 E).p 48 [v0, v1] = ym1 v0 v1 [⟨0, .dead⟩] :=
  (y10 (cf := y1vc) (by kernel_rfl) rfl).trans ((y15u _).trans (by kernel_rfl))
def yhp (h : Heap) : OX :=
(yf h (AV.bool false))
def y5p (s : St) : OX := yhp s.h
theorem y19t : T0 ysl [.t 4] y5p := fun _ => by kernel_rfl
def yev (v0 v1 v5 : AV) (h : Heap) : OX :=
  W E 0 yg0 ⟨[(0, v0), (1, v1), (5, v5)], h⟩ y5p (y4 0 y5p xN) (finP [.t 4])
def y90 (s : St) : OX := yev (s 0) (s 1) (s 5) s.h
theorem yhv : T1 yg0 y5p (y4 0 y5p xN) [.t 4] y90 := fun s => yk.trans (by kernel_rfl)
def yhq (v0 v1 v5 : AV) (h : Heap) : OX :=
ob (y5 .add v5 (AV.int .i64 1)) fun v11 =>
(yev v0 v1 v11 h)
def y1vk (s : St) : OX := yhq (s 0) (s 1) (s 5) s.h
theorem y1dn : T1 yvo y90 (y4 0 y5p xN) [.t 4] y1vk := fun _ => by kernel_rfl
def yid (v0 v1 v5 : AV) (h : Heap) : OX :=
ob (yv 1 v1 v5) fun v14 =>
ob (evLd false 1 v14 h) fun v15 =>
ob (y5 .eql v15 v0) fun v17 =>
cnd v17
 ((yf h (AV.bool true)))
 ((yhq v0 v1 v5 h))
def y1zd (s : St) : OX := yid (s 0) (s 1) (s 5) s.h
theorem y1dg : T1 yzk y90 (y4 0 y5p xN) [.t 4] y1zd := sq y1dn fun _ => by kernel_rfl
def yja (v0 v1 v5 : AV) (h : Heap) : OX :=
ob (y14 1 v1 h) fun v8 =>
ob (y5 .lss v5 v8) fun v9 =>
cnd v9
 ((yid v0 v1 v5 h))
 ((yhp h))
def y1zn (s : St) : OX := yja (s 0) (s 1) (s 5) s.h
theorem y16w : T1 yx5 y90 (y4 0 y5p xN) [.t 4] y1zn := sq y1dg fun _ => by kernel_rfl
theorem yhx (v0 v1 v5 : AV) (h : Heap) : yev v0 v1 v5 h = (yja v0 v1 v5 h) :=
  y1w.trans ((y1b _ _ _ (n' := y90) (fun s => yhv s)).trans ((y16w _).trans (by kernel_rfl)))
theorem y1g0 : T1 yx9 y5p xN [.t 4] y90 := fun s => yw.trans (yhv s)
def yi1 (v0 v1 : AV) (h : Heap) : OX :=
(yev v0 v1 (AV.int .i64 0) h)
def y14v (s : St) : OX := yi1 (s 0) (s 1) s.h
theorem y19p : T1 yuo y5p xN [.t 4] y14v := sq y1g0 fun _ => by kernel_rfl
theorem y185 : T0 yx6 [.t 4] y14v := sq y19t y19p
def yhh (v0 v1 : AV) (h : Heap) : OX :=
(yi1 v0 v1 h)
def y1yi (s : St) : OX := yhh (s 0) (s 1) s.h
theorem y180 : T0 ywu [.t 4] y1yi := sq y185 fun _ => by kernel_rfl
@[simp] theorem y2b6 : E.pure 42 = true := rfl
theorem y245 (v0 v1 : AV) : (y8 E).p 42 [v0, v1] = yhh v0 v1 [] :=
  (y10 (cf := y1to) (by kernel_rfl) rfl).trans ((y180 _).trans (by kernel_rfl))
end
end Go.Vm
