/- Functions of the machine as plain functions that go on with what follows. -/
import Derived.Test.YtgbajicpokolcaaWEnv
set_option linter.unusedSimpArgs false
set_option linter.unusedVariables false
set_option linter.unusedSectionVars false
namespace Go.Vm
noncomputable section
def y1tl (v8 : AV) (h : Heap) : OX :=
ob (evFa 3 v8) fun v90 =>
ob (evLd false 1 v90 h) fun v91 =>
ob (yi 9 v91 (AV.int .i64 4)) fun v92 =>
ob (evFa 0 v92) fun v93 =>
ob (evLd false 1 v93 h) fun v94 =>
ob (y2 .eql v94 (AV.int .i64 33)) fun v95 =>
gb v95 true (evLd true 5 v8 h) fun v97 =>
gh v95 true (y4 E (y5 E) 0 none true 100 [v97] h) h fun v98 h1 =>
gb v95 true (y1g5 false 3 1 v98) fun v99 =>
gb v95 true (yy 1 v99 h1) fun v100 =>
gb v95 true (y2 .eql v100 (AV.int .i64 5)) fun v101 =>
ob (y9 v95 v101 (AV.bool false)) fun v102 =>
(y7 h1 v102)
def y205 (s : St) : OX := y1tl (s 8) s.h
theorem y1mm : T0 y1dh [.t 6] y205 := fun _ => by kernel_rfl
def y1h1 (v8 v9 : AV) (h : Heap) : OX :=
cnd v9
 (ob (evFa 3 v8) fun v69 =>
ob (evLd false 1 v69 h) fun v70 =>
ob (yi 9 v70 (AV.int .i64 4)) fun v71 =>
ob (evFa 0 v71) fun v72 =>
ob (evLd false 1 v72 h) fun v73 =>
ob (y2 .eql v73 (AV.int .i64 27)) fun v74 =>
gb v74 true (evFa 3 v8) fun v76 =>
gb v74 true (evLd false 1 v76 h) fun v77 =>
gb v74 true (yi 9 v77 (AV.int .i64 4)) fun v78 =>
gb v74 true (evFa 6 v78) fun v79 =>
gb v74 true (evLd false 1 v79 h) fun v80 =>
gb v74 true (y2 .eql v80 (AV.int .i64 6)) fun v81 =>
ob (y9 v74 v81 (AV.bool false)) fun v82 =>
gb v82 true (evLd true 5 v8 h) fun v84 =>
gh v82 true (y4 E (y5 E) 0 none true 100 [v84] h) h fun v85 h2 =>
gb v82 true (y1g5 false 3 1 v85) fun v86 =>
gb v82 true (yy 1 v86 h2) fun v87 =>
gb v82 true (y2 .eql v87 (AV.int .i64 6)) fun v88 =>
ob (y9 v82 v88 (AV.bool false)) fun v89 =>
(y7 h2 v89))
 ((y1tl v8 h))
def y211 (s : St) : OX := y1h1 (s 8) (s 9) s.h
theorem y1hh : T0 y11z [.t 6] y211 := sq y1mm fun _ => by kernel_rfl
def yx9 (v8 v9 : AV) (h : Heap) : OX :=
ob (evFa 3 v8) fun v54 =>
ob (evLd false 1 v54 h) fun v55 =>
ob (yi 9 v55 (AV.int .i64 2)) fun v56 =>
ob (evFa 0 v56) fun v57 =>
ob (evLd false 1 v57 h) fun v58 =>
ob (y2 .neq v58 (AV.int .i64 7)) fun v59 =>
gb v59 false (evFa 3 v8) fun v61 =>
gb v59 false (evLd false 1 v61 h) fun v62 =>
gb v59 false (yi 9 v62 (AV.int .i64 3)) fun v63 =>
gb v59 false (evFa 0 v63) fun v64 =>
gb v59 false (evLd false 1 v64 h) fun v65 =>
gb v59 false (y2 .neq v65 (AV.int .i64 10)) fun v66 =>
ob (y9 v59 (AV.bool true) v66) fun v67 =>
cnd v67
 ((y7 h (AV.bool false)))
 ((y1h1 v8 v9 h))
def y1wr (s : St) : OX := yx9 (s 8) (s 9) s.h
theorem y1is : T0 y1ao [.t 6] y1wr := sq y1hh fun _ => by kernel_rfl
def y1ma (v0 v1 v2 v8 : AV) (h : Heap) : OX :=
ob (y2 .eql v1 v2) fun v35 =>
ob (y2 .neq v1 v2) fun v38 =>
ob (y2 .lss v1 v2) fun v41 =>
ob (y2 .geq v1 v2) fun v44 =>
ob (y2 .gtr v1 v2) fun v47 =>
ob (y2 .leq v1 v2) fun v50 =>
ob (yb [(.bool false), (.bool false), (.bool false), (.bool false), (.bool false), (.bool false)] [(0, 1, v35), (1, 1, v38), (2, 1, v41), (3, 1, v44), (4, 1, v47), (5, 1, v50)]) fun v51 =>
ob (yf9 false 6 1 v51 v0) fun v53 =>
(yx9 v8 v53 h)
def y1xo (s : St) : OX := y1ma (s 0) (s 1) (s 2) (s 8) s.h
theorem y1ji : T0 y1bq [.t 6] y1xo := sq y1is fun _ => by kernel_rfl
def y1ph (v0 v1 v2 v7 : AV) (h : Heap) : OX :=
ob (evLd true 5 v7 h) fun v31 =>
oh (y4 E (y5 E) 0 none true 125 [v31] h) fun v32 h3 =>
oh (newC 0 (some 3) [.nils, .nils, (.int .i64 0), .nils, .nils] h3) fun v8 h4 =>
oh (evSt 5 v8 v32 h4) fun _ h5 =>
(y1ma v0 v1 v2 v8 h5)
def y1zd (s : St) : OX := y1ph (s 0) (s 1) (s 2) (s 7) s.h
theorem y1mr : T0 y19r [.t 6] y1zd := sq y1ji fun _ => by kernel_rfl
def y1r1 (v0 v1 v2 : AV) (h : Heap) : OX :=
oh (y14 0 (some 0) 1 2 [(.int .i64 0)] [(0, (AV.int .i64 1)), (1, (AV.int .i64 1))] h) fun v16 h6 =>
ob (y2q .i64 v1) fun v18 =>
ob (yb [(.int .i64 0), (.int .i64 0), (.int .i64 0), (.int .i64 0), (.int .i64 0), (.int .i64 0), (.int .i64 0), (.str []), .nils] [(0, 1, (AV.int .i64 1)), (1, 1, (AV.int .i64 0)), (5, 1, v18)]) fun v19 =>
ob (y2q .i64 v2) fun v21 =>
ob (yb [(.int .i64 0), (.int .i64 0), (.int .i64 0), (.int .i64 0), (.int .i64 0), (.int .i64 0), (.int .i64 0), (.str []), .nils] [(0, 1, (AV.int .i64 1)), (1, 1, (AV.int .i64 1)), (5, 1, v21)]) fun v22 =>
ob (yb [(.int .i64 0), (.int .i64 0), (.int .i64 0), (.int .i64 0), (.int .i64 0), (.int .i64 0), (.int .i64 0), (.str []), .nils] [(0, 1, (AV.int .i64 7)), (2, 1, (AV.int .i64 0))]) fun v23 =>
ob (yb [(.int .i64 0), (.int .i64 0), (.int .i64 0), (.int .i64 0), (.int .i64 0), (.int .i64 0), (.int .i64 0), (.str []), .nils] [(0, 1, (AV.int .i64 10)), (2, 1, (AV.int .i64 1))]) fun v24 =>
ob (yb [(.int .i64 0), (.int .i64 0), (.int .i64 0), (.int .i64 0), (.int .i64 0), (.int .i64 0), (.int .i64 0), (.str []), .nils] [(0, 1, (AV.int .i64 28)), (5, 1, v0), (2, 1, (AV.int .i64 0)), (3, 1, (AV.int .i64 1)), (6, 1, (AV.int .i64 6))]) fun v26 =>
ob (yb [(.int .i64 0), (.int .i64 0), (.int .i64 0), (.int .i64 0), (.int .i64 0), (.int .i64 0), (.int .i64 0), (.str []), .nils] [(0, 1, (AV.int .i64 30)), (2, 1, (AV.int .i64 0))]) fun v27 =>
ob (yb [(.int .i64 0), (.int .i64 0), (.int .i64 0), (.int .i64 0), (.int .i64 0), (.int .i64 0), (.int .i64 0), (.str []), .nils] [(0, 1, (AV.int .i64 30)), (2, 1, (AV.int .i64 1))]) fun v28 =>
oh (y14 0 (some 1) 9 7 [(.int .i64 0), (.int .i64 0), (.int .i64 0), (.int .i64 0), (.int .i64 0), (.int .i64 0), (.int .i64 0), (.str []), .nils] [(0, v19), (1, v22), (2, v23), (3, v24), (4, v26), (5, v27), (6, v28)] h6) fun v29 h7 =>
ob (yb [.nils, .nils, (.int .i64 0), .nils, .nils] [(0, 1, v16), (2, 1, (AV.int .i64 1)), (3, 1, v29)]) fun v30 =>
oh (newC 0 (some 2) [.nils, .nils, (.int .i64 0), .nils, .nils] h7) fun v7 h8 =>
oh (evSt 5 v7 v30 h8) fun _ h9 =>
(y1ph v0 v1 v2 v7 h9)
def y1zt (s : St) : OX := y1r1 (s 0) (s 1) (s 2) s.h
theorem y1hf : T0 y12o [.t 6] y1zt := sq y1mr fun _ => by kernel_rfl
def y1qn (v0 v1 v2 : AV) (h : Heap) : OX :=
ob (y2 .rem v0 (AV.int .i64 6)) fun v13 =>
ob (y2 .add v13 (AV.int .i64 6)) fun v14 =>
ob (y2 .rem v14 (AV.int .i64 6)) fun v15 =>
(y1r1 v15 v1 v2 h)
def y1wt (s : St) : OX := y1qn (s 0) (s 1) (s 2) s.h
theorem y1ly : T0 y13z [.t 6] y1wt := sq y1hf fun _ => by kernel_rfl
def y1tk (v0 v1 v2 : AV) (h : Heap) : OX :=
oh (y4 E (y5 E) 0 none true 124 [] h) fun v10 h10 =>
ob (evUn .not v10) fun v11 =>
cnd v11
 ((y7 h10 (AV.bool false)))
 ((y1qn v0 v1 v2 h10))
def y1xy (s : St) : OX := y1tk (s 0) (s 1) (s 2) s.h
theorem y1nk : T0 y17h [.t 6] y1xy := sq y1ly fun _ => by kernel_rfl
def y1kr (v0 v1 v2 : AV) (h : Heap) : OX :=
(y1tk v0 v1 v2 h)
def y20g (s : St) : OX := y1kr (s 0) (s 1) (s 2) s.h
theorem y1kt : T0 y19i [.t 6] y20g := sq y1nk fun _ => by kernel_rfl
@[simp] theorem y22p : E.pure 122 = true := rfl
theorem y256 (v0 v1 v2 : AV) : (y5 E).p 122 [v0, v1, v2] = y1kr v0 v1 v2 [⟨0, .dead⟩, ⟨0, .dead⟩, ⟨0, .dead⟩, ⟨0, .dead⟩] :=
  (y10 (cf := y212) (by kernel_rfl) rfl).trans ((y1kt _).trans (by kernel_rfl))
def y143 (v2 v3 : AV) (h : Heap) : OX :=
ob (evLd true 5 v3 h) fun v39 =>
oh (evSt 5 v2 v39 h) fun _ h1 =>
(ob (evLd true 5 v2 h1) fun r0 =>
  y7 h1 r0)
def y7x (s : St) : OX := y143 (s 2) (s 3) s.h
theorem y1ip : T0 y14b [.cell 2 true 5] y7x := fun _ => by kernel_rfl
def yko (v2 v3 v22 v23 : AV) (h : Heap) : OX :=
  W E 0 yjh ⟨[(2, v2), (3, v3), (22, v22), (23, v23)], h⟩ y7x (y1 0 y7x xN) (finP [.cell 2 true 5])
def y9n (s : St) : OX := yko (s 2) (s 3) (s 22) (s 23) s.h
theorem ylq : T1 yjh y7x (y1 0 y7x xN) [.cell 2 true 5] y9n := fun s => yf.trans (by kernel_rfl)
def y1qt (v2 v3 v22 v23 : AV) (h : Heap) : OX :=
ob (y2 .add v23 (AV.int .i64 1)) fun v38 =>
(yko v2 v3 v22 v38 h)
def y21p (s : St) : OX := y1qt (s 2) (s 3) (s 22) (s 23) s.h
theorem y1ky : T1 y1ga y9n (y1 0 y7x xN) [.cell 2 true 5] y21p := fun _ => by kernel_rfl
def y1qx (v2 v3 v22 v23 : AV) (h : Heap) : OX :=
ob (evFa 3 v3) fun v26 =>
ob (evLd false 1 v26 h) fun v27 =>
ob (evFa 3 v3) fun v29 =>
ob (evLd false 1 v29 h) fun v30 =>
ob (yi 9 v30 v23) fun v32 =>
ob (evFa 8 v32) fun v33 =>
ob (evLd false 1 v33 h) fun v34 =>
ofp (y55 E (y5 E) 0 none true 39 [v34] h) fun f9 =>
oh (y4 E (y5 E) 0 none true 39 [v34] h) fun v35 h2 =>
ob (yi 9 v27 v23) fun v36 =>
ob (evFa 8 v36) fun v37 =>
oh (evSt 1 v37 v35 h2) fun _ h3 =>
okK (yp [([], []), (ids1 v26, []), ([], []), ([], []), (ids1 v29, []), ([], []), ([], []), ([], []), (ids1 v33, []), f9, ([], []), ([], []), ([], ids1 v37)] [(1, 9)]) <|
(y1qt v2 v3 v22 v23 h3)
def y1y1 (s : St) : OX := y1qx (s 2) (s 3) (s 22) (s 23) s.h
theorem y1lr : T1 y11y y9n (y1 0 y7x xN) [.cell 2 true 5] y1y1 := sq y1ky fun _ => by kernel_rfl
def y1im (v2 v3 v22 v23 v24 : AV) (h : Heap) : OX :=
cnd v24
 ((y1qx v2 v3 v22 v23 h))
 ((y143 v2 v3 h))
def y222 (s : St) : OX := y1im (s 2) (s 3) (s 22) (s 23) (s 24) s.h
theorem y1kd : T1 y1be y9n (y1 0 y7x xN) [.cell 2 true 5] y222 := sq y1lr fun _ => by kernel_rfl
def y1ie (v2 v3 v22 v23 : AV) (h : Heap) : OX :=
ob (y2 .lss v23 v22) fun v24 =>
(y1im v2 v3 v22 v23 v24 h)
def y20c (s : St) : OX := y1ie (s 2) (s 3) (s 22) (s 23) s.h
theorem y1k1 : T1 y18l y9n (y1 0 y7x xN) [.cell 2 true 5] y20c := sq y1kd fun _ => by kernel_rfl
theorem ylb (v2 v3 v22 v23 : AV) (h : Heap) : yko v2 v3 v22 v23 h = (y1ie v2 v3 v22 v23 h) :=
  y2b.trans ((y1h _ _ _ (n' := y9n) (fun s => ylq s)).trans ((y1k1 _).trans (by kernel_rfl)))
theorem y1n7 : T1 y19e y7x xN [.cell 2 true 5] y9n := fun s => yk.trans (ylq s)
def y1af (v2 v3 : AV) (h : Heap) : OX :=
ob (evFa 3 v3) fun v20 =>
ob (evLd false 1 v20 h) fun v21 =>
ob (yy 1 v21 h) fun v22 =>
(yko v2 v3 v22 (AV.int .i64 0) h)
def y1o3 (s : St) : OX := y1af (s 2) (s 3) s.h
theorem y1m7 : T1 y120 y7x xN [.cell 2 true 5] y1o3 := sq y1n7 fun _ => by kernel_rfl
theorem y1j0 : T0 y127 [.cell 2 true 5] y1o3 := sq y1ip y1m7
def yle (v1 v2 : AV) (h : Heap) : OX :=
ob (evFa 0 v1) fun v5 =>
ob (evLd false 1 v5 h) fun v6 =>
ofp (y55 E (y5 E) 0 (some 2) false 39 [v6] h) fun f2 =>
oh (y4 E (y5 E) 0 (some 2) false 39 [v6] h) fun v7 h4 =>
ob (evFa 1 v1) fun v8 =>
ob (evLd false 1 v8 h4) fun v9 =>
ofp (y55 E (y5 E) 0 (some 3) false 39 [v9] h4) fun f5 =>
oh (y4 E (y5 E) 0 (some 3) false 39 [v9] h4) fun v10 h5 =>
ob (evFa 2 v1) fun v11 =>
ob (evLd false 1 v11 h5) fun v12 =>
ob (evFa 3 v1) fun v13 =>
ob (evLd false 1 v13 h5) fun v14 =>
ofp (y55 E (y5 E) 0 (some 4) false 40 [v14] h5) fun f10 =>
oh (y4 E (y5 E) 0 (some 4) false 40 [v14] h5) fun v15 h6 =>
ob (evFa 4 v1) fun v16 =>
ob (evLd false 1 v16 h6) fun v17 =>
ofp (y55 E (y5 E) 0 (some 5) false 41 [v17] h6) fun f13 =>
oh (y4 E (y5 E) 0 (some 5) false 41 [v17] h6) fun v18 h7 =>
ob (yb [.nils, .nils, (.int .i64 0), .nils, .nils] [(0, 1, v7), (1, 1, v10), (2, 1, v12), (3, 1, v15), (4, 1, v18)]) fun v19 =>
oh (newC 0 (some 6) [.nils, .nils, (.int .i64 0), .nils, .nils] h7) fun v3 h8 =>
oh (evSt 5 v3 v19 h8) fun _ h9 =>
okK (yp [([], []), (ids1 v5, []), f2, ([], []), (ids1 v8, []), f5, ([], []), (ids1 v11, []), ([], []), (ids1 v13, []), f10, ([], []), (ids1 v16, []), f13, ([], []), ([], [0 + 6]), ([], ids1 v3)] [(2, 4), (2, 7), (5, 7), (2, 9), (5, 9), (7, 10), (2, 12), (5, 12), (10, 12), (7, 13), (1, 15), (2, 15), (4, 15), (5, 15), (7, 15), (9, 15), (10, 15), (12, 15), (13, 15)]) <|
(y1af v2 v3 h9)
def y1q9 (s : St) : OX := yle (s 1) (s 2) s.h
theorem y1ar : T0 yuj [.cell 2 true 5] y1q9 := sq y1j0 fun _ => by kernel_rfl
def yvg (v0 : AV) (h : Heap) : OX :=
oh (newC 0 (some 0) (cellsOf v0) h) fun v1 h10 =>
oh (newC 0 (some 1) [.nils, .nils, (.int .i64 0), .nils, .nils] h10) fun v2 h11 =>
(yle v1 v2 h11)
def y1s9 (s : St) : OX := yvg (s 0) s.h
theorem y15v : T0 ysy [.cell 2 true 5] y1s9 := sq y1ar fun _ => by kernel_rfl
@[simp] theorem y244 : E.pure 13 = true := rfl
theorem y23n (v0 : AV) : (y5 E).p 13 [v0] = yvg v0 [⟨0, .dead⟩, ⟨0, .dead⟩, ⟨0, .dead⟩, ⟨0, .dead⟩, ⟨0, .dead⟩, ⟨0, .dead⟩, ⟨0, .dead⟩] :=
  (y10 (cf := y20w) (by kernel_rfl) rfl).trans ((y15v _).trans (by kernel_rfl))
def y1q8 (h : Heap) : OX :=
(y7 h (AV.int .i64 0))
def y87 (s : St) : OX := y1q8 s.h
theorem y1mw : T0 y0t [.t 2] y87 := fun _ => by kernel_rfl
def yh5 (v1 v3 v136 v137 v138 : AV) (h : Heap) : OX :=
  W E 0 yip ⟨[(1, v1), (3, v3), (136, v136), (137, v137), (138, v138)], h⟩ y87 (y1 6 y87 xN) (finP [.t 2])
def y9r (s : St) : OX := yh5 (s 1) (s 3) (s 136) (s 137) (s 138) s.h
theorem yjy : T1 yip y87 (y1 6 y87 xN) [.t 2] y9r := fun s => yf.trans (by kernel_rfl)
def y1v2 (v1 v3 v136 v137 v138 : AV) (h : Heap) : OX :=
ob (y2 .add v138 (AV.int .i64 1)) fun v179 =>
(yh5 v1 v3 v136 v137 v179 h)
def y1y5 (s : St) : OX := y1v2 (s 1) (s 3) (s 136) (s 137) (s 138) s.h
theorem y1me : T1 y14y y9r (y1 6 y87 xN) [.t 2] y1y5 := fun _ => by kernel_rfl
def yjm (v1 v3 v136 v137 v138 : AV) (h : Heap) : OX :=
ob (yi 4 v136 v138) fun v140 =>
ob (evLd true 4 v140 h) fun v141 =>
oh (newC 0 (some 2) [(.int .i64 0), (.int .i64 0), (.int .i64 0), (.str [])] h) fun v11 h1 =>
oh (evSt 4 v11 v141 h1) fun _ h2 =>
ob (evFa 0 v11) fun v142 =>
ob (evLd false 1 v142 h2) fun v143 =>
ob (y2 .lss v143 (AV.int .i64 0)) fun v144 =>
gb v144 false (evFa 0 v11) fun v146 =>
gb v144 false (evLd false 1 v146 h2) fun v147 =>
gb v144 false (evFa 1 v11) fun v148 =>
gb v144 false (evLd false 1 v148 h2) fun v149 =>
gb v144 false (y2 .geq v147 v149) fun v150 =>
ob (y9 v144 (AV.bool true) v150) fun v151 =>
gb v151 false (evFa 1 v11) fun v153 =>
gb v151 false (evLd false 1 v153 h2) fun v154 =>
gb v151 false (some v3) fun v155 =>
gb v151 false (y2 .gtr v154 v155) fun v156 =>
ob (y9 v151 (AV.bool true) v156) fun v157 =>
gb v157 false (evFa 2 v11) fun v159 =>
gb v157 false (evLd false 1 v159 h2) fun v160 =>
gb v157 false (y2 .lss v160 (AV.int .i64 0)) fun v161 =>
ob (y9 v157 (AV.bool true) v161) fun v162 =>
gb v162 false (evFa 2 v11) fun v164 =>
gb v162 false (evLd false 1 v164 h2) fun v165 =>
gb v162 false (some v3) fun v166 =>
gb v162 false (y2 .geq v165 v166) fun v167 =>
ob (y9 v162 (AV.bool true) v167) fun v168 =>
gb v168 false (evFa 3 v1) fun v170 =>
gb v168 false (evLd false 1 v170 h2) fun v171 =>
gb v168 false (evFa 2 v11) fun v172 =>
gb v168 false (evLd false 1 v172 h2) fun v173 =>
gb v168 false (yi 9 v171 v173) fun v174 =>
gb v168 false (evFa 0 v174) fun v175 =>
gb v168 false (evLd false 1 v175 h2) fun v176 =>
gb v168 false (y2 .neq v176 (AV.int .i64 32)) fun v177 =>
ob (y9 v168 (AV.bool true) v177) fun v178 =>
cnd v178
 ((y7 h2 (AV.int .i64 80)))
 ((y1v2 v1 v3 v136 v137 v138 h2))
def y1yf (s : St) : OX := yjm (s 1) (s 3) (s 136) (s 137) (s 138) s.h
theorem y1hb : T1 y146 y9r (y1 6 y87 xN) [.t 2] y1yf := sq y1me fun _ => by kernel_rfl
def y1hz (v1 v3 v136 v137 v138 v139 : AV) (h : Heap) : OX :=
cnd v139
 ((yjm v1 v3 v136 v137 v138 h))
 ((y1q8 h))
def y20h (s : St) : OX := y1hz (s 1) (s 3) (s 136) (s 137) (s 138) (s 139) s.h
theorem y1lh : T1 y117 y9r (y1 6 y87 xN) [.t 2] y20h := sq y1hb fun _ => by kernel_rfl
def y1l9 (v1 v3 v136 v137 v138 : AV) (h : Heap) : OX :=
ob (y2 .lss v138 v137) fun v139 =>
(y1hz v1 v3 v136 v137 v138 v139 h)
def y1yv (s : St) : OX := y1l9 (s 1) (s 3) (s 136) (s 137) (s 138) s.h
theorem y1kw : T1 y1cv y9r (y1 6 y87 xN) [.t 2] y1yv := sq y1lh fun _ => by kernel_rfl
theorem yk9 (v1 v3 v136 v137 v138 : AV) (h : Heap) : yh5 v1 v3 v136 v137 v138 h = (y1l9 v1 v3 v136 v137 v138 h) :=
  y2b.trans ((y1h _ _ _ (n' := y9r) (fun s => yjy s)).trans ((y1kw _).trans (by kernel_rfl)))
theorem y1hp : T1 y19z y87 xN [.t 2] y9r := fun s => yk.trans (yjy s)
def y1fe (v1 v3 : AV) (h : Heap) : OX :=
ob (evFa 4 v1) fun v135 =>
ob (evLd false 1 v135 h) fun v136 =>
ob (yy 1 v136 h) fun v137 =>
(yh5 v1 v3 v136 v137 (AV.int .i64 0) h)
def y4a (s : St) : OX := y1fe (s 1) (s 3) s.h
theorem y1no : T1 y1bn y87 xN [.t 2] y4a := sq y1hp fun _ => by kernel_rfl
theorem y1lf : T0 yzi [.t 2] y4a := sq y1mw y1no
def ybw (v1 v3 v92 v93 v94 : AV) (h : Heap) : OX :=
  W E 0 ye7 ⟨[(1, v1), (3, v3), (92, v92), (93, v93), (94, v94)], h⟩ y4a (y1 4 y4a xN) (finP [.t 2])
def y6m (s : St) : OX := ybw (s 1) (s 3) (s 92) (s 93) (s 94) s.h
theorem yib : T1 ye7 y4a (y1 4 y4a xN) [.t 2] y6m := fun s => yf.trans (by kernel_rfl)
def yor (v1 v3 v92 v93 v94 : AV) (h : Heap) : OX :=
ob (y2 .add v94 (AV.int .i64 1)) fun v134 =>
(ybw v1 v3 v92 v93 v134 h)
def y7v (s : St) : OX := yor (s 1) (s 3) (s 92) (s 93) (s 94) s.h
theorem y1b7 : T1 ys7 y6m (y1 4 y4a xN) [.t 2] y7v := fun _ => by kernel_rfl
def y95 (v1 v3 v8 v9 v92 v93 v94 : AV) (h : Heap) : OX :=
ob (evFa 0 v9) fun v103 =>
ob (evLd false 1 v103 h) fun v104 =>
ob (y2 .eql v104 (AV.int .i64 32)) fun v105 =>
gb v105 true (some v8) fun v107 =>
gb v105 true (y2 .eql v107 (AV.int .i64 0)) fun v108 =>
gb v105 true (some v108) fun v109 =>
gb v109 false (evFa 3 v1) fun v110 =>
gb v109 false (evLd false 1 v110 h) fun v111 =>
gb v109 false (some v8) fun v112 =>
gb v109 false (y2 .sub v112 (AV.int .i64 1)) fun v113 =>
gb v109 false (yi 9 v111 v113) fun v114 =>
gb v109 false (evLd true 9 v114 h) fun v115 =>
gh v109 false (y4 E (y5 E) 0 none true 24 [v115] h) h fun v116 h3 =>
gb v109 false (evUn .not v116) fun v117 =>
gb v105 true (y9 v109 (AV.bool true) v117) fun v118 =>
ob (y9 v105 v118 (AV.bool false)) fun v119 =>
gb v119 false (evLd true 9 v9 h3) fun v121 =>
gh v119 false (y4 E (y5 E) 0 none true 22 [v121] h3) h3 fun v122 h4 =>
gb v119 false (some v122) fun v123 =>
gb v123 true (evFa 3 v1) fun v124 =>
gb v123 true (evLd false 1 v124 h4) fun v125 =>
gb v123 true (evFa 6 v9) fun v126 =>
gb v123 true (evLd false 1 v126 h4) fun v127 =>
gb v123 true (yi 9 v125 v127) fun v128 =>
gb v123 true (evFa 0 v128) fun v129 =>
gb v123 true (evLd false 1 v129 h4) fun v130 =>
gb v123 true (y2 .eql v130 (AV.int .i64 32)) fun v131 =>
gb v119 false (y9 v123 v131 (AV.bool false)) fun v132 =>
ob (y9 v119 (AV.bool true) v132) fun v133 =>
cnd v133
 ((y7 h4 (AV.int .i64 80)))
 ((yor v1 v3 v92 v93 v94 h4))
def y1st (s : St) : OX := y95 (s 1) (s 3) (s 8) (s 9) (s 92) (s 93) (s 94) s.h
theorem y13s : T1 yq6 y7v (y1 5 y7v (y1 4 y4a xN)) [.t 2] y1st := fun _ => by kernel_rfl
def yw9 (v1 v3 v8 v9 v92 v93 v94 : AV) (h : Heap) : OX :=
ob (evLd true 5 v1 h) fun v99 =>
ob (evLd true 9 v9 h) fun v100 =>
oh (y4 E (y5 E) 0 none true 63 [v99, v100] h) fun v101 h5 =>
ob (evUn .not v101) fun v102 =>
cnd v102
 ((y7 h5 (AV.int .i64 80)))
 ((y95 v1 v3 v8 v9 v92 v93 v94 h5))
def y1vv (s : St) : OX := yw9 (s 1) (s 3) (s 8) (s 9) (s 92) (s 93) (s 94) s.h
theorem y19f : T1 yuv y7v (y1 5 y7v (y1 4 y4a xN)) [.t 2] y1vv := sq y13s fun _ => by kernel_rfl
def ymc (v1 v3 v92 v93 v94 : AV) (h : Heap) : OX :=
ob (yi 9 v92 v94) fun v97 =>
ob (evLd true 9 v97 h) fun v98 =>
oh (newC 0 (some 1) [(.int .i64 0), (.int .i64 0), (.int .i64 0), (.int .i64 0), (.int .i64 0), (.int .i64 0), (.int .i64 0), (.str []), .nils] h) fun v9 h6 =>
oh (evSt 9 v9 v98 h6) fun _ h7 =>
(yw9 v1 v3 v94 v9 v92 v93 v94 h7)
def ynb (s : St) : OX := ymc (s 1) (s 3) (s 92) (s 93) (s 94) s.h
theorem y08 : T1 yw1 y7v (y1 5 y7v (y1 4 y4a xN)) [.t 2] ynb := sq y19f fun _ => by kernel_rfl
theorem y15y : T1 yvq y7v (y1 4 y4a xN) [.t 2] ynb := fun s => yk.trans (y08 s)
theorem y115 : T1 yvf y6m (y1 4 y4a xN) [.t 2] ynb := sq y1b7 y15y
def ywr (v1 v3 v92 v93 v94 v95 : AV) (h : Heap) : OX :=
cnd v95
 ((ymc v1 v3 v92 v93 v94 h))
 ((y1fe v1 v3 h))
def y1t0 (s : St) : OX := ywr (s 1) (s 3) (s 92) (s 93) (s 94) (s 95) s.h
theorem yz9 : T1 yta y6m (y1 4 y4a xN) [.t 2] y1t0 := sq y115 fun _ => by kernel_rfl
def ypy (v1 v3 v92 v93 v94 : AV) (h : Heap) : OX :=
ob (y2 .lss v94 v93) fun v95 =>
(ywr v1 v3 v92 v93 v94 v95 h)
def y1u6 (s : St) : OX := ypy (s 1) (s 3) (s 92) (s 93) (s 94) s.h
theorem y1e2 : T1 ysg y6m (y1 4 y4a xN) [.t 2] y1u6 := sq yz9 fun _ => by kernel_rfl
theorem yh7 (v1 v3 v92 v93 v94 : AV) (h : Heap) : ybw v1 v3 v92 v93 v94 h = (ypy v1 v3 v92 v93 v94 h) :=
  y2b.trans ((y1h _ _ _ (n' := y6m) (fun s => yib s)).trans ((y1e2 _).trans (by kernel_rfl)))
theorem y1dr : T1 yrc y4a xN [.t 2] y6m := fun s => yk.trans (yib s)
def ymd (v1 v3 : AV) (h : Heap) : OX :=
ob (evFa 3 v1) fun v91 =>
ob (evLd false 1 v91 h) fun v92 =>
ob (yy 1 v92 h) fun v93 =>
(ybw v1 v3 v92 v93 (AV.int .i64 0) h)
def y42 (s : St) : OX := ymd (s 1) (s 3) s.h
theorem y16r : T1 yu6 y4a xN [.t 2] y42 := sq y1dr fun _ => by kernel_rfl
theorem yzl : T0 yvl [.t 2] y42 := sq y1lf y16r
def ybp (v1 v3 v62 v63 v64 : AV) (h : Heap) : OX :=
  W E 0 yew ⟨[(1, v1), (3, v3), (62, v62), (63, v63), (64, v64)], h⟩ y42 (y1 2 y42 xN) (finP [.t 2])
def y65 (s : St) : OX := ybp (s 1) (s 3) (s 62) (s 63) (s 64) s.h
theorem yht : T1 yew y42 (y1 2 y42 xN) [.t 2] y65 := fun s => yf.trans (by kernel_rfl)
def y1du (v1 v3 v62 v63 v64 : AV) (h : Heap) : OX :=
ob (y2 .add v64 (AV.int .i64 1)) fun v90 =>
(ybp v1 v3 v62 v63 v90 h)
def y1qf (s : St) : OX := y1du (s 1) (s 3) (s 62) (s 63) (s 64) s.h
theorem y1g8 : T1 yx3 y65 (y1 2 y42 xN) [.t 2] y1qf := fun _ => by kernel_rfl
def yf2 (v1 v3 v62 v63 v64 : AV) (h : Heap) : OX :=
ob (yi 1 v62 v64) fun v67 =>
ob (evLd false 1 v67 h) fun v68 =>
ob (y2 .lss v68 (AV.int .i64 0)) fun v70 =>
gb v70 false (some v68) fun v72 =>
gb v70 false (evFa 0 v1) fun v73 =>
gb v70 false (evLd false 1 v73 h) fun v74 =>
gb v70 false (yy 1 v74 h) fun v75 =>
gb v70 false (y2 .geq v72 v75) fun v76 =>
ob (y9 v70 (AV.bool true) v76) fun v77 =>
gb v77 false (evFa 1 v1) fun v79 =>
gb v77 false (evLd false 1 v79 h) fun v80 =>
gb v77 false (some v64) fun v81 =>
gb v77 false (ybc 1 v80 none (some v81)) fun v82 =>
gb v77 false (some v68) fun v83 =>
gh v77 false (y4 E (y5 E) 0 none true 46 [v82, v83] h) h fun v84 h8 =>
ob (y9 v77 (AV.bool true) v84) fun v85 =>
gb v85 false (some v64) fun v87 =>
gb v85 false (y2 .gtr v87 (AV.int .i64 20)) fun v88 =>
ob (y9 v85 (AV.bool true) v88) fun v89 =>
cnd v89
 ((y7 h8 (AV.int .i64 80)))
 ((y1du v1 v3 v62 v63 v64 h8))
def y1sw (s : St) : OX := yf2 (s 1) (s 3) (s 62) (s 63) (s 64) s.h
theorem y186 : T1 ypt y65 (y1 2 y42 xN) [.t 2] y1sw := sq y1g8 fun _ => by kernel_rfl
def yt9 (v1 v3 v62 v63 v64 v65 : AV) (h : Heap) : OX :=
cnd v65
 ((yf2 v1 v3 v62 v63 v64 h))
 ((ymd v1 v3 h))
def y1rp (s : St) : OX := yt9 (s 1) (s 3) (s 62) (s 63) (s 64) (s 65) s.h
theorem y16h : T1 yt5 y65 (y1 2 y42 xN) [.t 2] y1rp := sq y186 fun _ => by kernel_rfl
def yww (v1 v3 v62 v63 v64 : AV) (h : Heap) : OX :=
ob (y2 .lss v64 v63) fun v65 =>
(yt9 v1 v3 v62 v63 v64 v65 h)
def y1qh (s : St) : OX := yww (s 1) (s 3) (s 62) (s 63) (s 64) s.h
theorem y14r : T1 ysk y65 (y1 2 y42 xN) [.t 2] y1qh := sq y16h fun _ => by kernel_rfl
theorem yhj (v1 v3 v62 v63 v64 : AV) (h : Heap) : ybp v1 v3 v62 v63 v64 h = (yww v1 v3 v62 v63 v64 h) :=
  y2b.trans ((y1h _ _ _ (n' := y65) (fun s => yht s)).trans ((y14r _).trans (by kernel_rfl)))
theorem y17f : T1 ypx y42 xN [.t 2] y65 := fun s => yk.trans (yht s)
def yld (v1 v3 : AV) (h : Heap) : OX :=
ob (evFa 1 v1) fun v61 =>
ob (evLd false 1 v61 h) fun v62 =>
ob (yy 1 v62 h) fun v63 =>
(ybp v1 v3 v62 v63 (AV.int .i64 0) h)
def y45 (s : St) : OX := yld (s 1) (s 3) s.h
theorem yzw : T1 yr7 y42 xN [.t 2] y45 := sq y17f fun _ => by kernel_rfl
theorem y13a : T0 ypd [.t 2] y45 := sq yzl yzw
def yc6 (v1 v3 v48 v49 v50 : AV) (h : Heap) : OX :=
  W E 0 yek ⟨[(1, v1), (3, v3), (48, v48), (49, v49), (50, v50)], h⟩ y45 (y1 0 y45 xN) (finP [.t 2])
def y6n (s : St) : OX := yc6 (s 1) (s 3) (s 48) (s 49) (s 50) s.h
theorem yi7 : T1 yek y45 (y1 0 y45 xN) [.t 2] y6n := fun s => yf.trans (by kernel_rfl)
def y12d (v1 v3 v48 v49 v50 : AV) (h : Heap) : OX :=
ob (y2 .add v50 (AV.int .i64 1)) fun v60 =>
(yc6 v1 v3 v48 v49 v60 h)
def y1sj (s : St) : OX := y12d (s 1) (s 3) (s 48) (s 49) (s 50) s.h
theorem y17g : T1 yqh y6n (y1 0 y45 xN) [.t 2] y1sj := fun _ => by kernel_rfl
def yl4 (v1 v3 v48 v49 v50 : AV) (h : Heap) : OX :=
ob (yi 1 v48 v50) fun v52 =>
ob (evLd false 1 v52 h) fun v53 =>
ob (y2 .lss v53 (AV.int .i64 1)) fun v55 =>
gb v55 false (some v53) fun v57 =>
gb v55 false (y2 .gtr v57 (AV.int .i64 3)) fun v58 =>
ob (y9 v55 (AV.bool true) v58) fun v59 =>
cnd v59
 ((y7 h (AV.int .i64 80)))
 ((y12d v1 v3 v48 v49 v50 h))
def y1r9 (s : St) : OX := yl4 (s 1) (s 3) (s 48) (s 49) (s 50) s.h
theorem y17m : T1 yqp y6n (y1 0 y45 xN) [.t 2] y1r9 := sq y17g fun _ => by kernel_rfl
def yry (v1 v3 v48 v49 v50 v51 : AV) (h : Heap) : OX :=
cnd v51
 ((yl4 v1 v3 v48 v49 v50 h))
 ((yld v1 v3 h))
def y1vr (s : St) : OX := yry (s 1) (s 3) (s 48) (s 49) (s 50) (s 51) s.h
theorem y18u : T1 yv3 y6n (y1 0 y45 xN) [.t 2] y1vr := sq y17m fun _ => by kernel_rfl
def ypq (v1 v3 v48 v49 v50 : AV) (h : Heap) : OX :=
ob (y2 .lss v50 v49) fun v51 =>
(yry v1 v3 v48 v49 v50 v51 h)
def y1q5 (s : St) : OX := ypq (s 1) (s 3) (s 48) (s 49) (s 50) s.h
theorem y13k : T1 yvh y6n (y1 0 y45 xN) [.t 2] y1q5 := sq y18u fun _ => by kernel_rfl
theorem yhf (v1 v3 v48 v49 v50 : AV) (h : Heap) : yc6 v1 v3 v48 v49 v50 h = (ypq v1 v3 v48 v49 v50 h) :=
  y2b.trans ((y1h _ _ _ (n' := y6n) (fun s => yi7 s)).trans ((y13k _).trans (by kernel_rfl)))
theorem y16s : T1 yuk y45 xN [.t 2] y6n := fun s => yk.trans (yi7 s)
def ygj (v1 v3 : AV) (h : Heap) : OX :=
ob (evFa 0 v1) fun v47 =>
ob (evLd false 1 v47 h) fun v48 =>
ob (yy 1 v48 h) fun v49 =>
(yc6 v1 v3 v48 v49 (AV.int .i64 0) h)
def y1g6 (s : St) : OX := ygj (s 1) (s 3) s.h
theorem y16a : T1 yq3 y45 xN [.t 2] y1g6 := sq y16s fun _ => by kernel_rfl
theorem y1ce : T0 yto [.t 2] y1g6 := sq y13a y16a
def ybe (v1 v3 : AV) (h : Heap) : OX :=
ob (y2 .lss v3 (AV.int .i64 1)) fun v16 =>
gb v16 false (some v3) fun v18 =>
gb v16 false (y2 .gtr v18 (AV.int .i64 20000)) fun v19 =>
ob (y9 v16 (AV.bool true) v19) fun v20 =>
gb v20 false (evFa 0 v1) fun v22 =>
gb v20 false (evLd false 1 v22 h) fun v23 =>
gb v20 false (yy 1 v23 h) fun v24 =>
gb v20 false (y2 .gtr v24 (AV.int .i64 20000)) fun v25 =>
ob (y9 v20 (AV.bool true) v25) fun v26 =>
gb v26 false (evFa 2 v1) fun v28 =>
gb v26 false (evLd false 1 v28 h) fun v29 =>
gb v26 false (y2 .lss v29 (AV.int .i64 0)) fun v30 =>
ob (y9 v26 (AV.bool true) v30) fun v31 =>
gb v31 false (evFa 2 v1) fun v33 =>
gb v31 false (evLd false 1 v33 h) fun v34 =>
gb v31 false (y2 .gtr v34 (AV.int .i64 3)) fun v35 =>
ob (y9 v31 (AV.bool true) v35) fun v36 =>
gb v36 false (evFa 3 v1) fun v38 =>
gb v36 false (evLd false 1 v38 h) fun v39 =>
gb v36 false (some v3) fun v40 =>
gb v36 false (y2 .sub v40 (AV.int .i64 1)) fun v41 =>
gb v36 false (yi 9 v39 v41) fun v42 =>
gb v36 false (evLd true 9 v42 h) fun v43 =>
gh v36 false (y4 E (y5 E) 0 none true 24 [v43] h) h fun v44 h9 =>
gb v36 false (evUn .not v44) fun v45 =>
ob (y9 v36 (AV.bool true) v45) fun v46 =>
cnd v46
 ((y7 h9 (AV.int .i64 80)))
 ((ygj v1 v3 h9))
def y1vs (s : St) : OX := ybe (s 1) (s 3) s.h
theorem y1d3 : T0 yv1 [.t 2] y1vs := sq y1ce fun _ => by kernel_rfl
def yb3 (v1 : AV) (h : Heap) : OX :=
ob (evFa 3 v1) fun v12 =>
ob (evLd false 1 v12 h) fun v13 =>
ob (yy 1 v13 h) fun v14 =>
(ybe v1 v14 h)
def y1ty (s : St) : OX := yb3 (s 1) s.h
theorem y1ge : T0 yw2 [.t 2] y1ty := sq y1d3 fun _ => by kernel_rfl
def y97 (v0 : AV) (h : Heap) : OX :=
oh (newC 0 (some 0) (cellsOf v0) h) fun v1 h10 =>
(yb3 v1 h10)
def y1uu (s : St) : OX := y97 (s 0) s.h
theorem y16b : T0 yud [.t 2] y1uu := sq y1ge fun _ => by kernel_rfl
@[simp] theorem y25o : E.pure 8 = true := rfl
theorem y234 (v0 : AV) : (y5 E).p 8 [v0] = y97 v0 [⟨0, .dead⟩, ⟨0, .dead⟩, ⟨0, .dead⟩] :=
  (y10 (cf := y1xf) (by kernel_rfl) rfl).trans ((y16b _).trans (by kernel_rfl))
def y15b (v2 v9 : AV) (h : Heap) : OX :=
ob (evLd true 5 v9 h) fun v150 =>
oh (evSt 5 v2 v150 h) fun _ h1 =>
(ob (evLd true 5 v2 h1) fun r0 =>
  y7 h1 r0)
def y8h (s : St) : OX := y15b (s 2) (s 9) s.h
theorem y1h5 : T0 y15r [.cell 2 true 5] y8h := fun _ => by kernel_rfl
def yk6 (v2 v3 v6 v9 v102 v103 v104 : AV) (h : Heap) : OX :=
  W E 0 yjf ⟨[(2, v2), (3, v3), (6, v6), (9, v9), (102, v102), (103, v103), (104, v104)], h⟩ y8h (y1 6 y8h xN) (finP [.cell 2 true 5])
def y9m (s : St) : OX := yk6 (s 2) (s 3) (s 6) (s 9) (s 102) (s 103) (s 104) s.h
theorem yl7 : T1 yjf y8h (y1 6 y8h xN) [.cell 2 true 5] y9m := fun s => yf.trans (by kernel_rfl)
def yy4 (v2 v3 v6 v9 v102 v103 v104 : AV) (h : Heap) : OX :=
ob (y2 .add v104 (AV.int .i64 1)) fun v149 =>
(yk6 v2 v3 v6 v9 v102 v103 v149 h)
def y1zk (s : St) : OX := yy4 (s 2) (s 3) (s 6) (s 9) (s 102) (s 103) (s 104) s.h
theorem y1ib : T1 y1ct y9m (y1 6 y8h xN) [.cell 2 true 5] y1zk := fun _ => by kernel_rfl
def yxk (v2 v3 v6 v9 v102 v103 v104 : AV) (h : Heap) : OX :=
ob (yi 4 v102 v104) fun v106 =>
ob (evLd true 4 v106 h) fun v107 =>
oh (newC 0 (some 9) [(.int .i64 0), (.int .i64 0), (.int .i64 0), (.str [])] h) fun v13 h2 =>
oh (evSt 4 v13 v107 h2) fun _ h3 =>
ob (evFa 2 v13) fun v109 =>
ob (evLd false 1 v109 h3) fun v110 =>
ob (yi 1 v3 v110) fun v111 =>
ob (evLd false 1 v111 h3) fun v112 =>
gb v112 true (some v6) fun v114 =>
gb v112 true (evFa 0 v13) fun v115 =>
gb v112 true (evLd false 1 v115 h3) fun v116 =>
gb v112 true (yi 1 v114 v116) fun v117 =>
gb v112 true (evLd false 1 v117 h3) fun v118 =>
gb v112 true (some v6) fun v119 =>
gb v112 true (evFa 1 v13) fun v120 =>
gb v112 true (evLd false 1 v120 h3) fun v121 =>
gb v112 true (yi 1 v119 v121) fun v122 =>
gb v112 true (evLd false 1 v122 h3) fun v123 =>
gb v112 true (y2 .lss v118 v123) fun v124 =>
ob (y9 v112 v124 (AV.bool false)) fun v125 =>
cnd v125
 (ob (evFa 4 v9) fun v126 =>
ob (evLd false 1 v126 h3) fun v127 =>
ob (evFa 0 v13) fun v129 =>
ob (evLd false 1 v129 h3) fun v130 =>
ob (yi 1 v6 v130) fun v131 =>
ob (evLd false 1 v131 h3) fun v132 =>
ob (evFa 1 v13) fun v134 =>
ob (evLd false 1 v134 h3) fun v135 =>
ob (yi 1 v6 v135) fun v136 =>
ob (evLd false 1 v136 h3) fun v137 =>
ob (evFa 2 v13) fun v139 =>
ob (evLd false 1 v139 h3) fun v140 =>
ob (yi 1 v6 v140) fun v141 =>
ob (evLd false 1 v141 h3) fun v142 =>
ob (evFa 3 v13) fun v143 =>
ob (evLd false 1 v143 h3) fun v144 =>
ob (yb [(.int .i64 0), (.int .i64 0), (.int .i64 0), (.str [])] [(0, 1, v132), (1, 1, v137), (2, 1, v142), (3, 1, v144)]) fun v145 =>
oh (y14 0 (some 10) 4 1 [(.int .i64 0), (.int .i64 0), (.int .i64 0), (.str [])] [(0, v145)] h3) fun v146 h4 =>
oh (y2g 0 (some 11) 4 40 v127 v146 h4) fun v147 h5 =>
ob (evFa 4 v9) fun v148 =>
oh (evSt 1 v148 v147 h5) fun _ h6 =>
okK (yp [([], []), (ids1 v126, []), ([], []), ([], []), (ids1 v129, []), ([], []), (ids1 v131, []), ([], []), ([], []), (ids1 v134, []), ([], []), (ids1 v136, []), ([], []), ([], []), (ids1 v139, []), ([], []), (ids1 v141, []), ([], []), (ids1 v143, []), ([], []), ([], [0 + 10]), (ids1 v146, ids1 v127 ++ [0 + 11]), ([], []), ([], ids1 v148)] [(1, 20)]) <|
(yy4 v2 v3 v6 v9 v102 v103 v104 h6))
 ((yy4 v2 v3 v6 v9 v102 v103 v104 h3))
def y201 (s : St) : OX := yxk (s 2) (s 3) (s 6) (s 9) (s 102) (s 103) (s 104) s.h
theorem y1lm : T1 y0f y9m (y1 6 y8h xN) [.cell 2 true 5] y201 := sq y1ib fun _ => by kernel_rfl
def y1l1 (v2 v3 v6 v9 v102 v103 v104 v105 : AV) (h : Heap) : OX :=
cnd v105
 ((yxk v2 v3 v6 v9 v102 v103 v104 h))
 ((y15b v2 v9 h))
def y1xv (s : St) : OX := y1l1 (s 2) (s 3) (s 6) (s 9) (s 102) (s 103) (s 104) (s 105) s.h
theorem y1h7 : T1 y1ca y9m (y1 6 y8h xN) [.cell 2 true 5] y1xv := sq y1lm fun _ => by kernel_rfl
def y1c2 (v2 v3 v6 v9 v102 v103 v104 : AV) (h : Heap) : OX :=
ob (y2 .lss v104 v103) fun v105 =>
(y1l1 v2 v3 v6 v9 v102 v103 v104 v105 h)
def y1x4 (s : St) : OX := y1c2 (s 2) (s 3) (s 6) (s 9) (s 102) (s 103) (s 104) s.h
theorem y1ii : T1 y1fu y9m (y1 6 y8h xN) [.cell 2 true 5] y1x4 := sq y1h7 fun _ => by kernel_rfl
theorem ymj (v2 v3 v6 v9 v102 v103 v104 : AV) (h : Heap) : yk6 v2 v3 v6 v9 v102 v103 v104 h = (y1c2 v2 v3 v6 v9 v102 v103 v104 h) :=
  y2b.trans ((y1h _ _ _ (n' := y9m) (fun s => yl7 s)).trans ((y1ii _).trans (by kernel_rfl)))
theorem y1lx : T1 y19d y8h xN [.cell 2 true 5] y9m := fun s => yk.trans (yl7 s)
def yx7 (v1 v2 v3 v6 v9 : AV) (h : Heap) : OX :=
ob (evFa 4 v1) fun v101 =>
ob (evLd false 1 v101 h) fun v102 =>
ob (yy 1 v102 h) fun v103 =>
(yk6 v2 v3 v6 v9 v102 v103 (AV.int .i64 0) h)
def y3w (s : St) : OX := yx7 (s 1) (s 2) (s 3) (s 6) (s 9) s.h
theorem y1hq : T1 y1ag y8h xN [.cell 2 true 5] y3w := sq y1lx fun _ => by kernel_rfl
theorem y1j2 : T0 y15c [.cell 2 true 5] y3w := sq y1h5 y1hq
def yeq (v1 v2 v3 v6 v9 v73 v74 v75 : AV) (h : Heap) : OX :=
  W E 0 yev ⟨[(1, v1), (2, v2), (3, v3), (6, v6), (9, v9), (73, v73), (74, v74), (75, v75)], h⟩ y3w (y1 4 y3w xN) (finP [.cell 2 true 5])
def y6b (s : St) : OX := yeq (s 1) (s 2) (s 3) (s 6) (s 9) (s 73) (s 74) (s 75) s.h
theorem yhi : T1 yev y3w (y1 4 y3w xN) [.cell 2 true 5] y6b := fun s => yf.trans (by kernel_rfl)
def ykb (v1 v2 v3 v6 v9 v73 v74 v75 : AV) (h : Heap) : OX :=
ob (y2 .add v75 (AV.int .i64 1)) fun v100 =>
(yeq v1 v2 v3 v6 v9 v73 v74 v100 h)
def y5i (s : St) : OX := ykb (s 1) (s 2) (s 3) (s 6) (s 9) (s 73) (s 74) (s 75) s.h
theorem y17t : T1 ywc y6b (y1 4 y3w xN) [.cell 2 true 5] y5i := fun _ => by kernel_rfl
def yki (v1 v2 v3 v6 v9 v11 v73 v74 v75 : AV) (h : Heap) : OX :=
ob (evFa 3 v9) fun v94 =>
ob (evLd false 1 v94 h) fun v95 =>
ob (evLd true 9 v11 h) fun v96 =>
oh (y14 0 (some 7) 9 1 [(.int .i64 0), (.int .i64 0), (.int .i64 0), (.int .i64 0), (.int .i64 0), (.int .i64 0), (.int .i64 0), (.str []), .nils] [(0, v96)] h) fun v97 h7 =>
oh (y2g 0 (some 8) 9 96 v95 v97 h7) fun v98 h8 =>
ob (evFa 3 v9) fun v99 =>
oh (evSt 1 v99 v98 h8) fun _ h9 =>
(ykb v1 v2 v3 v6 v9 v73 v74 v75 h9)
def y1v9 (s : St) : OX := yki (s 1) (s 2) (s 3) (s 6) (s 9) (s 11) (s 73) (s 74) (s 75) s.h
theorem y0n : T1 yqu y5i (y1 5 y5i (y1 4 y3w xN)) [.cell 2 true 5] y1v9 := fun _ => by kernel_rfl
def yi8 (v1 v2 v3 v6 v9 v11 v73 v74 v75 : AV) (h : Heap) : OX :=
ob (evLd true 9 v11 h) fun v85 =>
oh (y4 E (y5 E) 0 none true 22 [v85] h) fun v86 h10 =>
cnd v86
 (ob (evFa 6 v11) fun v88 =>
ob (evLd false 1 v88 h10) fun v89 =>
ob (yi 1 v6 v89) fun v90 =>
ob (evLd false 1 v90 h10) fun v91 =>
ob (evFa 6 v11) fun v92 =>
oh (evSt 1 v92 v91 h10) fun _ h11 =>
(yki v1 v2 v3 v6 v9 v11 v73 v74 v75 h11))
 (ob (evFa 6 v11) fun v93 =>
oh (evSt 1 v93 (AV.int .i64 0) h10) fun _ h12 =>
(yki v1 v2 v3 v6 v9 v11 v73 v74 v75 h12))
def y1q0 (s : St) : OX := yi8 (s 1) (s 2) (s 3) (s 6) (s 9) (s 11) (s 73) (s 74) (s 75) s.h
theorem y17y : T1 yq8 y5i (y1 5 y5i (y1 4 y3w xN)) [.cell 2 true 5] y1q0 := sq y0n fun _ => by kernel_rfl
def yhl (v1 v2 v3 v6 v9 v10 v11 v73 v74 v75 : AV) (h : Heap) : OX :=
ob (yi 1 v3 v10) fun v82 =>
ob (evLd false 1 v82 h) fun v83 =>
ob (evUn .not v83) fun v84 =>
cnd v84
 ((ykb v1 v2 v3 v6 v9 v73 v74 v75 h))
 ((yi8 v1 v2 v3 v6 v9 v11 v73 v74 v75 h))
def y1rx (s : St) : OX := yhl (s 1) (s 2) (s 3) (s 6) (s 9) (s 10) (s 11) (s 73) (s 74) (s 75) s.h
theorem y1f2 : T1 ytv y5i (y1 5 y5i (y1 4 y3w xN)) [.cell 2 true 5] y1rx := sq y17y fun _ => by kernel_rfl
def y1b5 (v1 v2 v3 v6 v9 v73 v74 v75 : AV) (h : Heap) : OX :=
ob (yi 9 v73 v75) fun v78 =>
ob (evLd true 9 v78 h) fun v79 =>
oh (newC 0 (some 6) [(.int .i64 0), (.int .i64 0), (.int .i64 0), (.int .i64 0), (.int .i64 0), (.int .i64 0), (.int .i64 0), (.str []), .nils] h) fun v11 h13 =>
oh (evSt 9 v11 v79 h13) fun _ h14 =>
(yhl v1 v2 v3 v6 v9 v75 v11 v73 v74 v75 h14)
def yoi (s : St) : OX := y1b5 (s 1) (s 2) (s 3) (s 6) (s 9) (s 73) (s 74) (s 75) s.h
theorem y1br : T1 yux y5i (y1 5 y5i (y1 4 y3w xN)) [.cell 2 true 5] yoi := sq y1f2 fun _ => by kernel_rfl
theorem y0a : T1 yq0 y5i (y1 4 y3w xN) [.cell 2 true 5] yoi := fun s => yk.trans (y1br s)
theorem y1cg : T1 yu4 y6b (y1 4 y3w xN) [.cell 2 true 5] yoi := sq y17t y0a
def yr2 (v1 v2 v3 v6 v9 v73 v74 v75 v76 : AV) (h : Heap) : OX :=
cnd v76
 ((y1b5 v1 v2 v3 v6 v9 v73 v74 v75 h))
 ((yx7 v1 v2 v3 v6 v9 h))
def y1u8 (s : St) : OX := yr2 (s 1) (s 2) (s 3) (s 6) (s 9) (s 73) (s 74) (s 75) (s 76) s.h
theorem y1e6 : T1 yss y6b (y1 4 y3w xN) [.cell 2 true 5] y1u8 := sq y1cg fun _ => by kernel_rfl
def yl6 (v1 v2 v3 v6 v9 v73 v74 v75 : AV) (h : Heap) : OX :=
ob (y2 .lss v75 v74) fun v76 =>
(yr2 v1 v2 v3 v6 v9 v73 v74 v75 v76 h)
def y1t6 (s : St) : OX := yl6 (s 1) (s 2) (s 3) (s 6) (s 9) (s 73) (s 74) (s 75) s.h
theorem y1dx : T1 yoy y6b (y1 4 y3w xN) [.cell 2 true 5] y1t6 := sq y1e6 fun _ => by kernel_rfl
theorem ygx (v1 v2 v3 v6 v9 v73 v74 v75 : AV) (h : Heap) : yeq v1 v2 v3 v6 v9 v73 v74 v75 h = (yl6 v1 v2 v3 v6 v9 v73 v74 v75 h) :=
  y2b.trans ((y1h _ _ _ (n' := y6b) (fun s => yhi s)).trans ((y1dx _).trans (by kernel_rfl)))
theorem y13b : T1 yu5 y3w xN [.cell 2 true 5] y6b := fun s => yk.trans (yhi s)
def y1fx (v1 v2 v3 v6 v9 : AV) (h : Heap) : OX :=
ob (evFa 3 v1) fun v72 =>
ob (evLd false 1 v72 h) fun v73 =>
ob (yy 1 v73 h) fun v74 =>
(yeq v1 v2 v3 v6 v9 v73 v74 (AV.int .i64 0) h)
def y1c7 (s : St) : OX := y1fx (s 1) (s 2) (s 3) (s 6) (s 9) s.h
theorem y1bt : T1 ypp y3w xN [.cell 2 true 5] y1c7 := sq y13b fun _ => by kernel_rfl
theorem y1ai : T0 yre [.cell 2 true 5] y1c7 := sq y1j2 y1bt
def ygz (v1 v2 v3 v6 : AV) (h : Heap) : OX :=
ob (evFa 0 v1) fun v65 =>
ob (evLd false 1 v65 h) fun v66 =>
ob (evFa 1 v1) fun v67 =>
ob (evLd false 1 v67 h) fun v68 =>
ob (evFa 2 v1) fun v69 =>
ob (evLd false 1 v69 h) fun v70 =>
ob (yb [.nils, .nils, (.int .i64 0), .nils, .nils] [(0, 1, v66), (1, 1, v68), (2, 1, v70)]) fun v71 =>
oh (newC 0 (some 5) [.nils, .nils, (.int .i64 0), .nils, .nils] h) fun v9 h15 =>
oh (evSt 5 v9 v71 h15) fun _ h16 =>
(y1fx v1 v2 v3 v6 v9 h16)
def y1v7 (s : St) : OX := ygz (s 1) (s 2) (s 3) (s 6) s.h
theorem y1dn : T0 yv2 [.cell 2 true 5] y1v7 := sq y1ai fun _ => by kernel_rfl
def y135 (v1 v2 v3 v6 v7 : AV) (h : Heap) : OX :=
ob (evFa 3 v1) fun v60 =>
ob (evLd false 1 v60 h) fun v61 =>
ob (yy 1 v61 h) fun v62 =>
ob (yi 1 v6 v62) fun v64 =>
oh (evSt 1 v64 v7 h) fun _ h17 =>
(ygz v1 v2 v3 v6 h17)
def y4k (s : St) : OX := y135 (s 1) (s 2) (s 3) (s 6) (s 7) s.h
theorem y1a0 : T0 yvk [.cell 2 true 5] y4k := sq y1dn fun _ => by kernel_rfl
def yfi (v1 v2 v3 v6 v7 v44 v45 : AV) (h : Heap) : OX :=
  W E 0 yen ⟨[(1, v1), (2, v2), (3, v3), (6, v6), (7, v7), (44, v44), (45, v45)], h⟩ y4k (y1 2 y4k xN) (finP [.cell 2 true 5])
def y6h (s : St) : OX := yfi (s 1) (s 2) (s 3) (s 6) (s 7) (s 44) (s 45) s.h
theorem yi6 : T1 yen y4k (y1 2 y4k xN) [.cell 2 true 5] y6h := fun s => yf.trans (by kernel_rfl)
def yea (v1 v2 v3 v6 v7 v44 v45 : AV) (h : Heap) : OX :=
ob (y2 .add v45 (AV.int .i64 1)) fun v58 =>
(yfi v1 v2 v3 v6 v7 v44 v58 h)
def y1px (s : St) : OX := yea (s 1) (s 2) (s 3) (s 6) (s 7) (s 44) (s 45) s.h
theorem y1cw : T1 yt2 y6h (y1 2 y4k xN) [.cell 2 true 5] y1px := fun _ => by kernel_rfl
def y0e (v1 v2 v3 v6 v7 v44 v45 : AV) (h : Heap) : OX :=
ob (yi 1 v6 v45) fun v51 =>
oh (evSt 1 v51 v7 h) fun _ h18 =>
ob (yi 1 v3 v45) fun v54 =>
ob (evLd false 1 v54 h18) fun v55 =>
cnd v55
 (ob (y2 .add v7 (AV.int .i64 1)) fun v57 =>
(yea v1 v2 v3 v6 v57 v44 v45 h18))
 ((yea v1 v2 v3 v6 v7 v44 v45 h18))
def y1pu (s : St) : OX := y0e (s 1) (s 2) (s 3) (s 6) (s 7) (s 44) (s 45) s.h
theorem y1d9 : T1 yqs y6h (y1 2 y4k xN) [.cell 2 true 5] y1pu := sq y1cw fun _ => by kernel_rfl
def ysm (v1 v2 v3 v6 v7 v44 v45 v46 : AV) (h : Heap) : OX :=
cnd v46
 ((y0e v1 v2 v3 v6 v7 v44 v45 h))
 ((y135 v1 v2 v3 v6 v7 h))
def y1uf (s : St) : OX := ysm (s 1) (s 2) (s 3) (s 6) (s 7) (s 44) (s 45) (s 46) s.h
theorem y1ci : T1 ywb y6h (y1 2 y4k xN) [.cell 2 true 5] y1uf := sq y1d9 fun _ => by kernel_rfl
def yk2 (v1 v2 v3 v6 v7 v44 v45 : AV) (h : Heap) : OX :=
ob (y2 .lss v45 v44) fun v46 =>
(ysm v1 v2 v3 v6 v7 v44 v45 v46 h)
def y1pf (s : St) : OX := yk2 (s 1) (s 2) (s 3) (s 6) (s 7) (s 44) (s 45) s.h
theorem y0l : T1 yp4 y6h (y1 2 y4k xN) [.cell 2 true 5] y1pf := sq y1ci fun _ => by kernel_rfl
theorem ygh (v1 v2 v3 v6 v7 v44 v45 : AV) (h : Heap) : yfi v1 v2 v3 v6 v7 v44 v45 h = (yk2 v1 v2 v3 v6 v7 v44 v45 h) :=
  y2b.trans ((y1h _ _ _ (n' := y6h) (fun s => yi6 s)).trans ((y0l _).trans (by kernel_rfl)))
theorem y1dt : T1 ytq y4k xN [.cell 2 true 5] y6h := fun s => yk.trans (yi6 s)
def y1az (v1 v2 v3 v6 v7 : AV) (h : Heap) : OX :=
ob (evFa 3 v1) fun v42 =>
ob (evLd false 1 v42 h) fun v43 =>
ob (yy 1 v43 h) fun v44 =>
(yfi v1 v2 v3 v6 v7 v44 (AV.int .i64 0) h)
def y1c5 (s : St) : OX := y1az (s 1) (s 2) (s 3) (s 6) (s 7) s.h
theorem y1ec : T1 yrp y4k xN [.cell 2 true 5] y1c5 := sq y1dt fun _ => by kernel_rfl
theorem y17v : T0 yp0 [.cell 2 true 5] y1c5 := sq y1a0 y1ec
def y1ad (v1 v2 v3 v6 : AV) (h : Heap) : OX :=
(y1az v1 v2 v3 v6 (AV.int .i64 0) h)
def y1uc (s : St) : OX := y1ad (s 1) (s 2) (s 3) (s 6) s.h
theorem y15t : T0 yvn [.cell 2 true 5] y1uc := sq y17v fun _ => by kernel_rfl
def ygw (v1 v2 v3 : AV) (h : Heap) : OX :=
ob (evFa 3 v1) fun v37 =>
ob (evLd false 1 v37 h) fun v38 =>
ob (yy 1 v38 h) fun v39 =>
ob (y2 .add v39 (AV.int .i64 1)) fun v40 =>
oh (mkSC 0 (some 4) 1 8 [(.int .i64 0)] v40 v40 h) fun v41 h19 =>
(y1ad v1 v2 v3 v41 h19)
def y4o (s : St) : OX := ygw (s 1) (s 2) (s 3) s.h
theorem y19l : T0 yvr [.cell 2 true 5] y4o := sq y15t fun _ => by kernel_rfl
def yfs (v1 v2 v3 v23 v24 v25 : AV) (h : Heap) : OX :=
  W E 0 ydz ⟨[(1, v1), (2, v2), (3, v3), (23, v23), (24, v24), (25, v25)], h⟩ y4o (y1 0 y4o xN) (finP [.cell 2 true 5])
def y6j (s : St) : OX := yfs (s 1) (s 2) (s 3) (s 23) (s 24) (s 25) s.h
theorem yh0 : T1 ydz y4o (y1 0 y4o xN) [.cell 2 true 5] y6j := fun s => yf.trans (by kernel_rfl)
def yi1 (v1 v2 v3 v23 v24 v25 : AV) (h : Heap) : OX :=
ob (y2 .add v25 (AV.int .i64 1)) fun v36 =>
(yfs v1 v2 v3 v23 v24 v36 h)
def y1ux (s : St) : OX := yi1 (s 1) (s 2) (s 3) (s 23) (s 24) (s 25) s.h
theorem y134 : T1 yrj y6j (y1 0 y4o xN) [.cell 2 true 5] y1ux := fun _ => by kernel_rfl
def ytt (v1 v2 v3 v23 v24 v25 : AV) (h : Heap) : OX :=
ob (yi 9 v23 v25) fun v28 =>
ob (evLd true 9 v28 h) fun v29 =>
oh (newC 0 (some 3) [(.int .i64 0), (.int .i64 0), (.int .i64 0), (.int .i64 0), (.int .i64 0), (.int .i64 0), (.int .i64 0), (.str []), .nils] h) fun v5 h20 =>
oh (evSt 9 v5 v29 h20) fun _ h21 =>
ob (evFa 0 v5) fun v30 =>
ob (evLd false 1 v30 h21) fun v31 =>
ob (y2 .eql v31 (AV.int .i64 33)) fun v32 =>
cnd v32
 (ob (yi 1 v3 v25) fun v35 =>
oh (evSt 1 v35 (AV.bool false) h21) fun _ h22 =>
(yi1 v1 v2 v3 v23 v24 v25 h22))
 ((yi1 v1 v2 v3 v23 v24 v25 h21))
def y1s2 (s : St) : OX := ytt (s 1) (s 2) (s 3) (s 23) (s 24) (s 25) s.h
theorem y168 : T1 yw3 y6j (y1 0 y4o xN) [.cell 2 true 5] y1s2 := sq y134 fun _ => by kernel_rfl
def yli (v1 v2 v3 v23 v24 v25 v26 : AV) (h : Heap) : OX :=
cnd v26
 ((ytt v1 v2 v3 v23 v24 v25 h))
 ((ygw v1 v2 v3 h))
def y1vw (s : St) : OX := yli (s 1) (s 2) (s 3) (s 23) (s 24) (s 25) (s 26) s.h
theorem y19x : T1 yqj y6j (y1 0 y4o xN) [.cell 2 true 5] y1vw := sq y168 fun _ => by kernel_rfl
def yif (v1 v2 v3 v23 v24 v25 : AV) (h : Heap) : OX :=
ob (y2 .lss v25 v24) fun v26 =>
(yli v1 v2 v3 v23 v24 v25 v26 h)
def y1va (s : St) : OX := yif (s 1) (s 2) (s 3) (s 23) (s 24) (s 25) s.h
theorem yzf : T1 yps y6j (y1 0 y4o xN) [.cell 2 true 5] y1va := sq y19x fun _ => by kernel_rfl
theorem ygp (v1 v2 v3 v23 v24 v25 : AV) (h : Heap) : yfs v1 v2 v3 v23 v24 v25 h = (yif v1 v2 v3 v23 v24 v25 h) :=
  y2b.trans ((y1h _ _ _ (n' := y6j) (fun s => yh0 s)).trans ((yzf _).trans (by kernel_rfl)))
theorem y1bl : T1 yqc y4o xN [.cell 2 true 5] y6j := fun s => yk.trans (yh0 s)
def y15f (v1 v2 v3 : AV) (h : Heap) : OX :=
ob (evFa 3 v1) fun v22 =>
ob (evLd false 1 v22 h) fun v23 =>
ob (yy 1 v23 h) fun v24 =>
(yfs v1 v2 v3 v23 v24 (AV.int .i64 0) h)
def y16f (s : St) : OX := y15f (s 1) (s 2) (s 3) s.h
theorem y1ac : T1 ywa y4o xN [.cell 2 true 5] y16f := sq y1bl fun _ => by kernel_rfl
theorem y15x : T0 yrf [.cell 2 true 5] y16f := sq y19l y1ac
def y1en (v1 v2 : AV) (h : Heap) : OX :=
ob (evLd true 5 v1 h) fun v20 =>
oh (y4 E (y5 E) 0 (some 2) false 101 [v20] h) fun v21 h23 =>
(y15f v1 v2 v21 h23)
def y1pz (s : St) : OX := y1en (s 1) (s 2) s.h
theorem y02 : T0 yw7 [.cell 2 true 5] y1pz := sq y15x fun _ => by kernel_rfl
def yhk (v1 v2 : AV) (h : Heap) : OX :=
ob (evLd true 5 v1 h) fun v16 =>
oh (y4 E (y5 E) 0 none true 8 [v16] h) fun v17 h24 =>
ob (y2 .neq v17 (AV.int .i64 0)) fun v18 =>
cnd v18
 (ob (evLd true 5 v1 h24) fun v19 =>
oh (evSt 5 v2 v19 h24) fun _ h25 =>
(ob (evLd true 5 v2 h25) fun r0 =>
  y7 h25 r0))
 ((y1en v1 v2 h24))
def y1u2 (s : St) : OX := yhk (s 1) (s 2) s.h
theorem y1bi : T0 yun [.cell 2 true 5] y1u2 := sq y02 fun _ => by kernel_rfl
def y17p (v1 v2 : AV) (h : Heap) : OX :=
ob (evLd true 5 v1 h) fun v14 =>
oh (y4 E (y5 E) 0 none true 13 [v14] h) fun v15 h26 =>
oh (evSt 5 v1 v15 h26) fun _ h27 =>
(yhk v1 v2 h27)
def y1pc (s : St) : OX := y17p (s 1) (s 2) s.h
theorem y174 : T0 ytp [.cell 2 true 5] y1pc := sq y1bi fun _ => by kernel_rfl
def yrr (v0 : AV) (h : Heap) : OX :=
oh (newC 0 (some 0) (cellsOf v0) h) fun v1 h28 =>
oh (newC 0 (some 1) [.nils, .nils, (.int .i64 0), .nils, .nils] h28) fun v2 h29 =>
(y17p v1 v2 h29)
def y1rm (s : St) : OX := yrr (s 0) s.h
theorem y15d : T0 yx1 [.cell 2 true 5] y1rm := sq y174 fun _ => by kernel_rfl
@[simp] theorem y22d : E.pure 100 = true := rfl
theorem y23a (v0 : AV) : (y5 E).p 100 [v0] = yrr v0 [⟨0, .dead⟩, ⟨0, .dead⟩, ⟨0, .dead⟩, ⟨0, .dead⟩, ⟨0, .dead⟩, ⟨0, .dead⟩, ⟨0, .dead⟩, ⟨0, .dead⟩, ⟨0, .dead⟩, ⟨0, .dead⟩, ⟨0, .dead⟩, ⟨0, .dead⟩] :=
  (y10 (cf := y1yj) (by kernel_rfl) rfl).trans ((y15d _).trans (by kernel_rfl))
@[simp] theorem y227 : E.pure 124 = true := rfl
def y1bu (v1 v2 : AV) (h : Heap) : OX :=
ob (evLd true 5 v1 h) fun v62 =>
oh (evSt 5 v2 v62 h) fun _ h1 =>
(ob (evLd true 5 v2 h1) fun r0 =>
  y7 h1 r0)
def y4m (s : St) : OX := y1bu (s 1) (s 2) s.h
theorem y1na : T0 y1e4 [.cell 2 true 5] y4m := fun _ => by kernel_rfl
def ygm (v1 v2 v3 v6 v29 v30 v31 : AV) (h : Heap) : OX :=
  W E 0 yjt ⟨[(1, v1), (2, v2), (3, v3), (6, v6), (29, v29), (30, v30), (31, v31)], h⟩ y4m (y1 2 y4m xN) (finP [.cell 2 true 5])
def y9o (s : St) : OX := ygm (s 1) (s 2) (s 3) (s 6) (s 29) (s 30) (s 31) s.h
theorem ym7 : T1 yjt y4m (y1 2 y4m xN) [.cell 2 true 5] y9o := fun s => yf.trans (by kernel_rfl)
def yj5 (v1 v2 v3 v6 v29 v30 v31 : AV) (h : Heap) : OX :=
ob (y2 .add v31 (AV.int .i64 1)) fun v61 =>
(ygm v1 v2 v3 v6 v29 v30 v61 h)
def ycs (s : St) : OX := yj5 (s 1) (s 2) (s 3) (s 6) (s 29) (s 30) (s 31) s.h
theorem y1gr : T1 y1bv y9o (y1 2 y4m xN) [.cell 2 true 5] ycs := fun _ => by kernel_rfl
def ymw (v1 v2 v3 v6 v7 v8 v29 v30 v31 : AV) (h : Heap) : OX :=
ob (evLd true 9 v8 h) fun v40 =>
oh (y4 E (y5 E) 0 none false 126 [v40, v6] h) fun v42 h2 =>
oh (evSt 9 v8 v42 h2) fun _ h3 =>
ob (evFa 3 v1) fun v43 =>
ob (evLd false 1 v43 h3) fun v44 =>
ob (evLd true 9 v8 h3) fun v46 =>
ob (yi 9 v44 v7) fun v47 =>
oh (evSt 9 v47 v46 h3) fun _ h4 =>
ob (evLd true 9 v8 h4) fun v48 =>
oh (y4 E (y5 E) 0 none true 9 [v48] h4) fun v49 h5 =>
ob (y2 .geq v49 (AV.int .i64 0)) fun v51 =>
cnd v51
 (oh (y7y false [0] v6 v49 h5) fun _ h6 =>
ob (evFa 0 v8) fun v54 =>
ob (evLd false 1 v54 h6) fun v55 =>
ob (y2 .eql v55 (AV.int .i64 1)) fun v56 =>
cnd v56
 (ob (evFa 5 v8) fun v59 =>
ob (evLd false 1 v59 h6) fun v60 =>
oh (y7f false [0] v6 v49 v60 h6) fun _ h7 =>
(yj5 v1 v2 v3 v6 v29 v30 v31 h7))
 ((yj5 v1 v2 v3 v6 v29 v30 v31 h6)))
 ((yj5 v1 v2 v3 v6 v29 v30 v31 h5))
def y1wp (s : St) : OX := ymw (s 1) (s 2) (s 3) (s 6) (s 7) (s 8) (s 29) (s 30) (s 31) s.h
theorem y1iu : T1 yzb ycs (y1 3 ycs (y1 2 y4m xN)) [.cell 2 true 5] y1wp := fun _ => by kernel_rfl
def y16l (v1 v2 v3 v6 v7 v8 v29 v30 v31 : AV) (h : Heap) : OX :=
ob (y3t false [0] (.bool false) false v3 v7 h) fun v38 =>
cnd v38
 (oh (y99 v6 h) fun _ h8 =>
(ymw v1 v2 v3 v6 v7 v8 v29 v30 v31 h8))
 ((ymw v1 v2 v3 v6 v7 v8 v29 v30 v31 h))
def y20p (s : St) : OX := y16l (s 1) (s 2) (s 3) (s 6) (s 7) (s 8) (s 29) (s 30) (s 31) s.h
theorem y1j8 : T1 y1g7 ycs (y1 3 ycs (y1 2 y4m xN)) [.cell 2 true 5] y20p := sq y1iu fun _ => by kernel_rfl
def y1tw (v1 v2 v3 v6 v29 v30 v31 : AV) (h : Heap) : OX :=
ob (yi 9 v29 v31) fun v34 =>
ob (evLd true 9 v34 h) fun v35 =>
oh (newC 0 (some 12) [(.int .i64 0), (.int .i64 0), (.int .i64 0), (.int .i64 0), (.int .i64 0), (.int .i64 0), (.int .i64 0), (.str []), .nils] h) fun v8 h9 =>
oh (evSt 9 v8 v35 h9) fun _ h10 =>
(y16l v1 v2 v3 v6 v31 v8 v29 v30 v31 h10)
def y12l (s : St) : OX := y1tw (s 1) (s 2) (s 3) (s 6) (s 29) (s 30) (s 31) s.h
theorem y1i4 : T1 yzv ycs (y1 3 ycs (y1 2 y4m xN)) [.cell 2 true 5] y12l := sq y1j8 fun _ => by kernel_rfl
theorem y1iy : T1 y1eh ycs (y1 2 y4m xN) [.cell 2 true 5] y12l := fun s => yk.trans (y1i4 s)
theorem y1mc : T1 y124 y9o (y1 2 y4m xN) [.cell 2 true 5] y12l := sq y1gr y1iy
def y1hs (v1 v2 v3 v6 v29 v30 v31 v32 : AV) (h : Heap) : OX :=
cnd v32
 ((y1tw v1 v2 v3 v6 v29 v30 v31 h))
 ((y1bu v1 v2 h))
def y1z4 (s : St) : OX := y1hs (s 1) (s 2) (s 3) (s 6) (s 29) (s 30) (s 31) (s 32) s.h
theorem y1iz : T1 y1gj y9o (y1 2 y4m xN) [.cell 2 true 5] y1z4 := sq y1mc fun _ => by kernel_rfl
def ypz (v1 v2 v3 v6 v29 v30 v31 : AV) (h : Heap) : OX :=
ob (y2 .lss v31 v30) fun v32 =>
(y1hs v1 v2 v3 v6 v29 v30 v31 v32 h)
def y1sz (s : St) : OX := ypz (s 1) (s 2) (s 3) (s 6) (s 29) (s 30) (s 31) s.h
theorem yzj : T1 yqw y9o (y1 2 y4m xN) [.cell 2 true 5] y1sz := sq y1iz fun _ => by kernel_rfl
theorem yma (v1 v2 v3 v6 v29 v30 v31 : AV) (h : Heap) : ygm v1 v2 v3 v6 v29 v30 v31 h = (ypz v1 v2 v3 v6 v29 v30 v31 h) :=
  y2b.trans ((y1h _ _ _ (n' := y9o) (fun s => ym7 s)).trans ((yzj _).trans (by kernel_rfl)))
theorem y187 : T1 yuc y4m xN [.cell 2 true 5] y9o := fun s => yk.trans (ym7 s)
def y1av (v1 v2 v3 v6 : AV) (h : Heap) : OX :=
ob (evFa 3 v1) fun v28 =>
ob (evLd false 1 v28 h) fun v29 =>
ob (yy 1 v29 h) fun v30 =>
(ygm v1 v2 v3 v6 v29 v30 (AV.int .i64 0) h)
def y12q (s : St) : OX := y1av (s 1) (s 2) (s 3) (s 6) s.h
theorem y15h : T1 yoz y4m xN [.cell 2 true 5] y12q := sq y187 fun _ => by kernel_rfl
theorem y0x : T0 ytd [.cell 2 true 5] y12q := sq y1na y15h
def ytu (v1 v2 v3 : AV) (h : Heap) : OX :=
oh (mkmC 0 (some 11) h) fun v27 h11 =>
(y1av v1 v2 v3 v27 h11)
def y4j (s : St) : OX := ytu (s 1) (s 2) (s 3) s.h
theorem y1cb : T0 yx5 [.cell 2 true 5] y4j := sq y0x fun _ => by kernel_rfl
def yfb (v1 v2 v3 v18 v19 v20 : AV) (h : Heap) : OX :=
  W E 0 yei ⟨[(1, v1), (2, v2), (3, v3), (18, v18), (19, v19), (20, v20)], h⟩ y4j (y1 0 y4j xN) (finP [.cell 2 true 5])
def y5z (s : St) : OX := yfb (s 1) (s 2) (s 3) (s 18) (s 19) (s 20) s.h
theorem ygo : T1 yei y4j (y1 0 y4j xN) [.cell 2 true 5] y5z := fun s => yf.trans (by kernel_rfl)
def y1cz (v1 v2 v3 v18 v19 v20 : AV) (h : Heap) : OX :=
ob (y2 .add v20 (AV.int .i64 1)) fun v26 =>
(yfb v1 v2 v3 v18 v19 v26 h)
def y1uz (s : St) : OX := y1cz (s 1) (s 2) (s 3) (s 18) (s 19) (s 20) s.h
theorem y1c8 : T1 ysj y5z (y1 0 y4j xN) [.cell 2 true 5] y1uz := fun _ => by kernel_rfl
def y16e (v1 v2 v3 v18 v19 v20 : AV) (h : Heap) : OX :=
ob (yi 1 v18 v20) fun v22 =>
ob (evLd false 1 v22 h) fun v23 =>
oh (y7f false [0] v3 v23 (AV.bool true) h) fun _ h12 =>
(y1cz v1 v2 v3 v18 v19 v20 h12)
def y1tz (s : St) : OX := y16e (s 1) (s 2) (s 3) (s 18) (s 19) (s 20) s.h
theorem yzr : T1 yq2 y5z (y1 0 y4j xN) [.cell 2 true 5] y1tz := sq y1c8 fun _ => by kernel_rfl
def ysa (v1 v2 v3 v18 v19 v20 v21 : AV) (h : Heap) : OX :=
cnd v21
 ((y16e v1 v2 v3 v18 v19 v20 h))
 ((ytu v1 v2 v3 h))
def y1pw (s : St) : OX := ysa (s 1) (s 2) (s 3) (s 18) (s 19) (s 20) (s 21) s.h
theorem y167 : T1 ysr y5z (y1 0 y4j xN) [.cell 2 true 5] y1pw := sq yzr fun _ => by kernel_rfl
def ysp (v1 v2 v3 v18 v19 v20 : AV) (h : Heap) : OX :=
ob (y2 .lss v20 v19) fun v21 =>
(ysa v1 v2 v3 v18 v19 v20 v21 h)
def y1s8 (s : St) : OX := ysp (s 1) (s 2) (s 3) (s 18) (s 19) (s 20) s.h
theorem y199 : T1 yse y5z (y1 0 y4j xN) [.cell 2 true 5] y1s8 := sq y167 fun _ => by kernel_rfl
theorem yi4 (v1 v2 v3 v18 v19 v20 : AV) (h : Heap) : yfb v1 v2 v3 v18 v19 v20 h = (ysp v1 v2 v3 v18 v19 v20 h) :=
  y2b.trans ((y1h _ _ _ (n' := y5z) (fun s => ygo s)).trans ((y199 _).trans (by kernel_rfl)))
theorem y14k : T1 ywo y4j xN [.cell 2 true 5] y5z := fun s => yk.trans (ygo s)
def ywt (v1 v2 v3 : AV) (h : Heap) : OX :=
ob (evLd true 5 v1 h) fun v17 =>
oh (y4 E (y5 E) 0 none true 102 [v17] h) fun v18 h13 =>
ob (yy 1 v18 h13) fun v19 =>
(yfb v1 v2 v3 v18 v19 (AV.int .i64 0) h13)
def y11t (s : St) : OX := ywt (s 1) (s 2) (s 3) s.h
theorem y17w : T1 yv5 y4j xN [.cell 2 true 5] y11t := sq y14k fun _ => by kernel_rfl
theorem y14d : T0 yr5 [.cell 2 true 5] y11t := sq y1cb y17w
def y0o (v1 v2 : AV) (h : Heap) : OX :=
oh (mkmC 0 (some 10) h) fun v16 h14 =>
(ywt v1 v2 v16 h14)
def y1pe (s : St) : OX := y0o (s 1) (s 2) s.h
theorem y1de : T0 ywp [.cell 2 true 5] y1pe := sq y14d fun _ => by kernel_rfl
def ykn (v1 v2 : AV) (h : Heap) : OX :=
ob (evLd true 5 v1 h) fun v12 =>
oh (y4 E (y5 E) 0 none true 8 [v12] h) fun v13 h15 =>
ob (y2 .neq v13 (AV.int .i64 0)) fun v14 =>
cnd v14
 (ob (evLd true 5 v1 h15) fun v15 =>
oh (evSt 5 v2 v15 h15) fun _ h16 =>
(ob (evLd true 5 v2 h16) fun r0 =>
  y7 h16 r0))
 ((y0o v1 v2 h15))
def y1ut (s : St) : OX := ykn (s 1) (s 2) s.h
theorem y1fj : T0 yra [.cell 2 true 5] y1ut := sq y1de fun _ => by kernel_rfl
def y15u (v1 v2 : AV) (h : Heap) : OX :=
ob (evLd true 5 v1 h) fun v10 =>
oh (y4 E (y5 E) 0 (some 2) false 13 [v10] h) fun v11 h17 =>
oh (evSt 5 v1 v11 h17) fun _ h18 =>
(ykn v1 v2 h18)
def y1s7 (s : St) : OX := y15u (s 1) (s 2) s.h
theorem y18w : T0 yvs [.cell 2 true 5] y1s7 := sq y1fj fun _ => by kernel_rfl
def y1ex (v0 : AV) (h : Heap) : OX :=
oh (newC 0 (some 0) (cellsOf v0) h) fun v1 h19 =>
oh (newC 0 (some 1) [.nils, .nils, (.int .i64 0), .nils, .nils] h19) fun v2 h20 =>
(y15u v1 v2 h20)
def y1se (s : St) : OX := y1ex (s 0) s.h
theorem y1db : T0 yx4 [.cell 2 true 5] y1se := sq y18w fun _ => by kernel_rfl
@[simp] theorem y224 : E.pure 125 = true := rfl
theorem y245 (v0 : AV) : (y5 E).p 125 [v0] = y1ex v0 [⟨0, .dead⟩, ⟨0, .dead⟩, ⟨0, .dead⟩, ⟨0, .dead⟩, ⟨0, .dead⟩, ⟨0, .dead⟩, ⟨0, .dead⟩, ⟨0, .dead⟩, ⟨0, .dead⟩, ⟨0, .dead⟩, ⟨0, .dead⟩, ⟨0, .dead⟩, ⟨0, .dead⟩] :=
  (y10 (cf := y21l) (by kernel_rfl) rfl).trans ((y1db _).trans (by kernel_rfl))
def y14f (h : Heap) : OX :=
(y7 h (AV.int .i64 (-1)))
def y1xd (s : St) : OX := y14f s.h
theorem y1hx : T0 y1bc [.t 2] y1xd := fun _ => by kernel_rfl
def y1el (v1 : AV) (h : Heap) : OX :=
ob (evLd true 9 v1 h) fun v22 =>
oh (y4 E (y5 E) 0 none true 17 [v22] h) fun v23 h1 =>
cnd v23
 (ob (evFa 1 v1) fun v24 =>
ob (evLd false 1 v24 h1) fun v25 =>
(y7 h1 v25))
 ((y14f h1))
def ydu (s : St) : OX := y1el (s 1) s.h
theorem y1gq : T0 y19c [.t 2] ydu := sq y1hx fun _ => by kernel_rfl
def y7t (v1 v5 : AV) (h : Heap) : OX :=
cnd v5
 (ob (evFa 1 v1) fun v20 =>
ob (evLd false 1 v20 h) fun v21 =>
(y7 h v21))
 ((y1el v1 h))
def y1y3 (s : St) : OX := y7t (s 1) (s 5) s.h
theorem y1hg : T1 y15s ydu (y1 0 ydu xN) [.t 2] y1y3 := fun _ => by kernel_rfl
def y1e7 (v1 v4 : AV) (h : Heap) : OX :=
ob (y2 .eql v4 (AV.int .i64 1)) fun v6 =>
cnd v6
 ((y7t v1 v6 h))
 (ob (y2 .eql v4 (AV.int .i64 2)) fun v7 =>
cnd v7
 ((y7t v1 v7 h))
 (ob (y2 .eql v4 (AV.int .i64 3)) fun v8 =>
cnd v8
 ((y7t v1 v8 h))
 (ob (y2 .eql v4 (AV.int .i64 4)) fun v9 =>
cnd v9
 ((y7t v1 v9 h))
 (ob (y2 .eql v4 (AV.int .i64 5)) fun v10 =>
cnd v10
 ((y7t v1 v10 h))
 (ob (y2 .eql v4 (AV.int .i64 6)) fun v11 =>
cnd v11
 ((y7t v1 v11 h))
 (ob (y2 .eql v4 (AV.int .i64 13)) fun v12 =>
cnd v12
 ((y7t v1 v12 h))
 (ob (y2 .eql v4 (AV.int .i64 15)) fun v13 =>
cnd v13
 ((y7t v1 v13 h))
 (ob (y2 .eql v4 (AV.int .i64 16)) fun v14 =>
cnd v14
 ((y7t v1 v14 h))
 (ob (y2 .eql v4 (AV.int .i64 18)) fun v15 =>
cnd v15
 ((y7t v1 v15 h))
 (ob (y2 .eql v4 (AV.int .i64 20)) fun v16 =>
cnd v16
 ((y7t v1 v16 h))
 (ob (y2 .eql v4 (AV.int .i64 21)) fun v17 =>
cnd v17
 ((y7t v1 v17 h))
 (ob (y2 .eql v4 (AV.int .i64 22)) fun v18 =>
cnd v18
 ((y7t v1 v18 h))
 (ob (y2 .eql v4 (AV.int .i64 32)) fun v19 =>
(y7t v1 v19 h))))))))))))))
def y1ny (s : St) : OX := y1e7 (s 1) (s 4) s.h
theorem y1kz : T1 y0s ydu (y1 0 ydu xN) [.t 2] y1ny := sq y1hg fun _ => by kernel_rfl
theorem y1ht : T1 y1ev ydu xN [.t 2] y1ny := fun s => yk.trans (y1kz s)
def y17l (v1 : AV) (h : Heap) : OX :=
ob (evFa 0 v1) fun v3 =>
ob (evLd false 1 v3 h) fun v4 =>
(y1e7 v1 v4 h)
def y1p5 (s : St) : OX := y17l (s 1) s.h
theorem y1i6 : T1 y13v ydu xN [.t 2] y1p5 := sq y1ht fun _ => by kernel_rfl
theorem y1k4 : T0 y13y [.t 2] y1p5 := sq y1gq y1i6
def y12m (v0 : AV) (h : Heap) : OX :=
oh (newC 0 (some 0) (cellsOf v0) h) fun v1 h2 =>
(y17l v1 h2)
def y1yx (s : St) : OX := y12m (s 0) s.h
theorem y1kh : T0 y18d [.t 2] y1yx := sq y1k4 fun _ => by kernel_rfl
@[simp] theorem y25r : E.pure 9 = true := rfl
theorem y23g (v0 : AV) : (y5 E).p 9 [v0] = y12m v0 [⟨0, .dead⟩] :=
  (y10 (cf := y1wq) (by kernel_rfl) rfl).trans ((y1kh _).trans (by kernel_rfl))
def yvb (v0 : AV) (h : Heap) : OX :=
oh (y14 0 (some 0) 1 0 [(.int .i64 0)] [] h) fun v5 h1 =>
oh (y2g 0 (some 1) 1 8 v5 v0 h1) fun v7 h2 =>
(y7 h2 v7)
def y1rn (s : St) : OX := yvb (s 0) s.h
theorem y1f0 : T0 ysv [.t 2] y1rn := fun _ => by kernel_rfl
def ys2 (v0 : AV) (h : Heap) : OX :=
ob (yh6 1 false v0 AV.nils) fun v4 =>
cnd v4
 ((y7 h AV.nils))
 ((yvb v0 h))
def y1uw (s : St) : OX := ys2 (s 0) s.h
theorem y16v : T0 ywj [.t 2] y1uw := sq y1f0 fun _ => by kernel_rfl
def yrt (v0 : AV) (h : Heap) : OX :=
(ys2 v0 h)
def y1pn (s : St) : OX := yrt (s 0) s.h
theorem y1dw : T0 yr9 [.t 2] y1pn := sq y16v fun _ => by kernel_rfl
@[simp] theorem y252 : E.pure 39 = true := rfl
theorem y1xn (v0 : AV) : (y5 E).p 39 [v0] = yrt v0 [⟨0, .dead⟩, ⟨0, .dead⟩] :=
  (y10 (cf := y1oa) (by kernel_rfl) rfl).trans ((y1dw _).trans (by kernel_rfl))
def yp9 (v0 : AV) (h : Heap) : OX :=
oh (y14 0 (some 0) 9 0 [(.int .i64 0), (.int .i64 0), (.int .i64 0), (.int .i64 0), (.int .i64 0), (.int .i64 0), (.int .i64 0), (.str []), .nils] [] h) fun v5 h1 =>
oh (y2g 0 (some 1) 9 96 v5 v0 h1) fun v7 h2 =>
(y7 h2 v7)
def y1rs (s : St) : OX := yp9 (s 0) s.h
theorem y16o : T0 yrw [.t 2] y1rs := fun _ => by kernel_rfl
def yvc (v0 : AV) (h : Heap) : OX :=
ob (yh6 1 false v0 AV.nils) fun v4 =>
cnd v4
 ((y7 h AV.nils))
 ((yp9 v0 h))
def y1vl (s : St) : OX := yvc (s 0) s.h
theorem y1dg : T0 ys5 [.t 2] y1vl := sq y16o fun _ => by kernel_rfl
def yv7 (v0 : AV) (h : Heap) : OX :=
(yvc v0 h)
def y1ta (s : St) : OX := yv7 (s 0) s.h
theorem y00 : T0 yti [.t 2] y1ta := sq y1dg fun _ => by kernel_rfl
@[simp] theorem y258 : E.pure 40 = true := rfl
theorem y1yi (v0 : AV) : (y5 E).p 40 [v0] = yv7 v0 [⟨0, .dead⟩, ⟨0, .dead⟩] :=
  (y10 (cf := y1oz) (by kernel_rfl) rfl).trans ((y00 _).trans (by kernel_rfl))
def yp8 (v0 : AV) (h : Heap) : OX :=
oh (y14 0 (some 0) 4 0 [(.int .i64 0), (.int .i64 0), (.int .i64 0), (.str [])] [] h) fun v5 h1 =>
oh (y2g 0 (some 1) 4 40 v5 v0 h1) fun v7 h2 =>
(y7 h2 v7)
def y1su (s : St) : OX := yp8 (s 0) s.h
theorem y0m : T0 yub [.t 2] y1su := fun _ => by kernel_rfl
def yrl (v0 : AV) (h : Heap) : OX :=
ob (yh6 1 false v0 AV.nils) fun v4 =>
cnd v4
 ((y7 h AV.nils))
 ((yp8 v0 h))
def y1to (s : St) : OX := yrl (s 0) s.h
theorem y18z : T0 yrn [.t 2] y1to := sq y0m fun _ => by kernel_rfl
def ypo (v0 : AV) (h : Heap) : OX :=
(yrl v0 h)
def y1r7 (s : St) : OX := ypo (s 0) s.h
theorem y14m : T0 ypf [.t 2] y1r7 := sq y18z fun _ => by kernel_rfl
@[simp] theorem y24n : E.pure 41 = true := rfl
theorem y21d (v0 : AV) : (y5 E).p 41 [v0] = ypo v0 [⟨0, .dead⟩, ⟨0, .dead⟩] :=
  (y10 (cf := y1p3) (by kernel_rfl) rfl).trans ((y14m _).trans (by kernel_rfl))
def y1vo (v0 : AV) (h : Heap) : OX :=
oh (newC 0 (some 0) (cellsOf v0) h) fun v1 h1 =>
ob (evFa 0 v1) fun v3 =>
ob (evLd false 1 v3 h1) fun v4 =>
ob (y2 .eql v4 (AV.int .i64 27)) fun v5 =>
gb v5 false (evFa 0 v1) fun v7 =>
gb v5 false (evLd false 1 v7 h1) fun v8 =>
gb v5 false (y2 .eql v8 (AV.int .i64 30)) fun v9 =>
ob (y9 v5 (AV.bool true) v9) fun v10 =>
gb v10 false (evFa 0 v1) fun v12 =>
gb v10 false (evLd false 1 v12 h1) fun v13 =>
gb v10 false (y2 .eql v13 (AV.int .i64 31)) fun v14 =>
ob (y9 v10 (AV.bool true) v14) fun v15 =>
(y7 h1 v15)
def y20i (s : St) : OX := y1vo (s 0) s.h
theorem y1ha : T0 y17k [.t 2] y20i := fun _ => by kernel_rfl
@[simp] theorem y25l : E.pure 24 = true := rfl
theorem y250 (v0 : AV) : (y5 E).p 24 [v0] = y1vo v0 [⟨0, .dead⟩] :=
  (y10 (cf := y20j) (by kernel_rfl) rfl).trans ((y1ha _).trans (by kernel_rfl))
def yqk (v0 v1 : AV) (h : Heap) : OX :=
oh (y4 E (y5 E) 0 none true 45 [v0, v1] h) fun v7 h1 =>
ob (y2 .geq v7 (AV.int .i64 0)) fun v8 =>
(y7 h1 v8)
def y1qj (s : St) : OX := yqk (s 0) (s 1) s.h
theorem y1cp : T0 yt4 [.t 4] y1qj := fun _ => by kernel_rfl
@[simp] theorem y24s : E.pure 46 = true := rfl
theorem y1x2 (v0 v1 : AV) : (y5 E).p 46 [v0, v1] = yqk v0 v1 [] :=
  (y10 (cf := y1op) (by kernel_rfl) rfl).trans ((y1cp _).trans (by kernel_rfl))
def y16c (v2 v3 : AV) (h : Heap) : OX :=
ob (evLd true 9 v3 h) fun v183 =>
oh (y4 E (y5 E) 0 none true 22 [v183] h) fun v184 h1 =>
ob (evUn .not v184) fun v185 =>
gb v185 false (evFa 6 v3) fun v187 =>
gb v185 false (evLd false 1 v187 h1) fun v188 =>
gb v185 false (y2 .geq v188 (AV.int .i64 0)) fun v189 =>
gb v185 false (some v189) fun v190 =>
gb v190 true (evFa 6 v3) fun v191 =>
gb v190 true (evLd false 1 v191 h1) fun v192 =>
gb v190 true (evFa 3 v2) fun v193 =>
gb v190 true (evLd false 1 v193 h1) fun v194 =>
gb v190 true (yy 1 v194 h1) fun v195 =>
gb v190 true (y2 .lss v192 v195) fun v196 =>
gb v185 false (y9 v190 v196 (AV.bool false)) fun v197 =>
ob (y9 v185 (AV.bool true) v197) fun v198 =>
(y7 h1 v198)
def y1zm (s : St) : OX := y16c (s 2) (s 3) s.h
theorem y1lb : T0 y1as [.t 4] y1zm := fun _ => by kernel_rfl
def y7u (v2 v3 : AV) (h : Heap) : OX :=
ob (evFa 0 v3) fun v105 =>
ob (evLd false 1 v105 h) fun v106 =>
ob (y2 .eql v106 (AV.int .i64 1)) fun v108 =>
cnd v108
 (ob (evFa 0 v2) fun v109 =>
ob (evLd false 1 v109 h) fun v110 =>
ob (evFa 1 v3) fun v111 =>
ob (evLd false 1 v111 h) fun v112 =>
ob (yi 1 v110 v112) fun v113 =>
ob (evLd false 1 v113 h) fun v114 =>
ob (y2 .neq v114 (AV.int .i64 3)) fun v115 =>
gb v115 true (evFa 0 v2) fun v117 =>
gb v115 true (evLd false 1 v117 h) fun v118 =>
gb v115 true (evFa 1 v3) fun v119 =>
gb v115 true (evLd false 1 v119 h) fun v120 =>
gb v115 true (yi 1 v118 v120) fun v121 =>
gb v115 true (evLd false 1 v121 h) fun v122 =>
gb v115 true (y2 .eql v122 (AV.int .i64 2)) fun v123 =>
gb v115 true (some v123) fun v124 =>
gb v124 false (evFa 5 v3) fun v125 =>
gb v124 false (evLd false 1 v125 h) fun v126 =>
gb v124 false (evFa 5 v3) fun v127 =>
gb v124 false (evLd false 1 v127 h) fun v128 =>
gb v124 false (y2q .i32 v128) fun v129 =>
gb v124 false (y2q .i64 v129) fun v130 =>
gb v124 false (y2 .eql v126 v130) fun v131 =>
gb v115 true (y9 v124 (AV.bool true) v131) fun v132 =>
ob (y9 v115 v132 (AV.bool false)) fun v133 =>
(y7 h v133))
 (ob (y2 .eql v106 (AV.int .i64 4)) fun v135 =>
cnd v135
 (ob (evFa 0 v2) fun v136 =>
ob (evLd false 1 v136 h) fun v137 =>
ob (evFa 1 v3) fun v138 =>
ob (evLd false 1 v138 h) fun v139 =>
ob (yi 1 v137 v139) fun v140 =>
ob (evLd false 1 v140 h) fun v141 =>
ob (evFa 0 v2) fun v142 =>
ob (evLd false 1 v142 h) fun v143 =>
ob (evFa 2 v3) fun v144 =>
ob (evLd false 1 v144 h) fun v145 =>
ob (yi 1 v143 v145) fun v146 =>
ob (evLd false 1 v146 h) fun v147 =>
ob (y2 .eql v141 v147) fun v148 =>
(y7 h v148))
 (ob (y2 .eql v106 (AV.int .i64 7)) fun v150 =>
cnd v150
 (ob (evFa 0 v2) fun v151 =>
ob (evLd false 1 v151 h) fun v152 =>
ob (evFa 2 v3) fun v153 =>
ob (evLd false 1 v153 h) fun v154 =>
ob (yi 1 v152 v154) fun v155 =>
ob (evLd false 1 v155 h) fun v156 =>
ob (y2 .neq v156 (AV.int .i64 3)) fun v157 =>
(y7 h v157))
 (ob (y2 .eql v106 (AV.int .i64 30)) fun v159 =>
cnd v159
 (ob (evFa 2 v3) fun v160 =>
ob (evLd false 1 v160 h) fun v161 =>
ob (y2 .eql v161 (AV.int .i64 (-1))) fun v162 =>
ob (evFa 2 v2) fun v163 =>
ob (evLd false 1 v163 h) fun v164 =>
ob (y2 .eql v164 (AV.int .i64 0)) fun v165 =>
ob (y1mf false v162 v165) fun v166 =>
gb v166 true (evFa 2 v3) fun v168 =>
gb v166 true (evLd false 1 v168 h) fun v169 =>
gb v166 true (y2 .eql v169 (AV.int .i64 (-1))) fun v170 =>
gb v166 true (some v170) fun v171 =>
gb v171 false (evFa 0 v2) fun v172 =>
gb v171 false (evLd false 1 v172 h) fun v173 =>
gb v171 false (evFa 2 v3) fun v174 =>
gb v171 false (evLd false 1 v174 h) fun v175 =>
gb v171 false (yi 1 v173 v175) fun v176 =>
gb v171 false (evLd false 1 v176 h) fun v177 =>
gb v171 false (evFa 2 v2) fun v178 =>
gb v171 false (evLd false 1 v178 h) fun v179 =>
gb v171 false (y2 .eql v177 v179) fun v180 =>
gb v166 true (y9 v171 (AV.bool true) v180) fun v181 =>
ob (y9 v166 v181 (AV.bool false)) fun v182 =>
(y7 h v182))
 ((y16c v2 v3 h)))))
def y4w (s : St) : OX := y7u (s 2) (s 3) s.h
theorem y1hj : T0 y1a3 [.t 4] y4w := sq y1lb fun _ => by kernel_rfl
def yeh (v2 v3 v63 v64 v65 : AV) (h : Heap) : OX :=
  W E 0 yiy ⟨[(2, v2), (3, v3), (63, v63), (64, v64), (65, v65)], h⟩ y4w (y1 2 y4w xN) (finP [.t 4])
def y9j (s : St) : OX := yeh (s 2) (s 3) (s 63) (s 64) (s 65) s.h
theorem ymh : T1 yiy y4w (y1 2 y4w xN) [.t 4] y9j := fun s => yf.trans (by kernel_rfl)
def y1es (v2 v3 v63 v64 v65 : AV) (h : Heap) : OX :=
ob (y2 .add v65 (AV.int .i64 1)) fun v104 =>
(yeh v2 v3 v63 v64 v104 h)
def ycq (s : St) : OX := y1es (s 2) (s 3) (s 63) (s 64) (s 65) s.h
theorem y1ku : T1 y1gf y9j (y1 2 y4w xN) [.t 4] ycq := fun _ => by kernel_rfl
def yfm (v2 v3 v9 v10 v63 v64 v65 : AV) (h : Heap) : OX :=
ob (y2 .lss v10 (AV.int .i64 0)) fun v74 =>
gb v74 false (some v10) fun v76 =>
gb v74 false (evFa 0 v2) fun v77 =>
gb v74 false (evLd false 1 v77 h) fun v78 =>
gb v74 false (yy 1 v78 h) fun v79 =>
gb v74 false (y2 .geq v76 v79) fun v80 =>
ob (y9 v74 (AV.bool true) v80) fun v81 =>
gb v81 false (some v9) fun v83 =>
gb v81 false (y2 .eql v83 (AV.int .i64 0)) fun v84 =>
gb v81 false (some v84) fun v85 =>
gb v85 true (evFa 0 v3) fun v86 =>
gb v85 true (evLd false 1 v86 h) fun v87 =>
gb v85 true (y2 .eql v87 (AV.int .i64 24)) fun v88 =>
gb v85 true (some v88) fun v89 =>
gb v89 false (evFa 0 v3) fun v90 =>
gb v89 false (evLd false 1 v90 h) fun v91 =>
gb v89 false (y2 .eql v91 (AV.int .i64 25)) fun v92 =>
gb v85 true (y9 v89 (AV.bool true) v92) fun v93 =>
gb v81 false (y9 v85 v93 (AV.bool false)) fun v94 =>
gb v81 false (some v94) fun v95 =>
gb v95 true (evFa 0 v2) fun v96 =>
gb v95 true (evLd false 1 v96 h) fun v97 =>
gb v95 true (some v10) fun v98 =>
gb v95 true (yi 1 v97 v98) fun v99 =>
gb v95 true (evLd false 1 v99 h) fun v100 =>
gb v95 true (y2 .neq v100 (AV.int .i64 3)) fun v101 =>
gb v81 false (y9 v95 v101 (AV.bool false)) fun v102 =>
ob (y9 v81 (AV.bool true) v102) fun v103 =>
cnd v103
 ((y7 h (AV.bool false)))
 ((y1es v2 v3 v63 v64 v65 h))
def y1wo (s : St) : OX := yfm (s 2) (s 3) (s 9) (s 10) (s 63) (s 64) (s 65) s.h
theorem y1lo : T1 y1dy ycq (y1 3 ycq (y1 2 y4w xN)) [.t 4] y1wo := fun _ => by kernel_rfl
def yza (v2 v3 v9 v10 v63 v64 v65 : AV) (h : Heap) : OX :=
ob (evLd true 9 v3 h) fun v70 =>
oh (y4 E (y5 E) 0 none true 17 [v70] h) fun v71 h2 =>
ob (evUn .not v71) fun v72 =>
cnd v72
 ((y7u v2 v3 h2))
 ((yfm v2 v3 v9 v10 v63 v64 v65 h2))
def y1x9 (s : St) : OX := yza (s 2) (s 3) (s 9) (s 10) (s 63) (s 64) (s 65) s.h
theorem y1my : T1 y1c6 ycq (y1 3 ycq (y1 2 y4w xN)) [.t 4] y1x9 := sq y1lo fun _ => by kernel_rfl
def y17c (v2 v3 v63 v64 v65 : AV) (h : Heap) : OX :=
ob (yi 1 v63 v65) fun v68 =>
ob (evLd false 1 v68 h) fun v69 =>
(yza v2 v3 v65 v69 v63 v64 v65 h)
def y1ch (s : St) : OX := y17c (s 2) (s 3) (s 63) (s 64) (s 65) s.h
theorem y1hy : T1 y1fl ycq (y1 3 ycq (y1 2 y4w xN)) [.t 4] y1ch := sq y1my fun _ => by kernel_rfl
theorem y1ja : T1 y19a ycq (y1 2 y4w xN) [.t 4] y1ch := fun s => yk.trans (y1hy s)
theorem y1mg : T1 y12z y9j (y1 2 y4w xN) [.t 4] y1ch := sq y1ku y1ja
def yef (v2 v3 v63 v64 v65 v66 : AV) (h : Heap) : OX :=
cnd v66
 ((y17c v2 v3 v63 v64 v65 h))
 ((y7u v2 v3 h))
def y1s0 (s : St) : OX := yef (s 2) (s 3) (s 63) (s 64) (s 65) (s 66) s.h
theorem y1cm : T1 ywd y9j (y1 2 y4w xN) [.t 4] y1s0 := sq y1mg fun _ => by kernel_rfl
def ydq (v2 v3 v63 v64 v65 : AV) (h : Heap) : OX :=
ob (y2 .lss v65 v64) fun v66 =>
(yef v2 v3 v63 v64 v65 v66 h)
def y1pj (s : St) : OX := ydq (s 2) (s 3) (s 63) (s 64) (s 65) s.h
theorem y1eb : T1 yql y9j (y1 2 y4w xN) [.t 4] y1pj := sq y1cm fun _ => by kernel_rfl
theorem yey (v2 v3 v63 v64 v65 : AV) (h : Heap) : yeh v2 v3 v63 v64 v65 h = (ydq v2 v3 v63 v64 v65 h) :=
  y2b.trans ((y1h _ _ _ (n' := y9j) (fun s => ymh s)).trans ((y1eb _).trans (by kernel_rfl)))
theorem y1dm : T1 yuf y4w xN [.t 4] y9j := fun s => yk.trans (ymh s)
def ykd (v2 v3 : AV) (h : Heap) : OX :=
ob (evFa 8 v3) fun v62 =>
ob (evLd false 1 v62 h) fun v63 =>
ob (yy 1 v63 h) fun v64 =>
(yeh v2 v3 v63 v64 (AV.int .i64 0) h)
def y2p (s : St) : OX := ykd (s 2) (s 3) s.h
theorem y1ey : T1 yqi y4w xN [.t 4] y2p := sq y1dm fun _ => by kernel_rfl
theorem y1eg : T0 yuz [.t 4] y2p := sq y1hj y1ey
def y9e (v2 v3 v5 v26 v27 : AV) (h : Heap) : OX :=
  W E 0 yed ⟨[(2, v2), (3, v3), (5, v5), (26, v26), (27, v27)], h⟩ y2p (y1 0 y2p xN) (finP [.t 4])
def y67 (s : St) : OX := y9e (s 2) (s 3) (s 5) (s 26) (s 27) s.h
theorem yha : T1 yed y2p (y1 0 y2p xN) [.t 4] y67 := fun s => yf.trans (by kernel_rfl)
def ym8 (v2 v3 v5 v26 v27 : AV) (h : Heap) : OX :=
ob (y2 .add v27 (AV.int .i64 1)) fun v61 =>
(y9e v2 v3 v5 v26 v61 h)
def y7w (s : St) : OX := ym8 (s 2) (s 3) (s 5) (s 26) (s 27) s.h
theorem y16n : T1 yt3 y67 (y1 0 y2p xN) [.t 4] y7w := fun _ => by kernel_rfl
def yfa (v2 v3 v5 v7 v8 v26 v27 : AV) (h : Heap) : OX :=
ob (y2 .lss v8 (AV.int .i64 0)) fun v36 =>
gb v36 false (some v8) fun v38 =>
gb v36 false (evFa 0 v2) fun v39 =>
gb v36 false (evLd false 1 v39 h) fun v40 =>
gb v36 false (yy 1 v40 h) fun v41 =>
gb v36 false (y2 .geq v38 v41) fun v42 =>
ob (y9 v36 (AV.bool true) v42) fun v43 =>
gb v43 false (some v7) fun v45 =>
gb v43 false (yj6 4 1 v5 v45) fun v46 =>
gb v43 false (evLd false 1 v46 h) fun v47 =>
gb v43 false (y2 .gtr v47 (AV.int .i64 0)) fun v48 =>
gb v43 false (some v48) fun v49 =>
gb v49 true (evFa 0 v2) fun v50 =>
gb v49 true (evLd false 1 v50 h) fun v51 =>
gb v49 true (some v8) fun v52 =>
gb v49 true (yi 1 v51 v52) fun v53 =>
gb v49 true (evLd false 1 v53 h) fun v54 =>
gb v49 true (some v7) fun v55 =>
gb v49 true (yj6 4 1 v5 v55) fun v56 =>
gb v49 true (evLd false 1 v56 h) fun v57 =>
gb v49 true (y2 .neq v54 v57) fun v58 =>
gb v43 false (y9 v49 v58 (AV.bool false)) fun v59 =>
ob (y9 v43 (AV.bool true) v59) fun v60 =>
cnd v60
 ((y7 h (AV.bool false)))
 ((ym8 v2 v3 v5 v26 v27 h))
def y1q3 (s : St) : OX := yfa (s 2) (s 3) (s 5) (s 7) (s 8) (s 26) (s 27) s.h
theorem y178 : T1 ywk y7w (y1 1 y7w (y1 0 y2p xN)) [.t 4] y1q3 := fun _ => by kernel_rfl
def yb9 (v2 v3 v5 v7 v8 v26 v27 : AV) (h : Heap) : OX :=
ob (yj6 4 1 v5 v7) fun v32 =>
ob (evLd false 1 v32 h) fun v33 =>
ob (y2 .lss v33 (AV.int .i64 0)) fun v34 =>
cnd v34
 ((ym8 v2 v3 v5 v26 v27 h))
 ((yfa v2 v3 v5 v7 v8 v26 v27 h))
def y1q6 (s : St) : OX := yb9 (s 2) (s 3) (s 5) (s 7) (s 8) (s 26) (s 27) s.h
theorem y18h : T1 yvu y7w (y1 1 y7w (y1 0 y2p xN)) [.t 4] y1q6 := sq y178 fun _ => by kernel_rfl
def y171 (v2 v3 v5 v26 v27 : AV) (h : Heap) : OX :=
ob (yf9 false 4 1 v26 v27) fun v30 =>
(yb9 v2 v3 v5 v27 v30 v26 v27 h)
def ynf (s : St) : OX := y171 (s 2) (s 3) (s 5) (s 26) (s 27) s.h
theorem y1c3 : T1 yu8 y7w (y1 1 y7w (y1 0 y2p xN)) [.t 4] ynf := sq y18h fun _ => by kernel_rfl
theorem y1cj : T1 ypb y7w (y1 0 y2p xN) [.t 4] ynf := fun s => yk.trans (y1c3 s)
theorem y17e : T1 yw8 y67 (y1 0 y2p xN) [.t 4] ynf := sq y16n y1cj
def ywu (v2 v3 v5 v26 v27 v28 : AV) (h : Heap) : OX :=
cnd v28
 ((y171 v2 v3 v5 v26 v27 h))
 ((ykd v2 v3 h))
def y1rj (s : St) : OX := ywu (s 2) (s 3) (s 5) (s 26) (s 27) (s 28) s.h
theorem y162 : T1 yqx y67 (y1 0 y2p xN) [.t 4] y1rj := sq y17e fun _ => by kernel_rfl
def ysz (v2 v3 v5 v26 v27 : AV) (h : Heap) : OX :=
ob (y2 .lss v27 (AV.int .i64 4)) fun v28 =>
(ywu v2 v3 v5 v26 v27 v28 h)
def y1r0 (s : St) : OX := ysz (s 2) (s 3) (s 5) (s 26) (s 27) s.h
theorem y13m : T1 ysb y67 (y1 0 y2p xN) [.t 4] y1r0 := sq y162 fun _ => by kernel_rfl
theorem yhp (v2 v3 v5 v26 v27 : AV) (h : Heap) : y9e v2 v3 v5 v26 v27 h = (ysz v2 v3 v5 v26 v27 h) :=
  y2b.trans ((y1h _ _ _ (n' := y67) (fun s => yha s)).trans ((y13m _).trans (by kernel_rfl)))
theorem y18g : T1 yrb y2p xN [.t 4] y67 := fun s => yk.trans (yha s)
def y173 (v2 v3 v5 : AV) (h : Heap) : OX :=
ob (evFa 1 v3) fun v18 =>
ob (evLd false 1 v18 h) fun v19 =>
ob (evFa 2 v3) fun v20 =>
ob (evLd false 1 v20 h) fun v21 =>
ob (evFa 3 v3) fun v22 =>
ob (evLd false 1 v22 h) fun v23 =>
ob (evFa 4 v3) fun v24 =>
ob (evLd false 1 v24 h) fun v25 =>
ob (yb [(.int .i64 0), (.int .i64 0), (.int .i64 0), (.int .i64 0)] [(0, 1, v19), (1, 1, v21), (2, 1, v23), (3, 1, v25)]) fun v26 =>
(y9e v2 v3 v5 v26 (AV.int .i64 0) h)
def y1ep (s : St) : OX := y173 (s 2) (s 3) (s 5) s.h
theorem y1ay : T1 yty y2p xN [.t 4] y1ep := sq y18g fun _ => by kernel_rfl
theorem y1fo : T0 ytf [.t 4] y1ep := sq y1eg y1ay
def yva (v2 v3 v5 v6 : AV) (h : Heap) : OX :=
ob (evUn .not v6) fun v17 =>
cnd v17
 ((y7 h (AV.bool false)))
 ((y173 v2 v3 v5 h))
def y1vq (s : St) : OX := yva (s 2) (s 3) (s 5) (s 6) s.h
theorem y190 : T0 ytm [.t 4] y1vq := sq y1fo fun _ => by kernel_rfl
def yum (v2 v3 : AV) (h : Heap) : OX :=
ob (evLd true 9 v3 h) fun v12 =>
oh (y4 E (y5 E) 0 none true 47 [v12] h) fun v13 h3 =>
ob (y6e 0 v13) fun v14 =>
ob (y6e 1 v13) fun v15 =>
oh (newC 0 (some 2) [(.int .i64 0), (.int .i64 0), (.int .i64 0), (.int .i64 0)] h3) fun v5 h4 =>
oh (evSt 4 v5 v14 h4) fun _ h5 =>
(yva v2 v3 v5 v15 h5)
def y1v6 (s : St) : OX := yum (s 2) (s 3) s.h
theorem y1a5 : T0 ypr [.t 4] y1v6 := sq y190 fun _ => by kernel_rfl
def ym2 (v0 v1 : AV) (h : Heap) : OX :=
oh (newC 0 (some 0) (cellsOf v0) h) fun v2 h6 =>
oh (newC 0 (some 1) (cellsOf v1) h6) fun v3 h7 =>
(yum v2 v3 h7)
def y1ul (s : St) : OX := ym2 (s 0) (s 1) s.h
theorem y1c0 : T0 ypg [.t 4] y1ul := sq y1a5 fun _ => by kernel_rfl
@[simp] theorem y24h : E.pure 63 = true := rfl
theorem y233 (v0 v1 : AV) : (y5 E).p 63 [v0, v1] = ym2 v0 v1 [⟨0, .dead⟩, ⟨0, .dead⟩, ⟨0, .dead⟩] :=
  (y10 (cf := y1xl) (by kernel_rfl) rfl).trans ((y1c0 _).trans (by kernel_rfl))
def y1ts (v0 : AV) (h : Heap) : OX :=
oh (newC 0 (some 0) (cellsOf v0) h) fun v1 h1 =>
ob (evFa 0 v1) fun v3 =>
ob (evLd false 1 v3 h1) fun v4 =>
ob (y2 .eql v4 (AV.int .i64 27)) fun v5 =>
gb v5 false (evFa 0 v1) fun v7 =>
gb v5 false (evLd false 1 v7 h1) fun v8 =>
gb v5 false (y2 .eql v8 (AV.int .i64 28)) fun v9 =>
ob (y9 v5 (AV.bool true) v9) fun v10 =>
gb v10 false (evFa 0 v1) fun v12 =>
gb v10 false (evLd false 1 v12 h1) fun v13 =>
gb v10 false (y2 .eql v13 (AV.int .i64 29)) fun v14 =>
ob (y9 v10 (AV.bool true) v14) fun v15 =>
(y7 h1 v15)
def y1zc (s : St) : OX := y1ts (s 0) s.h
theorem y1kj : T0 y0d [.t 2] y1zc := fun _ => by kernel_rfl
@[simp] theorem y249 : E.pure 22 = true := rfl
theorem y25h (v0 : AV) : (y5 E).p 22 [v0] = y1ts v0 [⟨0, .dead⟩] :=
  (y10 (cf := y21b) (by kernel_rfl) rfl).trans ((y1kj _).trans (by kernel_rfl))
def y1ur (v3 : AV) (h : Heap) : OX :=
(y7 h v3)
def y74 (s : St) : OX := y1ur (s 3) s.h
theorem y1k7 : T0 y1g9 [.t 2] y74 := fun _ => by kernel_rfl
def yhh (v1 v3 v4 : AV) (h : Heap) : OX :=
  W E 0 yjv ⟨[(1, v1), (3, v3), (4, v4)], h⟩ y74 (y1 0 y74 xN) (finP [.t 2])
def y3f (s : St) : OX := yhh (s 1) (s 3) (s 4) s.h
theorem ylu : T1 yjv y74 (y1 0 y74 xN) [.t 2] y3f := fun s => yf.trans (by kernel_rfl)
def y1jo (v1 v3 v4 v5 : AV) (h : Heap) : OX :=
ob (yi 1 v3 v5) fun v41 =>
oh (evSt 1 v41 (AV.bool true) h) fun _ h1 =>
ob (evLd true 5 v1 h1) fun v43 =>
oh (y4 E (y5 E) 0 none true 81 [v43, v5] h1) fun v45 h2 =>
oh (y2g 0 (some 3) 1 8 v4 v45 h2) fun v46 h3 =>
ob (evLd true 5 v1 h3) fun v48 =>
oh (y4 E (y5 E) 0 none true 79 [v48, v5] h3) fun v50 h4 =>
oh (y2g 0 (some 4) 1 8 v46 v50 h4) fun v51 h5 =>
(yhh v1 v3 v51 h5)
def y1yb (s : St) : OX := y1jo (s 1) (s 3) (s 4) (s 5) s.h
theorem y1jb : T1 y121 y3f (y1 1 y3f (y1 0 y74 xN)) [.t 2] y1yb := fun _ => by kernel_rfl
def yjz (v1 v3 v4 v5 : AV) (h : Heap) : OX :=
ob (y2 .lss v5 (AV.int .i64 0)) fun v26 =>
gb v26 false (some v5) fun v28 =>
gb v26 false (some v3) fun v29 =>
gb v26 false (yy 1 v29 h) fun v30 =>
gb v26 false (y2 .geq v28 v30) fun v31 =>
ob (y9 v26 (AV.bool true) v31) fun v32 =>
gb v32 false (some v3) fun v34 =>
gb v32 false (some v5) fun v35 =>
gb v32 false (yi 1 v34 v35) fun v36 =>
gb v32 false (evLd false 1 v36 h) fun v37 =>
ob (y9 v32 (AV.bool true) v37) fun v38 =>
cnd v38
 ((yhh v1 v3 v4 h))
 ((y1jo v1 v3 v4 v5 h))
def y1x6 (s : St) : OX := yjz (s 1) (s 3) (s 4) (s 5) s.h
theorem y1gw : T1 y16x y3f (y1 1 y3f (y1 0 y74 xN)) [.t 2] y1x6 := sq y1jb fun _ => by kernel_rfl
def y1u3 (v1 v3 v4 v5 : AV) (h : Heap) : OX :=
ob (yy 1 v4 h) fun v22 =>
ob (y2 .sub v22 (AV.int .i64 1)) fun v23 =>
ob (ybc 1 v4 none (some v23)) fun v24 =>
(yjz v1 v3 v24 v5 h)
def y20q (s : St) : OX := y1u3 (s 1) (s 3) (s 4) (s 5) s.h
theorem y1kb : T1 yzo y3f (y1 1 y3f (y1 0 y74 xN)) [.t 2] y20q := sq y1gw fun _ => by kernel_rfl
def y1q2 (v1 v3 v4 : AV) (h : Heap) : OX :=
ob (yy 1 v4 h) fun v16 =>
ob (y2 .sub v16 (AV.int .i64 1)) fun v17 =>
ob (yi 1 v4 v17) fun v18 =>
ob (evLd false 1 v18 h) fun v19 =>
(y1u3 v1 v3 v4 v19 h)
def y1oo (s : St) : OX := y1q2 (s 1) (s 3) (s 4) s.h
theorem y1m4 : T1 y133 y3f (y1 1 y3f (y1 0 y74 xN)) [.t 2] y1oo := sq y1kb fun _ => by kernel_rfl
theorem y1np : T1 y12e y3f (y1 0 y74 xN) [.t 2] y1oo := fun s => yk.trans (y1m4 s)
def y1d2 (v1 v3 v4 : AV) (h : Heap) : OX :=
ob (yy 1 v4 h) fun v12 =>
ob (y2 .gtr v12 (AV.int .i64 0)) fun v13 =>
cnd v13
 ((y1q2 v1 v3 v4 h))
 ((y1ur v3 h))
def y21g (s : St) : OX := y1d2 (s 1) (s 3) (s 4) s.h
theorem y1gp : T1 y19u y3f (y1 0 y74 xN) [.t 2] y21g := sq y1np fun _ => by kernel_rfl
theorem y11c (v1 v3 v4 : AV) (h : Heap) : yhh v1 v3 v4 h = (y1d2 v1 v3 v4 h) :=
  y2b.trans ((y1h _ _ _ (n' := y3f) (fun s => ylu s)).trans ((y1gp _).trans (by kernel_rfl)))
theorem y1kn : T1 y11h y74 xN [.t 2] y3f := fun s => yk.trans (ylu s)
theorem y1ef : T0 ytl [.t 2] y3f := sq y1k7 y1kn
def y17n (v1 v3 : AV) (h : Heap) : OX :=
oh (y14 0 (some 2) 1 1 [(.int .i64 0)] [(0, (AV.int .i64 0))] h) fun v10 h6 =>
(yhh v1 v3 v10 h6)
def y1vx (s : St) : OX := y17n (s 1) (s 3) s.h
theorem y19b : T0 yri [.t 2] y1vx := sq y1ef fun _ => by kernel_rfl
def y18r (v1 : AV) (h : Heap) : OX :=
ob (evFa 3 v1) fun v6 =>
ob (evLd false 1 v6 h) fun v7 =>
ob (yy 1 v7 h) fun v8 =>
oh (mkSC 0 (some 1) 1 1 [(.bool false)] v8 v8 h) fun v9 h7 =>
(y17n v1 v9 h7)
def y1qw (s : St) : OX := y18r (s 1) s.h
theorem y192 : T0 yso [.t 2] y1qw := sq y19b fun _ => by kernel_rfl
def yzm (v0 : AV) (h : Heap) : OX :=
oh (newC 0 (some 0) (cellsOf v0) h) fun v1 h8 =>
(y18r v1 h8)
def y1qa (s : St) : OX := yzm (s 0) s.h
theorem y17s : T0 ywg [.t 2] y1qa := sq y192 fun _ => by kernel_rfl
@[simp] theorem y228 : E.pure 101 = true := rfl
theorem y247 (v0 : AV) : (y5 E).p 101 [v0] = yzm v0 [⟨0, .dead⟩, ⟨0, .dead⟩, ⟨0, .dead⟩, ⟨0, .dead⟩, ⟨0, .dead⟩] :=
  (y10 (cf := y1ww) (by kernel_rfl) rfl).trans ((y17s _).trans (by kernel_rfl))
def y15m (v5 : AV) (h : Heap) : OX :=
(y7 h v5)
def y4b (s : St) : OX := y15m (s 5) s.h
theorem y1mk : T0 y12b [.t 4] y4b := fun _ => by kernel_rfl
def yl3 (v1 v5 v27 v28 v29 : AV) (h : Heap) : OX :=
  W E 0 yjw ⟨[(1, v1), (5, v5), (27, v27), (28, v28), (29, v29)], h⟩ y4b (y1 0 y4b xN) (finP [.t 4])
def y9f (s : St) : OX := yl3 (s 1) (s 5) (s 27) (s 28) (s 29) s.h
theorem ylp : T1 yjw y4b (y1 0 y4b xN) [.t 4] y9f := fun s => yf.trans (by kernel_rfl)
def yyw (v1 v5 v27 v28 v29 : AV) (h : Heap) : OX :=
ob (y2 .add v29 (AV.int .i64 1)) fun v56 =>
(yl3 v1 v5 v27 v28 v56 h)
def y93 (s : St) : OX := yyw (s 1) (s 5) (s 27) (s 28) (s 29) s.h
theorem y1mh : T1 y17z y9f (y1 0 y4b xN) [.t 4] y93 := fun _ => by kernel_rfl
def yxz (v1 v5 v7 v27 v28 v29 : AV) (h : Heap) : OX :=
ob (evFa 3 v7) fun v53 =>
ob (evLd false 1 v53 h) fun v54 =>
ob (y2 .eql v54 (AV.str [])) fun v55 =>
cnd v55
 ((y15m v5 h))
 ((yyw v1 v5 v27 v28 v29 h))
def y1xk (s : St) : OX := yxz (s 1) (s 5) (s 7) (s 27) (s 28) (s 29) s.h
theorem y1i3 : T1 y0p y93 (y1 1 y93 (y1 0 y4b xN)) [.t 4] y1xk := fun _ => by kernel_rfl
def y1in (v1 v5 v7 v27 v28 v29 : AV) (h : Heap) : OX :=
ob (evFa 2 v7) fun v44 =>
ob (evLd false 1 v44 h) fun v45 =>
oh (y4 E (y5 E) 0 none true 46 [v5, v45] h) fun v46 h1 =>
ob (evUn .not v46) fun v47 =>
cnd v47
 (ob (evFa 2 v7) fun v49 =>
ob (evLd false 1 v49 h1) fun v50 =>
oh (y14 0 (some 2) 1 1 [(.int .i64 0)] [(0, v50)] h1) fun v51 h2 =>
oh (y2g 0 (some 3) 1 8 v5 v51 h2) fun v52 h3 =>
(yxz v1 v52 v7 v27 v28 v29 h3))
 ((yxz v1 v5 v7 v27 v28 v29 h1))
def y1xt (s : St) : OX := y1in (s 1) (s 5) (s 7) (s 27) (s 28) (s 29) s.h
theorem y1k2 : T1 y15j y93 (y1 1 y93 (y1 0 y4b xN)) [.t 4] y1xt := sq y1i3 fun _ => by kernel_rfl
def ynm (v1 v5 v7 v27 v28 v29 : AV) (h : Heap) : OX :=
ob (evFa 0 v7) fun v34 =>
ob (evLd false 1 v34 h) fun v35 =>
ob (y2 .lss v1 v35) fun v36 =>
gb v36 false (some v1) fun v38 =>
gb v36 false (evFa 1 v7) fun v39 =>
gb v36 false (evLd false 1 v39 h) fun v40 =>
gb v36 false (y2 .geq v38 v40) fun v41 =>
ob (y9 v36 (AV.bool true) v41) fun v42 =>
cnd v42
 ((yyw v1 v5 v27 v28 v29 h))
 ((y1in v1 v5 v7 v27 v28 v29 h))
def y1ym (s : St) : OX := ynm (s 1) (s 5) (s 7) (s 27) (s 28) (s 29) s.h
theorem y1l2 : T1 y18n y93 (y1 1 y93 (y1 0 y4b xN)) [.t 4] y1ym := sq y1k2 fun _ => by kernel_rfl
def y1tr (v1 v5 v27 v28 v29 : AV) (h : Heap) : OX :=
ob (yi 4 v27 v29) fun v31 =>
ob (evLd true 4 v31 h) fun v32 =>
oh (newC 0 (some 1) [(.int .i64 0), (.int .i64 0), (.int .i64 0), (.str [])] h) fun v7 h4 =>
oh (evSt 4 v7 v32 h4) fun _ h5 =>
(ynm v1 v5 v7 v27 v28 v29 h5)
def y1b8 (s : St) : OX := y1tr (s 1) (s 5) (s 27) (s 28) (s 29) s.h
theorem y1n9 : T1 y1c9 y93 (y1 1 y93 (y1 0 y4b xN)) [.t 4] y1b8 := sq y1l2 fun _ => by kernel_rfl
theorem y1l4 : T1 y114 y93 (y1 0 y4b xN) [.t 4] y1b8 := fun s => yk.trans (y1n9 s)
theorem y1mt : T1 y181 y9f (y1 0 y4b xN) [.t 4] y1b8 := sq y1mh y1l4
def yvv (v1 v5 v27 v28 v29 v30 : AV) (h : Heap) : OX :=
cnd v30
 ((y1tr v1 v5 v27 v28 v29 h))
 ((y15m v5 h))
def y1vc (s : St) : OX := yvv (s 1) (s 5) (s 27) (s 28) (s 29) (s 30) s.h
theorem y1ea : T1 ys3 y9f (y1 0 y4b xN) [.t 4] y1vc := sq y1mt fun _ => by kernel_rfl
def yll (v1 v5 v27 v28 v29 : AV) (h : Heap) : OX :=
ob (y2 .lss v29 v28) fun v30 =>
(yvv v1 v5 v27 v28 v29 v30 h)
def y1us (s : St) : OX := yll (s 1) (s 5) (s 27) (s 28) (s 29) s.h
theorem y175 : T1 yrz y9f (y1 0 y4b xN) [.t 4] y1us := sq y1ea fun _ => by kernel_rfl
theorem yla (v1 v5 v27 v28 v29 : AV) (h : Heap) : yl3 v1 v5 v27 v28 v29 h = (yll v1 v5 v27 v28 v29 h) :=
  y2b.trans ((y1h _ _ _ (n' := y9f) (fun s => ylp s)).trans ((y175 _).trans (by kernel_rfl)))
theorem y0q : T1 yq7 y4b xN [.t 4] y9f := fun s => yk.trans (ylp s)
def y130 (v1 v2 v5 : AV) (h : Heap) : OX :=
ob (evFa 4 v2) fun v26 =>
ob (evLd false 1 v26 h) fun v27 =>
ob (yy 1 v27 h) fun v28 =>
(yl3 v1 v5 v27 v28 (AV.int .i64 0) h)
def y147 (s : St) : OX := y130 (s 1) (s 2) (s 5) s.h
theorem y16u : T1 yuh y4b xN [.t 4] y147 := sq y0q fun _ => by kernel_rfl
theorem y07 : T0 yuy [.t 4] y147 := sq y1mk y16u
def y13t (v1 v2 : AV) (h : Heap) : OX :=
(y130 v1 v2 AV.nils h)
def y1tm (s : St) : OX := y13t (s 1) (s 2) s.h
theorem y1fc : T0 yu0 [.t 4] y1tm := sq y07 fun _ => by kernel_rfl
def ygi (v1 v2 : AV) (h : Heap) : OX :=
ob (y2 .lss v1 (AV.int .i64 0)) fun v9 =>
gb v9 false (some v1) fun v11 =>
gb v9 false (evFa 3 v2) fun v12 =>
gb v9 false (evLd false 1 v12 h) fun v13 =>
gb v9 false (yy 1 v13 h) fun v14 =>
gb v9 false (y2 .geq v11 v14) fun v15 =>
ob (y9 v9 (AV.bool true) v15) fun v16 =>
gb v16 false (evFa 3 v2) fun v18 =>
gb v16 false (evLd false 1 v18 h) fun v19 =>
gb v16 false (some v1) fun v20 =>
gb v16 false (yi 9 v19 v20) fun v21 =>
gb v16 false (evLd true 9 v21 h) fun v22 =>
gh v16 false (y4 E (y5 E) 0 none true 18 [v22] h) h fun v23 h6 =>
gb v16 false (evUn .not v23) fun v24 =>
ob (y9 v16 (AV.bool true) v24) fun v25 =>
cnd v25
 ((y7 h6 AV.nils))
 ((y13t v1 v2 h6))
def y1qb (s : St) : OX := ygi (s 1) (s 2) s.h
theorem y18y : T0 ywz [.t 4] y1qb := sq y1fc fun _ => by kernel_rfl
def yhu (v0 v1 : AV) (h : Heap) : OX :=
oh (newC 0 (some 0) (cellsOf v0) h) fun v2 h7 =>
(ygi v1 v2 h7)
def y1u9 (s : St) : OX := yhu (s 0) (s 1) s.h
theorem y1fr : T0 yp3 [.t 4] y1u9 := sq y18y fun _ => by kernel_rfl
@[simp] theorem y22z : E.pure 79 = true := rfl
theorem y24b (v0 v1 : AV) : (y5 E).p 79 [v0, v1] = yhu v0 v1 [⟨0, .dead⟩, ⟨0, .dead⟩, ⟨0, .dead⟩, ⟨0, .dead⟩] :=
  (y10 (cf := y20u) (by kernel_rfl) rfl).trans ((y1fr _).trans (by kernel_rfl))
def yfy (v6 : AV) (h : Heap) : OX :=
(y7 h v6)
def y1x8 (s : St) : OX := yfy (s 6) s.h
theorem y1hv : T0 y11x [.t 4] y1x8 := fun _ => by kernel_rfl
def yg9 (v5 v6 : AV) (h : Heap) : OX :=
ob (evLd true 9 v5 h) fun v29 =>
oh (y4 E (y5 E) 0 none true 22 [v29] h) fun v30 h1 =>
gb v30 true (some v6) fun v32 =>
gb v30 true (evFa 6 v5) fun v33 =>
gb v30 true (evLd false 1 v33 h1) fun v34 =>
gh v30 true (y4 E (y5 E) 0 none true 46 [v32, v34] h1) h1 fun v35 h2 =>
gb v30 true (evUn .not v35) fun v36 =>
ob (y9 v30 v36 (AV.bool false)) fun v37 =>
cnd v37
 (ob (evFa 6 v5) fun v39 =>
ob (evLd false 1 v39 h2) fun v40 =>
oh (y14 0 (some 4) 1 1 [(.int .i64 0)] [(0, v40)] h2) fun v41 h3 =>
oh (y2g 0 (some 5) 1 8 v6 v41 h3) fun v42 h4 =>
(yfy v42 h4))
 ((yfy v6 h2))
def y21k (s : St) : OX := yg9 (s 5) (s 6) s.h
theorem y1gu : T0 y1d7 [.t 4] y21k := sq y1hv fun _ => by kernel_rfl
def yg6 (v1 v5 v6 : AV) (h : Heap) : OX :=
ob (evLd true 9 v5 h) fun v21 =>
oh (y4 E (y5 E) 0 none true 24 [v21] h) fun v22 h5 =>
ob (evUn .not v22) fun v23 =>
cnd v23
 (ob (y2 .add v1 (AV.int .i64 1)) fun v26 =>
oh (y14 0 (some 2) 1 1 [(.int .i64 0)] [(0, v26)] h5) fun v27 h6 =>
oh (y2g 0 (some 3) 1 8 v6 v27 h6) fun v28 h7 =>
(yg9 v5 v28 h7))
 ((yg9 v5 v6 h5))
def y1zi (s : St) : OX := yg6 (s 1) (s 5) (s 6) s.h
theorem y1jv : T0 y144 [.t 4] y1zi := sq y1gu fun _ => by kernel_rfl
def y1bw (v1 v5 : AV) (h : Heap) : OX :=
(yg6 v1 v5 AV.nils h)
def y204 (s : St) : OX := y1bw (s 1) (s 5) s.h
theorem y1ng : T0 y1da [.t 4] y204 := sq y1jv fun _ => by kernel_rfl
def y154 (v1 v2 : AV) (h : Heap) : OX :=
ob (evFa 3 v2) fun v16 =>
ob (evLd false 1 v16 h) fun v17 =>
ob (yi 9 v17 v1) fun v19 =>
ob (evLd true 9 v19 h) fun v20 =>
oh (newC 0 (some 1) [(.int .i64 0), (.int .i64 0), (.int .i64 0), (.int .i64 0), (.int .i64 0), (.int .i64 0), (.int .i64 0), (.str []), .nils] h) fun v5 h8 =>
oh (evSt 9 v5 v20 h8) fun _ h9 =>
(y1bw v1 v5 h9)
def y1y0 (s : St) : OX := y154 (s 1) (s 2) s.h
theorem y1jr : T0 y15l [.t 4] y1y0 := sq y1ng fun _ => by kernel_rfl
def y13p (v1 v2 : AV) (h : Heap) : OX :=
ob (y2 .lss v1 (AV.int .i64 0)) fun v8 =>
gb v8 false (some v1) fun v10 =>
gb v8 false (evFa 3 v2) fun v11 =>
gb v8 false (evLd false 1 v11 h) fun v12 =>
gb v8 false (yy 1 v12 h) fun v13 =>
gb v8 false (y2 .geq v10 v13) fun v14 =>
ob (y9 v8 (AV.bool true) v14) fun v15 =>
cnd v15
 ((y7 h AV.nils))
 ((y154 v1 v2 h))
def y1xs (s : St) : OX := y13p (s 1) (s 2) s.h
theorem y1nf : T0 y03 [.t 4] y1xs := sq y1jr fun _ => by kernel_rfl
def yy8 (v0 v1 : AV) (h : Heap) : OX :=
oh (newC 0 (some 0) (cellsOf v0) h) fun v2 h10 =>
(y13p v1 v2 h10)
def y20r (s : St) : OX := yy8 (s 0) (s 1) s.h
theorem y1ik : T0 y137 [.t 4] y20r := sq y1nf fun _ => by kernel_rfl
@[simp] theorem y25j : E.pure 81 = true := rfl
theorem y24z (v0 v1 : AV) : (y5 E).p 81 [v0, v1] = yy8 v0 v1 [⟨0, .dead⟩, ⟨0, .dead⟩, ⟨0, .dead⟩, ⟨0, .dead⟩, ⟨0, .dead⟩, ⟨0, .dead⟩] :=
  (y10 (cf := y1wy) (by kernel_rfl) rfl).trans ((y1ik _).trans (by kernel_rfl))
def y1vi (v10 : AV) (h : Heap) : OX :=
(y7 h v10)
def y80 (s : St) : OX := y1vi (s 10) s.h
theorem y1m9 : T0 yzd [.t 2] y80 := fun _ => by kernel_rfl
def ylm (v3 v10 v96 v97 : AV) (h : Heap) : OX :=
  W E 0 yjo ⟨[(3, v3), (10, v10), (96, v96), (97, v97)], h⟩ y80 (y1 6 y80 xN) (finP [.t 2])
def y9s (s : St) : OX := ylm (s 3) (s 10) (s 96) (s 97) s.h
theorem yke : T1 yjo y80 (y1 6 y80 xN) [.t 2] y9s := fun s => yf.trans (by kernel_rfl)
def y19v (v3 v10 v96 v97 : AV) (h : Heap) : OX :=
ob (y2 .add v97 (AV.int .i64 1)) fun v108 =>
(ylm v3 v10 v96 v108 h)
def y20x (s : St) : OX := y19v (s 3) (s 10) (s 96) (s 97) s.h
theorem y1lt : T1 y13g y9s (y1 6 y80 xN) [.t 2] y20x := fun _ => by kernel_rfl
def y1ke (v3 v10 v96 v97 : AV) (h : Heap) : OX :=
ob (yi 1 v3 v97) fun v102 =>
ob (evLd false 1 v102 h) fun v103 =>
cnd v103
 (oh (y14 0 (some 5) 1 1 [(.int .i64 0)] [(0, v97)] h) fun v106 h1 =>
oh (y2g 0 (some 6) 1 8 v10 v106 h1) fun v107 h2 =>
(y19v v3 v107 v96 v97 h2))
 ((y19v v3 v10 v96 v97 h))
def y219 (s : St) : OX := y1ke (s 3) (s 10) (s 96) (s 97) s.h
theorem y1m0 : T1 y139 y9s (y1 6 y80 xN) [.t 2] y219 := sq y1lt fun _ => by kernel_rfl
def y14j (v3 v10 v96 v97 v98 : AV) (h : Heap) : OX :=
cnd v98
 ((y1ke v3 v10 v96 v97 h))
 ((y1vi v10 h))
def y21m (s : St) : OX := y14j (s 3) (s 10) (s 96) (s 97) (s 98) s.h
theorem y1n2 : T1 y112 y9s (y1 6 y80 xN) [.t 2] y21m := sq y1m0 fun _ => by kernel_rfl
def y19j (v3 v10 v96 v97 : AV) (h : Heap) : OX :=
ob (y2 .lss v97 v96) fun v98 =>
(y14j v3 v10 v96 v97 v98 h)
def y1zs (s : St) : OX := y19j (s 3) (s 10) (s 96) (s 97) s.h
theorem y1lp : T1 y11j y9s (y1 6 y80 xN) [.t 2] y1zs := sq y1n2 fun _ => by kernel_rfl
theorem ykp (v3 v10 v96 v97 : AV) (h : Heap) : ylm v3 v10 v96 v97 h = (y19j v3 v10 v96 v97 h) :=
  y2b.trans ((y1h _ _ _ (n' := y9s) (fun s => yke s)).trans ((y1lp _).trans (by kernel_rfl)))
theorem y1jw : T1 y1by y80 xN [.t 2] y9s := fun s => yk.trans (yke s)
def y1vj (v1 v3 v10 : AV) (h : Heap) : OX :=
ob (evFa 3 v1) fun v94 =>
ob (evLd false 1 v94 h) fun v95 =>
ob (yy 1 v95 h) fun v96 =>
(ylm v3 v10 v96 (AV.int .i64 0) h)
def y1o7 (s : St) : OX := y1vj (s 1) (s 3) (s 10) s.h
theorem y1mb : T1 y1f5 y80 xN [.t 2] y1o7 := sq y1jw fun _ => by kernel_rfl
theorem y1gz : T0 y1b0 [.t 2] y1o7 := sq y1m9 y1mb
def yhv (v1 v3 : AV) (h : Heap) : OX :=
(y1vj v1 v3 AV.nils h)
def y1z (s : St) : OX := yhv (s 1) (s 3) s.h
theorem y194 : T0 yr4 [.t 2] y1z := sq y1gz fun _ => by kernel_rfl
def yfv (v1 v3 v62 v63 v64 : AV) (h : Heap) : OX :=
  W E 0 yes ⟨[(1, v1), (3, v3), (62, v62), (63, v63), (64, v64)], h⟩ y1z (y1 2 y1z xN) (finP [.t 2])
def y61 (s : St) : OX := yfv (s 1) (s 3) (s 62) (s 63) (s 64) s.h
theorem ygs : T1 yes y1z (y1 2 y1z xN) [.t 2] y61 := fun s => yf.trans (by kernel_rfl)
def ywl (v1 v3 v62 v63 v64 : AV) (h : Heap) : OX :=
ob (y2 .add v64 (AV.int .i64 1)) fun v93 =>
(yfv v1 v3 v62 v63 v93 h)
def y1q (s : St) : OX := ywl (s 1) (s 3) (s 62) (s 63) (s 64) s.h
theorem y1aw : T1 yt7 y61 (y1 2 y1z xN) [.t 2] y1q := fun _ => by kernel_rfl
def ybs (v1 v3 v62 v63 v64 v74 v75 v76 : AV) (h : Heap) : OX :=
  W E 0 ye9 ⟨[(1, v1), (3, v3), (62, v62), (63, v63), (64, v64), (74, v74), (75, v75), (76, v76)], h⟩ y1q (y1 4 y1q (y1 3 y1q (y1 2 y1z xN))) (finP [.t 2])
def y5y (s : St) : OX := ybs (s 1) (s 3) (s 62) (s 63) (s 64) (s 74) (s 75) (s 76) s.h
theorem yic : T1 ye9 y1q (y1 4 y1q (y1 3 y1q (y1 2 y1z xN))) [.t 2] y5y := fun s => yf.trans (by kernel_rfl)
def yhb (v1 v3 v62 v63 v64 v74 v75 v76 : AV) (h : Heap) : OX :=
ob (y2 .add v76 (AV.int .i64 1)) fun v92 =>
(ybs v1 v3 v62 v63 v64 v74 v75 v92 h)
def y1pq (s : St) : OX := yhb (s 1) (s 3) (s 62) (s 63) (s 64) (s 74) (s 75) (s 76) s.h
theorem y17i : T1 yqt y5y (y1 4 y1q (y1 3 y1q (y1 2 y1z xN))) [.t 2] y1pq := fun _ => by kernel_rfl
def ylo (v1 v3 v62 v63 v64 v74 v75 v76 : AV) (h : Heap) : OX :=
ob (yi 1 v74 v76) fun v78 =>
ob (evLd false 1 v78 h) fun v79 =>
ob (y2 .geq v79 (AV.int .i64 0)) fun v81 =>
gb v81 true (some v79) fun v83 =>
gb v81 true (evFa 3 v1) fun v84 =>
gb v81 true (evLd false 1 v84 h) fun v85 =>
gb v81 true (yy 1 v85 h) fun v86 =>
gb v81 true (y2 .lss v83 v86) fun v87 =>
ob (y9 v81 v87 (AV.bool false)) fun v88 =>
cnd v88
 (ob (yi 1 v3 v79) fun v91 =>
oh (evSt 1 v91 (AV.bool true) h) fun _ h3 =>
(yhb v1 v3 v62 v63 v64 v74 v75 v76 h3))
 ((yhb v1 v3 v62 v63 v64 v74 v75 v76 h))
def y1qd (s : St) : OX := ylo (s 1) (s 3) (s 62) (s 63) (s 64) (s 74) (s 75) (s 76) s.h
theorem y1gb : T1 ypm y5y (y1 4 y1q (y1 3 y1q (y1 2 y1z xN))) [.t 2] y1qd := sq y17i fun _ => by kernel_rfl
def ygg (v1 v3 v62 v63 v64 v74 v75 v76 v77 : AV) (h : Heap) : OX :=
cnd v77
 ((ylo v1 v3 v62 v63 v64 v74 v75 v76 h))
 ((ywl v1 v3 v62 v63 v64 h))
def y1ri (s : St) : OX := ygg (s 1) (s 3) (s 62) (s 63) (s 64) (s 74) (s 75) (s 76) (s 77) s.h
theorem y172 : T1 ysu y5y (y1 4 y1q (y1 3 y1q (y1 2 y1z xN))) [.t 2] y1ri := sq y1gb fun _ => by kernel_rfl
def yhe (v1 v3 v62 v63 v64 v74 v75 v76 : AV) (h : Heap) : OX :=
ob (y2 .lss v76 v75) fun v77 =>
(ygg v1 v3 v62 v63 v64 v74 v75 v76 v77 h)
def y1u7 (s : St) : OX := yhe (s 1) (s 3) (s 62) (s 63) (s 64) (s 74) (s 75) (s 76) s.h
theorem y1f3 : T1 yu3 y5y (y1 4 y1q (y1 3 y1q (y1 2 y1z xN))) [.t 2] y1u7 := sq y172 fun _ => by kernel_rfl
theorem yi5 (v1 v3 v62 v63 v64 v74 v75 v76 : AV) (h : Heap) : ybs v1 v3 v62 v63 v64 v74 v75 v76 h = (yhe v1 v3 v62 v63 v64 v74 v75 v76 h) :=
  y2b.trans ((y1h _ _ _ (n' := y5y) (fun s => yic s)).trans ((y1f3 _).trans (by kernel_rfl)))
theorem yzs : T1 yvo y1q (y1 3 y1q (y1 2 y1z xN)) [.t 2] y5y := fun s => yk.trans (yic s)
def y1bk (v1 v3 v7 v62 v63 v64 : AV) (h : Heap) : OX :=
ob (evFa 0 v7) fun v68 =>
ob (evLd false 1 v68 h) fun v69 =>
ob (evFa 1 v7) fun v70 =>
ob (evLd false 1 v70 h) fun v71 =>
ob (evFa 2 v7) fun v72 =>
ob (evLd false 1 v72 h) fun v73 =>
oh (y14 0 (some 4) 1 3 [(.int .i64 0)] [(0, v69), (1, v71), (2, v73)] h) fun v74 h4 =>
ob (yy 1 v74 h4) fun v75 =>
(ybs v1 v3 v62 v63 v64 v74 v75 (AV.int .i64 0) h4)
def y1v3 (s : St) : OX := y1bk (s 1) (s 3) (s 7) (s 62) (s 63) (s 64) s.h
theorem y18c : T1 yx2 y1q (y1 3 y1q (y1 2 y1z xN)) [.t 2] y1v3 := sq yzs fun _ => by kernel_rfl
def y14u (v1 v3 v62 v63 v64 : AV) (h : Heap) : OX :=
ob (yi 4 v62 v64) fun v66 =>
ob (evLd true 4 v66 h) fun v67 =>
oh (newC 0 (some 3) [(.int .i64 0), (.int .i64 0), (.int .i64 0), (.str [])] h) fun v7 h5 =>
oh (evSt 4 v7 v67 h5) fun _ h6 =>
(y1bk v1 v3 v7 v62 v63 v64 h6)
def yml (s : St) : OX := y14u (s 1) (s 3) (s 62) (s 63) (s 64) s.h
theorem y1e3 : T1 ytr y1q (y1 3 y1q (y1 2 y1z xN)) [.t 2] yml := sq y18c fun _ => by kernel_rfl
theorem y170 : T1 yup y1q (y1 2 y1z xN) [.t 2] yml := fun s => yk.trans (y1e3 s)
theorem y13u : T1 yvy y61 (y1 2 y1z xN) [.t 2] yml := sq y1aw y170
def ypa (v1 v3 v62 v63 v64 v65 : AV) (h : Heap) : OX :=
cnd v65
 ((y14u v1 v3 v62 v63 v64 h))
 ((yhv v1 v3 h))
def y1ue (s : St) : OX := ypa (s 1) (s 3) (s 62) (s 63) (s 64) (s 65) s.h
theorem y19w : T1 yv6 y61 (y1 2 y1z xN) [.t 2] y1ue := sq y13u fun _ => by kernel_rfl
def yk5 (v1 v3 v62 v63 v64 : AV) (h : Heap) : OX :=
ob (y2 .lss v64 v63) fun v65 =>
(ypa v1 v3 v62 v63 v64 v65 h)
def y1sl (s : St) : OX := yk5 (s 1) (s 3) (s 62) (s 63) (s 64) s.h
theorem y1bh : T1 yqf y61 (y1 2 y1z xN) [.t 2] y1sl := sq y19w fun _ => by kernel_rfl
theorem yhc (v1 v3 v62 v63 v64 : AV) (h : Heap) : yfv v1 v3 v62 v63 v64 h = (yk5 v1 v3 v62 v63 v64 h) :=
  y2b.trans ((y1h _ _ _ (n' := y61) (fun s => ygs s)).trans ((y1bh _).trans (by kernel_rfl)))
theorem y123 : T1 yt0 y1z xN [.t 2] y61 := fun s => yk.trans (ygs s)
def yly (v1 v3 : AV) (h : Heap) : OX :=
ob (evFa 4 v1) fun v61 =>
ob (evLd false 1 v61 h) fun v62 =>
ob (yy 1 v62 h) fun v63 =>
(yfv v1 v3 v62 v63 (AV.int .i64 0) h)
def y2s (s : St) : OX := yly (s 1) (s 3) s.h
theorem y176 : T1 yqq y1z xN [.t 2] y2s := sq y123 fun _ => by kernel_rfl
theorem y14i : T0 yr3 [.t 2] y2s := sq y194 y176
def yfn (v1 v3 v24 v25 v26 : AV) (h : Heap) : OX :=
  W E 0 yfk ⟨[(1, v1), (3, v3), (24, v24), (25, v25), (26, v26)], h⟩ y2s (y1 0 y2s xN) (finP [.t 2])
def y66 (s : St) : OX := yfn (s 1) (s 3) (s 24) (s 25) (s 26) s.h
theorem yh1 : T1 yfk y2s (y1 0 y2s xN) [.t 2] y66 := fun s => yf.trans (by kernel_rfl)
def yln (v1 v3 v24 v25 v26 : AV) (h : Heap) : OX :=
ob (y2 .add v26 (AV.int .i64 1)) fun v60 =>
(yfn v1 v3 v24 v25 v60 h)
def y8b (s : St) : OX := yln (s 1) (s 3) (s 24) (s 25) (s 26) s.h
theorem y1cn : T1 ys9 y66 (y1 0 y2s xN) [.t 2] y8b := fun _ => by kernel_rfl
def yhw (v1 v3 v4 v5 v24 v25 v26 : AV) (h : Heap) : OX :=
ob (evLd true 9 v5 h) fun v50 =>
oh (y4 E (y5 E) 0 none true 22 [v50] h) fun v51 h7 =>
gb v51 false (evLd true 9 v5 h7) fun v53 =>
gh v51 false (y4 E (y5 E) 0 none true 24 [v53] h7) h7 fun v54 h8 =>
ob (y9 v51 (AV.bool true) v54) fun v55 =>
cnd v55
 (ob (y2 .add v4 (AV.int .i64 1)) fun v58 =>
ob (yi 1 v3 v58) fun v59 =>
oh (evSt 1 v59 (AV.bool true) h8) fun _ h9 =>
(yln v1 v3 v24 v25 v26 h9))
 ((yln v1 v3 v24 v25 v26 h8))
def y1tx (s : St) : OX := yhw (s 1) (s 3) (s 4) (s 5) (s 24) (s 25) (s 26) s.h
theorem y14c : T1 ysw y8b (y1 1 y8b (y1 0 y2s xN)) [.t 2] y1tx := fun _ => by kernel_rfl
def ycr (v1 v3 v4 v5 v24 v25 v26 : AV) (h : Heap) : OX :=
ob (evLd true 9 v5 h) fun v31 =>
oh (y4 E (y5 E) 0 none true 22 [v31] h) fun v32 h10 =>
gb v32 true (evFa 6 v5) fun v34 =>
gb v32 true (evLd false 1 v34 h10) fun v35 =>
gb v32 true (y2 .geq v35 (AV.int .i64 0)) fun v36 =>
ob (y9 v32 v36 (AV.bool false)) fun v37 =>
gb v37 true (evFa 6 v5) fun v39 =>
gb v37 true (evLd false 1 v39 h10) fun v40 =>
gb v37 true (evFa 3 v1) fun v41 =>
gb v37 true (evLd false 1 v41 h10) fun v42 =>
gb v37 true (yy 1 v42 h10) fun v43 =>
gb v37 true (y2 .lss v40 v43) fun v44 =>
ob (y9 v37 v44 (AV.bool false)) fun v45 =>
cnd v45
 (ob (evFa 6 v5) fun v47 =>
ob (evLd false 1 v47 h10) fun v48 =>
ob (yi 1 v3 v48) fun v49 =>
oh (evSt 1 v49 (AV.bool true) h10) fun _ h11 =>
(yhw v1 v3 v4 v5 v24 v25 v26 h11))
 ((yhw v1 v3 v4 v5 v24 v25 v26 h10))
def y1rq (s : St) : OX := ycr (s 1) (s 3) (s 4) (s 5) (s 24) (s 25) (s 26) s.h
theorem y16t : T1 yrd y8b (y1 1 y8b (y1 0 y2s xN)) [.t 2] y1rq := sq y14c fun _ => by kernel_rfl
def y13n (v1 v3 v24 v25 v26 : AV) (h : Heap) : OX :=
ob (yi 9 v24 v26) fun v29 =>
ob (evLd true 9 v29 h) fun v30 =>
oh (newC 0 (some 2) [(.int .i64 0), (.int .i64 0), (.int .i64 0), (.int .i64 0), (.int .i64 0), (.int .i64 0), (.int .i64 0), (.str []), .nils] h) fun v5 h12 =>
oh (evSt 9 v5 v30 h12) fun _ h13 =>
(ycr v1 v3 v26 v5 v24 v25 v26 h13)
def yn7 (s : St) : OX := y13n (s 1) (s 3) (s 24) (s 25) (s 26) s.h
theorem y1ft : T1 yv8 y8b (y1 1 y8b (y1 0 y2s xN)) [.t 2] yn7 := sq y16t fun _ => by kernel_rfl
theorem y1g4 : T1 ytc y8b (y1 0 y2s xN) [.t 2] yn7 := fun s => yk.trans (y1ft s)
theorem y16y : T1 ypw y66 (y1 0 y2s xN) [.t 2] yn7 := sq y1cn y1g4
def ypj (v1 v3 v24 v25 v26 v27 : AV) (h : Heap) : OX :=
cnd v27
 ((y13n v1 v3 v24 v25 v26 h))
 ((yly v1 v3 h))
def y1ry (s : St) : OX := ypj (s 1) (s 3) (s 24) (s 25) (s 26) (s 27) s.h
theorem y1g2 : T1 yvt y66 (y1 0 y2s xN) [.t 2] y1ry := sq y16y fun _ => by kernel_rfl
def ym1 (v1 v3 v24 v25 v26 : AV) (h : Heap) : OX :=
ob (y2 .lss v26 v25) fun v27 =>
(ypj v1 v3 v24 v25 v26 v27 h)
def y1ti (s : St) : OX := ym1 (s 1) (s 3) (s 24) (s 25) (s 26) s.h
theorem y16j : T1 ysi y66 (y1 0 y2s xN) [.t 2] y1ti := sq y1g2 fun _ => by kernel_rfl
theorem yid (v1 v3 v24 v25 v26 : AV) (h : Heap) : yfn v1 v3 v24 v25 v26 h = (ym1 v1 v3 v24 v25 v26 h) :=
  y2b.trans ((y1h _ _ _ (n' := y66) (fun s => yh1 s)).trans ((y16j _).trans (by kernel_rfl)))
theorem y1bp : T1 yst y2s xN [.t 2] y66 := fun s => yk.trans (yh1 s)
def ykz (v1 v3 : AV) (h : Heap) : OX :=
ob (evFa 3 v1) fun v23 =>
ob (evLd false 1 v23 h) fun v24 =>
ob (yy 1 v24 h) fun v25 =>
(yfn v1 v3 v24 v25 (AV.int .i64 0) h)
def y16q (s : St) : OX := ykz (s 1) (s 3) s.h
theorem y19s : T1 yr1 y2s xN [.t 2] y16q := sq y1bp fun _ => by kernel_rfl
theorem y129 : T0 yrh [.t 2] y16q := sq y14i y19s
def yk3 (v1 v3 : AV) (h : Heap) : OX :=
ob (evFa 3 v1) fun v17 =>
ob (evLd false 1 v17 h) fun v18 =>
ob (yy 1 v18 h) fun v19 =>
ob (y2 .gtr v19 (AV.int .i64 0)) fun v20 =>
cnd v20
 (ob (yi 1 v3 (AV.int .i64 0)) fun v22 =>
oh (evSt 1 v22 (AV.bool true) h) fun _ h14 =>
(ykz v1 v3 h14))
 ((ykz v1 v3 h))
def y1tn (s : St) : OX := yk3 (s 1) (s 3) s.h
theorem y11d : T0 yqd [.t 2] y1tn := sq y129 fun _ => by kernel_rfl
def y1gc (v1 : AV) (h : Heap) : OX :=
ob (evFa 3 v1) fun v12 =>
ob (evLd false 1 v12 h) fun v13 =>
ob (yy 1 v13 h) fun v14 =>
ob (y2 .add v14 (AV.int .i64 1)) fun v15 =>
oh (mkSC 0 (some 1) 1 1 [(.bool false)] v15 v15 h) fun v16 h15 =>
(yk3 v1 v16 h15)
def y1rz (s : St) : OX := y1gc (s 1) s.h
theorem y12h : T0 ypu [.t 2] y1rz := sq y11d fun _ => by kernel_rfl
def yth (v0 : AV) (h : Heap) : OX :=
oh (newC 0 (some 0) (cellsOf v0) h) fun v1 h16 =>
(y1gc v1 h16)
def y1uo (s : St) : OX := yth (s 0) s.h
theorem y160 : T0 yrx [.t 2] y1uo := sq y12h fun _ => by kernel_rfl
@[simp] theorem y22i : E.pure 102 = true := rfl
theorem y23k (v0 : AV) : (y5 E).p 102 [v0] = yth v0 [⟨0, .dead⟩, ⟨0, .dead⟩, ⟨0, .dead⟩, ⟨0, .dead⟩, ⟨0, .dead⟩, ⟨0, .dead⟩, ⟨0, .dead⟩] :=
  (y10 (cf := y21j) (by kernel_rfl) rfl).trans ((y160 _).trans (by kernel_rfl))
def ymk (fb : Nat) (v2 v4 : AV) (h : Heap) : Option (AV × Heap) :=
ob (evLd true 9 v2 h) fun v80 =>
oh (evSt 9 v4 v80 h) fun _ h1 =>
(ob (evLd true 9 v4 h1) fun r0 =>
  some (r0, h1))
def y1o (fb : Nat) (s : St) : Option (AV × Heap) := ymk fb (s 2) (s 4) s.h
theorem y1nd (fb : Nat) (s : St) : W E fb y0c s (finI [.cell 4 true 9]) xN (finI [.cell 4 true 9]) = y1o fb s :=
  by kernel_rfl
def y1sy (fb : Nat) (v4 : AV) (h : Heap) : Option (AV × Heap) :=
ob (yb [(.int .i64 0), (.int .i64 0), (.int .i64 0), (.int .i64 0), (.int .i64 0), (.int .i64 0), (.int .i64 0), (.str []), .nils] [(0, 1, (AV.int .i64 33))]) fun v79 =>
oh (evSt 9 v4 v79 h) fun _ h2 =>
(ob (evLd true 9 v4 h2) fun r0 =>
  some (r0, h2))
def y1og (fb : Nat) (s : St) : Option (AV × Heap) := y1sy fb (s 4) s.h
theorem y1iw (fb : Nat) (s : St) : W E fb y0r s (y1o fb) (y1 0 (y1o fb) xN) (finI [.cell 4 true 9]) = y1og fb s :=
  by kernel_rfl
def y1kq (fb : Nat) (v2 v4 v5 v9 : AV) (h : Heap) : Option (AV × Heap) :=
ob (evFa 5 v2) fun v71 =>
ob (evLd false 1 v71 h) fun v72 =>
oh (y4 E (y5 E) fb none true 129 [v72, v5, v9] h) fun v75 h3 =>
cnd v75
 (ob (evFa 6 v2) fun v76 =>
ob (evLd false 1 v76 h3) fun v77 =>
ob (yb [(.int .i64 0), (.int .i64 0), (.int .i64 0), (.int .i64 0), (.int .i64 0), (.int .i64 0), (.int .i64 0), (.str []), .nils] [(0, 1, (AV.int .i64 27)), (6, 1, v77)]) fun v78 =>
oh (evSt 9 v4 v78 h3) fun _ h4 =>
(ob (evLd true 9 v4 h4) fun r0 =>
  some (r0, h4)))
 ((y1sy fb v4 h3))
def y1zo (fb : Nat) (s : St) : Option (AV × Heap) := y1kq fb (s 2) (s 4) (s 5) (s 9) s.h
theorem y1jd (fb : Nat) (s : St) : W E fb y18e s (y1o fb) (y1 0 (y1o fb) xN) (finI [.cell 4 true 9]) = y1zo fb s :=
  (yd4 (k := (y1og fb)) (fun s => y1iw fb s)).trans (by kernel_rfl)
def yn9 (fb : Nat) (v2 v4 v5 v9 v70 : AV) (h : Heap) : Option (AV × Heap) :=
cnd v70
 ((y1kq fb v2 v4 v5 v9 h))
 ((ymk fb v2 v4 h))
def y1nv (fb : Nat) (s : St) : Option (AV × Heap) := yn9 fb (s 2) (s 4) (s 5) (s 9) (s 70) s.h
theorem y1lz (fb : Nat) (s : St) : W E fb y14w s (y1o fb) (y1 0 (y1o fb) xN) (finI [.cell 4 true 9]) = y1nv fb s :=
  (yu (y1jd fb s) rfl).trans (by kernel_rfl)
def ynn (fb : Nat) (v2 v4 v5 v6 v9 v10 : AV) (h : Heap) : Option (AV × Heap) :=
gb v6 true (some v10) fun v69 =>
ob (y9 v6 v69 (AV.bool false)) fun v70 =>
(yn9 fb v2 v4 v5 v9 v70 h)
def y1p8 (fb : Nat) (s : St) : Option (AV × Heap) := ynn fb (s 2) (s 4) (s 5) (s 6) (s 9) (s 10) s.h
theorem y1n5 (fb : Nat) (s : St) : W E fb y11p s (y1o fb) (y1 0 (y1o fb) xN) (finI [.cell 4 true 9]) = y1p8 fb s :=
  (yd4 (k := (y1nv fb)) (fun s => y1lz fb s)).trans (by kernel_rfl)
def ynr (fb : Nat) (v1 v2 v4 v5 v6 : AV) (h : Heap) : Option (AV × Heap) :=
ob (evFa 3 v2) fun v62 =>
ob (evLd false 1 v62 h) fun v63 =>
ob (y3t false [0] (.int .i64 0) true v1 v63 h) fun v64 =>
ob (y6e 0 v64) fun v65 =>
ob (y6e 1 v64) fun v66 =>
(ynn fb v2 v4 v5 v6 v65 v66 h)
def y223 (fb : Nat) (s : St) : Option (AV × Heap) := ynr fb (s 1) (s 2) (s 4) (s 5) (s 6) s.h
theorem y1hn (fb : Nat) (s : St) : W E fb y16w s (y1o fb) (y1 0 (y1o fb) xN) (finI [.cell 4 true 9]) = y223 fb s :=
  (yd4 (k := (y1p8 fb)) (fun s => y1n5 fb s)).trans (by kernel_rfl)
def yjk (fb : Nat) (v1 v2 v4 v5 v6 v58 : AV) (h : Heap) : Option (AV × Heap) :=
cnd v58
 ((ynr fb v1 v2 v4 v5 v6 h))
 ((ymk fb v2 v4 h))
def y1o6 (fb : Nat) (s : St) : Option (AV × Heap) := yjk fb (s 1) (s 2) (s 4) (s 5) (s 6) (s 58) s.h
theorem y1ih (fb : Nat) (s : St) : W E fb y1er s (y1o fb) (y1 0 (y1o fb) xN) (finI [.cell 4 true 9]) = y1o6 fb s :=
  (yu (y1hn fb s) rfl).trans (by kernel_rfl)
def yj3 (fb : Nat) (v1 v2 v4 v5 v6 v19 : AV) (h : Heap) : Option (AV × Heap) :=
ob (y2 .eql v19 (AV.int .i64 28)) fun v59 =>
(yjk fb v1 v2 v4 v5 v6 v59 h)
def y20l (fb : Nat) (s : St) : Option (AV × Heap) := yj3 fb (s 1) (s 2) (s 4) (s 5) (s 6) (s 19) s.h
theorem y1i5 (fb : Nat) (s : St) : W E fb y11v s (y1o fb) (y1 0 (y1o fb) xN) (finI [.cell 4 true 9]) = y20l fb s :=
  (yd4 (k := (y1o6 fb)) (fun s => y1ih fb s)).trans (by kernel_rfl)
def ydp (fb : Nat) (v1 v2 v4 v5 v6 v19 v51 : AV) (h : Heap) : Option (AV × Heap) :=
cnd v51
 (cnd v6
 (ob (evFa 1 v2) fun v54 =>
ob (evLd false 1 v54 h) fun v55 =>
ob (yb [(.int .i64 0), (.int .i64 0), (.int .i64 0), (.int .i64 0), (.int .i64 0), (.int .i64 0), (.int .i64 0), (.str []), .nils] [(0, 1, (AV.int .i64 1)), (1, 1, v55), (5, 1, v5)]) fun v57 =>
oh (evSt 9 v4 v57 h) fun _ h5 =>
(ob (evLd true 9 v4 h5) fun r0 =>
  some (r0, h5)))
 ((ymk fb v2 v4 h)))
 ((yj3 fb v1 v2 v4 v5 v6 v19 h))
def y1os (fb : Nat) (s : St) : Option (AV × Heap) := ydp fb (s 1) (s 2) (s 4) (s 5) (s 6) (s 19) (s 51) s.h
theorem y1jp (fb : Nat) (s : St) : W E fb y1b6 s (y1o fb) (y1 0 (y1o fb) xN) (finI [.cell 4 true 9]) = y1os fb s :=
  (yu rfl (y1i5 fb s)).trans (by kernel_rfl)
def y8l (fb : Nat) (v1 v2 v4 v5 v6 v19 : AV) (h : Heap) : Option (AV × Heap) :=
ob (y2 .eql v19 (AV.int .i64 4)) fun v52 =>
(ydp fb v1 v2 v4 v5 v6 v19 v52 h)
def y1v8 (fb : Nat) (s : St) : Option (AV × Heap) := y8l fb (s 1) (s 2) (s 4) (s 5) (s 6) (s 19) s.h
theorem y142 (fb : Nat) (s : St) : W E fb yp1 s (y1o fb) (y1 0 (y1o fb) xN) (finI [.cell 4 true 9]) = y1v8 fb s :=
  (yd4 (k := (y1os fb)) (fun s => y1jp fb s)).trans (by kernel_rfl)
def y4x (fb : Nat) (v1 v2 v4 v5 v6 v19 v30 : AV) (h : Heap) : Option (AV × Heap) :=
cnd v30
 (ob (evFa 3 v2) fun v34 =>
ob (evLd false 1 v34 h) fun v35 =>
ob (y3t false [0] (.int .i64 0) true v1 v35 h) fun v36 =>
ob (y6e 0 v36) fun v37 =>
ob (y6e 1 v36) fun v38 =>
gb v6 true (some v38) fun v41 =>
ob (y9 v6 v41 (AV.bool false)) fun v42 =>
cnd v42
 (ob (evFa 1 v2) fun v43 =>
ob (evLd false 1 v43 h) fun v44 =>
ob (evFa 5 v2) fun v45 =>
ob (evLd false 1 v45 h) fun v46 =>
ofp (y55 E (y5 E) fb none true 128 [v46, v5, v37] h) fun f6 =>
oh (y4 E (y5 E) fb none true 128 [v46, v5, v37] h) fun v49 h6 =>
ob (yb [(.int .i64 0), (.int .i64 0), (.int .i64 0), (.int .i64 0), (.int .i64 0), (.int .i64 0), (.int .i64 0), (.str []), .nils] [(0, 1, (AV.int .i64 1)), (1, 1, v44), (5, 1, v49)]) fun v50 =>
oh (evSt 9 v4 v50 h6) fun _ h7 =>
okK (yp [([], []), (ids1 v43, []), ([], []), (ids1 v45, []), ([], []), ([], []), f6, ([], []), ([], ids1 v4)] [(1, 6)]) <|
(ob (evLd true 9 v4 h7) fun r0 =>
  some (r0, h7)))
 ((ymk fb v2 v4 h)))
 ((y8l fb v1 v2 v4 v5 v6 v19 h))
def y0v (fb : Nat) (s : St) : Option (AV × Heap) := y4x fb (s 1) (s 2) (s 4) (s 5) (s 6) (s 19) (s 30) s.h
theorem y1bs (fb : Nat) (s : St) : W E fb ysf s (y1o fb) (y1 0 (y1o fb) xN) (finI [.cell 4 true 9]) = y0v fb s :=
  (yu rfl (y142 fb s)).trans (by kernel_rfl)
def y4p (fb : Nat) (v1 v2 v4 v5 v6 v19 : AV) (h : Heap) : Option (AV × Heap) :=
ob (y2 .eql v19 (AV.int .i64 5)) fun v31 =>
(y4x fb v1 v2 v4 v5 v6 v19 v31 h)
def y1qk (fb : Nat) (s : St) : Option (AV × Heap) := y4p fb (s 1) (s 2) (s 4) (s 5) (s 6) (s 19) s.h
theorem y12v (fb : Nat) (s : St) : W E fb yru s (y1o fb) (y1 0 (y1o fb) xN) (finI [.cell 4 true 9]) = y1qk fb s :=
  (yd4 (k := (y0v fb)) (fun s => y1bs fb s)).trans (by kernel_rfl)
def y3z (fb : Nat) (v1 v2 v4 v5 v6 v19 v20 : AV) (h : Heap) : Option (AV × Heap) :=
cnd v20
 (cnd v6
 (ob (evFa 1 v2) fun v23 =>
ob (evLd false 1 v23 h) fun v24 =>
ob (evFa 5 v2) fun v25 =>
ob (evLd false 1 v25 h) fun v26 =>
ofp (y55 E (y5 E) fb none true 127 [v26, v5] h) fun f5 =>
oh (y4 E (y5 E) fb none true 127 [v26, v5] h) fun v28 h8 =>
ob (yb [(.int .i64 0), (.int .i64 0), (.int .i64 0), (.int .i64 0), (.int .i64 0), (.int .i64 0), (.int .i64 0), (.str []), .nils] [(0, 1, (AV.int .i64 1)), (1, 1, v24), (5, 1, v28)]) fun v29 =>
oh (evSt 9 v4 v29 h8) fun _ h9 =>
okK (yp [([], []), (ids1 v23, []), ([], []), (ids1 v25, []), ([], []), f5, ([], []), ([], ids1 v4)] [(1, 5)]) <|
(ob (evLd true 9 v4 h9) fun r0 =>
  some (r0, h9)))
 ((ymk fb v2 v4 h)))
 ((y4p fb v1 v2 v4 v5 v6 v19 h))
def y1cl (fb : Nat) (s : St) : Option (AV × Heap) := y3z fb (s 1) (s 2) (s 4) (s 5) (s 6) (s 19) (s 20) s.h
theorem y12w (fb : Nat) (s : St) : W E fb yw4 s (y1o fb) (y1 0 (y1o fb) xN) (finI [.cell 4 true 9]) = y1cl fb s :=
  (yu rfl (y12v fb s)).trans (by kernel_rfl)
def y3r (fb : Nat) (v1 v2 v4 v5 v6 v19 : AV) (h : Heap) : Option (AV × Heap) :=
ob (y2 .eql v19 (AV.int .i64 6)) fun v21 =>
(y3z fb v1 v2 v4 v5 v6 v19 v21 h)
def ymo (fb : Nat) (s : St) : Option (AV × Heap) := y3r fb (s 1) (s 2) (s 4) (s 5) (s 6) (s 19) s.h
theorem y16m (fb : Nat) (s : St) : W E fb yvi s (y1o fb) (y1 0 (y1o fb) xN) (finI [.cell 4 true 9]) = ymo fb s :=
  (yd4 (k := (y1cl fb)) (fun s => y12w fb s)).trans (by kernel_rfl)
theorem y12u (fb : Nat) (s : St) : W E fb yv0 s (y1o fb) xN (finI [.cell 4 true 9]) = ymo fb s :=
  yk.trans (y16m fb s)
def y3s (fb : Nat) (v1 v2 v4 v5 v6 : AV) (h : Heap) : Option (AV × Heap) :=
ob (evFa 0 v2) fun v18 =>
ob (evLd false 1 v18 h) fun v19 =>
(y3r fb v1 v2 v4 v5 v6 v19 h)
def ymz (fb : Nat) (s : St) : Option (AV × Heap) := y3s fb (s 1) (s 2) (s 4) (s 5) (s 6) s.h
theorem y1a7 (fb : Nat) (s : St) : W E fb yrs s (y1o fb) xN (finI [.cell 4 true 9]) = ymz fb s :=
  (yd4 (k := (ymo fb)) (fun s => y12u fb s)).trans (by kernel_rfl)
theorem y150 (fb : Nat) (s : St) : W E fb yua s (finI [.cell 4 true 9]) xN (finI [.cell 4 true 9]) = ymz fb s :=
  (yd4 (k := (y1o fb)) (fun s => y1nd fb s)).trans (y1a7 fb s)
def y3k (fb : Nat) (v1 v2 v4 : AV) (h : Heap) : Option (AV × Heap) :=
ob (evFa 2 v2) fun v13 =>
ob (evLd false 1 v13 h) fun v14 =>
ob (y3t false [0] (.int .i64 0) true v1 v14 h) fun v15 =>
ob (y6e 0 v15) fun v16 =>
ob (y6e 1 v15) fun v17 =>
(y3s fb v1 v2 v4 v16 v17 h)
def y180 (fb : Nat) (s : St) : Option (AV × Heap) := y3k fb (s 1) (s 2) (s 4) s.h
theorem y19t (fb : Nat) (s : St) : W E fb ytx s (finI [.cell 4 true 9]) xN (finI [.cell 4 true 9]) = y180 fb s :=
  (yd4 (k := (ymz fb)) (fun s => y150 fb s)).trans (by kernel_rfl)
def yue (fb : Nat) (v0 v1 : AV) (h : Heap) : Option (AV × Heap) :=
oh (newC fb (some 0) (cellsOf v0) h) fun v2 h10 =>
oh (newC fb (some 1) [(.int .i64 0), (.int .i64 0), (.int .i64 0), (.int .i64 0), (.int .i64 0), (.int .i64 0), (.int .i64 0), (.str []), .nils] h10) fun v4 h11 =>
(y3k fb v1 v2 v4 h11)
def y1pi (fb : Nat) (s : St) : Option (AV × Heap) := yue fb (s 0) (s 1) s.h
theorem y0b (fb : Nat) (s : St) : W E fb yqv s (finI [.cell 4 true 9]) xN (finI [.cell 4 true 9]) = y1pi fb s :=
  (yd4 (k := (y180 fb)) (fun s => y19t fb s)).trans (by kernel_rfl)
@[simp] theorem y22e : E.pure 126 = false := rfl
theorem y24j (fb : Nat) (v0 v1 : AV) (h : Heap) : (y5 E).i 126 [v0, v1] fb h = yue fb v0 v1 (if fb = h.length then h ++ yt 2 else h) :=
  (y1pt (cf := y1zh) (by kernel_rfl) rfl).trans ((y0b fb _).trans (by kernel_rfl))
def y1qg (v0 : AV) (h : Heap) : OX :=
oh (newC 0 (some 0) (cellsOf v0) h) fun v1 h1 =>
ob (evFa 0 v1) fun v3 =>
ob (evLd false 1 v3 h1) fun v4 =>
ob (y2 .geq v4 (AV.int .i64 23)) fun v5 =>
gb v5 true (evFa 0 v1) fun v7 =>
gb v5 true (evLd false 1 v7 h1) fun v8 =>
gb v5 true (y2 .leq v8 (AV.int .i64 26)) fun v9 =>
ob (y9 v5 v9 (AV.bool false)) fun v10 =>
(y7 h1 v10)
def y1y6 (s : St) : OX := y1qg (s 0) s.h
theorem y1kl : T0 y156 [.t 2] y1y6 := fun _ => by kernel_rfl
@[simp] theorem ymv : E.pure 17 = true := rfl
theorem y24p (v0 : AV) : (y5 E).p 17 [v0] = y1qg v0 [⟨0, .dead⟩] :=
  (y10 (cf := y20z) (by kernel_rfl) rfl).trans ((y1kl _).trans (by kernel_rfl))
def yij (h : Heap) : OX :=
(y7 h (AV.int .i64 (-1)))
def y4s (s : St) : OX := yij s.h
theorem y1a4 : T0 yp5 [.t 4] y4s := fun _ => by kernel_rfl
def ye8 (v0 v1 v7 v8 : AV) (h : Heap) : OX :=
  W E 0 yet ⟨[(0, v0), (1, v1), (7, v7), (8, v8)], h⟩ y4s (y1 0 y4s xN) (finP [.t 4])
def y6k (s : St) : OX := ye8 (s 0) (s 1) (s 7) (s 8) s.h
theorem yii : T1 yet y4s (y1 0 y4s xN) [.t 4] y6k := fun s => yf.trans (by kernel_rfl)
def yi9 (v0 v1 v7 v8 : AV) (h : Heap) : OX :=
ob (y2 .add v8 (AV.int .i64 1)) fun v18 =>
(ye8 v0 v1 v7 v18 h)
def y1tp (s : St) : OX := yi9 (s 0) (s 1) (s 7) (s 8) s.h
theorem y0g : T1 ys8 y6k (y1 0 y4s xN) [.t 4] y1tp := fun _ => by kernel_rfl
def ygy (v0 v1 v7 v8 : AV) (h : Heap) : OX :=
ob (yi 1 v0 v8) fun v14 =>
ob (evLd false 1 v14 h) fun v15 =>
ob (y2 .eql v1 v15) fun v16 =>
cnd v16
 ((y7 h v8))
 ((yi9 v0 v1 v7 v8 h))
def y1sf (s : St) : OX := ygy (s 0) (s 1) (s 7) (s 8) s.h
theorem y0y : T1 yqz y6k (y1 0 y4s xN) [.t 4] y1sf := sq y0g fun _ => by kernel_rfl
def yhm (v0 v1 v7 v8 v9 : AV) (h : Heap) : OX :=
cnd v9
 ((ygy v0 v1 v7 v8 h))
 ((yij h))
def y1tj (s : St) : OX := yhm (s 0) (s 1) (s 7) (s 8) (s 9) s.h
theorem y1ba : T1 yoq y6k (y1 0 y4s xN) [.t 4] y1tj := sq y0y fun _ => by kernel_rfl
def ygk (v0 v1 v7 v8 : AV) (h : Heap) : OX :=
ob (y2 .lss v8 v7) fun v9 =>
(yhm v0 v1 v7 v8 v9 h)
def y1vp (s : St) : OX := ygk (s 0) (s 1) (s 7) (s 8) s.h
theorem y17x : T1 yrq y6k (y1 0 y4s xN) [.t 4] y1vp := sq y1ba fun _ => by kernel_rfl
theorem yi3 (v0 v1 v7 v8 : AV) (h : Heap) : ye8 v0 v1 v7 v8 h = (ygk v0 v1 v7 v8 h) :=
  y2b.trans ((y1h _ _ _ (n' := y6k) (fun s => yii s)).trans ((y17x _).trans (by kernel_rfl)))
theorem y195 : T1 yp6 y4s xN [.t 4] y6k := fun s => yk.trans (yii s)
def yhn (v0 v1 : AV) (h : Heap) : OX :=
ob (yy 1 v0 h) fun v7 =>
(ye8 v0 v1 v7 (AV.int .i64 0) h)
def y1bo (s : St) : OX := yhn (s 0) (s 1) s.h
theorem y1em : T1 yts y4s xN [.t 4] y1bo := sq y195 fun _ => by kernel_rfl
theorem y15e : T0 ytk [.t 4] y1bo := sq y1a4 y1em
def ybv (v0 v1 : AV) (h : Heap) : OX :=
(yhn v0 v1 h)
def y1nm (s : St) : OX := ybv (s 0) (s 1) s.h
theorem yz4 : T0 yl2 [.t 4] y1nm := sq y15e fun _ => by kernel_rfl
@[simp] theorem y25i : E.pure 45 = true := rfl
theorem y21v (v0 v1 : AV) : (y5 E).p 45 [v0, v1] = ybv v0 v1 [] :=
  (y10 (cf := y1p7) (by kernel_rfl) rfl).trans ((yz4 _).trans (by kernel_rfl))
def yd5 (v1 v2 : AV) (h : Heap) : OX :=
ob (evLd true 9 v1 h) fun v138 =>
oh (y4 E (y5 E) 0 none true 51 [v138] h) fun v139 h1 =>
ob (y6e 0 v139) fun v140 =>
ob (y6e 1 v139) fun v141 =>
oh (evSt 4 v2 v140 h1) fun _ h2 =>
(ob (evLd true 4 v2 h2) fun r0 =>
  y7 h2 (.tup [r0, v141]))
def yc (s : St) : OX := yd5 (s 1) (s 2) s.h
theorem y1lk : T0 y1d1 [.cell 2 true 4, .t 3] yc := fun _ => by kernel_rfl
def ybz (v1 v2 v134 : AV) (h : Heap) : OX :=
cnd v134
 (ob (yb [(.int .i64 0), (.int .i64 0), (.int .i64 0), (.int .i64 0)] [(0, 1, (AV.int .i64 (-1))), (1, 1, (AV.int .i64 (-1))), (2, 1, (AV.int .i64 (-1))), (3, 1, (AV.int .i64 (-1)))]) fun v137 =>
oh (evSt 4 v2 v137 h) fun _ h3 =>
(ob (evLd true 4 v2 h3) fun r0 =>
  y7 h3 (.tup [r0, (AV.bool true)])))
 ((yd5 v1 v2 h))
def y1xh (s : St) : OX := ybz (s 1) (s 2) (s 134) s.h
theorem y1ln : T1 y197 yc (y1 0 yc xN) [.cell 2 true 4, .t 3] y1xh := fun _ => by kernel_rfl
def yd3 (v1 v2 v11 : AV) (h : Heap) : OX :=
ob (y2 .eql v11 (AV.int .i64 27)) fun v135 =>
cnd v135
 ((ybz v1 v2 v135 h))
 (ob (y2 .eql v11 (AV.int .i64 33)) fun v136 =>
(ybz v1 v2 v136 h))
def y1x0 (s : St) : OX := yd3 (s 1) (s 2) (s 11) s.h
theorem y1m2 : T1 yzc yc (y1 0 yc xN) [.cell 2 true 4, .t 3] y1x0 := sq y1ln fun _ => by kernel_rfl
def yd0 (v1 v2 v11 v123 : AV) (h : Heap) : OX :=
cnd v123
 (ob (yb [(.int .i64 0), (.int .i64 0), (.int .i64 0), (.int .i64 0)] [(0, 1, (AV.int .i64 (-1))), (1, 1, (AV.int .i64 1)), (2, 1, (AV.int .i64 1)), (3, 1, (AV.int .i64 (-1)))]) fun v125 =>
ob (evFa 5 v1) fun v126 =>
ob (evLd false 1 v126 h) fun v127 =>
ob (y2 .geq v127 (AV.int .i64 0)) fun v128 =>
ofp (fgd v128 true (some ([], []))) fun f5 =>
gb v128 true (evFa 5 v1) fun v130 =>
ofp (fgd v128 true (some (ids1 v130, []))) fun f6 =>
gb v128 true (evLd false 1 v130 h) fun v131 =>
ofp (fgd v128 true (some ([], []))) fun f7 =>
gb v128 true (y2 .leq v131 (AV.int .i64 5)) fun v132 =>
ob (y9 v128 v132 (AV.bool false)) fun v133 =>
oh (evSt 4 v2 v125 h) fun _ h4 =>
okK (yp [([], []), ([], []), (ids1 v126, []), ([], []), ([], []), f5, f6, f7, ([], []), ([], ids1 v2), ([], [])] [(6, 9)]) <|
(ob (evLd true 4 v2 h4) fun r0 =>
  y7 h4 (.tup [r0, v133])))
 ((yd3 v1 v2 v11 h))
def y216 (s : St) : OX := yd0 (s 1) (s 2) (s 11) (s 123) s.h
theorem y1hm : T1 y1fi yc (y1 0 yc xN) [.cell 2 true 4, .t 3] y216 := fun s => (yu rfl (y1m2 s)).trans (by kernel_rfl)
def yd9 (v1 v2 v11 : AV) (h : Heap) : OX :=
ob (y2 .eql v11 (AV.int .i64 28)) fun v124 =>
(yd0 v1 v2 v11 v124 h)
def y1zp (s : St) : OX := yd9 (s 1) (s 2) (s 11) s.h
theorem y1mx : T1 y18j yc (y1 0 yc xN) [.cell 2 true 4, .t 3] y1zp := sq y1hm fun _ => by kernel_rfl
def yd2 (v1 v2 v11 v117 : AV) (h : Heap) : OX :=
cnd v117
 (ob (yb [(.int .i64 0), (.int .i64 0), (.int .i64 0), (.int .i64 0)] [(0, 1, (AV.int .i64 3)), (1, 1, (AV.int .i64 1)), (2, 1, (AV.int .i64 (-1))), (3, 1, (AV.int .i64 (-1)))]) fun v119 =>
ob (evFa 7 v1) fun v120 =>
ob (evLd false 1 v120 h) fun v121 =>
oh (y4 E (y5 E) 0 none true 37 [v121] h) fun v122 h5 =>
oh (evSt 4 v2 v119 h5) fun _ h6 =>
(ob (evLd true 4 v2 h6) fun r0 =>
  y7 h6 (.tup [r0, v122])))
 ((yd9 v1 v2 v11 h))
def y1z6 (s : St) : OX := yd2 (s 1) (s 2) (s 11) (s 117) s.h
theorem y1jh : T1 y185 yc (y1 0 yc xN) [.cell 2 true 4, .t 3] y1z6 := fun s => (yu rfl (y1mx s)).trans (by kernel_rfl)
def yda (v1 v2 v11 : AV) (h : Heap) : OX :=
ob (y2 .eql v11 (AV.int .i64 21)) fun v118 =>
(yd2 v1 v2 v11 v118 h)
def y21e (s : St) : OX := yda (s 1) (s 2) (s 11) s.h
theorem y1nn : T1 y1dl yc (y1 0 yc xN) [.cell 2 true 4, .t 3] y21e := sq y1jh fun _ => by kernel_rfl
def yd1 (v1 v2 v11 v114 : AV) (h : Heap) : OX :=
cnd v114
 (ob (yb [(.int .i64 0), (.int .i64 0), (.int .i64 0), (.int .i64 0)] [(0, 1, (AV.int .i64 (-1))), (1, 1, (AV.int .i64 0)), (2, 1, (AV.int .i64 (-1))), (3, 1, (AV.int .i64 (-1)))]) fun v116 =>
oh (evSt 4 v2 v116 h) fun _ h7 =>
(ob (evLd true 4 v2 h7) fun r0 =>
  y7 h7 (.tup [r0, (AV.bool true)])))
 ((yda v1 v2 v11 h))
def y1xi (s : St) : OX := yd1 (s 1) (s 2) (s 11) (s 114) s.h
theorem y1nl : T1 y1fb yc (y1 0 yc xN) [.cell 2 true 4, .t 3] y1xi := fun s => (yu rfl (y1nn s)).trans (by kernel_rfl)
def yd8 (v1 v2 v11 : AV) (h : Heap) : OX :=
ob (y2 .eql v11 (AV.int .i64 19)) fun v115 =>
(yd1 v1 v2 v11 v115 h)
def y1xj (s : St) : OX := yd8 (s 1) (s 2) (s 11) s.h
theorem y1nq : T1 y12s yc (y1 0 yc xN) [.cell 2 true 4, .t 3] y1xj := sq y1nl fun _ => by kernel_rfl
def y7i (v1 v2 v11 v108 : AV) (h : Heap) : OX :=
cnd v108
 (ob (yb [(.int .i64 0), (.int .i64 0), (.int .i64 0), (.int .i64 0)] [(0, 1, (AV.int .i64 (-1))), (1, 1, (AV.int .i64 3)), (2, 1, (AV.int .i64 0)), (3, 1, (AV.int .i64 (-1)))]) fun v110 =>
ob (evFa 5 v1) fun v111 =>
ob (evLd false 1 v111 h) fun v112 =>
ob (y2 .geq v112 (AV.int .i64 0)) fun v113 =>
oh (evSt 4 v2 v110 h) fun _ h8 =>
okK (yp [([], []), ([], []), (ids1 v111, []), ([], []), ([], ids1 v2), ([], [])] [(2, 4)]) <|
(ob (evLd true 4 v2 h8) fun r0 =>
  y7 h8 (.tup [r0, v113])))
 ((yd8 v1 v2 v11 h))
def y1sr (s : St) : OX := y7i (s 1) (s 2) (s 11) (s 108) s.h
theorem y177 : T1 yq4 yc (y1 0 yc xN) [.cell 2 true 4, .t 3] y1sr := fun s => (yu rfl (y1nq s)).trans (by kernel_rfl)
def y6r (v1 v2 v11 : AV) (h : Heap) : OX :=
ob (y2 .eql v11 (AV.int .i64 17)) fun v109 =>
(y7i v1 v2 v11 v109 h)
def y1rh (s : St) : OX := y6r (s 1) (s 2) (s 11) s.h
theorem y18x : T1 yt8 yc (y1 0 yc xN) [.cell 2 true 4, .t 3] y1rh := sq y177 fun _ => by kernel_rfl
def y75 (v1 v2 v11 v102 : AV) (h : Heap) : OX :=
cnd v102
 (ob (yb [(.int .i64 0), (.int .i64 0), (.int .i64 0), (.int .i64 0)] [(0, 1, (AV.int .i64 0)), (1, 1, (AV.int .i64 3)), (2, 1, (AV.int .i64 (-1))), (3, 1, (AV.int .i64 (-1)))]) fun v104 =>
ob (evFa 5 v1) fun v105 =>
ob (evLd false 1 v105 h) fun v106 =>
ob (y2 .geq v106 (AV.int .i64 0)) fun v107 =>
oh (evSt 4 v2 v104 h) fun _ h9 =>
okK (yp [([], []), ([], []), (ids1 v105, []), ([], []), ([], ids1 v2), ([], [])] [(2, 4)]) <|
(ob (evLd true 4 v2 h9) fun r0 =>
  y7 h9 (.tup [r0, v107])))
 ((y6r v1 v2 v11 h))
def y1sg (s : St) : OX := y75 (s 1) (s 2) (s 11) (s 102) s.h
theorem y18q : T1 ytn yc (y1 0 yc xN) [.cell 2 true 4, .t 3] y1sg := fun s => (yu rfl (y18x s)).trans (by kernel_rfl)
def y72 (v1 v2 v11 : AV) (h : Heap) : OX :=
ob (y2 .eql v11 (AV.int .i64 16)) fun v103 =>
(y75 v1 v2 v11 v103 h)
def y1ub (s : St) : OX := y72 (s 1) (s 2) (s 11) s.h
theorem yzg : T1 ywn yc (y1 0 yc xN) [.cell 2 true 4, .t 3] y1ub := sq y18q fun _ => by kernel_rfl
def y6s (v1 v2 v11 v99 : AV) (h : Heap) : OX :=
cnd v99
 (ob (yb [(.int .i64 0), (.int .i64 0), (.int .i64 0), (.int .i64 0)] [(0, 1, (AV.int .i64 1)), (1, 1, (AV.int .i64 3)), (2, 1, (AV.int .i64 (-1))), (3, 1, (AV.int .i64 (-1)))]) fun v101 =>
oh (evSt 4 v2 v101 h) fun _ h10 =>
(ob (evLd true 4 v2 h10) fun r0 =>
  y7 h10 (.tup [r0, (AV.bool true)])))
 ((y72 v1 v2 v11 h))
def y1rk (s : St) : OX := y6s (s 1) (s 2) (s 11) (s 99) s.h
theorem y1a9 : T1 ys6 yc (y1 0 yc xN) [.cell 2 true 4, .t 3] y1rk := fun s => (yu rfl (yzg s)).trans (by kernel_rfl)
def y76 (v1 v2 v11 : AV) (h : Heap) : OX :=
ob (y2 .eql v11 (AV.int .i64 15)) fun v100 =>
(y6s v1 v2 v11 v100 h)
def y1pl (s : St) : OX := y76 (s 1) (s 2) (s 11) s.h
theorem y165 : T1 ysc yc (y1 0 yc xN) [.cell 2 true 4, .t 3] y1pl := sq y1a9 fun _ => by kernel_rfl
def y7c (v1 v2 v11 v96 : AV) (h : Heap) : OX :=
cnd v96
 (ob (yb [(.int .i64 0), (.int .i64 0), (.int .i64 0), (.int .i64 0)] [(0, 1, (AV.int .i64 (-1))), (1, 1, (AV.int .i64 3)), (2, 1, (AV.int .i64 1)), (3, 1, (AV.int .i64 0))]) fun v98 =>
oh (evSt 4 v2 v98 h) fun _ h11 =>
(ob (evLd true 4 v2 h11) fun r0 =>
  y7 h11 (.tup [r0, (AV.bool true)])))
 ((y76 v1 v2 v11 h))
def y1t4 (s : St) : OX := y7c (s 1) (s 2) (s 11) (s 96) s.h
theorem y19h : T1 yow yc (y1 0 yc xN) [.cell 2 true 4, .t 3] y1t4 := fun s => (yu rfl (y165 s)).trans (by kernel_rfl)
def y79 (v1 v2 v11 : AV) (h : Heap) : OX :=
ob (y2 .eql v11 (AV.int .i64 14)) fun v97 =>
(y7c v1 v2 v11 v97 h)
def y1s3 (s : St) : OX := y79 (s 1) (s 2) (s 11) s.h
theorem y18v : T1 ytb yc (y1 0 yc xN) [.cell 2 true 4, .t 3] y1s3 := sq y19h fun _ => by kernel_rfl
def y7p (v1 v2 v11 v93 : AV) (h : Heap) : OX :=
cnd v93
 (ob (yb [(.int .i64 0), (.int .i64 0), (.int .i64 0), (.int .i64 0)] [(0, 1, (AV.int .i64 0)), (1, 1, (AV.int .i64 3)), (2, 1, (AV.int .i64 1)), (3, 1, (AV.int .i64 (-1)))]) fun v95 =>
oh (evSt 4 v2 v95 h) fun _ h12 =>
(ob (evLd true 4 v2 h12) fun r0 =>
  y7 h12 (.tup [r0, (AV.bool true)])))
 ((y79 v1 v2 v11 h))
def y1sh (s : St) : OX := y7p (s 1) (s 2) (s 11) (s 93) s.h
theorem y1dj : T1 yug yc (y1 0 yc xN) [.cell 2 true 4, .t 3] y1sh := fun s => (yu rfl (y18v s)).trans (by kernel_rfl)
def y7g (v1 v2 v11 : AV) (h : Heap) : OX :=
ob (y2 .eql v11 (AV.int .i64 13)) fun v94 =>
(y7p v1 v2 v11 v94 h)
def y1ve (s : St) : OX := y7g (s 1) (s 2) (s 11) s.h
theorem y14z : T1 yrg yc (y1 0 yc xN) [.cell 2 true 4, .t 3] y1ve := sq y1dj fun _ => by kernel_rfl
def y7l (v1 v2 v11 v90 : AV) (h : Heap) : OX :=
cnd v90
 (ob (yb [(.int .i64 0), (.int .i64 0), (.int .i64 0), (.int .i64 0)] [(0, 1, (AV.int .i64 (-1))), (1, 1, (AV.int .i64 3)), (2, 1, (AV.int .i64 3)), (3, 1, (AV.int .i64 (-1)))]) fun v92 =>
oh (evSt 4 v2 v92 h) fun _ h13 =>
(ob (evLd true 4 v2 h13) fun r0 =>
  y7 h13 (.tup [r0, (AV.bool true)])))
 ((y7g v1 v2 v11 h))
def y1ss (s : St) : OX := y7l (s 1) (s 2) (s 11) (s 90) s.h
theorem y13h : T1 yqb yc (y1 0 yc xN) [.cell 2 true 4, .t 3] y1ss := fun s => (yu rfl (y14z s)).trans (by kernel_rfl)
def y7m (v1 v2 v11 : AV) (h : Heap) : OX :=
ob (y2 .eql v11 (AV.int .i64 11)) fun v91 =>
(y7l v1 v2 v11 v91 h)
def y1th (s : St) : OX := y7m (s 1) (s 2) (s 11) s.h
theorem y1bz : T1 yu1 yc (y1 0 yc xN) [.cell 2 true 4, .t 3] y1th := sq y13h fun _ => by kernel_rfl
def y7k (v1 v2 v11 v87 : AV) (h : Heap) : OX :=
cnd v87
 (ob (yb [(.int .i64 0), (.int .i64 0), (.int .i64 0), (.int .i64 0)] [(0, 1, (AV.int .i64 (-1))), (1, 1, (AV.int .i64 1)), (2, 1, (AV.int .i64 (-1))), (3, 1, (AV.int .i64 (-1)))]) fun v89 =>
oh (evSt 4 v2 v89 h) fun _ h14 =>
(ob (evLd true 4 v2 h14) fun r0 =>
  y7 h14 (.tup [r0, (AV.bool true)])))
 ((y7m v1 v2 v11 h))
def y1ui (s : St) : OX := y7k (s 1) (s 2) (s 11) (s 87) s.h
theorem y1fv : T1 yw0 yc (y1 0 yc xN) [.cell 2 true 4, .t 3] y1ui := fun s => (yu rfl (y1bz s)).trans (by kernel_rfl)
def y73 (v1 v2 v11 : AV) (h : Heap) : OX :=
ob (y2 .eql v11 (AV.int .i64 10)) fun v88 =>
(y7k v1 v2 v11 v88 h)
def y1tc (s : St) : OX := y73 (s 1) (s 2) (s 11) s.h
theorem y151 : T1 ys4 yc (y1 0 yc xN) [.cell 2 true 4, .t 3] y1tc := sq y1fv fun _ => by kernel_rfl
def y7r (v1 v2 v11 v84 : AV) (h : Heap) : OX :=
cnd v84
 (ob (yb [(.int .i64 0), (.int .i64 0), (.int .i64 0), (.int .i64 0)] [(0, 1, (AV.int .i64 (-1))), (1, 1, (AV.int .i64 3)), (2, 1, (AV.int .i64 1)), (3, 1, (AV.int .i64 (-1)))]) fun v86 =>
oh (evSt 4 v2 v86 h) fun _ h15 =>
(ob (evLd true 4 v2 h15) fun r0 =>
  y7 h15 (.tup [r0, (AV.bool true)])))
 ((y73 v1 v2 v11 h))
def y1sp (s : St) : OX := y7r (s 1) (s 2) (s 11) (s 84) s.h
theorem y12j : T1 yqm yc (y1 0 yc xN) [.cell 2 true 4, .t 3] y1sp := fun s => (yu rfl (y151 s)).trans (by kernel_rfl)
def y6u (v1 v2 v11 : AV) (h : Heap) : OX :=
ob (y2 .eql v11 (AV.int .i64 9)) fun v85 =>
(y7r v1 v2 v11 v85 h)
def y1rd (s : St) : OX := y6u (s 1) (s 2) (s 11) s.h
theorem y111 : T1 ywe yc (y1 0 yc xN) [.cell 2 true 4, .t 3] y1rd := sq y12j fun _ => by kernel_rfl
def y6q (v1 v2 v11 v78 : AV) (h : Heap) : OX :=
cnd v78
 (ob (yb [(.int .i64 0), (.int .i64 0), (.int .i64 0), (.int .i64 0)] [(0, 1, (AV.int .i64 1)), (1, 1, (AV.int .i64 3)), (2, 1, (AV.int .i64 (-1))), (3, 1, (AV.int .i64 (-1)))]) fun v80 =>
ob (evFa 7 v1) fun v81 =>
ob (evLd false 1 v81 h) fun v82 =>
oh (y4 E (y5 E) 0 none true 37 [v82] h) fun v83 h16 =>
oh (evSt 4 v2 v80 h16) fun _ h17 =>
(ob (evLd true 4 v2 h17) fun r0 =>
  y7 h17 (.tup [r0, v83])))
 ((y6u v1 v2 v11 h))
def y1qe (s : St) : OX := y6q (s 1) (s 2) (s 11) (s 78) s.h
theorem y1fs : T1 ytj yc (y1 0 yc xN) [.cell 2 true 4, .t 3] y1qe := fun s => (yu rfl (y111 s)).trans (by kernel_rfl)
def y7o (v1 v2 v11 : AV) (h : Heap) : OX :=
ob (y2 .eql v11 (AV.int .i64 22)) fun v79 =>
(y6q v1 v2 v11 v79 h)
def y1pv (s : St) : OX := y7o (s 1) (s 2) (s 11) s.h
theorem y1ff : T1 yoo yc (y1 0 yc xN) [.cell 2 true 4, .t 3] y1pv := sq y1fs fun _ => by kernel_rfl
def y6v (v1 v2 v11 v72 : AV) (h : Heap) : OX :=
cnd v72
 (ob (yb [(.int .i64 0), (.int .i64 0), (.int .i64 0), (.int .i64 0)] [(0, 1, (AV.int .i64 (-1))), (1, 1, (AV.int .i64 3)), (2, 1, (AV.int .i64 (-1))), (3, 1, (AV.int .i64 (-1)))]) fun v74 =>
ob (evFa 7 v1) fun v75 =>
ob (evLd false 1 v75 h) fun v76 =>
oh (y4 E (y5 E) 0 none true 37 [v76] h) fun v77 h18 =>
oh (evSt 4 v2 v74 h18) fun _ h19 =>
(ob (evLd true 4 v2 h19) fun r0 =>
  y7 h19 (.tup [r0, v77])))
 ((y7o v1 v2 v11 h))
def y1re (s : St) : OX := y6v (s 1) (s 2) (s 11) (s 72) s.h
theorem y161 : T1 ysd yc (y1 0 yc xN) [.cell 2 true 4, .t 3] y1re := fun s => (yu rfl (y1ff s)).trans (by kernel_rfl)
def y77 (v1 v2 v11 : AV) (h : Heap) : OX :=
ob (y2 .eql v11 (AV.int .i64 12)) fun v73 =>
(y6v v1 v2 v11 v73 h)
def y1q4 (s : St) : OX := y77 (s 1) (s 2) (s 11) s.h
theorem y13l : T1 yte yc (y1 0 yc xN) [.cell 2 true 4, .t 3] y1q4 := sq y161 fun _ => by kernel_rfl
def y5k (v1 v2 v11 v68 : AV) (h : Heap) : OX :=
cnd v68
 (ob (yb [(.int .i64 0), (.int .i64 0), (.int .i64 0), (.int .i64 0)] [(0, 1, (AV.int .i64 (-1))), (1, 1, (AV.int .i64 3)), (2, 1, (AV.int .i64 (-1))), (3, 1, (AV.int .i64 (-1)))]) fun v71 =>
oh (evSt 4 v2 v71 h) fun _ h20 =>
(ob (evLd true 4 v2 h20) fun r0 =>
  y7 h20 (.tup [r0, (AV.bool true)])))
 ((y77 v1 v2 v11 h))
def y1vk (s : St) : OX := y5k (s 1) (s 2) (s 11) (s 68) s.h
theorem y1ab : T1 yul yc (y1 0 yc xN) [.cell 2 true 4, .t 3] y1vk := fun s => (yu rfl (y13l s)).trans (by kernel_rfl)
def y7h (v1 v2 v11 : AV) (h : Heap) : OX :=
ob (y2 .eql v11 (AV.int .i64 8)) fun v69 =>
cnd v69
 ((y5k v1 v2 v11 v69 h))
 (ob (y2 .eql v11 (AV.int .i64 31)) fun v70 =>
(y5k v1 v2 v11 v70 h))
def y1r4 (s : St) : OX := y7h (s 1) (s 2) (s 11) s.h
theorem y1dp : T1 yur yc (y1 0 yc xN) [.cell 2 true 4, .t 3] y1r4 := sq y1ab fun _ => by kernel_rfl
def y7b (v1 v2 v11 v65 : AV) (h : Heap) : OX :=
cnd v65
 (ob (yb [(.int .i64 0), (.int .i64 0), (.int .i64 0), (.int .i64 0)] [(0, 1, (AV.int .i64 (-1))), (1, 1, (AV.int .i64 0)), (2, 1, (AV.int .i64 (-1))), (3, 1, (AV.int .i64 (-1)))]) fun v67 =>
oh (evSt 4 v2 v67 h) fun _ h21 =>
(ob (evLd true 4 v2 h21) fun r0 =>
  y7 h21 (.tup [r0, (AV.bool true)])))
 ((y7h v1 v2 v11 h))
def y1rf (s : St) : OX := y7b (s 1) (s 2) (s 11) (s 65) s.h
theorem y188 : T1 yos yc (y1 0 yc xN) [.cell 2 true 4, .t 3] y1rf := fun s => (yu rfl (y1dp s)).trans (by kernel_rfl)
def y6w (v1 v2 v11 : AV) (h : Heap) : OX :=
ob (y2 .eql v11 (AV.int .i64 7)) fun v66 =>
(y7b v1 v2 v11 v66 h)
def y1uk (s : St) : OX := y6w (s 1) (s 2) (s 11) s.h
theorem y145 : T1 yqa yc (y1 0 yc xN) [.cell 2 true 4, .t 3] y1uk := sq y188 fun _ => by kernel_rfl
def y71 (v1 v2 v11 v47 : AV) (h : Heap) : OX :=
cnd v47
 (ob (evFa 5 v1) fun v50 =>
ob (evLd false 1 v50 h) fun v51 =>
oh (y4 E (y5 E) 0 none true 50 [v51] h) fun v52 h22 =>
ob (y6e 0 v52) fun v53 =>
ob (y6e 1 v52) fun v54 =>
ob (y6e 2 v52) fun v55 =>
ob (yb [(.int .i64 0), (.int .i64 0), (.int .i64 0), (.int .i64 0)] [(0, 1, v55), (1, 1, v53), (2, 1, (AV.int .i64 (-1))), (3, 1, (AV.int .i64 (-1)))]) fun v58 =>
ob (y2 .neq v53 (AV.int .i64 0)) fun v60 =>
gb v60 true (some v54) fun v62 =>
gb v60 true (y2 .eql v62 (AV.int .i64 0)) fun v63 =>
ob (y9 v60 v63 (AV.bool false)) fun v64 =>
oh (evSt 4 v2 v58 h22) fun _ h23 =>
(ob (evLd true 4 v2 h23) fun r0 =>
  y7 h23 (.tup [r0, v64])))
 ((y6w v1 v2 v11 h))
def y1tv (s : St) : OX := y71 (s 1) (s 2) (s 11) (s 47) s.h
theorem y152 : T1 ypv yc (y1 0 yc xN) [.cell 2 true 4, .t 3] y1tv := fun s => (yu rfl (y145 s)).trans (by kernel_rfl)
def y7e (v1 v2 v11 : AV) (h : Heap) : OX :=
ob (y2 .eql v11 (AV.int .i64 6)) fun v48 =>
(y71 v1 v2 v11 v48 h)
def y1vf (s : St) : OX := y7e (s 1) (s 2) (s 11) s.h
theorem y17d : T1 ywi yc (y1 0 yc xN) [.cell 2 true 4, .t 3] y1vf := sq y152 fun _ => by kernel_rfl
def y7q (v1 v2 v11 v25 : AV) (h : Heap) : OX :=
cnd v25
 (ob (evFa 5 v1) fun v28 =>
ob (evLd false 1 v28 h) fun v29 =>
oh (y4 E (y5 E) 0 none true 50 [v29] h) fun v30 h24 =>
ob (y6e 0 v30) fun v31 =>
ob (y6e 1 v30) fun v32 =>
ob (y6e 2 v30) fun v33 =>
ob (yb [(.int .i64 0), (.int .i64 0), (.int .i64 0), (.int .i64 0)] [(0, 1, v33), (1, 1, v31), (2, 1, v32), (3, 1, (AV.int .i64 (-1)))]) fun v37 =>
ob (evFa 5 v1) fun v38 =>
ob (evLd false 1 v38 h24) fun v39 =>
ob (evFa 5 v1) fun v40 =>
ob (evLd false 1 v40 h24) fun v41 =>
ob (y2 .eql v39 v41) fun v42 =>
gb v42 true (some v32) fun v44 =>
gb v42 true (y2 .neq v44 (AV.int .i64 0)) fun v45 =>
ob (y9 v42 v45 (AV.bool false)) fun v46 =>
oh (evSt 4 v2 v37 h24) fun _ h25 =>
(ob (evLd true 4 v2 h25) fun r0 =>
  y7 h25 (.tup [r0, v46])))
 ((y7e v1 v2 v11 h))
def y1up (s : St) : OX := y7q (s 1) (s 2) (s 11) (s 25) s.h
theorem y14g : T1 yp2 yc (y1 0 yc xN) [.cell 2 true 4, .t 3] y1up := fun s => (yu rfl (y17d s)).trans (by kernel_rfl)
def y7j (v1 v2 v11 : AV) (h : Heap) : OX :=
ob (y2 .eql v11 (AV.int .i64 5)) fun v26 =>
(y7q v1 v2 v11 v26 h)
def y1tq (s : St) : OX := y7j (s 1) (s 2) (s 11) s.h
theorem y158 : T1 yq9 yc (y1 0 yc xN) [.cell 2 true 4, .t 3] y1tq := sq y14g fun _ => by kernel_rfl
def y7n (v1 v2 v11 v22 : AV) (h : Heap) : OX :=
cnd v22
 (ob (yb [(.int .i64 0), (.int .i64 0), (.int .i64 0), (.int .i64 0)] [(0, 1, (AV.int .i64 0)), (1, 1, (AV.int .i64 0)), (2, 1, (AV.int .i64 (-1))), (3, 1, (AV.int .i64 (-1)))]) fun v24 =>
oh (evSt 4 v2 v24 h) fun _ h26 =>
(ob (evLd true 4 v2 h26) fun r0 =>
  y7 h26 (.tup [r0, (AV.bool true)])))
 ((y7j v1 v2 v11 h))
def y1s5 (s : St) : OX := y7n (s 1) (s 2) (s 11) (s 22) s.h
theorem y11w : T1 yrk yc (y1 0 yc xN) [.cell 2 true 4, .t 3] y1s5 := fun s => (yu rfl (y158 s)).trans (by kernel_rfl)
def y6t (v1 v2 v11 : AV) (h : Heap) : OX :=
ob (y2 .eql v11 (AV.int .i64 4)) fun v23 =>
(y7n v1 v2 v11 v23 h)
def y1rc (s : St) : OX := y6t (s 1) (s 2) (s 11) s.h
theorem y13d : T1 yuw yc (y1 0 yc xN) [.cell 2 true 4, .t 3] y1rc := sq y11w fun _ => by kernel_rfl
def y4n (v1 v2 v11 v16 : AV) (h : Heap) : OX :=
cnd v16
 (ob (yb [(.int .i64 0), (.int .i64 0), (.int .i64 0), (.int .i64 0)] [(0, 1, (AV.int .i64 3)), (1, 1, (AV.int .i64 (-1))), (2, 1, (AV.int .i64 (-1))), (3, 1, (AV.int .i64 (-1)))]) fun v21 =>
oh (evSt 4 v2 v21 h) fun _ h27 =>
(ob (evLd true 4 v2 h27) fun r0 =>
  y7 h27 (.tup [r0, (AV.bool true)])))
 ((y6t v1 v2 v11 h))
def y1qu (s : St) : OX := y4n (s 1) (s 2) (s 11) (s 16) s.h
theorem y11e : T1 yvp yc (y1 0 yc xN) [.cell 2 true 4, .t 3] y1qu := fun s => (yu rfl (y13d s)).trans (by kernel_rfl)
def y7d (v1 v2 v11 : AV) (h : Heap) : OX :=
ob (y2 .eql v11 (AV.int .i64 2)) fun v17 =>
cnd v17
 ((y4n v1 v2 v11 v17 h))
 (ob (y2 .eql v11 (AV.int .i64 3)) fun v18 =>
cnd v18
 ((y4n v1 v2 v11 v18 h))
 (ob (y2 .eql v11 (AV.int .i64 20)) fun v19 =>
cnd v19
 ((y4n v1 v2 v11 v19 h))
 (ob (y2 .eql v11 (AV.int .i64 32)) fun v20 =>
(y4n v1 v2 v11 v20 h))))
def y1s1 (s : St) : OX := y7d (s 1) (s 2) (s 11) s.h
theorem y1ew : T1 yvm yc (y1 0 yc xN) [.cell 2 true 4, .t 3] y1s1 := sq y11e fun _ => by kernel_rfl
def y5w (v1 v2 v11 v12 : AV) (h : Heap) : OX :=
cnd v12
 (ob (yb [(.int .i64 0), (.int .i64 0), (.int .i64 0), (.int .i64 0)] [(0, 1, (AV.int .i64 0)), (1, 1, (AV.int .i64 (-1))), (2, 1, (AV.int .i64 (-1))), (3, 1, (AV.int .i64 (-1)))]) fun v15 =>
oh (evSt 4 v2 v15 h) fun _ h28 =>
(ob (evLd true 4 v2 h28) fun r0 =>
  y7 h28 (.tup [r0, (AV.bool true)])))
 ((y7d v1 v2 v11 h))
def y1v5 (s : St) : OX := y5w (s 1) (s 2) (s 11) (s 12) s.h
theorem y12t : T1 yrm yc (y1 0 yc xN) [.cell 2 true 4, .t 3] y1v5 := fun s => (yu rfl (y1ew s)).trans (by kernel_rfl)
def y7a (v1 v2 v11 : AV) (h : Heap) : OX :=
ob (y2 .eql v11 (AV.int .i64 1)) fun v13 =>
cnd v13
 ((y5w v1 v2 v11 v13 h))
 (ob (y2 .eql v11 (AV.int .i64 18)) fun v14 =>
(y5w v1 v2 v11 v14 h))
def y131 (s : St) : OX := y7a (s 1) (s 2) (s 11) s.h
theorem y122 : T1 you yc (y1 0 yc xN) [.cell 2 true 4, .t 3] y131 := sq y12t fun _ => by kernel_rfl
theorem y1c1 : T1 yus yc xN [.cell 2 true 4, .t 3] y131 := fun s => yk.trans (y122 s)
def y78 (v1 v2 : AV) (h : Heap) : OX :=
ob (evFa 0 v1) fun v10 =>
ob (evLd false 1 v10 h) fun v11 =>
(y7a v1 v2 v11 h)
def y11r (s : St) : OX := y78 (s 1) (s 2) s.h
theorem y1al : T1 ywy yc xN [.cell 2 true 4, .t 3] y11r := sq y1c1 fun _ => by kernel_rfl
theorem y1e9 : T0 yvw [.cell 2 true 4, .t 3] y11r := sq y1lk y1al
def y6x (v0 : AV) (h : Heap) : OX :=
oh (newC 0 (some 0) (cellsOf v0) h) fun v1 h29 =>
oh (newC 0 (some 1) [(.int .i64 0), (.int .i64 0), (.int .i64 0), (.int .i64 0)] h29) fun v2 h30 =>
(y78 v1 v2 h30)
def y1qp (s : St) : OX := y6x (s 0) s.h
theorem y1cu : T0 yvd [.cell 2 true 4, .t 3] y1qp := sq y1e9 fun _ => by kernel_rfl
@[simp] theorem y24w : E.pure 47 = true := rfl
theorem y1eq (v0 : AV) : (y5 E).p 47 [v0] = y6x v0 [⟨0, .dead⟩, ⟨0, .dead⟩] :=
  (y10 (cf := y20f) (by kernel_rfl) rfl).trans ((y1cu _).trans (by kernel_rfl))
def y141 (v0 : AV) (h : Heap) : OX :=
oh (newC 0 (some 0) (cellsOf v0) h) fun v1 h1 =>
ob (evFa 0 v1) fun v3 =>
ob (evLd false 1 v3 h1) fun v4 =>
ob (y2 .geq v4 (AV.int .i64 7)) fun v5 =>
gb v5 true (evFa 0 v1) fun v7 =>
gb v5 true (evLd false 1 v7 h1) fun v8 =>
gb v5 true (y2 .leq v8 (AV.int .i64 12)) fun v9 =>
ob (y9 v5 v9 (AV.bool false)) fun v10 =>
gb v10 false (evFa 0 v1) fun v12 =>
gb v10 false (evLd false 1 v12 h1) fun v13 =>
gb v10 false (y2 .eql v13 (AV.int .i64 20)) fun v14 =>
ob (y9 v10 (AV.bool true) v14) fun v15 =>
gb v15 false (evFa 0 v1) fun v17 =>
gb v15 false (evLd false 1 v17 h1) fun v18 =>
gb v15 false (y2 .eql v18 (AV.int .i64 21)) fun v19 =>
ob (y9 v15 (AV.bool true) v19) fun v20 =>
gb v20 false (evFa 0 v1) fun v22 =>
gb v20 false (evLd false 1 v22 h1) fun v23 =>
gb v20 false (y2 .eql v23 (AV.int .i64 31)) fun v24 =>
ob (y9 v20 (AV.bool true) v24) fun v25 =>
gb v25 false (evLd true 9 v1 h1) fun v27 =>
gh v25 false (y4 E (y5 E) 0 none true 17 [v27] h1) h1 fun v28 h2 =>
ob (y9 v25 (AV.bool true) v28) fun v29 =>
(y7 h2 v29)
def y1wz (s : St) : OX := y141 (s 0) s.h
theorem y1ml : T0 y11n [.t 2] y1wz := fun _ => by kernel_rfl
@[simp] theorem y23l : E.pure 18 = true := rfl
theorem y23w (v0 : AV) : (y5 E).p 18 [v0] = y141 v0 [⟨0, .dead⟩] :=
  (y10 (cf := y1ws) (by kernel_rfl) rfl).trans ((y1ml _).trans (by kernel_rfl))
def yg7 (h : Heap) : OX :=
(y7 h (AV.int .i64 0))
def y52 (s : St) : OX := yg7 s.h
theorem y1n0 : T0 y1bg [.t 4] y52 := fun _ => by kernel_rfl
def yee (v1 v5 v16 : AV) (h : Heap) : OX :=
cnd v16
 (ob (y2q .i32 v1) fun v20 =>
ob (y2q .i64 v20) fun v21 =>
(y7 h v21))
 (ob (y2 .eql v5 (AV.int .i64 145)) fun v23 =>
cnd v23
 (ob (y2q .i8 v1) fun v25 =>
ob (y2q .i64 v25) fun v26 =>
(y7 h v26))
 (ob (y2 .eql v5 (AV.int .i64 146)) fun v28 =>
cnd v28
 (ob (y2q .u16 v1) fun v30 =>
ob (y2q .i64 v30) fun v31 =>
(y7 h v31))
 (ob (y2 .eql v5 (AV.int .i64 147)) fun v33 =>
cnd v33
 (ob (y2q .i16 v1) fun v35 =>
ob (y2q .i64 v35) fun v36 =>
(y7 h v36))
 ((yg7 h)))))
def y1ys (s : St) : OX := yee (s 1) (s 5) (s 16) s.h
theorem y1jq : T1 y15g y52 (y1 0 y52 xN) [.t 4] y1ys := fun _ => by kernel_rfl
def ygc (v1 v5 : AV) (h : Heap) : OX :=
ob (y2 .eql v5 (AV.int .i64 133)) fun v17 =>
cnd v17
 ((yee v1 v5 v17 h))
 (ob (y2 .eql v5 (AV.int .i64 136)) fun v18 =>
(yee v1 v5 v18 h))
def y1xp (s : St) : OX := ygc (s 1) (s 5) s.h
theorem y1kp : T1 y11i y52 (y1 0 y52 xN) [.t 4] y1xp := sq y1jq fun _ => by kernel_rfl
def ygf (v1 v5 v12 : AV) (h : Heap) : OX :=
cnd v12
 (ob (evUn .neg v1) fun v15 =>
(y7 h v15))
 ((ygc v1 v5 h))
def y1xc (s : St) : OX := ygf (s 1) (s 5) (s 12) s.h
theorem y1m1 : T1 y1df y52 (y1 0 y52 xN) [.t 4] y1xc := fun s => (yu rfl (y1kp s)).trans (by kernel_rfl)
def ygb (v1 v5 : AV) (h : Heap) : OX :=
ob (y2 .eql v5 (AV.int .i64 117)) fun v13 =>
(ygf v1 v5 v13 h)
def y208 (s : St) : OX := ygb (s 1) (s 5) s.h
theorem y1jt : T1 y18k y52 (y1 0 y52 xN) [.t 4] y208 := sq y1m1 fun _ => by kernel_rfl
def yfx (v1 v5 v6 : AV) (h : Heap) : OX :=
cnd v6
 (ob (y2q .i32 v1) fun v9 =>
ob (evUn .neg v9) fun v10 =>
ob (y2q .i64 v10) fun v11 =>
(y7 h v11))
 ((ygb v1 v5 h))
def y1zx (s : St) : OX := yfx (s 1) (s 5) (s 6) s.h
theorem y1li : T1 y1f6 y52 (y1 0 y52 xN) [.t 4] y1zx := fun s => (yu rfl (y1jt s)).trans (by kernel_rfl)
def yfw (v1 v5 : AV) (h : Heap) : OX :=
ob (y2 .eql v5 (AV.int .i64 116)) fun v7 =>
(yfx v1 v5 v7 h)
def y1on (s : St) : OX := yfw (s 1) (s 5) s.h
theorem y1il : T1 y13j y52 (y1 0 y52 xN) [.t 4] y1on := sq y1li fun _ => by kernel_rfl
theorem y1gk : T1 y179 y52 xN [.t 4] y1on := fun s => yk.trans (y1il s)
def yg2 (v0 v1 : AV) (h : Heap) : OX :=
(yfw v1 v0 h)
def y1ox (s : St) : OX := yg2 (s 0) (s 1) s.h
theorem y1k5 : T1 y16d y52 xN [.t 4] y1ox := sq y1gk fun _ => by kernel_rfl
theorem y1d5 : T0 ywx [.t 4] y1ox := sq y1n0 y1k5
def y92 (v0 v1 : AV) (h : Heap) : OX :=
(yg2 v0 v1 h)
def y1po (s : St) : OX := y92 (s 0) (s 1) s.h
theorem y15z : T0 ys0 [.t 4] y1po := sq y1d5 fun _ => by kernel_rfl
@[simp] theorem y22r : E.pure 127 = true := rfl
theorem y24v (v0 v1 : AV) : (y5 E).p 127 [v0, v1] = y92 v0 v1 [] :=
  (y10 (cf := y1xg) (by kernel_rfl) rfl).trans ((y15z _).trans (by kernel_rfl))
def yoj (v0 v1 v2 : AV) (h : Heap) : OX :=
oh (y4 E (y5 E) 0 none true 131 [v0, v1, v2] h) fun v32 h1 =>
(y7 h1 v32)
def y8y (s : St) : OX := yoj (s 0) (s 1) (s 2) s.h
theorem y1gt : T0 y1ed [.t 6] y8y := fun _ => by kernel_rfl
def yns (h : Heap) : OX :=
(y7 h (AV.int .i64 0))
def y1y4 (s : St) : OX := yns s.h
theorem y1mo : T1 y1cy y8y (y1 0 y8y xN) [.t 6] y1y4 := fun _ => by kernel_rfl
def ynl (v1 v2 : AV) (h : Heap) : OX :=
ob (y2 .lss v1 v2) fun v13 =>
cnd v13
 ((y7 h (AV.int .i64 (-1))))
 (ob (y2 .gtr v1 v2) fun v17 =>
cnd v17
 ((y7 h (AV.int .i64 1)))
 ((yns h)))
def y20k (s : St) : OX := ynl (s 1) (s 2) s.h
theorem y1n8 : T1 y17o y8y (y1 0 y8y xN) [.t 6] y20k := sq y1mo fun _ => by kernel_rfl
def yoc (v0 v1 v2 v7 : AV) (h : Heap) : OX :=
cnd v7
 ((ynl v1 v2 h))
 (ob (y2 .and v0 (AV.int .i64 1)) fun v20 =>
ob (y2 .eql v20 (AV.int .i64 0)) fun v21 =>
cnd v21
 (ob (y2q .i32 v1) fun v24 =>
ob (y2q .i32 v2) fun v26 =>
oh (y4 E (y5 E) 0 none true 130 [v0, v24, v26] h) fun v27 h2 =>
ob (y2q .i64 v27) fun v28 =>
(y7 h2 v28))
 ((yoj v0 v1 v2 h)))
def y1yw (s : St) : OX := yoc (s 0) (s 1) (s 2) (s 7) s.h
theorem y1gx : T1 y1ae y8y (y1 0 y8y xN) [.t 6] y1yw := fun s => (yu (y1n8 s) rfl).trans (by kernel_rfl)
def ymp (v0 v1 v2 : AV) (h : Heap) : OX :=
ob (y2 .eql v0 (AV.int .i64 148)) fun v9 =>
(yoc v0 v1 v2 v9 h)
def y1dv (s : St) : OX := ymp (s 0) (s 1) (s 2) s.h
theorem y1ki : T1 y18f y8y (y1 0 y8y xN) [.t 6] y1dv := sq y1gx fun _ => by kernel_rfl
theorem y1kx : T1 y184 y8y xN [.t 6] y1dv := fun s => yk.trans (y1ki s)
theorem y1n6 : T0 yzh [.t 6] y1dv := sq y1gt y1kx
def ymn (v0 v1 v2 : AV) (h : Heap) : OX :=
(ymp v0 v1 v2 h)
def y1yd (s : St) : OX := ymn (s 0) (s 1) (s 2) s.h
theorem y1nh : T0 y182 [.t 6] y1yd := sq y1n6 fun _ => by kernel_rfl
@[simp] theorem y22h : E.pure 128 = true := rfl
theorem y24t (v0 v1 v2 : AV) : (y5 E).p 128 [v0, v1, v2] = ymn v0 v1 v2 [] :=
  (y10 (cf := y20s) (by kernel_rfl) rfl).trans ((y1nh _).trans (by kernel_rfl))
def yis (h : Heap) : OX :=
(y7 h (AV.bool false))
def y1y9 (s : St) : OX := yis s.h
theorem y1hw : T0 y140 [.t 6] y1y9 := fun _ => by kernel_rfl
def yjd (v0 v1 v2 : AV) (h : Heap) : OX :=
ob (y2 .eql v0 (AV.int .i64 0)) fun v9 =>
cnd v9
 (ob (y2 .eql v1 v2) fun v12 =>
(y7 h v12))
 (ob (y2 .eql v0 (AV.int .i64 1)) fun v14 =>
cnd v14
 (ob (y2 .neq v1 v2) fun v17 =>
(y7 h v17))
 (ob (y2 .eql v0 (AV.int .i64 2)) fun v19 =>
cnd v19
 (ob (y2 .lss v1 v2) fun v22 =>
(y7 h v22))
 (ob (y2 .eql v0 (AV.int .i64 3)) fun v24 =>
cnd v24
 (ob (y2 .geq v1 v2) fun v27 =>
(y7 h v27))
 (ob (y2 .eql v0 (AV.int .i64 4)) fun v29 =>
cnd v29
 (ob (y2 .gtr v1 v2) fun v32 =>
(y7 h v32))
 (ob (y2 .eql v0 (AV.int .i64 5)) fun v34 =>
cnd v34
 (ob (y2 .leq v1 v2) fun v37 =>
(y7 h v37))
 ((yis h)))))))
def y1zl (s : St) : OX := yjd (s 0) (s 1) (s 2) s.h
theorem y1h2 : T0 y169 [.t 6] y1zl := sq y1hw fun _ => by kernel_rfl
def yj1 (v0 v1 v2 : AV) (h : Heap) : OX :=
(yjd v0 v1 v2 h)
def y1zu (s : St) : OX := yj1 (s 0) (s 1) (s 2) s.h
theorem y1j6 : T0 y14a [.t 6] y1zu := sq y1h2 fun _ => by kernel_rfl
@[simp] theorem y22l : E.pure 129 = true := rfl
theorem y23s (v0 v1 v2 : AV) : (y5 E).p 129 [v0, v1, v2] = yj1 v0 v1 v2 [] :=
  (y10 (cf := y1zw) (by kernel_rfl) rfl).trans ((y1j6 _).trans (by kernel_rfl))
def y1u5 (h : Heap) : OX :=
(y7 h (.tup [(AV.int .i64 0), (AV.int .i64 0), (AV.int .i64 0)]))
def y2j (s : St) : OX := y1u5 s.h
theorem y1la : T0 y1g3 [.t 2, .t 3, .t 4] y2j := fun _ => by kernel_rfl
def yyx (v5 v33 : AV) (h : Heap) : OX :=
cnd v33
 ((y7 h (.tup [(AV.int .i64 1), (AV.int .i64 0), (AV.int .i64 1)])))
 (ob (y2 .eql v5 (AV.int .i64 117)) fun v39 =>
cnd v39
 ((y7 h (.tup [(AV.int .i64 2), (AV.int .i64 0), (AV.int .i64 2)])))
 (ob (y2 .eql v5 (AV.int .i64 133)) fun v41 =>
cnd v41
 ((y7 h (.tup [(AV.int .i64 1), (AV.int .i64 0), (AV.int .i64 2)])))
 (ob (y2 .eql v5 (AV.int .i64 136)) fun v43 =>
cnd v43
 ((y7 h (.tup [(AV.int .i64 2), (AV.int .i64 0), (AV.int .i64 1)])))
 ((y1u5 h)))))
def y213 (s : St) : OX := yyx (s 5) (s 33) s.h
theorem y1hr : T1 y1ax y2j (y1 0 y2j xN) [.t 2, .t 3, .t 4] y213 := fun _ => by kernel_rfl
def y1ql (v5 : AV) (h : Heap) : OX :=
ob (y2 .eql v5 (AV.int .i64 116)) fun v34 =>
cnd v34
 ((yyx v5 v34 h))
 (ob (y2 .eql v5 (AV.int .i64 145)) fun v35 =>
cnd v35
 ((yyx v5 v35 h))
 (ob (y2 .eql v5 (AV.int .i64 146)) fun v36 =>
cnd v36
 ((yyx v5 v36 h))
 (ob (y2 .eql v5 (AV.int .i64 147)) fun v37 =>
(yyx v5 v37 h))))
def y1yu (s : St) : OX := y1ql (s 5) s.h
theorem y1lw : T1 y17j y2j (y1 0 y2j xN) [.t 2, .t 3, .t 4] y1yu := sq y1hr fun _ => by kernel_rfl
def y1qm (v5 v31 : AV) (h : Heap) : OX :=
cnd v31
 ((y7 h (.tup [(AV.int .i64 2), (AV.int .i64 2), (AV.int .i64 1)])))
 ((y1ql v5 h))
def y21y (s : St) : OX := y1qm (s 5) (s 31) s.h
theorem y1ni : T1 y149 y2j (y1 0 y2j xN) [.t 2, .t 3, .t 4] y21y := fun s => (yu rfl (y1lw s)).trans (by kernel_rfl)
def y1ud (v5 : AV) (h : Heap) : OX :=
ob (y2 .eql v5 (AV.int .i64 148)) fun v32 =>
(y1qm v5 v32 h)
def y21r (s : St) : OX := y1ud (s 5) s.h
theorem y1i8 : T1 y1fg y2j (y1 0 y2j xN) [.t 2, .t 3, .t 4] y21r := sq y1ni fun _ => by kernel_rfl
def y13c (v5 v27 : AV) (h : Heap) : OX :=
cnd v27
 ((y7 h (.tup [(AV.int .i64 2), (AV.int .i64 1), (AV.int .i64 2)])))
 ((y1ud v5 h))
def y1yn (s : St) : OX := y13c (s 5) (s 27) s.h
theorem y1j3 : T1 y1bm y2j (y1 0 y2j xN) [.t 2, .t 3, .t 4] y1yn := fun s => (yu rfl (y1i8 s)).trans (by kernel_rfl)
def y1r3 (v5 : AV) (h : Heap) : OX :=
ob (y2 .eql v5 (AV.int .i64 121)) fun v28 =>
cnd v28
 ((y13c v5 v28 h))
 (ob (y2 .eql v5 (AV.int .i64 123)) fun v29 =>
cnd v29
 ((y13c v5 v29 h))
 (ob (y2 .eql v5 (AV.int .i64 125)) fun v30 =>
(y13c v5 v30 h)))
def y1z2 (s : St) : OX := y1r3 (s 5) s.h
theorem y1jy : T1 y15o y2j (y1 0 y2j xN) [.t 2, .t 3, .t 4] y1z2 := sq y1j3 fun _ => by kernel_rfl
def yg4 (v5 v18 : AV) (h : Heap) : OX :=
cnd v18
 ((y7 h (.tup [(AV.int .i64 2), (AV.int .i64 2), (AV.int .i64 2)])))
 ((y1r3 v5 h))
def y21a (s : St) : OX := yg4 (s 5) (s 18) s.h
theorem y1nt : T1 y1a2 y2j (y1 0 y2j xN) [.t 2, .t 3, .t 4] y21a := fun s => (yu rfl (y1jy s)).trans (by kernel_rfl)
def y1sn (v5 : AV) (h : Heap) : OX :=
ob (y2 .eql v5 (AV.int .i64 97)) fun v19 =>
cnd v19
 ((yg4 v5 v19 h))
 (ob (y2 .eql v5 (AV.int .i64 101)) fun v20 =>
cnd v20
 ((yg4 v5 v20 h))
 (ob (y2 .eql v5 (AV.int .i64 105)) fun v21 =>
cnd v21
 ((yg4 v5 v21 h))
 (ob (y2 .eql v5 (AV.int .i64 109)) fun v22 =>
cnd v22
 ((yg4 v5 v22 h))
 (ob (y2 .eql v5 (AV.int .i64 113)) fun v23 =>
cnd v23
 ((yg4 v5 v23 h))
 (ob (y2 .eql v5 (AV.int .i64 127)) fun v24 =>
cnd v24
 ((yg4 v5 v24 h))
 (ob (y2 .eql v5 (AV.int .i64 129)) fun v25 =>
cnd v25
 ((yg4 v5 v25 h))
 (ob (y2 .eql v5 (AV.int .i64 131)) fun v26 =>
(yg4 v5 v26 h))))))))
def y1xe (s : St) : OX := y1sn (s 5) s.h
theorem y1m3 : T1 y15a y2j (y1 0 y2j xN) [.t 2, .t 3, .t 4] y1xe := sq y1nt fun _ => by kernel_rfl
def y5q (v5 v6 : AV) (h : Heap) : OX :=
cnd v6
 ((y7 h (.tup [(AV.int .i64 1), (AV.int .i64 1), (AV.int .i64 1)])))
 ((y1sn v5 h))
def y1pd (s : St) : OX := y5q (s 5) (s 6) s.h
theorem y11m : T1 ysh y2j (y1 0 y2j xN) [.t 2, .t 3, .t 4] y1pd := fun s => (yu rfl (y1m3 s)).trans (by kernel_rfl)
def y1fd (v5 : AV) (h : Heap) : OX :=
ob (y2 .eql v5 (AV.int .i64 96)) fun v7 =>
cnd v7
 ((y5q v5 v7 h))
 (ob (y2 .eql v5 (AV.int .i64 100)) fun v8 =>
cnd v8
 ((y5q v5 v8 h))
 (ob (y2 .eql v5 (AV.int .i64 104)) fun v9 =>
cnd v9
 ((y5q v5 v9 h))
 (ob (y2 .eql v5 (AV.int .i64 108)) fun v10 =>
cnd v10
 ((y5q v5 v10 h))
 (ob (y2 .eql v5 (AV.int .i64 112)) fun v11 =>
cnd v11
 ((y5q v5 v11 h))
 (ob (y2 .eql v5 (AV.int .i64 120)) fun v12 =>
cnd v12
 ((y5q v5 v12 h))
 (ob (y2 .eql v5 (AV.int .i64 122)) fun v13 =>
cnd v13
 ((y5q v5 v13 h))
 (ob (y2 .eql v5 (AV.int .i64 124)) fun v14 =>
cnd v14
 ((y5q v5 v14 h))
 (ob (y2 .eql v5 (AV.int .i64 126)) fun v15 =>
cnd v15
 ((y5q v5 v15 h))
 (ob (y2 .eql v5 (AV.int .i64 128)) fun v16 =>
cnd v16
 ((y5q v5 v16 h))
 (ob (y2 .eql v5 (AV.int .i64 130)) fun v17 =>
(y5q v5 v17 h)))))))))))
def yzp (s : St) : OX := y1fd (s 5) s.h
theorem y11g : T1 ypc y2j (y1 0 y2j xN) [.t 2, .t 3, .t 4] yzp := sq y11m fun _ => by kernel_rfl
theorem y1b3 : T1 yui y2j xN [.t 2, .t 3, .t 4] yzp := fun s => yk.trans (y11g s)
def y1dk (v0 : AV) (h : Heap) : OX :=
(y1fd v0 h)
def y1bx (s : St) : OX := y1dk (s 0) s.h
theorem y1do : T1 yrv y2j xN [.t 2, .t 3, .t 4] y1bx := sq y1b3 fun _ => by kernel_rfl
theorem y1c4 : T0 yt1 [.t 2, .t 3, .t 4] y1bx := sq y1la y1do
def y12r (v0 : AV) (h : Heap) : OX :=
(y1dk v0 h)
def y1qs (s : St) : OX := y12r (s 0) s.h
theorem y153 : T0 yvz [.t 2, .t 3, .t 4] y1qs := sq y1c4 fun _ => by kernel_rfl
@[simp] theorem y23e : E.pure 50 = true := rfl
theorem y24m (v0 : AV) : (y5 E).p 50 [v0] = y12r v0 [] :=
  (y10 (cf := y1ya) (by kernel_rfl) rfl).trans ((y153 _).trans (by kernel_rfl))
def q8_1 (v0 : AV) (h : Heap) : OX :=
ob (y2 .neq v0 (AV.str [])) fun v4 =>
gb v4 true (some v0) fun v6 =>
gh v4 true (y4 E (y5 E) 0 none true 44 [v6] h) h fun v7 h1 =>
gb v4 true (some v0) fun v8 =>
gb v4 true (yy 0 v8 h1) fun v9 =>
gb v4 true (y2 .eql v7 v9) fun v10 =>
ob (y9 v4 v10 (AV.bool false)) fun v11 =>
(y7 h1 v11)
def y25k (s : St) : OX := q8_1 (s 0) s.h
theorem y1w0 : T0 y1oh [.t 2] y25k := fun _ => by kernel_rfl
@[simp] theorem y255 : E.pure 37 = true := rfl
theorem x_q8 (v0 : AV) : (y5 E).p 37 [v0] = q8_1 v0 [] :=
  (y10 (cf := c_q8) (by kernel_rfl) rfl).trans ((y1w0 _).trans (by kernel_rfl))
end
end Go.Vm
