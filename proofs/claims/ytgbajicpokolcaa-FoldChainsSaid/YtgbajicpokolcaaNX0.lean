/- Functions of the machine as plain functions that go on with what follows. -/
import Derived.Test.YtgbajicpokolcaaNEnv
set_option linter.unusedSimpArgs false
set_option linter.unusedVariables false
set_option linter.unusedSectionVars false
namespace Go.Vm
noncomputable section
def y135 (v0 v5 v6 : AV) (h : Heap) : OX :=
ob (evFa 3 v5) fun v68 =>
ob (evLd false 1 v68 h) fun v69 =>
ob (yh [(.int .i64 0), (.int .i64 0), (.int .i64 0), (.int .i64 0), (.int .i64 0), (.int .i64 0), (.int .i64 0), (.str []), .nils] [(0, 1, (AV.int .i64 30)), (2, 1, (AV.int .i64 0))]) fun v70 =>
oh (y12 0 (some 5) 9 1 [(.int .i64 0), (.int .i64 0), (.int .i64 0), (.int .i64 0), (.int .i64 0), (.int .i64 0), (.int .i64 0), (.str []), .nils] [(0, v70)] h) fun v71 h1 =>
oh (y2k 0 (some 6) 9 96 v69 v71 h1) fun v72 h2 =>
ob (evFa 3 v5) fun v73 =>
oh (evSt 1 v73 v72 h2) fun _ h3 =>
ob (evLd true 5 v5 h3) fun v74 =>
oh (y4 E (y6 E) 0 none true 125 [v74] h3) fun v75 h4 =>
oh (newC 0 (some 7) [.nils, .nils, (.int .i64 0), .nils, .nils] h4) fun v11 h5 =>
oh (evSt 5 v11 v75 h5) fun _ h6 =>
ob (evFa 3 v11) fun v76 =>
ob (evLd false 1 v76 h6) fun v77 =>
ob (evFa 3 v11) fun v78 =>
ob (evLd false 1 v78 h6) fun v79 =>
ob (y13 1 v79 h6) fun v80 =>
ob (y2 .sub v80 (AV.int .i64 2)) fun v81 =>
ob (yv 9 v77 v81) fun v82 =>
ob (evLd true 9 v82 h6) fun v83 =>
oh (newC 0 (some 8) [(.int .i64 0), (.int .i64 0), (.int .i64 0), (.int .i64 0), (.int .i64 0), (.int .i64 0), (.int .i64 0), (.str []), .nils] h6) fun v12 h7 =>
oh (evSt 9 v12 v83 h7) fun _ h8 =>
ob (evFa 3 v11) fun v84 =>
ob (evLd false 1 v84 h8) fun v85 =>
ob (y13 1 v85 h8) fun v86 =>
ob (evFa 3 v5) fun v87 =>
ob (evLd false 1 v87 h8) fun v88 =>
ob (y13 1 v88 h8) fun v89 =>
ob (y2 .eql v86 v89) fun v90 =>
gb v90 true (some v0) fun v92 =>
gb v90 true (y13 1 v92 h8) fun v93 =>
gb v90 true (y2 .eql v93 (AV.int .i64 0)) fun v94 =>
gb v90 true (some v94) fun v95 =>
gb v95 false (evFa 0 v12) fun v96 =>
gb v95 false (evLd false 1 v96 h8) fun v97 =>
gb v95 false (y2 .eql v97 (AV.int .i64 5)) fun v98 =>
gb v90 true (ye v95 (AV.bool true) v98) fun v99 =>
gb v90 true (some v99) fun v100 =>
gb v100 false (evFa 0 v12) fun v101 =>
gb v100 false (evLd false 1 v101 h8) fun v102 =>
gb v100 false (y2 .eql v102 (AV.int .i64 1)) fun v103 =>
gb v100 false (some v103) fun v104 =>
gb v104 true (evFa 5 v12) fun v105 =>
gb v104 true (evLd false 1 v105 h8) fun v106 =>
gb v104 true (some v6) fun v107 =>
gb v104 true (y2 .eql v106 v107) fun v108 =>
gb v100 false (ye v104 v108 (AV.bool false)) fun v109 =>
gb v100 false (some v109) fun v110 =>
gb v110 true (evFa 1 v12) fun v111 =>
gb v110 true (evLd false 1 v111 h8) fun v112 =>
gb v110 true (y2 .eql v112 (AV.int .i64 0)) fun v113 =>
gb v100 false (ye v110 v113 (AV.bool false)) fun v114 =>
gb v90 true (ye v100 (AV.bool true) v114) fun v115 =>
ob (ye v90 v115 (AV.bool false)) fun v116 =>
gb v116 true (evLd true 5 v11 h8) fun v118 =>
gh v116 true (y4 E (y6 E) 0 none true 134 [v118] h8) h8 fun v119 h9 =>
gb v116 true (some v6) fun v120 =>
gb v116 true (y2 .eql v119 v120) fun v121 =>
ob (ye v116 v121 (AV.bool false)) fun v122 =>
(y7 h9 v122)
def y7z (s : St) : OX := y135 (s 0) (s 5) (s 6) s.h
theorem y1kq : T0 y1ci [.t 4] y7z := fun _ => by kernel_rfl
def ygu (v0 v1 v5 v6 v33 v34 v35 : AV) (h : Heap) : OX :=
  W E 0 yii ⟨[(0, v0), (1, v1), (5, v5), (6, v6), (33, v33), (34, v34), (35, v35)], h⟩ y7z (y1 0 y7z xN) (finP [.t 4])
def y9c (s : St) : OX := ygu (s 0) (s 1) (s 5) (s 6) (s 33) (s 34) (s 35) s.h
theorem yk3 : T1 yii y7z (y1 0 y7z xN) [.t 4] y9c := fun s => yi.trans (by kernel_rfl)
def y1vr (v0 v1 v5 v6 v33 v34 v35 : AV) (h : Heap) : OX :=
ob (y2 .add v35 (AV.int .i64 1)) fun v67 =>
(ygu v0 v1 v5 v6 v33 v34 v67 h)
def y22q (s : St) : OX := y1vr (s 0) (s 1) (s 5) (s 6) (s 33) (s 34) (s 35) s.h
theorem y1j9 : T1 y14x y9c (y1 0 y7z xN) [.t 4] y22q := fun _ => by kernel_rfl
def y1ym (v0 v1 v5 v6 v33 v34 v35 : AV) (h : Heap) : OX :=
ob (yv 1 v33 v35) fun v38 =>
ob (evLd false 1 v38 h) fun v39 =>
ob (yh [(.int .i64 0), (.int .i64 0), (.int .i64 0), (.int .i64 0), (.int .i64 0), (.int .i64 0), (.int .i64 0)] [(0, 1, (AV.int .i64 97)), (1, 1, (AV.int .i64 101)), (2, 1, (AV.int .i64 105)), (3, 1, (AV.int .i64 109)), (4, 1, (AV.int .i64 127)), (5, 1, (AV.int .i64 129)), (6, 1, (AV.int .i64 131))]) fun v40 =>
ob (y2 .rem v39 (AV.int .i64 7)) fun v42 =>
ob (y2 .add v42 (AV.int .i64 7)) fun v43 =>
ob (y2 .rem v43 (AV.int .i64 7)) fun v44 =>
ob (ydw false 7 1 v40 v44) fun v45 =>
ob (y2 .add v35 (AV.int .i64 1)) fun v48 =>
ob (y13 1 v1 h) fun v50 =>
ob (y2 .rem v48 v50) fun v51 =>
ob (yv 1 v1 v51) fun v52 =>
ob (evLd false 1 v52 h) fun v53 =>
ob (evFa 3 v5) fun v54 =>
ob (evLd false 1 v54 h) fun v55 =>
ob (yh [(.int .i64 0), (.int .i64 0), (.int .i64 0), (.int .i64 0), (.int .i64 0), (.int .i64 0), (.int .i64 0), (.str []), .nils] [(0, 1, (AV.int .i64 1)), (1, 1, (AV.int .i64 1)), (5, 1, v53)]) fun v57 =>
ob (yh [(.int .i64 0), (.int .i64 0), (.int .i64 0), (.int .i64 0), (.int .i64 0), (.int .i64 0), (.int .i64 0), (.str []), .nils] [(0, 1, (AV.int .i64 5)), (5, 1, v45), (1, 1, (AV.int .i64 0)), (2, 1, (AV.int .i64 0)), (3, 1, (AV.int .i64 1))]) fun v59 =>
oh (y12 0 (some 3) 9 2 [(.int .i64 0), (.int .i64 0), (.int .i64 0), (.int .i64 0), (.int .i64 0), (.int .i64 0), (.int .i64 0), (.str []), .nils] [(0, v57), (1, v59)] h) fun v60 h10 =>
oh (y2k 0 (some 4) 9 96 v55 v60 h10) fun v61 h11 =>
ob (evFa 3 v5) fun v62 =>
oh (evSt 1 v62 v61 h11) fun _ h12 =>
oh (y4 E (y6 E) 0 none true 133 [v45, v6, v53] h12) fun v66 h13 =>
(y1vr v0 v1 v5 v66 v33 v34 v35 h13)
def y233 (s : St) : OX := y1ym (s 0) (s 1) (s 5) (s 6) (s 33) (s 34) (s 35) s.h
theorem y1o5 : T1 y1ee y9c (y1 0 y7z xN) [.t 4] y233 := sq y1j9 fun _ => by kernel_rfl
def y1ml (v0 v1 v5 v6 v33 v34 v35 v36 : AV) (h : Heap) : OX :=
cnd v36
 ((y1ym v0 v1 v5 v6 v33 v34 v35 h))
 ((y135 v0 v5 v6 h))
def y257 (s : St) : OX := y1ml (s 0) (s 1) (s 5) (s 6) (s 33) (s 34) (s 35) (s 36) s.h
theorem y1ls : T1 y13v y9c (y1 0 y7z xN) [.t 4] y257 := sq y1o5 fun _ => by kernel_rfl
def y1lm (v0 v1 v5 v6 v33 v34 v35 : AV) (h : Heap) : OX :=
ob (y2 .lss v35 v34) fun v36 =>
(y1ml v0 v1 v5 v6 v33 v34 v35 v36 h)
def y23r (s : St) : OX := y1lm (s 0) (s 1) (s 5) (s 6) (s 33) (s 34) (s 35) s.h
theorem y1pf : T1 y143 y9c (y1 0 y7z xN) [.t 4] y23r := sq y1ls fun _ => by kernel_rfl
theorem ymd (v0 v1 v5 v6 v33 v34 v35 : AV) (h : Heap) : ygu v0 v1 v5 v6 v33 v34 v35 h = (y1lm v0 v1 v5 v6 v33 v34 v35 h) :=
  y22.trans ((y17 _ _ _ (n' := y9c) (fun s => yk3 s)).trans ((y1pf _).trans (by kernel_rfl)))
theorem y1pe : T1 y17r y7z xN [.t 4] y9c := fun s => yl.trans (yk3 s)
def y1wx (v0 v1 v5 v6 : AV) (h : Heap) : OX :=
ob (y13 1 v0 h) fun v34 =>
(ygu v0 v1 v5 v6 v0 v34 (AV.int .i64 0) h)
def y1rf (s : St) : OX := y1wx (s 0) (s 1) (s 5) (s 6) s.h
theorem y1pt : T1 y17u y7z xN [.t 4] y1rf := sq y1pe fun _ => by kernel_rfl
theorem y1p0 : T0 y1ah [.t 4] y1rf := sq y1kq y1pt
def y127 (v0 v1 v5 : AV) (h : Heap) : OX :=
ob (yv 1 v1 (AV.int .i64 0)) fun v31 =>
ob (evLd false 1 v31 h) fun v32 =>
(y1wx v0 v1 v5 v32 h)
def y1u6 (s : St) : OX := y127 (s 0) (s 1) (s 5) s.h
theorem y14d : T0 yoj [.t 4] y1u6 := sq y1p0 fun _ => by kernel_rfl
def y1an (v0 v1 : AV) (h : Heap) : OX :=
oh (y12 0 (some 0) 1 2 [(.int .i64 0)] [(0, (AV.int .i64 2)), (1, (AV.int .i64 2))] h) fun v23 h14 =>
ob (yv 1 v1 (AV.int .i64 0)) fun v25 =>
ob (evLd false 1 v25 h14) fun v26 =>
ob (yh [(.int .i64 0), (.int .i64 0), (.int .i64 0), (.int .i64 0), (.int .i64 0), (.int .i64 0), (.int .i64 0), (.str []), .nils] [(0, 1, (AV.int .i64 1)), (1, 1, (AV.int .i64 0)), (5, 1, v26)]) fun v27 =>
oh (y12 0 (some 1) 9 1 [(.int .i64 0), (.int .i64 0), (.int .i64 0), (.int .i64 0), (.int .i64 0), (.int .i64 0), (.int .i64 0), (.str []), .nils] [(0, v27)] h14) fun v28 h15 =>
ob (yh [.nils, .nils, (.int .i64 0), .nils, .nils] [(0, 1, v23), (2, 1, (AV.int .i64 2)), (3, 1, v28)]) fun v29 =>
oh (newC 0 (some 2) [.nils, .nils, (.int .i64 0), .nils, .nils] h15) fun v5 h16 =>
oh (evSt 5 v5 v29 h16) fun _ h17 =>
(y127 v0 v1 v5 h17)
def y1v6 (s : St) : OX := y1an (s 0) (s 1) s.h
theorem y15v : T0 yq3 [.t 4] y1v6 := sq y14d fun _ => by kernel_rfl
def y0w (v0 v1 : AV) (h : Heap) : OX :=
ob (y13 1 v0 h) fun v16 =>
ob (y2 .gtr v16 (AV.int .i64 100)) fun v17 =>
gb v17 false (some v1) fun v19 =>
gb v17 false (y13 1 v19 h) fun v20 =>
gb v17 false (y2 .eql v20 (AV.int .i64 0)) fun v21 =>
ob (ye v17 (AV.bool true) v21) fun v22 =>
cnd v22
 ((y7 h (AV.bool true)))
 ((y1an v0 v1 h))
def y1vb (s : St) : OX := y0w (s 0) (s 1) s.h
theorem y13e : T0 yum [.t 4] y1vb := sq y15v fun _ => by kernel_rfl
def y11w (v0 v1 : AV) (h : Heap) : OX :=
oh (y4 E (y6 E) 0 none true 124 [] h) fun v13 h18 =>
ob (evUn .not v13) fun v14 =>
cnd v14
 ((y7 h18 (AV.bool false)))
 ((y0w v0 v1 h18))
def y1xk (s : St) : OX := y11w (s 0) (s 1) s.h
theorem y114 : T0 ywf [.t 4] y1xk := sq y13e fun _ => by kernel_rfl
def y18l (v0 v1 : AV) (h : Heap) : OX :=
(y11w v0 v1 h)
def y1w5 (s : St) : OX := y18l (s 0) (s 1) s.h
theorem y11u : T0 yti [.t 4] y1w5 := sq y114 fun _ => by kernel_rfl
@[simp] theorem y270 : E.pure 121 = true := rfl
theorem y28j (v0 v1 : AV) : (y6 E).p 121 [v0, v1] = y18l v0 v1 [⟨0, .dead⟩, ⟨0, .dead⟩, ⟨0, .dead⟩, ⟨0, .dead⟩, ⟨0, .dead⟩, ⟨0, .dead⟩, ⟨0, .dead⟩, ⟨0, .dead⟩, ⟨0, .dead⟩] :=
  (yo (cf := y21s) (by kernel_rfl) rfl).trans ((y11u _).trans (by kernel_rfl))
def y1cb (v2 v3 : AV) (h : Heap) : OX :=
ob (evLd true 5 v3 h) fun v39 =>
oh (evSt 5 v2 v39 h) fun _ h1 =>
(ob (evLd true 5 v2 h1) fun r0 =>
  y7 h1 r0)
def y82 (s : St) : OX := y1cb (s 2) (s 3) s.h
theorem y1lb : T0 y1h9 [.cell 2 true 5] y82 := fun _ => by kernel_rfl
def ykb (v2 v3 v22 v23 : AV) (h : Heap) : OX :=
  W E 0 yji ⟨[(2, v2), (3, v3), (22, v22), (23, v23)], h⟩ y82 (y1 0 y82 xN) (finP [.cell 2 true 5])
def y94 (s : St) : OX := ykb (s 2) (s 3) (s 22) (s 23) s.h
theorem yk8 : T1 yji y82 (y1 0 y82 xN) [.cell 2 true 5] y94 := fun s => yi.trans (by kernel_rfl)
def y1s1 (v2 v3 v22 v23 : AV) (h : Heap) : OX :=
ob (y2 .add v23 (AV.int .i64 1)) fun v38 =>
(ykb v2 v3 v22 v38 h)
def y20l (s : St) : OX := y1s1 (s 2) (s 3) (s 22) (s 23) s.h
theorem y1jn : T1 y00 y94 (y1 0 y82 xN) [.cell 2 true 5] y20l := fun _ => by kernel_rfl
def y1z5 (v2 v3 v22 v23 : AV) (h : Heap) : OX :=
ob (evFa 3 v3) fun v26 =>
ob (evLd false 1 v26 h) fun v27 =>
ob (evFa 3 v3) fun v29 =>
ob (evLd false 1 v29 h) fun v30 =>
ob (yv 9 v30 v23) fun v32 =>
ob (evFa 8 v32) fun v33 =>
ob (evLd false 1 v33 h) fun v34 =>
ofp (y4s E (y6 E) 0 none true 39 [v34] h) fun f9 =>
oh (y4 E (y6 E) 0 none true 39 [v34] h) fun v35 h2 =>
ob (yv 9 v27 v23) fun v36 =>
ob (evFa 8 v36) fun v37 =>
oh (evSt 1 v37 v35 h2) fun _ h3 =>
okK (yu [([], []), (ids1 v26, []), ([], []), ([], []), (ids1 v29, []), ([], []), ([], []), ([], []), (ids1 v33, []), f9, ([], []), ([], []), ([], ids1 v37)] [(1, 9)]) <|
(y1s1 v2 v3 v22 v23 h3)
def y26e (s : St) : OX := y1z5 (s 2) (s 3) (s 22) (s 23) s.h
theorem y1lr : T1 y14e y94 (y1 0 y82 xN) [.cell 2 true 5] y26e := sq y1jn fun _ => by kernel_rfl
def y1lc (v2 v3 v22 v23 v24 : AV) (h : Heap) : OX :=
cnd v24
 ((y1z5 v2 v3 v22 v23 h))
 ((y1cb v2 v3 h))
def y244 (s : St) : OX := y1lc (s 2) (s 3) (s 22) (s 23) (s 24) s.h
theorem y1n5 : T1 y145 y94 (y1 0 y82 xN) [.cell 2 true 5] y244 := sq y1lr fun _ => by kernel_rfl
def y1ob (v2 v3 v22 v23 : AV) (h : Heap) : OX :=
ob (y2 .lss v23 v22) fun v24 =>
(y1lc v2 v3 v22 v23 v24 h)
def y21o (s : St) : OX := y1ob (s 2) (s 3) (s 22) (s 23) s.h
theorem y1hf : T1 y1gv y94 (y1 0 y82 xN) [.cell 2 true 5] y21o := sq y1n5 fun _ => by kernel_rfl
theorem yln (v2 v3 v22 v23 : AV) (h : Heap) : ykb v2 v3 v22 v23 h = (y1ob v2 v3 v22 v23 h) :=
  y22.trans ((y17 _ _ _ (n' := y94) (fun s => yk8 s)).trans ((y1hf _).trans (by kernel_rfl)))
theorem y1m9 : T1 y1bp y82 xN [.cell 2 true 5] y94 := fun s => yl.trans (yk8 s)
def y196 (v2 v3 : AV) (h : Heap) : OX :=
ob (evFa 3 v3) fun v20 =>
ob (evLd false 1 v20 h) fun v21 =>
ob (y13 1 v21 h) fun v22 =>
(ykb v2 v3 v22 (AV.int .i64 0) h)
def y1qx (s : St) : OX := y196 (s 2) (s 3) s.h
theorem y1nt : T1 y1c2 y82 xN [.cell 2 true 5] y1qx := sq y1m9 fun _ => by kernel_rfl
theorem y1k5 : T0 y14m [.cell 2 true 5] y1qx := sq y1lb y1nt
def ym1 (v1 v2 : AV) (h : Heap) : OX :=
ob (evFa 0 v1) fun v5 =>
ob (evLd false 1 v5 h) fun v6 =>
ofp (y4s E (y6 E) 0 (some 2) false 39 [v6] h) fun f2 =>
oh (y4 E (y6 E) 0 (some 2) false 39 [v6] h) fun v7 h4 =>
ob (evFa 1 v1) fun v8 =>
ob (evLd false 1 v8 h4) fun v9 =>
ofp (y4s E (y6 E) 0 (some 3) false 39 [v9] h4) fun f5 =>
oh (y4 E (y6 E) 0 (some 3) false 39 [v9] h4) fun v10 h5 =>
ob (evFa 2 v1) fun v11 =>
ob (evLd false 1 v11 h5) fun v12 =>
ob (evFa 3 v1) fun v13 =>
ob (evLd false 1 v13 h5) fun v14 =>
ofp (y4s E (y6 E) 0 (some 4) false 40 [v14] h5) fun f10 =>
oh (y4 E (y6 E) 0 (some 4) false 40 [v14] h5) fun v15 h6 =>
ob (evFa 4 v1) fun v16 =>
ob (evLd false 1 v16 h6) fun v17 =>
ofp (y4s E (y6 E) 0 (some 5) false 41 [v17] h6) fun f13 =>
oh (y4 E (y6 E) 0 (some 5) false 41 [v17] h6) fun v18 h7 =>
ob (yh [.nils, .nils, (.int .i64 0), .nils, .nils] [(0, 1, v7), (1, 1, v10), (2, 1, v12), (3, 1, v15), (4, 1, v18)]) fun v19 =>
oh (newC 0 (some 6) [.nils, .nils, (.int .i64 0), .nils, .nils] h7) fun v3 h8 =>
oh (evSt 5 v3 v19 h8) fun _ h9 =>
okK (yu [([], []), (ids1 v5, []), f2, ([], []), (ids1 v8, []), f5, ([], []), (ids1 v11, []), ([], []), (ids1 v13, []), f10, ([], []), (ids1 v16, []), f13, ([], []), ([], [0 + 6]), ([], ids1 v3)] [(2, 4), (2, 7), (5, 7), (2, 9), (5, 9), (7, 10), (2, 12), (5, 12), (10, 12), (7, 13), (1, 15), (2, 15), (4, 15), (5, 15), (7, 15), (9, 15), (10, 15), (12, 15), (13, 15)]) <|
(y196 v2 v3 h9)
def y1yd (s : St) : OX := ym1 (s 1) (s 2) s.h
theorem y129 : T0 ys7 [.cell 2 true 5] y1yd := sq y1k5 fun _ => by kernel_rfl
def yrl (v0 : AV) (h : Heap) : OX :=
oh (newC 0 (some 0) (cellsOf v0) h) fun v1 h10 =>
oh (newC 0 (some 1) [.nils, .nils, (.int .i64 0), .nils, .nils] h10) fun v2 h11 =>
(ym1 v1 v2 h11)
def y1y3 (s : St) : OX := yrl (s 0) s.h
theorem y1dw : T0 yvh [.cell 2 true 5] y1y3 := sq y129 fun _ => by kernel_rfl
@[simp] theorem y2aa : E.pure 13 = true := rfl
theorem y28k (v0 : AV) : (y6 E).p 13 [v0] = yrl v0 [⟨0, .dead⟩, ⟨0, .dead⟩, ⟨0, .dead⟩, ⟨0, .dead⟩, ⟨0, .dead⟩, ⟨0, .dead⟩, ⟨0, .dead⟩] :=
  (yo (cf := y206) (by kernel_rfl) rfl).trans ((y1dw _).trans (by kernel_rfl))
def y1x1 (h : Heap) : OX :=
(y7 h (AV.int .i64 0))
def y85 (s : St) : OX := y1x1 s.h
theorem y1ow : T0 y16d [.t 2] y85 := fun _ => by kernel_rfl
def ygh (v1 v3 v136 v137 v138 : AV) (h : Heap) : OX :=
  W E 0 yj7 ⟨[(1, v1), (3, v3), (136, v136), (137, v137), (138, v138)], h⟩ y85 (y1 6 y85 xN) (finP [.t 2])
def y9e (s : St) : OX := ygh (s 1) (s 3) (s 136) (s 137) (s 138) s.h
theorem ykq : T1 yj7 y85 (y1 6 y85 xN) [.t 2] y9e := fun s => yi.trans (by kernel_rfl)
def y1y2 (v1 v3 v136 v137 v138 : AV) (h : Heap) : OX :=
ob (y2 .add v138 (AV.int .i64 1)) fun v179 =>
(ygh v1 v3 v136 v137 v179 h)
def y24k (s : St) : OX := y1y2 (s 1) (s 3) (s 136) (s 137) (s 138) s.h
theorem y1kp : T1 y1at y9e (y1 6 y85 xN) [.t 2] y24k := fun _ => by kernel_rfl
def yjc (v1 v3 v136 v137 v138 : AV) (h : Heap) : OX :=
ob (yv 4 v136 v138) fun v140 =>
ob (evLd true 4 v140 h) fun v141 =>
oh (newC 0 (some 2) [(.int .i64 0), (.int .i64 0), (.int .i64 0), (.str [])] h) fun v11 h1 =>
oh (evSt 4 v11 v141 h1) fun _ h2 =>
ob (evFa 0 v11) fun v142 =>
ob (evLd false 1 v142 h2) fun v143 =>
ob (y2 .lss v143 (AV.int .i64 0)) fun v144 =>
gb v144 false (evFa 0 v11) fun v146 =>
gb v144 false (evLd false 1 v146 h2) fun v147 =>
gb v144 false (evFa 1 v11) fun v148 =>
gb v144 false (evLd false 1 v148 h2) fun v149 =>
gb v144 false (y2 .geq v147 v149) fun v150 =>
ob (ye v144 (AV.bool true) v150) fun v151 =>
gb v151 false (evFa 1 v11) fun v153 =>
gb v151 false (evLd false 1 v153 h2) fun v154 =>
gb v151 false (some v3) fun v155 =>
gb v151 false (y2 .gtr v154 v155) fun v156 =>
ob (ye v151 (AV.bool true) v156) fun v157 =>
gb v157 false (evFa 2 v11) fun v159 =>
gb v157 false (evLd false 1 v159 h2) fun v160 =>
gb v157 false (y2 .lss v160 (AV.int .i64 0)) fun v161 =>
ob (ye v157 (AV.bool true) v161) fun v162 =>
gb v162 false (evFa 2 v11) fun v164 =>
gb v162 false (evLd false 1 v164 h2) fun v165 =>
gb v162 false (some v3) fun v166 =>
gb v162 false (y2 .geq v165 v166) fun v167 =>
ob (ye v162 (AV.bool true) v167) fun v168 =>
gb v168 false (evFa 3 v1) fun v170 =>
gb v168 false (evLd false 1 v170 h2) fun v171 =>
gb v168 false (evFa 2 v11) fun v172 =>
gb v168 false (evLd false 1 v172 h2) fun v173 =>
gb v168 false (yv 9 v171 v173) fun v174 =>
gb v168 false (evFa 0 v174) fun v175 =>
gb v168 false (evLd false 1 v175 h2) fun v176 =>
gb v168 false (y2 .neq v176 (AV.int .i64 32)) fun v177 =>
ob (ye v168 (AV.bool true) v177) fun v178 =>
cnd v178
 ((y7 h2 (AV.int .i64 80)))
 ((y1y2 v1 v3 v136 v137 v138 h2))
def y25d (s : St) : OX := yjc (s 1) (s 3) (s 136) (s 137) (s 138) s.h
theorem y1j0 : T1 y1fz y9e (y1 6 y85 xN) [.t 2] y25d := sq y1kp fun _ => by kernel_rfl
def y1jp (v1 v3 v136 v137 v138 v139 : AV) (h : Heap) : OX :=
cnd v139
 ((yjc v1 v3 v136 v137 v138 h))
 ((y1x1 h))
def y267 (s : St) : OX := y1jp (s 1) (s 3) (s 136) (s 137) (s 138) (s 139) s.h
theorem y1kh : T1 yzp y9e (y1 6 y85 xN) [.t 2] y267 := sq y1j0 fun _ => by kernel_rfl
def y1le (v1 v3 v136 v137 v138 : AV) (h : Heap) : OX :=
ob (y2 .lss v138 v137) fun v139 =>
(y1jp v1 v3 v136 v137 v138 v139 h)
def y25z (s : St) : OX := y1le (s 1) (s 3) (s 136) (s 137) (s 138) s.h
theorem y1l2 : T1 y1eb y9e (y1 6 y85 xN) [.t 2] y25z := sq y1kh fun _ => by kernel_rfl
theorem yk2 (v1 v3 v136 v137 v138 : AV) (h : Heap) : ygh v1 v3 v136 v137 v138 h = (y1le v1 v3 v136 v137 v138 h) :=
  y22.trans ((y17 _ _ _ (n' := y9e) (fun s => ykq s)).trans ((y1l2 _).trans (by kernel_rfl)))
theorem y1hv : T1 y14t y85 xN [.t 2] y9e := fun s => yl.trans (ykq s)
def y1ei (v1 v3 : AV) (h : Heap) : OX :=
ob (evFa 4 v1) fun v135 =>
ob (evLd false 1 v135 h) fun v136 =>
ob (y13 1 v136 h) fun v137 =>
(ygh v1 v3 v136 v137 (AV.int .i64 0) h)
def y46 (s : St) : OX := y1ei (s 1) (s 3) s.h
theorem y1m5 : T1 y1gl y85 xN [.t 2] y46 := sq y1hv fun _ => by kernel_rfl
theorem y1jv : T0 y1cc [.t 2] y46 := sq y1ow y1m5
def yb8 (v1 v3 v92 v93 v94 : AV) (h : Heap) : OX :=
  W E 0 yep ⟨[(1, v1), (3, v3), (92, v92), (93, v93), (94, v94)], h⟩ y46 (y1 4 y46 xN) (finP [.t 2])
def y68 (s : St) : OX := yb8 (s 1) (s 3) (s 92) (s 93) (s 94) s.h
theorem ygv : T1 yep y46 (y1 4 y46 xN) [.t 2] y68 := fun s => yi.trans (by kernel_rfl)
def yq1 (v1 v3 v92 v93 v94 : AV) (h : Heap) : OX :=
ob (y2 .add v94 (AV.int .i64 1)) fun v134 =>
(yb8 v1 v3 v92 v93 v134 h)
def y83 (s : St) : OX := yq1 (s 1) (s 3) (s 92) (s 93) (s 94) s.h
theorem y1dn : T1 yrq y68 (y1 4 y46 xN) [.t 2] y83 := fun _ => by kernel_rfl
def y8y (v1 v3 v8 v9 v92 v93 v94 : AV) (h : Heap) : OX :=
ob (evFa 0 v9) fun v103 =>
ob (evLd false 1 v103 h) fun v104 =>
ob (y2 .eql v104 (AV.int .i64 32)) fun v105 =>
gb v105 true (some v8) fun v107 =>
gb v105 true (y2 .eql v107 (AV.int .i64 0)) fun v108 =>
gb v105 true (some v108) fun v109 =>
gb v109 false (evFa 3 v1) fun v110 =>
gb v109 false (evLd false 1 v110 h) fun v111 =>
gb v109 false (some v8) fun v112 =>
gb v109 false (y2 .sub v112 (AV.int .i64 1)) fun v113 =>
gb v109 false (yv 9 v111 v113) fun v114 =>
gb v109 false (evLd true 9 v114 h) fun v115 =>
gh v109 false (y4 E (y6 E) 0 none true 24 [v115] h) h fun v116 h3 =>
gb v109 false (evUn .not v116) fun v117 =>
gb v105 true (ye v109 (AV.bool true) v117) fun v118 =>
ob (ye v105 v118 (AV.bool false)) fun v119 =>
gb v119 false (evLd true 9 v9 h3) fun v121 =>
gh v119 false (y4 E (y6 E) 0 none true 22 [v121] h3) h3 fun v122 h4 =>
gb v119 false (some v122) fun v123 =>
gb v123 true (evFa 3 v1) fun v124 =>
gb v123 true (evLd false 1 v124 h4) fun v125 =>
gb v123 true (evFa 6 v9) fun v126 =>
gb v123 true (evLd false 1 v126 h4) fun v127 =>
gb v123 true (yv 9 v125 v127) fun v128 =>
gb v123 true (evFa 0 v128) fun v129 =>
gb v123 true (evLd false 1 v129 h4) fun v130 =>
gb v123 true (y2 .eql v130 (AV.int .i64 32)) fun v131 =>
gb v119 false (ye v123 v131 (AV.bool false)) fun v132 =>
ob (ye v119 (AV.bool true) v132) fun v133 =>
cnd v133
 ((y7 h4 (AV.int .i64 80)))
 ((yq1 v1 v3 v92 v93 v94 h4))
def y1so (s : St) : OX := y8y (s 1) (s 3) (s 8) (s 9) (s 92) (s 93) (s 94) s.h
theorem y1dd : T1 yp3 y83 (y1 5 y83 (y1 4 y46 xN)) [.t 2] y1so := fun _ => by kernel_rfl
def yv0 (v1 v3 v8 v9 v92 v93 v94 : AV) (h : Heap) : OX :=
ob (evLd true 5 v1 h) fun v99 =>
ob (evLd true 9 v9 h) fun v100 =>
oh (y4 E (y6 E) 0 none true 63 [v99, v100] h) fun v101 h5 =>
ob (evUn .not v101) fun v102 =>
cnd v102
 ((y7 h5 (AV.int .i64 80)))
 ((y8y v1 v3 v8 v9 v92 v93 v94 h5))
def y1yy (s : St) : OX := yv0 (s 1) (s 3) (s 8) (s 9) (s 92) (s 93) (s 94) s.h
theorem y1al : T1 yrn y83 (y1 5 y83 (y1 4 y46 xN)) [.t 2] y1yy := sq y1dd fun _ => by kernel_rfl
def ylw (v1 v3 v92 v93 v94 : AV) (h : Heap) : OX :=
ob (yv 9 v92 v94) fun v97 =>
ob (evLd true 9 v97 h) fun v98 =>
oh (newC 0 (some 1) [(.int .i64 0), (.int .i64 0), (.int .i64 0), (.int .i64 0), (.int .i64 0), (.int .i64 0), (.int .i64 0), (.str []), .nils] h) fun v9 h6 =>
oh (evSt 9 v9 v98 h6) fun _ h7 =>
(yv0 v1 v3 v94 v9 v92 v93 v94 h7)
def yo9 (s : St) : OX := ylw (s 1) (s 3) (s 92) (s 93) (s 94) s.h
theorem y14y : T1 yry y83 (y1 5 y83 (y1 4 y46 xN)) [.t 2] yo9 := sq y1al fun _ => by kernel_rfl
theorem y08 : T1 yw6 y83 (y1 4 y46 xN) [.t 2] yo9 := fun s => yl.trans (y14y s)
theorem y11h : T1 ysn y68 (y1 4 y46 xN) [.t 2] yo9 := sq y1dn y08
def ytx (v1 v3 v92 v93 v94 v95 : AV) (h : Heap) : OX :=
cnd v95
 ((ylw v1 v3 v92 v93 v94 h))
 ((y1ei v1 v3 h))
def y1vh (s : St) : OX := ytx (s 1) (s 3) (s 92) (s 93) (s 94) (s 95) s.h
theorem y15i : T1 yqa y68 (y1 4 y46 xN) [.t 2] y1vh := sq y11h fun _ => by kernel_rfl
def yr1 (v1 v3 v92 v93 v94 : AV) (h : Heap) : OX :=
ob (y2 .lss v94 v93) fun v95 =>
(ytx v1 v3 v92 v93 v94 v95 h)
def y1ui (s : St) : OX := yr1 (s 1) (s 3) (s 92) (s 93) (s 94) s.h
theorem y163 : T1 ysw y68 (y1 4 y46 xN) [.t 2] y1ui := sq y15i fun _ => by kernel_rfl
theorem yh0 (v1 v3 v92 v93 v94 : AV) (h : Heap) : yb8 v1 v3 v92 v93 v94 h = (yr1 v1 v3 v92 v93 v94 h) :=
  y22.trans ((y17 _ _ _ (n' := y68) (fun s => ygv s)).trans ((y163 _).trans (by kernel_rfl)))
theorem y04 : T1 ys6 y46 xN [.t 2] y68 := fun s => yl.trans (ygv s)
def yle (v1 v3 : AV) (h : Heap) : OX :=
ob (evFa 3 v1) fun v91 =>
ob (evLd false 1 v91 h) fun v92 =>
ob (y13 1 v92 h) fun v93 =>
(yb8 v1 v3 v92 v93 (AV.int .i64 0) h)
def y45 (s : St) : OX := yle (s 1) (s 3) s.h
theorem y16k : T1 yx2 y46 xN [.t 2] y45 := sq y04 fun _ => by kernel_rfl
theorem y12c : T0 yp2 [.t 2] y45 := sq y1jv y16k
def ybt (v1 v3 v62 v63 v64 : AV) (h : Heap) : OX :=
  W E 0 yf1 ⟨[(1, v1), (3, v3), (62, v62), (63, v63), (64, v64)], h⟩ y45 (y1 2 y45 xN) (finP [.t 2])
def y5u (s : St) : OX := ybt (s 1) (s 3) (s 62) (s 63) (s 64) s.h
theorem yh9 : T1 yf1 y45 (y1 2 y45 xN) [.t 2] y5u := fun s => yi.trans (by kernel_rfl)
def y13t (v1 v3 v62 v63 v64 : AV) (h : Heap) : OX :=
ob (y2 .add v64 (AV.int .i64 1)) fun v90 =>
(ybt v1 v3 v62 v63 v90 h)
def y1w6 (s : St) : OX := y13t (s 1) (s 3) (s 62) (s 63) (s 64) s.h
theorem y14i : T1 yvs y5u (y1 2 y45 xN) [.t 2] y1w6 := fun _ => by kernel_rfl
def yf3 (v1 v3 v62 v63 v64 : AV) (h : Heap) : OX :=
ob (yv 1 v62 v64) fun v67 =>
ob (evLd false 1 v67 h) fun v68 =>
ob (y2 .lss v68 (AV.int .i64 0)) fun v70 =>
gb v70 false (some v68) fun v72 =>
gb v70 false (evFa 0 v1) fun v73 =>
gb v70 false (evLd false 1 v73 h) fun v74 =>
gb v70 false (y13 1 v74 h) fun v75 =>
gb v70 false (y2 .geq v72 v75) fun v76 =>
ob (ye v70 (AV.bool true) v76) fun v77 =>
gb v77 false (evFa 1 v1) fun v79 =>
gb v77 false (evLd false 1 v79 h) fun v80 =>
gb v77 false (some v64) fun v81 =>
gb v77 false (ygj 1 v80 none (some v81)) fun v82 =>
gb v77 false (some v68) fun v83 =>
gh v77 false (y4 E (y6 E) 0 none true 46 [v82, v83] h) h fun v84 h8 =>
ob (ye v77 (AV.bool true) v84) fun v85 =>
gb v85 false (some v64) fun v87 =>
gb v85 false (y2 .gtr v87 (AV.int .i64 20)) fun v88 =>
ob (ye v85 (AV.bool true) v88) fun v89 =>
cnd v89
 ((y7 h8 (AV.int .i64 80)))
 ((y13t v1 v3 v62 v63 v64 h8))
def y1tw (s : St) : OX := yf3 (s 1) (s 3) (s 62) (s 63) (s 64) s.h
theorem y1c4 : T1 ypk y5u (y1 2 y45 xN) [.t 2] y1tw := sq y14i fun _ => by kernel_rfl
def yra (v1 v3 v62 v63 v64 v65 : AV) (h : Heap) : OX :=
cnd v65
 ((yf3 v1 v3 v62 v63 v64 h))
 ((yle v1 v3 h))
def y1xj (s : St) : OX := yra (s 1) (s 3) (s 62) (s 63) (s 64) (s 65) s.h
theorem y17s : T1 yrb y5u (y1 2 y45 xN) [.t 2] y1xj := sq y1c4 fun _ => by kernel_rfl
def yqn (v1 v3 v62 v63 v64 : AV) (h : Heap) : OX :=
ob (y2 .lss v64 v63) fun v65 =>
(yra v1 v3 v62 v63 v64 v65 h)
def y1st (s : St) : OX := yqn (s 1) (s 3) (s 62) (s 63) (s 64) s.h
theorem y11r : T1 ysb y5u (y1 2 y45 xN) [.t 2] y1st := sq y17s fun _ => by kernel_rfl
theorem ygb (v1 v3 v62 v63 v64 : AV) (h : Heap) : ybt v1 v3 v62 v63 v64 h = (yqn v1 v3 v62 v63 v64 h) :=
  y22.trans ((y17 _ _ _ (n' := y5u) (fun s => yh9 s)).trans ((y11r _).trans (by kernel_rfl)))
theorem y18d : T1 ywe y45 xN [.t 2] y5u := fun s => yl.trans (yh9 s)
def yl0 (v1 v3 : AV) (h : Heap) : OX :=
ob (evFa 1 v1) fun v61 =>
ob (evLd false 1 v61 h) fun v62 =>
ob (y13 1 v62 h) fun v63 =>
(ybt v1 v3 v62 v63 (AV.int .i64 0) h)
def y3x (s : St) : OX := yl0 (s 1) (s 3) s.h
theorem y16b : T1 yvw y45 xN [.t 2] y3x := sq y18d fun _ => by kernel_rfl
theorem y119 : T0 yrg [.t 2] y3x := sq y12c y16b
def ybh (v1 v3 v48 v49 v50 : AV) (h : Heap) : OX :=
  W E 0 ydi ⟨[(1, v1), (3, v3), (48, v48), (49, v49), (50, v50)], h⟩ y3x (y1 0 y3x xN) (finP [.t 2])
def y5t (s : St) : OX := ybh (s 1) (s 3) (s 48) (s 49) (s 50) s.h
theorem yho : T1 ydi y3x (y1 0 y3x xN) [.t 2] y5t := fun s => yi.trans (by kernel_rfl)
def y18n (v1 v3 v48 v49 v50 : AV) (h : Heap) : OX :=
ob (y2 .add v50 (AV.int .i64 1)) fun v60 =>
(ybh v1 v3 v48 v49 v60 h)
def y1s2 (s : St) : OX := y18n (s 1) (s 3) (s 48) (s 49) (s 50) s.h
theorem y197 : T1 ytz y5t (y1 0 y3x xN) [.t 2] y1s2 := fun _ => by kernel_rfl
def yk1 (v1 v3 v48 v49 v50 : AV) (h : Heap) : OX :=
ob (yv 1 v48 v50) fun v52 =>
ob (evLd false 1 v52 h) fun v53 =>
ob (y2 .lss v53 (AV.int .i64 1)) fun v55 =>
gb v55 false (some v53) fun v57 =>
gb v55 false (y2 .gtr v57 (AV.int .i64 3)) fun v58 =>
ob (ye v55 (AV.bool true) v58) fun v59 =>
cnd v59
 ((y7 h (AV.int .i64 80)))
 ((y18n v1 v3 v48 v49 v50 h))
def y1yz (s : St) : OX := yk1 (s 1) (s 3) (s 48) (s 49) (s 50) s.h
theorem y1e0 : T1 yua y5t (y1 0 y3x xN) [.t 2] y1yz := sq y197 fun _ => by kernel_rfl
def yvf (v1 v3 v48 v49 v50 v51 : AV) (h : Heap) : OX :=
cnd v51
 ((yk1 v1 v3 v48 v49 v50 h))
 ((yl0 v1 v3 h))
def y1wk (s : St) : OX := yvf (s 1) (s 3) (s 48) (s 49) (s 50) (s 51) s.h
theorem y116 : T1 yrr y5t (y1 0 y3x xN) [.t 2] y1wk := sq y1e0 fun _ => by kernel_rfl
def yv9 (v1 v3 v48 v49 v50 : AV) (h : Heap) : OX :=
ob (y2 .lss v50 v49) fun v51 =>
(yvf v1 v3 v48 v49 v50 v51 h)
def y1s5 (s : St) : OX := yv9 (s 1) (s 3) (s 48) (s 49) (s 50) s.h
theorem y110 : T1 yr7 y5t (y1 0 y3x xN) [.t 2] y1s5 := sq y116 fun _ => by kernel_rfl
theorem yg9 (v1 v3 v48 v49 v50 : AV) (h : Heap) : ybh v1 v3 v48 v49 v50 h = (yv9 v1 v3 v48 v49 v50 h) :=
  y22.trans ((y17 _ _ _ (n' := y5t) (fun s => yho s)).trans ((y110 _).trans (by kernel_rfl)))
theorem y11x : T1 yq7 y3x xN [.t 2] y5t := fun s => yl.trans (yho s)
def ygk (v1 v3 : AV) (h : Heap) : OX :=
ob (evFa 0 v1) fun v47 =>
ob (evLd false 1 v47 h) fun v48 =>
ob (y13 1 v48 h) fun v49 =>
(ybh v1 v3 v48 v49 (AV.int .i64 0) h)
def y1cn (s : St) : OX := ygk (s 1) (s 3) s.h
theorem y1dz : T1 ypn y3x xN [.t 2] y1cn := sq y11x fun _ => by kernel_rfl
theorem y1fs : T0 yow [.t 2] y1cn := sq y119 y1dz
def yaj (v1 v3 : AV) (h : Heap) : OX :=
ob (y2 .lss v3 (AV.int .i64 1)) fun v16 =>
gb v16 false (some v3) fun v18 =>
gb v16 false (y2 .gtr v18 (AV.int .i64 20000)) fun v19 =>
ob (ye v16 (AV.bool true) v19) fun v20 =>
gb v20 false (evFa 0 v1) fun v22 =>
gb v20 false (evLd false 1 v22 h) fun v23 =>
gb v20 false (y13 1 v23 h) fun v24 =>
gb v20 false (y2 .gtr v24 (AV.int .i64 20000)) fun v25 =>
ob (ye v20 (AV.bool true) v25) fun v26 =>
gb v26 false (evFa 2 v1) fun v28 =>
gb v26 false (evLd false 1 v28 h) fun v29 =>
gb v26 false (y2 .lss v29 (AV.int .i64 0)) fun v30 =>
ob (ye v26 (AV.bool true) v30) fun v31 =>
gb v31 false (evFa 2 v1) fun v33 =>
gb v31 false (evLd false 1 v33 h) fun v34 =>
gb v31 false (y2 .gtr v34 (AV.int .i64 3)) fun v35 =>
ob (ye v31 (AV.bool true) v35) fun v36 =>
gb v36 false (evFa 3 v1) fun v38 =>
gb v36 false (evLd false 1 v38 h) fun v39 =>
gb v36 false (some v3) fun v40 =>
gb v36 false (y2 .sub v40 (AV.int .i64 1)) fun v41 =>
gb v36 false (yv 9 v39 v41) fun v42 =>
gb v36 false (evLd true 9 v42 h) fun v43 =>
gh v36 false (y4 E (y6 E) 0 none true 24 [v43] h) h fun v44 h9 =>
gb v36 false (evUn .not v44) fun v45 =>
ob (ye v36 (AV.bool true) v45) fun v46 =>
cnd v46
 ((y7 h9 (AV.int .i64 80)))
 ((ygk v1 v3 h9))
def y1xt (s : St) : OX := yaj (s 1) (s 3) s.h
theorem y1a3 : T0 ypv [.t 2] y1xt := sq y1fs fun _ => by kernel_rfl
def yai (v1 : AV) (h : Heap) : OX :=
ob (evFa 3 v1) fun v12 =>
ob (evLd false 1 v12 h) fun v13 =>
ob (y13 1 v13 h) fun v14 =>
(yaj v1 v14 h)
def y1tx (s : St) : OX := yai (s 1) s.h
theorem yzz : T0 yvr [.t 2] y1tx := sq y1a3 fun _ => by kernel_rfl
def y8z (v0 : AV) (h : Heap) : OX :=
oh (newC 0 (some 0) (cellsOf v0) h) fun v1 h10 =>
(yai v1 h10)
def y1uj (s : St) : OX := y8z (s 0) s.h
theorem y17z : T0 yu1 [.t 2] y1uj := sq yzz fun _ => by kernel_rfl
@[simp] theorem y2b0 : E.pure 8 = true := rfl
theorem y28s (v0 : AV) : (y6 E).p 8 [v0] = y8z v0 [⟨0, .dead⟩, ⟨0, .dead⟩, ⟨0, .dead⟩] :=
  (yo (cf := y232) (by kernel_rfl) rfl).trans ((y17z _).trans (by kernel_rfl))
@[simp] theorem y27d : E.pure 124 = true := rfl
def y1s7 (v0 v1 v2 : AV) (h : Heap) : OX :=
ob (y2 .sub v0 (AV.int .i64 1)) fun v27 =>
oh (y4 E (y6 E) 0 none true 136 [v27, v1, v2, (AV.bool true)] h) fun v30 h1 =>
(y7 h1 v30)
def y20r (s : St) : OX := y1s7 (s 0) (s 1) (s 2) s.h
theorem y1i3 : T0 y16o [.t 6] y20r := fun _ => by kernel_rfl
def y1yp (v0 v1 v2 : AV) (h : Heap) : OX :=
ob (y2 .and v0 (AV.int .i64 1)) fun v18 =>
ob (y2 .eql v18 (AV.int .i64 0)) fun v19 =>
cnd v19
 (oh (y4 E (y6 E) 0 none true 135 [v1, (AV.int .i64 32)] h) fun v22 h2 =>
oh (y4 E (y6 E) 0 none true 135 [v2, (AV.int .i64 32)] h2) fun v24 h3 =>
oh (y4 E (y6 E) 0 none true 136 [v0, v22, v24, (AV.bool false)] h3) fun v25 h4 =>
(y7 h4 v25))
 ((y1s7 v0 v1 v2 h))
def ye7 (s : St) : OX := y1yp (s 0) (s 1) (s 2) s.h
theorem y1kf : T0 y1ge [.t 6] ye7 := sq y1i3 fun _ => by kernel_rfl
def y1u8 (v7 : AV) (h : Heap) : OX :=
(y7 h v7)
def y238 (s : St) : OX := y1u8 (s 7) s.h
theorem y1ni : T1 y1cw ye7 xN [.t 6] y238 := fun _ => by kernel_rfl
def y1tt (v1 v2 v7 : AV) (h : Heap) : OX :=
ob (y2 .gtr v1 v2) fun v15 =>
cnd v15
 ((y1u8 (AV.int .i64 1) h))
 ((y1u8 v7 h))
def y231 (s : St) : OX := y1tt (s 1) (s 2) (s 7) s.h
theorem y1pw : T1 y182 ye7 xN [.t 6] y231 := sq y1ni fun _ => by kernel_rfl
def y235 (v1 v2 v7 : AV) (h : Heap) : OX :=
ob (y2 .lss v1 v2) fun v12 =>
cnd v12
 ((y1tt v1 v2 (AV.int .i64 (-1)) h))
 ((y1tt v1 v2 v7 h))
def y21k (s : St) : OX := y235 (s 1) (s 2) (s 7) s.h
theorem y1oi : T1 y1ap ye7 xN [.t 6] y21k := sq y1pw fun _ => by kernel_rfl
def y21c (v1 v2 : AV) (h : Heap) : OX :=
(y235 v1 v2 (AV.int .i64 0) h)
def y258 (s : St) : OX := y21c (s 1) (s 2) s.h
theorem y1pk : T1 y1es ye7 xN [.t 6] y258 := sq y1oi fun _ => by kernel_rfl
def y1ug (v0 v1 v2 v9 : AV) (h : Heap) : OX :=
cnd v9
 ((y21c v1 v2 h))
 ((y1yp v0 v1 v2 h))
def y21h (s : St) : OX := y1ug (s 0) (s 1) (s 2) (s 9) s.h
theorem y1ho : T1 yzj ye7 xN [.t 6] y21h := fun s => (yt (y1pk s) rfl).trans (by kernel_rfl)
def y1sx (v0 v1 v2 : AV) (h : Heap) : OX :=
ob (y2 .eql v0 (AV.int .i64 148)) fun v9 =>
(y1ug v0 v1 v2 v9 h)
def y1q4 (s : St) : OX := y1sx (s 0) (s 1) (s 2) s.h
theorem y1m0 : T1 y1g6 ye7 xN [.t 6] y1q4 := sq y1ho fun _ => by kernel_rfl
theorem y1kw : T0 y15p [.t 6] y1q4 := sq y1kf y1m0
def y19x (v0 v1 v2 : AV) (h : Heap) : OX :=
(y1sx v0 v1 v2 h)
def y1va (s : St) : OX := y19x (s 0) (s 1) (s 2) s.h
theorem y1a0 : T0 yvt [.t 6] y1va := sq y1kw fun _ => by kernel_rfl
@[simp] theorem y26p : E.pure 133 = true := rfl
theorem y28n (v0 v1 v2 : AV) : (y6 E).p 133 [v0, v1, v2] = y19x v0 v1 v2 [] :=
  (yo (cf := y20x) (by kernel_rfl) rfl).trans ((y1a0 _).trans (by kernel_rfl))
def y1dk (v1 v2 : AV) (h : Heap) : OX :=
ob (evLd true 5 v1 h) fun v62 =>
oh (evSt 5 v2 v62 h) fun _ h1 =>
(ob (evLd true 5 v2 h1) fun r0 =>
  y7 h1 r0)
def y4r (s : St) : OX := y1dk (s 1) (s 2) s.h
theorem y1mj : T0 y1ai [.cell 2 true 5] y4r := fun _ => by kernel_rfl
def yge (v1 v2 v3 v6 v29 v30 v31 : AV) (h : Heap) : OX :=
  W E 0 yjf ⟨[(1, v1), (2, v2), (3, v3), (6, v6), (29, v29), (30, v30), (31, v31)], h⟩ y4r (y1 2 y4r xN) (finP [.cell 2 true 5])
def y9a (s : St) : OX := yge (s 1) (s 2) (s 3) (s 6) (s 29) (s 30) (s 31) s.h
theorem yli : T1 yjf y4r (y1 2 y4r xN) [.cell 2 true 5] y9a := fun s => yi.trans (by kernel_rfl)
def yi4 (v1 v2 v3 v6 v29 v30 v31 : AV) (h : Heap) : OX :=
ob (y2 .add v31 (AV.int .i64 1)) fun v61 =>
(yge v1 v2 v3 v6 v29 v30 v61 h)
def yc5 (s : St) : OX := yi4 (s 1) (s 2) (s 3) (s 6) (s 29) (s 30) (s 31) s.h
theorem y1mo : T1 y1c9 y9a (y1 2 y4r xN) [.cell 2 true 5] yc5 := fun _ => by kernel_rfl
def yoh (v1 v2 v3 v6 v7 v8 v29 v30 v31 : AV) (h : Heap) : OX :=
ob (evLd true 9 v8 h) fun v40 =>
oh (y4 E (y6 E) 0 none false 126 [v40, v6] h) fun v42 h2 =>
oh (evSt 9 v8 v42 h2) fun _ h3 =>
ob (evFa 3 v1) fun v43 =>
ob (evLd false 1 v43 h3) fun v44 =>
ob (evLd true 9 v8 h3) fun v46 =>
ob (yv 9 v44 v7) fun v47 =>
oh (evSt 9 v47 v46 h3) fun _ h4 =>
ob (evLd true 9 v8 h4) fun v48 =>
oh (y4 E (y6 E) 0 none true 9 [v48] h4) fun v49 h5 =>
ob (y2 .geq v49 (AV.int .i64 0)) fun v51 =>
cnd v51
 (oh (y84 false [0] v6 v49 h5) fun _ h6 =>
ob (evFa 0 v8) fun v54 =>
ob (evLd false 1 v54 h6) fun v55 =>
ob (y2 .eql v55 (AV.int .i64 1)) fun v56 =>
cnd v56
 (ob (evFa 5 v8) fun v59 =>
ob (evLd false 1 v59 h6) fun v60 =>
oh (y6s false [0] v6 v49 v60 h6) fun _ h7 =>
(yi4 v1 v2 v3 v6 v29 v30 v31 h7))
 ((yi4 v1 v2 v3 v6 v29 v30 v31 h6)))
 ((yi4 v1 v2 v3 v6 v29 v30 v31 h5))
def y21b (s : St) : OX := yoh (s 1) (s 2) (s 3) (s 6) (s 7) (s 8) (s 29) (s 30) (s 31) s.h
theorem y1ns : T1 y1f5 yc5 (y1 3 yc5 (y1 2 y4r xN)) [.cell 2 true 5] y21b := fun _ => by kernel_rfl
def y186 (v1 v2 v3 v6 v7 v8 v29 v30 v31 : AV) (h : Heap) : OX :=
ob (y3s false [0] (.bool false) false v3 v7 h) fun v38 =>
cnd v38
 (oh (y8p v6 h) fun _ h8 =>
(yoh v1 v2 v3 v6 v7 v8 v29 v30 v31 h8))
 ((yoh v1 v2 v3 v6 v7 v8 v29 v30 v31 h))
def y20j (s : St) : OX := y186 (s 1) (s 2) (s 3) (s 6) (s 7) (s 8) (s 29) (s 30) (s 31) s.h
theorem y1nh : T1 y0d yc5 (y1 3 yc5 (y1 2 y4r xN)) [.cell 2 true 5] y20j := sq y1ns fun _ => by kernel_rfl
def y1yw (v1 v2 v3 v6 v29 v30 v31 : AV) (h : Heap) : OX :=
ob (yv 9 v29 v31) fun v34 =>
ob (evLd true 9 v34 h) fun v35 =>
oh (newC 0 (some 12) [(.int .i64 0), (.int .i64 0), (.int .i64 0), (.int .i64 0), (.int .i64 0), (.int .i64 0), (.int .i64 0), (.str []), .nils] h) fun v8 h9 =>
oh (evSt 9 v8 v35 h9) fun _ h10 =>
(y186 v1 v2 v3 v6 v31 v8 v29 v30 v31 h10)
def y12y (s : St) : OX := y1yw (s 1) (s 2) (s 3) (s 6) (s 29) (s 30) (s 31) s.h
theorem y1pj : T1 y1fy yc5 (y1 3 yc5 (y1 2 y4r xN)) [.cell 2 true 5] y12y := sq y1nh fun _ => by kernel_rfl
theorem y1jx : T1 y16c yc5 (y1 2 y4r xN) [.cell 2 true 5] y12y := fun s => yl.trans (y1pj s)
theorem y1md : T1 y1g4 y9a (y1 2 y4r xN) [.cell 2 true 5] y12y := sq y1mo y1jx
def y1pr (v1 v2 v3 v6 v29 v30 v31 v32 : AV) (h : Heap) : OX :=
cnd v32
 ((y1yw v1 v2 v3 v6 v29 v30 v31 h))
 ((y1dk v1 v2 h))
def y22y (s : St) : OX := y1pr (s 1) (s 2) (s 3) (s 6) (s 29) (s 30) (s 31) (s 32) s.h
theorem y1ib : T1 y1co y9a (y1 2 y4r xN) [.cell 2 true 5] y22y := sq y1md fun _ => by kernel_rfl
def yt7 (v1 v2 v3 v6 v29 v30 v31 : AV) (h : Heap) : OX :=
ob (y2 .lss v31 v30) fun v32 =>
(y1pr v1 v2 v3 v6 v29 v30 v31 v32 h)
def y1vx (s : St) : OX := yt7 (s 1) (s 2) (s 3) (s 6) (s 29) (s 30) (s 31) s.h
theorem y183 : T1 ypw y9a (y1 2 y4r xN) [.cell 2 true 5] y1vx := sq y1ib fun _ => by kernel_rfl
theorem yl9 (v1 v2 v3 v6 v29 v30 v31 : AV) (h : Heap) : yge v1 v2 v3 v6 v29 v30 v31 h = (yt7 v1 v2 v3 v6 v29 v30 v31 h) :=
  y22.trans ((y17 _ _ _ (n' := y9a) (fun s => yli s)).trans ((y183 _).trans (by kernel_rfl)))
theorem y1gg : T1 yqm y4r xN [.cell 2 true 5] y9a := fun s => yl.trans (yli s)
def y1ec (v1 v2 v3 v6 : AV) (h : Heap) : OX :=
ob (evFa 3 v1) fun v28 =>
ob (evLd false 1 v28 h) fun v29 =>
ob (y13 1 v29 h) fun v30 =>
(yge v1 v2 v3 v6 v29 v30 (AV.int .i64 0) h)
def y148 (s : St) : OX := y1ec (s 1) (s 2) (s 3) (s 6) s.h
theorem y1fn : T1 yuq y4r xN [.cell 2 true 5] y148 := sq y1gg fun _ => by kernel_rfl
theorem y1d3 : T0 yw4 [.cell 2 true 5] y148 := sq y1mj y1fn
def yoo (v1 v2 v3 : AV) (h : Heap) : OX :=
oh (mkmC 0 (some 11) h) fun v27 h11 =>
(y1ec v1 v2 v3 v27 h11)
def y4t (s : St) : OX := yoo (s 1) (s 2) (s 3) s.h
theorem yzn : T0 ys8 [.cell 2 true 5] y4t := sq y1d3 fun _ => by kernel_rfl
def ydg (v1 v2 v3 v18 v19 v20 : AV) (h : Heap) : OX :=
  W E 0 yek ⟨[(1, v1), (2, v2), (3, v3), (18, v18), (19, v19), (20, v20)], h⟩ y4t (y1 0 y4t xN) (finP [.cell 2 true 5])
def y61 (s : St) : OX := ydg (s 1) (s 2) (s 3) (s 18) (s 19) (s 20) s.h
theorem ygi : T1 yek y4t (y1 0 y4t xN) [.cell 2 true 5] y61 := fun s => yi.trans (by kernel_rfl)
def y11k (v1 v2 v3 v18 v19 v20 : AV) (h : Heap) : OX :=
ob (y2 .add v20 (AV.int .i64 1)) fun v26 =>
(ydg v1 v2 v3 v18 v19 v26 h)
def y1sc (s : St) : OX := y11k (s 1) (s 2) (s 3) (s 18) (s 19) (s 20) s.h
theorem y1h2 : T1 ysp y61 (y1 0 y4t xN) [.cell 2 true 5] y1sc := fun _ => by kernel_rfl
def y1fp (v1 v2 v3 v18 v19 v20 : AV) (h : Heap) : OX :=
ob (yv 1 v18 v20) fun v22 =>
ob (evLd false 1 v22 h) fun v23 =>
oh (y6s false [0] v3 v23 (AV.bool true) h) fun _ h12 =>
(y11k v1 v2 v3 v18 v19 v20 h12)
def y1wn (s : St) : OX := y1fp (s 1) (s 2) (s 3) (s 18) (s 19) (s 20) s.h
theorem y1de : T1 yw8 y61 (y1 0 y4t xN) [.cell 2 true 5] y1wn := sq y1h2 fun _ => by kernel_rfl
def yp8 (v1 v2 v3 v18 v19 v20 v21 : AV) (h : Heap) : OX :=
cnd v21
 ((y1fp v1 v2 v3 v18 v19 v20 h))
 ((yoo v1 v2 v3 h))
def y1tj (s : St) : OX := yp8 (s 1) (s 2) (s 3) (s 18) (s 19) (s 20) (s 21) s.h
theorem y1bq : T1 yse y61 (y1 0 y4t xN) [.cell 2 true 5] y1tj := sq y1de fun _ => by kernel_rfl
def ypc (v1 v2 v3 v18 v19 v20 : AV) (h : Heap) : OX :=
ob (y2 .lss v20 v19) fun v21 =>
(yp8 v1 v2 v3 v18 v19 v20 v21 h)
def y1xp (s : St) : OX := ypc (s 1) (s 2) (s 3) (s 18) (s 19) (s 20) s.h
theorem y0n : T1 yu8 y61 (y1 0 y4t xN) [.cell 2 true 5] y1xp := sq y1bq fun _ => by kernel_rfl
theorem ygl (v1 v2 v3 v18 v19 v20 : AV) (h : Heap) : ydg v1 v2 v3 v18 v19 v20 h = (ypc v1 v2 v3 v18 v19 v20 h) :=
  y22.trans ((y17 _ _ _ (n' := y61) (fun s => ygi s)).trans ((y0n _).trans (by kernel_rfl)))
theorem y1dt : T1 yvq y4t xN [.cell 2 true 5] y61 := fun s => yl.trans (ygi s)
def yro (v1 v2 v3 : AV) (h : Heap) : OX :=
ob (evLd true 5 v1 h) fun v17 =>
oh (y4 E (y6 E) 0 none true 102 [v17] h) fun v18 h13 =>
ob (y13 1 v18 h13) fun v19 =>
(ydg v1 v2 v3 v18 v19 (AV.int .i64 0) h13)
def y12s (s : St) : OX := yro (s 1) (s 2) (s 3) s.h
theorem y1d7 : T1 ypf y4t xN [.cell 2 true 5] y12s := sq y1dt fun _ => by kernel_rfl
theorem y1eu : T0 yts [.cell 2 true 5] y12s := sq yzn y1d7
def y11f (v1 v2 : AV) (h : Heap) : OX :=
oh (mkmC 0 (some 10) h) fun v16 h14 =>
(yro v1 v2 v16 h14)
def y1w0 (s : St) : OX := y11f (s 1) (s 2) s.h
theorem y174 : T0 ysd [.cell 2 true 5] y1w0 := sq y1eu fun _ => by kernel_rfl
def yl1 (v1 v2 : AV) (h : Heap) : OX :=
ob (evLd true 5 v1 h) fun v12 =>
oh (y4 E (y6 E) 0 none true 8 [v12] h) fun v13 h15 =>
ob (y2 .neq v13 (AV.int .i64 0)) fun v14 =>
cnd v14
 (ob (evLd true 5 v1 h15) fun v15 =>
oh (evSt 5 v2 v15 h15) fun _ h16 =>
(ob (evLd true 5 v2 h16) fun r0 =>
  y7 h16 r0))
 ((y11f v1 v2 h15))
def y1u3 (s : St) : OX := yl1 (s 1) (s 2) s.h
theorem y1ff : T0 ysq [.cell 2 true 5] y1u3 := sq y174 fun _ => by kernel_rfl
def y1da (v1 v2 : AV) (h : Heap) : OX :=
ob (evLd true 5 v1 h) fun v10 =>
oh (y4 E (y6 E) 0 (some 2) false 13 [v10] h) fun v11 h17 =>
oh (evSt 5 v1 v11 h17) fun _ h18 =>
(yl1 v1 v2 h18)
def y1xg (s : St) : OX := y1da (s 1) (s 2) s.h
theorem y0s : T0 yvm [.cell 2 true 5] y1xg := sq y1ff fun _ => by kernel_rfl
def y191 (v0 : AV) (h : Heap) : OX :=
oh (newC 0 (some 0) (cellsOf v0) h) fun v1 h19 =>
oh (newC 0 (some 1) [.nils, .nils, (.int .i64 0), .nils, .nils] h19) fun v2 h20 =>
(y1da v1 v2 h20)
def y1tf (s : St) : OX := y191 (s 0) s.h
theorem y19k : T0 yoy [.cell 2 true 5] y1tf := sq y0s fun _ => by kernel_rfl
@[simp] theorem y27l : E.pure 125 = true := rfl
theorem y28u (v0 : AV) : (y6 E).p 125 [v0] = y191 v0 [⟨0, .dead⟩, ⟨0, .dead⟩, ⟨0, .dead⟩, ⟨0, .dead⟩, ⟨0, .dead⟩, ⟨0, .dead⟩, ⟨0, .dead⟩, ⟨0, .dead⟩, ⟨0, .dead⟩, ⟨0, .dead⟩, ⟨0, .dead⟩, ⟨0, .dead⟩, ⟨0, .dead⟩] :=
  (yo (cf := y25y) (by kernel_rfl) rfl).trans ((y19k _).trans (by kernel_rfl))
def y0m (v3 : AV) (h : Heap) : OX :=
ob (y8k 2 1 v3 (AV.int .i64 0)) fun v43 =>
ob (evLd false 1 v43 h) fun v44 =>
(y7 h v44)
def y7q (s : St) : OX := y0m (s 3) s.h
theorem y1hn : T0 y0r [.t 2] y7q := fun _ => by kernel_rfl
def yev (v3 v7 v8 v9 : AV) (h : Heap) : OX :=
  W E 0 yiu ⟨[(3, v3), (7, v7), (8, v8), (9, v9)], h⟩ y7q (y1 0 y7q xN) (finP [.t 2])
def y9i (s : St) : OX := yev (s 3) (s 7) (s 8) (s 9) s.h
theorem yjs : T1 yiu y7q (y1 0 y7q xN) [.t 2] y9i := fun s => yi.trans (by kernel_rfl)
def ylc (v3 v7 v8 v9 : AV) (h : Heap) : OX :=
ob (y2 .add v9 (AV.int .i64 1)) fun v42 =>
(yev v3 v7 v8 v42 h)
def y22g (s : St) : OX := ylc (s 3) (s 7) (s 8) (s 9) s.h
theorem y1hq : T1 y1aw y9i (y1 0 y7q xN) [.t 2] y22g := fun _ => by kernel_rfl
def yxj (v3 v7 v8 v9 : AV) (h : Heap) : OX :=
ob (yv 9 v7 v9) fun v11 =>
ob (evLd true 9 v11 h) fun v12 =>
oh (newC 0 (some 2) [(.int .i64 0), (.int .i64 0), (.int .i64 0), (.int .i64 0), (.int .i64 0), (.int .i64 0), (.int .i64 0), (.str []), .nils] h) fun v5 h1 =>
oh (evSt 9 v5 v12 h1) fun _ h2 =>
ob (evFa 0 v5) fun v13 =>
ob (evLd false 1 v13 h2) fun v14 =>
ob (y2 .eql v14 (AV.int .i64 1)) fun v16 =>
cnd v16
 (ob (evFa 1 v5) fun v17 =>
ob (evLd false 1 v17 h2) fun v18 =>
ob (y2 .and v18 (AV.int .i64 1)) fun v19 =>
ob (evFa 5 v5) fun v20 =>
ob (evLd false 1 v20 h2) fun v21 =>
ob (y8k 2 1 v3 v19) fun v22 =>
oh (evSt 1 v22 v21 h2) fun _ h3 =>
(ylc v3 v7 v8 v9 h3))
 (ob (y2 .eql v14 (AV.int .i64 5)) fun v24 =>
cnd v24
 (ob (evFa 1 v5) fun v25 =>
ob (evLd false 1 v25 h2) fun v26 =>
ob (y2 .and v26 (AV.int .i64 1)) fun v27 =>
ob (evFa 5 v5) fun v28 =>
ob (evLd false 1 v28 h2) fun v29 =>
ob (evFa 2 v5) fun v30 =>
ob (evLd false 1 v30 h2) fun v31 =>
ob (y2 .and v31 (AV.int .i64 1)) fun v32 =>
ob (y8k 2 1 v3 v32) fun v33 =>
ob (evLd false 1 v33 h2) fun v34 =>
ob (evFa 3 v5) fun v35 =>
ob (evLd false 1 v35 h2) fun v36 =>
ob (y2 .and v36 (AV.int .i64 1)) fun v37 =>
ob (y8k 2 1 v3 v37) fun v38 =>
ob (evLd false 1 v38 h2) fun v39 =>
ofp (y4s E (y6 E) 0 none true 133 [v29, v34, v39] h2) fun f15 =>
oh (y4 E (y6 E) 0 none true 133 [v29, v34, v39] h2) fun v40 h4 =>
ob (y8k 2 1 v3 v27) fun v41 =>
oh (evSt 1 v41 v40 h4) fun _ h5 =>
okK (yu [([], []), (ids1 v25, []), ([], []), ([], []), (ids1 v28, []), ([], []), (ids1 v30, []), ([], []), ([], []), (ids1 v33, []), ([], []), (ids1 v35, []), ([], []), ([], []), (ids1 v38, []), f15, ([], []), ([], ids1 v41)] [(1, 15)]) <|
(ylc v3 v7 v8 v9 h5))
 ((ylc v3 v7 v8 v9 h2)))
def y23p (s : St) : OX := yxj (s 3) (s 7) (s 8) (s 9) s.h
theorem y1nn : T1 y16p y9i (y1 0 y7q xN) [.t 2] y23p := sq y1hq fun _ => by kernel_rfl
def y1l3 (v3 v7 v8 v9 v10 : AV) (h : Heap) : OX :=
cnd v10
 ((yxj v3 v7 v8 v9 h))
 ((y0m v3 h))
def y23u (s : St) : OX := y1l3 (s 3) (s 7) (s 8) (s 9) (s 10) s.h
theorem y1ng : T1 y1d8 y9i (y1 0 y7q xN) [.t 2] y23u := sq y1nn fun _ => by kernel_rfl
def y1in (v3 v7 v8 v9 : AV) (h : Heap) : OX :=
ob (y2 .lss v9 v8) fun v10 =>
(y1l3 v3 v7 v8 v9 v10 h)
def y20z (s : St) : OX := y1in (s 3) (s 7) (s 8) (s 9) s.h
theorem y1i5 : T1 y1bh y9i (y1 0 y7q xN) [.t 2] y20z := sq y1ng fun _ => by kernel_rfl
theorem yjy (v3 v7 v8 v9 : AV) (h : Heap) : yev v3 v7 v8 v9 h = (y1in v3 v7 v8 v9 h) :=
  y22.trans ((y17 _ _ _ (n' := y9i) (fun s => yjs s)).trans ((y1i5 _).trans (by kernel_rfl)))
theorem y1nz : T1 y1h3 y7q xN [.t 2] y9i := fun s => yl.trans (yjs s)
def y1u1 (v1 v3 : AV) (h : Heap) : OX :=
ob (evFa 3 v1) fun v6 =>
ob (evLd false 1 v6 h) fun v7 =>
ob (y13 1 v7 h) fun v8 =>
(yev v3 v7 v8 (AV.int .i64 0) h)
def y1qp (s : St) : OX := y1u1 (s 1) (s 3) s.h
theorem y1hm : T1 y1ez y7q xN [.t 2] y1qp := sq y1nz fun _ => by kernel_rfl
theorem y1jd : T0 y11e [.t 2] y1qp := sq y1hn y1hm
def y118 (v1 : AV) (h : Heap) : OX :=
oh (newC 0 (some 1) [(.int .i64 0), (.int .i64 0)] h) fun v3 h6 =>
(y1u1 v1 v3 h6)
def y1xo (s : St) : OX := y118 (s 1) s.h
theorem y19n : T0 ywg [.t 2] y1xo := sq y1jd fun _ => by kernel_rfl
def yzv (v0 : AV) (h : Heap) : OX :=
oh (newC 0 (some 0) (cellsOf v0) h) fun v1 h7 =>
(y118 v1 h7)
def y1s8 (s : St) : OX := yzv (s 0) s.h
theorem y1g9 : T0 ys4 [.t 2] y1s8 := sq y19n fun _ => by kernel_rfl
@[simp] theorem y273 : E.pure 134 = true := rfl
theorem y294 (v0 : AV) : (y6 E).p 134 [v0] = yzv v0 [⟨0, .dead⟩, ⟨0, .dead⟩, ⟨0, .dead⟩] :=
  (yo (cf := y21v) (by kernel_rfl) rfl).trans ((y1g9 _).trans (by kernel_rfl))
def y17i (h : Heap) : OX :=
(y7 h (AV.int .i64 (-1)))
def y23v (s : St) : OX := y17i s.h
theorem y1js : T0 y18j [.t 2] y23v := fun _ => by kernel_rfl
def y16f (v1 : AV) (h : Heap) : OX :=
ob (evLd true 9 v1 h) fun v22 =>
oh (y4 E (y6 E) 0 none true 17 [v22] h) fun v23 h1 =>
cnd v23
 (ob (evFa 1 v1) fun v24 =>
ob (evLd false 1 v24 h1) fun v25 =>
(y7 h1 v25))
 ((y17i h1))
def yfi (s : St) : OX := y16f (s 1) s.h
theorem y1or : T0 y134 [.t 2] yfi := sq y1js fun _ => by kernel_rfl
def y7d (v1 v5 : AV) (h : Heap) : OX :=
cnd v5
 (ob (evFa 1 v1) fun v20 =>
ob (evLd false 1 v20 h) fun v21 =>
(y7 h v21))
 ((y16f v1 h))
def y20u (s : St) : OX := y7d (s 1) (s 5) s.h
theorem y1l4 : T1 y13h yfi (y1 0 yfi xN) [.t 2] y20u := fun _ => by kernel_rfl
def y138 (v1 v4 : AV) (h : Heap) : OX :=
ob (y2 .eql v4 (AV.int .i64 1)) fun v6 =>
cnd v6
 ((y7d v1 v6 h))
 (ob (y2 .eql v4 (AV.int .i64 2)) fun v7 =>
cnd v7
 ((y7d v1 v7 h))
 (ob (y2 .eql v4 (AV.int .i64 3)) fun v8 =>
cnd v8
 ((y7d v1 v8 h))
 (ob (y2 .eql v4 (AV.int .i64 4)) fun v9 =>
cnd v9
 ((y7d v1 v9 h))
 (ob (y2 .eql v4 (AV.int .i64 5)) fun v10 =>
cnd v10
 ((y7d v1 v10 h))
 (ob (y2 .eql v4 (AV.int .i64 6)) fun v11 =>
cnd v11
 ((y7d v1 v11 h))
 (ob (y2 .eql v4 (AV.int .i64 13)) fun v12 =>
cnd v12
 ((y7d v1 v12 h))
 (ob (y2 .eql v4 (AV.int .i64 15)) fun v13 =>
cnd v13
 ((y7d v1 v13 h))
 (ob (y2 .eql v4 (AV.int .i64 16)) fun v14 =>
cnd v14
 ((y7d v1 v14 h))
 (ob (y2 .eql v4 (AV.int .i64 18)) fun v15 =>
cnd v15
 ((y7d v1 v15 h))
 (ob (y2 .eql v4 (AV.int .i64 20)) fun v16 =>
cnd v16
 ((y7d v1 v16 h))
 (ob (y2 .eql v4 (AV.int .i64 21)) fun v17 =>
cnd v17
 ((y7d v1 v17 h))
 (ob (y2 .eql v4 (AV.int .i64 22)) fun v18 =>
cnd v18
 ((y7d v1 v18 h))
 (ob (y2 .eql v4 (AV.int .i64 32)) fun v19 =>
(y7d v1 v19 h))))))))))))))
def y1r7 (s : St) : OX := y138 (s 1) (s 4) s.h
theorem y1ma : T1 y1b8 yfi (y1 0 yfi xN) [.t 2] y1r7 := sq y1l4 fun _ => by kernel_rfl
theorem y1p6 : T1 y1f6 yfi xN [.t 2] y1r7 := fun s => yl.trans (y1ma s)
def y16v (v1 : AV) (h : Heap) : OX :=
ob (evFa 0 v1) fun v3 =>
ob (evLd false 1 v3 h) fun v4 =>
(y138 v1 v4 h)
def y1r3 (s : St) : OX := y16v (s 1) s.h
theorem y1jt : T1 y18p yfi xN [.t 2] y1r3 := sq y1p6 fun _ => by kernel_rfl
theorem y1ly : T0 y15o [.t 2] y1r3 := sq y1or y1jt
def y18q (v0 : AV) (h : Heap) : OX :=
oh (newC 0 (some 0) (cellsOf v0) h) fun v1 h2 =>
(y16v v1 h2)
def y1zt (s : St) : OX := y18q (s 0) s.h
theorem y1lv : T0 y168 [.t 2] y1zt := sq y1ly fun _ => by kernel_rfl
@[simp] theorem y2ap : E.pure 9 = true := rfl
theorem y29t (v0 : AV) : (y6 E).p 9 [v0] = y18q v0 [⟨0, .dead⟩] :=
  (yo (cf := y25j) (by kernel_rfl) rfl).trans ((y1lv _).trans (by kernel_rfl))
def yss (v0 : AV) (h : Heap) : OX :=
oh (y12 0 (some 0) 1 0 [(.int .i64 0)] [] h) fun v5 h1 =>
oh (y2k 0 (some 1) 1 8 v5 v0 h1) fun v7 h2 =>
(y7 h2 v7)
def y1up (s : St) : OX := yss (s 0) s.h
theorem y157 : T0 ypg [.t 2] y1up := fun _ => by kernel_rfl
def yun (v0 : AV) (h : Heap) : OX :=
ob (ygx 1 false v0 AV.nils) fun v4 =>
cnd v4
 ((y7 h AV.nils))
 ((yss v0 h))
def y1x0 (s : St) : OX := yun (s 0) s.h
theorem y18w : T0 ytq [.t 2] y1x0 := sq y157 fun _ => by kernel_rfl
def yor (v0 : AV) (h : Heap) : OX :=
(yun v0 h)
def y1we (s : St) : OX := yor (s 0) s.h
theorem y164 : T0 yx0 [.t 2] y1we := sq y18w fun _ => by kernel_rfl
@[simp] theorem y2a2 : E.pure 39 = true := rfl
theorem y25n (v0 : AV) : (y6 E).p 39 [v0] = yor v0 [⟨0, .dead⟩, ⟨0, .dead⟩] :=
  (yo (cf := y1qn) (by kernel_rfl) rfl).trans ((y164 _).trans (by kernel_rfl))
def yw2 (v0 : AV) (h : Heap) : OX :=
oh (y12 0 (some 0) 9 0 [(.int .i64 0), (.int .i64 0), (.int .i64 0), (.int .i64 0), (.int .i64 0), (.int .i64 0), (.int .i64 0), (.str []), .nils] [] h) fun v5 h1 =>
oh (y2k 0 (some 1) 9 96 v5 v0 h1) fun v7 h2 =>
(y7 h2 v7)
def y1sz (s : St) : OX := yw2 (s 0) s.h
theorem y15t : T0 yon [.t 2] y1sz := fun _ => by kernel_rfl
def yvk (v0 : AV) (h : Heap) : OX :=
ob (ygx 1 false v0 AV.nils) fun v4 =>
cnd v4
 ((y7 h AV.nils))
 ((yw2 v0 h))
def y1u4 (s : St) : OX := yvk (s 0) s.h
theorem y18x : T0 yt0 [.t 2] y1u4 := sq y15t fun _ => by kernel_rfl
def ys2 (v0 : AV) (h : Heap) : OX :=
(yvk v0 h)
def y1t6 (s : St) : OX := ys2 (s 0) s.h
theorem y189 : T0 yui [.t 2] y1t6 := sq y18x fun _ => by kernel_rfl
@[simp] theorem y27s : E.pure 40 = true := rfl
theorem y209 (v0 : AV) : (y6 E).p 40 [v0] = ys2 v0 [⟨0, .dead⟩, ⟨0, .dead⟩] :=
  (yo (cf := y1ro) (by kernel_rfl) rfl).trans ((y189 _).trans (by kernel_rfl))
def yvg (v0 : AV) (h : Heap) : OX :=
oh (y12 0 (some 0) 4 0 [(.int .i64 0), (.int .i64 0), (.int .i64 0), (.str [])] [] h) fun v5 h1 =>
oh (y2k 0 (some 1) 4 40 v5 v0 h1) fun v7 h2 =>
(y7 h2 v7)
def y1wi (s : St) : OX := yvg (s 0) s.h
theorem y152 : T0 yw5 [.t 2] y1wi := fun _ => by kernel_rfl
def ywz (v0 : AV) (h : Heap) : OX :=
ob (ygx 1 false v0 AV.nils) fun v4 =>
cnd v4
 ((y7 h AV.nils))
 ((yvg v0 h))
def y1xn (s : St) : OX := ywz (s 0) s.h
theorem y1gq : T0 yxd [.t 2] y1xn := sq y152 fun _ => by kernel_rfl
def yqf (v0 : AV) (h : Heap) : OX :=
(ywz v0 h)
def y1v9 (s : St) : OX := yqf (s 0) s.h
theorem y188 : T0 yoq [.t 2] y1v9 := sq y1gq fun _ => by kernel_rfl
@[simp] theorem y2af : E.pure 41 = true := rfl
theorem y24j (v0 : AV) : (y6 E).p 41 [v0] = yqf v0 [⟨0, .dead⟩, ⟨0, .dead⟩] :=
  (yo (cf := y1q6) (by kernel_rfl) rfl).trans ((y188 _).trans (by kernel_rfl))
def y1ws (v0 : AV) (h : Heap) : OX :=
oh (newC 0 (some 0) (cellsOf v0) h) fun v1 h1 =>
ob (evFa 0 v1) fun v3 =>
ob (evLd false 1 v3 h1) fun v4 =>
ob (y2 .eql v4 (AV.int .i64 27)) fun v5 =>
gb v5 false (evFa 0 v1) fun v7 =>
gb v5 false (evLd false 1 v7 h1) fun v8 =>
gb v5 false (y2 .eql v8 (AV.int .i64 30)) fun v9 =>
ob (ye v5 (AV.bool true) v9) fun v10 =>
gb v10 false (evFa 0 v1) fun v12 =>
gb v10 false (evLd false 1 v12 h1) fun v13 =>
gb v10 false (y2 .eql v13 (AV.int .i64 31)) fun v14 =>
ob (ye v10 (AV.bool true) v14) fun v15 =>
(y7 h1 v15)
def y24i (s : St) : OX := y1ws (s 0) s.h
theorem y1o1 : T0 y1ar [.t 2] y24i := fun _ => by kernel_rfl
@[simp] theorem y28e : E.pure 24 = true := rfl
theorem y2a5 (v0 : AV) : (y6 E).p 24 [v0] = y1ws v0 [⟨0, .dead⟩] :=
  (yo (cf := y217) (by kernel_rfl) rfl).trans ((y1o1 _).trans (by kernel_rfl))
def yq6 (v0 v1 : AV) (h : Heap) : OX :=
oh (y4 E (y6 E) 0 none true 45 [v0, v1] h) fun v7 h1 =>
ob (y2 .geq v7 (AV.int .i64 0)) fun v8 =>
(y7 h1 v8)
def y1wv (s : St) : OX := yq6 (s 0) (s 1) s.h
theorem y1em : T0 ytk [.t 4] y1wv := fun _ => by kernel_rfl
@[simp] theorem y2am : E.pure 46 = true := rfl
theorem y22h (v0 v1 : AV) : (y6 E).p 46 [v0, v1] = yq6 v0 v1 [] :=
  (yo (cf := y1q7) (by kernel_rfl) rfl).trans ((y1em _).trans (by kernel_rfl))
def y11m (v2 v3 : AV) (h : Heap) : OX :=
ob (evLd true 9 v3 h) fun v183 =>
oh (y4 E (y6 E) 0 none true 22 [v183] h) fun v184 h1 =>
ob (evUn .not v184) fun v185 =>
gb v185 false (evFa 6 v3) fun v187 =>
gb v185 false (evLd false 1 v187 h1) fun v188 =>
gb v185 false (y2 .geq v188 (AV.int .i64 0)) fun v189 =>
gb v185 false (some v189) fun v190 =>
gb v190 true (evFa 6 v3) fun v191 =>
gb v190 true (evLd false 1 v191 h1) fun v192 =>
gb v190 true (evFa 3 v2) fun v193 =>
gb v190 true (evLd false 1 v193 h1) fun v194 =>
gb v190 true (y13 1 v194 h1) fun v195 =>
gb v190 true (y2 .lss v192 v195) fun v196 =>
gb v185 false (ye v190 v196 (AV.bool false)) fun v197 =>
ob (ye v185 (AV.bool true) v197) fun v198 =>
(y7 h1 v198)
def y265 (s : St) : OX := y11m (s 2) (s 3) s.h
theorem y1n3 : T0 y15g [.t 4] y265 := fun _ => by kernel_rfl
def y7g (v2 v3 : AV) (h : Heap) : OX :=
ob (evFa 0 v3) fun v105 =>
ob (evLd false 1 v105 h) fun v106 =>
ob (y2 .eql v106 (AV.int .i64 1)) fun v108 =>
cnd v108
 (ob (evFa 0 v2) fun v109 =>
ob (evLd false 1 v109 h) fun v110 =>
ob (evFa 1 v3) fun v111 =>
ob (evLd false 1 v111 h) fun v112 =>
ob (yv 1 v110 v112) fun v113 =>
ob (evLd false 1 v113 h) fun v114 =>
ob (y2 .neq v114 (AV.int .i64 3)) fun v115 =>
gb v115 true (evFa 0 v2) fun v117 =>
gb v115 true (evLd false 1 v117 h) fun v118 =>
gb v115 true (evFa 1 v3) fun v119 =>
gb v115 true (evLd false 1 v119 h) fun v120 =>
gb v115 true (yv 1 v118 v120) fun v121 =>
gb v115 true (evLd false 1 v121 h) fun v122 =>
gb v115 true (y2 .eql v122 (AV.int .i64 2)) fun v123 =>
gb v115 true (some v123) fun v124 =>
gb v124 false (evFa 5 v3) fun v125 =>
gb v124 false (evLd false 1 v125 h) fun v126 =>
gb v124 false (evFa 5 v3) fun v127 =>
gb v124 false (evLd false 1 v127 h) fun v128 =>
gb v124 false (y2d .i32 v128) fun v129 =>
gb v124 false (y2d .i64 v129) fun v130 =>
gb v124 false (y2 .eql v126 v130) fun v131 =>
gb v115 true (ye v124 (AV.bool true) v131) fun v132 =>
ob (ye v115 v132 (AV.bool false)) fun v133 =>
(y7 h v133))
 (ob (y2 .eql v106 (AV.int .i64 4)) fun v135 =>
cnd v135
 (ob (evFa 0 v2) fun v136 =>
ob (evLd false 1 v136 h) fun v137 =>
ob (evFa 1 v3) fun v138 =>
ob (evLd false 1 v138 h) fun v139 =>
ob (yv 1 v137 v139) fun v140 =>
ob (evLd false 1 v140 h) fun v141 =>
ob (evFa 0 v2) fun v142 =>
ob (evLd false 1 v142 h) fun v143 =>
ob (evFa 2 v3) fun v144 =>
ob (evLd false 1 v144 h) fun v145 =>
ob (yv 1 v143 v145) fun v146 =>
ob (evLd false 1 v146 h) fun v147 =>
ob (y2 .eql v141 v147) fun v148 =>
(y7 h v148))
 (ob (y2 .eql v106 (AV.int .i64 7)) fun v150 =>
cnd v150
 (ob (evFa 0 v2) fun v151 =>
ob (evLd false 1 v151 h) fun v152 =>
ob (evFa 2 v3) fun v153 =>
ob (evLd false 1 v153 h) fun v154 =>
ob (yv 1 v152 v154) fun v155 =>
ob (evLd false 1 v155 h) fun v156 =>
ob (y2 .neq v156 (AV.int .i64 3)) fun v157 =>
(y7 h v157))
 (ob (y2 .eql v106 (AV.int .i64 30)) fun v159 =>
cnd v159
 (ob (evFa 2 v3) fun v160 =>
ob (evLd false 1 v160 h) fun v161 =>
ob (y2 .eql v161 (AV.int .i64 (-1))) fun v162 =>
ob (evFa 2 v2) fun v163 =>
ob (evLd false 1 v163 h) fun v164 =>
ob (y2 .eql v164 (AV.int .i64 0)) fun v165 =>
ob (yzc false v162 v165) fun v166 =>
gb v166 true (evFa 2 v3) fun v168 =>
gb v166 true (evLd false 1 v168 h) fun v169 =>
gb v166 true (y2 .eql v169 (AV.int .i64 (-1))) fun v170 =>
gb v166 true (some v170) fun v171 =>
gb v171 false (evFa 0 v2) fun v172 =>
gb v171 false (evLd false 1 v172 h) fun v173 =>
gb v171 false (evFa 2 v3) fun v174 =>
gb v171 false (evLd false 1 v174 h) fun v175 =>
gb v171 false (yv 1 v173 v175) fun v176 =>
gb v171 false (evLd false 1 v176 h) fun v177 =>
gb v171 false (evFa 2 v2) fun v178 =>
gb v171 false (evLd false 1 v178 h) fun v179 =>
gb v171 false (y2 .eql v177 v179) fun v180 =>
gb v166 true (ye v171 (AV.bool true) v180) fun v181 =>
ob (ye v166 v181 (AV.bool false)) fun v182 =>
(y7 h v182))
 ((y11m v2 v3 h)))))
def y4v (s : St) : OX := y7g (s 2) (s 3) s.h
theorem y1km : T0 y1b9 [.t 4] y4v := sq y1n3 fun _ => by kernel_rfl
def ydx (v2 v3 v63 v64 v65 : AV) (h : Heap) : OX :=
  W E 0 yi9 ⟨[(2, v2), (3, v3), (63, v63), (64, v64), (65, v65)], h⟩ y4v (y1 2 y4v xN) (finP [.t 4])
def y9f (s : St) : OX := ydx (s 2) (s 3) (s 63) (s 64) (s 65) s.h
theorem yka : T1 yi9 y4v (y1 2 y4v xN) [.t 4] y9f := fun s => yi.trans (by kernel_rfl)
def y0f (v2 v3 v63 v64 v65 : AV) (h : Heap) : OX :=
ob (y2 .add v65 (AV.int .i64 1)) fun v104 =>
(ydx v2 v3 v63 v64 v104 h)
def yci (s : St) : OX := y0f (s 2) (s 3) (s 63) (s 64) (s 65) s.h
theorem y1mn : T1 y1dj y9f (y1 2 y4v xN) [.t 4] yci := fun _ => by kernel_rfl
def yet (v2 v3 v9 v10 v63 v64 v65 : AV) (h : Heap) : OX :=
ob (y2 .lss v10 (AV.int .i64 0)) fun v74 =>
gb v74 false (some v10) fun v76 =>
gb v74 false (evFa 0 v2) fun v77 =>
gb v74 false (evLd false 1 v77 h) fun v78 =>
gb v74 false (y13 1 v78 h) fun v79 =>
gb v74 false (y2 .geq v76 v79) fun v80 =>
ob (ye v74 (AV.bool true) v80) fun v81 =>
gb v81 false (some v9) fun v83 =>
gb v81 false (y2 .eql v83 (AV.int .i64 0)) fun v84 =>
gb v81 false (some v84) fun v85 =>
gb v85 true (evFa 0 v3) fun v86 =>
gb v85 true (evLd false 1 v86 h) fun v87 =>
gb v85 true (y2 .eql v87 (AV.int .i64 24)) fun v88 =>
gb v85 true (some v88) fun v89 =>
gb v89 false (evFa 0 v3) fun v90 =>
gb v89 false (evLd false 1 v90 h) fun v91 =>
gb v89 false (y2 .eql v91 (AV.int .i64 25)) fun v92 =>
gb v85 true (ye v89 (AV.bool true) v92) fun v93 =>
gb v81 false (ye v85 v93 (AV.bool false)) fun v94 =>
gb v81 false (some v94) fun v95 =>
gb v95 true (evFa 0 v2) fun v96 =>
gb v95 true (evLd false 1 v96 h) fun v97 =>
gb v95 true (some v10) fun v98 =>
gb v95 true (yv 1 v97 v98) fun v99 =>
gb v95 true (evLd false 1 v99 h) fun v100 =>
gb v95 true (y2 .neq v100 (AV.int .i64 3)) fun v101 =>
gb v81 false (ye v95 v101 (AV.bool false)) fun v102 =>
ob (ye v81 (AV.bool true) v102) fun v103 =>
cnd v103
 ((y7 h (AV.bool false)))
 ((y0f v2 v3 v63 v64 v65 h))
def y264 (s : St) : OX := yet (s 2) (s 3) (s 9) (s 10) (s 63) (s 64) (s 65) s.h
theorem y1hw : T1 y1cg yci (y1 3 yci (y1 2 y4v xN)) [.t 4] y264 := fun _ => by kernel_rfl
def y13c (v2 v3 v9 v10 v63 v64 v65 : AV) (h : Heap) : OX :=
ob (evLd true 9 v3 h) fun v70 =>
oh (y4 E (y6 E) 0 none true 17 [v70] h) fun v71 h2 =>
ob (evUn .not v71) fun v72 =>
cnd v72
 ((y7g v2 v3 h2))
 ((yet v2 v3 v9 v10 v63 v64 v65 h2))
def y23j (s : St) : OX := y13c (s 2) (s 3) (s 9) (s 10) (s 63) (s 64) (s 65) s.h
theorem y1ny : T1 y1e7 yci (y1 3 yci (y1 2 y4v xN)) [.t 4] y23j := sq y1hw fun _ => by kernel_rfl
def y14f (v2 v3 v63 v64 v65 : AV) (h : Heap) : OX :=
ob (yv 1 v63 v65) fun v68 =>
ob (evLd false 1 v68 h) fun v69 =>
(y13c v2 v3 v65 v69 v63 v64 v65 h)
def y13m (s : St) : OX := y14f (s 2) (s 3) (s 63) (s 64) (s 65) s.h
theorem y1jg : T1 y17h yci (y1 3 yci (y1 2 y4v xN)) [.t 4] y13m := sq y1ny fun _ => by kernel_rfl
theorem y1nc : T1 yzm yci (y1 2 y4v xN) [.t 4] y13m := fun s => yl.trans (y1jg s)
theorem y1m3 : T1 y1b3 y9f (y1 2 y4v xN) [.t 4] y13m := sq y1mn y1nc
def yeh (v2 v3 v63 v64 v65 v66 : AV) (h : Heap) : OX :=
cnd v66
 ((y14f v2 v3 v63 v64 v65 h))
 ((y7g v2 v3 h))
def y1vq (s : St) : OX := yeh (s 2) (s 3) (s 63) (s 64) (s 65) (s 66) s.h
theorem y17t : T1 yuz y9f (y1 2 y4v xN) [.t 4] y1vq := sq y1m3 fun _ => by kernel_rfl
def ydb (v2 v3 v63 v64 v65 : AV) (h : Heap) : OX :=
ob (y2 .lss v65 v64) fun v66 =>
(yeh v2 v3 v63 v64 v65 v66 h)
def y1xe (s : St) : OX := ydb (s 2) (s 3) (s 63) (s 64) (s 65) s.h
theorem y16q : T1 yt5 y9f (y1 2 y4v xN) [.t 4] y1xe := sq y17t fun _ => by kernel_rfl
theorem ye9 (v2 v3 v63 v64 v65 : AV) (h : Heap) : ydx v2 v3 v63 v64 v65 h = (ydb v2 v3 v63 v64 v65 h) :=
  y22.trans ((y17 _ _ _ (n' := y9f) (fun s => yka s)).trans ((y16q _).trans (by kernel_rfl)))
theorem y1ej : T1 yxa y4v xN [.t 4] y9f := fun s => yl.trans (yka s)
def yjp (v2 v3 : AV) (h : Heap) : OX :=
ob (evFa 8 v3) fun v62 =>
ob (evLd false 1 v62 h) fun v63 =>
ob (y13 1 v63 h) fun v64 =>
(ydx v2 v3 v63 v64 (AV.int .i64 0) h)
def y2n (s : St) : OX := yjp (s 2) (s 3) s.h
theorem y11n : T1 yux y4v xN [.t 4] y2n := sq y1ej fun _ => by kernel_rfl
theorem y1fk : T0 yu3 [.t 4] y2n := sq y1km y11n
def y9l (v2 v3 v5 v26 v27 : AV) (h : Heap) : OX :=
  W E 0 ydl ⟨[(2, v2), (3, v3), (5, v5), (26, v26), (27, v27)], h⟩ y2n (y1 0 y2n xN) (finP [.t 4])
def y60 (s : St) : OX := y9l (s 2) (s 3) (s 5) (s 26) (s 27) s.h
theorem yi2 : T1 ydl y2n (y1 0 y2n xN) [.t 4] y60 := fun s => yi.trans (by kernel_rfl)
def ylj (v2 v3 v5 v26 v27 : AV) (h : Heap) : OX :=
ob (y2 .add v27 (AV.int .i64 1)) fun v61 =>
(y9l v2 v3 v5 v26 v61 h)
def y7t (s : St) : OX := ylj (s 2) (s 3) (s 5) (s 26) (s 27) s.h
theorem y140 : T1 ywb y60 (y1 0 y2n xN) [.t 4] y7t := fun _ => by kernel_rfl
def yds (v2 v3 v5 v7 v8 v26 v27 : AV) (h : Heap) : OX :=
ob (y2 .lss v8 (AV.int .i64 0)) fun v36 =>
gb v36 false (some v8) fun v38 =>
gb v36 false (evFa 0 v2) fun v39 =>
gb v36 false (evLd false 1 v39 h) fun v40 =>
gb v36 false (y13 1 v40 h) fun v41 =>
gb v36 false (y2 .geq v38 v41) fun v42 =>
ob (ye v36 (AV.bool true) v42) fun v43 =>
gb v43 false (some v7) fun v45 =>
gb v43 false (y8k 4 1 v5 v45) fun v46 =>
gb v43 false (evLd false 1 v46 h) fun v47 =>
gb v43 false (y2 .gtr v47 (AV.int .i64 0)) fun v48 =>
gb v43 false (some v48) fun v49 =>
gb v49 true (evFa 0 v2) fun v50 =>
gb v49 true (evLd false 1 v50 h) fun v51 =>
gb v49 true (some v8) fun v52 =>
gb v49 true (yv 1 v51 v52) fun v53 =>
gb v49 true (evLd false 1 v53 h) fun v54 =>
gb v49 true (some v7) fun v55 =>
gb v49 true (y8k 4 1 v5 v55) fun v56 =>
gb v49 true (evLd false 1 v56 h) fun v57 =>
gb v49 true (y2 .neq v54 v57) fun v58 =>
gb v43 false (ye v49 v58 (AV.bool false)) fun v59 =>
ob (ye v43 (AV.bool true) v59) fun v60 =>
cnd v60
 ((y7 h (AV.bool false)))
 ((ylj v2 v3 v5 v26 v27 h))
def y1sd (s : St) : OX := yds (s 2) (s 3) (s 5) (s 7) (s 8) (s 26) (s 27) s.h
theorem y19d : T1 ytl y7t (y1 1 y7t (y1 0 y2n xN)) [.t 4] y1sd := fun _ => by kernel_rfl
def yau (v2 v3 v5 v7 v8 v26 v27 : AV) (h : Heap) : OX :=
ob (y8k 4 1 v5 v7) fun v32 =>
ob (evLd false 1 v32 h) fun v33 =>
ob (y2 .lss v33 (AV.int .i64 0)) fun v34 =>
cnd v34
 ((ylj v2 v3 v5 v26 v27 h))
 ((yds v2 v3 v5 v7 v8 v26 v27 h))
def y1vi (s : St) : OX := yau (s 2) (s 3) (s 5) (s 7) (s 8) (s 26) (s 27) s.h
theorem y18i : T1 yud y7t (y1 1 y7t (y1 0 y2n xN)) [.t 4] y1vi := sq y19d fun _ => by kernel_rfl
def y1cm (v2 v3 v5 v26 v27 : AV) (h : Heap) : OX :=
ob (ydw false 4 1 v26 v27) fun v30 =>
(yau v2 v3 v5 v27 v30 v26 v27 h)
def yof (s : St) : OX := y1cm (s 2) (s 3) (s 5) (s 26) (s 27) s.h
theorem y1bw : T1 yx6 y7t (y1 1 y7t (y1 0 y2n xN)) [.t 4] yof := sq y18i fun _ => by kernel_rfl
theorem y1df : T1 ywm y7t (y1 0 y2n xN) [.t 4] yof := fun s => yl.trans (y1bw s)
theorem y14k : T1 ypj y60 (y1 0 y2n xN) [.t 4] yof := sq y140 y1df
def yvl (v2 v3 v5 v26 v27 v28 : AV) (h : Heap) : OX :=
cnd v28
 ((y1cm v2 v3 v5 v26 v27 h))
 ((yjp v2 v3 h))
def y1x3 (s : St) : OX := yvl (s 2) (s 3) (s 5) (s 26) (s 27) (s 28) s.h
theorem y1f2 : T1 yt9 y60 (y1 0 y2n xN) [.t 4] y1x3 := sq y14k fun _ => by kernel_rfl
def ytf (v2 v3 v5 v26 v27 : AV) (h : Heap) : OX :=
ob (y2 .lss v27 (AV.int .i64 4)) fun v28 =>
(yvl v2 v3 v5 v26 v27 v28 h)
def y1ut (s : St) : OX := ytf (s 2) (s 3) (s 5) (s 26) (s 27) s.h
theorem y19j : T1 ywr y60 (y1 0 y2n xN) [.t 4] y1ut := sq y1f2 fun _ => by kernel_rfl
theorem yhb (v2 v3 v5 v26 v27 : AV) (h : Heap) : y9l v2 v3 v5 v26 v27 h = (ytf v2 v3 v5 v26 v27 h) :=
  y22.trans ((y17 _ _ _ (n' := y60) (fun s => yi2 s)).trans ((y19j _).trans (by kernel_rfl)))
theorem y18m : T1 yrz y2n xN [.t 4] y60 := fun s => yl.trans (yi2 s)
def y1am (v2 v3 v5 : AV) (h : Heap) : OX :=
ob (evFa 1 v3) fun v18 =>
ob (evLd false 1 v18 h) fun v19 =>
ob (evFa 2 v3) fun v20 =>
ob (evLd false 1 v20 h) fun v21 =>
ob (evFa 3 v3) fun v22 =>
ob (evLd false 1 v22 h) fun v23 =>
ob (evFa 4 v3) fun v24 =>
ob (evLd false 1 v24 h) fun v25 =>
ob (yh [(.int .i64 0), (.int .i64 0), (.int .i64 0), (.int .i64 0)] [(0, 1, v19), (1, 1, v21), (2, 1, v23), (3, 1, v25)]) fun v26 =>
(y9l v2 v3 v5 v26 (AV.int .i64 0) h)
def y02 (s : St) : OX := y1am (s 2) (s 3) (s 5) s.h
theorem y11q : T1 yto y2n xN [.t 4] y02 := sq y18m fun _ => by kernel_rfl
theorem y12z : T0 yrm [.t 4] y02 := sq y1fk y11q
def yv5 (v2 v3 v5 v6 : AV) (h : Heap) : OX :=
ob (evUn .not v6) fun v17 =>
cnd v17
 ((y7 h (AV.bool false)))
 ((y1am v2 v3 v5 h))
def y1ux (s : St) : OX := yv5 (s 2) (s 3) (s 5) (s 6) s.h
theorem y15q : T0 ysi [.t 4] y1ux := sq y12z fun _ => by kernel_rfl
def ysm (v2 v3 : AV) (h : Heap) : OX :=
ob (evLd true 9 v3 h) fun v12 =>
oh (y4 E (y6 E) 0 none true 47 [v12] h) fun v13 h3 =>
ob (y42 0 v13) fun v14 =>
ob (y42 1 v13) fun v15 =>
oh (newC 0 (some 2) [(.int .i64 0), (.int .i64 0), (.int .i64 0), (.int .i64 0)] h3) fun v5 h4 =>
oh (evSt 4 v5 v14 h4) fun _ h5 =>
(yv5 v2 v3 v5 v15 h5)
def y1wl (s : St) : OX := ysm (s 2) (s 3) s.h
theorem y12a : T0 yx4 [.t 4] y1wl := sq y15q fun _ => by kernel_rfl
def ykk (v0 v1 : AV) (h : Heap) : OX :=
oh (newC 0 (some 0) (cellsOf v0) h) fun v2 h6 =>
oh (newC 0 (some 1) (cellsOf v1) h6) fun v3 h7 =>
(ysm v2 v3 h7)
def y1wq (s : St) : OX := ykk (s 0) (s 1) s.h
theorem y16a : T0 yxc [.t 4] y1wq := sq y12a fun _ => by kernel_rfl
@[simp] theorem y286 : E.pure 63 = true := rfl
theorem y28h (v0 v1 : AV) : (y6 E).p 63 [v0, v1] = ykk v0 v1 [⟨0, .dead⟩, ⟨0, .dead⟩, ⟨0, .dead⟩] :=
  (yo (cf := y22a) (by kernel_rfl) rfl).trans ((y16a _).trans (by kernel_rfl))
def y1yh (v0 : AV) (h : Heap) : OX :=
oh (newC 0 (some 0) (cellsOf v0) h) fun v1 h1 =>
ob (evFa 0 v1) fun v3 =>
ob (evLd false 1 v3 h1) fun v4 =>
ob (y2 .eql v4 (AV.int .i64 27)) fun v5 =>
gb v5 false (evFa 0 v1) fun v7 =>
gb v5 false (evLd false 1 v7 h1) fun v8 =>
gb v5 false (y2 .eql v8 (AV.int .i64 28)) fun v9 =>
ob (ye v5 (AV.bool true) v9) fun v10 =>
gb v10 false (evFa 0 v1) fun v12 =>
gb v10 false (evLd false 1 v12 h1) fun v13 =>
gb v10 false (y2 .eql v13 (AV.int .i64 29)) fun v14 =>
ob (ye v10 (AV.bool true) v14) fun v15 =>
(y7 h1 v15)
def y22z (s : St) : OX := y1yh (s 0) s.h
theorem y1jq : T0 y16e [.t 2] y22z := fun _ => by kernel_rfl
@[simp] theorem y2a1 : E.pure 22 = true := rfl
theorem y2aj (v0 : AV) : (y6 E).p 22 [v0] = y1yh v0 [⟨0, .dead⟩] :=
  (yo (cf := y23a) (by kernel_rfl) rfl).trans ((y1jq _).trans (by kernel_rfl))
def y21e (h : Heap) : OX :=
(y7 h (AV.int .i64 0))
def y21r (s : St) : OX := y21e s.h
theorem y1p4 : T0 y1bi [.t 8] y21r := fun _ => by kernel_rfl
def yft (v0 v1 v2 v9 v10 : AV) (h : Heap) : OX :=
ob (y2 .eql v0 (AV.int .i64 96)) fun v23 =>
cnd v23
 (oh (y4 E (y6 E) 0 none true 138 [v1, v2, (AV.int .i64 0), v9] h) fun v27 h1 =>
(y7 h1 v27))
 (ob (y2 .eql v0 (AV.int .i64 100)) fun v29 =>
cnd v29
 (ob (evUn .xor v2) fun v32 =>
oh (y4 E (y6 E) 0 none true 138 [v1, v32, (AV.int .i64 1), v9] h) fun v34 h2 =>
(y7 h2 v34))
 (ob (y2 .eql v0 (AV.int .i64 104)) fun v36 =>
cnd v36
 (oh (y4 E (y6 E) 0 none true 139 [v1, v2, v9] h) fun v40 h3 =>
(y7 h3 v40))
 (ob (y2 .eql v0 (AV.int .i64 108)) fun v42 =>
cnd v42
 (oh (y4 E (y6 E) 0 none true 140 [v1, v2, v9] h) fun v47 h4 =>
ob (y42 0 v47) fun v48 =>
ob (y42 1 v47) fun v49 =>
(y7 h4 v48))
 (ob (y2 .eql v0 (AV.int .i64 112)) fun v52 =>
cnd v52
 (oh (y4 E (y6 E) 0 none true 140 [v1, v2, v9] h) fun v57 h5 =>
ob (y42 0 v57) fun v58 =>
ob (y42 1 v57) fun v59 =>
(y7 h5 v59))
 (ob (y2 .eql v0 (AV.int .i64 120)) fun v62 =>
cnd v62
 (oh (y4 E (y6 E) 0 none true 141 [v1, v10, v9, (AV.bool false), (AV.bool false)] h) fun v66 h6 =>
(y7 h6 v66))
 (ob (y2 .eql v0 (AV.int .i64 122)) fun v68 =>
cnd v68
 (oh (y4 E (y6 E) 0 none true 141 [v1, v10, v9, (AV.bool true), (AV.bool true)] h) fun v72 h7 =>
(y7 h7 v72))
 (ob (y2 .eql v0 (AV.int .i64 124)) fun v74 =>
cnd v74
 (oh (y4 E (y6 E) 0 none true 141 [v1, v10, v9, (AV.bool true), (AV.bool false)] h) fun v78 h8 =>
(y7 h8 v78))
 (ob (y2 .eql v0 (AV.int .i64 126)) fun v80 =>
cnd v80
 (oh (y4 E (y6 E) 0 none true 142 [(AV.int .i64 0), v1, v2, v9] h) fun v84 h9 =>
(y7 h9 v84))
 (ob (y2 .eql v0 (AV.int .i64 128)) fun v86 =>
cnd v86
 (oh (y4 E (y6 E) 0 none true 142 [(AV.int .i64 1), v1, v2, v9] h) fun v90 h10 =>
(y7 h10 v90))
 (ob (y2 .eql v0 (AV.int .i64 130)) fun v92 =>
cnd v92
 (oh (y4 E (y6 E) 0 none true 142 [(AV.int .i64 2), v1, v2, v9] h) fun v96 h11 =>
(y7 h11 v96))
 ((y21e h))))))))))))
def y1zu (s : St) : OX := yft (s 0) (s 1) (s 2) (s 9) (s 10) s.h
theorem y1om : T0 y155 [.t 8] y1zu := sq y1p4 fun _ => by kernel_rfl
def y1vl (v0 v1 v2 v9 : AV) (h : Heap) : OX :=
ob (y2 .sub v9 (AV.int .i64 1)) fun v19 =>
ob (y2 .and v2 v19) fun v20 =>
(yft v0 v1 v2 v9 v20 h)
def y22d (s : St) : OX := y1vl (s 0) (s 1) (s 2) (s 9) s.h
theorem y1la : T0 y1b4 [.t 8] y22d := sq y1om fun _ => by kernel_rfl
def y1yc (v0 v1 v2 v3 : AV) (h : Heap) : OX :=
oh (y4 E (y6 E) 0 none true 137 [v3] h) fun v16 h12 =>
(y1vl v0 v1 v2 v16 h12)
def y246 (s : St) : OX := y1yc (s 0) (s 1) (s 2) (s 3) s.h
theorem y1j3 : T0 yzx [.t 8] y246 := sq y1la fun _ => by kernel_rfl
def y1ix (v0 v1 v2 v3 : AV) (h : Heap) : OX :=
(y1yc v0 v1 v2 v3 h)
def y221 (s : St) : OX := y1ix (s 0) (s 1) (s 2) (s 3) s.h
theorem y1px : T0 y1b0 [.t 8] y221 := sq y1j3 fun _ => by kernel_rfl
@[simp] theorem y26q : E.pure 136 = true := rfl
theorem y27t (v0 v1 v2 v3 : AV) : (y6 E).p 136 [v0, v1, v2, v3] = y1ix v0 v1 v2 v3 [] :=
  (yo (cf := y24d) (by kernel_rfl) rfl).trans ((y1px _).trans (by kernel_rfl))
def y1jw (v0 : AV) (h : Heap) : OX :=
(y7 h v0)
def y22s (s : St) : OX := y1jw (s 0) s.h
theorem y1ii : T0 y15a [.t 4] y22s := fun _ => by kernel_rfl
def y1z1 (v0 v5 : AV) (h : Heap) : OX :=
ob (y2 .quo v5 (AV.int .i64 2)) fun v20 =>
ob (y2 .geq v0 v20) fun v21 =>
cnd v21
 (ob (y2 .sub v0 v5) fun v24 =>
(y1jw v24 h))
 ((y1jw v0 h))
def y24o (s : St) : OX := y1z1 (s 0) (s 5) s.h
theorem y1i0 : T0 y123 [.t 4] y24o := sq y1ii fun _ => by kernel_rfl
def y1tn (v0 v5 : AV) (h : Heap) : OX :=
ob (y2 .rem v0 v5) fun v13 =>
ob (y2 .add v13 v5) fun v15 =>
ob (y2 .rem v15 v5) fun v17 =>
(y1z1 v17 v5 h)
def y22l (s : St) : OX := y1tn (s 0) (s 5) s.h
theorem y1iq : T0 y13s [.t 4] y22l := sq y1i0 fun _ => by kernel_rfl
def y1y8 (v0 v1 : AV) (h : Heap) : OX :=
ob (y2 .shl (AV.int .i64 1) v1) fun v10 =>
(y1tn v0 v10 h)
def y23z (s : St) : OX := y1y8 (s 0) (s 1) s.h
theorem y1nl : T0 y1fv [.t 4] y23z := sq y1iq fun _ => by kernel_rfl
def y1y4 (v0 v1 : AV) (h : Heap) : OX :=
ob (y2 .eql v1 (AV.int .i64 64)) fun v7 =>
cnd v7
 ((y7 h v0))
 ((y1y8 v0 v1 h))
def y201 (s : St) : OX := y1y4 (s 0) (s 1) s.h
theorem y1ie : T0 y18o [.t 4] y201 := sq y1nl fun _ => by kernel_rfl
def y1sh (v0 v1 : AV) (h : Heap) : OX :=
(y1y4 v0 v1 h)
def y256 (s : St) : OX := y1sh (s 0) (s 1) s.h
theorem y1k2 : T0 y1cv [.t 4] y256 := sq y1ie fun _ => by kernel_rfl
@[simp] theorem y27k : E.pure 135 = true := rfl
theorem y29d (v0 v1 : AV) : (y6 E).p 135 [v0, v1] = y1sh v0 v1 [] :=
  (yo (cf := y23q) (by kernel_rfl) rfl).trans ((y1k2 _).trans (by kernel_rfl))
def y1ty (v10 : AV) (h : Heap) : OX :=
(y7 h v10)
def y7r (s : St) : OX := y1ty (s 10) s.h
theorem y1kx : T0 y17a [.t 2] y7r := fun _ => by kernel_rfl
def ym9 (v3 v10 v96 v97 : AV) (h : Heap) : OX :=
  W E 0 yj1 ⟨[(3, v3), (10, v10), (96, v96), (97, v97)], h⟩ y7r (y1 6 y7r xN) (finP [.t 2])
def y98 (s : St) : OX := ym9 (s 3) (s 10) (s 96) (s 97) s.h
theorem ylt : T1 yj1 y7r (y1 6 y7r xN) [.t 2] y98 := fun s => yi.trans (by kernel_rfl)
def y180 (v3 v10 v96 v97 : AV) (h : Heap) : OX :=
ob (y2 .add v97 (AV.int .i64 1)) fun v108 =>
(ym9 v3 v10 v96 v108 h)
def y20g (s : St) : OX := y180 (s 3) (s 10) (s 96) (s 97) s.h
theorem y1i4 : T1 y1g1 y98 (y1 6 y7r xN) [.t 2] y20g := fun _ => by kernel_rfl
def y1lh (v3 v10 v96 v97 : AV) (h : Heap) : OX :=
ob (yv 1 v3 v97) fun v102 =>
ob (evLd false 1 v102 h) fun v103 =>
cnd v103
 (oh (y12 0 (some 5) 1 1 [(.int .i64 0)] [(0, v97)] h) fun v106 h1 =>
oh (y2k 0 (some 6) 1 8 v10 v106 h1) fun v107 h2 =>
(y180 v3 v107 v96 v97 h2))
 ((y180 v3 v10 v96 v97 h))
def y24x (s : St) : OX := y1lh (s 3) (s 10) (s 96) (s 97) s.h
theorem y1n6 : T1 y1bo y98 (y1 6 y7r xN) [.t 2] y24x := sq y1i4 fun _ => by kernel_rfl
def y1fq (v3 v10 v96 v97 v98 : AV) (h : Heap) : OX :=
cnd v98
 ((y1lh v3 v10 v96 v97 h))
 ((y1ty v10 h))
def y20i (s : St) : OX := y1fq (s 3) (s 10) (s 96) (s 97) (s 98) s.h
theorem y1iu : T1 y14v y98 (y1 6 y7r xN) [.t 2] y20i := sq y1n6 fun _ => by kernel_rfl
def y13i (v3 v10 v96 v97 : AV) (h : Heap) : OX :=
ob (y2 .lss v97 v96) fun v98 =>
(y1fq v3 v10 v96 v97 v98 h)
def y26d (s : St) : OX := y13i (s 3) (s 10) (s 96) (s 97) s.h
theorem y1nq : T1 y131 y98 (y1 6 y7r xN) [.t 2] y26d := sq y1iu fun _ => by kernel_rfl
theorem ykt (v3 v10 v96 v97 : AV) (h : Heap) : ym9 v3 v10 v96 v97 h = (y13i v3 v10 v96 v97 h) :=
  y22.trans ((y17 _ _ _ (n' := y98) (fun s => ylt s)).trans ((y1nq _).trans (by kernel_rfl)))
theorem y1l9 : T1 y184 y7r xN [.t 2] y98 := fun s => yl.trans (ylt s)
def y1u0 (v1 v3 v10 : AV) (h : Heap) : OX :=
ob (evFa 3 v1) fun v94 =>
ob (evLd false 1 v94 h) fun v95 =>
ob (y13 1 v95 h) fun v96 =>
(ym9 v3 v10 v96 (AV.int .i64 0) h)
def y1qo (s : St) : OX := y1u0 (s 1) (s 3) (s 10) s.h
theorem y1kg : T1 y16j y7r xN [.t 2] y1qo := sq y1l9 fun _ => by kernel_rfl
theorem y1pd : T0 y0t [.t 2] y1qo := sq y1kx y1kg
def yhd (v1 v3 : AV) (h : Heap) : OX :=
(y1u0 v1 v3 AV.nils h)
def y1x (s : St) : OX := yhd (s 1) (s 3) s.h
theorem y14g : T0 yru [.t 2] y1x := sq y1pd fun _ => by kernel_rfl
def ydt (v1 v3 v62 v63 v64 : AV) (h : Heap) : OX :=
  W E 0 yfc ⟨[(1, v1), (3, v3), (62, v62), (63, v63), (64, v64)], h⟩ y1x (y1 2 y1x xN) (finP [.t 2])
def y5z (s : St) : OX := ydt (s 1) (s 3) (s 62) (s 63) (s 64) s.h
theorem yha : T1 yfc y1x (y1 2 y1x xN) [.t 2] y5z := fun s => yi.trans (by kernel_rfl)
def yvi (v1 v3 v62 v63 v64 : AV) (h : Heap) : OX :=
ob (y2 .add v64 (AV.int .i64 1)) fun v93 =>
(ydt v1 v3 v62 v63 v93 h)
def y1r (s : St) : OX := yvi (s 1) (s 3) (s 62) (s 63) (s 64) s.h
theorem y12i : T1 yrt y5z (y1 2 y1x xN) [.t 2] y1r := fun _ => by kernel_rfl
def ybe (v1 v3 v62 v63 v64 v74 v75 v76 : AV) (h : Heap) : OX :=
  W E 0 yeq ⟨[(1, v1), (3, v3), (62, v62), (63, v63), (64, v64), (74, v74), (75, v75), (76, v76)], h⟩ y1r (y1 4 y1r (y1 3 y1r (y1 2 y1x xN))) (finP [.t 2])
def y5p (s : St) : OX := ybe (s 1) (s 3) (s 62) (s 63) (s 64) (s 74) (s 75) (s 76) s.h
theorem yhs : T1 yeq y1r (y1 4 y1r (y1 3 y1r (y1 2 y1x xN))) [.t 2] y5p := fun s => yi.trans (by kernel_rfl)
def yg6 (v1 v3 v62 v63 v64 v74 v75 v76 : AV) (h : Heap) : OX :=
ob (y2 .add v76 (AV.int .i64 1)) fun v92 =>
(ybe v1 v3 v62 v63 v64 v74 v75 v92 h)
def y1yr (s : St) : OX := yg6 (s 1) (s 3) (s 62) (s 63) (s 64) (s 74) (s 75) (s 76) s.h
theorem y1b7 : T1 yqv y5p (y1 4 y1r (y1 3 y1r (y1 2 y1x xN))) [.t 2] y1yr := fun _ => by kernel_rfl
def yke (v1 v3 v62 v63 v64 v74 v75 v76 : AV) (h : Heap) : OX :=
ob (yv 1 v74 v76) fun v78 =>
ob (evLd false 1 v78 h) fun v79 =>
ob (y2 .geq v79 (AV.int .i64 0)) fun v81 =>
gb v81 true (some v79) fun v83 =>
gb v81 true (evFa 3 v1) fun v84 =>
gb v81 true (evLd false 1 v84 h) fun v85 =>
gb v81 true (y13 1 v85 h) fun v86 =>
gb v81 true (y2 .lss v83 v86) fun v87 =>
ob (ye v81 v87 (AV.bool false)) fun v88 =>
cnd v88
 (ob (yv 1 v3 v79) fun v91 =>
oh (evSt 1 v91 (AV.bool true) h) fun _ h3 =>
(yg6 v1 v3 v62 v63 v64 v74 v75 v76 h3))
 ((yg6 v1 v3 v62 v63 v64 v74 v75 v76 h))
def y1sw (s : St) : OX := yke (s 1) (s 3) (s 62) (s 63) (s 64) (s 74) (s 75) (s 76) s.h
theorem y178 : T1 yv1 y5p (y1 4 y1r (y1 3 y1r (y1 2 y1x xN))) [.t 2] y1sw := sq y1b7 fun _ => by kernel_rfl
def yh2 (v1 v3 v62 v63 v64 v74 v75 v76 v77 : AV) (h : Heap) : OX :=
cnd v77
 ((yke v1 v3 v62 v63 v64 v74 v75 v76 h))
 ((yvi v1 v3 v62 v63 v64 h))
def y1w4 (s : St) : OX := yh2 (s 1) (s 3) (s 62) (s 63) (s 64) (s 74) (s 75) (s 76) (s 77) s.h
theorem y1br : T1 ytb y5p (y1 4 y1r (y1 3 y1r (y1 2 y1x xN))) [.t 2] y1w4 := sq y178 fun _ => by kernel_rfl
def ygf (v1 v3 v62 v63 v64 v74 v75 v76 : AV) (h : Heap) : OX :=
ob (y2 .lss v76 v75) fun v77 =>
(yh2 v1 v3 v62 v63 v64 v74 v75 v76 v77 h)
def y1tq (s : St) : OX := ygf (s 1) (s 3) (s 62) (s 63) (s 64) (s 74) (s 75) (s 76) s.h
theorem y1gn : T1 yu4 y5p (y1 4 y1r (y1 3 y1r (y1 2 y1x xN))) [.t 2] y1tq := sq y1br fun _ => by kernel_rfl
theorem yhu (v1 v3 v62 v63 v64 v74 v75 v76 : AV) (h : Heap) : ybe v1 v3 v62 v63 v64 v74 v75 v76 h = (ygf v1 v3 v62 v63 v64 v74 v75 v76 h) :=
  y22.trans ((y17 _ _ _ (n' := y5p) (fun s => yhs s)).trans ((y1gn _).trans (by kernel_rfl)))
theorem y1bg : T1 ywk y1r (y1 3 y1r (y1 2 y1x xN)) [.t 2] y5p := fun s => yl.trans (yhs s)
def y1c5 (v1 v3 v7 v62 v63 v64 : AV) (h : Heap) : OX :=
ob (evFa 0 v7) fun v68 =>
ob (evLd false 1 v68 h) fun v69 =>
ob (evFa 1 v7) fun v70 =>
ob (evLd false 1 v70 h) fun v71 =>
ob (evFa 2 v7) fun v72 =>
ob (evLd false 1 v72 h) fun v73 =>
oh (y12 0 (some 4) 1 3 [(.int .i64 0)] [(0, v69), (1, v71), (2, v73)] h) fun v74 h4 =>
ob (y13 1 v74 h4) fun v75 =>
(ybe v1 v3 v62 v63 v64 v74 v75 (AV.int .i64 0) h4)
def y1su (s : St) : OX := y1c5 (s 1) (s 3) (s 7) (s 62) (s 63) (s 64) s.h
theorem y13a : T1 yph y1r (y1 3 y1r (y1 2 y1x xN)) [.t 2] y1su := sq y1bg fun _ => by kernel_rfl
def y165 (v1 v3 v62 v63 v64 : AV) (h : Heap) : OX :=
ob (yv 4 v62 v64) fun v66 =>
ob (evLd true 4 v66 h) fun v67 =>
oh (newC 0 (some 3) [(.int .i64 0), (.int .i64 0), (.int .i64 0), (.str [])] h) fun v7 h5 =>
oh (evSt 4 v7 v67 h5) fun _ h6 =>
(y1c5 v1 v3 v7 v62 v63 v64 h6)
def ynd (s : St) : OX := y165 (s 1) (s 3) (s 62) (s 63) (s 64) s.h
theorem y14q : T1 yqr y1r (y1 3 y1r (y1 2 y1x xN)) [.t 2] ynd := sq y13a fun _ => by kernel_rfl
theorem y1fd : T1 yvy y1r (y1 2 y1x xN) [.t 2] ynd := fun s => yl.trans (y14q s)
theorem y125 : T1 yuy y5z (y1 2 y1x xN) [.t 2] ynd := sq y12i y1fd
def yvc (v1 v3 v62 v63 v64 v65 : AV) (h : Heap) : OX :=
cnd v65
 ((y165 v1 v3 v62 v63 v64 h))
 ((yhd v1 v3 h))
def y1xm (s : St) : OX := yvc (s 1) (s 3) (s 62) (s 63) (s 64) (s 65) s.h
theorem y0l : T1 yx9 y5z (y1 2 y1x xN) [.t 2] y1xm := sq y125 fun _ => by kernel_rfl
def yl5 (v1 v3 v62 v63 v64 : AV) (h : Heap) : OX :=
ob (y2 .lss v64 v63) fun v65 =>
(yvc v1 v3 v62 v63 v64 v65 h)
def y1vd (s : St) : OX := yl5 (s 1) (s 3) (s 62) (s 63) (s 64) s.h
theorem y15d : T1 you y5z (y1 2 y1x xN) [.t 2] y1vd := sq y0l fun _ => by kernel_rfl
theorem yhk (v1 v3 v62 v63 v64 : AV) (h : Heap) : ydt v1 v3 v62 v63 v64 h = (yl5 v1 v3 v62 v63 v64 h) :=
  y22.trans ((y17 _ _ _ (n' := y5z) (fun s => yha s)).trans ((y15d _).trans (by kernel_rfl)))
theorem y19g : T1 yx1 y1x xN [.t 2] y5z := fun s => yl.trans (yha s)
def yky (v1 v3 : AV) (h : Heap) : OX :=
ob (evFa 4 v1) fun v61 =>
ob (evLd false 1 v61 h) fun v62 =>
ob (y13 1 v62 h) fun v63 =>
(ydt v1 v3 v62 v63 (AV.int .i64 0) h)
def y2o (s : St) : OX := yky (s 1) (s 3) s.h
theorem y158 : T1 yqk y1x xN [.t 2] y2o := sq y19g fun _ => by kernel_rfl
theorem y1f8 : T0 ywu [.t 2] y2o := sq y14g y158
def ye0 (v1 v3 v24 v25 v26 : AV) (h : Heap) : OX :=
  W E 0 yen ⟨[(1, v1), (3, v3), (24, v24), (25, v25), (26, v26)], h⟩ y2o (y1 0 y2o xN) (finP [.t 2])
def y65 (s : St) : OX := ye0 (s 1) (s 3) (s 24) (s 25) (s 26) s.h
theorem yhw : T1 yen y2o (y1 0 y2o xN) [.t 2] y65 := fun s => yi.trans (by kernel_rfl)
def ym8 (v1 v3 v24 v25 v26 : AV) (h : Heap) : OX :=
ob (y2 .add v26 (AV.int .i64 1)) fun v60 =>
(ye0 v1 v3 v24 v25 v60 h)
def y81 (s : St) : OX := ym8 (s 1) (s 3) (s 24) (s 25) (s 26) s.h
theorem y0q : T1 yox y65 (y1 0 y2o xN) [.t 2] y81 := fun _ => by kernel_rfl
def yhh (v1 v3 v4 v5 v24 v25 v26 : AV) (h : Heap) : OX :=
ob (evLd true 9 v5 h) fun v50 =>
oh (y4 E (y6 E) 0 none true 22 [v50] h) fun v51 h7 =>
gb v51 false (evLd true 9 v5 h7) fun v53 =>
gh v51 false (y4 E (y6 E) 0 none true 24 [v53] h7) h7 fun v54 h8 =>
ob (ye v51 (AV.bool true) v54) fun v55 =>
cnd v55
 (ob (y2 .add v4 (AV.int .i64 1)) fun v58 =>
ob (yv 1 v3 v58) fun v59 =>
oh (evSt 1 v59 (AV.bool true) h8) fun _ h9 =>
(ym8 v1 v3 v24 v25 v26 h9))
 ((ym8 v1 v3 v24 v25 v26 h8))
def y1sn (s : St) : OX := yhh (s 1) (s 3) (s 4) (s 5) (s 24) (s 25) (s 26) s.h
theorem y1cq : T1 yp7 y81 (y1 1 y81 (y1 0 y2o xN)) [.t 2] y1sn := fun _ => by kernel_rfl
def yc2 (v1 v3 v4 v5 v24 v25 v26 : AV) (h : Heap) : OX :=
ob (evLd true 9 v5 h) fun v31 =>
oh (y4 E (y6 E) 0 none true 22 [v31] h) fun v32 h10 =>
gb v32 true (evFa 6 v5) fun v34 =>
gb v32 true (evLd false 1 v34 h10) fun v35 =>
gb v32 true (y2 .geq v35 (AV.int .i64 0)) fun v36 =>
ob (ye v32 v36 (AV.bool false)) fun v37 =>
gb v37 true (evFa 6 v5) fun v39 =>
gb v37 true (evLd false 1 v39 h10) fun v40 =>
gb v37 true (evFa 3 v1) fun v41 =>
gb v37 true (evLd false 1 v41 h10) fun v42 =>
gb v37 true (y13 1 v42 h10) fun v43 =>
gb v37 true (y2 .lss v40 v43) fun v44 =>
ob (ye v37 v44 (AV.bool false)) fun v45 =>
cnd v45
 (ob (evFa 6 v5) fun v47 =>
ob (evLd false 1 v47 h10) fun v48 =>
ob (yv 1 v3 v48) fun v49 =>
oh (evSt 1 v49 (AV.bool true) h10) fun _ h11 =>
(yhh v1 v3 v4 v5 v24 v25 v26 h11))
 ((yhh v1 v3 v4 v5 v24 v25 v26 h10))
def y1ts (s : St) : OX := yc2 (s 1) (s 3) (s 4) (s 5) (s 24) (s 25) (s 26) s.h
theorem y1gc : T1 yqc y81 (y1 1 y81 (y1 0 y2o xN)) [.t 2] y1ts := sq y1cq fun _ => by kernel_rfl
def y1h6 (v1 v3 v24 v25 v26 : AV) (h : Heap) : OX :=
ob (yv 9 v24 v26) fun v29 =>
ob (evLd true 9 v29 h) fun v30 =>
oh (newC 0 (some 2) [(.int .i64 0), (.int .i64 0), (.int .i64 0), (.int .i64 0), (.int .i64 0), (.int .i64 0), (.int .i64 0), (.str []), .nils] h) fun v5 h12 =>
oh (evSt 9 v5 v30 h12) fun _ h13 =>
(yc2 v1 v3 v26 v5 v24 v25 v26 h13)
def yn6 (s : St) : OX := y1h6 (s 1) (s 3) (s 24) (s 25) (s 26) s.h
theorem y1gy : T1 yst y81 (y1 1 y81 (y1 0 y2o xN)) [.t 2] yn6 := sq y1gc fun _ => by kernel_rfl
theorem y15b : T1 yuc y81 (y1 0 y2o xN) [.t 2] yn6 := fun s => yl.trans (y1gy s)
theorem y195 : T1 yxb y65 (y1 0 y2o xN) [.t 2] yn6 := sq y0q y15b
def ysh (v1 v3 v24 v25 v26 v27 : AV) (h : Heap) : OX :=
cnd v27
 ((y1h6 v1 v3 v24 v25 v26 h))
 ((yky v1 v3 h))
def y1t2 (s : St) : OX := ysh (s 1) (s 3) (s 24) (s 25) (s 26) (s 27) s.h
theorem y1fl : T1 yqu y65 (y1 0 y2o xN) [.t 2] y1t2 := sq y195 fun _ => by kernel_rfl
def ylf (v1 v3 v24 v25 v26 : AV) (h : Heap) : OX :=
ob (y2 .lss v26 v25) fun v27 =>
(ysh v1 v3 v24 v25 v26 v27 h)
def y1tc (s : St) : OX := ylf (s 1) (s 3) (s 24) (s 25) (s 26) s.h
theorem y19y : T1 ypb y65 (y1 0 y2o xN) [.t 2] y1tc := sq y1fl fun _ => by kernel_rfl
theorem yh3 (v1 v3 v24 v25 v26 : AV) (h : Heap) : ye0 v1 v3 v24 v25 v26 h = (ylf v1 v3 v24 v25 v26 h) :=
  y22.trans ((y17 _ _ _ (n' := y65) (fun s => yhw s)).trans ((y19y _).trans (by kernel_rfl)))
theorem y19z : T1 yr9 y2o xN [.t 2] y65 := fun s => yl.trans (yhw s)
def ymg (v1 v3 : AV) (h : Heap) : OX :=
ob (evFa 3 v1) fun v23 =>
ob (evLd false 1 v23 h) fun v24 =>
ob (y13 1 v24 h) fun v25 =>
(ye0 v1 v3 v24 v25 (AV.int .i64 0) h)
def y1ea (s : St) : OX := ymg (s 1) (s 3) s.h
theorem y1bu : T1 ywy y2o xN [.t 2] y1ea := sq y19z fun _ => by kernel_rfl
theorem y1b6 : T0 yv3 [.t 2] y1ea := sq y1f8 y1bu
def yk0 (v1 v3 : AV) (h : Heap) : OX :=
ob (evFa 3 v1) fun v17 =>
ob (evLd false 1 v17 h) fun v18 =>
ob (y13 1 v18 h) fun v19 =>
ob (y2 .gtr v19 (AV.int .i64 0)) fun v20 =>
cnd v20
 (ob (yv 1 v3 (AV.int .i64 0)) fun v22 =>
oh (evSt 1 v22 (AV.bool true) h) fun _ h14 =>
(ymg v1 v3 h14))
 ((ymg v1 v3 h))
def y1uu (s : St) : OX := yk0 (s 1) (s 3) s.h
theorem y11s : T0 ysz [.t 2] y1uu := sq y1b6 fun _ => by kernel_rfl
def y17e (v1 : AV) (h : Heap) : OX :=
ob (evFa 3 v1) fun v12 =>
ob (evLd false 1 v12 h) fun v13 =>
ob (y13 1 v13 h) fun v14 =>
ob (y2 .add v14 (AV.int .i64 1)) fun v15 =>
oh (mkSC 0 (some 1) 1 1 [(.bool false)] v15 v15 h) fun v16 h15 =>
(yk0 v1 v16 h15)
def y1sj (s : St) : OX := y17e (s 1) s.h
theorem y1ft : T0 yu0 [.t 2] y1sj := sq y11s fun _ => by kernel_rfl
def yop (v0 : AV) (h : Heap) : OX :=
oh (newC 0 (some 0) (cellsOf v0) h) fun v1 h16 =>
(y17e v1 h16)
def y1s4 (s : St) : OX := yop (s 0) s.h
theorem y149 : T0 yqx [.t 2] y1s4 := sq y1ft fun _ => by kernel_rfl
@[simp] theorem y26n : E.pure 102 = true := rfl
theorem y27p (v0 : AV) : (y6 E).p 102 [v0] = yop v0 [⟨0, .dead⟩, ⟨0, .dead⟩, ⟨0, .dead⟩, ⟨0, .dead⟩, ⟨0, .dead⟩, ⟨0, .dead⟩, ⟨0, .dead⟩] :=
  (yo (cf := y262) (by kernel_rfl) rfl).trans ((y149 _).trans (by kernel_rfl))
def yku (fb : Nat) (v2 v4 : AV) (h : Heap) : Option (AV × Heap) :=
ob (evLd true 9 v2 h) fun v80 =>
oh (evSt 9 v4 v80 h) fun _ h1 =>
(ob (evLd true 9 v4 h1) fun r0 =>
  some (r0, h1))
def y1q (fb : Nat) (s : St) : Option (AV × Heap) := yku fb (s 2) (s 4) s.h
theorem y1nu (fb : Nat) (s : St) : W E fb yzi s (finI [.cell 4 true 9]) xN (finI [.cell 4 true 9]) = y1q fb s :=
  by kernel_rfl
def y1xs (fb : Nat) (v4 : AV) (h : Heap) : Option (AV × Heap) :=
ob (yh [(.int .i64 0), (.int .i64 0), (.int .i64 0), (.int .i64 0), (.int .i64 0), (.int .i64 0), (.int .i64 0), (.str []), .nils] [(0, 1, (AV.int .i64 33))]) fun v79 =>
oh (evSt 9 v4 v79 h) fun _ h2 =>
(ob (evLd true 9 v4 h2) fun r0 =>
  some (r0, h2))
def y1qk (fb : Nat) (s : St) : Option (AV × Heap) := y1xs fb (s 4) s.h
theorem y1m6 (fb : Nat) (s : St) : W E fb y1ep s (y1q fb) (y1 0 (y1q fb) xN) (finI [.cell 4 true 9]) = y1qk fb s :=
  by kernel_rfl
def y1ju (fb : Nat) (v2 v4 v5 v9 : AV) (h : Heap) : Option (AV × Heap) :=
ob (evFa 5 v2) fun v71 =>
ob (evLd false 1 v71 h) fun v72 =>
oh (y4 E (y6 E) fb none true 129 [v72, v5, v9] h) fun v75 h3 =>
cnd v75
 (ob (evFa 6 v2) fun v76 =>
ob (evLd false 1 v76 h3) fun v77 =>
ob (yh [(.int .i64 0), (.int .i64 0), (.int .i64 0), (.int .i64 0), (.int .i64 0), (.int .i64 0), (.int .i64 0), (.str []), .nils] [(0, 1, (AV.int .i64 27)), (6, 1, v77)]) fun v78 =>
oh (evSt 9 v4 v78 h3) fun _ h4 =>
(ob (evLd true 9 v4 h4) fun r0 =>
  some (r0, h4)))
 ((y1xs fb v4 h3))
def y25b (fb : Nat) (s : St) : Option (AV × Heap) := y1ju fb (s 2) (s 4) (s 5) (s 9) s.h
theorem y1o3 (fb : Nat) (s : St) : W E fb y12g s (y1q fb) (y1 0 (y1q fb) xN) (finI [.cell 4 true 9]) = y25b fb s :=
  (ycq (k := (y1qk fb)) (fun s => y1m6 fb s)).trans (by kernel_rfl)
def ynf (fb : Nat) (v2 v4 v5 v9 v70 : AV) (h : Heap) : Option (AV × Heap) :=
cnd v70
 ((y1ju fb v2 v4 v5 v9 h))
 ((yku fb v2 v4 h))
def y1qq (fb : Nat) (s : St) : Option (AV × Heap) := ynf fb (s 2) (s 4) (s 5) (s 9) (s 70) s.h
theorem y1kn (fb : Nat) (s : St) : W E fb y1h1 s (y1q fb) (y1 0 (y1q fb) xN) (finI [.cell 4 true 9]) = y1qq fb s :=
  (yt (y1o3 fb s) rfl).trans (by kernel_rfl)
def yo0 (fb : Nat) (v2 v4 v5 v6 v9 v10 : AV) (h : Heap) : Option (AV × Heap) :=
gb v6 true (some v10) fun v69 =>
ob (ye v6 v69 (AV.bool false)) fun v70 =>
(ynf fb v2 v4 v5 v9 v70 h)
def y1ql (fb : Nat) (s : St) : Option (AV × Heap) := yo0 fb (s 2) (s 4) (s 5) (s 6) (s 9) (s 10) s.h
theorem y1jh (fb : Nat) (s : St) : W E fb y14l s (y1q fb) (y1 0 (y1q fb) xN) (finI [.cell 4 true 9]) = y1ql fb s :=
  (ycq (k := (y1qq fb)) (fun s => y1kn fb s)).trans (by kernel_rfl)
def ynp (fb : Nat) (v1 v2 v4 v5 v6 : AV) (h : Heap) : Option (AV × Heap) :=
ob (evFa 3 v2) fun v62 =>
ob (evLd false 1 v62 h) fun v63 =>
ob (y3s false [0] (.int .i64 0) true v1 v63 h) fun v64 =>
ob (y42 0 v64) fun v65 =>
ob (y42 1 v64) fun v66 =>
(yo0 fb v2 v4 v5 v6 v65 v66 h)
def y20t (fb : Nat) (s : St) : Option (AV × Heap) := ynp fb (s 1) (s 2) (s 4) (s 5) (s 6) s.h
theorem y1n0 (fb : Nat) (s : St) : W E fb y159 s (y1q fb) (y1 0 (y1q fb) xN) (finI [.cell 4 true 9]) = y20t fb s :=
  (ycq (k := (y1ql fb)) (fun s => y1jh fb s)).trans (by kernel_rfl)
def yim (fb : Nat) (v1 v2 v4 v5 v6 v58 : AV) (h : Heap) : Option (AV × Heap) :=
cnd v58
 ((ynp fb v1 v2 v4 v5 v6 h))
 ((yku fb v2 v4 h))
def y1r1 (fb : Nat) (s : St) : Option (AV × Heap) := yim fb (s 1) (s 2) (s 4) (s 5) (s 6) (s 58) s.h
theorem y1k7 (fb : Nat) (s : St) : W E fb y1eh s (y1q fb) (y1 0 (y1q fb) xN) (finI [.cell 4 true 9]) = y1r1 fb s :=
  (yt (y1n0 fb s) rfl).trans (by kernel_rfl)
def yig (fb : Nat) (v1 v2 v4 v5 v6 v19 : AV) (h : Heap) : Option (AV × Heap) :=
ob (y2 .eql v19 (AV.int .i64 28)) fun v59 =>
(yim fb v1 v2 v4 v5 v6 v59 h)
def y21x (fb : Nat) (s : St) : Option (AV × Heap) := yig fb (s 1) (s 2) (s 4) (s 5) (s 6) (s 19) s.h
theorem y1ik (fb : Nat) (s : St) : W E fb y12r s (y1q fb) (y1 0 (y1q fb) xN) (finI [.cell 4 true 9]) = y21x fb s :=
  (ycq (k := (y1r1 fb)) (fun s => y1k7 fb s)).trans (by kernel_rfl)
def yf7 (fb : Nat) (v1 v2 v4 v5 v6 v19 v51 : AV) (h : Heap) : Option (AV × Heap) :=
cnd v51
 (cnd v6
 (ob (evFa 1 v2) fun v54 =>
ob (evLd false 1 v54 h) fun v55 =>
ob (yh [(.int .i64 0), (.int .i64 0), (.int .i64 0), (.int .i64 0), (.int .i64 0), (.int .i64 0), (.int .i64 0), (.str []), .nils] [(0, 1, (AV.int .i64 1)), (1, 1, v55), (5, 1, v5)]) fun v57 =>
oh (evSt 9 v4 v57 h) fun _ h5 =>
(ob (evLd true 9 v4 h5) fun r0 =>
  some (r0, h5)))
 ((yku fb v2 v4 h)))
 ((yig fb v1 v2 v4 v5 v6 v19 h))
def y1r6 (fb : Nat) (s : St) : Option (AV × Heap) := yf7 fb (s 1) (s 2) (s 4) (s 5) (s 6) (s 19) (s 51) s.h
theorem y1ih (fb : Nat) (s : St) : W E fb y1dm s (y1q fb) (y1 0 (y1q fb) xN) (finI [.cell 4 true 9]) = y1r6 fb s :=
  (yt rfl (y1ik fb s)).trans (by kernel_rfl)
def y7n (fb : Nat) (v1 v2 v4 v5 v6 v19 : AV) (h : Heap) : Option (AV × Heap) :=
ob (y2 .eql v19 (AV.int .i64 4)) fun v52 =>
(yf7 fb v1 v2 v4 v5 v6 v19 v52 h)
def y1yt (fb : Nat) (s : St) : Option (AV × Heap) := y7n fb (s 1) (s 2) (s 4) (s 5) (s 6) (s 19) s.h
theorem y15k (fb : Nat) (s : St) : W E fb yuv s (y1q fb) (y1 0 (y1q fb) xN) (finI [.cell 4 true 9]) = y1yt fb s :=
  (ycq (k := (y1r6 fb)) (fun s => y1ih fb s)).trans (by kernel_rfl)
def y4k (fb : Nat) (v1 v2 v4 v5 v6 v19 v30 : AV) (h : Heap) : Option (AV × Heap) :=
cnd v30
 (ob (evFa 3 v2) fun v34 =>
ob (evLd false 1 v34 h) fun v35 =>
ob (y3s false [0] (.int .i64 0) true v1 v35 h) fun v36 =>
ob (y42 0 v36) fun v37 =>
ob (y42 1 v36) fun v38 =>
gb v6 true (some v38) fun v41 =>
ob (ye v6 v41 (AV.bool false)) fun v42 =>
cnd v42
 (ob (evFa 1 v2) fun v43 =>
ob (evLd false 1 v43 h) fun v44 =>
ob (evFa 5 v2) fun v45 =>
ob (evLd false 1 v45 h) fun v46 =>
ofp (y4s E (y6 E) fb none true 128 [v46, v5, v37] h) fun f6 =>
oh (y4 E (y6 E) fb none true 128 [v46, v5, v37] h) fun v49 h6 =>
ob (yh [(.int .i64 0), (.int .i64 0), (.int .i64 0), (.int .i64 0), (.int .i64 0), (.int .i64 0), (.int .i64 0), (.str []), .nils] [(0, 1, (AV.int .i64 1)), (1, 1, v44), (5, 1, v49)]) fun v50 =>
oh (evSt 9 v4 v50 h6) fun _ h7 =>
okK (yu [([], []), (ids1 v43, []), ([], []), (ids1 v45, []), ([], []), ([], []), f6, ([], []), ([], ids1 v4)] [(1, 6)]) <|
(ob (evLd true 9 v4 h7) fun r0 =>
  some (r0, h7)))
 ((yku fb v2 v4 h)))
 ((y7n fb v1 v2 v4 v5 v6 v19 h))
def y1bb (fb : Nat) (s : St) : Option (AV × Heap) := y4k fb (s 1) (s 2) (s 4) (s 5) (s 6) (s 19) (s 30) s.h
theorem y14s (fb : Nat) (s : St) : W E fb yw9 s (y1q fb) (y1 0 (y1q fb) xN) (finI [.cell 4 true 9]) = y1bb fb s :=
  (yt rfl (y15k fb s)).trans (by kernel_rfl)
def y4f (fb : Nat) (v1 v2 v4 v5 v6 v19 : AV) (h : Heap) : Option (AV × Heap) :=
ob (y2 .eql v19 (AV.int .i64 5)) fun v31 =>
(y4k fb v1 v2 v4 v5 v6 v19 v31 h)
def y1v4 (fb : Nat) (s : St) : Option (AV × Heap) := y4f fb (s 1) (s 2) (s 4) (s 5) (s 6) (s 19) s.h
theorem y18b (fb : Nat) (s : St) : W E fb yok s (y1q fb) (y1 0 (y1q fb) xN) (finI [.cell 4 true 9]) = y1v4 fb s :=
  (ycq (k := (y1bb fb)) (fun s => y14s fb s)).trans (by kernel_rfl)
def y3q (fb : Nat) (v1 v2 v4 v5 v6 v19 v20 : AV) (h : Heap) : Option (AV × Heap) :=
cnd v20
 (cnd v6
 (ob (evFa 1 v2) fun v23 =>
ob (evLd false 1 v23 h) fun v24 =>
ob (evFa 5 v2) fun v25 =>
ob (evLd false 1 v25 h) fun v26 =>
ofp (y4s E (y6 E) fb none true 127 [v26, v5] h) fun f5 =>
oh (y4 E (y6 E) fb none true 127 [v26, v5] h) fun v28 h8 =>
ob (yh [(.int .i64 0), (.int .i64 0), (.int .i64 0), (.int .i64 0), (.int .i64 0), (.int .i64 0), (.int .i64 0), (.str []), .nils] [(0, 1, (AV.int .i64 1)), (1, 1, v24), (5, 1, v28)]) fun v29 =>
oh (evSt 9 v4 v29 h8) fun _ h9 =>
okK (yu [([], []), (ids1 v23, []), ([], []), (ids1 v25, []), ([], []), f5, ([], []), ([], ids1 v4)] [(1, 5)]) <|
(ob (evLd true 9 v4 h9) fun r0 =>
  some (r0, h9)))
 ((yku fb v2 v4 h)))
 ((y4f fb v1 v2 v4 v5 v6 v19 h))
def y1c6 (fb : Nat) (s : St) : Option (AV × Heap) := y3q fb (s 1) (s 2) (s 4) (s 5) (s 6) (s 19) (s 20) s.h
theorem y176 (fb : Nat) (s : St) : W E fb yur s (y1q fb) (y1 0 (y1q fb) xN) (finI [.cell 4 true 9]) = y1c6 fb s :=
  (yt rfl (y18b fb s)).trans (by kernel_rfl)
def y3r (fb : Nat) (v1 v2 v4 v5 v6 v19 : AV) (h : Heap) : Option (AV × Heap) :=
ob (y2 .eql v19 (AV.int .i64 6)) fun v21 =>
(y3q fb v1 v2 v4 v5 v6 v19 v21 h)
def yni (fb : Nat) (s : St) : Option (AV × Heap) := y3r fb (s 1) (s 2) (s 4) (s 5) (s 6) (s 19) s.h
theorem y1dc (fb : Nat) (s : St) : W E fb yt8 s (y1q fb) (y1 0 (y1q fb) xN) (finI [.cell 4 true 9]) = yni fb s :=
  (ycq (k := (y1c6 fb)) (fun s => y176 fb s)).trans (by kernel_rfl)
theorem y1er (fb : Nat) (s : St) : W E fb yut s (y1q fb) xN (finI [.cell 4 true 9]) = yni fb s :=
  yl.trans (y1dc fb s)
def y3m (fb : Nat) (v1 v2 v4 v5 v6 : AV) (h : Heap) : Option (AV × Heap) :=
ob (evFa 0 v2) fun v18 =>
ob (evLd false 1 v18 h) fun v19 =>
(y3r fb v1 v2 v4 v5 v6 v19 h)
def yne (fb : Nat) (s : St) : Option (AV × Heap) := y3m fb (s 1) (s 2) (s 4) (s 5) (s 6) s.h
theorem y1cu (fb : Nat) (s : St) : W E fb yq2 s (y1q fb) xN (finI [.cell 4 true 9]) = yne fb s :=
  (ycq (k := (yni fb)) (fun s => y1er fb s)).trans (by kernel_rfl)
theorem y1fg (fb : Nat) (s : St) : W E fb ywn s (finI [.cell 4 true 9]) xN (finI [.cell 4 true 9]) = yne fb s :=
  (ycq (k := (y1q fb)) (fun s => y1nu fb s)).trans (y1cu fb s)
def y3f (fb : Nat) (v1 v2 v4 : AV) (h : Heap) : Option (AV × Heap) :=
ob (evFa 2 v2) fun v13 =>
ob (evLd false 1 v13 h) fun v14 =>
ob (y3s false [0] (.int .i64 0) true v1 v14 h) fun v15 =>
ob (y42 0 v15) fun v16 =>
ob (y42 1 v15) fun v17 =>
(y3m fb v1 v2 v4 v16 v17 h)
def y15h (fb : Nat) (s : St) : Option (AV × Heap) := y3f fb (s 1) (s 2) (s 4) s.h
theorem y1h5 (fb : Nat) (s : St) : W E fb yu6 s (finI [.cell 4 true 9]) xN (finI [.cell 4 true 9]) = y15h fb s :=
  (ycq (k := (yne fb)) (fun s => y1fg fb s)).trans (by kernel_rfl)
def yol (fb : Nat) (v0 v1 : AV) (h : Heap) : Option (AV × Heap) :=
oh (newC fb (some 0) (cellsOf v0) h) fun v2 h10 =>
oh (newC fb (some 1) [(.int .i64 0), (.int .i64 0), (.int .i64 0), (.int .i64 0), (.int .i64 0), (.int .i64 0), (.int .i64 0), (.str []), .nils] h10) fun v4 h11 =>
(y3f fb v1 v2 v4 h11)
def y1x2 (fb : Nat) (s : St) : Option (AV × Heap) := yol fb (s 0) (s 1) s.h
theorem y12q (fb : Nat) (s : St) : W E fb ys9 s (finI [.cell 4 true 9]) xN (finI [.cell 4 true 9]) = y1x2 fb s :=
  (ycq (k := (y15h fb)) (fun s => y1h5 fb s)).trans (by kernel_rfl)
@[simp] theorem y26w : E.pure 126 = false := rfl
theorem y297 (fb : Nat) (v0 v1 : AV) (h : Heap) : (y6 E).i 126 [v0, v1] fb h = yol fb v0 v1 (if fb = h.length then h ++ yr 2 else h) :=
  (y1vn (cf := y21q) (by kernel_rfl) rfl).trans ((y12q fb _).trans (by kernel_rfl))
def y1vf (v0 : AV) (h : Heap) : OX :=
oh (newC 0 (some 0) (cellsOf v0) h) fun v1 h1 =>
ob (evFa 0 v1) fun v3 =>
ob (evLd false 1 v3 h1) fun v4 =>
ob (y2 .geq v4 (AV.int .i64 23)) fun v5 =>
gb v5 true (evFa 0 v1) fun v7 =>
gb v5 true (evLd false 1 v7 h1) fun v8 =>
gb v5 true (y2 .leq v8 (AV.int .i64 26)) fun v9 =>
ob (ye v5 v9 (AV.bool false)) fun v10 =>
(y7 h1 v10)
def y1zr (s : St) : OX := y1vf (s 0) s.h
theorem y1nd : T0 y11t [.t 2] y1zr := fun _ => by kernel_rfl
@[simp] theorem yoc : E.pure 17 = true := rfl
theorem y284 (v0 : AV) : (y6 E).p 17 [v0] = y1vf v0 [⟨0, .dead⟩] :=
  (yo (cf := y24p) (by kernel_rfl) rfl).trans ((y1nd _).trans (by kernel_rfl))
def ygw (h : Heap) : OX :=
(y7 h (AV.int .i64 (-1)))
def y4e (s : St) : OX := ygw s.h
theorem y166 : T0 ywq [.t 4] y4e := fun _ => by kernel_rfl
def ydq (v0 v1 v7 v8 : AV) (h : Heap) : OX :=
  W E 0 yfd ⟨[(0, v0), (1, v1), (7, v7), (8, v8)], h⟩ y4e (y1 0 y4e xN) (finP [.t 4])
def y64 (s : St) : OX := ydq (s 0) (s 1) (s 7) (s 8) s.h
theorem yh8 : T1 yfd y4e (y1 0 y4e xN) [.t 4] y64 := fun s => yi.trans (by kernel_rfl)
def ygd (v0 v1 v7 v8 : AV) (h : Heap) : OX :=
ob (y2 .add v8 (AV.int .i64 1)) fun v18 =>
(ydq v0 v1 v7 v18 h)
def y1xi (s : St) : OX := ygd (s 0) (s 1) (s 7) (s 8) s.h
theorem y1d0 : T1 yoz y64 (y1 0 y4e xN) [.t 4] y1xi := fun _ => by kernel_rfl
def yi0 (v0 v1 v7 v8 : AV) (h : Heap) : OX :=
ob (yv 1 v0 v8) fun v14 =>
ob (evLd false 1 v14 h) fun v15 =>
ob (y2 .eql v1 v15) fun v16 =>
cnd v16
 ((y7 h v8))
 ((ygd v0 v1 v7 v8 h))
def y1uv (s : St) : OX := yi0 (s 0) (s 1) (s 7) (s 8) s.h
theorem y1bc : T1 yr0 y64 (y1 0 y4e xN) [.t 4] y1uv := sq y1d0 fun _ => by kernel_rfl
def yg5 (v0 v1 v7 v8 v9 : AV) (h : Heap) : OX :=
cnd v9
 ((yi0 v0 v1 v7 v8 h))
 ((ygw h))
def y1sk (s : St) : OX := yg5 (s 0) (s 1) (s 7) (s 8) (s 9) s.h
theorem y11p : T1 yqh y64 (y1 0 y4e xN) [.t 4] y1sk := sq y1bc fun _ => by kernel_rfl
def yh1 (v0 v1 v7 v8 : AV) (h : Heap) : OX :=
ob (y2 .lss v8 v7) fun v9 =>
(yg5 v0 v1 v7 v8 v9 h)
def y1y5 (s : St) : OX := yh1 (s 0) (s 1) (s 7) (s 8) s.h
theorem y1bk : T1 ytw y64 (y1 0 y4e xN) [.t 4] y1y5 := sq y11p fun _ => by kernel_rfl
theorem ygn (v0 v1 v7 v8 : AV) (h : Heap) : ydq v0 v1 v7 v8 h = (yh1 v0 v1 v7 v8 h) :=
  y22.trans ((y17 _ _ _ (n' := y64) (fun s => yh8 s)).trans ((y1bk _).trans (by kernel_rfl)))
theorem y1ch : T1 ypp y4e xN [.t 4] y64 := fun s => yl.trans (yh8 s)
def yhi (v0 v1 : AV) (h : Heap) : OX :=
ob (y13 1 v0 h) fun v7 =>
(ydq v0 v1 v7 (AV.int .i64 0) h)
def y12l (s : St) : OX := yhi (s 0) (s 1) s.h
theorem y0e : T1 yq8 y4e xN [.t 4] y12l := sq y1ch fun _ => by kernel_rfl
theorem y1bj : T0 ypm [.t 4] y12l := sq y166 y0e
def yb6 (v0 v1 : AV) (h : Heap) : OX :=
(yhi v0 v1 h)
def y1jj (s : St) : OX := yb6 (s 0) (s 1) s.h
theorem yz0 : T0 yl2 [.t 4] y1jj := sq y1bj fun _ => by kernel_rfl
@[simp] theorem y29n : E.pure 45 = true := rfl
theorem y23s (v0 v1 : AV) : (y6 E).p 45 [v0, v1] = yb6 v0 v1 [] :=
  (yo (cf := y1qg) (by kernel_rfl) rfl).trans ((yz0 _).trans (by kernel_rfl))
def ycr (v1 v2 : AV) (h : Heap) : OX :=
ob (evLd true 9 v1 h) fun v138 =>
oh (y4 E (y6 E) 0 none true 51 [v138] h) fun v139 h1 =>
ob (y42 0 v139) fun v140 =>
ob (y42 1 v139) fun v141 =>
oh (evSt 4 v2 v140 h1) fun _ h2 =>
(ob (evLd true 4 v2 h2) fun r0 =>
  y7 h2 (.tup [r0, v141]))
def yd (s : St) : OX := ycr (s 1) (s 2) s.h
theorem y1mm : T0 y177 [.cell 2 true 4, .t 3] yd := fun _ => by kernel_rfl
def yb4 (v1 v2 v134 : AV) (h : Heap) : OX :=
cnd v134
 (ob (yh [(.int .i64 0), (.int .i64 0), (.int .i64 0), (.int .i64 0)] [(0, 1, (AV.int .i64 (-1))), (1, 1, (AV.int .i64 (-1))), (2, 1, (AV.int .i64 (-1))), (3, 1, (AV.int .i64 (-1)))]) fun v137 =>
oh (evSt 4 v2 v137 h) fun _ h3 =>
(ob (evLd true 4 v2 h3) fun r0 =>
  y7 h3 (.tup [r0, (AV.bool true)])))
 ((ycr v1 v2 h))
def y23c (s : St) : OX := yb4 (s 1) (s 2) (s 134) s.h
theorem y1n8 : T1 y1e6 yd (y1 0 yd xN) [.cell 2 true 4, .t 3] y23c := fun _ => by kernel_rfl
def ycn (v1 v2 v11 : AV) (h : Heap) : OX :=
ob (y2 .eql v11 (AV.int .i64 27)) fun v135 =>
cnd v135
 ((yb4 v1 v2 v135 h))
 (ob (y2 .eql v11 (AV.int .i64 33)) fun v136 =>
(yb4 v1 v2 v136 h))
def y218 (s : St) : OX := ycn (s 1) (s 2) (s 11) s.h
theorem y1o8 : T1 y1dx yd (y1 0 yd xN) [.cell 2 true 4, .t 3] y218 := sq y1n8 fun _ => by kernel_rfl
def yco (v1 v2 v11 v123 : AV) (h : Heap) : OX :=
cnd v123
 (ob (yh [(.int .i64 0), (.int .i64 0), (.int .i64 0), (.int .i64 0)] [(0, 1, (AV.int .i64 (-1))), (1, 1, (AV.int .i64 1)), (2, 1, (AV.int .i64 1)), (3, 1, (AV.int .i64 (-1)))]) fun v125 =>
ob (evFa 5 v1) fun v126 =>
ob (evLd false 1 v126 h) fun v127 =>
ob (y2 .geq v127 (AV.int .i64 0)) fun v128 =>
ofp (fgd v128 true (some ([], []))) fun f5 =>
gb v128 true (evFa 5 v1) fun v130 =>
ofp (fgd v128 true (some (ids1 v130, []))) fun f6 =>
gb v128 true (evLd false 1 v130 h) fun v131 =>
ofp (fgd v128 true (some ([], []))) fun f7 =>
gb v128 true (y2 .leq v131 (AV.int .i64 5)) fun v132 =>
ob (ye v128 v132 (AV.bool false)) fun v133 =>
oh (evSt 4 v2 v125 h) fun _ h4 =>
okK (yu [([], []), ([], []), (ids1 v126, []), ([], []), ([], []), f5, f6, f7, ([], []), ([], ids1 v2), ([], [])] [(6, 9)]) <|
(ob (evLd true 4 v2 h4) fun r0 =>
  y7 h4 (.tup [r0, v133])))
 ((ycn v1 v2 v11 h))
def y23d (s : St) : OX := yco (s 1) (s 2) (s 11) (s 123) s.h
theorem y1oq : T1 y13o yd (y1 0 yd xN) [.cell 2 true 4, .t 3] y23d := fun s => (yt rfl (y1o8 s)).trans (by kernel_rfl)
def ycw (v1 v2 v11 : AV) (h : Heap) : OX :=
ob (y2 .eql v11 (AV.int .i64 28)) fun v124 =>
(yco v1 v2 v11 v124 h)
def y24q (s : St) : OX := ycw (s 1) (s 2) (s 11) s.h
theorem y1ne : T1 y144 yd (y1 0 yd xN) [.cell 2 true 4, .t 3] y24q := sq y1oq fun _ => by kernel_rfl
def ycu (v1 v2 v11 v117 : AV) (h : Heap) : OX :=
cnd v117
 (ob (yh [(.int .i64 0), (.int .i64 0), (.int .i64 0), (.int .i64 0)] [(0, 1, (AV.int .i64 3)), (1, 1, (AV.int .i64 1)), (2, 1, (AV.int .i64 (-1))), (3, 1, (AV.int .i64 (-1)))]) fun v119 =>
ob (evFa 7 v1) fun v120 =>
ob (evLd false 1 v120 h) fun v121 =>
oh (y4 E (y6 E) 0 none true 37 [v121] h) fun v122 h5 =>
oh (evSt 4 v2 v119 h5) fun _ h6 =>
(ob (evLd true 4 v2 h6) fun r0 =>
  y7 h6 (.tup [r0, v122])))
 ((ycw v1 v2 v11 h))
def y23o (s : St) : OX := ycu (s 1) (s 2) (s 11) (s 117) s.h
theorem y1p3 : T1 y1av yd (y1 0 yd xN) [.cell 2 true 4, .t 3] y23o := fun s => (yt rfl (y1ne s)).trans (by kernel_rfl)
def ycp (v1 v2 v11 : AV) (h : Heap) : OX :=
ob (y2 .eql v11 (AV.int .i64 21)) fun v118 =>
(ycu v1 v2 v11 v118 h)
def y202 (s : St) : OX := ycp (s 1) (s 2) (s 11) s.h
theorem y1oo : T1 y18k yd (y1 0 yd xN) [.cell 2 true 4, .t 3] y202 := sq y1p3 fun _ => by kernel_rfl
def ycv (v1 v2 v11 v114 : AV) (h : Heap) : OX :=
cnd v114
 (ob (yh [(.int .i64 0), (.int .i64 0), (.int .i64 0), (.int .i64 0)] [(0, 1, (AV.int .i64 (-1))), (1, 1, (AV.int .i64 0)), (2, 1, (AV.int .i64 (-1))), (3, 1, (AV.int .i64 (-1)))]) fun v116 =>
oh (evSt 4 v2 v116 h) fun _ h7 =>
(ob (evLd true 4 v2 h7) fun r0 =>
  y7 h7 (.tup [r0, (AV.bool true)])))
 ((ycp v1 v2 v11 h))
def y21d (s : St) : OX := ycv (s 1) (s 2) (s 11) (s 114) s.h
theorem y1of : T1 y0c yd (y1 0 yd xN) [.cell 2 true 4, .t 3] y21d := fun s => (yt rfl (y1oo s)).trans (by kernel_rfl)
def ycm (v1 v2 v11 : AV) (h : Heap) : OX :=
ob (y2 .eql v11 (AV.int .i64 19)) fun v115 =>
(ycv v1 v2 v11 v115 h)
def y25m (s : St) : OX := ycm (s 1) (s 2) (s 11) s.h
theorem y1he : T1 y1en yd (y1 0 yd xN) [.cell 2 true 4, .t 3] y25m := sq y1of fun _ => by kernel_rfl
def y7a (v1 v2 v11 v108 : AV) (h : Heap) : OX :=
cnd v108
 (ob (yh [(.int .i64 0), (.int .i64 0), (.int .i64 0), (.int .i64 0)] [(0, 1, (AV.int .i64 (-1))), (1, 1, (AV.int .i64 3)), (2, 1, (AV.int .i64 0)), (3, 1, (AV.int .i64 (-1)))]) fun v110 =>
ob (evFa 5 v1) fun v111 =>
ob (evLd false 1 v111 h) fun v112 =>
ob (y2 .geq v112 (AV.int .i64 0)) fun v113 =>
oh (evSt 4 v2 v110 h) fun _ h8 =>
okK (yu [([], []), ([], []), (ids1 v111, []), ([], []), ([], ids1 v2), ([], [])] [(2, 4)]) <|
(ob (evLd true 4 v2 h8) fun r0 =>
  y7 h8 (.tup [r0, v113])))
 ((ycm v1 v2 v11 h))
def y1w8 (s : St) : OX := y7a (s 1) (s 2) (s 11) (s 108) s.h
theorem y1g0 : T1 yp9 yd (y1 0 yd xN) [.cell 2 true 4, .t 3] y1w8 := fun s => (yt rfl (y1he s)).trans (by kernel_rfl)
def y6g (v1 v2 v11 : AV) (h : Heap) : OX :=
ob (y2 .eql v11 (AV.int .i64 17)) fun v109 =>
(y7a v1 v2 v11 v109 h)
def y1z0 (s : St) : OX := y6g (s 1) (s 2) (s 11) s.h
theorem y1aq : T1 yu5 yd (y1 0 yd xN) [.cell 2 true 4, .t 3] y1z0 := sq y1g0 fun _ => by kernel_rfl
def y6u (v1 v2 v11 v102 : AV) (h : Heap) : OX :=
cnd v102
 (ob (yh [(.int .i64 0), (.int .i64 0), (.int .i64 0), (.int .i64 0)] [(0, 1, (AV.int .i64 0)), (1, 1, (AV.int .i64 3)), (2, 1, (AV.int .i64 (-1))), (3, 1, (AV.int .i64 (-1)))]) fun v104 =>
ob (evFa 5 v1) fun v105 =>
ob (evLd false 1 v105 h) fun v106 =>
ob (y2 .geq v106 (AV.int .i64 0)) fun v107 =>
oh (evSt 4 v2 v104 h) fun _ h9 =>
okK (yu [([], []), ([], []), (ids1 v105, []), ([], []), ([], ids1 v2), ([], [])] [(2, 4)]) <|
(ob (evLd true 4 v2 h9) fun r0 =>
  y7 h9 (.tup [r0, v107])))
 ((y6g v1 v2 v11 h))
def y1to (s : St) : OX := y6u (s 1) (s 2) (s 11) (s 102) s.h
theorem y1g2 : T1 ysl yd (y1 0 yd xN) [.cell 2 true 4, .t 3] y1to := fun s => (yt rfl (y1aq s)).trans (by kernel_rfl)
def y71 (v1 v2 v11 : AV) (h : Heap) : OX :=
ob (y2 .eql v11 (AV.int .i64 16)) fun v103 =>
(y6u v1 v2 v11 v103 h)
def y1w3 (s : St) : OX := y71 (s 1) (s 2) (s 11) s.h
theorem y1cf : T1 ytu yd (y1 0 yd xN) [.cell 2 true 4, .t 3] y1w3 := sq y1g2 fun _ => by kernel_rfl
def y6o (v1 v2 v11 v99 : AV) (h : Heap) : OX :=
cnd v99
 (ob (yh [(.int .i64 0), (.int .i64 0), (.int .i64 0), (.int .i64 0)] [(0, 1, (AV.int .i64 1)), (1, 1, (AV.int .i64 3)), (2, 1, (AV.int .i64 (-1))), (3, 1, (AV.int .i64 (-1)))]) fun v101 =>
oh (evSt 4 v2 v101 h) fun _ h10 =>
(ob (evLd true 4 v2 h10) fun r0 =>
  y7 h10 (.tup [r0, (AV.bool true)])))
 ((y71 v1 v2 v11 h))
def y1y7 (s : St) : OX := y6o (s 1) (s 2) (s 11) (s 99) s.h
theorem y1cd : T1 yrx yd (y1 0 yd xN) [.cell 2 true 4, .t 3] y1y7 := fun s => (yt rfl (y1cf s)).trans (by kernel_rfl)
def y6d (v1 v2 v11 : AV) (h : Heap) : OX :=
ob (y2 .eql v11 (AV.int .i64 15)) fun v100 =>
(y6o v1 v2 v11 v100 h)
def y1uw (s : St) : OX := y6d (s 1) (s 2) (s 11) s.h
theorem y16w : T1 ypt yd (y1 0 yd xN) [.cell 2 true 4, .t 3] y1uw := sq y1cd fun _ => by kernel_rfl
def y73 (v1 v2 v11 v96 : AV) (h : Heap) : OX :=
cnd v96
 (ob (yh [(.int .i64 0), (.int .i64 0), (.int .i64 0), (.int .i64 0)] [(0, 1, (AV.int .i64 (-1))), (1, 1, (AV.int .i64 3)), (2, 1, (AV.int .i64 1)), (3, 1, (AV.int .i64 0))]) fun v98 =>
oh (evSt 4 v2 v98 h) fun _ h11 =>
(ob (evLd true 4 v2 h11) fun r0 =>
  y7 h11 (.tup [r0, (AV.bool true)])))
 ((y6d v1 v2 v11 h))
def y1xy (s : St) : OX := y73 (s 1) (s 2) (s 11) (s 96) s.h
theorem y1g5 : T1 yvv yd (y1 0 yd xN) [.cell 2 true 4, .t 3] y1xy := fun s => (yt rfl (y16w s)).trans (by kernel_rfl)
def y6c (v1 v2 v11 : AV) (h : Heap) : OX :=
ob (y2 .eql v11 (AV.int .i64 14)) fun v97 =>
(y73 v1 v2 v11 v97 h)
def y1sg (s : St) : OX := y6c (s 1) (s 2) (s 11) s.h
theorem y1el : T1 ypq yd (y1 0 yd xN) [.cell 2 true 4, .t 3] y1sg := sq y1g5 fun _ => by kernel_rfl
def y78 (v1 v2 v11 v93 : AV) (h : Heap) : OX :=
cnd v93
 (ob (yh [(.int .i64 0), (.int .i64 0), (.int .i64 0), (.int .i64 0)] [(0, 1, (AV.int .i64 0)), (1, 1, (AV.int .i64 3)), (2, 1, (AV.int .i64 1)), (3, 1, (AV.int .i64 (-1)))]) fun v95 =>
oh (evSt 4 v2 v95 h) fun _ h12 =>
(ob (evLd true 4 v2 h12) fun r0 =>
  y7 h12 (.tup [r0, (AV.bool true)])))
 ((y6c v1 v2 v11 h))
def y1uh (s : St) : OX := y78 (s 1) (s 2) (s 11) (s 93) s.h
theorem y160 : T1 yva yd (y1 0 yd xN) [.cell 2 true 4, .t 3] y1uh := fun s => (yt rfl (y1el s)).trans (by kernel_rfl)
def y70 (v1 v2 v11 : AV) (h : Heap) : OX :=
ob (y2 .eql v11 (AV.int .i64 13)) fun v94 =>
(y78 v1 v2 v11 v94 h)
def y1xh (s : St) : OX := y70 (s 1) (s 2) (s 11) s.h
theorem y1ao : T1 ywa yd (y1 0 yd xN) [.cell 2 true 4, .t 3] y1xh := sq y160 fun _ => by kernel_rfl
def y77 (v1 v2 v11 v90 : AV) (h : Heap) : OX :=
cnd v90
 (ob (yh [(.int .i64 0), (.int .i64 0), (.int .i64 0), (.int .i64 0)] [(0, 1, (AV.int .i64 (-1))), (1, 1, (AV.int .i64 3)), (2, 1, (AV.int .i64 3)), (3, 1, (AV.int .i64 (-1)))]) fun v92 =>
oh (evSt 4 v2 v92 h) fun _ h13 =>
(ob (evLd true 4 v2 h13) fun r0 =>
  y7 h13 (.tup [r0, (AV.bool true)])))
 ((y70 v1 v2 v11 h))
def y1v7 (s : St) : OX := y77 (s 1) (s 2) (s 11) (s 90) s.h
theorem y136 : T1 ys1 yd (y1 0 yd xN) [.cell 2 true 4, .t 3] y1v7 := fun s => (yt rfl (y1ao s)).trans (by kernel_rfl)
def y6j (v1 v2 v11 : AV) (h : Heap) : OX :=
ob (y2 .eql v11 (AV.int .i64 11)) fun v91 =>
(y77 v1 v2 v11 v91 h)
def y1w7 (s : St) : OX := y6j (s 1) (s 2) (s 11) s.h
theorem y15x : T1 ytj yd (y1 0 yd xN) [.cell 2 true 4, .t 3] y1w7 := sq y136 fun _ => by kernel_rfl
def y6t (v1 v2 v11 v87 : AV) (h : Heap) : OX :=
cnd v87
 (ob (yh [(.int .i64 0), (.int .i64 0), (.int .i64 0), (.int .i64 0)] [(0, 1, (AV.int .i64 (-1))), (1, 1, (AV.int .i64 1)), (2, 1, (AV.int .i64 (-1))), (3, 1, (AV.int .i64 (-1)))]) fun v89 =>
oh (evSt 4 v2 v89 h) fun _ h14 =>
(ob (evLd true 4 v2 h14) fun r0 =>
  y7 h14 (.tup [r0, (AV.bool true)])))
 ((y6j v1 v2 v11 h))
def y1vt (s : St) : OX := y6t (s 1) (s 2) (s 11) (s 87) s.h
theorem y17y : T1 yrk yd (y1 0 yd xN) [.cell 2 true 4, .t 3] y1vt := fun s => (yt rfl (y15x s)).trans (by kernel_rfl)
def y6k (v1 v2 v11 : AV) (h : Heap) : OX :=
ob (y2 .eql v11 (AV.int .i64 10)) fun v88 =>
(y6t v1 v2 v11 v88 h)
def y1ys (s : St) : OX := y6k (s 1) (s 2) (s 11) s.h
theorem y1bn : T1 ypu yd (y1 0 yd xN) [.cell 2 true 4, .t 3] y1ys := sq y17y fun _ => by kernel_rfl
def y6y (v1 v2 v11 v84 : AV) (h : Heap) : OX :=
cnd v84
 (ob (yh [(.int .i64 0), (.int .i64 0), (.int .i64 0), (.int .i64 0)] [(0, 1, (AV.int .i64 (-1))), (1, 1, (AV.int .i64 3)), (2, 1, (AV.int .i64 1)), (3, 1, (AV.int .i64 (-1)))]) fun v86 =>
oh (evSt 4 v2 v86 h) fun _ h15 =>
(ob (evLd true 4 v2 h15) fun r0 =>
  y7 h15 (.tup [r0, (AV.bool true)])))
 ((y6k v1 v2 v11 h))
def y1rz (s : St) : OX := y6y (s 1) (s 2) (s 11) (s 84) s.h
theorem y1fa : T1 yov yd (y1 0 yd xN) [.cell 2 true 4, .t 3] y1rz := fun s => (yt rfl (y1bn s)).trans (by kernel_rfl)
def y6q (v1 v2 v11 : AV) (h : Heap) : OX :=
ob (y2 .eql v11 (AV.int .i64 9)) fun v85 =>
(y6y v1 v2 v11 v85 h)
def y1th (s : St) : OX := y6q (s 1) (s 2) (s 11) s.h
theorem y16n : T1 yqg yd (y1 0 yd xN) [.cell 2 true 4, .t 3] y1th := sq y1fa fun _ => by kernel_rfl
def y74 (v1 v2 v11 v78 : AV) (h : Heap) : OX :=
cnd v78
 (ob (yh [(.int .i64 0), (.int .i64 0), (.int .i64 0), (.int .i64 0)] [(0, 1, (AV.int .i64 1)), (1, 1, (AV.int .i64 3)), (2, 1, (AV.int .i64 (-1))), (3, 1, (AV.int .i64 (-1)))]) fun v80 =>
ob (evFa 7 v1) fun v81 =>
ob (evLd false 1 v81 h) fun v82 =>
oh (y4 E (y6 E) 0 none true 37 [v82] h) fun v83 h16 =>
oh (evSt 4 v2 v80 h16) fun _ h17 =>
(ob (evLd true 4 v2 h17) fun r0 =>
  y7 h17 (.tup [r0, v83])))
 ((y6q v1 v2 v11 h))
def y1yx (s : St) : OX := y74 (s 1) (s 2) (s 11) (s 78) s.h
theorem y19u : T1 ywp yd (y1 0 yd xN) [.cell 2 true 4, .t 3] y1yx := fun s => (yt rfl (y16n s)).trans (by kernel_rfl)
def y6l (v1 v2 v11 : AV) (h : Heap) : OX :=
ob (y2 .eql v11 (AV.int .i64 22)) fun v79 =>
(y74 v1 v2 v11 v79 h)
def y1wf (s : St) : OX := y6l (s 1) (s 2) (s 11) s.h
theorem y11a : T1 ytt yd (y1 0 yd xN) [.cell 2 true 4, .t 3] y1wf := sq y19u fun _ => by kernel_rfl
def y6m (v1 v2 v11 v72 : AV) (h : Heap) : OX :=
cnd v72
 (ob (yh [(.int .i64 0), (.int .i64 0), (.int .i64 0), (.int .i64 0)] [(0, 1, (AV.int .i64 (-1))), (1, 1, (AV.int .i64 3)), (2, 1, (AV.int .i64 (-1))), (3, 1, (AV.int .i64 (-1)))]) fun v74 =>
ob (evFa 7 v1) fun v75 =>
ob (evLd false 1 v75 h) fun v76 =>
oh (y4 E (y6 E) 0 none true 37 [v76] h) fun v77 h18 =>
oh (evSt 4 v2 v74 h18) fun _ h19 =>
(ob (evLd true 4 v2 h19) fun r0 =>
  y7 h19 (.tup [r0, v77])))
 ((y6l v1 v2 v11 h))
def y1s9 (s : St) : OX := y6m (s 1) (s 2) (s 11) (s 72) s.h
theorem y19p : T1 ys0 yd (y1 0 yd xN) [.cell 2 true 4, .t 3] y1s9 := fun s => (yt rfl (y11a s)).trans (by kernel_rfl)
def y6v (v1 v2 v11 : AV) (h : Heap) : OX :=
ob (y2 .eql v11 (AV.int .i64 12)) fun v73 =>
(y6m v1 v2 v11 v73 h)
def y1se (s : St) : OX := y6v (s 1) (s 2) (s 11) s.h
theorem y1du : T1 yw7 yd (y1 0 yd xN) [.cell 2 true 4, .t 3] y1se := sq y19p fun _ => by kernel_rfl
def y5g (v1 v2 v11 v68 : AV) (h : Heap) : OX :=
cnd v68
 (ob (yh [(.int .i64 0), (.int .i64 0), (.int .i64 0), (.int .i64 0)] [(0, 1, (AV.int .i64 (-1))), (1, 1, (AV.int .i64 3)), (2, 1, (AV.int .i64 (-1))), (3, 1, (AV.int .i64 (-1)))]) fun v71 =>
oh (evSt 4 v2 v71 h) fun _ h20 =>
(ob (evLd true 4 v2 h20) fun r0 =>
  y7 h20 (.tup [r0, (AV.bool true)])))
 ((y6v v1 v2 v11 h))
def y1vj (s : St) : OX := y5g (s 1) (s 2) (s 11) (s 68) s.h
theorem yzl : T1 yx7 yd (y1 0 yd xN) [.cell 2 true 4, .t 3] y1vj := fun s => (yt rfl (y1du s)).trans (by kernel_rfl)
def y6e (v1 v2 v11 : AV) (h : Heap) : OX :=
ob (y2 .eql v11 (AV.int .i64 8)) fun v69 =>
cnd v69
 ((y5g v1 v2 v11 v69 h))
 (ob (y2 .eql v11 (AV.int .i64 31)) fun v70 =>
(y5g v1 v2 v11 v70 h))
def y1s3 (s : St) : OX := y6e (s 1) (s 2) (s 11) s.h
theorem y18r : T1 ypl yd (y1 0 yd xN) [.cell 2 true 4, .t 3] y1s3 := sq yzl fun _ => by kernel_rfl
def y6r (v1 v2 v11 v65 : AV) (h : Heap) : OX :=
cnd v65
 (ob (yh [(.int .i64 0), (.int .i64 0), (.int .i64 0), (.int .i64 0)] [(0, 1, (AV.int .i64 (-1))), (1, 1, (AV.int .i64 0)), (2, 1, (AV.int .i64 (-1))), (3, 1, (AV.int .i64 (-1)))]) fun v67 =>
oh (evSt 4 v2 v67 h) fun _ h21 =>
(ob (evLd true 4 v2 h21) fun r0 =>
  y7 h21 (.tup [r0, (AV.bool true)])))
 ((y6e v1 v2 v11 h))
def y1wy (s : St) : OX := y6r (s 1) (s 2) (s 11) (s 65) s.h
theorem y1d1 : T1 yr3 yd (y1 0 yd xN) [.cell 2 true 4, .t 3] y1wy := fun s => (yt rfl (y18r s)).trans (by kernel_rfl)
def y75 (v1 v2 v11 : AV) (h : Heap) : OX :=
ob (y2 .eql v11 (AV.int .i64 7)) fun v66 =>
(y6r v1 v2 v11 v66 h)
def y1tv (s : St) : OX := y75 (s 1) (s 2) (s 11) s.h
theorem y1d5 : T1 yre yd (y1 0 yd xN) [.cell 2 true 4, .t 3] y1tv := sq y1d1 fun _ => by kernel_rfl
def y7c (v1 v2 v11 v47 : AV) (h : Heap) : OX :=
cnd v47
 (ob (evFa 5 v1) fun v50 =>
ob (evLd false 1 v50 h) fun v51 =>
oh (y4 E (y6 E) 0 none true 50 [v51] h) fun v52 h22 =>
ob (y42 0 v52) fun v53 =>
ob (y42 1 v52) fun v54 =>
ob (y42 2 v52) fun v55 =>
ob (yh [(.int .i64 0), (.int .i64 0), (.int .i64 0), (.int .i64 0)] [(0, 1, v55), (1, 1, v53), (2, 1, (AV.int .i64 (-1))), (3, 1, (AV.int .i64 (-1)))]) fun v58 =>
ob (y2 .neq v53 (AV.int .i64 0)) fun v60 =>
gb v60 true (some v54) fun v62 =>
gb v60 true (y2 .eql v62 (AV.int .i64 0)) fun v63 =>
ob (ye v60 v63 (AV.bool false)) fun v64 =>
oh (evSt 4 v2 v58 h22) fun _ h23 =>
(ob (evLd true 4 v2 h23) fun r0 =>
  y7 h23 (.tup [r0, v64])))
 ((y75 v1 v2 v11 h))
def y1vv (s : St) : OX := y7c (s 1) (s 2) (s 11) (s 47) s.h
theorem y15y : T1 ywj yd (y1 0 yd xN) [.cell 2 true 4, .t 3] y1vv := fun s => (yt rfl (y1d5 s)).trans (by kernel_rfl)
def y6b (v1 v2 v11 : AV) (h : Heap) : OX :=
ob (y2 .eql v11 (AV.int .i64 6)) fun v48 =>
(y7c v1 v2 v11 v48 h)
def y1tl (s : St) : OX := y6b (s 1) (s 2) (s 11) s.h
theorem y12n : T1 yrc yd (y1 0 yd xN) [.cell 2 true 4, .t 3] y1tl := sq y15y fun _ => by kernel_rfl
def y6p (v1 v2 v11 v25 : AV) (h : Heap) : OX :=
cnd v25
 (ob (evFa 5 v1) fun v28 =>
ob (evLd false 1 v28 h) fun v29 =>
oh (y4 E (y6 E) 0 none true 50 [v29] h) fun v30 h24 =>
ob (y42 0 v30) fun v31 =>
ob (y42 1 v30) fun v32 =>
ob (y42 2 v30) fun v33 =>
ob (yh [(.int .i64 0), (.int .i64 0), (.int .i64 0), (.int .i64 0)] [(0, 1, v33), (1, 1, v31), (2, 1, v32), (3, 1, (AV.int .i64 (-1)))]) fun v37 =>
ob (evFa 5 v1) fun v38 =>
ob (evLd false 1 v38 h24) fun v39 =>
ob (evFa 5 v1) fun v40 =>
ob (evLd false 1 v40 h24) fun v41 =>
ob (y2 .eql v39 v41) fun v42 =>
gb v42 true (some v32) fun v44 =>
gb v42 true (y2 .neq v44 (AV.int .i64 0)) fun v45 =>
ob (ye v42 v45 (AV.bool false)) fun v46 =>
oh (evSt 4 v2 v37 h24) fun _ h25 =>
(ob (evLd true 4 v2 h25) fun r0 =>
  y7 h25 (.tup [r0, v46])))
 ((y6b v1 v2 v11 h))
def y1vg (s : St) : OX := y6p (s 1) (s 2) (s 11) (s 25) s.h
theorem y151 : T1 yuk yd (y1 0 yd xN) [.cell 2 true 4, .t 3] y1vg := fun s => (yt rfl (y12n s)).trans (by kernel_rfl)
def y6z (v1 v2 v11 : AV) (h : Heap) : OX :=
ob (y2 .eql v11 (AV.int .i64 5)) fun v26 =>
(y6p v1 v2 v11 v26 h)
def y1tr (s : St) : OX := y6z (s 1) (s 2) (s 11) s.h
theorem y19l : T1 yuw yd (y1 0 yd xN) [.cell 2 true 4, .t 3] y1tr := sq y151 fun _ => by kernel_rfl
def y6n (v1 v2 v11 v22 : AV) (h : Heap) : OX :=
cnd v22
 (ob (yh [(.int .i64 0), (.int .i64 0), (.int .i64 0), (.int .i64 0)] [(0, 1, (AV.int .i64 0)), (1, 1, (AV.int .i64 0)), (2, 1, (AV.int .i64 (-1))), (3, 1, (AV.int .i64 (-1)))]) fun v24 =>
oh (evSt 4 v2 v24 h) fun _ h26 =>
(ob (evLd true 4 v2 h26) fun r0 =>
  y7 h26 (.tup [r0, (AV.bool true)])))
 ((y6z v1 v2 v11 h))
def y1sr (s : St) : OX := y6n (s 1) (s 2) (s 11) (s 22) s.h
theorem y154 : T1 ywt yd (y1 0 yd xN) [.cell 2 true 4, .t 3] y1sr := fun s => (yt rfl (y19l s)).trans (by kernel_rfl)
def y79 (v1 v2 v11 : AV) (h : Heap) : OX :=
ob (y2 .eql v11 (AV.int .i64 4)) fun v23 =>
(y6n v1 v2 v11 v23 h)
def y1y9 (s : St) : OX := y79 (s 1) (s 2) (s 11) s.h
theorem y1ay : T1 ys3 yd (y1 0 yd xN) [.cell 2 true 4, .t 3] y1y9 := sq y154 fun _ => by kernel_rfl
def y4g (v1 v2 v11 v16 : AV) (h : Heap) : OX :=
cnd v16
 (ob (yh [(.int .i64 0), (.int .i64 0), (.int .i64 0), (.int .i64 0)] [(0, 1, (AV.int .i64 3)), (1, 1, (AV.int .i64 (-1))), (2, 1, (AV.int .i64 (-1))), (3, 1, (AV.int .i64 (-1)))]) fun v21 =>
oh (evSt 4 v2 v21 h) fun _ h27 =>
(ob (evLd true 4 v2 h27) fun r0 =>
  y7 h27 (.tup [r0, (AV.bool true)])))
 ((y79 v1 v2 v11 h))
def y1wc (s : St) : OX := y4g (s 1) (s 2) (s 11) (s 16) s.h
theorem y1et : T1 ypy yd (y1 0 yd xN) [.cell 2 true 4, .t 3] y1wc := fun s => (yt rfl (y1ay s)).trans (by kernel_rfl)
def y6x (v1 v2 v11 : AV) (h : Heap) : OX :=
ob (y2 .eql v11 (AV.int .i64 2)) fun v17 =>
cnd v17
 ((y4g v1 v2 v11 v17 h))
 (ob (y2 .eql v11 (AV.int .i64 3)) fun v18 =>
cnd v18
 ((y4g v1 v2 v11 v18 h))
 (ob (y2 .eql v11 (AV.int .i64 20)) fun v19 =>
cnd v19
 ((y4g v1 v2 v11 v19 h))
 (ob (y2 .eql v11 (AV.int .i64 32)) fun v20 =>
(y4g v1 v2 v11 v20 h))))
def y1uz (s : St) : OX := y6x (s 1) (s 2) (s 11) s.h
theorem y14n : T1 yom yd (y1 0 yd xN) [.cell 2 true 4, .t 3] y1uz := sq y1et fun _ => by kernel_rfl
def y5d (v1 v2 v11 v12 : AV) (h : Heap) : OX :=
cnd v12
 (ob (yh [(.int .i64 0), (.int .i64 0), (.int .i64 0), (.int .i64 0)] [(0, 1, (AV.int .i64 0)), (1, 1, (AV.int .i64 (-1))), (2, 1, (AV.int .i64 (-1))), (3, 1, (AV.int .i64 (-1)))]) fun v15 =>
oh (evSt 4 v2 v15 h) fun _ h28 =>
(ob (evLd true 4 v2 h28) fun r0 =>
  y7 h28 (.tup [r0, (AV.bool true)])))
 ((y6x v1 v2 v11 h))
def y1un (s : St) : OX := y5d (s 1) (s 2) (s 11) (s 12) s.h
theorem y16l : T1 yql yd (y1 0 yd xN) [.cell 2 true 4, .t 3] y1un := fun s => (yt rfl (y14n s)).trans (by kernel_rfl)
def y76 (v1 v2 v11 : AV) (h : Heap) : OX :=
ob (y2 .eql v11 (AV.int .i64 1)) fun v13 =>
cnd v13
 ((y5d v1 v2 v11 v13 h))
 (ob (y2 .eql v11 (AV.int .i64 18)) fun v14 =>
(y5d v1 v2 v11 v14 h))
def y1e4 (s : St) : OX := y76 (s 1) (s 2) (s 11) s.h
theorem y170 : T1 yqz yd (y1 0 yd xN) [.cell 2 true 4, .t 3] y1e4 := sq y16l fun _ => by kernel_rfl
theorem y1gw : T1 ypd yd xN [.cell 2 true 4, .t 3] y1e4 := fun s => yl.trans (y170 s)
def y6w (v1 v2 : AV) (h : Heap) : OX :=
ob (evFa 0 v1) fun v10 =>
ob (evLd false 1 v10 h) fun v11 =>
(y76 v1 v2 v11 h)
def y1a2 (s : St) : OX := y6w (s 1) (s 2) s.h
theorem y1ca : T1 yuu yd xN [.cell 2 true 4, .t 3] y1a2 := sq y1gw fun _ => by kernel_rfl
theorem y1gj : T0 yvu [.cell 2 true 4, .t 3] y1a2 := sq y1mm y1ca
def y72 (v0 : AV) (h : Heap) : OX :=
oh (newC 0 (some 0) (cellsOf v0) h) fun v1 h29 =>
oh (newC 0 (some 1) [(.int .i64 0), (.int .i64 0), (.int .i64 0), (.int .i64 0)] h29) fun v2 h30 =>
(y6w v1 v2 h30)
def y1xa (s : St) : OX := y72 (s 0) s.h
theorem y16t : T0 ypx [.cell 2 true 4, .t 3] y1xa := sq y1gj fun _ => by kernel_rfl
@[simp] theorem y2ak : E.pure 47 = true := rfl
theorem y17l (v0 : AV) : (y6 E).p 47 [v0] = y72 v0 [⟨0, .dead⟩, ⟨0, .dead⟩] :=
  (yo (cf := y253) (by kernel_rfl) rfl).trans ((y16t _).trans (by kernel_rfl))
def y25u (h : Heap) : OX :=
(y7 h (AV.int .i64 32))
def y207 (s : St) : OX := y25u s.h
theorem y1ks : T0 y193 [.t 2] y207 := fun _ => by kernel_rfl
def y203 (v0 : AV) (h : Heap) : OX :=
cnd v0
 ((y7 h (AV.int .i64 64)))
 ((y25u h))
def y20d (s : St) : OX := y203 (s 0) s.h
theorem y1mt : T0 y130 [.t 2] y20d := sq y1ks fun _ => by kernel_rfl
def y25p (v0 : AV) (h : Heap) : OX :=
(y203 v0 h)
def y22c (s : St) : OX := y25p (s 0) s.h
theorem y1oh : T0 y1eo [.t 2] y22c := sq y1mt fun _ => by kernel_rfl
@[simp] theorem y27a : E.pure 137 = true := rfl
theorem y28p (v0 : AV) : (y6 E).p 137 [v0] = y25p v0 [] :=
  (yo (cf := y25k) (by kernel_rfl) rfl).trans ((y1oh _).trans (by kernel_rfl))
def yvx (v3 v9 : AV) (h : Heap) : OX :=
oh (y4 E (y6 E) 0 none true 144 [v9, v3] h) fun v35 h1 =>
(y7 h1 v35)
def y57 (s : St) : OX := yvx (s 3) (s 9) s.h
theorem y179 : T0 ypo [.t 8] y57 := fun _ => by kernel_rfl
def ybq (v0 v1 v2 v3 v9 v10 : AV) (h : Heap) : OX :=
  W E 0 yez ⟨[(0, v0), (1, v1), (2, v2), (3, v3), (9, v9), (10, v10)], h⟩ y57 (y1 0 y57 xN) (finP [.t 8])
def y8a (s : St) : OX := ybq (s 0) (s 1) (s 2) (s 3) (s 9) (s 10) s.h
theorem ygt : T1 yez y57 (y1 0 y57 xN) [.t 8] y8a := fun s => yi.trans (by kernel_rfl)
def yzu (v0 v1 v2 v3 v9 v10 : AV) (h : Heap) : OX :=
ob (y2 .add v10 (AV.int .i64 1)) fun v16 =>
(ybq v0 v1 v2 v3 v9 v16 h)
def y1t9 (s : St) : OX := yzu (s 0) (s 1) (s 2) (s 3) (s 9) (s 10) s.h
theorem y13r : T1 yuf y8a (y1 0 y57 xN) [.t 8] y1t9 := fun _ => by kernel_rfl
def y120 (v0 v1 v2 v3 v9 v10 : AV) (h : Heap) : OX :=
oh (y4 E (y6 E) 0 none true 143 [v0, v10] h) fun v19 h2 =>
oh (y4 E (y6 E) 0 none true 143 [v1, v10] h2) fun v22 h3 =>
ob (y2 .add v19 v22) fun v23 =>
ob (y2 .add v23 v2) fun v25 =>
ob (y2 .rem v25 (AV.int .i64 2)) fun v28 =>
oh (y12 0 (some 0) 1 1 [(.int .i64 0)] [(0, v28)] h3) fun v29 h4 =>
oh (y2k 0 (some 1) 1 8 v9 v29 h4) fun v30 h5 =>
ob (y2 .quo v25 (AV.int .i64 2)) fun v32 =>
(yzu v0 v1 v32 v3 v30 v10 h5)
def y1yi (s : St) : OX := y120 (s 0) (s 1) (s 2) (s 3) (s 9) (s 10) s.h
theorem y1cr : T1 yvj y8a (y1 0 y57 xN) [.t 8] y1yi := sq y13r fun _ => by kernel_rfl
def yq4 (v0 v1 v2 v3 v9 v10 : AV) (h : Heap) : OX :=
ob (y2 .lss v10 v3) fun v14 =>
cnd v14
 ((y120 v0 v1 v2 v3 v9 v10 h))
 ((yvx v3 v9 h))
def y1uc (s : St) : OX := yq4 (s 0) (s 1) (s 2) (s 3) (s 9) (s 10) s.h
theorem y1gs : T1 ywh y8a (y1 0 y57 xN) [.t 8] y1uc := sq y1cr fun _ => by kernel_rfl
theorem ygy (v0 v1 v2 v3 v9 v10 : AV) (h : Heap) : ybq v0 v1 v2 v3 v9 v10 h = (yq4 v0 v1 v2 v3 v9 v10 h) :=
  y22.trans ((y17 _ _ _ (n' := y8a) (fun s => ygt s)).trans ((y1gs _).trans (by kernel_rfl)))
theorem y1cz : T1 yww y57 xN [.t 8] y8a := fun s => yl.trans (ygt s)
def y1rl (v0 v1 v2 v3 v9 : AV) (h : Heap) : OX :=
(ybq v0 v1 v2 v3 v9 (AV.int .i64 0) h)
def y17d (s : St) : OX := y1rl (s 0) (s 1) (s 2) (s 3) (s 9) s.h
theorem y18z : T1 ysj y57 xN [.t 8] y17d := sq y1cz fun _ => by kernel_rfl
theorem y1gp : T0 yot [.t 8] y17d := sq y179 y18z
def y1qd (v0 v1 v2 v3 : AV) (h : Heap) : OX :=
(y1rl v0 v1 v2 v3 AV.nils h)
def y1yq (s : St) : OX := y1qd (s 0) (s 1) (s 2) (s 3) s.h
theorem y1ba : T0 yu2 [.t 8] y1yq := sq y1gp fun _ => by kernel_rfl
def yzo (v0 v1 v2 v3 : AV) (h : Heap) : OX :=
(y1qd v0 v1 v2 v3 h)
def y1pn (s : St) : OX := yzo (s 0) (s 1) (s 2) (s 3) s.h
theorem yya : T0 yjz [.t 8] y1pn := sq y1ba fun _ => by kernel_rfl
@[simp] theorem y27b : E.pure 138 = true := rfl
theorem y230 (v0 v1 v2 v3 : AV) : (y6 E).p 138 [v0, v1, v2, v3] = yzo v0 v1 v2 v3 [⟨0, .dead⟩, ⟨0, .dead⟩] :=
  (yo (cf := y1rm) (by kernel_rfl) rfl).trans ((yya _).trans (by kernel_rfl))
def yqy (v7 : AV) (h : Heap) : OX :=
(y7 h v7)
def y56 (s : St) : OX := yqy (s 7) s.h
theorem y1ev : T0 yus [.t 6] y56 := fun _ => by kernel_rfl
def yb7 (v0 v1 v2 v7 v8 : AV) (h : Heap) : OX :=
  W E 0 yfa ⟨[(0, v0), (1, v1), (2, v2), (7, v7), (8, v8)], h⟩ y56 (y1 0 y56 xN) (finP [.t 6])
def y8c (s : St) : OX := yb7 (s 0) (s 1) (s 2) (s 7) (s 8) s.h
theorem ygc : T1 yfa y56 (y1 0 y56 xN) [.t 6] y8c := fun s => yi.trans (by kernel_rfl)
def ymi (v0 v1 v2 v7 v8 : AV) (h : Heap) : OX :=
ob (y2 .add v8 (AV.int .i64 1)) fun v13 =>
(yb7 v0 v1 v2 v7 v13 h)
def y1wu (s : St) : OX := ymi (s 0) (s 1) (s 2) (s 7) (s 8) s.h
theorem y19v : T1 yp1 y8c (y1 0 y56 xN) [.t 6] y1wu := fun _ => by kernel_rfl
def y172 (v0 v1 v2 v7 v8 : AV) (h : Heap) : OX :=
oh (y4 E (y6 E) 0 none true 143 [v1, v8] h) fun v16 h1 =>
ob (y2 .eql v16 (AV.int .i64 1)) fun v17 =>
cnd v17
 (oh (y4 E (y6 E) 0 none true 141 [v0, v8, v2, (AV.bool false), (AV.bool false)] h1) fun v22 h2 =>
oh (y4 E (y6 E) 0 none true 138 [v7, v22, (AV.int .i64 0), v2] h2) fun v24 h3 =>
(ymi v0 v1 v2 v24 v8 h3))
 ((ymi v0 v1 v2 v7 v8 h1))
def y1ub (s : St) : OX := y172 (s 0) (s 1) (s 2) (s 7) (s 8) s.h
theorem y113 : T1 yqt y8c (y1 0 y56 xN) [.t 6] y1ub := sq y19v fun _ => by kernel_rfl
def yue (v0 v1 v2 v7 v8 : AV) (h : Heap) : OX :=
ob (y2 .lss v8 v2) fun v11 =>
cnd v11
 ((y172 v0 v1 v2 v7 v8 h))
 ((yqy v7 h))
def y1ud (s : St) : OX := yue (s 0) (s 1) (s 2) (s 7) (s 8) s.h
theorem y1ck : T1 yuo y8c (y1 0 y56 xN) [.t 6] y1ud := sq y113 fun _ => by kernel_rfl
theorem yh5 (v0 v1 v2 v7 v8 : AV) (h : Heap) : yb7 v0 v1 v2 v7 v8 h = (yue v0 v1 v2 v7 v8 h) :=
  y22.trans ((y17 _ _ _ (n' := y8c) (fun s => ygc s)).trans ((y1ck _).trans (by kernel_rfl)))
theorem y0h : T1 yq9 y56 xN [.t 6] y8c := fun s => yl.trans (ygc s)
def y1qa (v0 v1 v2 v7 : AV) (h : Heap) : OX :=
(yb7 v0 v1 v2 v7 (AV.int .i64 0) h)
def y1e3 (s : St) : OX := y1qa (s 0) (s 1) (s 2) (s 7) s.h
theorem y18f : T1 yve y56 xN [.t 6] y1e3 := sq y0h fun _ => by kernel_rfl
theorem y18c : T0 yr6 [.t 6] y1e3 := sq y1ev y18f
def y1r9 (v0 v1 v2 : AV) (h : Heap) : OX :=
(y1qa v0 v1 v2 (AV.int .i64 0) h)
def y1t3 (s : St) : OX := y1r9 (s 0) (s 1) (s 2) s.h
theorem y13f : T0 yu9 [.t 6] y1t3 := sq y18c fun _ => by kernel_rfl
def y1cy (v0 v1 v2 : AV) (h : Heap) : OX :=
(y1r9 v0 v1 v2 h)
def y1is (s : St) : OX := y1cy (s 0) (s 1) (s 2) s.h
theorem yyx : T0 ykj [.t 6] y1is := sq y13f fun _ => by kernel_rfl
@[simp] theorem y276 : E.pure 139 = true := rfl
theorem y25v (v0 v1 v2 : AV) : (y6 E).p 139 [v0, v1, v2] = y1cy v0 v1 v2 [] :=
  (yo (cf := y1qw) (by kernel_rfl) rfl).trans ((yyx _).trans (by kernel_rfl))
def yyv (v14 v15 : AV) (h : Heap) : OX :=
(y7 h (.tup [v14, v15]))
def y20s (s : St) : OX := yyv (s 14) (s 15) s.h
theorem y1lq : T0 y11o [.t 6, .t 7] y20s := fun _ => by kernel_rfl
def yxv (v0 v14 v15 : AV) (h : Heap) : OX :=
ob (y2 .lss v0 (AV.int .i64 0)) fun v66 =>
cnd v66
 (ob (evUn .neg v15) fun v68 =>
(yyv v14 v68 h))
 ((yyv v14 v15 h))
def y22j (s : St) : OX := yxv (s 0) (s 14) (s 15) s.h
theorem y1mq : T0 y181 [.t 6, .t 7] y22j := sq y1lq fun _ => by kernel_rfl
def yyc (v0 v1 v14 v15 : AV) (h : Heap) : OX :=
ob (y2 .lss v0 (AV.int .i64 0)) fun v59 =>
ob (y2 .lss v1 (AV.int .i64 0)) fun v61 =>
ob (yzc true v59 v61) fun v62 =>
cnd v62
 (ob (evUn .neg v14) fun v64 =>
(yxv v0 v64 v15 h))
 ((yxv v0 v14 v15 h))
def y1zs (s : St) : OX := yyc (s 0) (s 1) (s 14) (s 15) s.h
theorem y1pl : T0 y17m [.t 6, .t 7] y1zs := sq y1mq fun _ => by kernel_rfl
def yxx (v0 v1 v11 v14 : AV) (h : Heap) : OX :=
ob (y2d .i64 v11) fun v57 =>
(yyc v0 v1 v14 v57 h)
def y24m (s : St) : OX := yxx (s 0) (s 1) (s 11) (s 14) s.h
theorem y1ok : T0 y142 [.t 6, .t 7] y24m := sq y1pl fun _ => by kernel_rfl
def yki (v0 v1 v10 v11 : AV) (h : Heap) : OX :=
ob (y2d .i64 v10) fun v55 =>
(yxx v0 v1 v11 v55 h)
def y8q (s : St) : OX := yki (s 0) (s 1) (s 10) (s 11) s.h
theorem y1hj : T0 y1dl [.t 6, .t 7] y8q := sq y1ok fun _ => by kernel_rfl
def yju (v0 v1 v8 v9 v10 v11 v12 : AV) (h : Heap) : OX :=
  W E 0 yiq ⟨[(0, v0), (1, v1), (8, v8), (9, v9), (10, v10), (11, v11), (12, v12)], h⟩ y8q (y1 0 y8q xN) (finP [.t 6, .t 7])
def ybj (s : St) : OX := yju (s 0) (s 1) (s 8) (s 9) (s 10) (s 11) (s 12) s.h
theorem ymf : T1 yiq y8q (y1 0 y8q xN) [.t 6, .t 7] ybj := fun s => yi.trans (by kernel_rfl)
def y0z (v0 v1 v8 v9 v10 v11 v12 : AV) (h : Heap) : OX :=
ob (y2 .sub v12 (AV.int .i64 1)) fun v30 =>
(yju v0 v1 v8 v9 v10 v11 v30 h)
def y24z (s : St) : OX := y0z (s 0) (s 1) (s 8) (s 9) (s 10) (s 11) (s 12) s.h
theorem y1hp : T1 y0y ybj (y1 0 y8q xN) [.t 6, .t 7] y24z := fun _ => by kernel_rfl
def y1mp (v0 v1 v8 v9 v10 v11 v12 : AV) (h : Heap) : OX :=
ob (y2 .shr v11 (AV.int .u64 63)) fun v32 =>
ob (y2 .mul v11 (AV.int .u64 2)) fun v34 =>
ob (y2 .shr v8 v12) fun v37 =>
ob (y2 .rem v37 (AV.int .u64 2)) fun v38 =>
ob (y2 .add v34 v38) fun v39 =>
ob (y2 .mul v10 (AV.int .u64 2)) fun v41 =>
ob (y2 .eql v32 (AV.int .u64 1)) fun v43 =>
gb v43 false (some v39) fun v45 =>
gb v43 false (some v9) fun v46 =>
gb v43 false (y2 .geq v45 v46) fun v47 =>
ob (ye v43 (AV.bool true) v47) fun v48 =>
cnd v48
 (ob (y2 .sub v39 v9) fun v51 =>
ob (y2 .add v41 (AV.int .u64 1)) fun v53 =>
(y0z v0 v1 v8 v9 v53 v51 v12 h))
 ((y0z v0 v1 v8 v9 v41 v39 v12 h))
def y234 (s : St) : OX := y1mp (s 0) (s 1) (s 8) (s 9) (s 10) (s 11) (s 12) s.h
theorem y1l7 : T1 y1g8 ybj (y1 0 y8q xN) [.t 6, .t 7] y234 := sq y1hp fun _ => by kernel_rfl
def y117 (v0 v1 v8 v9 v10 v11 v12 : AV) (h : Heap) : OX :=
ob (y2 .geq v12 (AV.int .i64 0)) fun v28 =>
cnd v28
 ((y1mp v0 v1 v8 v9 v10 v11 v12 h))
 ((yki v0 v1 v10 v11 h))
def y225 (s : St) : OX := y117 (s 0) (s 1) (s 8) (s 9) (s 10) (s 11) (s 12) s.h
theorem y1pm : T1 y1a1 ybj (y1 0 y8q xN) [.t 6, .t 7] y225 := sq y1l7 fun _ => by kernel_rfl
theorem ymc (v0 v1 v8 v9 v10 v11 v12 : AV) (h : Heap) : yju v0 v1 v8 v9 v10 v11 v12 h = (y117 v0 v1 v8 v9 v10 v11 v12 h) :=
  y22.trans ((y17 _ _ _ (n' := ybj) (fun s => ymf s)).trans ((y1pm _).trans (by kernel_rfl)))
theorem y12h : T1 ype y8q xN [.t 6, .t 7] ybj := fun s => yl.trans (ymf s)
def y1dp (v0 v1 v8 v9 v10 v11 : AV) (h : Heap) : OX :=
(yju v0 v1 v8 v9 v10 v11 (AV.int .i64 63) h)
def y1ct (s : St) : OX := y1dp (s 0) (s 1) (s 8) (s 9) (s 10) (s 11) s.h
theorem y12f : T1 yv2 y8q xN [.t 6, .t 7] y1ct := sq y12h fun _ => by kernel_rfl
theorem y19c : T0 yub [.t 6, .t 7] y1ct := sq y1hj y12f
def y17p (v0 v1 v8 v9 : AV) (h : Heap) : OX :=
(y1dp v0 v1 v8 v9 (AV.int .u64 0) (AV.int .u64 0) h)
def y1sf (s : St) : OX := y17p (s 0) (s 1) (s 8) (s 9) s.h
theorem y1a9 : T0 yp5 [.t 6, .t 7] y1sf := sq y19c fun _ => by kernel_rfl
def y150 (v0 v1 v8 : AV) (h : Heap) : OX :=
oh (y4 E (y6 E) 0 none true 146 [v1] h) fun v26 h1 =>
(y17p v0 v1 v8 v26 h1)
def y1sp (s : St) : OX := y150 (s 0) (s 1) (s 8) s.h
theorem y1c0 : T0 ywc [.t 6, .t 7] y1sp := sq y1a9 fun _ => by kernel_rfl
def yzh (v0 v1 : AV) (h : Heap) : OX :=
oh (y4 E (y6 E) 0 none true 146 [v0] h) fun v24 h2 =>
(y150 v0 v1 v24 h2)
def y1xd (s : St) : OX := yzh (s 0) (s 1) s.h
theorem y1a5 : T0 ywl [.t 6, .t 7] y1xd := sq y1c0 fun _ => by kernel_rfl
def yr4 (v0 v1 v2 : AV) (h : Heap) : OX :=
ob (y2 .eql v1 (AV.int .i64 (-1))) fun v19 =>
cnd v19
 (oh (y4 E (y6 E) 0 none true 145 [v0, v2] h) fun v22 h3 =>
(y7 h3 (.tup [v22, (AV.int .i64 0)])))
 ((yzh v0 v1 h))
def y1vz (s : St) : OX := yr4 (s 0) (s 1) (s 2) s.h
theorem y1gi : T0 yvd [.t 6, .t 7] y1vz := sq y1a5 fun _ => by kernel_rfl
def yjx (v0 v1 v2 : AV) (h : Heap) : OX :=
ob (y2 .eql v1 (AV.int .i64 0)) fun v17 =>
cnd v17
 ((y7 h (.tup [(AV.int .i64 0), (AV.int .i64 0)])))
 ((yr4 v0 v1 v2 h))
def y1v1 (s : St) : OX := yjx (s 0) (s 1) (s 2) s.h
theorem y16y : T0 yrh [.t 6, .t 7] y1v1 := sq y1gi fun _ => by kernel_rfl
def ykw (v0 v1 v2 : AV) (h : Heap) : OX :=
(yjx v0 v1 v2 h)
def y1wz (s : St) : OX := ykw (s 0) (s 1) (s 2) s.h
theorem y1b5 : T0 ytm [.t 6, .t 7] y1wz := sq y16y fun _ => by kernel_rfl
@[simp] theorem y27e : E.pure 140 = true := rfl
theorem y298 (v0 v1 v2 : AV) : (y6 E).p 140 [v0, v1, v2] = ykw v0 v1 v2 [] :=
  (yo (cf := y25x) (by kernel_rfl) rfl).trans ((y1b5 _).trans (by kernel_rfl))
def yr5 (v2 v11 : AV) (h : Heap) : OX :=
oh (y4 E (y6 E) 0 none true 144 [v11, v2] h) fun v51 h1 =>
(y7 h1 v51)
def y2p (s : St) : OX := yr5 (s 2) (s 11) s.h
theorem y1ef : T0 yv6 [.t 10] y2p := fun _ => by kernel_rfl
def ybs (v0 v1 v2 v3 v4 v11 v12 : AV) (h : Heap) : OX :=
  W E 0 yf8 ⟨[(0, v0), (1, v1), (2, v2), (3, v3), (4, v4), (11, v11), (12, v12)], h⟩ y2p (y1 0 y2p xN) (finP [.t 10])
def y8d (s : St) : OX := ybs (s 0) (s 1) (s 2) (s 3) (s 4) (s 11) (s 12) s.h
theorem ygr : T1 yf8 y2p (y1 0 y2p xN) [.t 10] y8d := fun s => yi.trans (by kernel_rfl)
def ypr (v0 v1 v2 v3 v4 v11 v12 : AV) (h : Heap) : OX :=
ob (y2 .add v12 (AV.int .i64 1)) fun v19 =>
(ybs v0 v1 v2 v3 v4 v11 v19 h)
def y3y (s : St) : OX := ypr (s 0) (s 1) (s 2) (s 3) (s 4) (s 11) (s 12) s.h
theorem y1gf : T1 yqd y8d (y1 0 y2p xN) [.t 10] y3y := fun _ => by kernel_rfl
def yhj (v0 v1 v2 v3 v4 v11 v12 v14 : AV) (h : Heap) : OX :=
oh (y12 0 (some 0) 1 1 [(.int .i64 0)] [(0, v14)] h) fun v47 h2 =>
oh (y2k 0 (some 1) 1 8 v11 v47 h2) fun v48 h3 =>
(ypr v0 v1 v2 v3 v4 v48 v12 h3)
def y1yl (s : St) : OX := yhj (s 0) (s 1) (s 2) (s 3) (s 4) (s 11) (s 12) (s 14) s.h
theorem y19f : T1 ysu y3y (y1 1 y3y (y1 0 y2p xN)) [.t 10] y1yl := fun _ => by kernel_rfl
def ypi (v0 v1 v2 v3 v4 v11 v12 v13 v14 : AV) (h : Heap) : OX :=
ob (y2 .geq v13 (AV.int .i64 0)) fun v28 =>
gb v28 true (some v13) fun v30 =>
gb v28 true (some v2) fun v31 =>
gb v28 true (y2 .lss v30 v31) fun v32 =>
ob (ye v28 v32 (AV.bool false)) fun v33 =>
cnd v33
 (oh (y4 E (y6 E) 0 none true 143 [v0, v13] h) fun v36 h4 =>
(yhj v0 v1 v2 v3 v4 v11 v12 v36 h4))
 (gb v3 true (some v4) fun v39 =>
ob (ye v3 v39 (AV.bool false)) fun v40 =>
cnd v40
 (ob (y2 .sub v2 (AV.int .i64 1)) fun v43 =>
oh (y4 E (y6 E) 0 none true 143 [v0, v43] h) fun v44 h5 =>
(yhj v0 v1 v2 v3 v4 v11 v12 v44 h5))
 ((yhj v0 v1 v2 v3 v4 v11 v12 v14 h)))
def y1vu (s : St) : OX := ypi (s 0) (s 1) (s 2) (s 3) (s 4) (s 11) (s 12) (s 13) (s 14) s.h
theorem y112 : T1 yvp y3y (y1 1 y3y (y1 0 y2p xN)) [.t 10] y1vu := sq y19f fun _ => by kernel_rfl
def ykg (v0 v1 v2 v3 v4 v11 v12 v13 : AV) (h : Heap) : OX :=
(ypi v0 v1 v2 v3 v4 v11 v12 v13 (AV.int .i64 0) h)
def y1xq (s : St) : OX := ykg (s 0) (s 1) (s 2) (s 3) (s 4) (s 11) (s 12) (s 13) s.h
theorem y12o : T1 yr8 y3y (y1 1 y3y (y1 0 y2p xN)) [.t 10] y1xq := sq y112 fun _ => by kernel_rfl
def yul (v0 v1 v2 v3 v4 v11 v12 v13 : AV) (h : Heap) : OX :=
cnd v3
 (ob (y2 .add v12 v1) fun v26 =>
(ykg v0 v1 v2 v3 v4 v11 v12 v26 h))
 ((ykg v0 v1 v2 v3 v4 v11 v12 v13 h))
def y1yo (s : St) : OX := yul (s 0) (s 1) (s 2) (s 3) (s 4) (s 11) (s 12) (s 13) s.h
theorem y18e : T1 ysv y3y (y1 1 y3y (y1 0 y2p xN)) [.t 10] y1yo := sq y12o fun _ => by kernel_rfl
def yqw (v0 v1 v2 v3 v4 v11 v12 : AV) (h : Heap) : OX :=
ob (y2 .sub v12 v1) fun v22 =>
(yul v0 v1 v2 v3 v4 v11 v12 v22 h)
def ynr (s : St) : OX := yqw (s 0) (s 1) (s 2) (s 3) (s 4) (s 11) (s 12) s.h
theorem yzf : T1 yty y3y (y1 1 y3y (y1 0 y2p xN)) [.t 10] ynr := sq y18e fun _ => by kernel_rfl
theorem y1dy : T1 ytv y3y (y1 0 y2p xN) [.t 10] ynr := fun s => yl.trans (yzf s)
theorem yy7 : T1 ykn y8d (y1 0 y2p xN) [.t 10] ynr := sq y1gf y1dy
def yec (v0 v1 v2 v3 v4 v11 v12 : AV) (h : Heap) : OX :=
ob (y2 .lss v12 v2) fun v17 =>
cnd v17
 ((yqw v0 v1 v2 v3 v4 v11 v12 h))
 ((yr5 v2 v11 h))
def y1ll (s : St) : OX := yec (s 0) (s 1) (s 2) (s 3) (s 4) (s 11) (s 12) s.h
theorem yxo : T1 yko y8d (y1 0 y2p xN) [.t 10] y1ll := sq yy7 fun _ => by kernel_rfl
theorem yhv (v0 v1 v2 v3 v4 v11 v12 : AV) (h : Heap) : ybs v0 v1 v2 v3 v4 v11 v12 h = (yec v0 v1 v2 v3 v4 v11 v12 h) :=
  y22.trans ((y17 _ _ _ (n' := y8d) (fun s => ygr s)).trans ((yxo _).trans (by kernel_rfl)))
theorem yxr : T1 ym3 y2p xN [.t 10] y8d := fun s => yl.trans (ygr s)
def y1gu (v0 v1 v2 v3 v4 v11 : AV) (h : Heap) : OX :=
(ybs v0 v1 v2 v3 v4 v11 (AV.int .i64 0) h)
def yqo (s : St) : OX := y1gu (s 0) (s 1) (s 2) (s 3) (s 4) (s 11) s.h
theorem yy1 : T1 ym6 y2p xN [.t 10] yqo := sq yxr fun _ => by kernel_rfl
theorem yxp : T0 ylo [.t 10] yqo := sq y1ef yy1
def y1be (v0 v1 v2 v3 v4 : AV) (h : Heap) : OX :=
(y1gu v0 v1 v2 v3 v4 AV.nils h)
def y1kb (s : St) : OX := y1be (s 0) (s 1) (s 2) (s 3) (s 4) s.h
theorem yye : T0 ykm [.t 10] y1kb := sq yxp fun _ => by kernel_rfl
def y13w (v0 v1 v2 v3 v4 : AV) (h : Heap) : OX :=
(y1be v0 v1 v2 v3 v4 h)
def y1mf (s : St) : OX := y13w (s 0) (s 1) (s 2) (s 3) (s 4) s.h
theorem yxi : T0 ykd [.t 10] y1mf := sq yye fun _ => by kernel_rfl
@[simp] theorem y26t : E.pure 141 = true := rfl
theorem y25i (v0 v1 v2 v3 v4 : AV) : (y6 E).p 141 [v0, v1, v2, v3, v4] = y13w v0 v1 v2 v3 v4 [⟨0, .dead⟩, ⟨0, .dead⟩] :=
  (yo (cf := y1ru) (by kernel_rfl) rfl).trans ((yxi _).trans (by kernel_rfl))
def ylu (v3 v9 : AV) (h : Heap) : OX :=
oh (y4 E (y6 E) 0 none true 144 [v9, v3] h) fun v52 h1 =>
(y7 h1 v52)
def y8s (s : St) : OX := ylu (s 3) (s 9) s.h
theorem y1mh : T0 y1ac [.t 8] y8s := fun _ => by kernel_rfl
def y8v (v0 v1 v2 v3 v9 v10 : AV) (h : Heap) : OX :=
  W E 0 yj3 ⟨[(0, v0), (1, v1), (2, v2), (3, v3), (9, v9), (10, v10)], h⟩ y8s (y1 0 y8s xN) (finP [.t 8])
def ybi (s : St) : OX := y8v (s 0) (s 1) (s 2) (s 3) (s 9) (s 10) s.h
theorem yma : T1 yj3 y8s (y1 0 y8s xN) [.t 8] ybi := fun s => yi.trans (by kernel_rfl)
def yms (v0 v1 v2 v3 v9 v10 : AV) (h : Heap) : OX :=
ob (y2 .add v10 (AV.int .i64 1)) fun v17 =>
(y8v v0 v1 v2 v3 v9 v17 h)
def y254 (s : St) : OX := yms (s 0) (s 1) (s 2) (s 3) (s 9) (s 10) s.h
theorem y1k0 : T1 y11d ybi (y1 0 y8s xN) [.t 8] y254 := fun _ => by kernel_rfl
def y1h7 (v0 v1 v2 v3 v9 v10 : AV) (h : Heap) : OX :=
oh (y4 E (y6 E) 0 none true 143 [v1, v10] h) fun v20 h2 =>
oh (y4 E (y6 E) 0 none true 143 [v2, v10] h2) fun v23 h3 =>
ob (y2 .eql v0 (AV.int .i64 0)) fun v33 =>
cnd v33
 (ob (y2 .mul v20 v23) fun v37 =>
oh (y12 0 (some 0) 1 1 [(.int .i64 0)] [(0, v37)] h3) fun v38 h4 =>
oh (y2k 0 (some 1) 1 8 v9 v38 h4) fun v39 h5 =>
(yms v0 v1 v2 v3 v39 v10 h5))
 (ob (y2 .eql v0 (AV.int .i64 1)) fun v41 =>
cnd v41
 (ob (y2 .add v20 v23) fun v45 =>
ob (y2 .add v45 (AV.int .i64 1)) fun v46 =>
ob (y2 .quo v46 (AV.int .i64 2)) fun v47 =>
oh (y12 0 (some 2) 1 1 [(.int .i64 0)] [(0, v47)] h3) fun v48 h6 =>
oh (y2k 0 (some 3) 1 8 v9 v48 h6) fun v49 h7 =>
(yms v0 v1 v2 v3 v49 v10 h7))
 (ob (y2 .add v20 v23) fun v28 =>
ob (y2 .rem v28 (AV.int .i64 2)) fun v29 =>
oh (y12 0 (some 4) 1 1 [(.int .i64 0)] [(0, v29)] h3) fun v30 h8 =>
oh (y2k 0 (some 5) 1 8 v9 v30 h8) fun v31 h9 =>
(yms v0 v1 v2 v3 v31 v10 h9)))
def y21z (s : St) : OX := y1h7 (s 0) (s 1) (s 2) (s 3) (s 9) (s 10) s.h
theorem y1m1 : T1 y13l ybi (y1 0 y8s xN) [.t 8] y21z := sq y1k0 fun _ => by kernel_rfl
def ym7 (v0 v1 v2 v3 v9 v10 : AV) (h : Heap) : OX :=
ob (y2 .lss v10 v3) fun v15 =>
cnd v15
 ((y1h7 v0 v1 v2 v3 v9 v10 h))
 ((ylu v3 v9 h))
def y263 (s : St) : OX := ym7 (s 0) (s 1) (s 2) (s 3) (s 9) (s 10) s.h
theorem y1lz : T1 y1az ybi (y1 0 y8s xN) [.t 8] y263 := sq y1m1 fun _ => by kernel_rfl
theorem y5c (v0 v1 v2 v3 v9 v10 : AV) (h : Heap) : y8v v0 v1 v2 v3 v9 v10 h = (ym7 v0 v1 v2 v3 v9 v10 h) :=
  y22.trans ((y17 _ _ _ (n' := ybi) (fun s => yma s)).trans ((y1lz _).trans (by kernel_rfl)))
theorem y1lw : T1 y19o y8s xN [.t 8] ybi := fun s => yl.trans (yma s)
def y1zp (v0 v1 v2 v3 v9 : AV) (h : Heap) : OX :=
(y8v v0 v1 v2 v3 v9 (AV.int .i64 0) h)
def y1qe (s : St) : OX := y1zp (s 0) (s 1) (s 2) (s 3) (s 9) s.h
theorem y1ka : T1 y1eg y8s xN [.t 8] y1qe := sq y1lw fun _ => by kernel_rfl
theorem y1ia : T0 y1gx [.t 8] y1qe := sq y1mh y1ka
def y208 (v0 v1 v2 v3 : AV) (h : Heap) : OX :=
(y1zp v0 v1 v2 v3 AV.nils h)
def y222 (s : St) : OX := y208 (s 0) (s 1) (s 2) (s 3) s.h
theorem y1ot : T0 y1fm [.t 8] y222 := sq y1ia fun _ => by kernel_rfl
def y1rv (v0 v1 v2 v3 : AV) (h : Heap) : OX :=
(y208 v0 v1 v2 v3 h)
def y1vs (s : St) : OX := y1rv (s 0) (s 1) (s 2) (s 3) s.h
theorem y1c7 : T0 yrd [.t 8] y1vs := sq y1ot fun _ => by kernel_rfl
@[simp] theorem y274 : E.pure 142 = true := rfl
theorem y1x8 (v0 v1 v2 v3 : AV) : (y6 E).p 142 [v0, v1, v2, v3] = y1rv v0 v1 v2 v3 [⟨0, .dead⟩, ⟨0, .dead⟩, ⟨0, .dead⟩, ⟨0, .dead⟩, ⟨0, .dead⟩, ⟨0, .dead⟩] :=
  (yo (cf := y241) (by kernel_rfl) rfl).trans ((y1c7 _).trans (by kernel_rfl))
def yfv (h : Heap) : OX :=
(y7 h (AV.int .i64 0))
def y4j (s : St) : OX := yfv s.h
theorem y1iz : T0 y16s [.t 4] y4j := fun _ => by kernel_rfl
def yex (v1 v5 v16 : AV) (h : Heap) : OX :=
cnd v16
 (ob (y2d .i32 v1) fun v20 =>
ob (y2d .i64 v20) fun v21 =>
(y7 h v21))
 (ob (y2 .eql v5 (AV.int .i64 145)) fun v23 =>
cnd v23
 (ob (y2d .i8 v1) fun v25 =>
ob (y2d .i64 v25) fun v26 =>
(y7 h v26))
 (ob (y2 .eql v5 (AV.int .i64 146)) fun v28 =>
cnd v28
 (ob (y2d .u16 v1) fun v30 =>
ob (y2d .i64 v30) fun v31 =>
(y7 h v31))
 (ob (y2 .eql v5 (AV.int .i64 147)) fun v33 =>
cnd v33
 (ob (y2d .i16 v1) fun v35 =>
ob (y2d .i64 v35) fun v36 =>
(y7 h v36))
 ((yfv h)))))
def y21j (s : St) : OX := yex (s 1) (s 5) (s 16) s.h
theorem y1hl : T1 y16i y4j (y1 0 y4j xN) [.t 4] y21j := fun _ => by kernel_rfl
def yfu (v1 v5 : AV) (h : Heap) : OX :=
ob (y2 .eql v5 (AV.int .i64 133)) fun v17 =>
cnd v17
 ((yex v1 v5 v17 h))
 (ob (y2 .eql v5 (AV.int .i64 136)) fun v18 =>
(yex v1 v5 v18 h))
def y22t (s : St) : OX := yfu (s 1) (s 5) s.h
theorem y1hg : T1 y1fw y4j (y1 0 y4j xN) [.t 4] y22t := sq y1hl fun _ => by kernel_rfl
def yg3 (v1 v5 v12 : AV) (h : Heap) : OX :=
cnd v12
 (ob (evUn .neg v1) fun v15 =>
(y7 h v15))
 ((yfu v1 v5 h))
def y23h (s : St) : OX := yg3 (s 1) (s 5) (s 12) s.h
theorem y1hy : T1 y14h y4j (y1 0 y4j xN) [.t 4] y23h := fun s => (yt rfl (y1hg s)).trans (by kernel_rfl)
def yfm (v1 v5 : AV) (h : Heap) : OX :=
ob (y2 .eql v5 (AV.int .i64 117)) fun v13 =>
(yg3 v1 v5 v13 h)
def y20p (s : St) : OX := yfm (s 1) (s 5) s.h
theorem y1po : T1 y1cx y4j (y1 0 y4j xN) [.t 4] y20p := sq y1hy fun _ => by kernel_rfl
def yfx (v1 v5 v6 : AV) (h : Heap) : OX :=
cnd v6
 (ob (y2d .i32 v1) fun v9 =>
ob (evUn .neg v9) fun v10 =>
ob (y2d .i64 v10) fun v11 =>
(y7 h v11))
 ((yfm v1 v5 h))
def y22k (s : St) : OX := yfx (s 1) (s 5) (s 6) s.h
theorem y1j7 : T1 y137 y4j (y1 0 y4j xN) [.t 4] y22k := fun s => (yt rfl (y1po s)).trans (by kernel_rfl)
def yfq (v1 v5 : AV) (h : Heap) : OX :=
ob (y2 .eql v5 (AV.int .i64 116)) fun v7 =>
(yfx v1 v5 v7 h)
def y1q1 (s : St) : OX := yfq (s 1) (s 5) s.h
theorem y1nv : T1 y1ey y4j (y1 0 y4j xN) [.t 4] y1q1 := sq y1j7 fun _ => by kernel_rfl
theorem y1o4 : T1 y0j y4j xN [.t 4] y1q1 := fun s => yl.trans (y1nv s)
def yg4 (v0 v1 : AV) (h : Heap) : OX :=
(yfq v1 v0 h)
def y1qv (s : St) : OX := yg4 (s 0) (s 1) s.h
theorem y1oe : T1 y13n y4j xN [.t 4] y1qv := sq y1o4 fun _ => by kernel_rfl
theorem y1fx : T0 yw0 [.t 4] y1qv := sq y1iz y1oe
def y93 (v0 v1 : AV) (h : Heap) : OX :=
(yg4 v0 v1 h)
def y1t7 (s : St) : OX := y93 (s 0) (s 1) s.h
theorem y18y : T0 ywo [.t 4] y1t7 := sq y1fx fun _ => by kernel_rfl
@[simp] theorem y27m : E.pure 127 = true := rfl
theorem y2a4 (v0 v1 : AV) : (y6 E).p 127 [v0, v1] = y93 v0 v1 [] :=
  (yo (cf := y23g) (by kernel_rfl) rfl).trans ((y18y _).trans (by kernel_rfl))
def yml (v0 v1 v2 : AV) (h : Heap) : OX :=
oh (y4 E (y6 E) 0 none true 131 [v0, v1, v2] h) fun v32 h1 =>
(y7 h1 v32)
def y8t (s : St) : OX := yml (s 0) (s 1) (s 2) s.h
theorem y1lj : T0 y1do [.t 6] y8t := fun _ => by kernel_rfl
def ymn (h : Heap) : OX :=
(y7 h (AV.int .i64 0))
def y224 (s : St) : OX := ymn s.h
theorem y1pc : T1 y13q y8t (y1 0 y8t xN) [.t 6] y224 := fun _ => by kernel_rfl
def ynk (v1 v2 : AV) (h : Heap) : OX :=
ob (y2 .lss v1 v2) fun v13 =>
cnd v13
 ((y7 h (AV.int .i64 (-1))))
 (ob (y2 .gtr v1 v2) fun v17 =>
cnd v17
 ((y7 h (AV.int .i64 1)))
 ((ymn h)))
def y26i (s : St) : OX := ynk (s 1) (s 2) s.h
theorem y1np : T1 y1c3 y8t (y1 0 y8t xN) [.t 6] y26i := sq y1pc fun _ => by kernel_rfl
def ynv (v0 v1 v2 v7 : AV) (h : Heap) : OX :=
cnd v7
 ((ynk v1 v2 h))
 (ob (y2 .and v0 (AV.int .i64 1)) fun v20 =>
ob (y2 .eql v20 (AV.int .i64 0)) fun v21 =>
cnd v21
 (ob (y2d .i32 v1) fun v24 =>
ob (y2d .i32 v2) fun v26 =>
oh (y4 E (y6 E) 0 none true 130 [v0, v24, v26] h) fun v27 h2 =>
ob (y2d .i64 v27) fun v28 =>
(y7 h2 v28))
 ((yml v0 v1 v2 h)))
def y20f (s : St) : OX := ynv (s 0) (s 1) (s 2) (s 7) s.h
theorem y1na : T1 y1af y8t (y1 0 y8t xN) [.t 6] y20f := fun s => (yt (y1np s) rfl).trans (by kernel_rfl)
def ymm (v0 v1 v2 : AV) (h : Heap) : OX :=
ob (y2 .eql v0 (AV.int .i64 148)) fun v9 =>
(ynv v0 v1 v2 v9 h)
def y15u (s : St) : OX := ymm (s 0) (s 1) (s 2) s.h
theorem y1oj : T1 y17j y8t (y1 0 y8t xN) [.t 6] y15u := sq y1na fun _ => by kernel_rfl
theorem y1ja : T1 y1di y8t xN [.t 6] y15u := fun s => yl.trans (y1oj s)
theorem y1hh : T0 y173 [.t 6] y15u := sq y1lj y1ja
def yo2 (v0 v1 v2 : AV) (h : Heap) : OX :=
(ymm v0 v1 v2 h)
def y21t (s : St) : OX := yo2 (s 0) (s 1) (s 2) s.h
theorem y1k8 : T0 y1b1 [.t 6] y21t := sq y1hh fun _ => by kernel_rfl
@[simp] theorem y278 : E.pure 128 = true := rfl
theorem y282 (v0 v1 v2 : AV) : (y6 E).p 128 [v0, v1, v2] = yo2 v0 v1 v2 [] :=
  (yo (cf := y20m) (by kernel_rfl) rfl).trans ((y1k8 _).trans (by kernel_rfl))
def yjb (h : Heap) : OX :=
(y7 h (AV.bool false))
def y20e (s : St) : OX := yjb s.h
theorem y1lo : T0 y141 [.t 6] y20e := fun _ => by kernel_rfl
def yit (v0 v1 v2 : AV) (h : Heap) : OX :=
ob (y2 .eql v0 (AV.int .i64 0)) fun v9 =>
cnd v9
 (ob (y2 .eql v1 v2) fun v12 =>
(y7 h v12))
 (ob (y2 .eql v0 (AV.int .i64 1)) fun v14 =>
cnd v14
 (ob (y2 .neq v1 v2) fun v17 =>
(y7 h v17))
 (ob (y2 .eql v0 (AV.int .i64 2)) fun v19 =>
cnd v19
 (ob (y2 .lss v1 v2) fun v22 =>
(y7 h v22))
 (ob (y2 .eql v0 (AV.int .i64 3)) fun v24 =>
cnd v24
 (ob (y2 .geq v1 v2) fun v27 =>
(y7 h v27))
 (ob (y2 .eql v0 (AV.int .i64 4)) fun v29 =>
cnd v29
 (ob (y2 .gtr v1 v2) fun v32 =>
(y7 h v32))
 (ob (y2 .eql v0 (AV.int .i64 5)) fun v34 =>
cnd v34
 (ob (y2 .leq v1 v2) fun v37 =>
(y7 h v37))
 ((yjb h)))))))
def y24g (s : St) : OX := yit (s 0) (s 1) (s 2) s.h
theorem y1p7 : T0 y1cj [.t 6] y24g := sq y1lo fun _ => by kernel_rfl
def yie (v0 v1 v2 : AV) (h : Heap) : OX :=
(yit v0 v1 v2 h)
def y26b (s : St) : OX := yie (s 0) (s 1) (s 2) s.h
theorem y1m4 : T0 y167 [.t 6] y26b := sq y1p7 fun _ => by kernel_rfl
@[simp] theorem y26l : E.pure 129 = true := rfl
theorem y29r (v0 v1 v2 : AV) : (y6 E).p 129 [v0, v1, v2] = yie v0 v1 v2 [] :=
  (yo (cf := y23m) (by kernel_rfl) rfl).trans ((y1m4 _).trans (by kernel_rfl))
end
end Go.Vm
