/- Functions of the machine as plain functions that go on with what follows. -/
import Derived.Test.YtgbajicpokolcaaCEnv
set_option linter.unusedSimpArgs false
set_option linter.unusedVariables false
set_option linter.unusedSectionVars false
namespace Go.Vm
noncomputable section
@[simp] theorem y2cv : E.pure 64 = true := rfl
def y14d (v0 : AV) (h : Heap) : OX :=
oh (yp 0 (some 0) 1 3 [(.int .i64 0)] [(0, (AV.int .i64 27)), (1, (AV.int .i64 28)), (2, (AV.int .i64 29))] h) fun v4 h1 =>
oh (y6 E (y8 E) 0 none true 42 [v0, v4] h1) fun v5 h2 =>
(yf h2 v5)
def y1vy (s : St) : OX := y14d (s 0) s.h
theorem y16t : T0 yu0 [.t 2] y1vy := fun _ => by kernel_rfl
@[simp] theorem y2az : E.pure 23 = true := rfl
theorem y276 (v0 : AV) : (y8 E).p 23 [v0] = y14d v0 [⟨0, .dead⟩] :=
  (y10 (cf := y1ui) (by kernel_rfl) rfl).trans ((y16t _).trans (by kernel_rfl))
def y17e (v0 v1 : AV) (h : Heap) : OX :=
oh (newC 0 (some 0) (cellsOf v0) h) fun v2 h1 =>
ob (y5 .geq v1 (AV.int .i64 0)) fun v6 =>
gb v6 true (some v1) fun v8 =>
gb v6 true (evFa 3 v2) fun v9 =>
gb v6 true (evLd false 1 v9 h1) fun v10 =>
gb v6 true (y14 1 v10 h1) fun v11 =>
gb v6 true (y5 .lss v8 v11) fun v12 =>
ob (ye v6 v12 (AV.bool false)) fun v13 =>
(yf h1 v13)
def y232 (s : St) : OX := y17e (s 0) (s 1) s.h
theorem y1e8 : T0 yrj [.t 4] y232 := fun _ => by kernel_rfl
@[simp] theorem y2cp : E.pure 49 = true := rfl
theorem y23x (v0 v1 : AV) : (y8 E).p 49 [v0, v1] = y17e v0 v1 [⟨0, .dead⟩] :=
  (y10 (cf := y1uu) (by kernel_rfl) rfl).trans ((y1e8 _).trans (by kernel_rfl))
def y1wt (v0 : AV) (h : Heap) : OX :=
oh (newC 0 (some 0) (cellsOf v0) h) fun v1 h1 =>
ob (evFa 0 v1) fun v3 =>
ob (evLd false 1 v3 h1) fun v4 =>
ob (y5 .geq v4 (AV.int .i64 23)) fun v5 =>
gb v5 true (evFa 0 v1) fun v7 =>
gb v5 true (evLd false 1 v7 h1) fun v8 =>
gb v5 true (y5 .leq v8 (AV.int .i64 26)) fun v9 =>
ob (ye v5 v9 (AV.bool false)) fun v10 =>
(yf h1 v10)
def y27n (s : St) : OX := y1wt (s 0) s.h
theorem y1t7 : T0 y1kv [.t 2] y27n := fun _ => by kernel_rfl
@[simp] theorem yob : E.pure 17 = true := rfl
theorem y2ar (v0 : AV) : (y8 E).p 17 [v0] = y1wt v0 [⟨0, .dead⟩] :=
  (y10 (cf := y29m) (by kernel_rfl) rfl).trans ((y1t7 _).trans (by kernel_rfl))
def yhm (h : Heap) : OX :=
(yf h (AV.int .i64 (-1)))
def y4y (s : St) : OX := yhm s.h
theorem y1ed : T0 yt1 [.t 4] y4y := fun _ => by kernel_rfl
def ydu (v0 v1 v7 v8 : AV) (h : Heap) : OX :=
  W E 0 yf4 ⟨[(0, v0), (1, v1), (7, v7), (8, v8)], h⟩ y4y (y4 0 y4y xN) (finP [.t 4])
def y6k (s : St) : OX := ydu (s 0) (s 1) (s 7) (s 8) s.h
theorem yii : T1 yf4 y4y (y4 0 y4y xN) [.t 4] y6k := fun s => yk.trans (by kernel_rfl)
def yil (v0 v1 v7 v8 : AV) (h : Heap) : OX :=
ob (y5 .add v8 (AV.int .i64 1)) fun v18 =>
(ydu v0 v1 v7 v18 h)
def y214 (s : St) : OX := yil (s 0) (s 1) (s 7) (s 8) s.h
theorem y1cu : T1 ysk y6k (y4 0 y4y xN) [.t 4] y214 := fun _ => by kernel_rfl
def yir (v0 v1 v7 v8 : AV) (h : Heap) : OX :=
ob (yv 1 v0 v8) fun v14 =>
ob (evLd false 1 v14 h) fun v15 =>
ob (y5 .eql v1 v15) fun v16 =>
cnd v16
 ((yf h v8))
 ((yil v0 v1 v7 v8 h))
def y21z (s : St) : OX := yir (s 0) (s 1) (s 7) (s 8) s.h
theorem y146 : T1 yuq y6k (y4 0 y4y xN) [.t 4] y21z := sq y1cu fun _ => by kernel_rfl
def yh7 (v0 v1 v7 v8 v9 : AV) (h : Heap) : OX :=
cnd v9
 ((yir v0 v1 v7 v8 h))
 ((yhm h))
def y1xf (s : St) : OX := yh7 (s 0) (s 1) (s 7) (s 8) (s 9) s.h
theorem y12f : T1 yt5 y6k (y4 0 y4y xN) [.t 4] y1xf := sq y146 fun _ => by kernel_rfl
def yj7 (v0 v1 v7 v8 : AV) (h : Heap) : OX :=
ob (y5 .lss v8 v7) fun v9 =>
(yh7 v0 v1 v7 v8 v9 h)
def y1x5 (s : St) : OX := yj7 (s 0) (s 1) (s 7) (s 8) s.h
theorem y1ds : T1 yts y6k (y4 0 y4y xN) [.t 4] y1x5 := sq y12f fun _ => by kernel_rfl
theorem yij (v0 v1 v7 v8 : AV) (h : Heap) : ydu v0 v1 v7 v8 h = (yj7 v0 v1 v7 v8 h) :=
  y1w.trans ((y1b _ _ _ (n' := y6k) (fun s => yii s)).trans ((y1ds _).trans (by kernel_rfl)))
theorem y1gx : T1 yw9 y4y xN [.t 4] y6k := fun s => yw.trans (yii s)
def yi2 (v0 v1 : AV) (h : Heap) : OX :=
ob (y14 1 v0 h) fun v7 =>
(ydu v0 v1 v7 (AV.int .i64 0) h)
def y1ie (s : St) : OX := yi2 (s 0) (s 1) s.h
theorem y1h4 : T1 yru y4y xN [.t 4] y1ie := sq y1gx fun _ => by kernel_rfl
theorem y1a7 : T0 yrs [.t 4] y1ie := sq y1ed y1h4
def ycj (v0 v1 : AV) (h : Heap) : OX :=
(yi2 v0 v1 h)
def y1pr (s : St) : OX := ycj (s 0) (s 1) s.h
theorem y03 : T0 yla [.t 4] y1pr := sq y1a7 fun _ => by kernel_rfl
@[simp] theorem y2bt : E.pure 45 = true := rfl
theorem y282 (v0 v1 : AV) : (y8 E).p 45 [v0, v1] = ycj v0 v1 [] :=
  (y10 (cf := y1u0) (by kernel_rfl) rfl).trans ((y03 _).trans (by kernel_rfl))
def ydd (v1 v2 : AV) (h : Heap) : OX :=
ob (evLd true 9 v1 h) fun v138 =>
oh (y6 E (y8 E) 0 none true 51 [v138] h) fun v139 h1 =>
ob (ybv 0 v139) fun v140 =>
ob (ybv 1 v139) fun v141 =>
oh (evSt 4 v2 v140 h1) fun _ h2 =>
(ob (evLd true 4 v2 h2) fun r0 =>
  yf h2 (.tup [r0, v141]))
def yg (s : St) : OX := ydd (s 1) (s 2) s.h
theorem y1r4 : T0 y195 [.cell 2 true 4, .t 3] yg := fun _ => by kernel_rfl
def yc4 (v1 v2 v134 : AV) (h : Heap) : OX :=
cnd v134
 (ob (yu [(.int .i64 0), (.int .i64 0), (.int .i64 0), (.int .i64 0)] [(0, 1, (AV.int .i64 (-1))), (1, 1, (AV.int .i64 (-1))), (2, 1, (AV.int .i64 (-1))), (3, 1, (AV.int .i64 (-1)))]) fun v137 =>
oh (evSt 4 v2 v137 h) fun _ h3 =>
(ob (evLd true 4 v2 h3) fun r0 =>
  yf h3 (.tup [r0, (AV.bool true)])))
 ((ydd v1 v2 h))
def y27y (s : St) : OX := yc4 (s 1) (s 2) (s 134) s.h
theorem y1si : T1 y1l4 yg (y4 0 yg xN) [.cell 2 true 4, .t 3] y27y := fun _ => by kernel_rfl
def ydg (v1 v2 v11 : AV) (h : Heap) : OX :=
ob (y5 .eql v11 (AV.int .i64 27)) fun v135 =>
cnd v135
 ((yc4 v1 v2 v135 h))
 (ob (y5 .eql v11 (AV.int .i64 33)) fun v136 =>
(yc4 v1 v2 v136 h))
def y27o (s : St) : OX := ydg (s 1) (s 2) (s 11) s.h
theorem y1p0 : T1 y1il yg (y4 0 yg xN) [.cell 2 true 4, .t 3] y27o := sq y1si fun _ => by kernel_rfl
def ydf (v1 v2 v11 v123 : AV) (h : Heap) : OX :=
cnd v123
 (ob (yu [(.int .i64 0), (.int .i64 0), (.int .i64 0), (.int .i64 0)] [(0, 1, (AV.int .i64 (-1))), (1, 1, (AV.int .i64 1)), (2, 1, (AV.int .i64 1)), (3, 1, (AV.int .i64 (-1)))]) fun v125 =>
ob (evFa 5 v1) fun v126 =>
ob (evLd false 1 v126 h) fun v127 =>
ob (y5 .geq v127 (AV.int .i64 0)) fun v128 =>
ofp (fgd v128 true (some ([], []))) fun f5 =>
gb v128 true (evFa 5 v1) fun v130 =>
ofp (fgd v128 true (some (ids1 v130, []))) fun f6 =>
gb v128 true (evLd false 1 v130 h) fun v131 =>
ofp (fgd v128 true (some ([], []))) fun f7 =>
gb v128 true (y5 .leq v131 (AV.int .i64 5)) fun v132 =>
ob (ye v128 v132 (AV.bool false)) fun v133 =>
oh (evSt 4 v2 v125 h) fun _ h4 =>
okK (y12 [([], []), ([], []), (ids1 v126, []), ([], []), ([], []), f5, f6, f7, ([], []), ([], ids1 v2), ([], [])] [(6, 9)]) <|
(ob (evLd true 4 v2 h4) fun r0 =>
  yf h4 (.tup [r0, v133])))
 ((ydg v1 v2 v11 h))
def y29p (s : St) : OX := ydf (s 1) (s 2) (s 11) (s 123) s.h
theorem y1md : T1 y1k9 yg (y4 0 yg xN) [.cell 2 true 4, .t 3] y29p := fun s => (y1k rfl (y1p0 s)).trans (by kernel_rfl)
def ydi (v1 v2 v11 : AV) (h : Heap) : OX :=
ob (y5 .eql v11 (AV.int .i64 28)) fun v124 =>
(ydf v1 v2 v11 v124 h)
def y270 (s : St) : OX := ydi (s 1) (s 2) (s 11) s.h
theorem y1oy : T1 y1ix yg (y4 0 yg xN) [.cell 2 true 4, .t 3] y270 := sq y1md fun _ => by kernel_rfl
def ydc (v1 v2 v11 v117 : AV) (h : Heap) : OX :=
cnd v117
 (ob (yu [(.int .i64 0), (.int .i64 0), (.int .i64 0), (.int .i64 0)] [(0, 1, (AV.int .i64 3)), (1, 1, (AV.int .i64 1)), (2, 1, (AV.int .i64 (-1))), (3, 1, (AV.int .i64 (-1)))]) fun v119 =>
ob (evFa 7 v1) fun v120 =>
ob (evLd false 1 v120 h) fun v121 =>
oh (y6 E (y8 E) 0 none true 37 [v121] h) fun v122 h5 =>
oh (evSt 4 v2 v119 h5) fun _ h6 =>
(ob (evLd true 4 v2 h6) fun r0 =>
  yf h6 (.tup [r0, v122])))
 ((ydi v1 v2 v11 h))
def y28c (s : St) : OX := ydc (s 1) (s 2) (s 11) (s 117) s.h
theorem y1qt : T1 y1a1 yg (y4 0 yg xN) [.cell 2 true 4, .t 3] y28c := fun s => (y1k rfl (y1oy s)).trans (by kernel_rfl)
def ydh (v1 v2 v11 : AV) (h : Heap) : OX :=
ob (y5 .eql v11 (AV.int .i64 21)) fun v118 =>
(ydc v1 v2 v11 v118 h)
def y27q (s : St) : OX := ydh (s 1) (s 2) (s 11) s.h
theorem y1rj : T1 y191 yg (y4 0 yg xN) [.cell 2 true 4, .t 3] y27q := sq y1qt fun _ => by kernel_rfl
def yde (v1 v2 v11 v114 : AV) (h : Heap) : OX :=
cnd v114
 (ob (yu [(.int .i64 0), (.int .i64 0), (.int .i64 0), (.int .i64 0)] [(0, 1, (AV.int .i64 (-1))), (1, 1, (AV.int .i64 0)), (2, 1, (AV.int .i64 (-1))), (3, 1, (AV.int .i64 (-1)))]) fun v116 =>
oh (evSt 4 v2 v116 h) fun _ h7 =>
(ob (evLd true 4 v2 h7) fun r0 =>
  yf h7 (.tup [r0, (AV.bool true)])))
 ((ydh v1 v2 v11 h))
def y296 (s : St) : OX := yde (s 1) (s 2) (s 11) (s 114) s.h
theorem y1n7 : T1 y1i5 yg (y4 0 yg xN) [.cell 2 true 4, .t 3] y296 := fun s => (y1k rfl (y1rj s)).trans (by kernel_rfl)
def ydb (v1 v2 v11 : AV) (h : Heap) : OX :=
ob (y5 .eql v11 (AV.int .i64 19)) fun v115 =>
(yde v1 v2 v11 v115 h)
def y298 (s : St) : OX := ydb (s 1) (s 2) (s 11) s.h
theorem y1qo : T1 y1l2 yg (y4 0 yg xN) [.cell 2 true 4, .t 3] y298 := sq y1n7 fun _ => by kernel_rfl
def y6r (v1 v2 v11 v108 : AV) (h : Heap) : OX :=
cnd v108
 (ob (yu [(.int .i64 0), (.int .i64 0), (.int .i64 0), (.int .i64 0)] [(0, 1, (AV.int .i64 (-1))), (1, 1, (AV.int .i64 3)), (2, 1, (AV.int .i64 0)), (3, 1, (AV.int .i64 (-1)))]) fun v110 =>
ob (evFa 5 v1) fun v111 =>
ob (evLd false 1 v111 h) fun v112 =>
ob (y5 .geq v112 (AV.int .i64 0)) fun v113 =>
oh (evSt 4 v2 v110 h) fun _ h8 =>
okK (y12 [([], []), ([], []), (ids1 v111, []), ([], []), ([], ids1 v2), ([], [])] [(2, 4)]) <|
(ob (evLd true 4 v2 h8) fun r0 =>
  yf h8 (.tup [r0, v113])))
 ((ydb v1 v2 v11 h))
def y1ys (s : St) : OX := y6r (s 1) (s 2) (s 11) (s 108) s.h
theorem y17y : T1 yud yg (y4 0 yg xN) [.cell 2 true 4, .t 3] y1ys := fun s => (y1k rfl (y1qo s)).trans (by kernel_rfl)
def y7m (v1 v2 v11 : AV) (h : Heap) : OX :=
ob (y5 .eql v11 (AV.int .i64 17)) fun v109 =>
(y6r v1 v2 v11 v109 h)
def y20g (s : St) : OX := y7m (s 1) (s 2) (s 11) s.h
theorem y15o : T1 ywm yg (y4 0 yg xN) [.cell 2 true 4, .t 3] y20g := sq y17y fun _ => by kernel_rfl
def y7k (v1 v2 v11 v102 : AV) (h : Heap) : OX :=
cnd v102
 (ob (yu [(.int .i64 0), (.int .i64 0), (.int .i64 0), (.int .i64 0)] [(0, 1, (AV.int .i64 0)), (1, 1, (AV.int .i64 3)), (2, 1, (AV.int .i64 (-1))), (3, 1, (AV.int .i64 (-1)))]) fun v104 =>
ob (evFa 5 v1) fun v105 =>
ob (evLd false 1 v105 h) fun v106 =>
ob (y5 .geq v106 (AV.int .i64 0)) fun v107 =>
oh (evSt 4 v2 v104 h) fun _ h9 =>
okK (y12 [([], []), ([], []), (ids1 v105, []), ([], []), ([], ids1 v2), ([], [])] [(2, 4)]) <|
(ob (evLd true 4 v2 h9) fun r0 =>
  yf h9 (.tup [r0, v107])))
 ((y7m v1 v2 v11 h))
def y1yd (s : St) : OX := y7k (s 1) (s 2) (s 11) (s 102) s.h
theorem y1gn : T1 yyg yg (y4 0 yg xN) [.cell 2 true 4, .t 3] y1yd := fun s => (y1k rfl (y15o s)).trans (by kernel_rfl)
def y71 (v1 v2 v11 : AV) (h : Heap) : OX :=
ob (y5 .eql v11 (AV.int .i64 16)) fun v103 =>
(y7k v1 v2 v11 v103 h)
def y1yf (s : St) : OX := y71 (s 1) (s 2) (s 11) s.h
theorem y1eu : T1 yz2 yg (y4 0 yg xN) [.cell 2 true 4, .t 3] y1yf := sq y1gn fun _ => by kernel_rfl
def y6x (v1 v2 v11 v99 : AV) (h : Heap) : OX :=
cnd v99
 (ob (yu [(.int .i64 0), (.int .i64 0), (.int .i64 0), (.int .i64 0)] [(0, 1, (AV.int .i64 1)), (1, 1, (AV.int .i64 3)), (2, 1, (AV.int .i64 (-1))), (3, 1, (AV.int .i64 (-1)))]) fun v101 =>
oh (evSt 4 v2 v101 h) fun _ h10 =>
(ob (evLd true 4 v2 h10) fun r0 =>
  yf h10 (.tup [r0, (AV.bool true)])))
 ((y71 v1 v2 v11 h))
def y1x1 (s : St) : OX := y6x (s 1) (s 2) (s 11) (s 99) s.h
theorem y1bz : T1 yww yg (y4 0 yg xN) [.cell 2 true 4, .t 3] y1x1 := fun s => (y1k rfl (y1eu s)).trans (by kernel_rfl)
def y7c (v1 v2 v11 : AV) (h : Heap) : OX :=
ob (y5 .eql v11 (AV.int .i64 15)) fun v100 =>
(y6x v1 v2 v11 v100 h)
def y1xg (s : St) : OX := y7c (s 1) (s 2) (s 11) s.h
theorem y165 : T1 yv0 yg (y4 0 yg xN) [.cell 2 true 4, .t 3] y1xg := sq y1bz fun _ => by kernel_rfl
def y7a (v1 v2 v11 v96 : AV) (h : Heap) : OX :=
cnd v96
 (ob (yu [(.int .i64 0), (.int .i64 0), (.int .i64 0), (.int .i64 0)] [(0, 1, (AV.int .i64 (-1))), (1, 1, (AV.int .i64 3)), (2, 1, (AV.int .i64 1)), (3, 1, (AV.int .i64 0))]) fun v98 =>
oh (evSt 4 v2 v98 h) fun _ h11 =>
(ob (evLd true 4 v2 h11) fun r0 =>
  yf h11 (.tup [r0, (AV.bool true)])))
 ((y7c v1 v2 v11 h))
def y1vi (s : St) : OX := y7a (s 1) (s 2) (s 11) (s 96) s.h
theorem y16k : T1 yuk yg (y4 0 yg xN) [.cell 2 true 4, .t 3] y1vi := fun s => (y1k rfl (y165 s)).trans (by kernel_rfl)
def y72 (v1 v2 v11 : AV) (h : Heap) : OX :=
ob (y5 .eql v11 (AV.int .i64 14)) fun v97 =>
(y7a v1 v2 v11 v97 h)
def y20q (s : St) : OX := y72 (s 1) (s 2) (s 11) s.h
theorem y1ge : T1 yse yg (y4 0 yg xN) [.cell 2 true 4, .t 3] y20q := sq y16k fun _ => by kernel_rfl
def y6w (v1 v2 v11 v93 : AV) (h : Heap) : OX :=
cnd v93
 (ob (yu [(.int .i64 0), (.int .i64 0), (.int .i64 0), (.int .i64 0)] [(0, 1, (AV.int .i64 0)), (1, 1, (AV.int .i64 3)), (2, 1, (AV.int .i64 1)), (3, 1, (AV.int .i64 (-1)))]) fun v95 =>
oh (evSt 4 v2 v95 h) fun _ h12 =>
(ob (evLd true 4 v2 h12) fun r0 =>
  yf h12 (.tup [r0, (AV.bool true)])))
 ((y72 v1 v2 v11 h))
def y1y2 (s : St) : OX := y6w (s 1) (s 2) (s 11) (s 93) s.h
theorem y17v : T1 yzj yg (y4 0 yg xN) [.cell 2 true 4, .t 3] y1y2 := fun s => (y1k rfl (y1ge s)).trans (by kernel_rfl)
def y78 (v1 v2 v11 : AV) (h : Heap) : OX :=
ob (y5 .eql v11 (AV.int .i64 13)) fun v94 =>
(y6w v1 v2 v11 v94 h)
def y22p (s : St) : OX := y78 (s 1) (s 2) (s 11) s.h
theorem y1iu : T1 yug yg (y4 0 yg xN) [.cell 2 true 4, .t 3] y22p := sq y17v fun _ => by kernel_rfl
def y73 (v1 v2 v11 v90 : AV) (h : Heap) : OX :=
cnd v90
 (ob (yu [(.int .i64 0), (.int .i64 0), (.int .i64 0), (.int .i64 0)] [(0, 1, (AV.int .i64 (-1))), (1, 1, (AV.int .i64 3)), (2, 1, (AV.int .i64 3)), (3, 1, (AV.int .i64 (-1)))]) fun v92 =>
oh (evSt 4 v2 v92 h) fun _ h13 =>
(ob (evLd true 4 v2 h13) fun r0 =>
  yf h13 (.tup [r0, (AV.bool true)])))
 ((y78 v1 v2 v11 h))
def y21b (s : St) : OX := y73 (s 1) (s 2) (s 11) (s 90) s.h
theorem y1k5 : T1 ys6 yg (y4 0 yg xN) [.cell 2 true 4, .t 3] y21b := fun s => (y1k rfl (y1iu s)).trans (by kernel_rfl)
def y7q (v1 v2 v11 : AV) (h : Heap) : OX :=
ob (y5 .eql v11 (AV.int .i64 11)) fun v91 =>
(y73 v1 v2 v11 v91 h)
def y1ye (s : St) : OX := y7q (s 1) (s 2) (s 11) s.h
theorem y12c : T1 ywf yg (y4 0 yg xN) [.cell 2 true 4, .t 3] y1ye := sq y1k5 fun _ => by kernel_rfl
def y7i (v1 v2 v11 v87 : AV) (h : Heap) : OX :=
cnd v87
 (ob (yu [(.int .i64 0), (.int .i64 0), (.int .i64 0), (.int .i64 0)] [(0, 1, (AV.int .i64 (-1))), (1, 1, (AV.int .i64 1)), (2, 1, (AV.int .i64 (-1))), (3, 1, (AV.int .i64 (-1)))]) fun v89 =>
oh (evSt 4 v2 v89 h) fun _ h14 =>
(ob (evLd true 4 v2 h14) fun r0 =>
  yf h14 (.tup [r0, (AV.bool true)])))
 ((y7q v1 v2 v11 h))
def y1zh (s : St) : OX := y7i (s 1) (s 2) (s 11) (s 87) s.h
theorem y1ic : T1 yub yg (y4 0 yg xN) [.cell 2 true 4, .t 3] y1zh := fun s => (y1k rfl (y12c s)).trans (by kernel_rfl)
def y7e (v1 v2 v11 : AV) (h : Heap) : OX :=
ob (y5 .eql v11 (AV.int .i64 10)) fun v88 =>
(y7i v1 v2 v11 v88 h)
def y22h (s : St) : OX := y7e (s 1) (s 2) (s 11) s.h
theorem y1fw : T1 yv5 yg (y4 0 yg xN) [.cell 2 true 4, .t 3] y22h := sq y1ic fun _ => by kernel_rfl
def y77 (v1 v2 v11 v84 : AV) (h : Heap) : OX :=
cnd v84
 (ob (yu [(.int .i64 0), (.int .i64 0), (.int .i64 0), (.int .i64 0)] [(0, 1, (AV.int .i64 (-1))), (1, 1, (AV.int .i64 3)), (2, 1, (AV.int .i64 1)), (3, 1, (AV.int .i64 (-1)))]) fun v86 =>
oh (evSt 4 v2 v86 h) fun _ h15 =>
(ob (evLd true 4 v2 h15) fun r0 =>
  yf h15 (.tup [r0, (AV.bool true)])))
 ((y7e v1 v2 v11 h))
def y21y (s : St) : OX := y77 (s 1) (s 2) (s 11) (s 84) s.h
theorem y1iz : T1 yun yg (y4 0 yg xN) [.cell 2 true 4, .t 3] y21y := fun s => (y1k rfl (y1fw s)).trans (by kernel_rfl)
def y6u (v1 v2 v11 : AV) (h : Heap) : OX :=
ob (y5 .eql v11 (AV.int .i64 9)) fun v85 =>
(y77 v1 v2 v11 v85 h)
def y209 (s : St) : OX := y6u (s 1) (s 2) (s 11) s.h
theorem y1ct : T1 yqo yg (y4 0 yg xN) [.cell 2 true 4, .t 3] y209 := sq y1iz fun _ => by kernel_rfl
def y7d (v1 v2 v11 v78 : AV) (h : Heap) : OX :=
cnd v78
 (ob (yu [(.int .i64 0), (.int .i64 0), (.int .i64 0), (.int .i64 0)] [(0, 1, (AV.int .i64 1)), (1, 1, (AV.int .i64 3)), (2, 1, (AV.int .i64 (-1))), (3, 1, (AV.int .i64 (-1)))]) fun v80 =>
ob (evFa 7 v1) fun v81 =>
ob (evLd false 1 v81 h) fun v82 =>
oh (y6 E (y8 E) 0 none true 37 [v82] h) fun v83 h16 =>
oh (evSt 4 v2 v80 h16) fun _ h17 =>
(ob (evLd true 4 v2 h17) fun r0 =>
  yf h17 (.tup [r0, v83])))
 ((y6u v1 v2 v11 h))
def y1vq (s : St) : OX := y7d (s 1) (s 2) (s 11) (s 78) s.h
theorem y18y : T1 yyv yg (y4 0 yg xN) [.cell 2 true 4, .t 3] y1vq := fun s => (y1k rfl (y1ct s)).trans (by kernel_rfl)
def y7g (v1 v2 v11 : AV) (h : Heap) : OX :=
ob (y5 .eql v11 (AV.int .i64 22)) fun v79 =>
(y7d v1 v2 v11 v79 h)
def y1za (s : St) : OX := y7g (s 1) (s 2) (s 11) s.h
theorem y1j5 : T1 yq7 yg (y4 0 yg xN) [.cell 2 true 4, .t 3] y1za := sq y18y fun _ => by kernel_rfl
def y7o (v1 v2 v11 v72 : AV) (h : Heap) : OX :=
cnd v72
 (ob (yu [(.int .i64 0), (.int .i64 0), (.int .i64 0), (.int .i64 0)] [(0, 1, (AV.int .i64 (-1))), (1, 1, (AV.int .i64 3)), (2, 1, (AV.int .i64 (-1))), (3, 1, (AV.int .i64 (-1)))]) fun v74 =>
ob (evFa 7 v1) fun v75 =>
ob (evLd false 1 v75 h) fun v76 =>
oh (y6 E (y8 E) 0 none true 37 [v76] h) fun v77 h18 =>
oh (evSt 4 v2 v74 h18) fun _ h19 =>
(ob (evLd true 4 v2 h19) fun r0 =>
  yf h19 (.tup [r0, v77])))
 ((y7g v1 v2 v11 h))
def y1y4 (s : St) : OX := y7o (s 1) (s 2) (s 11) (s 72) s.h
theorem y1dy : T1 ytj yg (y4 0 yg xN) [.cell 2 true 4, .t 3] y1y4 := fun s => (y1k rfl (y1j5 s)).trans (by kernel_rfl)
def y7p (v1 v2 v11 : AV) (h : Heap) : OX :=
ob (y5 .eql v11 (AV.int .i64 12)) fun v73 =>
(y7o v1 v2 v11 v73 h)
def y236 (s : St) : OX := y7p (s 1) (s 2) (s 11) s.h
theorem y1cm : T1 yve yg (y4 0 yg xN) [.cell 2 true 4, .t 3] y236 := sq y1dy fun _ => by kernel_rfl
def y5v (v1 v2 v11 v68 : AV) (h : Heap) : OX :=
cnd v68
 (ob (yu [(.int .i64 0), (.int .i64 0), (.int .i64 0), (.int .i64 0)] [(0, 1, (AV.int .i64 (-1))), (1, 1, (AV.int .i64 3)), (2, 1, (AV.int .i64 (-1))), (3, 1, (AV.int .i64 (-1)))]) fun v71 =>
oh (evSt 4 v2 v71 h) fun _ h20 =>
(ob (evLd true 4 v2 h20) fun r0 =>
  yf h20 (.tup [r0, (AV.bool true)])))
 ((y7p v1 v2 v11 h))
def y1zp (s : St) : OX := y5v (s 1) (s 2) (s 11) (s 68) s.h
theorem y1iq : T1 yxe yg (y4 0 yg xN) [.cell 2 true 4, .t 3] y1zp := fun s => (y1k rfl (y1cm s)).trans (by kernel_rfl)
def y76 (v1 v2 v11 : AV) (h : Heap) : OX :=
ob (y5 .eql v11 (AV.int .i64 8)) fun v69 =>
cnd v69
 ((y5v v1 v2 v11 v69 h))
 (ob (y5 .eql v11 (AV.int .i64 31)) fun v70 =>
(y5v v1 v2 v11 v70 h))
def y20d (s : St) : OX := y76 (s 1) (s 2) (s 11) s.h
theorem y1aq : T1 yxd yg (y4 0 yg xN) [.cell 2 true 4, .t 3] y20d := sq y1iq fun _ => by kernel_rfl
def y7s (v1 v2 v11 v65 : AV) (h : Heap) : OX :=
cnd v65
 (ob (yu [(.int .i64 0), (.int .i64 0), (.int .i64 0), (.int .i64 0)] [(0, 1, (AV.int .i64 (-1))), (1, 1, (AV.int .i64 0)), (2, 1, (AV.int .i64 (-1))), (3, 1, (AV.int .i64 (-1)))]) fun v67 =>
oh (evSt 4 v2 v67 h) fun _ h21 =>
(ob (evLd true 4 v2 h21) fun r0 =>
  yf h21 (.tup [r0, (AV.bool true)])))
 ((y76 v1 v2 v11 h))
def y1vv (s : St) : OX := y7s (s 1) (s 2) (s 11) (s 65) s.h
theorem y1di : T1 ytb yg (y4 0 yg xN) [.cell 2 true 4, .t 3] y1vv := fun s => (y1k rfl (y1aq s)).trans (by kernel_rfl)
def y7j (v1 v2 v11 : AV) (h : Heap) : OX :=
ob (y5 .eql v11 (AV.int .i64 7)) fun v66 =>
(y7s v1 v2 v11 v66 h)
def y1wx (s : St) : OX := y7j (s 1) (s 2) (s 11) s.h
theorem y1h8 : T1 yvi yg (y4 0 yg xN) [.cell 2 true 4, .t 3] y1wx := sq y1di fun _ => by kernel_rfl
def y79 (v1 v2 v11 v47 : AV) (h : Heap) : OX :=
cnd v47
 (ob (evFa 5 v1) fun v50 =>
ob (evLd false 1 v50 h) fun v51 =>
oh (y6 E (y8 E) 0 none true 50 [v51] h) fun v52 h22 =>
ob (ybv 0 v52) fun v53 =>
ob (ybv 1 v52) fun v54 =>
ob (ybv 2 v52) fun v55 =>
ob (yu [(.int .i64 0), (.int .i64 0), (.int .i64 0), (.int .i64 0)] [(0, 1, v55), (1, 1, v53), (2, 1, (AV.int .i64 (-1))), (3, 1, (AV.int .i64 (-1)))]) fun v58 =>
ob (y5 .neq v53 (AV.int .i64 0)) fun v60 =>
gb v60 true (some v54) fun v62 =>
gb v60 true (y5 .eql v62 (AV.int .i64 0)) fun v63 =>
ob (ye v60 v63 (AV.bool false)) fun v64 =>
oh (evSt 4 v2 v58 h22) fun _ h23 =>
(ob (evLd true 4 v2 h23) fun r0 =>
  yf h23 (.tup [r0, v64])))
 ((y7j v1 v2 v11 h))
def y21q (s : St) : OX := y79 (s 1) (s 2) (s 11) (s 47) s.h
theorem y1aj : T1 yqq yg (y4 0 yg xN) [.cell 2 true 4, .t 3] y21q := fun s => (y1k rfl (y1h8 s)).trans (by kernel_rfl)
def y6s (v1 v2 v11 : AV) (h : Heap) : OX :=
ob (y5 .eql v11 (AV.int .i64 6)) fun v48 =>
(y79 v1 v2 v11 v48 h)
def y239 (s : St) : OX := y6s (s 1) (s 2) (s 11) s.h
theorem y1ii : T1 yw2 yg (y4 0 yg xN) [.cell 2 true 4, .t 3] y239 := sq y1aj fun _ => by kernel_rfl
def y6t (v1 v2 v11 v25 : AV) (h : Heap) : OX :=
cnd v25
 (ob (evFa 5 v1) fun v28 =>
ob (evLd false 1 v28 h) fun v29 =>
oh (y6 E (y8 E) 0 none true 50 [v29] h) fun v30 h24 =>
ob (ybv 0 v30) fun v31 =>
ob (ybv 1 v30) fun v32 =>
ob (ybv 2 v30) fun v33 =>
ob (yu [(.int .i64 0), (.int .i64 0), (.int .i64 0), (.int .i64 0)] [(0, 1, v33), (1, 1, v31), (2, 1, v32), (3, 1, (AV.int .i64 (-1)))]) fun v37 =>
ob (evFa 5 v1) fun v38 =>
ob (evLd false 1 v38 h24) fun v39 =>
ob (evFa 5 v1) fun v40 =>
ob (evLd false 1 v40 h24) fun v41 =>
ob (y5 .eql v39 v41) fun v42 =>
gb v42 true (some v32) fun v44 =>
gb v42 true (y5 .neq v44 (AV.int .i64 0)) fun v45 =>
ob (ye v42 v45 (AV.bool false)) fun v46 =>
oh (evSt 4 v2 v37 h24) fun _ h25 =>
(ob (evLd true 4 v2 h25) fun r0 =>
  yf h25 (.tup [r0, v46])))
 ((y6s v1 v2 v11 h))
def y1yo (s : St) : OX := y6t (s 1) (s 2) (s 11) (s 25) s.h
theorem y19o : T1 yxv yg (y4 0 yg xN) [.cell 2 true 4, .t 3] y1yo := fun s => (y1k rfl (y1ii s)).trans (by kernel_rfl)
def y6z (v1 v2 v11 : AV) (h : Heap) : OX :=
ob (y5 .eql v11 (AV.int .i64 5)) fun v26 =>
(y6t v1 v2 v11 v26 h)
def y1xz (s : St) : OX := y6z (s 1) (s 2) (s 11) s.h
theorem y15a : T1 yq9 yg (y4 0 yg xN) [.cell 2 true 4, .t 3] y1xz := sq y19o fun _ => by kernel_rfl
def y7n (v1 v2 v11 v22 : AV) (h : Heap) : OX :=
cnd v22
 (ob (yu [(.int .i64 0), (.int .i64 0), (.int .i64 0), (.int .i64 0)] [(0, 1, (AV.int .i64 0)), (1, 1, (AV.int .i64 0)), (2, 1, (AV.int .i64 (-1))), (3, 1, (AV.int .i64 (-1)))]) fun v24 =>
oh (evSt 4 v2 v24 h) fun _ h26 =>
(ob (evLd true 4 v2 h26) fun r0 =>
  yf h26 (.tup [r0, (AV.bool true)])))
 ((y6z v1 v2 v11 h))
def y1vt (s : St) : OX := y7n (s 1) (s 2) (s 11) (s 22) s.h
theorem y1f6 : T1 yt8 yg (y4 0 yg xN) [.cell 2 true 4, .t 3] y1vt := fun s => (y1k rfl (y15a s)).trans (by kernel_rfl)
def y75 (v1 v2 v11 : AV) (h : Heap) : OX :=
ob (y5 .eql v11 (AV.int .i64 4)) fun v23 =>
(y7n v1 v2 v11 v23 h)
def y1vo (s : St) : OX := y75 (s 1) (s 2) (s 11) s.h
theorem y1ec : T1 ytk yg (y4 0 yg xN) [.cell 2 true 4, .t 3] y1vo := sq y1f6 fun _ => by kernel_rfl
def y4u (v1 v2 v11 v16 : AV) (h : Heap) : OX :=
cnd v16
 (ob (yu [(.int .i64 0), (.int .i64 0), (.int .i64 0), (.int .i64 0)] [(0, 1, (AV.int .i64 3)), (1, 1, (AV.int .i64 (-1))), (2, 1, (AV.int .i64 (-1))), (3, 1, (AV.int .i64 (-1)))]) fun v21 =>
oh (evSt 4 v2 v21 h) fun _ h27 =>
(ob (evLd true 4 v2 h27) fun r0 =>
  yf h27 (.tup [r0, (AV.bool true)])))
 ((y75 v1 v2 v11 h))
def y1vw (s : St) : OX := y4u (s 1) (s 2) (s 11) (s 16) s.h
theorem y17h : T1 yzq yg (y4 0 yg xN) [.cell 2 true 4, .t 3] y1vw := fun s => (y1k rfl (y1ec s)).trans (by kernel_rfl)
def y7t (v1 v2 v11 : AV) (h : Heap) : OX :=
ob (y5 .eql v11 (AV.int .i64 2)) fun v17 =>
cnd v17
 ((y4u v1 v2 v11 v17 h))
 (ob (y5 .eql v11 (AV.int .i64 3)) fun v18 =>
cnd v18
 ((y4u v1 v2 v11 v18 h))
 (ob (y5 .eql v11 (AV.int .i64 20)) fun v19 =>
cnd v19
 ((y4u v1 v2 v11 v19 h))
 (ob (y5 .eql v11 (AV.int .i64 32)) fun v20 =>
(y4u v1 v2 v11 v20 h))))
def y20r (s : St) : OX := y7t (s 1) (s 2) (s 11) s.h
theorem y11z : T1 yze yg (y4 0 yg xN) [.cell 2 true 4, .t 3] y20r := sq y17h fun _ => by kernel_rfl
def y5r (v1 v2 v11 v12 : AV) (h : Heap) : OX :=
cnd v12
 (ob (yu [(.int .i64 0), (.int .i64 0), (.int .i64 0), (.int .i64 0)] [(0, 1, (AV.int .i64 0)), (1, 1, (AV.int .i64 (-1))), (2, 1, (AV.int .i64 (-1))), (3, 1, (AV.int .i64 (-1)))]) fun v15 =>
oh (evSt 4 v2 v15 h) fun _ h28 =>
(ob (evLd true 4 v2 h28) fun r0 =>
  yf h28 (.tup [r0, (AV.bool true)])))
 ((y7t v1 v2 v11 h))
def y1y0 (s : St) : OX := y5r (s 1) (s 2) (s 11) (s 12) s.h
theorem y12o : T1 yyc yg (y4 0 yg xN) [.cell 2 true 4, .t 3] y1y0 := fun s => (y1k rfl (y11z s)).trans (by kernel_rfl)
def y7r (v1 v2 v11 : AV) (h : Heap) : OX :=
ob (y5 .eql v11 (AV.int .i64 1)) fun v13 =>
cnd v13
 ((y5r v1 v2 v11 v13 h))
 (ob (y5 .eql v11 (AV.int .i64 18)) fun v14 =>
(y5r v1 v2 v11 v14 h))
def y1fc (s : St) : OX := y7r (s 1) (s 2) (s 11) s.h
theorem y123 : T1 yz4 yg (y4 0 yg xN) [.cell 2 true 4, .t 3] y1fc := sq y12o fun _ => by kernel_rfl
theorem y1e2 : T1 yq2 yg xN [.cell 2 true 4, .t 3] y1fc := fun s => yw.trans (y123 s)
def y7h (v1 v2 : AV) (h : Heap) : OX :=
ob (evFa 0 v1) fun v10 =>
ob (evLd false 1 v10 h) fun v11 =>
(y7r v1 v2 v11 h)
def y1br (s : St) : OX := y7h (s 1) (s 2) s.h
theorem y12s : T1 ywa yg xN [.cell 2 true 4, .t 3] y1br := sq y1e2 fun _ => by kernel_rfl
theorem y1l8 : T0 ysd [.cell 2 true 4, .t 3] y1br := sq y1r4 y12s
def y6v (v0 : AV) (h : Heap) : OX :=
oh (newC 0 (some 0) (cellsOf v0) h) fun v1 h29 =>
oh (newC 0 (some 1) [(.int .i64 0), (.int .i64 0), (.int .i64 0), (.int .i64 0)] h29) fun v2 h30 =>
(y7h v1 v2 h30)
def y21o (s : St) : OX := y6v (s 0) s.h
theorem y179 : T0 yzm [.cell 2 true 4, .t 3] y21o := sq y1l8 fun _ => by kernel_rfl
@[simp] theorem y2ao : E.pure 47 = true := rfl
theorem y1g2 (v0 : AV) : (y8 E).p 47 [v0] = y6v v0 [⟨0, .dead⟩, ⟨0, .dead⟩] :=
  (y10 (cf := y25x) (by kernel_rfl) rfl).trans ((y179 _).trans (by kernel_rfl))
def y220 (fb : Nat) (v5 : AV) (h : Heap) : Option (AV × Heap) :=
(some (v5, h))
def y7b (fb : Nat) (s : St) : Option (AV × Heap) := y220 fb (s 5) s.h
theorem y1pw (fb : Nat) (s : St) : W E fb y17c s (finI [.t 4]) xN (finI [.t 4]) = y7b fb s :=
  by kernel_rfl
def yns (fb : Nat) (v0 v5 v8 v9 v10 : AV) (h : Heap) : Option (AV × Heap) :=
  W E fb yjt ⟨[(0, v0), (5, v5), (8, v8), (9, v9), (10, v10)], h⟩ (y7b fb) (y4 0 (y7b fb) xN) (finI [.t 4])
def y7y (fb : Nat) (s : St) : Option (AV × Heap) := yns fb (s 0) (s 5) (s 8) (s 9) (s 10) s.h
theorem ynx (fb : Nat) (s : St) : W E fb yjt s (y7b fb) (y4 0 (y7b fb) xN) (finI [.t 4]) = y7y fb s := yk.trans (by kernel_rfl)
def y1so (fb : Nat) (v0 v5 v8 v9 v10 : AV) (h : Heap) : Option (AV × Heap) :=
ob (y5 .add v10 (AV.int .i64 1)) fun v32 =>
(yns fb v0 v5 v8 v9 v32 h)
def y1tx (fb : Nat) (s : St) : Option (AV × Heap) := y1so fb (s 0) (s 5) (s 8) (s 9) (s 10) s.h
theorem y1t5 (fb : Nat) (s : St) : W E fb y162 s (y7y fb) (y4 0 (y7b fb) xN) (finI [.t 4]) = y1tx fb s :=
  by kernel_rfl
def y1m6 (fb : Nat) (v0 v5 v8 v9 v10 : AV) (h : Heap) : Option (AV × Heap) :=
ob (yv 1 v8 v10) fun v13 =>
ob (evLd false 1 v13 h) fun v14 =>
gb v5 false (some v14) fun v17 =>
gb v5 false (some v0) fun v18 =>
gb v5 false (some v10) fun v19 =>
gb v5 false (yv 1 v18 v19) fun v20 =>
gb v5 false (evLd false 1 v20 h) fun v21 =>
gb v5 false (y5 .andNot v17 v21) fun v22 =>
gb v5 false (y5 .neq v22 (AV.int .u64 0)) fun v23 =>
ob (ye v5 (AV.bool true) v23) fun v24 =>
ob (yv 1 v0 v10) fun v27 =>
ob (evLd false 1 v27 h) fun v28 =>
ob (y5 .or v28 v14) fun v30 =>
ob (yv 1 v0 v10) fun v31 =>
oh (evSt 1 v31 v30 h) fun _ h1 =>
(y1so fb v0 v24 v8 v9 v10 h1)
def y1us (fb : Nat) (s : St) : Option (AV × Heap) := y1m6 fb (s 0) (s 5) (s 8) (s 9) (s 10) s.h
theorem y1qr (fb : Nat) (s : St) : W E fb y1fp s (y7y fb) (y4 0 (y7b fb) xN) (finI [.t 4]) = y1us fb s :=
  (yld (k := (y1tx fb)) (fun s => y1t5 fb s)).trans (by kernel_rfl)
def y1du (fb : Nat) (v0 v5 v8 v9 v10 v11 : AV) (h : Heap) : Option (AV × Heap) :=
cnd v11
 ((y1m6 fb v0 v5 v8 v9 v10 h))
 ((y220 fb v5 h))
def y1ty (fb : Nat) (s : St) : Option (AV × Heap) := y1du fb (s 0) (s 5) (s 8) (s 9) (s 10) (s 11) s.h
theorem y1s5 (fb : Nat) (s : St) : W E fb y1c0 s (y7y fb) (y4 0 (y7b fb) xN) (finI [.t 4]) = y1ty fb s :=
  (yld (k := (y1us fb)) (fun s => y1qr fb s)).trans (by kernel_rfl)
def y190 (fb : Nat) (v0 v5 v8 v9 v10 : AV) (h : Heap) : Option (AV × Heap) :=
ob (y5 .lss v10 v9) fun v11 =>
(y1du fb v0 v5 v8 v9 v10 v11 h)
def y25a (fb : Nat) (s : St) : Option (AV × Heap) := y190 fb (s 0) (s 5) (s 8) (s 9) (s 10) s.h
theorem y1qm (fb : Nat) (s : St) : W E fb y1hk s (y7y fb) (y4 0 (y7b fb) xN) (finI [.t 4]) = y25a fb s :=
  (yld (k := (y1ty fb)) (fun s => y1s5 fb s)).trans (by kernel_rfl)
theorem ylv (fb : Nat) (v0 v5 v8 v9 v10 : AV) (h : Heap) : yns fb v0 v5 v8 v9 v10 h = (y190 fb v0 v5 v8 v9 v10 h) :=
  y1w.trans ((y1b _ _ _ (n' := (y7y fb)) (fun s => ynx fb s)).trans ((y1qm fb _).trans (by kernel_rfl)))
theorem y1st (fb : Nat) (s : St) : W E fb y1ki s (y7b fb) xN (finI [.t 4]) = y7y fb s :=
  yw.trans (ynx fb s)
def y1wz (fb : Nat) (v0 v1 v5 : AV) (h : Heap) : Option (AV × Heap) :=
ob (y14 1 v1 h) fun v9 =>
(yns fb v0 v5 v1 v9 (AV.int .i64 0) h)
def y1hu (fb : Nat) (s : St) : Option (AV × Heap) := y1wz fb (s 0) (s 1) (s 5) s.h
theorem y1nd (fb : Nat) (s : St) : W E fb y1km s (y7b fb) xN (finI [.t 4]) = y1hu fb s :=
  (yld (k := (y7y fb)) (fun s => y1st fb s)).trans (by kernel_rfl)
theorem y1tk (fb : Nat) (s : St) : W E fb y1kq s (finI [.t 4]) xN (finI [.t 4]) = y1hu fb s :=
  (yld (k := (y7b fb)) (fun s => y1pw fb s)).trans (y1nd fb s)
def y1fb (fb : Nat) (v0 v1 : AV) (h : Heap) : Option (AV × Heap) :=
(y1wz fb v0 v1 (AV.bool false) h)
def y1e0 (fb : Nat) (s : St) : Option (AV × Heap) := y1fb fb (s 0) (s 1) s.h
theorem y19x (fb : Nat) (s : St) : W E fb yvs s (finI [.t 4]) xN (finI [.t 4]) = y1e0 fb s :=
  (yld (k := (y1hu fb)) (fun s => y1tk fb s)).trans (by kernel_rfl)
def y18n (fb : Nat) (v0 v1 : AV) (h : Heap) : Option (AV × Heap) :=
(y1fb fb v0 v1 h)
def y1vr (fb : Nat) (s : St) : Option (AV × Heap) := y18n fb (s 0) (s 1) s.h
theorem y178 (fb : Nat) (s : St) : W E fb yql s (finI [.t 4]) xN (finI [.t 4]) = y1vr fb s :=
  (yld (k := (y1e0 fb)) (fun s => y19x fb s)).trans (by kernel_rfl)
@[simp] theorem y2ct : E.pure 84 = false := rfl
theorem y2e8 (fb : Nat) (v0 v1 : AV) (h : Heap) : (y8 E).i 84 [v0, v1] fb h = y18n fb v0 v1 (if fb = h.length then h ++ yl 0 else h) :=
  (yot (cf := y269) (by kernel_rfl) rfl).trans ((y178 fb _).trans (by kernel_rfl))
def y1rg (fb : Nat) (v0 v1 : AV) (h : Heap) : Option (AV × Heap) :=
ob (y5 .quo v1 (AV.int .i64 64)) fun v6 =>
ob (yv 1 v0 v6) fun v7 =>
ob (evLd false 1 v7 h) fun v8 =>
ob (y5 .rem v1 (AV.int .i64 64)) fun v10 =>
ob (y5 .shl (AV.int .u64 1) v10) fun v11 =>
ob (y5 .andNot v8 v11) fun v12 =>
ob (yv 1 v0 v6) fun v13 =>
oh (evSt 1 v13 v12 h) fun _ h1 =>
(some ((.tup []), h1))
def y28q (fb : Nat) (s : St) : Option (AV × Heap) := y1rg fb (s 0) (s 1) s.h
theorem y1sh (fb : Nat) (s : St) : W E fb y1b9 s (finI []) xN (finI []) = y28q fb s :=
  by kernel_rfl
@[simp] theorem y2bq : E.pure 85 = false := rfl
theorem y2cj (fb : Nat) (v0 v1 : AV) (h : Heap) : (y8 E).i 85 [v0, v1] fb h = y1rg fb v0 v1 (if fb = h.length then h ++ yl 0 else h) :=
  (yot (cf := y28a) (by kernel_rfl) rfl).trans ((y1sh fb _).trans (by kernel_rfl))
def y1my (fb : Nat) (v0 v1 : AV) (h : Heap) : Option (AV × Heap) :=
ob (y5 .quo v1 (AV.int .i64 64)) fun v6 =>
ob (yv 1 v0 v6) fun v7 =>
ob (evLd false 1 v7 h) fun v8 =>
ob (y5 .rem v1 (AV.int .i64 64)) fun v10 =>
ob (y5 .shl (AV.int .u64 1) v10) fun v11 =>
ob (y5 .or v8 v11) fun v12 =>
ob (yv 1 v0 v6) fun v13 =>
oh (evSt 1 v13 v12 h) fun _ h1 =>
(some ((.tup []), h1))
def y290 (fb : Nat) (s : St) : Option (AV × Heap) := y1my fb (s 0) (s 1) s.h
theorem y1mg (fb : Nat) (s : St) : W E fb y1eo s (finI []) xN (finI []) = y290 fb s :=
  by kernel_rfl
@[simp] theorem y2dm : E.pure 86 = false := rfl
theorem y2cx (fb : Nat) (v0 v1 : AV) (h : Heap) : (y8 E).i 86 [v0, v1] fb h = y1my fb v0 v1 (if fb = h.length then h ++ yl 0 else h) :=
  (yot (cf := y26z) (by kernel_rfl) rfl).trans ((y1mg fb _).trans (by kernel_rfl))
def ypu (v0 v1 v2 v3 : AV) (h : Heap) : OX :=
ob (y9f 0 true v0 AV.nilp) fun v10 =>
gb v10 true (some v2) fun v12 =>
gb v10 true (y5 .geq v12 (AV.int .i64 0)) fun v13 =>
ob (ye v10 v13 (AV.bool false)) fun v14 =>
gb v14 true (some v2) fun v16 =>
gb v14 true (some v1) fun v17 =>
gb v14 true (y14 1 v17 h) fun v18 =>
gb v14 true (y5 .lss v16 v18) fun v19 =>
ob (ye v14 v19 (AV.bool false)) fun v20 =>
gb v20 true (some v3) fun v22 =>
gb v20 true (y5 .geq v22 (AV.int .i64 0)) fun v23 =>
ob (ye v20 v23 (AV.bool false)) fun v24 =>
gb v24 true (some v3) fun v26 =>
gb v24 true (some v0) fun v27 =>
gb v24 true (y1e v27) fun v28 =>
gb v24 true (evFa 3 v28) fun v29 =>
gb v24 true (evLd false 1 v29 h) fun v30 =>
gb v24 true (y5 .lss v26 v30) fun v31 =>
ob (ye v24 v31 (AV.bool false)) fun v32 =>
gb v32 true (some v1) fun v34 =>
gb v32 true (some v2) fun v35 =>
gb v32 true (yv 1 v34 v35) fun v36 =>
gb v32 true (evLd false 1 v36 h) fun v37 =>
gb v32 true (some v3) fun v38 =>
gh v32 true (y6 E (y8 E) 0 none true 83 [v37, v38] h) h fun v39 h1 =>
ob (ye v32 v39 (AV.bool false)) fun v40 =>
(yf h1 v40)
def y24e (s : St) : OX := ypu (s 0) (s 1) (s 2) (s 3) s.h
theorem y1ok : T0 y183 [.t 8] y24e := fun _ => by kernel_rfl
@[simp] theorem y2c9 : E.pure 82 = true := rfl
theorem y2eb (v0 v1 v2 v3 : AV) : (y8 E).p 82 [v0, v1, v2, v3] = ypu v0 v1 v2 v3 [] :=
  (y10 (cf := y249) (by kernel_rfl) rfl).trans ((y1ok _).trans (by kernel_rfl))
def y1ke (v0 : AV) (h : Heap) : OX :=
oh (newC 0 (some 0) (cellsOf v0) h) fun v1 h1 =>
ob (evFa 0 v1) fun v3 =>
ob (evLd false 1 v3 h1) fun v4 =>
ob (y5 .geq v4 (AV.int .i64 7)) fun v5 =>
gb v5 true (evFa 0 v1) fun v7 =>
gb v5 true (evLd false 1 v7 h1) fun v8 =>
gb v5 true (y5 .leq v8 (AV.int .i64 12)) fun v9 =>
ob (ye v5 v9 (AV.bool false)) fun v10 =>
gb v10 false (evFa 0 v1) fun v12 =>
gb v10 false (evLd false 1 v12 h1) fun v13 =>
gb v10 false (y5 .eql v13 (AV.int .i64 20)) fun v14 =>
ob (ye v10 (AV.bool true) v14) fun v15 =>
gb v15 false (evFa 0 v1) fun v17 =>
gb v15 false (evLd false 1 v17 h1) fun v18 =>
gb v15 false (y5 .eql v18 (AV.int .i64 21)) fun v19 =>
ob (ye v15 (AV.bool true) v19) fun v20 =>
gb v20 false (evFa 0 v1) fun v22 =>
gb v20 false (evLd false 1 v22 h1) fun v23 =>
gb v20 false (y5 .eql v23 (AV.int .i64 31)) fun v24 =>
ob (ye v20 (AV.bool true) v24) fun v25 =>
gb v25 false (evLd true 9 v1 h1) fun v27 =>
gh v25 false (y6 E (y8 E) 0 none true 17 [v27] h1) h1 fun v28 h2 =>
ob (ye v25 (AV.bool true) v28) fun v29 =>
(yf h2 v29)
def y25w (s : St) : OX := y1ke (s 0) s.h
theorem y1rf : T0 y16c [.t 2] y25w := fun _ => by kernel_rfl
@[simp] theorem y2cg : E.pure 18 = true := rfl
theorem y2dz (v0 : AV) : (y8 E).p 18 [v0] = y1ke v0 [⟨0, .dead⟩] :=
  (y10 (cf := y28h) (by kernel_rfl) rfl).trans ((y1rf _).trans (by kernel_rfl))
@[simp] theorem y2e0 : E.pure 38 = true := rfl
@[simp] theorem y2cu : E.pure 65 = true := rfl
@[simp] theorem y2bw : E.pure 66 = true := rfl
@[simp] theorem y2d6 : E.pure 67 = true := rfl
@[simp] theorem y2cn : E.pure 68 = true := rfl
def y21d (h : Heap) : OX :=
(yf h (.tup [(AV.int .i64 0), (AV.int .i64 0), (AV.int .i64 0)]))
def y2v (s : St) : OX := y21d s.h
theorem y1rc : T0 y1c1 [.t 2, .t 3, .t 4] y2v := fun _ => by kernel_rfl
def y0j (v5 v33 : AV) (h : Heap) : OX :=
cnd v33
 ((yf h (.tup [(AV.int .i64 1), (AV.int .i64 0), (AV.int .i64 1)])))
 (ob (y5 .eql v5 (AV.int .i64 117)) fun v39 =>
cnd v39
 ((yf h (.tup [(AV.int .i64 2), (AV.int .i64 0), (AV.int .i64 2)])))
 (ob (y5 .eql v5 (AV.int .i64 133)) fun v41 =>
cnd v41
 ((yf h (.tup [(AV.int .i64 1), (AV.int .i64 0), (AV.int .i64 2)])))
 (ob (y5 .eql v5 (AV.int .i64 136)) fun v43 =>
cnd v43
 ((yf h (.tup [(AV.int .i64 2), (AV.int .i64 0), (AV.int .i64 1)])))
 ((y21d h)))))
def y25c (s : St) : OX := y0j (s 5) (s 33) s.h
theorem y1ru : T1 y13v y2v (y4 0 y2v xN) [.t 2, .t 3, .t 4] y25c := fun _ => by kernel_rfl
def y22k (v5 : AV) (h : Heap) : OX :=
ob (y5 .eql v5 (AV.int .i64 116)) fun v34 =>
cnd v34
 ((y0j v5 v34 h))
 (ob (y5 .eql v5 (AV.int .i64 145)) fun v35 =>
cnd v35
 ((y0j v5 v35 h))
 (ob (y5 .eql v5 (AV.int .i64 146)) fun v36 =>
cnd v36
 ((y0j v5 v36 h))
 (ob (y5 .eql v5 (AV.int .i64 147)) fun v37 =>
(y0j v5 v37 h))))
def y28j (s : St) : OX := y22k (s 5) s.h
theorem y1ou : T1 y1kr y2v (y4 0 y2v xN) [.t 2, .t 3, .t 4] y28j := sq y1ru fun _ => by kernel_rfl
def y1xh (v5 v31 : AV) (h : Heap) : OX :=
cnd v31
 ((yf h (.tup [(AV.int .i64 2), (AV.int .i64 2), (AV.int .i64 1)])))
 ((y22k v5 h))
def y27j (s : St) : OX := y1xh (s 5) (s 31) s.h
theorem y1n2 : T1 y1ci y2v (y4 0 y2v xN) [.t 2, .t 3, .t 4] y27j := fun s => (y1k rfl (y1ou s)).trans (by kernel_rfl)
def y201 (v5 : AV) (h : Heap) : OX :=
ob (y5 .eql v5 (AV.int .i64 148)) fun v32 =>
(y1xh v5 v32 h)
def y26h (s : St) : OX := y201 (s 5) s.h
theorem y1px : T1 y13u y2v (y4 0 y2v xN) [.t 2, .t 3, .t 4] y26h := sq y1n2 fun _ => by kernel_rfl
def y14n (v5 v27 : AV) (h : Heap) : OX :=
cnd v27
 ((yf h (.tup [(AV.int .i64 2), (AV.int .i64 1), (AV.int .i64 2)])))
 ((y201 v5 h))
def y28v (s : St) : OX := y14n (s 5) (s 27) s.h
theorem y1m5 : T1 y13g y2v (y4 0 y2v xN) [.t 2, .t 3, .t 4] y28v := fun s => (y1k rfl (y1px s)).trans (by kernel_rfl)
def y237 (v5 : AV) (h : Heap) : OX :=
ob (y5 .eql v5 (AV.int .i64 121)) fun v28 =>
cnd v28
 ((y14n v5 v28 h))
 (ob (y5 .eql v5 (AV.int .i64 123)) fun v29 =>
cnd v29
 ((y14n v5 v29 h))
 (ob (y5 .eql v5 (AV.int .i64 125)) fun v30 =>
(y14n v5 v30 h)))
def y27s (s : St) : OX := y237 (s 5) s.h
theorem y1nh : T1 y13a y2v (y4 0 y2v xN) [.t 2, .t 3, .t 4] y27s := sq y1m5 fun _ => by kernel_rfl
def ygj (v5 v18 : AV) (h : Heap) : OX :=
cnd v18
 ((yf h (.tup [(AV.int .i64 2), (AV.int .i64 2), (AV.int .i64 2)])))
 ((y237 v5 h))
def y257 (s : St) : OX := ygj (s 5) (s 18) s.h
theorem y1oj : T1 y147 y2v (y4 0 y2v xN) [.t 2, .t 3, .t 4] y257 := fun s => (y1k rfl (y1nh s)).trans (by kernel_rfl)
def y1yh (v5 : AV) (h : Heap) : OX :=
ob (y5 .eql v5 (AV.int .i64 97)) fun v19 =>
cnd v19
 ((ygj v5 v19 h))
 (ob (y5 .eql v5 (AV.int .i64 101)) fun v20 =>
cnd v20
 ((ygj v5 v20 h))
 (ob (y5 .eql v5 (AV.int .i64 105)) fun v21 =>
cnd v21
 ((ygj v5 v21 h))
 (ob (y5 .eql v5 (AV.int .i64 109)) fun v22 =>
cnd v22
 ((ygj v5 v22 h))
 (ob (y5 .eql v5 (AV.int .i64 113)) fun v23 =>
cnd v23
 ((ygj v5 v23 h))
 (ob (y5 .eql v5 (AV.int .i64 127)) fun v24 =>
cnd v24
 ((ygj v5 v24 h))
 (ob (y5 .eql v5 (AV.int .i64 129)) fun v25 =>
cnd v25
 ((ygj v5 v25 h))
 (ob (y5 .eql v5 (AV.int .i64 131)) fun v26 =>
(ygj v5 v26 h))))))))
def y25n (s : St) : OX := y1yh (s 5) s.h
theorem y1ma : T1 y1cf y2v (y4 0 y2v xN) [.t 2, .t 3, .t 4] y25n := sq y1oj fun _ => by kernel_rfl
def y5s (v5 v6 : AV) (h : Heap) : OX :=
cnd v6
 ((yf h (.tup [(AV.int .i64 1), (AV.int .i64 1), (AV.int .i64 1)])))
 ((y1yh v5 h))
def y1xa (s : St) : OX := y5s (s 5) (s 6) s.h
theorem y1ax : T1 yuj y2v (y4 0 y2v xN) [.t 2, .t 3, .t 4] y1xa := fun s => (y1k rfl (y1ma s)).trans (by kernel_rfl)
def y1ej (v5 : AV) (h : Heap) : OX :=
ob (y5 .eql v5 (AV.int .i64 96)) fun v7 =>
cnd v7
 ((y5s v5 v7 h))
 (ob (y5 .eql v5 (AV.int .i64 100)) fun v8 =>
cnd v8
 ((y5s v5 v8 h))
 (ob (y5 .eql v5 (AV.int .i64 104)) fun v9 =>
cnd v9
 ((y5s v5 v9 h))
 (ob (y5 .eql v5 (AV.int .i64 108)) fun v10 =>
cnd v10
 ((y5s v5 v10 h))
 (ob (y5 .eql v5 (AV.int .i64 112)) fun v11 =>
cnd v11
 ((y5s v5 v11 h))
 (ob (y5 .eql v5 (AV.int .i64 120)) fun v12 =>
cnd v12
 ((y5s v5 v12 h))
 (ob (y5 .eql v5 (AV.int .i64 122)) fun v13 =>
cnd v13
 ((y5s v5 v13 h))
 (ob (y5 .eql v5 (AV.int .i64 124)) fun v14 =>
cnd v14
 ((y5s v5 v14 h))
 (ob (y5 .eql v5 (AV.int .i64 126)) fun v15 =>
cnd v15
 ((y5s v5 v15 h))
 (ob (y5 .eql v5 (AV.int .i64 128)) fun v16 =>
cnd v16
 ((y5s v5 v16 h))
 (ob (y5 .eql v5 (AV.int .i64 130)) fun v17 =>
(y5s v5 v17 h)))))))))))
def y18m (s : St) : OX := y1ej (s 5) s.h
theorem y16q : T1 yue y2v (y4 0 y2v xN) [.t 2, .t 3, .t 4] y18m := sq y1ax fun _ => by kernel_rfl
theorem y12x : T1 yvf y2v xN [.t 2, .t 3, .t 4] y18m := fun s => yw.trans (y16q s)
def y19i (v0 : AV) (h : Heap) : OX :=
(y1ej v0 h)
def y1gv (s : St) : OX := y19i (s 0) s.h
theorem y1he : T1 yxa y2v xN [.t 2, .t 3, .t 4] y1gv := sq y12x fun _ => by kernel_rfl
theorem y1ev : T0 ywv [.t 2, .t 3, .t 4] y1gv := sq y1rc y1he
def y18o (v0 : AV) (h : Heap) : OX :=
(y19i v0 h)
def y1yt (s : St) : OX := y18o (s 0) s.h
theorem y1ku : T0 yyb [.t 2, .t 3, .t 4] y1yt := sq y1ev fun _ => by kernel_rfl
@[simp] theorem y2al : E.pure 50 = true := rfl
theorem y2bd (v0 : AV) : (y8 E).p 50 [v0] = y18o v0 [] :=
  (y10 (cf := y26l) (by kernel_rfl) rfl).trans ((y1ku _).trans (by kernel_rfl))
def q8_1 (v0 : AV) (h : Heap) : OX :=
ob (y5 .neq v0 (AV.str [])) fun v4 =>
gb v4 true (some v0) fun v6 =>
gh v4 true (y6 E (y8 E) 0 none true 44 [v6] h) h fun v7 h1 =>
gb v4 true (some v0) fun v8 =>
gb v4 true (y14 0 v8 h1) fun v9 =>
gb v4 true (y5 .eql v7 v9) fun v10 =>
ob (ye v4 v10 (AV.bool false)) fun v11 =>
(yf h1 v11)
def y2dd (s : St) : OX := q8_1 (s 0) s.h
theorem y22o : T0 y1tp [.t 2] y2dd := fun _ => by kernel_rfl
@[simp] theorem y2dr : E.pure 37 = true := rfl
theorem x_q8 (v0 : AV) : (y8 E).p 37 [v0] = q8_1 v0 [] :=
  (y10 (cf := c_q8) (by kernel_rfl) rfl).trans ((y22o _).trans (by kernel_rfl))
def yok (v2 : AV) (h : Heap) : OX :=
ob (yu [(.int .i64 0), (.int .i64 0), (.int .i64 0), (.int .i64 0)] []) fun v73 =>
oh (evSt 4 v2 v73 h) fun _ h1 =>
(ob (evLd true 4 v2 h1) fun r0 =>
  yf h1 (.tup [r0, (AV.bool false)]))
def y1s (s : St) : OX := yok (s 2) s.h
theorem y1o0 : T0 y1c7 [.cell 2 true 4, .t 3] y1s := fun _ => by kernel_rfl
def ynl (v1 v2 v4 : AV) (h : Heap) : OX :=
ob (yu [(.int .i64 0), (.int .i64 0), (.int .i64 0), (.int .i64 0)] [(0, 1, (AV.int .i64 (-1))), (1, 1, (AV.int .i64 3)), (2, 1, v4), (3, 1, (AV.int .i64 (-1)))]) fun v16 =>
ob (evFa 5 v1) fun v17 =>
ob (evLd false 1 v17 h) fun v18 =>
ob (y5 .eql v18 (AV.int .i64 0)) fun v19 =>
ofp (fgd v19 false (some ([], []))) fun f6 =>
gb v19 false (evFa 5 v1) fun v21 =>
ofp (fgd v19 false (some (ids1 v21, []))) fun f7 =>
gb v19 false (evLd false 1 v21 h) fun v22 =>
ofp (fgd v19 false (some ([], []))) fun f8 =>
gb v19 false (y5 .eql v22 (AV.int .i64 1)) fun v23 =>
ob (ye v19 (AV.bool true) v23) fun v24 =>
oh (evSt 4 v2 v16 h) fun _ h2 =>
okK (y12 [([], []), ([], []), ([], []), (ids1 v17, []), ([], []), ([], []), f6, f7, f8, ([], []), ([], ids1 v2), ([], [])] [(7, 10)]) <|
(ob (evLd true 4 v2 h2) fun r0 =>
  yf h2 (.tup [r0, v24]))
def y24c (s : St) : OX := ynl (s 1) (s 2) (s 4) s.h
theorem y1sq : T1 y1gg y1s (y4 0 y1s xN) [.cell 2 true 4, .t 3] y24c := fun _ => by kernel_rfl
def ypw (v1 v2 v4 : AV) (h : Heap) : OX :=
ob (evFa 3 v1) fun v12 =>
ob (evLd false 1 v12 h) fun v13 =>
ob (y5 .neq v13 (AV.int .i64 (-1))) fun v14 =>
cnd v14
 ((ynl v1 v2 (AV.int .i64 3) h))
 ((ynl v1 v2 v4 h))
def y271 (s : St) : OX := ypw (s 1) (s 2) (s 4) s.h
theorem y1rz : T1 y1h1 y1s (y4 0 y1s xN) [.cell 2 true 4, .t 3] y271 := sq y1sq fun _ => by kernel_rfl
def yof (v1 v2 : AV) (h : Heap) : OX :=
(ypw v1 v2 (AV.int .i64 (-1)) h)
def y281 (s : St) : OX := yof (s 1) (s 2) s.h
theorem y1o3 : T1 y1l1 y1s (y4 0 y1s xN) [.cell 2 true 4, .t 3] y281 := sq y1rz fun _ => by kernel_rfl
def ylk (v2 v5 : AV) (h : Heap) : OX :=
ob (yu [(.int .i64 0), (.int .i64 0), (.int .i64 0), (.int .i64 0)] [(0, 1, (AV.int .i64 (-1))), (1, 1, v5), (2, 1, (AV.int .i64 (-1))), (3, 1, (AV.int .i64 (-1)))]) fun v31 =>
oh (evSt 4 v2 v31 h) fun _ h3 =>
(ob (evLd true 4 v2 h3) fun r0 =>
  yf h3 (.tup [r0, (AV.bool true)]))
def y297 (s : St) : OX := ylk (s 2) (s 5) s.h
theorem y1ow : T1 y1jn y1s (y4 0 y1s xN) [.cell 2 true 4, .t 3] y297 := fun _ => by kernel_rfl
def yo3 (v1 v2 v5 : AV) (h : Heap) : OX :=
ob (evFa 2 v1) fun v27 =>
ob (evLd false 1 v27 h) fun v28 =>
ob (y5 .neq v28 (AV.int .i64 (-1))) fun v29 =>
cnd v29
 ((ylk v2 (AV.int .i64 0) h))
 ((ylk v2 v5 h))
def y27r (s : St) : OX := yo3 (s 1) (s 2) (s 5) s.h
theorem y1r6 : T1 y18e y1s (y4 0 y1s xN) [.cell 2 true 4, .t 3] y27r := sq y1ow fun _ => by kernel_rfl
def ypt (v1 v2 : AV) (h : Heap) : OX :=
(yo3 v1 v2 (AV.int .i64 (-1)) h)
def y273 (s : St) : OX := ypt (s 1) (s 2) s.h
theorem y1p1 : T1 y19v y1s (y4 0 y1s xN) [.cell 2 true 4, .t 3] y273 := sq y1r6 fun _ => by kernel_rfl
def ylb (v1 v2 v6 : AV) (h : Heap) : OX :=
ob (evFa 0 v1) fun v40 =>
ob (evLd false 1 v40 h) fun v41 =>
ob (y5 .eql v41 (AV.int .i64 23)) fun v42 =>
gb v42 false (evFa 0 v1) fun v44 =>
gb v42 false (evLd false 1 v44 h) fun v45 =>
gb v42 false (y5 .eql v45 (AV.int .i64 26)) fun v46 =>
ob (ye v42 (AV.bool true) v46) fun v47 =>
gb v47 false (evFa 8 v1) fun v49 =>
gb v47 false (evLd false 1 v49 h) fun v50 =>
gb v47 false (y14 1 v50 h) fun v51 =>
gb v47 false (y5 .gtr v51 (AV.int .i64 0)) fun v52 =>
ob (ye v47 (AV.bool true) v52) fun v53 =>
ob (yu [(.int .i64 0), (.int .i64 0), (.int .i64 0), (.int .i64 0)] [(0, 1, v6), (1, 1, (AV.int .i64 (-1))), (2, 1, (AV.int .i64 (-1))), (3, 1, (AV.int .i64 (-1)))]) fun v55 =>
ofp (fgd v53 true (some ([], []))) fun f4 =>
gb v53 true (evFa 5 v1) fun v58 =>
ofp (fgd v53 true (some (ids1 v58, []))) fun f5 =>
gb v53 true (evLd false 1 v58 h) fun v59 =>
ofp (fgd v53 true (some ([], []))) fun f6 =>
gb v53 true (y5 .geq v59 (AV.int .i64 0)) fun v60 =>
ofp (fgd v53 true (some ([], []))) fun f7 =>
gb v53 true (some v60) fun v61 =>
ofp (fgd v61 false (some ([], []))) fun f8 =>
gb v61 false (evFa 0 v1) fun v62 =>
ofp (fgd v61 false (some (ids1 v62, []))) fun f9 =>
gb v61 false (evLd false 1 v62 h) fun v63 =>
ofp (fgd v61 false (some ([], []))) fun f10 =>
gb v61 false (y5 .eql v63 (AV.int .i64 25)) fun v64 =>
ofp (fgd v53 true (some ([], []))) fun f11 =>
gb v53 true (ye v61 (AV.bool true) v64) fun v65 =>
ob (ye v53 v65 (AV.bool false)) fun v66 =>
ofp (fgd v66 true (some ([], []))) fun f14 =>
gb v66 true (evFa 8 v1) fun v68 =>
ofp (fgd v66 true (some (ids1 v68, []))) fun f15 =>
gb v66 true (evLd false 1 v68 h) fun v69 =>
ofp (fgd v66 true (some (ids1 v69, []))) fun f16 =>
gb v66 true (y14 1 v69 h) fun v70 =>
ofp (fgd v66 true (some ([], []))) fun f17 =>
gb v66 true (y5 .leq v70 (AV.int .i64 21)) fun v71 =>
ob (ye v66 v71 (AV.bool false)) fun v72 =>
oh (evSt 4 v2 v55 h) fun _ h4 =>
okK (y12 [([], []), ([], []), ([], []), ([], []), f4, f5, f6, f7, f8, f9, f10, f11, ([], []), ([], []), f14, f15, f16, f17, ([], []), ([], ids1 v2), ([], [])] [(15, 19), (16, 19)]) <|
(ob (evLd true 4 v2 h4) fun r0 =>
  yf h4 (.tup [r0, v72]))
def y26t (s : St) : OX := ylb (s 1) (s 2) (s 6) s.h
theorem y1oq : T1 y1gs y1s (y4 0 y1s xN) [.cell 2 true 4, .t 3] y26t := fun _ => by kernel_rfl
def yp5 (v1 v2 v6 : AV) (h : Heap) : OX :=
ob (evFa 1 v1) fun v37 =>
ob (evLd false 1 v37 h) fun v38 =>
ob (y5 .neq v38 (AV.int .i64 (-1))) fun v39 =>
cnd v39
 ((ylb v1 v2 (AV.int .i64 0) h))
 ((ylb v1 v2 v6 h))
def y26o (s : St) : OX := yp5 (s 1) (s 2) (s 6) s.h
theorem y1t1 : T1 y1kz y1s (y4 0 y1s xN) [.cell 2 true 4, .t 3] y26o := sq y1oq fun _ => by kernel_rfl
def yf7 (v1 v2 : AV) (h : Heap) : OX :=
(yp5 v1 v2 (AV.int .i64 (-1)) h)
def y1vm (s : St) : OX := yf7 (s 1) (s 2) s.h
theorem y18t : T1 ysc y1s (y4 0 y1s xN) [.cell 2 true 4, .t 3] y1vm := sq y1t1 fun _ => by kernel_rfl
def y9e (v1 v2 v32 : AV) (h : Heap) : OX :=
cnd v32
 ((yf7 v1 v2 h))
 ((yok v2 h))
def y22e (s : St) : OX := y9e (s 1) (s 2) (s 32) s.h
theorem y1c3 : T1 yth y1s (y4 0 y1s xN) [.cell 2 true 4, .t 3] y22e := fun s => (y1k (y18t s) rfl).trans (by kernel_rfl)
def yfa (v1 v2 v9 : AV) (h : Heap) : OX :=
ob (y5 .eql v9 (AV.int .i64 23)) fun v33 =>
cnd v33
 ((y9e v1 v2 v33 h))
 (ob (y5 .eql v9 (AV.int .i64 24)) fun v34 =>
cnd v34
 ((y9e v1 v2 v34 h))
 (ob (y5 .eql v9 (AV.int .i64 25)) fun v35 =>
cnd v35
 ((y9e v1 v2 v35 h))
 (ob (y5 .eql v9 (AV.int .i64 26)) fun v36 =>
(y9e v1 v2 v36 h))))
def y22c (s : St) : OX := yfa (s 1) (s 2) (s 9) s.h
theorem y1jg : T1 yvg y1s (y4 0 y1s xN) [.cell 2 true 4, .t 3] y22c := sq y1c3 fun _ => by kernel_rfl
def yfz (v1 v2 v9 v25 : AV) (h : Heap) : OX :=
cnd v25
 ((ypt v1 v2 h))
 ((yfa v1 v2 v9 h))
def y1xq (s : St) : OX := yfz (s 1) (s 2) (s 9) (s 25) s.h
theorem y1ay : T1 yqw y1s (y4 0 y1s xN) [.cell 2 true 4, .t 3] y1xq := fun s => (y1k (y1p1 s) (y1jg s)).trans (by kernel_rfl)
def yg1 (v1 v2 v9 : AV) (h : Heap) : OX :=
ob (y5 .eql v9 (AV.int .i64 30)) fun v26 =>
(yfz v1 v2 v9 v26 h)
def y20n (s : St) : OX := yg1 (s 1) (s 2) (s 9) s.h
theorem y1iy : T1 yu9 y1s (y4 0 y1s xN) [.cell 2 true 4, .t 3] y20n := sq y1ay fun _ => by kernel_rfl
def yeq (v1 v2 v9 v10 : AV) (h : Heap) : OX :=
cnd v10
 ((yof v1 v2 h))
 ((yg1 v1 v2 v9 h))
def y1z8 (s : St) : OX := yeq (s 1) (s 2) (s 9) (s 10) s.h
theorem y1d4 : T1 yt4 y1s (y4 0 y1s xN) [.cell 2 true 4, .t 3] y1z8 := fun s => (y1k (y1o3 s) (y1iy s)).trans (by kernel_rfl)
def ye2 (v1 v2 v9 : AV) (h : Heap) : OX :=
ob (y5 .eql v9 (AV.int .i64 29)) fun v11 =>
(yeq v1 v2 v9 v11 h)
def y1kt (s : St) : OX := ye2 (s 1) (s 2) (s 9) s.h
theorem y16x : T1 yr7 y1s (y4 0 y1s xN) [.cell 2 true 4, .t 3] y1kt := sq y1d4 fun _ => by kernel_rfl
theorem y19f : T1 yu2 y1s xN [.cell 2 true 4, .t 3] y1kt := fun s => yw.trans (y16x s)
def yeb (v1 v2 : AV) (h : Heap) : OX :=
ob (evFa 0 v1) fun v8 =>
ob (evLd false 1 v8 h) fun v9 =>
(ye2 v1 v2 v9 h)
def y1cl (s : St) : OX := yeb (s 1) (s 2) s.h
theorem y1c4 : T1 yrm y1s xN [.cell 2 true 4, .t 3] y1cl := sq y19f fun _ => by kernel_rfl
theorem y14m : T0 yxh [.cell 2 true 4, .t 3] y1cl := sq y1o0 y1c4
def yfg (v0 : AV) (h : Heap) : OX :=
oh (newC 0 (some 0) (cellsOf v0) h) fun v1 h5 =>
oh (newC 0 (some 1) [(.int .i64 0), (.int .i64 0), (.int .i64 0), (.int .i64 0)] h5) fun v2 h6 =>
(yeb v1 v2 h6)
def y1xb (s : St) : OX := yfg (s 0) s.h
theorem y1dk : T0 yso [.cell 2 true 4, .t 3] y1xb := sq y14m fun _ => by kernel_rfl
@[simp] theorem y2as : E.pure 51 = true := rfl
theorem y1po (v0 : AV) : (y8 E).p 51 [v0] = yfg v0 [⟨0, .dead⟩, ⟨0, .dead⟩] :=
  (y10 (cf := y27k) (by kernel_rfl) rfl).trans ((y1dk _).trans (by kernel_rfl))
def y1wn (v0 v1 : AV) (h : Heap) : OX :=
ob (y5 .quo v1 (AV.int .i64 64)) fun v7 =>
ob (yv 1 v0 v7) fun v8 =>
ob (evLd false 1 v8 h) fun v9 =>
ob (y5 .rem v1 (AV.int .i64 64)) fun v11 =>
ob (y5 .shr v9 v11) fun v12 =>
ob (y5 .and v12 (AV.int .u64 1)) fun v13 =>
ob (y5 .eql v13 (AV.int .u64 1)) fun v14 =>
(yf h v14)
def y28m (s : St) : OX := y1wn (s 0) (s 1) s.h
theorem y1mt : T0 y1ht [.t 4] y28m := fun _ => by kernel_rfl
@[simp] theorem y2cm : E.pure 83 = true := rfl
theorem y2aw (v0 v1 : AV) : (y8 E).p 83 [v0, v1] = y1wn v0 v1 [] :=
  (y10 (cf := y23w) (by kernel_rfl) rfl).trans ((y1mt _).trans (by kernel_rfl))
def yft (v0 : AV) (h : Heap) : OX :=
ob (y5 .neq v0 (AV.str [])) fun v25 =>
gb v25 true (some v0) fun v27 =>
gb v25 true (y14 0 v27 h) fun v28 =>
gb v25 true (y5 .leq v28 (AV.int .i64 60)) fun v29 =>
ob (ye v25 v29 (AV.bool false)) fun v30 =>
(yf h v30)
def y5j (s : St) : OX := yft (s 0) s.h
theorem y1cj : T0 yvw [.t 4] y5j := fun _ => by kernel_rfl
def ybt (v0 v5 v6 : AV) (h : Heap) : OX :=
  W E 0 yew ⟨[(0, v0), (5, v5), (6, v6)], h⟩ y5j (y4 0 y5j xN) (finP [.t 4])
def y93 (s : St) : OX := ybt (s 0) (s 5) (s 6) s.h
theorem yjc : T1 yew y5j (y4 0 y5j xN) [.t 4] y93 := fun s => yk.trans (by kernel_rfl)
def yz8 (v0 v5 v6 : AV) (h : Heap) : OX :=
ob (y5 .add v6 (AV.int .i64 1)) fun v15 =>
(ybt v0 v5 v15 h)
def y234 (s : St) : OX := yz8 (s 0) (s 5) (s 6) s.h
theorem y1ju : T1 ywi y93 (y4 0 y5j xN) [.t 4] y234 := fun _ => by kernel_rfl
def ym8 (v0 v5 v6 : AV) (h : Heap) : OX :=
ob (y5 .add v6 (AV.int .i64 1)) fun v20 =>
ob (yn5 v0 (some v6) (some v20)) fun v21 =>
oh (y6 E (y8 E) 0 none true 53 [v5, v21] h) fun v22 h1 =>
ob (evUn .not v22) fun v23 =>
cnd v23
 ((yf h1 (AV.bool false)))
 ((yz8 v0 v5 v6 h1))
def y1zx (s : St) : OX := ym8 (s 0) (s 5) (s 6) s.h
theorem y18x : T1 ywx y93 (y4 0 y5j xN) [.t 4] y1zx := sq y1ju fun _ => by kernel_rfl
def yms (v0 v5 v6 : AV) (h : Heap) : OX :=
ob (y14 0 v0 h) fun v12 =>
ob (y5 .lss v6 v12) fun v13 =>
cnd v13
 ((ym8 v0 v5 v6 h))
 ((yft v0 h))
def y1wf (s : St) : OX := yms (s 0) (s 5) (s 6) s.h
theorem y189 : T1 yvk y93 (y4 0 y5j xN) [.t 4] y1wf := sq y18x fun _ => by kernel_rfl
theorem yj5 (v0 v5 v6 : AV) (h : Heap) : ybt v0 v5 v6 h = (yms v0 v5 v6 h) :=
  y1w.trans ((y1b _ _ _ (n' := y93) (fun s => yjc s)).trans ((y189 _).trans (by kernel_rfl)))
theorem y1i6 : T1 yxf y5j xN [.t 4] y93 := fun s => yw.trans (yjc s)
def yvp (v0 v5 : AV) (h : Heap) : OX :=
(ybt v0 v5 (AV.int .i64 0) h)
def y1it (s : St) : OX := yvp (s 0) (s 5) s.h
theorem y155 : T1 yy5 y5j xN [.t 4] y1it := sq y1i6 fun _ => by kernel_rfl
theorem y1k2 : T0 yyx [.t 4] y1it := sq y1cj y155
def y1f5 (v0 v1 v5 : AV) (h : Heap) : OX :=
cnd v1
 (ob (y5 .add v5 (AV.str [60, 62])) fun v9 =>
(yvp v0 v9 h))
 ((yvp v0 v5 h))
def y1zf (s : St) : OX := y1f5 (s 0) (s 1) (s 5) s.h
theorem y1cg : T0 yys [.t 4] y1zf := sq y1k2 fun _ => by kernel_rfl
def yo9 (v0 v1 : AV) (h : Heap) : OX :=
(y1f5 v0 v1 (AV.str [97, 98, 99, 100, 101, 102, 103, 104, 105, 106, 107, 108, 109, 110, 111, 112, 113, 114, 115, 116, 117, 118, 119, 120, 121, 122, 65, 66, 67, 68, 69, 70, 71, 72, 73, 74, 75, 76, 77, 78, 79, 80, 81, 82, 83, 84, 85, 86, 87, 88, 89, 90, 48, 49, 50, 51, 52, 53, 54, 55, 56, 57, 95, 36, 47]) h)
def y1ns (s : St) : OX := yo9 (s 0) (s 1) s.h
theorem y11h : T0 ym3 [.t 4] y1ns := sq y1cg fun _ => by kernel_rfl
def yjz (v0 v1 : AV) (h : Heap) : OX :=
(yo9 v0 v1 h)
def y1sz (s : St) : OX := yjz (s 0) (s 1) s.h
theorem y0y : T0 ynk [.t 4] y1sz := sq y11h fun _ => by kernel_rfl
@[simp] theorem y2e2 : E.pure 69 = true := rfl
theorem y27u (v0 v1 : AV) : (y8 E).p 69 [v0, v1] = yjz v0 v1 [] :=
  (y10 (cf := y1ut) (by kernel_rfl) rfl).trans ((y0y _).trans (by kernel_rfl))
def q9_1 (h : Heap) : OX :=
(yf h (AV.int .i64 0))
def y2p (s : St) : OX := q9_1 s.h
theorem y1w5 : T0 y1u1 [.t 2] y2p := fun _ => by kernel_rfl
def y1f2 (v0 v3 v4 : AV) (h : Heap) : OX :=
  W E 0 ypd ⟨[(0, v0), (3, v3), (4, v4)], h⟩ y2p (y4 3 y2p (y4 2 y2p xN)) (finP [.t 2])
def yhi (s : St) : OX := y1f2 (s 0) (s 3) (s 4) s.h
theorem yte : T1 ypd y2p (y4 3 y2p (y4 2 y2p xN)) [.t 2] yhi := fun s => yk.trans (by kernel_rfl)
def q9_3 (v0 v3 v4 : AV) (h : Heap) : OX :=
ob (y5 .add v4 (AV.int .i64 1)) fun v42 =>
(y1f2 v0 v3 v42 h)
def ygs (s : St) : OX := q9_3 (s 0) (s 3) (s 4) s.h
theorem y1xo : T1 y1u5 yhi (y4 3 y2p (y4 2 y2p xN)) [.t 2] ygs := fun _ => by kernel_rfl
def q9_4 (h : Heap) : OX :=
(yf h (AV.int .i64 0))
def y2ce (s : St) : OX := q9_4 s.h
theorem y1wr : T1 y1tr ygs (y4 4 ygs (y4 3 y2p (y4 2 y2p xN))) [.t 2] y2ce := fun _ => by kernel_rfl
def q9_5 (v0 v3 v4 : AV) (h : Heap) : OX :=
ob (y5 .add v3 (AV.int .i64 1)) fun v49 =>
ob (yn5 v0 (some v49) (some v4)) fun v51 =>
oh (y6 E (y8 E) 0 none true 60 [v51, (AV.bool false)] h) fun v52 h1 =>
cnd v52
 (ob (y5 .add v4 (AV.int .i64 1)) fun v54 =>
(yf h1 v54))
 ((q9_4 h1))
def y2bb (s : St) : OX := q9_5 (s 0) (s 3) (s 4) s.h
theorem y1vs : T1 y1v1 ygs (y4 4 ygs (y4 3 y2p (y4 2 y2p xN))) [.t 2] y2bb := sq y1wr fun _ => by kernel_rfl
def q9_6 (v0 v3 v4 v46 : AV) (h : Heap) : OX :=
cnd v46
 ((q9_5 v0 v3 v4 h))
 ((q9_3 v0 v3 v4 h))
def y2dn (s : St) : OX := q9_6 (s 0) (s 3) (s 4) (s 46) s.h
theorem y1ws : T1 y1u7 ygs (y4 4 ygs (y4 3 y2p (y4 2 y2p xN))) [.t 2] y2dn := fun s => (y1k (y1vs s) rfl).trans (by kernel_rfl)
def q9_7 (v0 v3 v4 : AV) (h : Heap) : OX :=
ob (y8a v0 v4) fun v45 =>
ob (y5 .eql v45 (AV.int .u8 59)) fun v46 =>
(q9_6 v0 v3 v4 v46 h)
def y1z2 (s : St) : OX := q9_7 (s 0) (s 3) (s 4) s.h
theorem y211 : T1 y1ur ygs (y4 4 ygs (y4 3 y2p (y4 2 y2p xN))) [.t 2] y1z2 := sq y1ws fun _ => by kernel_rfl
theorem y1xj : T1 y1uz ygs (y4 3 y2p (y4 2 y2p xN)) [.t 2] y1z2 := fun s => yw.trans (y211 s)
theorem y233 : T1 y1uw yhi (y4 3 y2p (y4 2 y2p xN)) [.t 2] y1z2 := sq y1xo y1xj
def y117 (v0 v3 v4 : AV) (h : Heap) : OX :=
ob (y14 0 v0 h) fun v39 =>
ob (y5 .lss v4 v39) fun v40 =>
cnd v40
 ((q9_7 v0 v3 v4 h))
 ((q9_1 h))
def y27h (s : St) : OX := y117 (s 0) (s 3) (s 4) s.h
theorem y1s7 : T1 y1gu yhi (y4 3 y2p (y4 2 y2p xN)) [.t 2] y27h := sq y233 fun _ => by kernel_rfl
theorem ysq (v0 v3 v4 : AV) (h : Heap) : y1f2 v0 v3 v4 h = (y117 v0 v3 v4 h) :=
  y1w.trans ((y1b _ _ _ (n' := yhi) (fun s => yte s)).trans ((y1s7 _).trans (by kernel_rfl)))
theorem y1me : T1 y18g y2p (y4 2 y2p xN) [.t 2] yhi := fun s => yw.trans (yte s)
def y22s (v0 v3 : AV) (h : Heap) : OX :=
ob (y5 .add v3 (AV.int .i64 1)) fun v36 =>
(y1f2 v0 v3 v36 h)
def y26n (s : St) : OX := y22s (s 0) (s 3) s.h
theorem y1n4 : T1 y163 y2p (y4 2 y2p xN) [.t 2] y26n := sq y1me fun _ => by kernel_rfl
def y1ri (v0 v3 v33 : AV) (h : Heap) : OX :=
cnd v33
 ((y22s v0 v3 h))
 ((q9_1 h))
def y25y (s : St) : OX := y1ri (s 0) (s 3) (s 33) s.h
theorem y1o1 : T1 y131 y2p (y4 2 y2p xN) [.t 2] y25y := fun s => (y1k (y1n4 s) rfl).trans (by kernel_rfl)
def y1q5 (v0 v3 v27 : AV) (h : Heap) : OX :=
ob (y5 .eql v27 (AV.int .u8 76)) fun v34 =>
(y1ri v0 v3 v34 h)
def y28f (s : St) : OX := y1q5 (s 0) (s 3) (s 27) s.h
theorem y1qk : T1 y157 y2p (y4 2 y2p xN) [.t 2] y28f := sq y1o1 fun _ => by kernel_rfl
def yoi (v0 v3 v27 v28 : AV) (h : Heap) : OX :=
cnd v28
 (ob (y5 .add v3 (AV.int .i64 1)) fun v32 =>
(yf h v32))
 ((y1q5 v0 v3 v27 h))
def y28e (s : St) : OX := yoi (s 0) (s 3) (s 27) (s 28) s.h
theorem y1pa : T1 y124 y2p (y4 2 y2p xN) [.t 2] y28e := fun s => (y1k rfl (y1qk s)).trans (by kernel_rfl)
def y0w (v0 v3 v27 : AV) (h : Heap) : OX :=
ob (y5 .eql v27 (AV.int .u8 73)) fun v29 =>
cnd v29
 ((yoi v0 v3 v27 v29 h))
 (ob (y5 .eql v27 (AV.int .u8 74)) fun v30 =>
(yoi v0 v3 v27 v30 h))
def y1uo (s : St) : OX := y0w (s 0) (s 3) (s 27) s.h
theorem y1n5 : T1 y1kh y2p (y4 2 y2p xN) [.t 2] y1uo := sq y1pa fun _ => by kernel_rfl
theorem y1qy : T1 y135 y2p xN [.t 2] y1uo := fun s => yw.trans (y1n5 s)
def y11v (v0 v3 : AV) (h : Heap) : OX :=
ob (y8a v0 v3) fun v27 =>
(y0w v0 v3 v27 h)
def y1ua (s : St) : OX := y11v (s 0) (s 3) s.h
theorem y1s9 : T1 y17o y2p xN [.t 2] y1ua := sq y1qy fun _ => by kernel_rfl
theorem y1pt : T0 y141 [.t 2] y1ua := sq y1w5 y1s9
def ygk (v0 v3 : AV) (h : Heap) : OX :=
ob (y5 .gtr v3 (AV.int .i64 8)) fun v18 =>
gb v18 false (some v3) fun v20 =>
gb v18 false (some v0) fun v21 =>
gb v18 false (y14 0 v21 h) fun v22 =>
gb v18 false (y5 .eql v20 v22) fun v23 =>
ob (ye v18 (AV.bool true) v23) fun v24 =>
cnd v24
 ((yf h (AV.int .i64 0)))
 ((y11v v0 v3 h))
def yd9 (s : St) : OX := ygk (s 0) (s 3) s.h
theorem y1r8 : T0 y17i [.t 2] yd9 := sq y1pt fun _ => by kernel_rfl
def yl3 (v0 v3 : AV) (h : Heap) : OX :=
  W E 0 ykd ⟨[(0, v0), (3, v3)], h⟩ yd9 (y4 0 yd9 xN) (finP [.t 2])
def ycm (s : St) : OX := yl3 (s 0) (s 3) s.h
theorem yl8 : T1 ykd yd9 (y4 0 yd9 xN) [.t 2] ycm := fun s => yk.trans (by kernel_rfl)
def y1wy (v0 v3 : AV) (h : Heap) : OX :=
ob (y5 .add v3 (AV.int .i64 1)) fun v16 =>
(yl3 v0 v16 h)
def y29l (s : St) : OX := y1wy (s 0) (s 3) s.h
theorem y1n3 : T1 y12b ycm (y4 0 yd9 xN) [.t 2] y29l := fun _ => by kernel_rfl
def y15v (v0 v3 : AV) (h : Heap) : OX :=
ob (y14 0 v0 h) fun v7 =>
ob (y5 .lss v3 v7) fun v8 =>
gb v8 true (some v0) fun v10 =>
gb v8 true (some v3) fun v11 =>
gb v8 true (y8a v10 v11) fun v12 =>
gb v8 true (y5 .eql v12 (AV.int .u8 91)) fun v13 =>
ob (ye v8 v13 (AV.bool false)) fun v14 =>
cnd v14
 ((y1wy v0 v3 h))
 ((ygk v0 v3 h))
def y25g (s : St) : OX := y15v (s 0) (s 3) s.h
theorem y1o7 : T1 y1d2 ycm (y4 0 yd9 xN) [.t 2] y25g := sq y1n3 fun _ => by kernel_rfl
theorem yn7 (v0 v3 : AV) (h : Heap) : yl3 v0 v3 h = (y15v v0 v3 h) :=
  y1w.trans ((y1b _ _ _ (n' := ycm) (fun s => yl8 s)).trans ((y1o7 _).trans (by kernel_rfl)))
theorem y1ms : T1 y19k yd9 xN [.t 2] ycm := fun s => yw.trans (yl8 s)
theorem y1sg : T0 y1a2 [.t 2] ycm := sq y1r8 y1ms
def y20m (v0 : AV) (h : Heap) : OX :=
(yl3 v0 (AV.int .i64 0) h)
def y256 (s : St) : OX := y20m (s 0) s.h
theorem y1nt : T0 y188 [.t 2] y256 := sq y1sg fun _ => by kernel_rfl
def y21j (v0 : AV) (h : Heap) : OX :=
(y20m v0 h)
def y24b (s : St) : OX := y21j (s 0) s.h
theorem y1s6 : T0 y1h0 [.t 2] y24b := sq y1nt fun _ => by kernel_rfl
@[simp] theorem y2cd : E.pure 44 = true := rfl
theorem x_q9 (v0 : AV) : (y8 E).p 44 [v0] = y21j v0 [] :=
  (y10 (cf := c_q9) (by kernel_rfl) rfl).trans ((y1s6 _).trans (by kernel_rfl))
def q7_1 (h : Heap) : OX :=
(yf h (AV.bool true))
def ygh (s : St) : OX := q7_1 s.h
theorem y1xv : T0 y1vd [.t 4] ygh := fun _ => by kernel_rfl
def y16f (v1 v17 v18 v19 : AV) (h : Heap) : OX :=
  W E 0 ypf ⟨[(1, v1), (17, v17), (18, v18), (19, v19)], h⟩ ygh (y4 0 ygh xN) (finP [.t 4])
def yfx (s : St) : OX := y16f (s 1) (s 17) (s 18) (s 19) s.h
theorem ysb : T1 ypf ygh (y4 0 ygh xN) [.t 4] yfx := fun s => yk.trans (by kernel_rfl)
def q7_3 (v1 v17 v18 v19 : AV) (h : Heap) : OX :=
ob (y5 .add v19 (AV.int .i64 1)) fun v71 =>
(y16f v1 v17 v18 v71 h)
def y2ec (s : St) : OX := q7_3 (s 1) (s 17) (s 18) (s 19) s.h
theorem y22v : T1 y1ug yfx (y4 0 ygh xN) [.t 4] y2ec := fun _ => by kernel_rfl
def q7_4 (v1 v17 v18 v19 : AV) (h : Heap) : OX :=
ob (yv 1 v17 v19) fun v21 =>
ob (evLd false 1 v21 h) fun v22 =>
ob (y5 .geq v22 (AV.int .u8 97)) fun v24 =>
gb v24 true (some v22) fun v26 =>
gb v24 true (y5 .leq v26 (AV.int .u8 122)) fun v27 =>
ob (ye v24 v27 (AV.bool false)) fun v28 =>
gb v28 false (some v22) fun v30 =>
gb v28 false (y5 .geq v30 (AV.int .u8 65)) fun v31 =>
gb v28 false (some v31) fun v32 =>
gb v32 true (some v22) fun v33 =>
gb v32 true (y5 .leq v33 (AV.int .u8 90)) fun v34 =>
gb v28 false (ye v32 v34 (AV.bool false)) fun v35 =>
ob (ye v28 (AV.bool true) v35) fun v36 =>
gb v36 false (some v22) fun v38 =>
gb v36 false (y5 .geq v38 (AV.int .u8 48)) fun v39 =>
gb v36 false (some v39) fun v40 =>
gb v40 true (some v22) fun v41 =>
gb v40 true (y5 .leq v41 (AV.int .u8 57)) fun v42 =>
gb v36 false (ye v40 v42 (AV.bool false)) fun v43 =>
ob (ye v36 (AV.bool true) v43) fun v44 =>
gb v44 false (some v22) fun v46 =>
gb v44 false (y5 .eql v46 (AV.int .u8 95)) fun v47 =>
ob (ye v44 (AV.bool true) v47) fun v48 =>
gb v48 false (some v22) fun v50 =>
gb v48 false (y5 .eql v50 (AV.int .u8 36)) fun v51 =>
ob (ye v48 (AV.bool true) v51) fun v52 =>
gb v52 false (some v22) fun v54 =>
gb v52 false (y5 .eql v54 (AV.int .u8 47)) fun v55 =>
ob (ye v52 (AV.bool true) v55) fun v56 =>
ob (evUn .not v56) fun v58 =>
gb v58 true (some v1) fun v60 =>
gb v58 true (some v60) fun v61 =>
gb v61 true (some v22) fun v62 =>
gb v61 true (y5 .eql v62 (AV.int .u8 60)) fun v63 =>
gb v61 true (some v63) fun v64 =>
gb v64 false (some v22) fun v65 =>
gb v64 false (y5 .eql v65 (AV.int .u8 62)) fun v66 =>
gb v61 true (ye v64 (AV.bool true) v66) fun v67 =>
gb v58 true (ye v61 v67 (AV.bool false)) fun v68 =>
gb v58 true (evUn .not v68) fun v69 =>
ob (ye v58 v69 (AV.bool false)) fun v70 =>
cnd v70
 ((yf h (AV.bool false)))
 ((q7_3 v1 v17 v18 v19 h))
def y2e3 (s : St) : OX := q7_4 (s 1) (s 17) (s 18) (s 19) s.h
theorem y1zg : T1 y1vb yfx (y4 0 ygh xN) [.t 4] y2e3 := sq y22v fun _ => by kernel_rfl
def q7_5 (v1 v17 v18 v19 v20 : AV) (h : Heap) : OX :=
cnd v20
 ((q7_4 v1 v17 v18 v19 h))
 ((q7_1 h))
def y2am (s : St) : OX := q7_5 (s 1) (s 17) (s 18) (s 19) (s 20) s.h
theorem y1yg : T1 y1tq yfx (y4 0 ygh xN) [.t 4] y2am := sq y1zg fun _ => by kernel_rfl
def q7_6 (v1 v17 v18 v19 : AV) (h : Heap) : OX :=
ob (y5 .lss v19 v18) fun v20 =>
(q7_5 v1 v17 v18 v19 v20 h)
def y2e5 (s : St) : OX := q7_6 (s 1) (s 17) (s 18) (s 19) s.h
theorem y21v : T1 y1uf yfx (y4 0 ygh xN) [.t 4] y2e5 := sq y1yg fun _ => by kernel_rfl
theorem yri (v1 v17 v18 v19 : AV) (h : Heap) : y16f v1 v17 v18 v19 h = (q7_6 v1 v17 v18 v19 h) :=
  y1w.trans ((y1b _ _ _ (n' := yfx) (fun s => ysb s)).trans ((y21v _).trans (by kernel_rfl)))
theorem y1yr : T1 y1uc ygh xN [.t 4] yfx := fun s => yw.trans (ysb s)
def q7_8 (v0 v1 : AV) (h : Heap) : OX :=
oh (s2bC 0 (some 0) v0 h) fun v17 h1 =>
ob (y14 1 v17 h1) fun v18 =>
(y16f v1 v17 v18 (AV.int .i64 0) h1)
def y23z (s : St) : OX := q7_8 (s 0) (s 1) s.h
theorem y203 : T1 y1ve ygh xN [.t 4] y23z := sq y1yr fun _ => by kernel_rfl
theorem y1vz : T0 y1uk [.t 4] y23z := sq y1xv y203
def y1jl (v0 v1 : AV) (h : Heap) : OX :=
ob (y14 0 v0 h) fun v9 =>
ob (y5 .lss v9 (AV.int .i64 1)) fun v10 =>
gb v10 false (some v0) fun v12 =>
gb v10 false (y14 0 v12 h) fun v13 =>
gb v10 false (y5 .gtr v13 (AV.int .i64 60)) fun v14 =>
ob (ye v10 (AV.bool true) v14) fun v15 =>
cnd v15
 ((yf h (AV.bool false)))
 ((q7_8 v0 v1 h))
def y26r (s : St) : OX := y1jl (s 0) (s 1) s.h
theorem y1s2 : T0 y17a [.t 4] y26r := sq y1vz fun _ => by kernel_rfl
def y14e (v0 v1 : AV) (h : Heap) : OX :=
(y1jl v0 v1 h)
def y289 (s : St) : OX := y14e (s 0) (s 1) s.h
theorem y1t8 : T0 y12m [.t 4] y289 := sq y1s2 fun _ => by kernel_rfl
@[simp] theorem y2ds : E.pure 60 = true := rfl
theorem x_q7 (v0 v1 : AV) : (y8 E).p 60 [v0, v1] = y14e v0 v1 [⟨0, .dead⟩] :=
  (y10 (cf := c_q7) (by kernel_rfl) rfl).trans ((y1t8 _).trans (by kernel_rfl))
end
end Go.Vm
