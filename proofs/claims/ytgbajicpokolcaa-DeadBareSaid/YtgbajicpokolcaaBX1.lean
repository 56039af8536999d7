/- Functions of the machine as plain functions that go on with what follows. -/
import Derived.Test.YtgbajicpokolcaaBEnv
set_option linter.unusedSimpArgs false
set_option linter.unusedVariables false
set_option linter.unusedSectionVars false
namespace Go.Vm
noncomputable section
def ygs (v1 v2 : AV) (h : Heap) : OX :=
ob (evLd true 9 v1 h) fun v138 =>
oh (y6 E (y7 E) 0 none true 51 [v138] h) fun v139 h1 =>
ob (ybt 0 v139) fun v140 =>
ob (ybt 1 v139) fun v141 =>
oh (evSt 4 v2 v140 h1) fun _ h2 =>
(ob (evLd true 4 v2 h2) fun r0 =>
  yc h2 (.tup [r0, v141]))
def ym (s : St) : OX := ygs (s 1) (s 2) s.h
theorem y22j : T0 y1xc [.cell 2 true 4, .t 3] ym := fun _ => by kernel_rfl
def yfo (v1 v2 v134 : AV) (h : Heap) : OX :=
cnd v134
 (ob (y1b [(.int .i64 0), (.int .i64 0), (.int .i64 0), (.int .i64 0)] [(0, 1, (AV.int .i64 (-1))), (1, 1, (AV.int .i64 (-1))), (2, 1, (AV.int .i64 (-1))), (3, 1, (AV.int .i64 (-1)))]) fun v137 =>
oh (evSt 4 v2 v137 h) fun _ h3 =>
(ob (evLd true 4 v2 h3) fun r0 =>
  yc h3 (.tup [r0, (AV.bool true)])))
 ((ygs v1 v2 h))
def y2l9 (s : St) : OX := yfo (s 1) (s 2) (s 134) s.h
theorem y253 : T1 y1hw ym (y4 0 ym xN) [.cell 2 true 4, .t 3] y2l9 := fun _ => by kernel_rfl
def ygr (v1 v2 v11 : AV) (h : Heap) : OX :=
ob (y5 .eql v11 (AV.int .i64 27)) fun v135 =>
cnd v135
 ((yfo v1 v2 v135 h))
 (ob (y5 .eql v11 (AV.int .i64 33)) fun v136 =>
(yfo v1 v2 v136 h))
def y2jy (s : St) : OX := ygr (s 1) (s 2) (s 11) s.h
theorem y205 : T1 y1kx ym (y4 0 ym xN) [.cell 2 true 4, .t 3] y2jy := sq y253 fun _ => by kernel_rfl
def ygk (v1 v2 v11 v123 : AV) (h : Heap) : OX :=
cnd v123
 (ob (y1b [(.int .i64 0), (.int .i64 0), (.int .i64 0), (.int .i64 0)] [(0, 1, (AV.int .i64 (-1))), (1, 1, (AV.int .i64 1)), (2, 1, (AV.int .i64 1)), (3, 1, (AV.int .i64 (-1)))]) fun v125 =>
ob (evFa 5 v1) fun v126 =>
ob (evLd false 1 v126 h) fun v127 =>
ob (y5 .geq v127 (AV.int .i64 0)) fun v128 =>
ofp (fgd v128 true (some ([], []))) fun f5 =>
gb v128 true (evFa 5 v1) fun v130 =>
ofp (fgd v128 true (some (ids1 v130, []))) fun f6 =>
gb v128 true (evLd false 1 v130 h) fun v131 =>
ofp (fgd v128 true (some ([], []))) fun f7 =>
gb v128 true (y5 .leq v131 (AV.int .i64 5)) fun v132 =>
ob (y8 v128 v132 (AV.bool false)) fun v133 =>
oh (evSt 4 v2 v125 h) fun _ h4 =>
okK (yf [([], []), ([], []), (ids1 v126, []), ([], []), ([], []), f5, f6, f7, ([], []), ([], ids1 v2), ([], [])] [(6, 9)]) <|
(ob (evLd true 4 v2 h4) fun r0 =>
  yc h4 (.tup [r0, v133])))
 ((ygr v1 v2 v11 h))
def y2nq (s : St) : OX := ygk (s 1) (s 2) (s 11) (s 123) s.h
theorem y1zn : T1 y1pi ym (y4 0 ym xN) [.cell 2 true 4, .t 3] y2nq := fun s => (y1d rfl (y205 s)).trans (by kernel_rfl)
def ygn (v1 v2 v11 : AV) (h : Heap) : OX :=
ob (y5 .eql v11 (AV.int .i64 28)) fun v124 =>
(ygk v1 v2 v11 v124 h)
def y2iw (s : St) : OX := ygn (s 1) (s 2) (s 11) s.h
theorem y23b : T1 y1p1 ym (y4 0 ym xN) [.cell 2 true 4, .t 3] y2iw := sq y1zn fun _ => by kernel_rfl
def ygt (v1 v2 v11 v117 : AV) (h : Heap) : OX :=
cnd v117
 (ob (y1b [(.int .i64 0), (.int .i64 0), (.int .i64 0), (.int .i64 0)] [(0, 1, (AV.int .i64 3)), (1, 1, (AV.int .i64 1)), (2, 1, (AV.int .i64 (-1))), (3, 1, (AV.int .i64 (-1)))]) fun v119 =>
ob (evFa 7 v1) fun v120 =>
ob (evLd false 1 v120 h) fun v121 =>
oh (y6 E (y7 E) 0 none true 37 [v121] h) fun v122 h5 =>
oh (evSt 4 v2 v119 h5) fun _ h6 =>
(ob (evLd true 4 v2 h6) fun r0 =>
  yc h6 (.tup [r0, v122])))
 ((ygn v1 v2 v11 h))
def y2l5 (s : St) : OX := ygt (s 1) (s 2) (s 11) (s 117) s.h
theorem y1zr : T1 y1t7 ym (y4 0 ym xN) [.cell 2 true 4, .t 3] y2l5 := fun s => (y1d rfl (y23b s)).trans (by kernel_rfl)
def ygq (v1 v2 v11 : AV) (h : Heap) : OX :=
ob (y5 .eql v11 (AV.int .i64 21)) fun v118 =>
(ygt v1 v2 v11 v118 h)
def y2im (s : St) : OX := ygq (s 1) (s 2) (s 11) s.h
theorem y221 : T1 y1pl ym (y4 0 ym xN) [.cell 2 true 4, .t 3] y2im := sq y1zr fun _ => by kernel_rfl
def ygm (v1 v2 v11 v114 : AV) (h : Heap) : OX :=
cnd v114
 (ob (y1b [(.int .i64 0), (.int .i64 0), (.int .i64 0), (.int .i64 0)] [(0, 1, (AV.int .i64 (-1))), (1, 1, (AV.int .i64 0)), (2, 1, (AV.int .i64 (-1))), (3, 1, (AV.int .i64 (-1)))]) fun v116 =>
oh (evSt 4 v2 v116 h) fun _ h7 =>
(ob (evLd true 4 v2 h7) fun r0 =>
  yc h7 (.tup [r0, (AV.bool true)])))
 ((ygq v1 v2 v11 h))
def y2ji (s : St) : OX := ygm (s 1) (s 2) (s 11) (s 114) s.h
theorem y1yq : T1 y1qf ym (y4 0 ym xN) [.cell 2 true 4, .t 3] y2ji := fun s => (y1d rfl (y221 s)).trans (by kernel_rfl)
def ygp (v1 v2 v11 : AV) (h : Heap) : OX :=
ob (y5 .eql v11 (AV.int .i64 19)) fun v115 =>
(ygm v1 v2 v11 v115 h)
def y2iv (s : St) : OX := ygp (s 1) (s 2) (s 11) s.h
theorem y20r : T1 y1kr ym (y4 0 ym xN) [.cell 2 true 4, .t 3] y2iv := sq y1yq fun _ => by kernel_rfl
def y9e (v1 v2 v11 v108 : AV) (h : Heap) : OX :=
cnd v108
 (ob (y1b [(.int .i64 0), (.int .i64 0), (.int .i64 0), (.int .i64 0)] [(0, 1, (AV.int .i64 (-1))), (1, 1, (AV.int .i64 3)), (2, 1, (AV.int .i64 0)), (3, 1, (AV.int .i64 (-1)))]) fun v110 =>
ob (evFa 5 v1) fun v111 =>
ob (evLd false 1 v111 h) fun v112 =>
ob (y5 .geq v112 (AV.int .i64 0)) fun v113 =>
oh (evSt 4 v2 v110 h) fun _ h8 =>
okK (yf [([], []), ([], []), (ids1 v111, []), ([], []), ([], ids1 v2), ([], [])] [(2, 4)]) <|
(ob (evLd true 4 v2 h8) fun r0 =>
  yc h8 (.tup [r0, v113])))
 ((ygp v1 v2 v11 h))
def y2fo (s : St) : OX := y9e (s 1) (s 2) (s 11) (s 108) s.h
theorem y1k4 : T1 yy4 ym (y4 0 ym xN) [.cell 2 true 4, .t 3] y2fo := fun s => (y1d rfl (y20r s)).trans (by kernel_rfl)
def y9a (v1 v2 v11 : AV) (h : Heap) : OX :=
ob (y5 .eql v11 (AV.int .i64 17)) fun v109 =>
(y9e v1 v2 v11 v109 h)
def y2an (s : St) : OX := y9a (s 1) (s 2) (s 11) s.h
theorem y1vf : T1 y11z ym (y4 0 ym xN) [.cell 2 true 4, .t 3] y2an := sq y1k4 fun _ => by kernel_rfl
def y8w (v1 v2 v11 v102 : AV) (h : Heap) : OX :=
cnd v102
 (ob (y1b [(.int .i64 0), (.int .i64 0), (.int .i64 0), (.int .i64 0)] [(0, 1, (AV.int .i64 0)), (1, 1, (AV.int .i64 3)), (2, 1, (AV.int .i64 (-1))), (3, 1, (AV.int .i64 (-1)))]) fun v104 =>
ob (evFa 5 v1) fun v105 =>
ob (evLd false 1 v105 h) fun v106 =>
ob (y5 .geq v106 (AV.int .i64 0)) fun v107 =>
oh (evSt 4 v2 v104 h) fun _ h9 =>
okK (yf [([], []), ([], []), (ids1 v105, []), ([], []), ([], ids1 v2), ([], [])] [(2, 4)]) <|
(ob (evLd true 4 v2 h9) fun r0 =>
  yc h9 (.tup [r0, v107])))
 ((y9a v1 v2 v11 h))
def y2ga (s : St) : OX := y8w (s 1) (s 2) (s 11) (s 102) s.h
theorem y1km : T1 y17y ym (y4 0 ym xN) [.cell 2 true 4, .t 3] y2ga := fun s => (y1d rfl (y1vf s)).trans (by kernel_rfl)
def y8s (v1 v2 v11 : AV) (h : Heap) : OX :=
ob (y5 .eql v11 (AV.int .i64 16)) fun v103 =>
(y8w v1 v2 v11 v103 h)
def y2gj (s : St) : OX := y8s (s 1) (s 2) (s 11) s.h
theorem y1f8 : T1 y16k ym (y4 0 ym xN) [.cell 2 true 4, .t 3] y2gj := sq y1km fun _ => by kernel_rfl
def y8y (v1 v2 v11 v99 : AV) (h : Heap) : OX :=
cnd v99
 (ob (y1b [(.int .i64 0), (.int .i64 0), (.int .i64 0), (.int .i64 0)] [(0, 1, (AV.int .i64 1)), (1, 1, (AV.int .i64 3)), (2, 1, (AV.int .i64 (-1))), (3, 1, (AV.int .i64 (-1)))]) fun v101 =>
oh (evSt 4 v2 v101 h) fun _ h10 =>
(ob (evLd true 4 v2 h10) fun r0 =>
  yc h10 (.tup [r0, (AV.bool true)])))
 ((y8s v1 v2 v11 h))
def y2b8 (s : St) : OX := y8y (s 1) (s 2) (s 11) (s 99) s.h
theorem y1v7 : T1 yym ym (y4 0 ym xN) [.cell 2 true 4, .t 3] y2b8 := fun s => (y1d rfl (y1f8 s)).trans (by kernel_rfl)
def y95 (v1 v2 v11 : AV) (h : Heap) : OX :=
ob (y5 .eql v11 (AV.int .i64 15)) fun v100 =>
(y8y v1 v2 v11 v100 h)
def y2fv (s : St) : OX := y95 (s 1) (s 2) (s 11) s.h
theorem y1uu : T1 y15p ym (y4 0 ym xN) [.cell 2 true 4, .t 3] y2fv := sq y1v7 fun _ => by kernel_rfl
def y9l (v1 v2 v11 v96 : AV) (h : Heap) : OX :=
cnd v96
 (ob (y1b [(.int .i64 0), (.int .i64 0), (.int .i64 0), (.int .i64 0)] [(0, 1, (AV.int .i64 (-1))), (1, 1, (AV.int .i64 3)), (2, 1, (AV.int .i64 1)), (3, 1, (AV.int .i64 0))]) fun v98 =>
oh (evSt 4 v2 v98 h) fun _ h11 =>
(ob (evLd true 4 v2 h11) fun r0 =>
  yc h11 (.tup [r0, (AV.bool true)])))
 ((y95 v1 v2 v11 h))
def y2ha (s : St) : OX := y9l (s 1) (s 2) (s 11) (s 96) s.h
theorem y1vk : T1 y18c ym (y4 0 ym xN) [.cell 2 true 4, .t 3] y2ha := fun s => (y1d rfl (y1uu s)).trans (by kernel_rfl)
def y93 (v1 v2 v11 : AV) (h : Heap) : OX :=
ob (y5 .eql v11 (AV.int .i64 14)) fun v97 =>
(y9l v1 v2 v11 v97 h)
def y2do (s : St) : OX := y93 (s 1) (s 2) (s 11) s.h
theorem y1vd : T1 y13q ym (y4 0 ym xN) [.cell 2 true 4, .t 3] y2do := sq y1vk fun _ => by kernel_rfl
def y8z (v1 v2 v11 v93 : AV) (h : Heap) : OX :=
cnd v93
 (ob (y1b [(.int .i64 0), (.int .i64 0), (.int .i64 0), (.int .i64 0)] [(0, 1, (AV.int .i64 0)), (1, 1, (AV.int .i64 3)), (2, 1, (AV.int .i64 1)), (3, 1, (AV.int .i64 (-1)))]) fun v95 =>
oh (evSt 4 v2 v95 h) fun _ h12 =>
(ob (evLd true 4 v2 h12) fun r0 =>
  yc h12 (.tup [r0, (AV.bool true)])))
 ((y93 v1 v2 v11 h))
def y2a4 (s : St) : OX := y8z (s 1) (s 2) (s 11) (s 93) s.h
theorem y1f0 : T1 y0i ym (y4 0 ym xN) [.cell 2 true 4, .t 3] y2a4 := fun s => (y1d rfl (y1vd s)).trans (by kernel_rfl)
def y8p (v1 v2 v11 : AV) (h : Heap) : OX :=
ob (y5 .eql v11 (AV.int .i64 13)) fun v94 =>
(y8z v1 v2 v11 v94 h)
def y2ge (s : St) : OX := y8p (s 1) (s 2) (s 11) s.h
theorem y1ug : T1 yzb ym (y4 0 ym xN) [.cell 2 true 4, .t 3] y2ge := sq y1f0 fun _ => by kernel_rfl
def y96 (v1 v2 v11 v90 : AV) (h : Heap) : OX :=
cnd v90
 (ob (y1b [(.int .i64 0), (.int .i64 0), (.int .i64 0), (.int .i64 0)] [(0, 1, (AV.int .i64 (-1))), (1, 1, (AV.int .i64 3)), (2, 1, (AV.int .i64 3)), (3, 1, (AV.int .i64 (-1)))]) fun v92 =>
oh (evSt 4 v2 v92 h) fun _ h13 =>
(ob (evLd true 4 v2 h13) fun r0 =>
  yc h13 (.tup [r0, (AV.bool true)])))
 ((y8p v1 v2 v11 h))
def y29l (s : St) : OX := y96 (s 1) (s 2) (s 11) (s 90) s.h
theorem y1gx : T1 y18n ym (y4 0 ym xN) [.cell 2 true 4, .t 3] y29l := fun s => (y1d rfl (y1ug s)).trans (by kernel_rfl)
def y9k (v1 v2 v11 : AV) (h : Heap) : OX :=
ob (y5 .eql v11 (AV.int .i64 11)) fun v91 =>
(y96 v1 v2 v11 v91 h)
def y2ai (s : St) : OX := y9k (s 1) (s 2) (s 11) s.h
theorem y1jy : T1 y12q ym (y4 0 ym xN) [.cell 2 true 4, .t 3] y2ai := sq y1gx fun _ => by kernel_rfl
def y9j (v1 v2 v11 v87 : AV) (h : Heap) : OX :=
cnd v87
 (ob (y1b [(.int .i64 0), (.int .i64 0), (.int .i64 0), (.int .i64 0)] [(0, 1, (AV.int .i64 (-1))), (1, 1, (AV.int .i64 1)), (2, 1, (AV.int .i64 (-1))), (3, 1, (AV.int .i64 (-1)))]) fun v89 =>
oh (evSt 4 v2 v89 h) fun _ h14 =>
(ob (evLd true 4 v2 h14) fun r0 =>
  yc h14 (.tup [r0, (AV.bool true)])))
 ((y9k v1 v2 v11 h))
def y2g8 (s : St) : OX := y9j (s 1) (s 2) (s 11) (s 87) s.h
theorem y1x9 : T1 y11y ym (y4 0 ym xN) [.cell 2 true 4, .t 3] y2g8 := fun s => (y1d rfl (y1jy s)).trans (by kernel_rfl)
def y9f (v1 v2 v11 : AV) (h : Heap) : OX :=
ob (y5 .eql v11 (AV.int .i64 10)) fun v88 =>
(y9j v1 v2 v11 v88 h)
def y29m (s : St) : OX := y9f (s 1) (s 2) (s 11) s.h
theorem y1ow : T1 yy0 ym (y4 0 ym xN) [.cell 2 true 4, .t 3] y29m := sq y1x9 fun _ => by kernel_rfl
def y90 (v1 v2 v11 v84 : AV) (h : Heap) : OX :=
cnd v84
 (ob (y1b [(.int .i64 0), (.int .i64 0), (.int .i64 0), (.int .i64 0)] [(0, 1, (AV.int .i64 (-1))), (1, 1, (AV.int .i64 3)), (2, 1, (AV.int .i64 1)), (3, 1, (AV.int .i64 (-1)))]) fun v86 =>
oh (evSt 4 v2 v86 h) fun _ h15 =>
(ob (evLd true 4 v2 h15) fun r0 =>
  yc h15 (.tup [r0, (AV.bool true)])))
 ((y9f v1 v2 v11 h))
def y28o (s : St) : OX := y90 (s 1) (s 2) (s 11) (s 84) s.h
theorem y1ej : T1 y144 ym (y4 0 ym xN) [.cell 2 true 4, .t 3] y28o := fun s => (y1d rfl (y1ow s)).trans (by kernel_rfl)
def y9p (v1 v2 v11 : AV) (h : Heap) : OX :=
ob (y5 .eql v11 (AV.int .i64 9)) fun v85 =>
(y90 v1 v2 v11 v85 h)
def y2e2 (s : St) : OX := y9p (s 1) (s 2) (s 11) s.h
theorem y1nf : T1 y16y ym (y4 0 ym xN) [.cell 2 true 4, .t 3] y2e2 := sq y1ej fun _ => by kernel_rfl
def y9m (v1 v2 v11 v78 : AV) (h : Heap) : OX :=
cnd v78
 (ob (y1b [(.int .i64 0), (.int .i64 0), (.int .i64 0), (.int .i64 0)] [(0, 1, (AV.int .i64 1)), (1, 1, (AV.int .i64 3)), (2, 1, (AV.int .i64 (-1))), (3, 1, (AV.int .i64 (-1)))]) fun v80 =>
ob (evFa 7 v1) fun v81 =>
ob (evLd false 1 v81 h) fun v82 =>
oh (y6 E (y7 E) 0 none true 37 [v82] h) fun v83 h16 =>
oh (evSt 4 v2 v80 h16) fun _ h17 =>
(ob (evLd true 4 v2 h17) fun r0 =>
  yc h17 (.tup [r0, v83])))
 ((y9p v1 v2 v11 h))
def y2eq (s : St) : OX := y9m (s 1) (s 2) (s 11) (s 78) s.h
theorem y1fy : T1 y0o ym (y4 0 ym xN) [.cell 2 true 4, .t 3] y2eq := fun s => (y1d rfl (y1nf s)).trans (by kernel_rfl)
def y8q (v1 v2 v11 : AV) (h : Heap) : OX :=
ob (y5 .eql v11 (AV.int .i64 22)) fun v79 =>
(y9m v1 v2 v11 v79 h)
def y2dr (s : St) : OX := y8q (s 1) (s 2) (s 11) s.h
theorem y1t1 : T1 y151 ym (y4 0 ym xN) [.cell 2 true 4, .t 3] y2dr := sq y1fy fun _ => by kernel_rfl
def y9n (v1 v2 v11 v72 : AV) (h : Heap) : OX :=
cnd v72
 (ob (y1b [(.int .i64 0), (.int .i64 0), (.int .i64 0), (.int .i64 0)] [(0, 1, (AV.int .i64 (-1))), (1, 1, (AV.int .i64 3)), (2, 1, (AV.int .i64 (-1))), (3, 1, (AV.int .i64 (-1)))]) fun v74 =>
ob (evFa 7 v1) fun v75 =>
ob (evLd false 1 v75 h) fun v76 =>
oh (y6 E (y7 E) 0 none true 37 [v76] h) fun v77 h18 =>
oh (evSt 4 v2 v74 h18) fun _ h19 =>
(ob (evLd true 4 v2 h19) fun r0 =>
  yc h19 (.tup [r0, v77])))
 ((y8q v1 v2 v11 h))
def y2bi (s : St) : OX := y9n (s 1) (s 2) (s 11) (s 72) s.h
theorem y1uw : T1 y124 ym (y4 0 ym xN) [.cell 2 true 4, .t 3] y2bi := fun s => (y1d rfl (y1t1 s)).trans (by kernel_rfl)
def y8u (v1 v2 v11 : AV) (h : Heap) : OX :=
ob (y5 .eql v11 (AV.int .i64 12)) fun v73 =>
(y9n v1 v2 v11 v73 h)
def y29w (s : St) : OX := y8u (s 1) (s 2) (s 11) s.h
theorem y1ic : T1 y11b ym (y4 0 ym xN) [.cell 2 true 4, .t 3] y29w := sq y1uw fun _ => by kernel_rfl
def y7l (v1 v2 v11 v68 : AV) (h : Heap) : OX :=
cnd v68
 (ob (y1b [(.int .i64 0), (.int .i64 0), (.int .i64 0), (.int .i64 0)] [(0, 1, (AV.int .i64 (-1))), (1, 1, (AV.int .i64 3)), (2, 1, (AV.int .i64 (-1))), (3, 1, (AV.int .i64 (-1)))]) fun v71 =>
oh (evSt 4 v2 v71 h) fun _ h20 =>
(ob (evLd true 4 v2 h20) fun r0 =>
  yc h20 (.tup [r0, (AV.bool true)])))
 ((y8u v1 v2 v11 h))
def y2am (s : St) : OX := y7l (s 1) (s 2) (s 11) (s 68) s.h
theorem y1h1 : T1 y117 ym (y4 0 ym xN) [.cell 2 true 4, .t 3] y2am := fun s => (y1d rfl (y1ic s)).trans (by kernel_rfl)
def y91 (v1 v2 v11 : AV) (h : Heap) : OX :=
ob (y5 .eql v11 (AV.int .i64 8)) fun v69 =>
cnd v69
 ((y7l v1 v2 v11 v69 h))
 (ob (y5 .eql v11 (AV.int .i64 31)) fun v70 =>
(y7l v1 v2 v11 v70 h))
def y29g (s : St) : OX := y91 (s 1) (s 2) (s 11) s.h
theorem y1ru : T1 y15y ym (y4 0 ym xN) [.cell 2 true 4, .t 3] y29g := sq y1h1 fun _ => by kernel_rfl
def y9q (v1 v2 v11 v65 : AV) (h : Heap) : OX :=
cnd v65
 (ob (y1b [(.int .i64 0), (.int .i64 0), (.int .i64 0), (.int .i64 0)] [(0, 1, (AV.int .i64 (-1))), (1, 1, (AV.int .i64 0)), (2, 1, (AV.int .i64 (-1))), (3, 1, (AV.int .i64 (-1)))]) fun v67 =>
oh (evSt 4 v2 v67 h) fun _ h21 =>
(ob (evLd true 4 v2 h21) fun r0 =>
  yc h21 (.tup [r0, (AV.bool true)])))
 ((y91 v1 v2 v11 h))
def y2ew (s : St) : OX := y9q (s 1) (s 2) (s 11) (s 65) s.h
theorem y1nk : T1 y189 ym (y4 0 ym xN) [.cell 2 true 4, .t 3] y2ew := fun s => (y1d rfl (y1ru s)).trans (by kernel_rfl)
def y92 (v1 v2 v11 : AV) (h : Heap) : OX :=
ob (y5 .eql v11 (AV.int .i64 7)) fun v66 =>
(y9q v1 v2 v11 v66 h)
def y2da (s : St) : OX := y92 (s 1) (s 2) (s 11) s.h
theorem y1o9 : T1 y12b ym (y4 0 ym xN) [.cell 2 true 4, .t 3] y2da := sq y1nk fun _ => by kernel_rfl
def y9g (v1 v2 v11 v47 : AV) (h : Heap) : OX :=
cnd v47
 (ob (evFa 5 v1) fun v50 =>
ob (evLd false 1 v50 h) fun v51 =>
oh (y6 E (y7 E) 0 none true 50 [v51] h) fun v52 h22 =>
ob (ybt 0 v52) fun v53 =>
ob (ybt 1 v52) fun v54 =>
ob (ybt 2 v52) fun v55 =>
ob (y1b [(.int .i64 0), (.int .i64 0), (.int .i64 0), (.int .i64 0)] [(0, 1, v55), (1, 1, v53), (2, 1, (AV.int .i64 (-1))), (3, 1, (AV.int .i64 (-1)))]) fun v58 =>
ob (y5 .neq v53 (AV.int .i64 0)) fun v60 =>
gb v60 true (some v54) fun v62 =>
gb v60 true (y5 .eql v62 (AV.int .i64 0)) fun v63 =>
ob (y8 v60 v63 (AV.bool false)) fun v64 =>
oh (evSt 4 v2 v58 h22) fun _ h23 =>
(ob (evLd true 4 v2 h23) fun r0 =>
  yc h23 (.tup [r0, v64])))
 ((y92 v1 v2 v11 h))
def y2cc (s : St) : OX := y9g (s 1) (s 2) (s 11) (s 47) s.h
theorem y1s8 : T1 y16r ym (y4 0 ym xN) [.cell 2 true 4, .t 3] y2cc := fun s => (y1d rfl (y1o9 s)).trans (by kernel_rfl)
def y9i (v1 v2 v11 : AV) (h : Heap) : OX :=
ob (y5 .eql v11 (AV.int .i64 6)) fun v48 =>
(y9g v1 v2 v11 v48 h)
def y2f1 (s : St) : OX := y9i (s 1) (s 2) (s 11) s.h
theorem y1wm : T1 yzi ym (y4 0 ym xN) [.cell 2 true 4, .t 3] y2f1 := sq y1s8 fun _ => by kernel_rfl
def y8v (v1 v2 v11 v25 : AV) (h : Heap) : OX :=
cnd v25
 (ob (evFa 5 v1) fun v28 =>
ob (evLd false 1 v28 h) fun v29 =>
oh (y6 E (y7 E) 0 none true 50 [v29] h) fun v30 h24 =>
ob (ybt 0 v30) fun v31 =>
ob (ybt 1 v30) fun v32 =>
ob (ybt 2 v30) fun v33 =>
ob (y1b [(.int .i64 0), (.int .i64 0), (.int .i64 0), (.int .i64 0)] [(0, 1, v33), (1, 1, v31), (2, 1, v32), (3, 1, (AV.int .i64 (-1)))]) fun v37 =>
ob (evFa 5 v1) fun v38 =>
ob (evLd false 1 v38 h24) fun v39 =>
ob (evFa 5 v1) fun v40 =>
ob (evLd false 1 v40 h24) fun v41 =>
ob (y5 .eql v39 v41) fun v42 =>
gb v42 true (some v32) fun v44 =>
gb v42 true (y5 .neq v44 (AV.int .i64 0)) fun v45 =>
ob (y8 v42 v45 (AV.bool false)) fun v46 =>
oh (evSt 4 v2 v37 h24) fun _ h25 =>
(ob (evLd true 4 v2 h25) fun r0 =>
  yc h25 (.tup [r0, v46])))
 ((y9i v1 v2 v11 h))
def y2f4 (s : St) : OX := y8v (s 1) (s 2) (s 11) (s 25) s.h
theorem y1un : T1 y11t ym (y4 0 ym xN) [.cell 2 true 4, .t 3] y2f4 := fun s => (y1d rfl (y1wm s)).trans (by kernel_rfl)
def y9o (v1 v2 v11 : AV) (h : Heap) : OX :=
ob (y5 .eql v11 (AV.int .i64 5)) fun v26 =>
(y8v v1 v2 v11 v26 h)
def y2dy (s : St) : OX := y9o (s 1) (s 2) (s 11) s.h
theorem y1f2 : T1 y190 ym (y4 0 ym xN) [.cell 2 true 4, .t 3] y2dy := sq y1un fun _ => by kernel_rfl
def y8x (v1 v2 v11 v22 : AV) (h : Heap) : OX :=
cnd v22
 (ob (y1b [(.int .i64 0), (.int .i64 0), (.int .i64 0), (.int .i64 0)] [(0, 1, (AV.int .i64 0)), (1, 1, (AV.int .i64 0)), (2, 1, (AV.int .i64 (-1))), (3, 1, (AV.int .i64 (-1)))]) fun v24 =>
oh (evSt 4 v2 v24 h) fun _ h26 =>
(ob (evLd true 4 v2 h26) fun r0 =>
  yc h26 (.tup [r0, (AV.bool true)])))
 ((y9o v1 v2 v11 h))
def y2ee (s : St) : OX := y8x (s 1) (s 2) (s 11) (s 22) s.h
theorem y1to : T1 y18r ym (y4 0 ym xN) [.cell 2 true 4, .t 3] y2ee := fun s => (y1d rfl (y1f2 s)).trans (by kernel_rfl)
def y94 (v1 v2 v11 : AV) (h : Heap) : OX :=
ob (y5 .eql v11 (AV.int .i64 4)) fun v23 =>
(y8x v1 v2 v11 v23 h)
def y290 (s : St) : OX := y94 (s 1) (s 2) (s 11) s.h
theorem y1va : T1 y14f ym (y4 0 ym xN) [.cell 2 true 4, .t 3] y290 := sq y1to fun _ => by kernel_rfl
def y6p (v1 v2 v11 v16 : AV) (h : Heap) : OX :=
cnd v16
 (ob (y1b [(.int .i64 0), (.int .i64 0), (.int .i64 0), (.int .i64 0)] [(0, 1, (AV.int .i64 3)), (1, 1, (AV.int .i64 (-1))), (2, 1, (AV.int .i64 (-1))), (3, 1, (AV.int .i64 (-1)))]) fun v21 =>
oh (evSt 4 v2 v21 h) fun _ h27 =>
(ob (evLd true 4 v2 h27) fun r0 =>
  yc h27 (.tup [r0, (AV.bool true)])))
 ((y94 v1 v2 v11 h))
def y2du (s : St) : OX := y6p (s 1) (s 2) (s 11) (s 16) s.h
theorem y1t8 : T1 y11a ym (y4 0 ym xN) [.cell 2 true 4, .t 3] y2du := fun s => (y1d rfl (y1va s)).trans (by kernel_rfl)
def y9c (v1 v2 v11 : AV) (h : Heap) : OX :=
ob (y5 .eql v11 (AV.int .i64 2)) fun v17 =>
cnd v17
 ((y6p v1 v2 v11 v17 h))
 (ob (y5 .eql v11 (AV.int .i64 3)) fun v18 =>
cnd v18
 ((y6p v1 v2 v11 v18 h))
 (ob (y5 .eql v11 (AV.int .i64 20)) fun v19 =>
cnd v19
 ((y6p v1 v2 v11 v19 h))
 (ob (y5 .eql v11 (AV.int .i64 32)) fun v20 =>
(y6p v1 v2 v11 v20 h))))
def y2en (s : St) : OX := y9c (s 1) (s 2) (s 11) s.h
theorem y1on : T1 yzm ym (y4 0 ym xN) [.cell 2 true 4, .t 3] y2en := sq y1t8 fun _ => by kernel_rfl
def y7x (v1 v2 v11 v12 : AV) (h : Heap) : OX :=
cnd v12
 (ob (y1b [(.int .i64 0), (.int .i64 0), (.int .i64 0), (.int .i64 0)] [(0, 1, (AV.int .i64 0)), (1, 1, (AV.int .i64 (-1))), (2, 1, (AV.int .i64 (-1))), (3, 1, (AV.int .i64 (-1)))]) fun v15 =>
oh (evSt 4 v2 v15 h) fun _ h28 =>
(ob (evLd true 4 v2 h28) fun r0 =>
  yc h28 (.tup [r0, (AV.bool true)])))
 ((y9c v1 v2 v11 h))
def y29x (s : St) : OX := y7x (s 1) (s 2) (s 11) (s 12) s.h
theorem y1fx : T1 y19a ym (y4 0 ym xN) [.cell 2 true 4, .t 3] y29x := fun s => (y1d rfl (y1on s)).trans (by kernel_rfl)
def y9d (v1 v2 v11 : AV) (h : Heap) : OX :=
ob (y5 .eql v11 (AV.int .i64 1)) fun v13 =>
cnd v13
 ((y7x v1 v2 v11 v13 h))
 (ob (y5 .eql v11 (AV.int .i64 18)) fun v14 =>
(y7x v1 v2 v11 v14 h))
def y1f5 (s : St) : OX := y9d (s 1) (s 2) (s 11) s.h
theorem y1i3 : T1 yzs ym (y4 0 ym xN) [.cell 2 true 4, .t 3] y1f5 := sq y1fx fun _ => by kernel_rfl
theorem y1u8 : T1 y128 ym xN [.cell 2 true 4, .t 3] y1f5 := fun s => yt.trans (y1i3 s)
def y9b (v1 v2 : AV) (h : Heap) : OX :=
ob (evFa 0 v1) fun v10 =>
ob (evLd false 1 v10 h) fun v11 =>
(y9d v1 v2 v11 h)
def y1pu (s : St) : OX := y9b (s 1) (s 2) s.h
theorem y1ez : T1 y14t ym xN [.cell 2 true 4, .t 3] y1pu := sq y1u8 fun _ => by kernel_rfl
theorem y1gl : T0 y09 [.cell 2 true 4, .t 3] y1pu := sq y22j y1ez
def y9h (v0 : AV) (h : Heap) : OX :=
oh (newC 0 (some 0) (cellsOf v0) h) fun v1 h29 =>
oh (newC 0 (some 1) [(.int .i64 0), (.int .i64 0), (.int .i64 0), (.int .i64 0)] h29) fun v2 h30 =>
(y9b v1 v2 h30)
def y2ft (s : St) : OX := y9h (s 0) s.h
theorem y1fo : T0 y121 [.cell 2 true 4, .t 3] y2ft := sq y1gl fun _ => by kernel_rfl
@[simp] theorem y2qz : E.pure 47 = true := rfl
theorem y1xz (v0 : AV) : (y7 E).p 47 [v0] = y9h v0 [⟨0, .dead⟩, ⟨0, .dead⟩] :=
  (yv (cf := y2lk) (by kernel_rfl) rfl).trans ((y1fo _).trans (by kernel_rfl))
def y2e1 (fb : Nat) (v5 : AV) (h : Heap) : Option (AV × Heap) :=
(some (v5, h))
def y99 (fb : Nat) (s : St) : Option (AV × Heap) := y2e1 fb (s 5) s.h
theorem y1zx (fb : Nat) (s : St) : W E fb y1mf s (finI [.t 4]) xN (finI [.t 4]) = y99 fb s :=
  by kernel_rfl
def yqj (fb : Nat) (v0 v5 v8 v9 v10 : AV) (h : Heap) : Option (AV × Heap) :=
  W E fb yq0 ⟨[(0, v0), (5, v5), (8, v8), (9, v9), (10, v10)], h⟩ (y99 fb) (y4 0 (y99 fb) xN) (finI [.t 4])
def yan (fb : Nat) (s : St) : Option (AV × Heap) := yqj fb (s 0) (s 5) (s 8) (s 9) (s 10) s.h
theorem ysl (fb : Nat) (s : St) : W E fb yq0 s (y99 fb) (y4 0 (y99 fb) xN) (finI [.t 4]) = yan fb s := yh.trans (by kernel_rfl)
def y252 (fb : Nat) (v0 v5 v8 v9 v10 : AV) (h : Heap) : Option (AV × Heap) :=
ob (y5 .add v10 (AV.int .i64 1)) fun v32 =>
(yqj fb v0 v5 v8 v9 v32 h)
def y27o (fb : Nat) (s : St) : Option (AV × Heap) := y252 fb (s 0) (s 5) (s 8) (s 9) (s 10) s.h
theorem y1zb (fb : Nat) (s : St) : W E fb y1sr s (yan fb) (y4 0 (y99 fb) xN) (finI [.t 4]) = y27o fb s :=
  by kernel_rfl
def y1yr (fb : Nat) (v0 v5 v8 v9 v10 : AV) (h : Heap) : Option (AV × Heap) :=
ob (yw 1 v8 v10) fun v13 =>
ob (evLd false 1 v13 h) fun v14 =>
gb v5 false (some v14) fun v17 =>
gb v5 false (some v0) fun v18 =>
gb v5 false (some v10) fun v19 =>
gb v5 false (yw 1 v18 v19) fun v20 =>
gb v5 false (evLd false 1 v20 h) fun v21 =>
gb v5 false (y5 .andNot v17 v21) fun v22 =>
gb v5 false (y5 .neq v22 (AV.int .u64 0)) fun v23 =>
ob (y8 v5 (AV.bool true) v23) fun v24 =>
ob (yw 1 v0 v10) fun v27 =>
ob (evLd false 1 v27 h) fun v28 =>
ob (y5 .or v28 v14) fun v30 =>
ob (yw 1 v0 v10) fun v31 =>
oh (evSt 1 v31 v30 h) fun _ h1 =>
(y252 fb v0 v24 v8 v9 v10 h1)
def y26v (fb : Nat) (s : St) : Option (AV × Heap) := y1yr fb (s 0) (s 5) (s 8) (s 9) (s 10) s.h
theorem y25y (fb : Nat) (s : St) : W E fb y1hz s (yan fb) (y4 0 (y99 fb) xN) (finI [.t 4]) = y26v fb s :=
  (yab (k := (y27o fb)) (fun s => y1zb fb s)).trans (by kernel_rfl)
def y1gg (fb : Nat) (v0 v5 v8 v9 v10 v11 : AV) (h : Heap) : Option (AV × Heap) :=
cnd v11
 ((y1yr fb v0 v5 v8 v9 v10 h))
 ((y2e1 fb v5 h))
def y287 (fb : Nat) (s : St) : Option (AV × Heap) := y1gg fb (s 0) (s 5) (s 8) (s 9) (s 10) (s 11) s.h
theorem y1yd (fb : Nat) (s : St) : W E fb y1eh s (yan fb) (y4 0 (y99 fb) xN) (finI [.t 4]) = y287 fb s :=
  (yab (k := (y26v fb)) (fun s => y25y fb s)).trans (by kernel_rfl)
def y1fk (fb : Nat) (v0 v5 v8 v9 v10 : AV) (h : Heap) : Option (AV × Heap) :=
ob (y5 .lss v10 v9) fun v11 =>
(y1gg fb v0 v5 v8 v9 v10 v11 h)
def y2ke (fb : Nat) (s : St) : Option (AV × Heap) := y1fk fb (s 0) (s 5) (s 8) (s 9) (s 10) s.h
theorem y23n (fb : Nat) (s : St) : W E fb y1l4 s (yan fb) (y4 0 (y99 fb) xN) (finI [.t 4]) = y2ke fb s :=
  (yab (k := (y287 fb)) (fun s => y1yd fb s)).trans (by kernel_rfl)
theorem yvg (fb : Nat) (v0 v5 v8 v9 v10 : AV) (h : Heap) : yqj fb v0 v5 v8 v9 v10 h = (y1fk fb v0 v5 v8 v9 v10 h) :=
  y1r.trans ((y17 _ _ _ (n' := (yan fb)) (fun s => ysl fb s)).trans ((y23n fb _).trans (by kernel_rfl)))
theorem y1z8 (fb : Nat) (s : St) : W E fb y1ju s (y99 fb) xN (finI [.t 4]) = yan fb s :=
  yt.trans (ysl fb s)
def y2gu (fb : Nat) (v0 v1 v5 : AV) (h : Heap) : Option (AV × Heap) :=
ob (y11 1 v1 h) fun v9 =>
(yqj fb v0 v5 v1 v9 (AV.int .i64 0) h)
def y1uo (fb : Nat) (s : St) : Option (AV × Heap) := y2gu fb (s 0) (s 1) (s 5) s.h
theorem y21o (fb : Nat) (s : St) : W E fb y1uy s (y99 fb) xN (finI [.t 4]) = y1uo fb s :=
  (yab (k := (yan fb)) (fun s => y1z8 fb s)).trans (by kernel_rfl)
theorem y25k (fb : Nat) (s : St) : W E fb y1y2 s (finI [.t 4]) xN (finI [.t 4]) = y1uo fb s :=
  (yab (k := (y99 fb)) (fun s => y1zx fb s)).trans (y21o fb s)
def y1jp (fb : Nat) (v0 v1 : AV) (h : Heap) : Option (AV × Heap) :=
(y2gu fb v0 v1 (AV.bool false) h)
def y1lm (fb : Nat) (s : St) : Option (AV × Heap) := y1jp fb (s 0) (s 1) s.h
theorem y1i9 (fb : Nat) (s : St) : W E fb y178 s (finI [.t 4]) xN (finI [.t 4]) = y1lm fb s :=
  (yab (k := (y1uo fb)) (fun s => y25k fb s)).trans (by kernel_rfl)
def y1ua (fb : Nat) (v0 v1 : AV) (h : Heap) : Option (AV × Heap) :=
(y1jp fb v0 v1 h)
def y2by (fb : Nat) (s : St) : Option (AV × Heap) := y1ua fb (s 0) (s 1) s.h
theorem y1ux (fb : Nat) (s : St) : W E fb y12o s (finI [.t 4]) xN (finI [.t 4]) = y2by fb s :=
  (yab (k := (y1lm fb)) (fun s => y1i9 fb s)).trans (by kernel_rfl)
@[simp] theorem y2ry : E.pure 84 = false := rfl
theorem y2qj (fb : Nat) (v0 v1 : AV) (h : Heap) : (y7 E).i 84 [v0, v1] fb h = y1ua fb v0 v1 (if fb = h.length then h ++ yi 0 else h) :=
  (ypk (cf := y2l6) (by kernel_rfl) rfl).trans ((y1ux fb _).trans (by kernel_rfl))
def y23l (fb : Nat) (v0 v1 : AV) (h : Heap) : Option (AV × Heap) :=
ob (y5 .quo v1 (AV.int .i64 64)) fun v6 =>
ob (yw 1 v0 v6) fun v7 =>
ob (evLd false 1 v7 h) fun v8 =>
ob (y5 .rem v1 (AV.int .i64 64)) fun v10 =>
ob (y5 .shl (AV.int .u64 1) v10) fun v11 =>
ob (y5 .andNot v8 v11) fun v12 =>
ob (yw 1 v0 v6) fun v13 =>
oh (evSt 1 v13 v12 h) fun _ h1 =>
(some ((.tup []), h1))
def y2o8 (fb : Nat) (s : St) : Option (AV × Heap) := y23l fb (s 0) (s 1) s.h
theorem y1ye (fb : Nat) (s : St) : W E fb y1oi s (finI []) xN (finI []) = y2o8 fb s :=
  by kernel_rfl
@[simp] theorem y2sq : E.pure 85 = false := rfl
theorem y2r1 (fb : Nat) (v0 v1 : AV) (h : Heap) : (y7 E).i 85 [v0, v1] fb h = y23l fb v0 v1 (if fb = h.length then h ++ yi 0 else h) :=
  (ypk (cf := y2kh) (by kernel_rfl) rfl).trans ((y1ye fb _).trans (by kernel_rfl))
def y241 (fb : Nat) (v0 v1 : AV) (h : Heap) : Option (AV × Heap) :=
ob (y5 .quo v1 (AV.int .i64 64)) fun v6 =>
ob (yw 1 v0 v6) fun v7 =>
ob (evLd false 1 v7 h) fun v8 =>
ob (y5 .rem v1 (AV.int .i64 64)) fun v10 =>
ob (y5 .shl (AV.int .u64 1) v10) fun v11 =>
ob (y5 .or v8 v11) fun v12 =>
ob (yw 1 v0 v6) fun v13 =>
oh (evSt 1 v13 v12 h) fun _ h1 =>
(some ((.tup []), h1))
def y2m0 (fb : Nat) (s : St) : Option (AV × Heap) := y241 fb (s 0) (s 1) s.h
theorem y25l (fb : Nat) (s : St) : W E fb y1mc s (finI []) xN (finI []) = y2m0 fb s :=
  by kernel_rfl
@[simp] theorem y2r4 : E.pure 86 = false := rfl
theorem y2qv (fb : Nat) (v0 v1 : AV) (h : Heap) : (y7 E).i 86 [v0, v1] fb h = y241 fb v0 v1 (if fb = h.length then h ++ yi 0 else h) :=
  (ypk (cf := y2nh) (by kernel_rfl) rfl).trans ((y25l fb _).trans (by kernel_rfl))
def yx4 (v0 v1 v2 v3 : AV) (h : Heap) : OX :=
ob (yc2 0 true v0 AV.nilp) fun v10 =>
gb v10 true (some v2) fun v12 =>
gb v10 true (y5 .geq v12 (AV.int .i64 0)) fun v13 =>
ob (y8 v10 v13 (AV.bool false)) fun v14 =>
gb v14 true (some v2) fun v16 =>
gb v14 true (some v1) fun v17 =>
gb v14 true (y11 1 v17 h) fun v18 =>
gb v14 true (y5 .lss v16 v18) fun v19 =>
ob (y8 v14 v19 (AV.bool false)) fun v20 =>
gb v20 true (some v3) fun v22 =>
gb v20 true (y5 .geq v22 (AV.int .i64 0)) fun v23 =>
ob (y8 v20 v23 (AV.bool false)) fun v24 =>
gb v24 true (some v3) fun v26 =>
gb v24 true (some v0) fun v27 =>
gb v24 true (y1u v27) fun v28 =>
gb v24 true (evFa 3 v28) fun v29 =>
gb v24 true (evLd false 1 v29 h) fun v30 =>
gb v24 true (y5 .lss v26 v30) fun v31 =>
ob (y8 v24 v31 (AV.bool false)) fun v32 =>
gb v32 true (some v1) fun v34 =>
gb v32 true (some v2) fun v35 =>
gb v32 true (yw 1 v34 v35) fun v36 =>
gb v32 true (evLd false 1 v36 h) fun v37 =>
gb v32 true (some v3) fun v38 =>
gh v32 true (y6 E (y7 E) 0 none true 83 [v37, v38] h) h fun v39 h1 =>
ob (y8 v32 v39 (AV.bool false)) fun v40 =>
(yc h1 v40)
def y2n5 (s : St) : OX := yx4 (s 0) (s 1) (s 2) (s 3) s.h
theorem y262 : T0 y1wi [.t 8] y2n5 := fun _ => by kernel_rfl
@[simp] theorem y2s5 : E.pure 82 = true := rfl
theorem y2qo (v0 v1 v2 v3 : AV) : (y7 E).p 82 [v0, v1, v2, v3] = yx4 v0 v1 v2 v3 [] :=
  (yv (cf := y2nx) (by kernel_rfl) rfl).trans ((y262 _).trans (by kernel_rfl))
def y1hq (v0 : AV) (h : Heap) : OX :=
oh (newC 0 (some 0) (cellsOf v0) h) fun v1 h1 =>
ob (evFa 0 v1) fun v3 =>
ob (evLd false 1 v3 h1) fun v4 =>
ob (y5 .geq v4 (AV.int .i64 7)) fun v5 =>
gb v5 true (evFa 0 v1) fun v7 =>
gb v5 true (evLd false 1 v7 h1) fun v8 =>
gb v5 true (y5 .leq v8 (AV.int .i64 12)) fun v9 =>
ob (y8 v5 v9 (AV.bool false)) fun v10 =>
gb v10 false (evFa 0 v1) fun v12 =>
gb v10 false (evLd false 1 v12 h1) fun v13 =>
gb v10 false (y5 .eql v13 (AV.int .i64 20)) fun v14 =>
ob (y8 v10 (AV.bool true) v14) fun v15 =>
gb v15 false (evFa 0 v1) fun v17 =>
gb v15 false (evLd false 1 v17 h1) fun v18 =>
gb v15 false (y5 .eql v18 (AV.int .i64 21)) fun v19 =>
ob (y8 v15 (AV.bool true) v19) fun v20 =>
gb v20 false (evFa 0 v1) fun v22 =>
gb v20 false (evLd false 1 v22 h1) fun v23 =>
gb v20 false (y5 .eql v23 (AV.int .i64 31)) fun v24 =>
ob (y8 v20 (AV.bool true) v24) fun v25 =>
gb v25 false (evLd true 9 v1 h1) fun v27 =>
gh v25 false (y6 E (y7 E) 0 none true 17 [v27] h1) h1 fun v28 h2 =>
ob (y8 v25 (AV.bool true) v28) fun v29 =>
(yc h2 v29)
def y2l7 (s : St) : OX := y1hq (s 0) s.h
theorem y1zz : T0 y1gc [.t 2] y2l7 := fun _ => by kernel_rfl
@[simp] theorem y2pf : E.pure 18 = true := rfl
theorem y2qs (v0 : AV) : (y7 E).p 18 [v0] = y1hq v0 [⟨0, .dead⟩] :=
  (yv (cf := y2je) (by kernel_rfl) rfl).trans ((y1zz _).trans (by kernel_rfl))
def y1qy (fb : Nat) (h : Heap) : Option (AV × Heap) :=
(some ((AV.bool false), h))
def y4d (fb : Nat) (s : St) : Option (AV × Heap) := y1qy fb s.h
theorem y1wq (fb : Nat) (s : St) : W E fb y137 s (finI [.t 6]) xN (finI [.t 6]) = y4d fb s :=
  by kernel_rfl
def y8d (fb : Nat) (v1 v2 v3 v7 : AV) (h : Heap) : Option (AV × Heap) :=
  W E fb yhs ⟨[(1, v1), (2, v2), (3, v3), (7, v7)], h⟩ (y4d fb) (y4 0 (y4d fb) xN) (finI [.t 6])
def y2l (fb : Nat) (s : St) : Option (AV × Heap) := y8d fb (s 1) (s 2) (s 3) (s 7) s.h
theorem ymr (fb : Nat) (s : St) : W E fb yhs s (y4d fb) (y4 0 (y4d fb) xN) (finI [.t 6]) = y2l fb s := yh.trans (by kernel_rfl)
def y1fu (fb : Nat) (v1 v2 v3 v7 v8 : AV) (h : Heap) : Option (AV × Heap) :=
ob (evLd true 5 v3 h) fun v53 =>
oh (y6 E (y7 E) fb none true 92 [v53, v8] h) fun v55 h1 =>
oh (y2b fb (some 2) 1 8 v1 v55 h1) fun v56 h2 =>
ob (evFa 3 v3) fun v57 =>
ob (evLd false 1 v57 h2) fun v58 =>
ob (yw 9 v58 v8) fun v60 =>
ob (evLd true 9 v60 h2) fun v61 =>
oh (y6 E (y7 E) fb none true 16 [v61] h2) fun v62 h3 =>
ob (y5 .neq v62 v2) fun v64 =>
cnd v64
 (ob (evLd true 5 v3 h3) fun v66 =>
oh (y6 E (y7 E) fb none true 95 [v66, v8] h3) fun v68 h4 =>
oh (y2b fb (some 3) 1 8 v56 v68 h4) fun v69 h5 =>
(y8d fb v69 v2 v3 v7 h5))
 ((y8d fb v56 v2 v3 v7 h3))
def y1j6 (fb : Nat) (s : St) : Option (AV × Heap) := y1fu fb (s 1) (s 2) (s 3) (s 7) (s 8) s.h
theorem y1w4 (fb : Nat) (s : St) : W E fb y18m s (y2l fb) (y4 1 (y2l fb) (y4 0 (y4d fb) xN)) (finI [.t 6]) = y1j6 fb s :=
  by kernel_rfl
def yl6 (fb : Nat) (v1 v2 v3 v7 v8 : AV) (h : Heap) : Option (AV × Heap) :=
ob (evFa 3 v3) fun v44 =>
ob (evLd false 1 v44 h) fun v45 =>
ob (yw 9 v45 v8) fun v47 =>
ob (evLd true 9 v47 h) fun v48 =>
oh (y6 E (y7 E) fb none true 15 [v48] h) fun v49 h6 =>
oh (y6 E (y7 E) fb none true 94 [v49, v2] h6) fun v51 h7 =>
cnd v51
 ((some ((AV.bool true), h7)))
 ((y1fu fb v1 v2 v3 v7 v8 h7))
def y1kk (fb : Nat) (s : St) : Option (AV × Heap) := yl6 fb (s 1) (s 2) (s 3) (s 7) (s 8) s.h
theorem y1ng (fb : Nat) (s : St) : W E fb y173 s (y2l fb) (y4 1 (y2l fb) (y4 0 (y4d fb) xN)) (finI [.t 6]) = y1kk fb s :=
  (yab (k := (y1j6 fb)) (fun s => y1w4 fb s)).trans (by kernel_rfl)
def y1me (fb : Nat) (v1 v2 v3 v7 v8 : AV) (h : Heap) : Option (AV × Heap) :=
ob (yw 1 v7 v8) fun v43 =>
oh (evSt 1 v43 (AV.bool true) h) fun _ h8 =>
(yl6 fb v1 v2 v3 v7 v8 h8)
def y1nm (fb : Nat) (s : St) : Option (AV × Heap) := y1me fb (s 1) (s 2) (s 3) (s 7) (s 8) s.h
theorem y1w7 (fb : Nat) (s : St) : W E fb yyh s (y2l fb) (y4 1 (y2l fb) (y4 0 (y4d fb) xN)) (finI [.t 6]) = y1nm fb s :=
  (yab (k := (y1kk fb)) (fun s => y1ng fb s)).trans (by kernel_rfl)
def ynr (fb : Nat) (v1 v2 v3 v7 v8 : AV) (h : Heap) : Option (AV × Heap) :=
ob (y5 .lss v8 (AV.int .i64 0)) fun v28 =>
gb v28 false (some v8) fun v30 =>
gb v28 false (some v7) fun v31 =>
gb v28 false (y11 1 v31 h) fun v32 =>
gb v28 false (y5 .geq v30 v32) fun v33 =>
ob (y8 v28 (AV.bool true) v33) fun v34 =>
gb v34 false (some v7) fun v36 =>
gb v34 false (some v8) fun v37 =>
gb v34 false (yw 1 v36 v37) fun v38 =>
gb v34 false (evLd false 1 v38 h) fun v39 =>
ob (y8 v34 (AV.bool true) v39) fun v40 =>
cnd v40
 ((y8d fb v1 v2 v3 v7 h))
 ((y1me fb v1 v2 v3 v7 v8 h))
def y1mn (fb : Nat) (s : St) : Option (AV × Heap) := ynr fb (s 1) (s 2) (s 3) (s 7) (s 8) s.h
theorem y1xh (fb : Nat) (s : St) : W E fb y15j s (y2l fb) (y4 1 (y2l fb) (y4 0 (y4d fb) xN)) (finI [.t 6]) = y1mn fb s :=
  (yab (k := (y1nm fb)) (fun s => y1w7 fb s)).trans (by kernel_rfl)
def y1ub (fb : Nat) (v1 v2 v3 v7 v8 : AV) (h : Heap) : Option (AV × Heap) :=
ob (y11 1 v1 h) fun v24 =>
ob (y5 .sub v24 (AV.int .i64 1)) fun v25 =>
ob (ycc 1 v1 none (some v25)) fun v26 =>
(ynr fb v26 v2 v3 v7 v8 h)
def y1vi (fb : Nat) (s : St) : Option (AV × Heap) := y1ub fb (s 1) (s 2) (s 3) (s 7) (s 8) s.h
theorem y1nj (fb : Nat) (s : St) : W E fb y18e s (y2l fb) (y4 1 (y2l fb) (y4 0 (y4d fb) xN)) (finI [.t 6]) = y1vi fb s :=
  (yab (k := (y1mn fb)) (fun s => y1xh fb s)).trans (by kernel_rfl)
def y1el (fb : Nat) (v1 v2 v3 v7 : AV) (h : Heap) : Option (AV × Heap) :=
ob (y11 1 v1 h) fun v18 =>
ob (y5 .sub v18 (AV.int .i64 1)) fun v19 =>
ob (yw 1 v1 v19) fun v20 =>
ob (evLd false 1 v20 h) fun v21 =>
(y1ub fb v1 v2 v3 v7 v21 h)
def yxi (fb : Nat) (s : St) : Option (AV × Heap) := y1el fb (s 1) (s 2) (s 3) (s 7) s.h
theorem y1sa (fb : Nat) (s : St) : W E fb y11d s (y2l fb) (y4 1 (y2l fb) (y4 0 (y4d fb) xN)) (finI [.t 6]) = yxi fb s :=
  (yab (k := (y1vi fb)) (fun s => y1nj fb s)).trans (by kernel_rfl)
theorem y1xf (fb : Nat) (s : St) : W E fb y13v s (y2l fb) (y4 0 (y4d fb) xN) (finI [.t 6]) = yxi fb s :=
  yt.trans (y1sa fb s)
def yk9 (fb : Nat) (v1 v2 v3 v7 : AV) (h : Heap) : Option (AV × Heap) :=
ob (y11 1 v1 h) fun v14 =>
ob (y5 .gtr v14 (AV.int .i64 0)) fun v15 =>
cnd v15
 ((y1el fb v1 v2 v3 v7 h))
 ((y1qy fb h))
def y24u (fb : Nat) (s : St) : Option (AV × Heap) := yk9 fb (s 1) (s 2) (s 3) (s 7) s.h
theorem y1dw (fb : Nat) (s : St) : W E fb yqi s (y2l fb) (y4 0 (y4d fb) xN) (finI [.t 6]) = y24u fb s :=
  (yab (k := (yxi fb)) (fun s => y1xf fb s)).trans (by kernel_rfl)
theorem y1ds (fb : Nat) (v1 v2 v3 v7 : AV) (h : Heap) : y8d fb v1 v2 v3 v7 h = (yk9 fb v1 v2 v3 v7 h) :=
  y1r.trans ((y17 _ _ _ (n' := (y2l fb)) (fun s => ymr fb s)).trans ((y1dw fb _).trans (by kernel_rfl)))
theorem y1cs (fb : Nat) (s : St) : W E fb yt6 s (y4d fb) xN (finI [.t 6]) = y2l fb s :=
  yt.trans (ymr fb s)
theorem y1cv (fb : Nat) (s : St) : W E fb ys9 s (finI [.t 6]) xN (finI [.t 6]) = y2l fb s :=
  (yab (k := (y4d fb)) (fun s => y1wq fb s)).trans (y1cs fb s)
def ywi (fb : Nat) (v1 v2 v3 : AV) (h : Heap) : Option (AV × Heap) :=
ob (evFa 3 v3) fun v9 =>
ob (evLd false 1 v9 h) fun v10 =>
ob (y11 1 v10 h) fun v11 =>
oh (mkSC fb (some 1) 1 1 [(.bool false)] v11 v11 h) fun v12 h9 =>
(y8d fb v1 v2 v3 v12 h9)
def y13o (fb : Nat) (s : St) : Option (AV × Heap) := ywi fb (s 1) (s 2) (s 3) s.h
theorem y1ae (fb : Nat) (s : St) : W E fb yrh s (finI [.t 6]) xN (finI [.t 6]) = y13o fb s :=
  (yab (k := (y2l fb)) (fun s => y1cv fb s)).trans (by kernel_rfl)
def yvw (fb : Nat) (v0 v1 v2 : AV) (h : Heap) : Option (AV × Heap) :=
oh (newC fb (some 0) (cellsOf v0) h) fun v3 h10 =>
(ywi fb v1 v2 v3 h10)
def y1ys (fb : Nat) (s : St) : Option (AV × Heap) := yvw fb (s 0) (s 1) (s 2) s.h
theorem y1aq (fb : Nat) (s : St) : W E fb yqa s (finI [.t 6]) xN (finI [.t 6]) = y1ys fb s :=
  (yab (k := (y13o fb)) (fun s => y1ae fb s)).trans (by kernel_rfl)
@[simp] theorem y2qn : E.pure 93 = false := rfl
theorem y2jd (fb : Nat) (v0 v1 v2 : AV) (h : Heap) : (y7 E).i 93 [v0, v1, v2] fb h = yvw fb v0 v1 v2 (if fb = h.length then h ++ yi 4 else h) :=
  (ypk (cf := y27m) (by kernel_rfl) rfl).trans ((y1aq fb _).trans (by kernel_rfl))
def yce (v6 : AV) (h : Heap) : OX :=
(yc h v6)
def y2c6 (s : St) : OX := yce (s 6) s.h
theorem y1wx : T0 y15r [.t 4] y2c6 := fun _ => by kernel_rfl
def yby (v5 v6 : AV) (h : Heap) : OX :=
ob (evFa 0 v5) fun v28 =>
ob (evLd false 1 v28 h) fun v29 =>
oh (y6 E (y7 E) 0 none true 23 [v29] h) fun v30 h1 =>
gb v30 true (some v6) fun v32 =>
gb v30 true (evFa 6 v5) fun v33 =>
gb v30 true (evLd false 1 v33 h1) fun v34 =>
gh v30 true (y6 E (y7 E) 0 none true 96 [v32, v34] h1) h1 fun v35 h2 =>
gb v30 true (evUn .not v35) fun v36 =>
ob (y8 v30 v36 (AV.bool false)) fun v37 =>
cnd v37
 (ob (evFa 6 v5) fun v39 =>
ob (evLd false 1 v39 h2) fun v40 =>
oh (yr 0 (some 3) 1 1 [(.int .i64 0)] [(0, v40)] h2) fun v41 h3 =>
oh (y2b 0 (some 4) 1 8 v6 v41 h3) fun v42 h4 =>
(yce v42 h4))
 ((yce v6 h2))
def y2dp (s : St) : OX := yby (s 5) (s 6) s.h
theorem y1j1 : T0 y0x [.t 4] y2dp := sq y1wx fun _ => by kernel_rfl
def ycf (v1 v5 v6 : AV) (h : Heap) : OX :=
ob (evFa 0 v5) fun v21 =>
ob (evLd false 1 v21 h) fun v22 =>
oh (y6 E (y7 E) 0 none true 25 [v22] h) fun v23 h5 =>
ob (evUn .not v23) fun v24 =>
cnd v24
 (ob (y5 .add v1 (AV.int .i64 1)) fun v26 =>
oh (yr 0 (some 2) 1 1 [(.int .i64 0)] [(0, v26)] h5) fun v27 h6 =>
(yby v5 v27 h6))
 ((yby v5 v6 h5))
def y2b5 (s : St) : OX := ycf (s 1) (s 5) (s 6) s.h
theorem y1x2 : T0 y05 [.t 4] y2b5 := sq y1j1 fun _ => by kernel_rfl
def yud (v1 v5 : AV) (h : Heap) : OX :=
(ycf v1 v5 AV.nils h)
def y2dq (s : St) : OX := yud (s 1) (s 5) s.h
theorem y1k9 : T0 y0v [.t 4] y2dq := sq y1x2 fun _ => by kernel_rfl
def ytz (v1 v2 : AV) (h : Heap) : OX :=
ob (evFa 3 v2) fun v16 =>
ob (evLd false 1 v16 h) fun v17 =>
ob (yw 9 v17 v1) fun v19 =>
ob (evLd true 9 v19 h) fun v20 =>
oh (newC 0 (some 1) [(.int .i64 0), (.int .i64 0), (.int .i64 0), (.int .i64 0), (.int .i64 0), (.int .i64 0), (.int .i64 0), (.str []), .nils] h) fun v5 h7 =>
oh (evSt 9 v5 v20 h7) fun _ h8 =>
(yud v1 v5 h8)
def y2e9 (s : St) : OX := ytz (s 1) (s 2) s.h
theorem y1mv : T0 y14s [.t 4] y2e9 := sq y1k9 fun _ => by kernel_rfl
def yvb (v1 v2 : AV) (h : Heap) : OX :=
ob (y5 .lss v1 (AV.int .i64 0)) fun v8 =>
gb v8 false (some v1) fun v10 =>
gb v8 false (evFa 3 v2) fun v11 =>
gb v8 false (evLd false 1 v11 h) fun v12 =>
gb v8 false (y11 1 v12 h) fun v13 =>
gb v8 false (y5 .geq v10 v13) fun v14 =>
ob (y8 v8 (AV.bool true) v14) fun v15 =>
cnd v15
 ((yc h AV.nils))
 ((ytz v1 v2 h))
def y2es (s : St) : OX := yvb (s 1) (s 2) s.h
theorem y1r0 : T0 y170 [.t 4] y2es := sq y1mv fun _ => by kernel_rfl
def ylf (v0 v1 : AV) (h : Heap) : OX :=
oh (newC 0 (some 0) (cellsOf v0) h) fun v2 h9 =>
(yvb v1 v2 h9)
def y2gm (s : St) : OX := ylf (s 0) (s 1) s.h
theorem y1tu : T0 y187 [.t 4] y2gm := sq y1r0 fun _ => by kernel_rfl
@[simp] theorem y2qh : E.pure 95 = true := rfl
theorem y2jm (v0 v1 : AV) : (y7 E).p 95 [v0, v1] = ylf v0 v1 [⟨0, .dead⟩, ⟨0, .dead⟩, ⟨0, .dead⟩, ⟨0, .dead⟩, ⟨0, .dead⟩] :=
  (yv (cf := y270) (by kernel_rfl) rfl).trans ((y1tu _).trans (by kernel_rfl))
def yr3 (v1 : AV) (h : Heap) : OX :=
ob (evFa 1 v1) fun v14 =>
ob (evLd false 1 v14 h) fun v15 =>
(yc h v15)
def y2f5 (s : St) : OX := yr3 (s 1) s.h
theorem y1t5 : T0 y115 [.t 2] y2f5 := fun _ => by kernel_rfl
def ymn (v1 v3 : AV) (h : Heap) : OX :=
ob (y5 .eql v3 (AV.str [])) fun v8 =>
gb v8 false (some v3) fun v10 =>
gb v8 false (y3a v10 (AV.int .i64 0)) fun v11 =>
gb v8 false (y5 .eql v11 (AV.int .u8 45)) fun v12 =>
ob (y8 v8 (AV.bool true) v12) fun v13 =>
cnd v13
 ((yc h (AV.int .i64 (-1))))
 ((yr3 v1 h))
def y28w (s : St) : OX := ymn (s 1) (s 3) s.h
theorem y1fp : T0 y17a [.t 2] y28w := sq y1t5 fun _ => by kernel_rfl
def y1re (v1 : AV) (h : Heap) : OX :=
ob (evFa 0 v1) fun v4 =>
ob (evLd false 1 v4 h) fun v5 =>
oh (y6 E (y7 E) 0 none true 38 [v5] h) fun v6 h1 =>
(ymn v1 v6 h1)
def y2h6 (s : St) : OX := y1re (s 1) s.h
theorem y1rs : T0 y11x [.t 2] y2h6 := sq y1fp fun _ => by kernel_rfl
def y15m (v0 : AV) (h : Heap) : OX :=
oh (newC 0 (some 0) (cellsOf v0) h) fun v1 h2 =>
(y1re v1 h2)
def y2bj (s : St) : OX := y15m (s 0) s.h
theorem y1kq : T0 y14c [.t 2] y2bj := sq y1rs fun _ => by kernel_rfl
@[simp] theorem y2p5 : E.pure 16 = true := rfl
theorem y2m4 (v0 : AV) : (y7 E).p 16 [v0] = y15m v0 [⟨0, .dead⟩] :=
  (yv (cf := y267) (by kernel_rfl) rfl).trans ((y1kq _).trans (by kernel_rfl))
def y1ij (v0 v3 : AV) (h : Heap) : OX :=
ob (yw 1 v3 v0) fun v15 =>
ob (evLd false 1 v15 h) fun v16 =>
(yc h v16)
def y2dj (s : St) : OX := y1ij (s 0) (s 3) s.h
theorem y1ed : T0 yyl [.t 2] y2dj := fun _ => by kernel_rfl
def y1fc (v0 v3 : AV) (h : Heap) : OX :=
ob (y5 .lss v0 (AV.int .i64 1)) fun v6 =>
gb v6 false (some v0) fun v8 =>
gb v6 false (some v3) fun v9 =>
gb v6 false (y11 1 v9 h) fun v10 =>
gb v6 false (y5 .geq v8 v10) fun v11 =>
ob (y8 v6 (AV.bool true) v11) fun v12 =>
cnd v12
 ((yc h (AV.str [])))
 ((y1ij v0 v3 h))
def y28s (s : St) : OX := y1fc (s 0) (s 3) s.h
theorem y1ok : T0 y168 [.t 2] y28s := sq y1ed fun _ => by kernel_rfl
def y1et (v0 : AV) (h : Heap) : OX :=
oh (yr 0 (some 0) 1 34 [(.str [])] [(0, (AV.str [])), (1, (AV.str [110, 45, 45, 45])), (2, (AV.str [51, 45, 45, 45])), (3, (AV.str [51, 45, 45, 45])), (4, (AV.str [42, 61, 45, 45])), (5, (AV.str [63, 63, 63, 63])), (6, (AV.str [63, 63, 63, 63])), (7, (AV.str [45, 110, 45, 45])), (8, (AV.str [45, 51, 45, 45])), (9, (AV.str [45, 51, 49, 45])), (10, (AV.str [45, 49, 45, 45])), (11, (AV.str [45, 51, 51, 45])), (12, (AV.str [45, 51, 45, 45])), (13, (AV.str [42, 51, 49, 45])), (14, (AV.str [45, 51, 49, 42])), (15, (AV.str [49, 51, 45, 45])), (16, (AV.str [42, 51, 45, 45])), (17, (AV.str [45, 51, 42, 45])), (18, (AV.str [42, 45, 45, 45])), (19, (AV.str [45, 42, 45, 45])), (20, (AV.str [51, 45, 45, 45])), (21, (AV.str [51, 49, 45, 45])), (22, (AV.str [49, 51, 45, 45])), (23, (AV.str [63, 63, 63, 63])), (24, (AV.str [63, 63, 63, 63])), (25, (AV.str [63, 63, 63, 63])), (26, (AV.str [63, 63, 63, 63])), (27, (AV.str [45, 45, 45, 45])), (28, (AV.str [45, 49, 49, 45])), (29, (AV.str [45, 51, 63, 45])), (30, (AV.str [45, 63, 45, 45])), (31, (AV.str [45, 51, 45, 45])), (32, (AV.str [51, 45, 45, 45])), (33, (AV.str [45, 45, 45, 45]))] h) fun v4 h1 =>
(y1fc v0 v4 h1)
def y29b (s : St) : OX := y1et (s 0) s.h
theorem y1mo : T0 y14g [.t 2] y29b := sq y1ok fun _ => by kernel_rfl
def y1go (v0 : AV) (h : Heap) : OX :=
(y1et v0 h)
def y2em (s : St) : OX := y1go (s 0) s.h
theorem y1k7 : T0 y18d [.t 2] y2em := sq y1mo fun _ => by kernel_rfl
@[simp] theorem y2qq : E.pure 38 = true := rfl
theorem y2ia (v0 : AV) : (y7 E).p 38 [v0] = y1go v0 [⟨0, .dead⟩] :=
  (yv (cf := y289) (by kernel_rfl) rfl).trans ((y1k7 _).trans (by kernel_rfl))
def yc3 (v2 v7 : AV) (h : Heap) : OX :=
ob (y5 .sub v2 (AV.int .u8 48)) fun v30 =>
ob (y1au .i64 v30) fun v31 =>
ob (y5 .eql v7 v31) fun v32 =>
(yc h v32)
def y6h (s : St) : OX := yc3 (s 2) (s 7) s.h
theorem y1wa : T0 yz9 [.t 6] y6h := fun _ => by kernel_rfl
def yaj (v2 v7 v11 v15 : AV) (h : Heap) : OX :=
cnd v15
 (ob (y5 .gtr v7 (AV.int .i64 0)) fun v19 =>
(yc h v19))
 (ob (y5 .eql v11 (AV.int .u8 110)) fun v21 =>
cnd v21
 (ob (y5 .eql v7 (AV.int .i64 1)) fun v23 =>
gb v23 false (some v7) fun v25 =>
gb v23 false (y5 .eql v25 (AV.int .i64 2)) fun v26 =>
ob (y8 v23 (AV.bool true) v26) fun v27 =>
(yc h v27))
 ((yc3 v2 v7 h)))
def y2gq (s : St) : OX := yaj (s 2) (s 7) (s 11) (s 15) s.h
theorem y1uz : T1 y0s y6h (y4 0 y6h xN) [.t 6] y2gq := fun _ => by kernel_rfl
def yc6 (v2 v7 v11 : AV) (h : Heap) : OX :=
ob (y5 .eql v11 (AV.int .u8 42)) fun v16 =>
cnd v16
 ((yaj v2 v7 v11 v16 h))
 (ob (y5 .eql v11 (AV.int .u8 61)) fun v17 =>
(yaj v2 v7 v11 v17 h))
def y2gh (s : St) : OX := yc6 (s 2) (s 7) (s 11) s.h
theorem y1vh : T1 yzl y6h (y4 0 y6h xN) [.t 6] y2gh := sq y1uz fun _ => by kernel_rfl
def yai (v2 v7 v11 v12 : AV) (h : Heap) : OX :=
cnd v12
 ((yc h (AV.bool true)))
 ((yc6 v2 v7 v11 h))
def y2gd (s : St) : OX := yai (s 2) (s 7) (s 11) (s 12) s.h
theorem y1nw : T1 y160 y6h (y4 0 y6h xN) [.t 6] y2gd := fun s => (y1d rfl (y1vh s)).trans (by kernel_rfl)
def yc7 (v2 v7 v11 : AV) (h : Heap) : OX :=
ob (y5 .eql v11 (AV.int .u8 45)) fun v13 =>
cnd v13
 ((yai v2 v7 v11 v13 h))
 (ob (y5 .eql v11 (AV.int .u8 63)) fun v14 =>
(yai v2 v7 v11 v14 h))
def y1q3 (s : St) : OX := yc7 (s 2) (s 7) (s 11) s.h
theorem y1kp : T1 y11p y6h (y4 0 y6h xN) [.t 6] y1q3 := sq y1nw fun _ => by kernel_rfl
theorem y1sx : T1 y17u y6h xN [.t 6] y1q3 := fun s => yt.trans (y1kp s)
def yc4 (v2 v7 : AV) (h : Heap) : OX :=
(yc7 v2 v7 v2 h)
def y1pp (s : St) : OX := yc4 (s 2) (s 7) s.h
theorem y1p2 : T1 y15w y6h xN [.t 6] y1pp := sq y1sx fun _ => by kernel_rfl
theorem y1fr : T0 y11c [.t 6] y1pp := sq y1wa y1p2
def ycb (v1 v2 v3 : AV) (h : Heap) : OX :=
ob (evLd true 5 v3 h) fun v8 =>
oh (y6 E (y7 E) 0 none true 48 [v8, v1] h) fun v10 h1 =>
(yc4 v2 v10 h1)
def y2bu (s : St) : OX := ycb (s 1) (s 2) (s 3) s.h
theorem y1ee : T0 y18j [.t 6] y2bu := sq y1fr fun _ => by kernel_rfl
def y7c (v0 v1 v2 : AV) (h : Heap) : OX :=
oh (newC 0 (some 0) (cellsOf v0) h) fun v3 h2 =>
(ycb v1 v2 v3 h2)
def y233 (s : St) : OX := y7c (s 0) (s 1) (s 2) s.h
theorem y1bz : T0 yub [.t 6] y233 := sq y1ee fun _ => by kernel_rfl
@[simp] theorem y2qy : E.pure 65 = true := rfl
theorem y2nb (v0 v1 v2 : AV) : (y7 E).p 65 [v0, v1, v2] = y7c v0 v1 v2 [⟨0, .dead⟩] :=
  (yv (cf := y27w) (by kernel_rfl) rfl).trans ((y1bz _).trans (by kernel_rfl))
def y20l (h : Heap) : OX :=
(yc h (.tup [(AV.int .i64 0), (AV.int .i64 0), (AV.int .i64 0)]))
def y2hu (s : St) : OX := y20l s.h
theorem y21t : T0 y1og [.t 2, .t 3, .t 4] y2hu := fun _ => by kernel_rfl
def y20n (v0 v5 : AV) (h : Heap) : OX :=
gb v5 true (some v0) fun v28 =>
gb v5 true (y5 .rem v28 (AV.int .i64 2)) fun v29 =>
gb v5 true (y5 .eql v29 (AV.int .i64 0)) fun v30 =>
ob (y8 v5 v30 (AV.bool false)) fun v31 =>
cnd v31
 ((yc h (.tup [(AV.int .i64 1), (AV.int .i64 1), (AV.int .i64 1)])))
 (ob (y5 .eql v0 (AV.int .i64 121)) fun v34 =>
gb v34 false (some v0) fun v36 =>
gb v34 false (y5 .eql v36 (AV.int .i64 123)) fun v37 =>
ob (y8 v34 (AV.bool true) v37) fun v38 =>
gb v38 false (some v0) fun v40 =>
gb v38 false (y5 .eql v40 (AV.int .i64 125)) fun v41 =>
ob (y8 v38 (AV.bool true) v41) fun v42 =>
cnd v42
 ((yc h (.tup [(AV.int .i64 2), (AV.int .i64 1), (AV.int .i64 2)])))
 (cnd v5
 ((yc h (.tup [(AV.int .i64 2), (AV.int .i64 2), (AV.int .i64 2)])))
 (ob (y5 .eql v0 (AV.int .i64 148)) fun v47 =>
cnd v47
 ((yc h (.tup [(AV.int .i64 2), (AV.int .i64 2), (AV.int .i64 1)])))
 (ob (y5 .eql v0 (AV.int .i64 116)) fun v50 =>
gb v50 false (some v0) fun v52 =>
gb v50 false (y5 .geq v52 (AV.int .i64 145)) fun v53 =>
gb v50 false (some v53) fun v54 =>
gb v54 true (some v0) fun v55 =>
gb v54 true (y5 .leq v55 (AV.int .i64 147)) fun v56 =>
gb v50 false (y8 v54 v56 (AV.bool false)) fun v57 =>
ob (y8 v50 (AV.bool true) v57) fun v58 =>
cnd v58
 ((yc h (.tup [(AV.int .i64 1), (AV.int .i64 0), (AV.int .i64 1)])))
 (ob (y5 .eql v0 (AV.int .i64 117)) fun v61 =>
cnd v61
 ((yc h (.tup [(AV.int .i64 2), (AV.int .i64 0), (AV.int .i64 2)])))
 (ob (y5 .eql v0 (AV.int .i64 133)) fun v64 =>
cnd v64
 ((yc h (.tup [(AV.int .i64 1), (AV.int .i64 0), (AV.int .i64 2)])))
 (ob (y5 .eql v0 (AV.int .i64 136)) fun v67 =>
cnd v67
 ((yc h (.tup [(AV.int .i64 2), (AV.int .i64 0), (AV.int .i64 1)])))
 ((y20l h)))))))))
def y2n0 (s : St) : OX := y20n (s 0) (s 5) s.h
theorem y21f : T0 y1tl [.t 2, .t 3, .t 4] y2n0 := sq y21t fun _ => by kernel_rfl
def y24v (v0 : AV) (h : Heap) : OX :=
ob (y5 .geq v0 (AV.int .i64 96)) fun v7 =>
gb v7 true (some v0) fun v9 =>
gb v7 true (y5 .leq v9 (AV.int .i64 113)) fun v10 =>
ob (y8 v7 v10 (AV.bool false)) fun v11 =>
gb v11 true (some v0) fun v13 =>
gb v11 true (y5 .rem v13 (AV.int .i64 4)) fun v14 =>
gb v11 true (y5 .lss v14 (AV.int .i64 2)) fun v15 =>
ob (y8 v11 v15 (AV.bool false)) fun v16 =>
gb v16 false (some v0) fun v18 =>
gb v16 false (y5 .geq v18 (AV.int .i64 120)) fun v19 =>
gb v16 false (some v19) fun v20 =>
gb v20 true (some v0) fun v21 =>
gb v20 true (y5 .leq v21 (AV.int .i64 131)) fun v22 =>
gb v16 false (y8 v20 v22 (AV.bool false)) fun v23 =>
ob (y8 v16 (AV.bool true) v23) fun v24 =>
(y20n v0 v24 h)
def y2n9 (s : St) : OX := y24v (s 0) s.h
theorem y22q : T0 y1ek [.t 2, .t 3, .t 4] y2n9 := sq y21f fun _ => by kernel_rfl
def y1zk (v0 : AV) (h : Heap) : OX :=
(y24v v0 h)
def y2ih (s : St) : OX := y1zk (s 0) s.h
theorem y216 : T0 y1xg [.t 2, .t 3, .t 4] y2ih := sq y22q fun _ => by kernel_rfl
@[simp] theorem y2rw : E.pure 66 = true := rfl
theorem y2su (v0 : AV) : (y7 E).p 66 [v0] = y1zk v0 [] :=
  (yv (cf := y2o7) (by kernel_rfl) rfl).trans ((y216 _).trans (by kernel_rfl))
def yio (v0 : AV) (h : Heap) : OX :=
ob (y11 0 v0 h) fun v28 =>
ob (y5 .gtr v28 (AV.int .i64 2)) fun v29 =>
gb v29 true (some v0) fun v31 =>
gb v29 true (y3a v31 (AV.int .i64 0)) fun v32 =>
gb v29 true (y5 .eql v32 (AV.int .u8 76)) fun v33 =>
ob (y8 v29 v33 (AV.bool false)) fun v34 =>
gb v34 true (some v0) fun v36 =>
gb v34 true (some v0) fun v37 =>
gb v34 true (y11 0 v37 h) fun v38 =>
gb v34 true (y5 .sub v38 (AV.int .i64 1)) fun v39 =>
gb v34 true (y3a v36 v39) fun v40 =>
gb v34 true (y5 .eql v40 (AV.int .u8 59)) fun v41 =>
ob (y8 v34 v41 (AV.bool false)) fun v42 =>
gb v42 true (some v0) fun v44 =>
gb v42 true (some v0) fun v45 =>
gb v42 true (y11 0 v45 h) fun v46 =>
gb v42 true (y5 .sub v46 (AV.int .i64 1)) fun v47 =>
gb v42 true (yef v44 (some (AV.int .i64 1)) (some v47)) fun v48 =>
gh v42 true (y6 E (y7 E) 0 none true 69 [v48, (AV.bool false)] h) h fun v49 h1 =>
ob (y8 v42 v49 (AV.bool false)) fun v50 =>
(yc h1 v50)
def y2cr (s : St) : OX := yio (s 0) s.h
theorem y1gd : T0 y157 [.t 2] y2cr := fun _ => by kernel_rfl
def yee (v0 : AV) (h : Heap) : OX :=
ob (y5 .eql v0 (AV.str [73])) fun v22 =>
gb v22 false (some v0) fun v24 =>
gb v22 false (y5 .eql v24 (AV.str [74])) fun v25 =>
ob (y8 v22 (AV.bool true) v25) fun v26 =>
cnd v26
 ((yc h (AV.bool true)))
 ((yio v0 h))
def y2ea (s : St) : OX := yee (s 0) s.h
theorem y1oh : T0 y11f [.t 2] y2ea := sq y1gd fun _ => by kernel_rfl
def ysv (v0 v3 : AV) (h : Heap) : OX :=
ob (y5 .gtr v3 (AV.int .i64 8)) fun v20 =>
cnd v20
 ((yc h (AV.bool false)))
 ((yee v0 h))
def y2ce (s : St) : OX := ysv (s 0) (s 3) s.h
theorem y1nr : T0 y19j [.t 2] y2ce := sq y1oh fun _ => by kernel_rfl
def ylz (v0 v3 : AV) (h : Heap) : OX :=
ob (yef v0 (some v3) none) fun v18 =>
(ysv v18 v3 h)
def yal (s : St) : OX := ylz (s 0) (s 3) s.h
theorem y1wk : T0 y13n [.t 2] yal := sq y1nr fun _ => by kernel_rfl
def yfc (v0 v3 : AV) (h : Heap) : OX :=
  W E 0 yih ⟨[(0, v0), (3, v3)], h⟩ yal (y4 0 yal xN) (finP [.t 2])
def yb2 (s : St) : OX := yfc (s 0) (s 3) s.h
theorem ynk : T1 yih yal (y4 0 yal xN) [.t 2] yb2 := fun s => yh.trans (by kernel_rfl)
def y15c (v0 v3 : AV) (h : Heap) : OX :=
ob (y5 .add v3 (AV.int .i64 1)) fun v15 =>
(yfc v0 v15 h)
def y2b7 (s : St) : OX := y15c (s 0) (s 3) s.h
theorem y1qm : T1 y19t yb2 (y4 0 yal xN) [.t 2] y2b7 := fun _ => by kernel_rfl
def ync (v0 v3 : AV) (h : Heap) : OX :=
ob (y11 0 v0 h) fun v6 =>
ob (y5 .lss v3 v6) fun v7 =>
gb v7 true (some v0) fun v9 =>
gb v7 true (some v3) fun v10 =>
gb v7 true (y3a v9 v10) fun v11 =>
gb v7 true (y5 .eql v11 (AV.int .u8 91)) fun v12 =>
ob (y8 v7 v12 (AV.bool false)) fun v13 =>
cnd v13
 ((y15c v0 v3 h))
 ((ylz v0 v3 h))
def y2ao (s : St) : OX := ync (s 0) (s 3) s.h
theorem y1vl : T1 y0q yb2 (y4 0 yal xN) [.t 2] y2ao := sq y1qm fun _ => by kernel_rfl
theorem ylp (v0 v3 : AV) (h : Heap) : yfc v0 v3 h = (ync v0 v3 h) :=
  y1r.trans ((y17 _ _ _ (n' := yb2) (fun s => ynk s)).trans ((y1vl _).trans (by kernel_rfl)))
theorem y1iq : T1 y14v yal xN [.t 2] yb2 := fun s => yt.trans (ynk s)
theorem y1qr : T0 y138 [.t 2] yb2 := sq y1wk y1iq
def ywe (v0 : AV) (h : Heap) : OX :=
(yfc v0 (AV.int .i64 0) h)
def y24j (s : St) : OX := ywe (s 0) s.h
theorem y1cl : T0 yt5 [.t 2] y24j := sq y1qr fun _ => by kernel_rfl
def yp9 (v0 : AV) (h : Heap) : OX :=
(ywe v0 h)
def y245 (s : St) : OX := yp9 (s 0) s.h
theorem y1bb : T0 ytf [.t 2] y245 := sq y1cl fun _ => by kernel_rfl
@[simp] theorem y2sx : E.pure 67 = true := rfl
theorem y2my (v0 : AV) : (y7 E).p 67 [v0] = yp9 v0 [] :=
  (yv (cf := y27l) (by kernel_rfl) rfl).trans ((y1bb _).trans (by kernel_rfl))
def y5j (v2 v3 : AV) (h : Heap) : OX :=
ob (evFa 0 v3) fun v47 =>
ob (evLd false 1 v47 h) fun v48 =>
ob (y5 .neq v48 (AV.int .i64 24)) fun v49 =>
gb v49 true (evFa 0 v3) fun v51 =>
gb v49 true (evLd false 1 v51 h) fun v52 =>
gb v49 true (y5 .neq v52 (AV.int .i64 25)) fun v53 =>
ob (y8 v49 v53 (AV.bool false)) fun v54 =>
gb v54 false (evFa 8 v3) fun v56 =>
gb v54 false (evLd false 1 v56 h) fun v57 =>
gb v54 false (y11 1 v57 h) fun v58 =>
gb v54 false (y5 .gtr v58 (AV.int .i64 0)) fun v59 =>
gb v54 false (some v59) fun v60 =>
gb v60 true (evLd true 5 v2 h) fun v61 =>
gb v60 true (evFa 8 v3) fun v62 =>
gb v60 true (evLd false 1 v62 h) fun v63 =>
gb v60 true (yw 1 v63 (AV.int .i64 0)) fun v64 =>
gb v60 true (evLd false 1 v64 h) fun v65 =>
gh v60 true (y6 E (y7 E) 0 none true 48 [v61, v65] h) h fun v66 h1 =>
gb v60 true (y5 .eql v66 (AV.int .i64 3)) fun v67 =>
gb v54 false (y8 v60 v67 (AV.bool false)) fun v68 =>
ob (y8 v54 (AV.bool true) v68) fun v69 =>
(yc h1 v69)
def y7g (s : St) : OX := y5j (s 2) (s 3) s.h
theorem y1le : T0 y16n [.t 4] y7g := fun _ => by kernel_rfl
def yhf (v2 v3 v5 : AV) (h : Heap) : OX :=
  W E 0 ykh ⟨[(2, v2), (3, v3), (5, v5)], h⟩ y7g (y4 0 y7g xN) (finP [.t 4])
def yb3 (s : St) : OX := yhf (s 2) (s 3) (s 5) s.h
theorem ymf : T1 ykh y7g (y4 0 y7g xN) [.t 4] yb3 := fun s => yh.trans (by kernel_rfl)
def y97 (v2 v3 v5 : AV) (h : Heap) : OX :=
ob (y5 .add v5 (AV.int .i64 1)) fun v38 =>
(yhf v2 v3 v38 h)
def y2c4 (s : St) : OX := y97 (s 2) (s 3) (s 5) s.h
theorem y1t4 : T1 y19b yb3 (y4 0 y7g xN) [.t 4] y2c4 := fun _ => by kernel_rfl
def y7n (v2 v3 v5 : AV) (h : Heap) : OX :=
ob (evLd true 5 v2 h) fun v39 =>
ob (evFa 8 v3) fun v40 =>
ob (evLd false 1 v40 h) fun v41 =>
ob (yw 1 v41 v5) fun v43 =>
ob (evLd false 1 v43 h) fun v44 =>
oh (y6 E (y7 E) 0 none true 48 [v39, v44] h) fun v45 h2 =>
ob (y5 .eql v45 (AV.int .i64 0)) fun v46 =>
cnd v46
 ((yc h2 (AV.bool false)))
 ((y97 v2 v3 v5 h2))
def y2ca (s : St) : OX := y7n (s 2) (s 3) (s 5) s.h
theorem y1pm : T1 y11k yb3 (y4 0 y7g xN) [.t 4] y2ca := sq y1t4 fun _ => by kernel_rfl
def y72 (v2 v3 v5 : AV) (h : Heap) : OX :=
ob (evFa 8 v3) fun v33 =>
ob (evLd false 1 v33 h) fun v34 =>
ob (y11 1 v34 h) fun v35 =>
ob (y5 .lss v5 v35) fun v36 =>
cnd v36
 ((y7n v2 v3 v5 h))
 ((y5j v2 v3 h))
def y28l (s : St) : OX := y72 (s 2) (s 3) (s 5) s.h
theorem y1ih : T1 y16p yb3 (y4 0 y7g xN) [.t 4] y28l := sq y1pm fun _ => by kernel_rfl
theorem ynh (v2 v3 v5 : AV) (h : Heap) : yhf v2 v3 v5 h = (y72 v2 v3 v5 h) :=
  y1r.trans ((y17 _ _ _ (n' := yb3) (fun s => ymf s)).trans ((y1ih _).trans (by kernel_rfl)))
theorem y1g7 : T1 y0z y7g xN [.t 4] yb3 := fun s => yt.trans (ymf s)
def ya2 (v2 v3 : AV) (h : Heap) : OX :=
(yhf v2 v3 (AV.int .i64 0) h)
def y1hi (s : St) : OX := ya2 (s 2) (s 3) s.h
theorem y1rr : T1 y17m y7g xN [.t 4] y1hi := sq y1g7 fun _ => by kernel_rfl
theorem y1jb : T0 y14e [.t 4] y1hi := sq y1le y1rr
def ya7 (v2 v3 : AV) (h : Heap) : OX :=
ob (evFa 5 v3) fun v6 =>
ob (evLd false 1 v6 h) fun v7 =>
ob (y5 .lss v7 (AV.int .i64 0)) fun v8 =>
gb v8 true (evFa 0 v3) fun v10 =>
gb v8 true (evLd false 1 v10 h) fun v11 =>
gb v8 true (y5 .neq v11 (AV.int .i64 25)) fun v12 =>
ob (y8 v8 v12 (AV.bool false)) fun v13 =>
gb v13 false (evFa 8 v3) fun v15 =>
gb v13 false (evLd false 1 v15 h) fun v16 =>
gb v13 false (y11 1 v16 h) fun v17 =>
gb v13 false (y5 .gtr v17 (AV.int .i64 21)) fun v18 =>
ob (y8 v13 (AV.bool true) v18) fun v19 =>
gb v19 false (evFa 1 v3) fun v21 =>
gb v19 false (evLd false 1 v21 h) fun v22 =>
gb v19 false (y5 .neq v22 (AV.int .i64 (-1))) fun v23 =>
gb v19 false (some v23) fun v24 =>
gb v24 true (evLd true 5 v2 h) fun v25 =>
gb v24 true (evFa 1 v3) fun v26 =>
gb v24 true (evLd false 1 v26 h) fun v27 =>
gh v24 true (y6 E (y7 E) 0 none true 48 [v25, v27] h) h fun v28 h3 =>
gb v24 true (y5 .eql v28 (AV.int .i64 0)) fun v29 =>
gb v19 false (y8 v24 v29 (AV.bool false)) fun v30 =>
ob (y8 v19 (AV.bool true) v30) fun v31 =>
cnd v31
 ((yc h3 (AV.bool false)))
 ((ya2 v2 v3 h3))
def y293 (s : St) : OX := ya7 (s 2) (s 3) s.h
theorem y1j4 : T0 y118 [.t 4] y293 := sq y1jb fun _ => by kernel_rfl
def y6j (v0 v1 : AV) (h : Heap) : OX :=
oh (newC 0 (some 0) (cellsOf v0) h) fun v2 h4 =>
oh (newC 0 (some 1) (cellsOf v1) h4) fun v3 h5 =>
(ya7 v2 v3 h5)
def y23k (s : St) : OX := y6j (s 0) (s 1) s.h
theorem y1d9 : T0 yvi [.t 4] y23k := sq y1j4 fun _ => by kernel_rfl
@[simp] theorem y2sv : E.pure 68 = true := rfl
theorem y2jk (v0 v1 : AV) : (y7 E).p 68 [v0, v1] = y6j v0 v1 [⟨0, .dead⟩, ⟨0, .dead⟩] :=
  (yv (cf := y27r) (by kernel_rfl) rfl).trans ((y1d9 _).trans (by kernel_rfl))
def y2db (h : Heap) : OX :=
(yc h (.tup [(AV.int .i64 0), (AV.int .i64 0), (AV.int .i64 0)]))
def y3t (s : St) : OX := y2db s.h
theorem y23g : T0 y1xy [.t 2, .t 3, .t 4] y3t := fun _ => by kernel_rfl
def y1e0 (v5 v33 : AV) (h : Heap) : OX :=
cnd v33
 ((yc h (.tup [(AV.int .i64 1), (AV.int .i64 0), (AV.int .i64 1)])))
 (ob (y5 .eql v5 (AV.int .i64 117)) fun v39 =>
cnd v39
 ((yc h (.tup [(AV.int .i64 2), (AV.int .i64 0), (AV.int .i64 2)])))
 (ob (y5 .eql v5 (AV.int .i64 133)) fun v41 =>
cnd v41
 ((yc h (.tup [(AV.int .i64 1), (AV.int .i64 0), (AV.int .i64 2)])))
 (ob (y5 .eql v5 (AV.int .i64 136)) fun v43 =>
cnd v43
 ((yc h (.tup [(AV.int .i64 2), (AV.int .i64 0), (AV.int .i64 1)])))
 ((y2db h)))))
def y2k1 (s : St) : OX := y1e0 (s 5) (s 33) s.h
theorem y243 : T1 y1so y3t (y4 0 y3t xN) [.t 2, .t 3, .t 4] y2k1 := fun _ => by kernel_rfl
def y2dc (v5 : AV) (h : Heap) : OX :=
ob (y5 .eql v5 (AV.int .i64 116)) fun v34 =>
cnd v34
 ((y1e0 v5 v34 h))
 (ob (y5 .eql v5 (AV.int .i64 145)) fun v35 =>
cnd v35
 ((y1e0 v5 v35 h))
 (ob (y5 .eql v5 (AV.int .i64 146)) fun v36 =>
cnd v36
 ((y1e0 v5 v36 h))
 (ob (y5 .eql v5 (AV.int .i64 147)) fun v37 =>
(y1e0 v5 v37 h))))
def y2lm (s : St) : OX := y2dc (s 5) s.h
theorem y20t : T1 y1gw y3t (y4 0 y3t xN) [.t 2, .t 3, .t 4] y2lm := sq y243 fun _ => by kernel_rfl
def y2aj (v5 v31 : AV) (h : Heap) : OX :=
cnd v31
 ((yc h (.tup [(AV.int .i64 2), (AV.int .i64 2), (AV.int .i64 1)])))
 ((y2dc v5 h))
def y2i3 (s : St) : OX := y2aj (s 5) (s 31) s.h
theorem y22c : T1 y1sq y3t (y4 0 y3t xN) [.t 2, .t 3, .t 4] y2i3 := fun s => (y1d rfl (y20t s)).trans (by kernel_rfl)
def y2ed (v5 : AV) (h : Heap) : OX :=
ob (y5 .eql v5 (AV.int .i64 148)) fun v32 =>
(y2aj v5 v32 h)
def y2iu (s : St) : OX := y2ed (s 5) s.h
theorem y1yu : T1 y1kv y3t (y4 0 y3t xN) [.t 2, .t 3, .t 4] y2iu := sq y22c fun _ => by kernel_rfl
def y1jv (v5 v27 : AV) (h : Heap) : OX :=
cnd v27
 ((yc h (.tup [(AV.int .i64 2), (AV.int .i64 1), (AV.int .i64 2)])))
 ((y2ed v5 h))
def y2il (s : St) : OX := y1jv (s 5) (s 27) s.h
theorem y21a : T1 y1xp y3t (y4 0 y3t xN) [.t 2, .t 3, .t 4] y2il := fun s => (y1d rfl (y1yu s)).trans (by kernel_rfl)
def y2cn (v5 : AV) (h : Heap) : OX :=
ob (y5 .eql v5 (AV.int .i64 121)) fun v28 =>
cnd v28
 ((y1jv v5 v28 h))
 (ob (y5 .eql v5 (AV.int .i64 123)) fun v29 =>
cnd v29
 ((y1jv v5 v29 h))
 (ob (y5 .eql v5 (AV.int .i64 125)) fun v30 =>
(y1jv v5 v30 h)))
def y2ll (s : St) : OX := y2cn (s 5) s.h
theorem y20z : T1 y1pt y3t (y4 0 y3t xN) [.t 2, .t 3, .t 4] y2ll := sq y21a fun _ => by kernel_rfl
def yl0 (v5 v18 : AV) (h : Heap) : OX :=
cnd v18
 ((yc h (.tup [(AV.int .i64 2), (AV.int .i64 2), (AV.int .i64 2)])))
 ((y2cn v5 h))
def y2hv (s : St) : OX := yl0 (s 5) (s 18) s.h
theorem y250 : T1 y1ib y3t (y4 0 y3t xN) [.t 2, .t 3, .t 4] y2hv := fun s => (y1d rfl (y20z s)).trans (by kernel_rfl)
def y2a3 (v5 : AV) (h : Heap) : OX :=
ob (y5 .eql v5 (AV.int .i64 97)) fun v19 =>
cnd v19
 ((yl0 v5 v19 h))
 (ob (y5 .eql v5 (AV.int .i64 101)) fun v20 =>
cnd v20
 ((yl0 v5 v20 h))
 (ob (y5 .eql v5 (AV.int .i64 105)) fun v21 =>
cnd v21
 ((yl0 v5 v21 h))
 (ob (y5 .eql v5 (AV.int .i64 109)) fun v22 =>
cnd v22
 ((yl0 v5 v22 h))
 (ob (y5 .eql v5 (AV.int .i64 113)) fun v23 =>
cnd v23
 ((yl0 v5 v23 h))
 (ob (y5 .eql v5 (AV.int .i64 127)) fun v24 =>
cnd v24
 ((yl0 v5 v24 h))
 (ob (y5 .eql v5 (AV.int .i64 129)) fun v25 =>
cnd v25
 ((yl0 v5 v25 h))
 (ob (y5 .eql v5 (AV.int .i64 131)) fun v26 =>
(yl0 v5 v26 h))))))))
def y2nm (s : St) : OX := y2a3 (s 5) s.h
theorem y22z : T1 y1p7 y3t (y4 0 y3t xN) [.t 2, .t 3, .t 4] y2nm := sq y250 fun _ => by kernel_rfl
def y7t (v5 v6 : AV) (h : Heap) : OX :=
cnd v6
 ((yc h (.tup [(AV.int .i64 1), (AV.int .i64 1), (AV.int .i64 1)])))
 ((y2a3 v5 h))
def y2ds (s : St) : OX := y7t (s 5) (s 6) s.h
theorem y1f9 : T1 yz4 y3t (y4 0 y3t xN) [.t 2, .t 3, .t 4] y2ds := fun s => (y1d rfl (y22z s)).trans (by kernel_rfl)
def y1nt (v5 : AV) (h : Heap) : OX :=
ob (y5 .eql v5 (AV.int .i64 96)) fun v7 =>
cnd v7
 ((y7t v5 v7 h))
 (ob (y5 .eql v5 (AV.int .i64 100)) fun v8 =>
cnd v8
 ((y7t v5 v8 h))
 (ob (y5 .eql v5 (AV.int .i64 104)) fun v9 =>
cnd v9
 ((y7t v5 v9 h))
 (ob (y5 .eql v5 (AV.int .i64 108)) fun v10 =>
cnd v10
 ((y7t v5 v10 h))
 (ob (y5 .eql v5 (AV.int .i64 112)) fun v11 =>
cnd v11
 ((y7t v5 v11 h))
 (ob (y5 .eql v5 (AV.int .i64 120)) fun v12 =>
cnd v12
 ((y7t v5 v12 h))
 (ob (y5 .eql v5 (AV.int .i64 122)) fun v13 =>
cnd v13
 ((y7t v5 v13 h))
 (ob (y5 .eql v5 (AV.int .i64 124)) fun v14 =>
cnd v14
 ((y7t v5 v14 h))
 (ob (y5 .eql v5 (AV.int .i64 126)) fun v15 =>
cnd v15
 ((y7t v5 v15 h))
 (ob (y5 .eql v5 (AV.int .i64 128)) fun v16 =>
cnd v16
 ((y7t v5 v16 h))
 (ob (y5 .eql v5 (AV.int .i64 130)) fun v17 =>
(y7t v5 v17 h)))))))))))
def y1sy (s : St) : OX := y1nt (s 5) s.h
theorem y1hp : T1 y16h y3t (y4 0 y3t xN) [.t 2, .t 3, .t 4] y1sy := sq y1f9 fun _ => by kernel_rfl
theorem y1gs : T1 y16x y3t xN [.t 2, .t 3, .t 4] y1sy := fun s => yt.trans (y1hp s)
def y1tw (v0 : AV) (h : Heap) : OX :=
(y1nt v0 h)
def y1ko (s : St) : OX := y1tw (s 0) s.h
theorem y1si : T1 y12n y3t xN [.t 2, .t 3, .t 4] y1ko := sq y1gs fun _ => by kernel_rfl
theorem y1lz : T0 yy1 [.t 2, .t 3, .t 4] y1ko := sq y23g y1si
def y1nh (v0 : AV) (h : Heap) : OX :=
(y1tw v0 h)
def y2ex (s : St) : OX := y1nh (s 0) s.h
theorem y1vn : T0 y16z [.t 2, .t 3, .t 4] y2ex := sq y1lz fun _ => by kernel_rfl
@[simp] theorem y2p4 : E.pure 50 = true := rfl
theorem y2po (v0 : AV) : (y7 E).p 50 [v0] = y1nh v0 [] :=
  (yv (cf := y2jo) (by kernel_rfl) rfl).trans ((y1vn _).trans (by kernel_rfl))
def q8_1 (v0 : AV) (h : Heap) : OX :=
ob (y5 .neq v0 (AV.str [])) fun v4 =>
gb v4 true (some v0) fun v6 =>
gh v4 true (y6 E (y7 E) 0 none true 44 [v6] h) h fun v7 h1 =>
gb v4 true (some v0) fun v8 =>
gb v4 true (y11 0 v8 h1) fun v9 =>
gb v4 true (y5 .eql v7 v9) fun v10 =>
ob (y8 v4 v10 (AV.bool false)) fun v11 =>
(yc h1 v11)
def y2sn (s : St) : OX := q8_1 (s 0) s.h
theorem y2dl : T0 y26w [.t 2] y2sn := fun _ => by kernel_rfl
@[simp] theorem y2se : E.pure 37 = true := rfl
theorem x_q8 (v0 : AV) : (y7 E).p 37 [v0] = q8_1 v0 [] :=
  (yv (cf := c_q8) (by kernel_rfl) rfl).trans ((y2dl _).trans (by kernel_rfl))
def yx7 (v2 : AV) (h : Heap) : OX :=
ob (y1b [(.int .i64 0), (.int .i64 0), (.int .i64 0), (.int .i64 0)] []) fun v73 =>
oh (evSt 4 v2 v73 h) fun _ h1 =>
(ob (evLd true 4 v2 h1) fun r0 =>
  yc h1 (.tup [r0, (AV.bool false)]))
def y2k (s : St) : OX := yx7 (s 2) s.h
theorem y259 : T0 y1o6 [.cell 2 true 4, .t 3] y2k := fun _ => by kernel_rfl
def yql (v1 v2 v4 : AV) (h : Heap) : OX :=
ob (y1b [(.int .i64 0), (.int .i64 0), (.int .i64 0), (.int .i64 0)] [(0, 1, (AV.int .i64 (-1))), (1, 1, (AV.int .i64 3)), (2, 1, v4), (3, 1, (AV.int .i64 (-1)))]) fun v16 =>
ob (evFa 5 v1) fun v17 =>
ob (evLd false 1 v17 h) fun v18 =>
ob (y5 .eql v18 (AV.int .i64 0)) fun v19 =>
ofp (fgd v19 false (some ([], []))) fun f6 =>
gb v19 false (evFa 5 v1) fun v21 =>
ofp (fgd v19 false (some (ids1 v21, []))) fun f7 =>
gb v19 false (evLd false 1 v21 h) fun v22 =>
ofp (fgd v19 false (some ([], []))) fun f8 =>
gb v19 false (y5 .eql v22 (AV.int .i64 1)) fun v23 =>
ob (y8 v19 (AV.bool true) v23) fun v24 =>
oh (evSt 4 v2 v16 h) fun _ h2 =>
okK (yf [([], []), ([], []), ([], []), (ids1 v17, []), ([], []), ([], []), f6, f7, f8, ([], []), ([], ids1 v2), ([], [])] [(7, 10)]) <|
(ob (evLd true 4 v2 h2) fun r0 =>
  yc h2 (.tup [r0, v24]))
def y2la (s : St) : OX := yql (s 1) (s 2) (s 4) s.h
theorem y263 : T1 y1of y2k (y4 0 y2k xN) [.cell 2 true 4, .t 3] y2la := fun _ => by kernel_rfl
def ywp (v1 v2 v4 : AV) (h : Heap) : OX :=
ob (evFa 3 v1) fun v12 =>
ob (evLd false 1 v12 h) fun v13 =>
ob (y5 .neq v13 (AV.int .i64 (-1))) fun v14 =>
cnd v14
 ((yql v1 v2 (AV.int .i64 3) h))
 ((yql v1 v2 v4 h))
def y2jv (s : St) : OX := ywp (s 1) (s 2) (s 4) s.h
theorem y246 : T1 y1o3 y2k (y4 0 y2k xN) [.cell 2 true 4, .t 3] y2jv := sq y263 fun _ => by kernel_rfl
def yxp (v1 v2 : AV) (h : Heap) : OX :=
(ywp v1 v2 (AV.int .i64 (-1)) h)
def y2j6 (s : St) : OX := yxp (s 1) (s 2) s.h
theorem y20i : T1 y1rk y2k (y4 0 y2k xN) [.cell 2 true 4, .t 3] y2j6 := sq y246 fun _ => by kernel_rfl
def ysz (v2 v5 : AV) (h : Heap) : OX :=
ob (y1b [(.int .i64 0), (.int .i64 0), (.int .i64 0), (.int .i64 0)] [(0, 1, (AV.int .i64 (-1))), (1, 1, v5), (2, 1, (AV.int .i64 (-1))), (3, 1, (AV.int .i64 (-1)))]) fun v31 =>
oh (evSt 4 v2 v31 h) fun _ h3 =>
(ob (evLd true 4 v2 h3) fun r0 =>
  yc h3 (.tup [r0, (AV.bool true)]))
def y2kr (s : St) : OX := ysz (s 2) (s 5) s.h
theorem y20k : T1 y1nb y2k (y4 0 y2k xN) [.cell 2 true 4, .t 3] y2kr := fun _ => by kernel_rfl
def yw5 (v1 v2 v5 : AV) (h : Heap) : OX :=
ob (evFa 2 v1) fun v27 =>
ob (evLd false 1 v27 h) fun v28 =>
ob (y5 .neq v28 (AV.int .i64 (-1))) fun v29 =>
cnd v29
 ((ysz v2 (AV.int .i64 0) h))
 ((ysz v2 v5 h))
def y2hw (s : St) : OX := yw5 (s 1) (s 2) (s 5) s.h
theorem y202 : T1 y1ps y2k (y4 0 y2k xN) [.cell 2 true 4, .t 3] y2hw := sq y20k fun _ => by kernel_rfl
def ywq (v1 v2 : AV) (h : Heap) : OX :=
(yw5 v1 v2 (AV.int .i64 (-1)) h)
def y2kf (s : St) : OX := ywq (s 1) (s 2) s.h
theorem y20m : T1 y1w5 y2k (y4 0 y2k xN) [.cell 2 true 4, .t 3] y2kf := sq y202 fun _ => by kernel_rfl
def yto (v1 v2 v6 : AV) (h : Heap) : OX :=
ob (evFa 0 v1) fun v40 =>
ob (evLd false 1 v40 h) fun v41 =>
ob (y5 .eql v41 (AV.int .i64 23)) fun v42 =>
gb v42 false (evFa 0 v1) fun v44 =>
gb v42 false (evLd false 1 v44 h) fun v45 =>
gb v42 false (y5 .eql v45 (AV.int .i64 26)) fun v46 =>
ob (y8 v42 (AV.bool true) v46) fun v47 =>
gb v47 false (evFa 8 v1) fun v49 =>
gb v47 false (evLd false 1 v49 h) fun v50 =>
gb v47 false (y11 1 v50 h) fun v51 =>
gb v47 false (y5 .gtr v51 (AV.int .i64 0)) fun v52 =>
ob (y8 v47 (AV.bool true) v52) fun v53 =>
ob (y1b [(.int .i64 0), (.int .i64 0), (.int .i64 0), (.int .i64 0)] [(0, 1, v6), (1, 1, (AV.int .i64 (-1))), (2, 1, (AV.int .i64 (-1))), (3, 1, (AV.int .i64 (-1)))]) fun v55 =>
ofp (fgd v53 true (some ([], []))) fun f4 =>
gb v53 true (evFa 5 v1) fun v58 =>
ofp (fgd v53 true (some (ids1 v58, []))) fun f5 =>
gb v53 true (evLd false 1 v58 h) fun v59 =>
ofp (fgd v53 true (some ([], []))) fun f6 =>
gb v53 true (y5 .geq v59 (AV.int .i64 0)) fun v60 =>
ofp (fgd v53 true (some ([], []))) fun f7 =>
gb v53 true (some v60) fun v61 =>
ofp (fgd v61 false (some ([], []))) fun f8 =>
gb v61 false (evFa 0 v1) fun v62 =>
ofp (fgd v61 false (some (ids1 v62, []))) fun f9 =>
gb v61 false (evLd false 1 v62 h) fun v63 =>
ofp (fgd v61 false (some ([], []))) fun f10 =>
gb v61 false (y5 .eql v63 (AV.int .i64 25)) fun v64 =>
ofp (fgd v53 true (some ([], []))) fun f11 =>
gb v53 true (y8 v61 (AV.bool true) v64) fun v65 =>
ob (y8 v53 v65 (AV.bool false)) fun v66 =>
ofp (fgd v66 true (some ([], []))) fun f14 =>
gb v66 true (evFa 8 v1) fun v68 =>
ofp (fgd v66 true (some (ids1 v68, []))) fun f15 =>
gb v66 true (evLd false 1 v68 h) fun v69 =>
ofp (fgd v66 true (some (ids1 v69, []))) fun f16 =>
gb v66 true (y11 1 v69 h) fun v70 =>
ofp (fgd v66 true (some ([], []))) fun f17 =>
gb v66 true (y5 .leq v70 (AV.int .i64 21)) fun v71 =>
ob (y8 v66 v71 (AV.bool false)) fun v72 =>
oh (evSt 4 v2 v55 h) fun _ h4 =>
okK (yf [([], []), ([], []), ([], []), ([], []), f4, f5, f6, f7, f8, f9, f10, f11, ([], []), ([], []), f14, f15, f16, f17, ([], []), ([], ids1 v2), ([], [])] [(15, 19), (16, 19)]) <|
(ob (evLd true 4 v2 h4) fun r0 =>
  yc h4 (.tup [r0, v72]))
def y2kj (s : St) : OX := yto (s 1) (s 2) (s 6) s.h
theorem y21q : T1 y1ou y2k (y4 0 y2k xN) [.cell 2 true 4, .t 3] y2kj := fun _ => by kernel_rfl
def yw3 (v1 v2 v6 : AV) (h : Heap) : OX :=
ob (evFa 1 v1) fun v37 =>
ob (evLd false 1 v37 h) fun v38 =>
ob (y5 .neq v38 (AV.int .i64 (-1))) fun v39 =>
cnd v39
 ((yto v1 v2 (AV.int .i64 0) h))
 ((yto v1 v2 v6 h))
def y2m5 (s : St) : OX := yw3 (s 1) (s 2) (s 6) s.h
theorem y23c : T1 y1oe y2k (y4 0 y2k xN) [.cell 2 true 4, .t 3] y2m5 := sq y21q fun _ => by kernel_rfl
def yjr (v1 v2 : AV) (h : Heap) : OX :=
(yw3 v1 v2 (AV.int .i64 (-1)) h)
def y2bz (s : St) : OX := yjr (s 1) (s 2) s.h
theorem y1v9 : T1 y15s y2k (y4 0 y2k xN) [.cell 2 true 4, .t 3] y2bz := sq y23c fun _ => by kernel_rfl
def yc1 (v1 v2 v32 : AV) (h : Heap) : OX :=
cnd v32
 ((yjr v1 v2 h))
 ((yx7 v2 h))
def y2bd (s : St) : OX := yc1 (s 1) (s 2) (s 32) s.h
theorem y1sh : T1 y15h y2k (y4 0 y2k xN) [.cell 2 true 4, .t 3] y2bd := fun s => (y1d (y1v9 s) rfl).trans (by kernel_rfl)
def yk1 (v1 v2 v9 : AV) (h : Heap) : OX :=
ob (y5 .eql v9 (AV.int .i64 23)) fun v33 =>
cnd v33
 ((yc1 v1 v2 v33 h))
 (ob (y5 .eql v9 (AV.int .i64 24)) fun v34 =>
cnd v34
 ((yc1 v1 v2 v34 h))
 (ob (y5 .eql v9 (AV.int .i64 25)) fun v35 =>
cnd v35
 ((yc1 v1 v2 v35 h))
 (ob (y5 .eql v9 (AV.int .i64 26)) fun v36 =>
(yc1 v1 v2 v36 h))))
def y2f0 (s : St) : OX := yk1 (s 1) (s 2) (s 9) s.h
theorem y1l1 : T1 y12p y2k (y4 0 y2k xN) [.cell 2 true 4, .t 3] y2f0 := sq y1sh fun _ => by kernel_rfl
def yjl (v1 v2 v9 v25 : AV) (h : Heap) : OX :=
cnd v25
 ((ywq v1 v2 h))
 ((yk1 v1 v2 v9 h))
def y28g (s : St) : OX := yjl (s 1) (s 2) (s 9) (s 25) s.h
theorem y1oq : T1 y172 y2k (y4 0 y2k xN) [.cell 2 true 4, .t 3] y28g := fun s => (y1d (y20m s) (y1l1 s)).trans (by kernel_rfl)
def yhh (v1 v2 v9 : AV) (h : Heap) : OX :=
ob (y5 .eql v9 (AV.int .i64 30)) fun v26 =>
(yjl v1 v2 v9 v26 h)
def y2cz (s : St) : OX := yhh (s 1) (s 2) (s 9) s.h
theorem y1wn : T1 y18u y2k (y4 0 y2k xN) [.cell 2 true 4, .t 3] y2cz := sq y1oq fun _ => by kernel_rfl
def yk6 (v1 v2 v9 v10 : AV) (h : Heap) : OX :=
cnd v10
 ((yxp v1 v2 h))
 ((yhh v1 v2 v9 h))
def y2fq (s : St) : OX := yk6 (s 1) (s 2) (s 9) (s 10) s.h
theorem y1k0 : T1 y18g y2k (y4 0 y2k xN) [.cell 2 true 4, .t 3] y2fq := fun s => (y1d (y20i s) (y1wn s)).trans (by kernel_rfl)
def ykr (v1 v2 v9 : AV) (h : Heap) : OX :=
ob (y5 .eql v9 (AV.int .i64 29)) fun v11 =>
(yk6 v1 v2 v9 v11 h)
def y1ll (s : St) : OX := ykr (s 1) (s 2) (s 9) s.h
theorem y1ku : T1 y14l y2k (y4 0 y2k xN) [.cell 2 true 4, .t 3] y1ll := sq y1k0 fun _ => by kernel_rfl
theorem y1o4 : T1 y12z y2k xN [.cell 2 true 4, .t 3] y1ll := fun s => yt.trans (y1ku s)
def yjm (v1 v2 : AV) (h : Heap) : OX :=
ob (evFa 0 v1) fun v8 =>
ob (evLd false 1 v8 h) fun v9 =>
(ykr v1 v2 v9 h)
def y1ky (s : St) : OX := yjm (s 1) (s 2) s.h
theorem y1fn : T1 y04 y2k xN [.cell 2 true 4, .t 3] y1ky := sq y1o4 fun _ => by kernel_rfl
theorem y1mh : T0 y15u [.cell 2 true 4, .t 3] y1ky := sq y259 y1fn
def yi0 (v0 : AV) (h : Heap) : OX :=
oh (newC 0 (some 0) (cellsOf v0) h) fun v1 h5 =>
oh (newC 0 (some 1) [(.int .i64 0), (.int .i64 0), (.int .i64 0), (.int .i64 0)] h5) fun v2 h6 =>
(yjm v1 v2 h6)
def y2gn (s : St) : OX := yi0 (s 0) s.h
theorem y1oz : T0 y0c [.cell 2 true 4, .t 3] y2gn := sq y1mh fun _ => by kernel_rfl
@[simp] theorem y2rs : E.pure 51 = true := rfl
theorem y207 (v0 : AV) : (y7 E).p 51 [v0] = yi0 v0 [⟨0, .dead⟩, ⟨0, .dead⟩] :=
  (yv (cf := y2jw) (by kernel_rfl) rfl).trans ((y1oz _).trans (by kernel_rfl))
def y2aw (v0 v1 : AV) (h : Heap) : OX :=
ob (y5 .quo v1 (AV.int .i64 64)) fun v7 =>
ob (yw 1 v0 v7) fun v8 =>
ob (evLd false 1 v8 h) fun v9 =>
ob (y5 .rem v1 (AV.int .i64 64)) fun v11 =>
ob (y5 .shr v9 v11) fun v12 =>
ob (y5 .and v12 (AV.int .u64 1)) fun v13 =>
ob (y5 .eql v13 (AV.int .u64 1)) fun v14 =>
(yc h v14)
def y2l1 (s : St) : OX := y2aw (s 0) (s 1) s.h
theorem y215 : T0 y1jm [.t 4] y2l1 := fun _ => by kernel_rfl
@[simp] theorem y2s2 : E.pure 83 = true := rfl
theorem y2p8 (v0 v1 : AV) : (y7 E).p 83 [v0, v1] = y2aw v0 v1 [] :=
  (yv (cf := y2j2) (by kernel_rfl) rfl).trans ((y215 _).trans (by kernel_rfl))
def yny (h : Heap) : OX :=
(yc h (AV.bool false))
def y7h (s : St) : OX := yny s.h
theorem y1lr : T0 yys [.t 4] y7h := fun _ => by kernel_rfl
def yk3 (v0 v1 v5 : AV) (h : Heap) : OX :=
  W E 0 yis ⟨[(0, v0), (1, v1), (5, v5)], h⟩ y7h (y4 0 y7h xN) (finP [.t 4])
def ybr (s : St) : OX := yk3 (s 0) (s 1) (s 5) s.h
theorem ynp : T1 yis y7h (y4 0 y7h xN) [.t 4] ybr := fun s => yh.trans (by kernel_rfl)
def ynt (v0 v1 v5 : AV) (h : Heap) : OX :=
ob (y5 .add v5 (AV.int .i64 1)) fun v11 =>
(yk3 v0 v1 v11 h)
def y2ae (s : St) : OX := ynt (s 0) (s 1) (s 5) s.h
theorem y1fh : T1 y15i ybr (y4 0 y7h xN) [.t 4] y2ae := fun _ => by kernel_rfl
def yno (v0 v1 v5 : AV) (h : Heap) : OX :=
ob (yw 1 v0 v5) fun v14 =>
ob (evLd false 1 v14 h) fun v15 =>
ob (y5 .eql v15 v1) fun v17 =>
cnd v17
 ((yc h (AV.bool true)))
 ((ynt v0 v1 v5 h))
def y2b1 (s : St) : OX := yno (s 0) (s 1) (s 5) s.h
theorem y1oy : T1 y13y ybr (y4 0 y7h xN) [.t 4] y2b1 := sq y1fh fun _ => by kernel_rfl
def yln (v0 v1 v5 : AV) (h : Heap) : OX :=
ob (y11 1 v0 h) fun v8 =>
ob (y5 .lss v5 v8) fun v9 =>
cnd v9
 ((yno v0 v1 v5 h))
 ((yny h))
def y29p (s : St) : OX := yln (s 0) (s 1) (s 5) s.h
theorem y1q5 : T1 y162 ybr (y4 0 y7h xN) [.t 4] y29p := sq y1oy fun _ => by kernel_rfl
theorem ymi (v0 v1 v5 : AV) (h : Heap) : yk3 v0 v1 v5 h = (yln v0 v1 v5 h) :=
  y1r.trans ((y17 _ _ _ (n' := ybr) (fun s => ynp s)).trans ((y1q5 _).trans (by kernel_rfl)))
theorem y1js : T1 y161 y7h xN [.t 4] ybr := fun s => yt.trans (ynp s)
def ymk (v0 v1 : AV) (h : Heap) : OX :=
(yk3 v0 v1 (AV.int .i64 0) h)
def y1w8 (s : St) : OX := ymk (s 0) (s 1) s.h
theorem y1u4 : T1 y181 y7h xN [.t 4] y1w8 := sq y1js fun _ => by kernel_rfl
theorem y1vp : T0 y0m [.t 4] y1w8 := sq y1lr y1u4
def ymp (v0 v1 : AV) (h : Heap) : OX :=
(ymk v0 v1 h)
def y2bc (s : St) : OX := ymp (s 0) (s 1) s.h
theorem y1n2 : T0 y18l [.t 4] y2bc := sq y1vp fun _ => by kernel_rfl
@[simp] theorem y2rk : E.pure 94 = true := rfl
theorem y2j7 (v0 v1 : AV) : (y7 E).p 94 [v0, v1] = ymp v0 v1 [] :=
  (yv (cf := y27d) (by kernel_rfl) rfl).trans ((y1n2 _).trans (by kernel_rfl))
def y1h0 (v3 : AV) (h : Heap) : OX :=
(yc h v3)
def y76 (s : St) : OX := y1h0 (s 3) s.h
theorem y1rv : T0 y145 [.t 2] y76 := fun _ => by kernel_rfl
def ycp (v3 v4 v5 v6 : AV) (h : Heap) : OX :=
  W E 0 yjz ⟨[(3, v3), (4, v4), (5, v5), (6, v6)], h⟩ y76 (y4 0 y76 xN) (finP [.t 2])
def ybp (s : St) : OX := ycp (s 3) (s 4) (s 5) (s 6) s.h
theorem ymu : T1 yjz y76 (y4 0 y76 xN) [.t 2] ybp := fun s => yh.trans (by kernel_rfl)
def yfz (v3 v4 v5 v6 : AV) (h : Heap) : OX :=
ob (y5 .add v6 (AV.int .i64 1)) fun v36 =>
(ycp v3 v4 v5 v36 h)
def y2fp (s : St) : OX := yfz (s 3) (s 4) (s 5) (s 6) s.h
theorem y1qw : T1 y12s ybp (y4 0 y76 xN) [.t 2] y2fp := fun _ => by kernel_rfl
def yly (v3 v4 v5 v6 : AV) (h : Heap) : OX :=
ob (y3a v4 v6) fun v39 =>
ob (y5 .neq v39 (AV.int .u8 45)) fun v40 =>
gb v40 true (some v4) fun v42 =>
gb v40 true (some v6) fun v43 =>
gb v40 true (y3a v42 v43) fun v44 =>
gb v40 true (y5 .neq v44 (AV.int .u8 63)) fun v45 =>
gb v40 true (some v45) fun v46 =>
gb v46 false (some v5) fun v47 =>
gb v46 false (some v6) fun v48 =>
gb v46 false (yw 1 v47 v48) fun v49 =>
gb v46 false (evLd false 1 v49 h) fun v50 =>
gb v46 false (y5 .geq v50 (AV.int .i64 0)) fun v51 =>
gb v40 true (y8 v46 (AV.bool true) v51) fun v52 =>
ob (y8 v40 v52 (AV.bool false)) fun v53 =>
cnd v53
 (ob (yw 1 v5 v6) fun v57 =>
ob (evLd false 1 v57 h) fun v58 =>
oh (yr 0 (some 3) 1 1 [(.int .i64 0)] [(0, v58)] h) fun v59 h1 =>
oh (y2b 0 (some 4) 1 8 v3 v59 h1) fun v60 h2 =>
(yfz v60 v4 v5 v6 h2))
 ((yfz v3 v4 v5 v6 h))
def y2ef (s : St) : OX := yly (s 3) (s 4) (s 5) (s 6) s.h
theorem y1f1 : T1 y143 ybp (y4 0 y76 xN) [.t 2] y2ef := sq y1qw fun _ => by kernel_rfl
def yir (v3 v4 v5 v6 : AV) (h : Heap) : OX :=
ob (y11 0 v4 h) fun v33 =>
ob (y5 .lss v6 v33) fun v34 =>
cnd v34
 ((yly v3 v4 v5 v6 h))
 ((y1h0 v3 h))
def y29q (s : St) : OX := yir (s 3) (s 4) (s 5) (s 6) s.h
theorem y1la : T1 y136 ybp (y4 0 y76 xN) [.t 2] y29q := sq y1f1 fun _ => by kernel_rfl
theorem yfp (v3 v4 v5 v6 : AV) (h : Heap) : ycp v3 v4 v5 v6 h = (yir v3 v4 v5 v6 h) :=
  y1r.trans ((y17 _ _ _ (n' := ybp) (fun s => ymu s)).trans ((y1la _).trans (by kernel_rfl)))
theorem y1tm : T1 y15v y76 xN [.t 2] ybp := fun s => yt.trans (ymu s)
def y1mb (v3 v4 v5 : AV) (h : Heap) : OX :=
(ycp v3 v4 v5 (AV.int .i64 1) h)
def y1ss (s : St) : OX := y1mb (s 3) (s 4) (s 5) s.h
theorem y1pw : T1 y0w y76 xN [.t 2] y1ss := sq y1tm fun _ => by kernel_rfl
theorem y1uq : T0 y19d [.t 2] y1ss := sq y1rv y1pw
def yl7 (v1 v3 v4 : AV) (h : Heap) : OX :=
ob (evFa 1 v1) fun v22 =>
ob (evLd false 1 v22 h) fun v23 =>
ob (evFa 2 v1) fun v24 =>
ob (evLd false 1 v24 h) fun v25 =>
ob (evFa 3 v1) fun v26 =>
ob (evLd false 1 v26 h) fun v27 =>
ob (evFa 4 v1) fun v28 =>
ob (evLd false 1 v28 h) fun v29 =>
oh (yr 0 (some 2) 1 4 [(.int .i64 0)] [(0, v23), (1, v25), (2, v27), (3, v29)] h) fun v30 h3 =>
(y1mb v3 v4 v30 h3)
def y2hc (s : St) : OX := yl7 (s 1) (s 3) (s 4) s.h
theorem y1uv : T0 y149 [.t 2] y2hc := sq y1uq fun _ => by kernel_rfl
def yfk (v1 v3 v4 : AV) (h : Heap) : OX :=
ob (evFa 0 v1) fun v19 =>
ob (evLd false 1 v19 h) fun v20 =>
ob (y5 .eql v20 (AV.int .i64 6)) fun v21 =>
cnd v21
 ((yl7 v1 v3 (AV.str [45, 42, 45, 45]) h))
 ((yl7 v1 v3 v4 h))
def y20q (s : St) : OX := yfk (s 1) (s 3) (s 4) s.h
theorem y1de : T0 yr4 [.t 2] y20q := sq y1uv fun _ => by kernel_rfl
def yfm (v1 v3 v4 : AV) (h : Heap) : OX :=
ob (evFa 0 v1) fun v16 =>
ob (evLd false 1 v16 h) fun v17 =>
ob (y5 .eql v17 (AV.int .i64 5)) fun v18 =>
cnd v18
 ((yfk v1 v3 (AV.str [45, 42, 42, 45]) h))
 ((yfk v1 v3 v4 h))
def y261 (s : St) : OX := yfm (s 1) (s 3) (s 4) s.h
theorem y1bd : T0 yr6 [.t 2] y261 := sq y1de fun _ => by kernel_rfl
def yx8 (v1 v3 : AV) (h : Heap) : OX :=
ob (evFa 0 v1) fun v13 =>
ob (evLd false 1 v13 h) fun v14 =>
oh (y6 E (y7 E) 0 none true 38 [v14] h) fun v15 h4 =>
(yfm v1 v3 v15 h4)
def y20o (s : St) : OX := yx8 (s 1) (s 3) s.h
theorem y1dh : T0 yt2 [.t 2] y20o := sq y1bd fun _ => by kernel_rfl
def ywy (v1 : AV) (h : Heap) : OX :=
(yx8 v1 AV.nils h)
def y25o (s : St) : OX := ywy (s 1) s.h
theorem y1b6 : T0 yua [.t 2] y25o := sq y1dh fun _ => by kernel_rfl
def yp1 (v1 : AV) (h : Heap) : OX :=
ob (evFa 0 v1) fun v7 =>
ob (evLd false 1 v7 h) fun v8 =>
oh (y6 E (y7 E) 0 none true 7 [v8] h) fun v9 h5 =>
cnd v9
 (ob (evFa 8 v1) fun v10 =>
ob (evLd false 1 v10 h5) fun v11 =>
oh (y2b 0 (some 1) 1 8 AV.nils v11 h5) fun v12 h6 =>
(yc h6 v12))
 ((ywy v1 h5))
def y25s (s : St) : OX := yp1 (s 1) s.h
theorem y1ar : T0 ytk [.t 2] y25s := sq y1b6 fun _ => by kernel_rfl
def yq1 (v0 : AV) (h : Heap) : OX :=
oh (newC 0 (some 0) (cellsOf v0) h) fun v1 h7 =>
(yp1 v1 h7)
def y22l (s : St) : OX := yq1 (s 0) s.h
theorem y1a3 : T0 yrc [.t 2] y22l := sq y1ar fun _ => by kernel_rfl
@[simp] theorem y2rt : E.pure 15 = true := rfl
theorem y2n6 (v0 : AV) : (y7 E).p 15 [v0] = yq1 v0 [⟨0, .dead⟩, ⟨0, .dead⟩, ⟨0, .dead⟩, ⟨0, .dead⟩, ⟨0, .dead⟩] :=
  (yv (cf := y288) (by kernel_rfl) rfl).trans ((y1a3 _).trans (by kernel_rfl))
def y1tb (v5 : AV) (h : Heap) : OX :=
(yc h v5)
def y41 (s : St) : OX := y1tb (s 5) s.h
theorem y1lc : T0 y18v [.t 4] y41 := fun _ => by kernel_rfl
def ykj (v1 v2 v5 v6 : AV) (h : Heap) : OX :=
  W E 0 yhy ⟨[(1, v1), (2, v2), (5, v5), (6, v6)], h⟩ y41 (y4 0 y41 xN) (finP [.t 4])
def ybn (s : St) : OX := ykj (s 1) (s 2) (s 5) (s 6) s.h
theorem ynv : T1 yhy y41 (y4 0 y41 xN) [.t 4] ybn := fun s => yh.trans (by kernel_rfl)
def ylr (v1 v2 v5 v6 : AV) (h : Heap) : OX :=
ob (y5 .add v6 (AV.int .i64 1)) fun v33 =>
(ykj v1 v2 v5 v33 h)
def y5l (s : St) : OX := ylr (s 1) (s 2) (s 5) (s 6) s.h
theorem y1we : T1 y119 ybn (y4 0 y41 xN) [.t 4] y5l := fun _ => by kernel_rfl
def yld (v1 v2 v5 v6 v7 : AV) (h : Heap) : OX :=
ob (evFa 3 v7) fun v59 =>
ob (evLd false 1 v59 h) fun v60 =>
ob (y5 .eql v60 (AV.str [])) fun v61 =>
cnd v61
 ((yc h v5))
 ((ylr v1 v2 v5 v6 h))
def y29j (s : St) : OX := yld (s 1) (s 2) (s 5) (s 6) (s 7) s.h
theorem y1xv : T1 y13i y5l (y4 1 y5l (y4 0 y41 xN)) [.t 4] y29j := fun _ => by kernel_rfl
def y15o (v1 v2 v5 v6 v7 : AV) (h : Heap) : OX :=
ob (evFa 2 v7) fun v50 =>
ob (evLd false 1 v50 h) fun v51 =>
oh (y6 E (y7 E) 0 none true 96 [v5, v51] h) fun v52 h1 =>
ob (evUn .not v52) fun v53 =>
cnd v53
 (ob (evFa 2 v7) fun v55 =>
ob (evLd false 1 v55 h1) fun v56 =>
oh (yr 0 (some 2) 1 1 [(.int .i64 0)] [(0, v56)] h1) fun v57 h2 =>
oh (y2b 0 (some 3) 1 8 v5 v57 h2) fun v58 h3 =>
(yld v1 v2 v58 v6 v7 h3))
 ((yld v1 v2 v5 v6 v7 h1))
def y2el (s : St) : OX := y15o (s 1) (s 2) (s 5) (s 6) (s 7) s.h
theorem y1ri : T1 y16l y5l (y4 1 y5l (y4 0 y41 xN)) [.t 4] y2el := sq y1xv fun _ => by kernel_rfl
def yoe (v1 v2 v5 v6 v7 v48 : AV) (h : Heap) : OX :=
cnd v48
 ((y15o v1 v2 v5 v6 v7 h))
 ((ylr v1 v2 v5 v6 h))
def y2b9 (s : St) : OX := yoe (s 1) (s 2) (s 5) (s 6) (s 7) (s 48) s.h
theorem y1x4 : T1 y11s y5l (y4 1 y5l (y4 0 y41 xN)) [.t 4] y2b9 := fun s => (y1d (y1ri s) rfl).trans (by kernel_rfl)
def yib (v1 v2 v5 v6 v7 : AV) (h : Heap) : OX :=
ob (evFa 0 v7) fun v39 =>
ob (evLd false 1 v39 h) fun v40 =>
ob (y5 .leq v40 v1) fun v42 =>
gb v42 true (some v1) fun v44 =>
gb v42 true (evFa 1 v7) fun v45 =>
gb v42 true (evLd false 1 v45 h) fun v46 =>
gb v42 true (y5 .lss v44 v46) fun v47 =>
ob (y8 v42 v47 (AV.bool false)) fun v48 =>
(yoe v1 v2 v5 v6 v7 v48 h)
def y2a8 (s : St) : OX := yib (s 1) (s 2) (s 5) (s 6) (s 7) s.h
theorem y1ji : T1 yy2 y5l (y4 1 y5l (y4 0 y41 xN)) [.t 4] y2a8 := sq y1x4 fun _ => by kernel_rfl
def y1od (v1 v2 v5 v6 : AV) (h : Heap) : OX :=
ob (evFa 4 v2) fun v34 =>
ob (evLd false 1 v34 h) fun v35 =>
ob (yw 4 v35 v6) fun v37 =>
ob (evLd true 4 v37 h) fun v38 =>
oh (newC 0 (some 1) [(.int .i64 0), (.int .i64 0), (.int .i64 0), (.str [])] h) fun v7 h4 =>
oh (evSt 4 v7 v38 h4) fun _ h5 =>
(yib v1 v2 v5 v6 v7 h5)
def yxe (s : St) : OX := y1od (s 1) (s 2) (s 5) (s 6) s.h
theorem y1td : T1 y14a y5l (y4 1 y5l (y4 0 y41 xN)) [.t 4] yxe := sq y1ji fun _ => by kernel_rfl
theorem y1vb : T1 yy3 y5l (y4 0 y41 xN) [.t 4] yxe := fun s => yt.trans (y1td s)
theorem y1c9 : T1 yuj ybn (y4 0 y41 xN) [.t 4] yxe := sq y1we y1vb
def yjj (v1 v2 v5 v6 : AV) (h : Heap) : OX :=
ob (evFa 4 v2) fun v28 =>
ob (evLd false 1 v28 h) fun v29 =>
ob (y11 1 v29 h) fun v30 =>
ob (y5 .lss v6 v30) fun v31 =>
cnd v31
 ((y1od v1 v2 v5 v6 h))
 ((y1tb v5 h))
def y1z0 (s : St) : OX := yjj (s 1) (s 2) (s 5) (s 6) s.h
theorem y1cg : T1 yqw ybn (y4 0 y41 xN) [.t 4] y1z0 := sq y1c9 fun _ => by kernel_rfl
theorem yoa (v1 v2 v5 v6 : AV) (h : Heap) : ykj v1 v2 v5 v6 h = (yjj v1 v2 v5 v6 h) :=
  y1r.trans ((y17 _ _ _ (n' := ybn) (fun s => ynv s)).trans ((y1cg _).trans (by kernel_rfl)))
theorem y1a0 : T1 yrb y41 xN [.t 4] ybn := fun s => yt.trans (ynv s)
def yxo (v1 v2 v5 : AV) (h : Heap) : OX :=
(ykj v1 v2 v5 (AV.int .i64 0) h)
def y14b (s : St) : OX := yxo (s 1) (s 2) (s 5) s.h
theorem y1al : T1 yu3 y41 xN [.t 4] y14b := sq y1a0 fun _ => by kernel_rfl
theorem y1d3 : T0 ys7 [.t 4] y14b := sq y1lc y1al
def yew (v1 v2 v5 : AV) (h : Heap) : OX :=
ob (y5 .lss v1 (AV.int .i64 0)) fun v9 =>
gb v9 false (some v1) fun v11 =>
gb v9 false (evFa 3 v2) fun v12 =>
gb v9 false (evLd false 1 v12 h) fun v13 =>
gb v9 false (y11 1 v13 h) fun v14 =>
gb v9 false (y5 .geq v11 v14) fun v15 =>
ob (y8 v9 (AV.bool true) v15) fun v16 =>
gb v16 false (evFa 3 v2) fun v18 =>
gb v16 false (evLd false 1 v18 h) fun v19 =>
gb v16 false (some v1) fun v20 =>
gb v16 false (yw 9 v19 v20) fun v21 =>
gb v16 false (evFa 0 v21) fun v22 =>
gb v16 false (evLd false 1 v22 h) fun v23 =>
gh v16 false (y6 E (y7 E) 0 none true 19 [v23] h) h fun v24 h6 =>
gb v16 false (evUn .not v24) fun v25 =>
ob (y8 v16 (AV.bool true) v25) fun v26 =>
cnd v26
 ((yc h6 AV.nils))
 ((yxo v1 v2 v5 h6))
def y1zg (s : St) : OX := yew (s 1) (s 2) (s 5) s.h
theorem y1ao : T0 yrz [.t 4] y1zg := sq y1d3 fun _ => by kernel_rfl
def yes (v1 v2 : AV) (h : Heap) : OX :=
(yew v1 v2 AV.nils h)
def y24r (s : St) : OX := yes (s 1) (s 2) s.h
theorem y1ap : T0 ysr [.t 4] y24r := sq y1ao fun _ => by kernel_rfl
def yf6 (v0 v1 : AV) (h : Heap) : OX :=
oh (newC 0 (some 0) (cellsOf v0) h) fun v2 h7 =>
(yes v1 v2 h7)
def y22k (s : St) : OX := yf6 (s 0) (s 1) s.h
theorem y1e8 : T0 yrr [.t 4] y22k := sq y1ap fun _ => by kernel_rfl
@[simp] theorem y2pq : E.pure 92 = true := rfl
theorem y2n7 (v0 v1 : AV) : (y7 E).p 92 [v0, v1] = yf6 v0 v1 [⟨0, .dead⟩, ⟨0, .dead⟩, ⟨0, .dead⟩, ⟨0, .dead⟩] :=
  (yv (cf := y276) (by kernel_rfl) rfl).trans ((y1e8 _).trans (by kernel_rfl))
def yo9 (h : Heap) : OX :=
(yc h (AV.bool false))
def y7a (s : St) : OX := yo9 s.h
theorem y1xl : T0 y130 [.t 4] y7a := fun _ => by kernel_rfl
def ykk (v0 v1 v5 : AV) (h : Heap) : OX :=
  W E 0 yjb ⟨[(0, v0), (1, v1), (5, v5)], h⟩ y7a (y4 0 y7a xN) (finP [.t 4])
def yb6 (s : St) : OX := ykk (s 0) (s 1) (s 5) s.h
theorem yla : T1 yjb y7a (y4 0 y7a xN) [.t 4] yb6 := fun s => yh.trans (by kernel_rfl)
def ynj (v0 v1 v5 : AV) (h : Heap) : OX :=
ob (y5 .add v5 (AV.int .i64 1)) fun v11 =>
(ykk v0 v1 v11 h)
def y2hb (s : St) : OX := ynj (s 0) (s 1) (s 5) s.h
theorem y1ik : T1 y16f yb6 (y4 0 y7a xN) [.t 4] y2hb := fun _ => by kernel_rfl
def ynw (v0 v1 v5 : AV) (h : Heap) : OX :=
ob (yw 1 v0 v5) fun v14 =>
ob (evLd false 1 v14 h) fun v15 =>
ob (y5 .eql v15 v1) fun v17 =>
cnd v17
 ((yc h (AV.bool true)))
 ((ynj v0 v1 v5 h))
def y2h1 (s : St) : OX := ynw (s 0) (s 1) (s 5) s.h
theorem y1in : T1 yzr yb6 (y4 0 y7a xN) [.t 4] y2h1 := sq y1ik fun _ => by kernel_rfl
def ym0 (v0 v1 v5 : AV) (h : Heap) : OX :=
ob (y11 1 v0 h) fun v8 =>
ob (y5 .lss v5 v8) fun v9 =>
cnd v9
 ((ynw v0 v1 v5 h))
 ((yo9 h))
def y29y (s : St) : OX := ym0 (s 0) (s 1) (s 5) s.h
theorem y1se : T1 yzo yb6 (y4 0 y7a xN) [.t 4] y29y := sq y1in fun _ => by kernel_rfl
theorem yle (v0 v1 v5 : AV) (h : Heap) : ykk v0 v1 v5 h = (ym0 v0 v1 v5 h) :=
  y1r.trans ((y17 _ _ _ (n' := yb6) (fun s => yla s)).trans ((y1se _).trans (by kernel_rfl)))
theorem y1lo : T1 y13f y7a xN [.t 4] yb6 := fun s => yt.trans (yla s)
def yob (v0 v1 : AV) (h : Heap) : OX :=
(ykk v0 v1 (AV.int .i64 0) h)
def y1xn (s : St) : OX := yob (s 0) (s 1) s.h
theorem y1s0 : T1 y17t y7a xN [.t 4] y1xn := sq y1lo fun _ => by kernel_rfl
theorem y1hf : T0 y19n [.t 4] y1xn := sq y1xl y1s0
def yni (v0 v1 : AV) (h : Heap) : OX :=
(yob v0 v1 h)
def y28p (s : St) : OX := yni (s 0) (s 1) s.h
theorem y1um : T0 y14i [.t 4] y28p := sq y1hf fun _ => by kernel_rfl
@[simp] theorem y2q5 : E.pure 96 = true := rfl
theorem y2kc (v0 v1 : AV) : (y7 E).p 96 [v0, v1] = yni v0 v1 [] :=
  (yv (cf := y28d) (by kernel_rfl) rfl).trans ((y1um _).trans (by kernel_rfl))
def yhd (v0 : AV) (h : Heap) : OX :=
ob (y5 .neq v0 (AV.str [])) fun v25 =>
gb v25 true (some v0) fun v27 =>
gb v25 true (y11 0 v27 h) fun v28 =>
gb v25 true (y5 .leq v28 (AV.int .i64 60)) fun v29 =>
ob (y8 v25 v29 (AV.bool false)) fun v30 =>
(yc h v30)
def y7d (s : St) : OX := yhd (s 0) s.h
theorem y1hb : T0 yyx [.t 4] y7d := fun _ => by kernel_rfl
def yf4 (v0 v5 v6 : AV) (h : Heap) : OX :=
  W E 0 yj5 ⟨[(0, v0), (5, v5), (6, v6)], h⟩ y7d (y4 0 y7d xN) (finP [.t 4])
def ybq (s : St) : OX := yf4 (s 0) (s 5) (s 6) s.h
theorem yn2 : T1 yj5 y7d (y4 0 y7d xN) [.t 4] ybq := fun s => yh.trans (by kernel_rfl)
def y146 (v0 v5 v6 : AV) (h : Heap) : OX :=
ob (y5 .add v6 (AV.int .i64 1)) fun v15 =>
(yf4 v0 v5 v15 h)
def y2cy (s : St) : OX := y146 (s 0) (s 5) (s 6) s.h
theorem y1pv : T1 y15b ybq (y4 0 y7d xN) [.t 4] y2cy := fun _ => by kernel_rfl
def yv9 (v0 v5 v6 : AV) (h : Heap) : OX :=
ob (y5 .add v6 (AV.int .i64 1)) fun v20 =>
ob (yef v0 (some v6) (some v20)) fun v21 =>
oh (y6 E (y7 E) 0 none true 53 [v5, v21] h) fun v22 h1 =>
ob (evUn .not v22) fun v23 =>
cnd v23
 ((yc h1 (AV.bool false)))
 ((y146 v0 v5 v6 h1))
def y2h3 (s : St) : OX := yv9 (s 0) (s 5) (s 6) s.h
theorem y1gp : T1 y13z ybq (y4 0 y7d xN) [.t 4] y2h3 := sq y1pv fun _ => by kernel_rfl
def ytr (v0 v5 v6 : AV) (h : Heap) : OX :=
ob (y11 0 v0 h) fun v12 =>
ob (y5 .lss v6 v12) fun v13 =>
cnd v13
 ((yv9 v0 v5 v6 h))
 ((yhd v0 h))
def y2bh (s : St) : OX := ytr (s 0) (s 5) (s 6) s.h
theorem y1gm : T1 y17b ybq (y4 0 y7d xN) [.t 4] y2bh := sq y1gp fun _ => by kernel_rfl
theorem ymz (v0 v5 v6 : AV) (h : Heap) : yf4 v0 v5 v6 h = (ytr v0 v5 v6 h) :=
  y1r.trans ((y17 _ _ _ (n' := ybq) (fun s => yn2 s)).trans ((y1gm _).trans (by kernel_rfl)))
theorem y1mw : T1 y18o y7d xN [.t 4] ybq := fun s => yt.trans (yn2 s)
def yz2 (v0 v5 : AV) (h : Heap) : OX :=
(yf4 v0 v5 (AV.int .i64 0) h)
def y1fb (s : St) : OX := yz2 (s 0) (s 5) s.h
theorem y1op : T1 y14m y7d xN [.t 4] y1fb := sq y1mw fun _ => by kernel_rfl
theorem y1p5 : T0 y13j [.t 4] y1fb := sq y1hb y1op
def y1gt (v0 v1 v5 : AV) (h : Heap) : OX :=
cnd v1
 (ob (y5 .add v5 (AV.str [60, 62])) fun v9 =>
(yz2 v0 v9 h))
 ((yz2 v0 v5 h))
def y2ey (s : St) : OX := y1gt (s 0) (s 1) (s 5) s.h
theorem y1mz : T0 y13m [.t 4] y2ey := sq y1p5 fun _ => by kernel_rfl
def yvs (v0 v1 : AV) (h : Heap) : OX :=
(y1gt v0 v1 (AV.str [97, 98, 99, 100, 101, 102, 103, 104, 105, 106, 107, 108, 109, 110, 111, 112, 113, 114, 115, 116, 117, 118, 119, 120, 121, 122, 65, 66, 67, 68, 69, 70, 71, 72, 73, 74, 75, 76, 77, 78, 79, 80, 81, 82, 83, 84, 85, 86, 87, 88, 89, 90, 48, 49, 50, 51, 52, 53, 54, 55, 56, 57, 95, 36, 47]) h)
def y1zt (s : St) : OX := yvs (s 0) (s 1) s.h
theorem y1bt : T0 yuw [.t 4] y1zt := sq y1mz fun _ => by kernel_rfl
def ypd (v0 v1 : AV) (h : Heap) : OX :=
(yvs v0 v1 h)
def y22t (s : St) : OX := ypd (s 0) (s 1) s.h
theorem y1dn : T0 yrg [.t 4] y22t := sq y1bt fun _ => by kernel_rfl
@[simp] theorem y2ql : E.pure 69 = true := rfl
theorem y2ln (v0 v1 : AV) : (y7 E).p 69 [v0, v1] = ypd v0 v1 [] :=
  (yv (cf := y265) (by kernel_rfl) rfl).trans ((y1dn _).trans (by kernel_rfl))
def q9_1 (h : Heap) : OX :=
(yc h (AV.int .i64 0))
def y3m (s : St) : OX := q9_1 s.h
theorem y28v : T0 y275 [.t 2] y3m := fun _ => by kernel_rfl
def y1gk (v0 v3 v4 : AV) (h : Heap) : OX :=
  W E 0 yws ⟨[(0, v0), (3, v3), (4, v4)], h⟩ y3m (y4 3 y3m (y4 2 y3m xN)) (finP [.t 2])
def ylt (s : St) : OX := y1gk (s 0) (s 3) (s 4) s.h
theorem y15e : T1 yws y3m (y4 3 y3m (y4 2 y3m xN)) [.t 2] ylt := fun s => yh.trans (by kernel_rfl)
def q9_3 (v0 v3 v4 : AV) (h : Heap) : OX :=
ob (y5 .add v4 (AV.int .i64 1)) fun v42 =>
(y1gk v0 v3 v42 h)
def ykw (s : St) : OX := q9_3 (s 0) (s 3) (s 4) s.h
theorem y28y : T1 y27f ylt (y4 3 y3m (y4 2 y3m xN)) [.t 2] ykw := fun _ => by kernel_rfl
def q9_4 (h : Heap) : OX :=
(yc h (AV.int .i64 0))
def y2st (s : St) : OX := q9_4 s.h
theorem y2bb : T1 y27g ykw (y4 4 ykw (y4 3 y3m (y4 2 y3m xN))) [.t 2] y2st := fun _ => by kernel_rfl
def q9_5 (v0 v3 v4 : AV) (h : Heap) : OX :=
ob (y5 .add v3 (AV.int .i64 1)) fun v49 =>
ob (yef v0 (some v49) (some v4)) fun v51 =>
oh (y6 E (y7 E) 0 none true 60 [v51, (AV.bool false)] h) fun v52 h1 =>
cnd v52
 (ob (y5 .add v4 (AV.int .i64 1)) fun v54 =>
(yc h1 v54))
 ((q9_4 h1))
def y2s8 (s : St) : OX := q9_5 (s 0) (s 3) (s 4) s.h
theorem y2co : T1 y27y ykw (y4 4 ykw (y4 3 y3m (y4 2 y3m xN))) [.t 2] y2s8 := sq y2bb fun _ => by kernel_rfl
def q9_6 (v0 v3 v4 v46 : AV) (h : Heap) : OX :=
cnd v46
 ((q9_5 v0 v3 v4 h))
 ((q9_3 v0 v3 v4 h))
def y2s1 (s : St) : OX := q9_6 (s 0) (s 3) (s 4) (s 46) s.h
theorem y2gy : T1 y26o ykw (y4 4 ykw (y4 3 y3m (y4 2 y3m xN))) [.t 2] y2s1 := fun s => (y1d (y2co s) rfl).trans (by kernel_rfl)
def q9_7 (v0 v3 v4 : AV) (h : Heap) : OX :=
ob (y3a v0 v4) fun v45 =>
ob (y5 .eql v45 (AV.int .u8 59)) fun v46 =>
(q9_6 v0 v3 v4 v46 h)
def y2fh (s : St) : OX := q9_7 (s 0) (s 3) (s 4) s.h
theorem y2bk : T1 y26c ykw (y4 4 ykw (y4 3 y3m (y4 2 y3m xN))) [.t 2] y2fh := sq y2gy fun _ => by kernel_rfl
theorem y2fs : T1 y26s ykw (y4 3 y3m (y4 2 y3m xN)) [.t 2] y2fh := fun s => yt.trans (y2bk s)
theorem y2a1 : T1 y278 ylt (y4 3 y3m (y4 2 y3m xN)) [.t 2] y2fh := sq y28y y2fs
def y1be (v0 v3 v4 : AV) (h : Heap) : OX :=
ob (y11 0 v0 h) fun v39 =>
ob (y5 .lss v4 v39) fun v40 =>
cnd v40
 ((q9_7 v0 v3 v4 h))
 ((q9_1 h))
def y2jp (s : St) : OX := y1be (s 0) (s 3) (s 4) s.h
theorem y24k : T1 y1qb ylt (y4 3 y3m (y4 2 y3m xN)) [.t 2] y2jp := sq y2a1 fun _ => by kernel_rfl
theorem y15g (v0 v3 v4 : AV) (h : Heap) : y1gk v0 v3 v4 h = (y1be v0 v3 v4 h) :=
  y1r.trans ((y17 _ _ _ (n' := ylt) (fun s => y15e s)).trans ((y24k _).trans (by kernel_rfl)))
theorem y1zf : T1 y1ol y3m (y4 2 y3m xN) [.t 2] ylt := fun s => yt.trans (y15e s)
def y2ej (v0 v3 : AV) (h : Heap) : OX :=
ob (y5 .add v3 (AV.int .i64 1)) fun v36 =>
(y1gk v0 v3 v36 h)
def y2ir (s : St) : OX := y2ej (s 0) (s 3) s.h
theorem y1z3 : T1 y1ot y3m (y4 2 y3m xN) [.t 2] y2ir := sq y1zf fun _ => by kernel_rfl
def y20p (v0 v3 v33 : AV) (h : Heap) : OX :=
cnd v33
 ((y2ej v0 v3 h))
 ((q9_1 h))
def y2ki (s : St) : OX := y20p (s 0) (s 3) (s 33) s.h
theorem y24e : T1 y1h5 y3m (y4 2 y3m xN) [.t 2] y2ki := fun s => (y1d (y1z3 s) rfl).trans (by kernel_rfl)
def y24g (v0 v3 v27 : AV) (h : Heap) : OX :=
ob (y5 .eql v27 (AV.int .u8 76)) fun v34 =>
(y20p v0 v3 v34 h)
def y2lo (s : St) : OX := y24g (s 0) (s 3) (s 27) s.h
theorem y1y9 : T1 y1hn y3m (y4 2 y3m xN) [.t 2] y2lo := sq y24e fun _ => by kernel_rfl
def yxj (v0 v3 v27 v28 : AV) (h : Heap) : OX :=
cnd v28
 (ob (y5 .add v3 (AV.int .i64 1)) fun v32 =>
(yc h v32))
 ((y24g v0 v3 v27 h))
def y2m2 (s : St) : OX := yxj (s 0) (s 3) (s 27) (s 28) s.h
theorem y22i : T1 y1jl y3m (y4 2 y3m xN) [.t 2] y2m2 := fun s => (y1d rfl (y1y9 s)).trans (by kernel_rfl)
def y1by (v0 v3 v27 : AV) (h : Heap) : OX :=
ob (y5 .eql v27 (AV.int .u8 73)) fun v29 =>
cnd v29
 ((yxj v0 v3 v27 v29 h))
 (ob (y5 .eql v27 (AV.int .u8 74)) fun v30 =>
(yxj v0 v3 v27 v30 h))
def y27q (s : St) : OX := y1by (s 0) (s 3) (s 27) s.h
theorem y1zs : T1 y1pb y3m (y4 2 y3m xN) [.t 2] y27q := sq y22i fun _ => by kernel_rfl
theorem y1zv : T1 y1jd y3m xN [.t 2] y27q := fun s => yt.trans (y1zs s)
def y1e9 (v0 v3 : AV) (h : Heap) : OX :=
ob (y3a v0 v3) fun v27 =>
(y1by v0 v3 v27 h)
def y27s (s : St) : OX := y1e9 (s 0) (s 3) s.h
theorem y1y3 : T1 y1wb y3m xN [.t 2] y27s := sq y1zv fun _ => by kernel_rfl
theorem y25a : T0 y1qj [.t 2] y27s := sq y28v y1y3
def yl1 (v0 v3 : AV) (h : Heap) : OX :=
ob (y5 .gtr v3 (AV.int .i64 8)) fun v18 =>
gb v18 false (some v3) fun v20 =>
gb v18 false (some v0) fun v21 =>
gb v18 false (y11 0 v21 h) fun v22 =>
gb v18 false (y5 .eql v20 v22) fun v23 =>
ob (y8 v18 (AV.bool true) v23) fun v24 =>
cnd v24
 ((yc h (AV.int .i64 0)))
 ((y1e9 v0 v3 h))
def ygc (s : St) : OX := yl1 (s 0) (s 3) s.h
theorem y224 : T0 y1kd [.t 2] ygc := sq y25a fun _ => by kernel_rfl
def ys4 (v0 v3 : AV) (h : Heap) : OX :=
  W E 0 ypx ⟨[(0, v0), (3, v3)], h⟩ ygc (y4 0 ygc xN) (finP [.t 2])
def yf8 (s : St) : OX := ys4 (s 0) (s 3) s.h
theorem yqp : T1 ypx ygc (y4 0 ygc xN) [.t 2] yf8 := fun s => yh.trans (by kernel_rfl)
def y2cd (v0 v3 : AV) (h : Heap) : OX :=
ob (y5 .add v3 (AV.int .i64 1)) fun v16 =>
(ys4 v0 v16 h)
def y2ix (s : St) : OX := y2cd (s 0) (s 3) s.h
theorem y1yo : T1 y1ox yf8 (y4 0 ygc xN) [.t 2] y2ix := fun _ => by kernel_rfl
def y1mm (v0 v3 : AV) (h : Heap) : OX :=
ob (y11 0 v0 h) fun v7 =>
ob (y5 .lss v3 v7) fun v8 =>
gb v8 true (some v0) fun v10 =>
gb v8 true (some v3) fun v11 =>
gb v8 true (y3a v10 v11) fun v12 =>
gb v8 true (y5 .eql v12 (AV.int .u8 91)) fun v13 =>
ob (y8 v8 v13 (AV.bool false)) fun v14 =>
cnd v14
 ((y2cd v0 v3 h))
 ((yl1 v0 v3 h))
def y2id (s : St) : OX := y1mm (s 0) (s 3) s.h
theorem y23r : T1 y1wy yf8 (y4 0 ygc xN) [.t 2] y2id := sq y1yo fun _ => by kernel_rfl
theorem yqf (v0 v3 : AV) (h : Heap) : ys4 v0 v3 h = (y1mm v0 v3 h) :=
  y1r.trans ((y17 _ _ _ (n' := yf8) (fun s => yqp s)).trans ((y23r _).trans (by kernel_rfl)))
theorem y20h : T1 y1ob ygc xN [.t 2] yf8 := fun s => yt.trans (yqp s)
theorem y24h : T0 y1sm [.t 2] yf8 := sq y224 y20h
def y2d6 (v0 : AV) (h : Heap) : OX :=
(ys4 v0 (AV.int .i64 0) h)
def y2mh (s : St) : OX := y2d6 (s 0) s.h
theorem y213 : T0 y1rz [.t 2] y2mh := sq y24h fun _ => by kernel_rfl
def y29t (v0 : AV) (h : Heap) : OX :=
(y2d6 v0 h)
def y2m7 (s : St) : OX := y29t (s 0) s.h
theorem y25r : T0 y1ur [.t 2] y2m7 := sq y213 fun _ => by kernel_rfl
@[simp] theorem y2s4 : E.pure 44 = true := rfl
theorem x_q9 (v0 : AV) : (y7 E).p 44 [v0] = y29t v0 [] :=
  (yv (cf := c_q9) (by kernel_rfl) rfl).trans ((y25r _).trans (by kernel_rfl))
def y1gy (v0 : AV) (h : Heap) : OX :=
ob (y5 .geq v0 (AV.int .i64 23)) fun v4 =>
gb v4 true (some v0) fun v6 =>
gb v4 true (y5 .leq v6 (AV.int .i64 26)) fun v7 =>
ob (y8 v4 v7 (AV.bool false)) fun v8 =>
(yc h v8)
def y29o (s : St) : OX := y1gy (s 0) s.h
theorem y1vm : T0 y15z [.t 2] y29o := fun _ => by kernel_rfl
@[simp] theorem y2tm : E.pure 7 = true := rfl
theorem y2o4 (v0 : AV) : (y7 E).p 7 [v0] = y1gy v0 [] :=
  (yv (cf := y283) (by kernel_rfl) rfl).trans ((y1vm _).trans (by kernel_rfl))
def y1pd (v0 : AV) (h : Heap) : OX :=
ob (y5 .geq v0 (AV.int .i64 7)) fun v4 =>
gb v4 true (some v0) fun v6 =>
gb v4 true (y5 .leq v6 (AV.int .i64 12)) fun v7 =>
ob (y8 v4 v7 (AV.bool false)) fun v8 =>
gb v8 false (some v0) fun v10 =>
gh v8 false (yr 0 (some 0) 1 3 [(.int .i64 0)] [(0, (AV.int .i64 20)), (1, (AV.int .i64 21)), (2, (AV.int .i64 31))] h) h fun v11 h1 =>
gh v8 false (y6 E (y7 E) 0 none true 42 [v10, v11] h1) h1 fun v12 h2 =>
ob (y8 v8 (AV.bool true) v12) fun v13 =>
gb v13 false (some v0) fun v15 =>
gh v13 false (y6 E (y7 E) 0 none true 7 [v15] h2) h2 fun v16 h3 =>
ob (y8 v13 (AV.bool true) v16) fun v17 =>
(yc h3 v17)
def y2al (s : St) : OX := y1pd (s 0) s.h
theorem y1om : T0 yz0 [.t 2] y2al := fun _ => by kernel_rfl
@[simp] theorem y2qi : E.pure 19 = true := rfl
theorem y2m1 (v0 : AV) : (y7 E).p 19 [v0] = y1pd v0 [⟨0, .dead⟩] :=
  (yv (cf := y282) (by kernel_rfl) rfl).trans ((y1om _).trans (by kernel_rfl))
def q7_1 (h : Heap) : OX :=
(yc h (AV.bool true))
def yjd (s : St) : OX := q7_1 s.h
theorem y28z : T0 y27b [.t 4] yjd := fun _ => by kernel_rfl
def y1t6 (v1 v17 v18 v19 : AV) (h : Heap) : OX :=
  W E 0 yvm ⟨[(1, v1), (17, v17), (18, v18), (19, v19)], h⟩ yjd (y4 0 yjd xN) (finP [.t 4])
def yif (s : St) : OX := y1t6 (s 1) (s 17) (s 18) (s 19) s.h
theorem y129 : T1 yvm yjd (y4 0 yjd xN) [.t 4] yif := fun s => yh.trans (by kernel_rfl)
def q7_3 (v1 v17 v18 v19 : AV) (h : Heap) : OX :=
ob (y5 .add v19 (AV.int .i64 1)) fun v71 =>
(y1t6 v1 v17 v18 v71 h)
def y2pd (s : St) : OX := q7_3 (s 1) (s 17) (s 18) (s 19) s.h
theorem y2cb : T1 y27z yif (y4 0 yjd xN) [.t 4] y2pd := fun _ => by kernel_rfl
def q7_4 (v1 v17 v18 v19 : AV) (h : Heap) : OX :=
ob (yw 1 v17 v19) fun v21 =>
ob (evLd false 1 v21 h) fun v22 =>
ob (y5 .geq v22 (AV.int .u8 97)) fun v24 =>
gb v24 true (some v22) fun v26 =>
gb v24 true (y5 .leq v26 (AV.int .u8 122)) fun v27 =>
ob (y8 v24 v27 (AV.bool false)) fun v28 =>
gb v28 false (some v22) fun v30 =>
gb v28 false (y5 .geq v30 (AV.int .u8 65)) fun v31 =>
gb v28 false (some v31) fun v32 =>
gb v32 true (some v22) fun v33 =>
gb v32 true (y5 .leq v33 (AV.int .u8 90)) fun v34 =>
gb v28 false (y8 v32 v34 (AV.bool false)) fun v35 =>
ob (y8 v28 (AV.bool true) v35) fun v36 =>
gb v36 false (some v22) fun v38 =>
gb v36 false (y5 .geq v38 (AV.int .u8 48)) fun v39 =>
gb v36 false (some v39) fun v40 =>
gb v40 true (some v22) fun v41 =>
gb v40 true (y5 .leq v41 (AV.int .u8 57)) fun v42 =>
gb v36 false (y8 v40 v42 (AV.bool false)) fun v43 =>
ob (y8 v36 (AV.bool true) v43) fun v44 =>
gb v44 false (some v22) fun v46 =>
gb v44 false (y5 .eql v46 (AV.int .u8 95)) fun v47 =>
ob (y8 v44 (AV.bool true) v47) fun v48 =>
gb v48 false (some v22) fun v50 =>
gb v48 false (y5 .eql v50 (AV.int .u8 36)) fun v51 =>
ob (y8 v48 (AV.bool true) v51) fun v52 =>
gb v52 false (some v22) fun v54 =>
gb v52 false (y5 .eql v54 (AV.int .u8 47)) fun v55 =>
ob (y8 v52 (AV.bool true) v55) fun v56 =>
ob (evUn .not v56) fun v58 =>
gb v58 true (some v1) fun v60 =>
gb v58 true (some v60) fun v61 =>
gb v61 true (some v22) fun v62 =>
gb v61 true (y5 .eql v62 (AV.int .u8 60)) fun v63 =>
gb v61 true (some v63) fun v64 =>
gb v64 false (some v22) fun v65 =>
gb v64 false (y5 .eql v65 (AV.int .u8 62)) fun v66 =>
gb v61 true (y8 v64 (AV.bool true) v66) fun v67 =>
gb v58 true (y8 v61 v67 (AV.bool false)) fun v68 =>
gb v58 true (evUn .not v68) fun v69 =>
ob (y8 v58 v69 (AV.bool false)) fun v70 =>
cnd v70
 ((yc h (AV.bool false)))
 ((q7_3 v1 v17 v18 v19 h))
def y2pk (s : St) : OX := q7_4 (s 1) (s 17) (s 18) (s 19) s.h
theorem y2br : T1 y26k yif (y4 0 yjd xN) [.t 4] y2pk := sq y2cb fun _ => by kernel_rfl
def q7_5 (v1 v17 v18 v19 v20 : AV) (h : Heap) : OX :=
cnd v20
 ((q7_4 v1 v17 v18 v19 h))
 ((q7_1 h))
def y2s9 (s : St) : OX := q7_5 (s 1) (s 17) (s 18) (s 19) (s 20) s.h
theorem y2ac : T1 y28a yif (y4 0 yjd xN) [.t 4] y2s9 := sq y2br fun _ => by kernel_rfl
def q7_6 (v1 v17 v18 v19 : AV) (h : Heap) : OX :=
ob (y5 .lss v19 v18) fun v20 =>
(q7_5 v1 v17 v18 v19 v20 h)
def y2r3 (s : St) : OX := q7_6 (s 1) (s 17) (s 18) (s 19) s.h
theorem y2aa : T1 y27k yif (y4 0 yjd xN) [.t 4] y2r3 := sq y2ac fun _ => by kernel_rfl
theorem yyz (v1 v17 v18 v19 : AV) (h : Heap) : y1t6 v1 v17 v18 v19 h = (q7_6 v1 v17 v18 v19 h) :=
  y1r.trans ((y17 _ _ _ (n' := yif) (fun s => y129 s)).trans ((y2aa _).trans (by kernel_rfl)))
theorem y2aq : T1 y285 yjd xN [.t 4] yif := fun s => yt.trans (y129 s)
def q7_8 (v0 v1 : AV) (h : Heap) : OX :=
oh (s2bC 0 (some 0) v0 h) fun v17 h1 =>
ob (y11 1 v17 h1) fun v18 =>
(y1t6 v1 v17 v18 (AV.int .i64 0) h1)
def y2ng (s : St) : OX := q7_8 (s 0) (s 1) s.h
theorem y2d4 : T1 y284 yjd xN [.t 4] y2ng := sq y2aq fun _ => by kernel_rfl
theorem y2bg : T0 y279 [.t 4] y2ng := sq y28z y2d4
def y1fg (v0 v1 : AV) (h : Heap) : OX :=
ob (y11 0 v0 h) fun v9 =>
ob (y5 .lss v9 (AV.int .i64 1)) fun v10 =>
gb v10 false (some v0) fun v12 =>
gb v10 false (y11 0 v12 h) fun v13 =>
gb v10 false (y5 .gtr v13 (AV.int .i64 60)) fun v14 =>
ob (y8 v10 (AV.bool true) v14) fun v15 =>
cnd v15
 ((yc h (AV.bool false)))
 ((q7_8 v0 v1 h))
def y2ig (s : St) : OX := y1fg (s 0) (s 1) s.h
theorem y251 : T0 y1rq [.t 4] y2ig := sq y2bg fun _ => by kernel_rfl
def y1wc (v0 v1 : AV) (h : Heap) : OX :=
(y1fg v0 v1 h)
def y2lt (s : St) : OX := y1wc (s 0) (s 1) s.h
theorem y21g : T0 y1rb [.t 4] y2lt := sq y251 fun _ => by kernel_rfl
@[simp] theorem y2pv : E.pure 60 = true := rfl
theorem x_q7 (v0 v1 : AV) : (y7 E).p 60 [v0, v1] = y1wc v0 v1 [⟨0, .dead⟩] :=
  (yv (cf := c_q7) (by kernel_rfl) rfl).trans ((y21g _).trans (by kernel_rfl))
end
end Go.Vm
