/- Functions of the machine as plain functions that go on with what follows. -/
import Derived.Test.YtgbajicpokolcaaKEnv
set_option linter.unusedSimpArgs false
set_option linter.unusedVariables false
set_option linter.unusedSectionVars false
namespace Go.Vm
noncomputable section
def y2z (h : Heap) : OX :=
(yc h (AV.bool true))
def y10 (s : St) : OX := y2z s.h
theorem y1z0 : T0 yzf [.t 4] y10 := fun _ => by kernel_rfl
def y2s (v2 v3 : AV) (h : Heap) : OX :=
ob (evFa 2 v3) fun v215 =>
ob (evLd false 1 v215 h) fun v216 =>
ob (y5 .neq v216 (AV.int .i64 (-1))) fun v217 =>
ofp (fgd v217 true (some (ids1 v2, []))) fun f4 =>
gb v217 true (evLd true 5 v2 h) fun v219 =>
ofp (fgd v217 true (some ([], []))) fun f5 =>
gb v217 true (evFa 2 v3) fun v220 =>
ofp (fgd v217 true (some (ids1 v220, []))) fun f6 =>
gb v217 true (evLd false 1 v220 h) fun v221 =>
ofp (fgd v217 true (y3p E (y8 E) 0 none true 48 [v219, v221] h)) fun f7 =>
gh v217 true (y7 E (y8 E) 0 none true 48 [v219, v221] h) h fun v222 h1 =>
ofp (fgd v217 true (some ([], []))) fun f8 =>
gb v217 true (evFa 2 v2) fun v223 =>
ofp (fgd v217 true (some (ids1 v223, []))) fun f9 =>
gb v217 true (evLd false 1 v223 h1) fun v224 =>
ofp (fgd v217 true (some ([], []))) fun f10 =>
gb v217 true (y5 .eql v222 v224) fun v225 =>
ob (yb v217 v225 (AV.bool false)) fun v226 =>
okK (yd [([], []), (ids1 v215, []), ([], []), ([], []), f4, f5, f6, f7, f8, f9, f10, ([], []), ([], [])] [(7, 9)]) <|
(yc h1 v226)
def y2kz (s : St) : OX := y2s (s 2) (s 3) s.h
theorem y1n0 : T1 y1ad y10 (y1 2 y10 xN) [.t 4] y2kz := fun _ => by kernel_rfl
def y2x (v2 v3 : AV) (h : Heap) : OX :=
ob (evFa 2 v2) fun v209 =>
ob (evLd false 1 v209 h) fun v210 =>
ob (y5 .eql v210 (AV.int .i64 0)) fun v211 =>
cnd v211
 (ob (evFa 2 v3) fun v212 =>
ob (evLd false 1 v212 h) fun v213 =>
ob (y5 .eql v213 (AV.int .i64 (-1))) fun v214 =>
(yc h v214))
 ((y2s v2 v3 h))
def y2m8 (s : St) : OX := y2x (s 2) (s 3) s.h
theorem y1ov : T1 y184 y10 (y1 2 y10 xN) [.t 4] y2m8 := sq y1n0 fun _ => by kernel_rfl
def y2u (v2 v3 v207 : AV) (h : Heap) : OX :=
cnd v207
 ((y2x v2 v3 h))
 ((y2z h))
def y2e1 (s : St) : OX := y2u (s 2) (s 3) (s 207) s.h
theorem y1y8 : T1 y15q y10 (y1 2 y10 xN) [.t 4] y2e1 := fun s => (y1b (y1ov s) rfl).trans (by kernel_rfl)
def y2q (v2 v3 v55 : AV) (h : Heap) : OX :=
ob (y5 .eql v55 (AV.int .i64 30)) fun v208 =>
(y2u v2 v3 v208 h)
def y2f2 (s : St) : OX := y2q (s 2) (s 3) (s 55) s.h
theorem y1tv : T1 y13n y10 (y1 2 y10 xN) [.t 4] y2f2 := sq y1y8 fun _ => by kernel_rfl
def y2w (v2 v3 v55 v179 : AV) (h : Heap) : OX :=
cnd v179
 (ob (evFa 5 v3) fun v181 =>
ob (evLd false 1 v181 h) fun v182 =>
ob (y5 .eql v182 (AV.int .i64 0)) fun v183 =>
gb v183 false (evFa 5 v3) fun v185 =>
gb v183 false (evLd false 1 v185 h) fun v186 =>
gb v183 false (y5 .eql v186 (AV.int .i64 1)) fun v187 =>
ob (yb v183 (AV.bool true) v187) fun v188 =>
gb v188 true (evFa 3 v3) fun v190 =>
gb v188 true (evLd false 1 v190 h) fun v191 =>
gb v188 true (y5 .eql v191 (AV.int .i64 (-1))) fun v192 =>
gb v188 true (some v192) fun v193 =>
gb v193 false (evLd true 5 v2 h) fun v194 =>
gb v193 false (evFa 3 v3) fun v195 =>
gb v193 false (evLd false 1 v195 h) fun v196 =>
gh v193 false (y7 E (y8 E) 0 none true 48 [v194, v196] h) h fun v197 h2 =>
gb v193 false (y5 .eql v197 (AV.int .i64 3)) fun v198 =>
gb v188 true (yb v193 (AV.bool true) v198) fun v199 =>
ob (yb v188 v199 (AV.bool false)) fun v200 =>
gb v200 true (evLd true 5 v2 h2) fun v202 =>
gb v200 true (evFa 6 v3) fun v203 =>
gb v200 true (evLd false 1 v203 h2) fun v204 =>
gh v200 true (y7 E (y8 E) 0 none true 49 [v202, v204] h2) h2 fun v205 h3 =>
ob (yb v200 v205 (AV.bool false)) fun v206 =>
(yc h3 v206))
 ((y2q v2 v3 v55 h))
def y2m9 (s : St) : OX := y2w (s 2) (s 3) (s 55) (s 179) s.h
theorem y1fy : T1 y0c y10 (y1 2 y10 xN) [.t 4] y2m9 := fun s => (y1b rfl (y1tv s)).trans (by kernel_rfl)
def y2t (v2 v3 v55 : AV) (h : Heap) : OX :=
ob (y5 .eql v55 (AV.int .i64 29)) fun v180 =>
(y2w v2 v3 v55 v180 h)
def y2gk (s : St) : OX := y2t (s 2) (s 3) (s 55) s.h
theorem y1i9 : T1 y1ar y10 (y1 2 y10 xN) [.t 4] y2gk := sq y1fy fun _ => by kernel_rfl
def y2r (v2 v3 v55 v173 : AV) (h : Heap) : OX :=
cnd v173
 (ob (evLd true 5 v2 h) fun v175 =>
ob (evFa 6 v3) fun v176 =>
ob (evLd false 1 v176 h) fun v177 =>
oh (y7 E (y8 E) 0 none true 49 [v175, v177] h) fun v178 h4 =>
(yc h4 v178))
 ((y2t v2 v3 v55 h))
def y2ek (s : St) : OX := y2r (s 2) (s 3) (s 55) (s 173) s.h
theorem y207 : T1 y17p y10 (y1 2 y10 xN) [.t 4] y2ek := fun s => (y1b rfl (y1i9 s)).trans (by kernel_rfl)
def y2y (v2 v3 v55 : AV) (h : Heap) : OX :=
ob (y5 .eql v55 (AV.int .i64 27)) fun v174 =>
(y2r v2 v3 v55 v174 h)
def y2dr (s : St) : OX := y2y (s 2) (s 3) (s 55) s.h
theorem y1vo : T1 y189 y10 (y1 2 y10 xN) [.t 4] y2dr := sq y207 fun _ => by kernel_rfl
def y1t (v2 v3 v55 v157 : AV) (h : Heap) : OX :=
cnd v157
 (ob (evFa 5 v3) fun v159 =>
ob (evLd false 1 v159 h) fun v160 =>
ob (y5 .geq v160 (AV.int .i64 0)) fun v161 =>
gb v161 true (evFa 5 v3) fun v163 =>
gb v161 true (evLd false 1 v163 h) fun v164 =>
gb v161 true (y5 .leq v164 (AV.int .i64 5)) fun v165 =>
ob (yb v161 v165 (AV.bool false)) fun v166 =>
gb v166 true (evLd true 5 v2 h) fun v168 =>
gb v166 true (evFa 6 v3) fun v169 =>
gb v166 true (evLd false 1 v169 h) fun v170 =>
gh v166 true (y7 E (y8 E) 0 none true 49 [v168, v170] h) h fun v171 h5 =>
ob (yb v166 v171 (AV.bool false)) fun v172 =>
(yc h5 v172))
 ((y2y v2 v3 v55 h))
def y284 (s : St) : OX := y1t (s 2) (s 3) (s 55) (s 157) s.h
theorem y1bh : T1 ysc y10 (y1 2 y10 xN) [.t 4] y284 := fun s => (y1b rfl (y1vo s)).trans (by kernel_rfl)
def y1w (v2 v3 v55 : AV) (h : Heap) : OX :=
ob (y5 .eql v55 (AV.int .i64 28)) fun v158 =>
(y1t v2 v3 v55 v158 h)
def y22s (s : St) : OX := y1w (s 2) (s 3) (s 55) s.h
theorem y1bq : T1 yw4 y10 (y1 2 y10 xN) [.t 4] y22s := sq y1bh fun _ => by kernel_rfl
def y1h (v2 v3 v55 v149 : AV) (h : Heap) : OX :=
cnd v149
 (ob (evLd true 5 v2 h) fun v154 =>
ob (evLd true 9 v3 h) fun v155 =>
oh (y7 E (y8 E) 0 none true 68 [v154, v155] h) fun v156 h6 =>
(yc h6 v156))
 ((y1w v2 v3 v55 h))
def y21t (s : St) : OX := y1h (s 2) (s 3) (s 55) (s 149) s.h
theorem y1e8 : T1 yu3 y10 (y1 2 y10 xN) [.t 4] y21t := fun s => (y1b rfl (y1bq s)).trans (by kernel_rfl)
def y1u (v2 v3 v55 : AV) (h : Heap) : OX :=
ob (y5 .eql v55 (AV.int .i64 23)) fun v150 =>
cnd v150
 ((y1h v2 v3 v55 v150 h))
 (ob (y5 .eql v55 (AV.int .i64 24)) fun v151 =>
cnd v151
 ((y1h v2 v3 v55 v151 h))
 (ob (y5 .eql v55 (AV.int .i64 25)) fun v152 =>
cnd v152
 ((y1h v2 v3 v55 v152 h))
 (ob (y5 .eql v55 (AV.int .i64 26)) fun v153 =>
(y1h v2 v3 v55 v153 h))))
def y27v (s : St) : OX := y1u (s 2) (s 3) (s 55) s.h
theorem y1dg : T1 yu9 y10 (y1 2 y10 xN) [.t 4] y27v := sq y1e8 fun _ => by kernel_rfl
def y1n (v2 v3 v55 v143 : AV) (h : Heap) : OX :=
cnd v143
 (ob (evFa 5 v3) fun v146 =>
ob (evLd false 1 v146 h) fun v147 =>
ob (y5 .geq v147 (AV.int .i64 0)) fun v148 =>
(yc h v148))
 ((y1u v2 v3 v55 h))
def y28x (s : St) : OX := y1n (s 2) (s 3) (s 55) (s 143) s.h
theorem y1bm : T1 yrz y10 (y1 2 y10 xN) [.t 4] y28x := fun s => (y1b rfl (y1dg s)).trans (by kernel_rfl)
def y1y (v2 v3 v55 : AV) (h : Heap) : OX :=
ob (y5 .eql v55 (AV.int .i64 16)) fun v144 =>
cnd v144
 ((y1n v2 v3 v55 v144 h))
 (ob (y5 .eql v55 (AV.int .i64 17)) fun v145 =>
(y1n v2 v3 v55 v145 h))
def y29i (s : St) : OX := y1y (s 2) (s 3) (s 55) s.h
theorem y1dm : T1 yr0 y10 (y1 2 y10 xN) [.t 4] y29i := sq y1bm fun _ => by kernel_rfl
def y1j (v2 v3 v55 v136 : AV) (h : Heap) : OX :=
cnd v136
 (ob (evFa 7 v3) fun v140 =>
ob (evLd false 1 v140 h) fun v141 =>
oh (y7 E (y8 E) 0 none true 67 [v141] h) fun v142 h7 =>
(yc h7 v142))
 ((y1y v2 v3 v55 h))
def y25g (s : St) : OX := y1j (s 2) (s 3) (s 55) (s 136) s.h
theorem y1df : T1 ytf y10 (y1 2 y10 xN) [.t 4] y25g := fun s => (y1b rfl (y1dm s)).trans (by kernel_rfl)
def y1r (v2 v3 v55 : AV) (h : Heap) : OX :=
ob (y5 .eql v55 (AV.int .i64 12)) fun v137 =>
cnd v137
 ((y1j v2 v3 v55 v137 h))
 (ob (y5 .eql v55 (AV.int .i64 21)) fun v138 =>
cnd v138
 ((y1j v2 v3 v55 v138 h))
 (ob (y5 .eql v55 (AV.int .i64 22)) fun v139 =>
(y1j v2 v3 v55 v139 h)))
def y25i (s : St) : OX := y1r (s 2) (s 3) (s 55) s.h
theorem y1eb : T1 ys8 y10 (y1 2 y10 xN) [.t 4] y25i := sq y1df fun _ => by kernel_rfl
def y1z (v2 v3 v8 v9 v10 v55 v112 : AV) (h : Heap) : OX :=
cnd v112
 (ob (y5 .gtr v8 (AV.int .i64 0)) fun v115 =>
gb v115 true (some v9) fun v117 =>
gb v115 true (y5 .eql v117 (AV.int .i64 0)) fun v118 =>
ob (yb v115 v118 (AV.bool false)) fun v119 =>
gb v119 true (evLd true 5 v2 h) fun v121 =>
gb v119 true (evFa 1 v3) fun v122 =>
gb v119 true (evLd false 1 v122 h) fun v123 =>
gh v119 true (y7 E (y8 E) 0 none true 48 [v121, v123] h) h fun v124 h8 =>
gb v119 true (some v10) fun v125 =>
gb v119 true (y5 .eql v124 v125) fun v126 =>
ob (yb v119 v126 (AV.bool false)) fun v127 =>
gb v127 true (evLd true 5 v2 h8) fun v129 =>
gb v127 true (evFa 2 v3) fun v130 =>
gb v127 true (evLd false 1 v130 h8) fun v131 =>
gh v127 true (y7 E (y8 E) 0 none true 48 [v129, v131] h8) h8 fun v132 h9 =>
gb v127 true (some v8) fun v133 =>
gb v127 true (y5 .eql v132 v133) fun v134 =>
ob (yb v127 v134 (AV.bool false)) fun v135 =>
(yc h9 v135))
 ((y1r v2 v3 v55 h))
def y28r (s : St) : OX := y1z (s 2) (s 3) (s 8) (s 9) (s 10) (s 55) (s 112) s.h
theorem y1c5 : T1 yta y10 (y1 2 y10 xN) [.t 4] y28r := fun s => (y1b rfl (y1eb s)).trans (by kernel_rfl)
def y1x (v2 v3 v8 v9 v10 v55 : AV) (h : Heap) : OX :=
ob (y5 .eql v55 (AV.int .i64 6)) fun v113 =>
(y1z v2 v3 v8 v9 v10 v55 v113 h)
def y24p (s : St) : OX := y1x (s 2) (s 3) (s 8) (s 9) (s 10) (s 55) s.h
theorem y1e7 : T1 yts y10 (y1 2 y10 xN) [.t 4] y24p := sq y1c5 fun _ => by kernel_rfl
def y1s (v2 v3 v8 v9 v10 v55 v84 : AV) (h : Heap) : OX :=
cnd v84
 (ob (y5 .gtr v9 (AV.int .i64 0)) fun v87 =>
gb v87 true (evLd true 5 v2 h) fun v89 =>
gb v87 true (evFa 1 v3) fun v90 =>
gb v87 true (evLd false 1 v90 h) fun v91 =>
gh v87 true (y7 E (y8 E) 0 none true 48 [v89, v91] h) h fun v92 h10 =>
gb v87 true (some v10) fun v93 =>
gb v87 true (y5 .eql v92 v93) fun v94 =>
ob (yb v87 v94 (AV.bool false)) fun v95 =>
gb v95 true (evLd true 5 v2 h10) fun v97 =>
gb v95 true (evFa 2 v3) fun v98 =>
gb v95 true (evLd false 1 v98 h10) fun v99 =>
gh v95 true (y7 E (y8 E) 0 none true 48 [v97, v99] h10) h10 fun v100 h11 =>
gb v95 true (some v8) fun v101 =>
gb v95 true (y5 .eql v100 v101) fun v102 =>
ob (yb v95 v102 (AV.bool false)) fun v103 =>
gb v103 true (evLd true 5 v2 h11) fun v105 =>
gb v103 true (evFa 3 v3) fun v106 =>
gb v103 true (evLd false 1 v106 h11) fun v107 =>
gh v103 true (y7 E (y8 E) 0 none true 48 [v105, v107] h11) h11 fun v108 h12 =>
gb v103 true (some v9) fun v109 =>
gb v103 true (y5 .eql v108 v109) fun v110 =>
ob (yb v103 v110 (AV.bool false)) fun v111 =>
(yc h12 v111))
 ((y1x v2 v3 v8 v9 v10 v55 h))
def y26r (s : St) : OX := y1s (s 2) (s 3) (s 8) (s 9) (s 10) (s 55) (s 84) s.h
theorem y1e2 : T1 yup y10 (y1 2 y10 xN) [.t 4] y26r := fun s => (y1b rfl (y1e7 s)).trans (by kernel_rfl)
def y1v (v2 v3 v8 v9 v10 v55 : AV) (h : Heap) : OX :=
ob (y5 .eql v55 (AV.int .i64 5)) fun v85 =>
(y1s v2 v3 v8 v9 v10 v55 v85 h)
def y222 (s : St) : OX := y1v (s 2) (s 3) (s 8) (s 9) (s 10) (s 55) s.h
theorem y1c9 : T1 ysn y10 (y1 2 y10 xN) [.t 4] y222 := sq y1e2 fun _ => by kernel_rfl
def y1m (v2 v3 v8 v9 v10 v55 v73 : AV) (h : Heap) : OX :=
cnd v73
 (ob (evLd true 5 v2 h) fun v75 =>
ob (evFa 1 v3) fun v76 =>
ob (evLd false 1 v76 h) fun v77 =>
ofp (y3p E (y8 E) 0 none true 48 [v75, v77] h) fun f3 =>
oh (y7 E (y8 E) 0 none true 48 [v75, v77] h) fun v78 h13 =>
ob (evLd true 5 v2 h13) fun v79 =>
ob (evFa 2 v3) fun v80 =>
ob (evLd false 1 v80 h13) fun v81 =>
ofp (y3p E (y8 E) 0 none true 48 [v79, v81] h13) fun f7 =>
oh (y7 E (y8 E) 0 none true 48 [v79, v81] h13) fun v82 h14 =>
ob (y5 .eql v78 v82) fun v83 =>
okK (yd [(ids1 v2, []), ([], []), (ids1 v76, []), f3, (ids1 v2, []), ([], []), (ids1 v80, []), f7, ([], []), ([], [])] [(3, 4), (3, 6)]) <|
(yc h14 v83))
 ((y1v v2 v3 v8 v9 v10 v55 h))
def y29y (s : St) : OX := y1m (s 2) (s 3) (s 8) (s 9) (s 10) (s 55) (s 73) s.h
theorem y1ef : T1 yrc y10 (y1 2 y10 xN) [.t 4] y29y := fun s => (y1b rfl (y1c9 s)).trans (by kernel_rfl)
def y1o (v2 v3 v8 v9 v10 v55 : AV) (h : Heap) : OX :=
ob (y5 .eql v55 (AV.int .i64 4)) fun v74 =>
(y1m v2 v3 v8 v9 v10 v55 v74 h)
def y268 (s : St) : OX := y1o (s 2) (s 3) (s 8) (s 9) (s 10) (s 55) s.h
theorem y1di : T1 yrt y10 (y1 2 y10 xN) [.t 4] y268 := sq y1ef fun _ => by kernel_rfl
def y1g (v2 v3 v8 v9 v10 v55 v56 : AV) (h : Heap) : OX :=
cnd v56
 (ob (evLd true 5 v2 h) fun v58 =>
ob (evFa 1 v3) fun v59 =>
ob (evLd false 1 v59 h) fun v60 =>
oh (y7 E (y8 E) 0 none true 48 [v58, v60] h) fun v61 h15 =>
ob (y5 .eql v61 (AV.int .i64 2)) fun v62 =>
gb v62 false (evFa 5 v3) fun v64 =>
gb v62 false (evLd false 1 v64 h15) fun v65 =>
gb v62 false (y5 .geq v65 (AV.int .i64 (-2147483648))) fun v66 =>
gb v62 false (some v66) fun v67 =>
gb v67 true (evFa 5 v3) fun v68 =>
gb v67 true (evLd false 1 v68 h15) fun v69 =>
gb v67 true (y5 .lss v69 (AV.int .i64 2147483648)) fun v70 =>
gb v62 false (yb v67 v70 (AV.bool false)) fun v71 =>
ob (yb v62 (AV.bool true) v71) fun v72 =>
(yc h15 v72))
 ((y1o v2 v3 v8 v9 v10 v55 h))
def y26q (s : St) : OX := y1g (s 2) (s 3) (s 8) (s 9) (s 10) (s 55) (s 56) s.h
theorem y1du : T1 yuq y10 (y1 2 y10 xN) [.t 4] y26q := fun s => (y1b rfl (y1di s)).trans (by kernel_rfl)
def y1d (v2 v3 v8 v9 v10 v55 : AV) (h : Heap) : OX :=
ob (y5 .eql v55 (AV.int .i64 1)) fun v57 =>
(y1g v2 v3 v8 v9 v10 v55 v57 h)
def y16m (s : St) : OX := y1d (s 2) (s 3) (s 8) (s 9) (s 10) (s 55) s.h
theorem y1at : T1 yui y10 (y1 2 y10 xN) [.t 4] y16m := sq y1du fun _ => by kernel_rfl
theorem y1d1 : T1 yuw y10 xN [.t 4] y16m := fun s => yo.trans (y1at s)
def yg9 (v2 v3 v8 v9 v10 : AV) (h : Heap) : OX :=
ob (evFa 0 v3) fun v54 =>
ob (evLd false 1 v54 h) fun v55 =>
(y1d v2 v3 v8 v9 v10 v55 h)
def y173 (s : St) : OX := yg9 (s 2) (s 3) (s 8) (s 9) (s 10) s.h
theorem y1dq : T1 yw2 y10 xN [.t 4] y173 := sq y1d1 fun _ => by kernel_rfl
theorem y1bs : T0 ytg [.t 4] y173 := sq y1z0 y1dq
def yjl (v2 v3 v8 v9 v10 : AV) (h : Heap) : OX :=
ob (evFa 5 v3) fun v39 =>
ob (evLd false 1 v39 h) fun v40 =>
ob (y5 .geq v40 (AV.int .i64 0)) fun v41 =>
gb v41 true (evFa 5 v3) fun v43 =>
gb v41 true (evLd false 1 v43 h) fun v44 =>
gb v41 true (y5 .lss v44 (AV.int .i64 1000)) fun v45 =>
ob (yb v41 v45 (AV.bool false)) fun v46 =>
cnd v46
 (ob (evFa 5 v3) fun v48 =>
ob (evLd false 1 v48 h) fun v49 =>
oh (y7 E (y8 E) 0 none true 66 [v49] h) fun v50 h16 =>
ob (y5r 0 v50) fun v51 =>
ob (y5r 1 v50) fun v52 =>
ob (y5r 2 v50) fun v53 =>
(yg9 v2 v3 v51 v52 v53 h16))
 ((yg9 v2 v3 v8 v9 v10 h))
def y26z (s : St) : OX := yjl (s 2) (s 3) (s 8) (s 9) (s 10) s.h
theorem y1ek : T0 yqv [.t 4] y26z := sq y1bs fun _ => by kernel_rfl
def ykh (v2 v3 : AV) (h : Heap) : OX :=
(yjl v2 v3 (AV.int .i64 0) (AV.int .i64 0) (AV.int .i64 0) h)
def y5q (s : St) : OX := ykh (s 2) (s 3) s.h
theorem y1ck : T0 ys0 [.t 4] y5q := sq y1ek fun _ => by kernel_rfl
def y5p (v2 v3 v5 v6 v7 : AV) (h : Heap) : OX :=
  W E 0 yge ⟨[(2, v2), (3, v3), (5, v5), (6, v6), (7, v7)], h⟩ y5q (y1 0 y5q xN) (finP [.t 4])
def y83 (s : St) : OX := y5p (s 2) (s 3) (s 5) (s 6) (s 7) s.h
theorem ylc : T1 yge y5q (y1 0 y5q xN) [.t 4] y83 := fun s => ye.trans (by kernel_rfl)
def yq9 (v2 v3 v5 v6 v7 : AV) (h : Heap) : OX :=
ob (y5 .add v7 (AV.int .i64 1)) fun v28 =>
(y5p v2 v3 v5 v6 v28 h)
def y21q (s : St) : OX := yq9 (s 2) (s 3) (s 5) (s 6) (s 7) s.h
theorem y1cm : T1 yt0 y83 (y1 0 y5q xN) [.t 4] y21q := fun _ => by kernel_rfl
def yws (v2 v3 v5 v6 v7 : AV) (h : Heap) : OX :=
ob (evLd true 5 v2 h) fun v29 =>
ob (yi 1 v6 v7) fun v32 =>
ob (evLd false 1 v32 h) fun v33 =>
ob (y62 v5 v7) fun v36 =>
oh (y7 E (y8 E) 0 none true 65 [v29, v33, v36] h) fun v37 h17 =>
ob (evUn .not v37) fun v38 =>
cnd v38
 ((yc h17 (AV.bool false)))
 ((yq9 v2 v3 v5 v6 v7 h17))
def y26u (s : St) : OX := yws (s 2) (s 3) (s 5) (s 6) (s 7) s.h
theorem y1cn : T1 yv6 y83 (y1 0 y5q xN) [.t 4] y26u := sq y1cm fun _ => by kernel_rfl
def yfl (v2 v3 v5 v6 v7 : AV) (h : Heap) : OX :=
ob (y5 .lss v7 (AV.int .i64 4)) fun v26 =>
cnd v26
 ((yws v2 v3 v5 v6 v7 h))
 ((ykh v2 v3 h))
def y27h (s : St) : OX := yfl (s 2) (s 3) (s 5) (s 6) (s 7) s.h
theorem y1d0 : T1 yr3 y83 (y1 0 y5q xN) [.t 4] y27h := sq y1cn fun _ => by kernel_rfl
theorem yl2 (v2 v3 v5 v6 v7 : AV) (h : Heap) : y5p v2 v3 v5 v6 v7 h = (yfl v2 v3 v5 v6 v7 h) :=
  y19.trans ((y12 _ _ _ (n' := y83) (fun s => ylc s)).trans ((y1d0 _).trans (by kernel_rfl)))
theorem y1c3 : T1 yto y5q xN [.t 4] y83 := fun s => yo.trans (ylc s)
def yw5 (v2 v3 v5 v6 : AV) (h : Heap) : OX :=
(y5p v2 v3 v5 v6 (AV.int .i64 0) h)
def y17o (s : St) : OX := yw5 (s 2) (s 3) (s 5) (s 6) s.h
theorem y1b8 : T1 yvh y5q xN [.t 4] y17o := sq y1c3 fun _ => by kernel_rfl
theorem y1b3 : T0 yvz [.t 4] y17o := sq y1ck y1b8
def ywe (v2 v3 v5 : AV) (h : Heap) : OX :=
ob (evFa 1 v3) fun v16 =>
ob (evLd false 1 v16 h) fun v17 =>
ob (evFa 2 v3) fun v18 =>
ob (evLd false 1 v18 h) fun v19 =>
ob (evFa 3 v3) fun v20 =>
ob (evLd false 1 v20 h) fun v21 =>
ob (evFa 4 v3) fun v22 =>
ob (evLd false 1 v22 h) fun v23 =>
oh (yw 0 (some 2) 1 4 [(.int .i64 0)] [(0, v17), (1, v19), (2, v21), (3, v23)] h) fun v24 h18 =>
(yw5 v2 v3 v5 v24 h18)
def y25v (s : St) : OX := ywe (s 2) (s 3) (s 5) s.h
theorem y1dd : T0 yqw [.t 4] y25v := sq y1b3 fun _ => by kernel_rfl
def ykq (v2 v3 v5 : AV) (h : Heap) : OX :=
ob (y5 .eql v5 (AV.str [])) fun v15 =>
cnd v15
 ((yc h (AV.bool false)))
 ((ywe v2 v3 v5 h))
def y246 (s : St) : OX := ykq (s 2) (s 3) (s 5) s.h
theorem y1cw : T0 yv4 [.t 4] y246 := sq y1dd fun _ => by kernel_rfl
def yk3 (v2 v3 : AV) (h : Heap) : OX :=
ob (evFa 0 v3) fun v11 =>
ob (evLd false 1 v11 h) fun v12 =>
oh (y7 E (y8 E) 0 none true 38 [v12] h) fun v13 h19 =>
(ykq v2 v3 v13 h19)
def y277 (s : St) : OX := yk3 (s 2) (s 3) s.h
theorem y1ce : T0 yrj [.t 4] y277 := sq y1cw fun _ => by kernel_rfl
def ygb (v0 v1 : AV) (h : Heap) : OX :=
oh (newC 0 (some 0) (cellsOf v0) h) fun v2 h20 =>
oh (newC 0 (some 1) (cellsOf v1) h20) fun v3 h21 =>
(yk3 v2 v3 h21)
def y239 (s : St) : OX := ygb (s 0) (s 1) s.h
theorem y1as : T0 yvo [.t 4] y239 := sq y1ce fun _ => by kernel_rfl
@[simp] theorem y2wk : E.pure 64 = true := rfl
theorem y2qc (v0 v1 : AV) : (y8 E).p 64 [v0, v1] = ygb v0 v1 [⟨0, .dead⟩, ⟨0, .dead⟩, ⟨0, .dead⟩] :=
  (yz (cf := y2af) (by kernel_rfl) rfl).trans ((y1as _).trans (by kernel_rfl))
def y1hp (v0 : AV) (h : Heap) : OX :=
oh (yw 0 (some 0) 1 3 [(.int .i64 0)] [(0, (AV.int .i64 27)), (1, (AV.int .i64 28)), (2, (AV.int .i64 29))] h) fun v4 h1 =>
oh (y7 E (y8 E) 0 none true 42 [v0, v4] h1) fun v5 h2 =>
(yc h2 v5)
def y2ed (s : St) : OX := y1hp (s 0) s.h
theorem y1lm : T0 yz8 [.t 2] y2ed := fun _ => by kernel_rfl
@[simp] theorem y2z2 : E.pure 23 = true := rfl
theorem y2un (v0 : AV) : (y8 E).p 23 [v0] = y1hp v0 [⟨0, .dead⟩] :=
  (yz (cf := y2aj) (by kernel_rfl) rfl).trans ((y1lm _).trans (by kernel_rfl))
def y1ik (v0 v1 : AV) (h : Heap) : OX :=
oh (newC 0 (some 0) (cellsOf v0) h) fun v2 h1 =>
ob (y5 .geq v1 (AV.int .i64 0)) fun v6 =>
gb v6 true (some v1) fun v8 =>
gb v6 true (evFa 3 v2) fun v9 =>
gb v6 true (evLd false 1 v9 h1) fun v10 =>
gb v6 true (yq 1 v10 h1) fun v11 =>
gb v6 true (y5 .lss v8 v11) fun v12 =>
ob (yb v6 v12 (AV.bool false)) fun v13 =>
(yc h1 v13)
def y2du (s : St) : OX := y1ik (s 0) (s 1) s.h
theorem y1yk : T0 y12l [.t 4] y2du := fun _ => by kernel_rfl
@[simp] theorem y2w6 : E.pure 49 = true := rfl
theorem y2r2 (v0 v1 : AV) : (y8 E).p 49 [v0, v1] = y1ik v0 v1 [⟨0, .dead⟩] :=
  (yz (cf := y2at) (by kernel_rfl) rfl).trans ((y1yk _).trans (by kernel_rfl))
def y1w8 (v0 : AV) (h : Heap) : OX :=
oh (yw 0 (some 0) 1 0 [(.bool false)] [] h) fun v5 h1 =>
oh (y3h 0 (some 1) 1 1 v5 v0 h1) fun v7 h2 =>
(yc h2 v7)
def y2kx (s : St) : OX := y1w8 (s 0) s.h
theorem y1ss : T0 y18g [.t 2] y2kx := fun _ => by kernel_rfl
def y1sy (v0 : AV) (h : Heap) : OX :=
ob (y3n 1 false v0 AV.nils) fun v4 =>
cnd v4
 ((yc h AV.nils))
 ((y1w8 v0 h))
def y2la (s : St) : OX := y1sy (s 0) s.h
theorem y1jx : T0 y15m [.t 2] y2la := sq y1ss fun _ => by kernel_rfl
def y1ol (v0 : AV) (h : Heap) : OX :=
(y1sy v0 h)
def y2f4 (s : St) : OX := y1ol (s 0) s.h
theorem y1hl : T0 y11r [.t 2] y2f4 := sq y1jx fun _ => by kernel_rfl
@[simp] theorem y2yk : E.pure 78 = true := rfl
theorem y2tk (v0 : AV) : (y8 E).p 78 [v0] = y1ol v0 [⟨0, .dead⟩, ⟨0, .dead⟩] :=
  (yz (cf := y2bq) (by kernel_rfl) rfl).trans ((y1hl _).trans (by kernel_rfl))
def y205 (fb : Nat) (v3 : AV) (h : Heap) : Option (AV × Heap) :=
(some (v3, h))
def y2c7 (fb : Nat) (s : St) : Option (AV × Heap) := y205 fb (s 3) s.h
theorem y28k (fb : Nat) (s : St) : W E fb y1rk s (finI [.t 8]) xN (finI [.t 8]) = y2c7 fb s :=
  by kernel_rfl
def y1cj (fb : Nat) (v1 v3 v9 : AV) (h : Heap) : Option (AV × Heap) :=
cnd v9
 (oh (yw fb (some 3) 1 1 [(.int .i64 0)] [(0, v1)] h) fun v54 h1 =>
oh (y3h fb (some 4) 1 8 v3 v54 h1) fun v55 h2 =>
(y205 fb v55 h2))
 ((y205 fb v3 h))
def y9j (fb : Nat) (s : St) : Option (AV × Heap) := y1cj fb (s 1) (s 3) (s 9) s.h
theorem y234 (fb : Nat) (s : St) : W E fb y1up s (finI [.t 8]) xN (finI [.t 8]) = y9j fb s :=
  (y8q (k := (y2c7 fb)) (fun s => y28k fb s)).trans (by kernel_rfl)
def ysz (fb : Nat) (v0 v1 v2 v3 v9 v29 v30 v31 : AV) (h : Heap) : Option (AV × Heap) :=
  W E fb ypq ⟨[(0, v0), (1, v1), (2, v2), (3, v3), (9, v9), (29, v29), (30, v30), (31, v31)], h⟩ (y9j fb) (y1 0 (y9j fb) xN) (finI [.t 8])
def ybu (fb : Nat) (s : St) : Option (AV × Heap) := ysz fb (s 0) (s 1) (s 2) (s 3) (s 9) (s 29) (s 30) (s 31) s.h
theorem yrg (fb : Nat) (s : St) : W E fb ypq s (y9j fb) (y1 0 (y9j fb) xN) (finI [.t 8]) = ybu fb s := ye.trans (by kernel_rfl)
def y1cz (fb : Nat) (v0 v1 v2 v3 v9 v29 v30 v31 : AV) (h : Heap) : Option (AV × Heap) :=
ob (y5 .add v31 (AV.int .i64 1)) fun v50 =>
(ysz fb v0 v1 v2 v3 v9 v29 v30 v50 h)
def y2b7 (fb : Nat) (s : St) : Option (AV × Heap) := y1cz fb (s 0) (s 1) (s 2) (s 3) (s 9) (s 29) (s 30) (s 31) s.h
theorem y294 (fb : Nat) (s : St) : W E fb y1ji s (ybu fb) (y1 0 (y9j fb) xN) (finI [.t 8]) = y2b7 fb s :=
  by kernel_rfl
def y1xj (fb : Nat) (v0 v1 v2 v3 v9 v29 v30 v31 : AV) (h : Heap) : Option (AV × Heap) :=
ob (yi 1 v29 v31) fun v34 =>
ob (evLd false 1 v34 h) fun v35 =>
gb v35 true (some v2) fun v38 =>
gb v35 true (some v31) fun v39 =>
gb v35 true (yi 1 v38 v39) fun v40 =>
gb v35 true (evLd false 1 v40 h) fun v41 =>
gb v35 true (evUn .not v41) fun v42 =>
ob (yb v35 v42 (AV.bool false)) fun v43 =>
cnd v43
 (ob (yi 1 v0 v1) fun v46 =>
ob (evLd false 1 v46 h) fun v47 =>
ob (yi 1 v47 v31) fun v49 =>
oh (evSt 1 v49 (AV.bool false) h) fun _ h3 =>
(y1cz fb v0 v1 v2 v3 (AV.bool true) v29 v30 v31 h3))
 ((y1cz fb v0 v1 v2 v3 v9 v29 v30 v31 h))
def y2ao (fb : Nat) (s : St) : Option (AV × Heap) := y1xj fb (s 0) (s 1) (s 2) (s 3) (s 9) (s 29) (s 30) (s 31) s.h
theorem y22c (fb : Nat) (s : St) : W E fb y1gw s (ybu fb) (y1 0 (y9j fb) xN) (finI [.t 8]) = y2ao fb s :=
  (y8q (k := (y2b7 fb)) (fun s => y294 fb s)).trans (by kernel_rfl)
def y1c6 (fb : Nat) (v0 v1 v2 v3 v9 v29 v30 v31 v32 : AV) (h : Heap) : Option (AV × Heap) :=
cnd v32
 ((y1xj fb v0 v1 v2 v3 v9 v29 v30 v31 h))
 ((y1cj fb v1 v3 v9 h))
def y2cj (fb : Nat) (s : St) : Option (AV × Heap) := y1c6 fb (s 0) (s 1) (s 2) (s 3) (s 9) (s 29) (s 30) (s 31) (s 32) s.h
theorem y23t (fb : Nat) (s : St) : W E fb y1wl s (ybu fb) (y1 0 (y9j fb) xN) (finI [.t 8]) = y2cj fb s :=
  (y8q (k := (y2ao fb)) (fun s => y22c fb s)).trans (by kernel_rfl)
def y1bx (fb : Nat) (v0 v1 v2 v3 v9 v29 v30 v31 : AV) (h : Heap) : Option (AV × Heap) :=
ob (y5 .lss v31 v30) fun v32 =>
(y1c6 fb v0 v1 v2 v3 v9 v29 v30 v31 v32 h)
def y2sz (fb : Nat) (s : St) : Option (AV × Heap) := y1bx fb (s 0) (s 1) (s 2) (s 3) (s 9) (s 29) (s 30) (s 31) s.h
theorem y28l (fb : Nat) (s : St) : W E fb y1qu s (ybu fb) (y1 0 (y9j fb) xN) (finI [.t 8]) = y2sz fb s :=
  (y8q (k := (y2cj fb)) (fun s => y23t fb s)).trans (by kernel_rfl)
theorem yu7 (fb : Nat) (v0 v1 v2 v3 v9 v29 v30 v31 : AV) (h : Heap) : ysz fb v0 v1 v2 v3 v9 v29 v30 v31 h = (y1bx fb v0 v1 v2 v3 v9 v29 v30 v31 h) :=
  y19.trans ((y12 _ _ _ (n' := (ybu fb)) (fun s => yrg fb s)).trans ((y28l fb _).trans (by kernel_rfl)))
theorem y22g (fb : Nat) (s : St) : W E fb y1og s (y9j fb) xN (finI [.t 8]) = ybu fb s :=
  yo.trans (yrg fb s)
def y2j1 (fb : Nat) (v0 v1 v2 v3 v9 : AV) (h : Heap) : Option (AV × Heap) :=
ob (yi 1 v0 v1) fun v28 =>
ob (evLd false 1 v28 h) fun v29 =>
ob (yq 1 v29 h) fun v30 =>
(ysz fb v0 v1 v2 v3 v9 v29 v30 (AV.int .i64 0) h)
def y1vg (fb : Nat) (s : St) : Option (AV × Heap) := y2j1 fb (s 0) (s 1) (s 2) (s 3) (s 9) s.h
theorem y21h (fb : Nat) (s : St) : W E fb y1su s (y9j fb) xN (finI [.t 8]) = y1vg fb s :=
  (y8q (k := (ybu fb)) (fun s => y22g fb s)).trans (by kernel_rfl)
theorem y1yx (fb : Nat) (s : St) : W E fb y1a0 s (finI [.t 8]) xN (finI [.t 8]) = y1vg fb s :=
  (y8q (k := (y9j fb)) (fun s => y234 fb s)).trans (y21h fb s)
def y1tt (fb : Nat) (v0 v1 v2 v3 : AV) (h : Heap) : Option (AV × Heap) :=
(y2j1 fb v0 v1 v2 v3 (AV.bool false) h)
def y1ur (fb : Nat) (s : St) : Option (AV × Heap) := y1tt fb (s 0) (s 1) (s 2) (s 3) s.h
theorem y1uy (fb : Nat) (s : St) : W E fb y142 s (finI [.t 8]) xN (finI [.t 8]) = y1ur fb s :=
  (y8q (k := (y1vg fb)) (fun s => y1yx fb s)).trans (by kernel_rfl)
def ymt (fb : Nat) (v0 v1 v2 v3 : AV) (h : Heap) : Option (AV × Heap) :=
ob (yi 1 v0 v1) fun v14 =>
ob (evLd false 1 v14 h) fun v15 =>
ob (y3n 1 false v15 AV.nils) fun v16 =>
cnd v16
 (oh (y7 E (y8 E) fb (some 0) false 78 [v2] h) fun v20 h4 =>
ob (yi 1 v0 v1) fun v21 =>
oh (evSt 1 v21 v20 h4) fun _ h5 =>
oh (yw fb (some 1) 1 1 [(.int .i64 0)] [(0, v1)] h5) fun v24 h6 =>
oh (y3h fb (some 2) 1 8 v3 v24 h6) fun v25 h7 =>
(some (v25, h7)))
 ((y1tt fb v0 v1 v2 v3 h))
def y1si (fb : Nat) (s : St) : Option (AV × Heap) := ymt fb (s 0) (s 1) (s 2) (s 3) s.h
theorem y1uq (fb : Nat) (s : St) : W E fb y178 s (finI [.t 8]) xN (finI [.t 8]) = y1si fb s :=
  (y8q (k := (y1ur fb)) (fun s => y1uy fb s)).trans (by kernel_rfl)
def y2cc (fb : Nat) (v0 v1 v2 v3 : AV) (h : Heap) : Option (AV × Heap) :=
(ymt fb v0 v1 v2 v3 h)
def y2kq (fb : Nat) (s : St) : Option (AV × Heap) := y2cc fb (s 0) (s 1) (s 2) (s 3) s.h
theorem y1mp (fb : Nat) (s : St) : W E fb y18m s (finI [.t 8]) xN (finI [.t 8]) = y2kq fb s :=
  (y8q (k := (y1si fb)) (fun s => y1uq fb s)).trans (by kernel_rfl)
@[simp] theorem y2xp : E.pure 80 = false := rfl
theorem y2we (fb : Nat) (v0 v1 v2 v3 : AV) (h : Heap) : (y8 E).i 80 [v0, v1, v2, v3] fb h = y2cc fb v0 v1 v2 v3 (if fb = h.length then h ++ yp 5 else h) :=
  (yoy (cf := y2to) (by kernel_rfl) rfl).trans ((y1mp fb _).trans (by kernel_rfl))
def y19f (v7 : AV) (h : Heap) : OX :=
(yc h v7)
def yaz (s : St) : OX := y19f (s 7) s.h
theorem y1j2 : T0 y0j [.t 4] yaz := fun _ => by kernel_rfl
def yij (v7 v8 : AV) (h : Heap) : OX :=
  W E 0 yii ⟨[(7, v7), (8, v8)], h⟩ yaz (y1 0 yaz xN) (finP [.t 4])
def yc7 (s : St) : OX := yij (s 7) (s 8) s.h
theorem yn4 : T1 yii yaz (y1 0 yaz xN) [.t 4] yc7 := fun s => ye.trans (by kernel_rfl)
def y1ic (v7 v8 : AV) (h : Heap) : OX :=
ob (y5y 1 v7 (some v8) none) fun v41 =>
ob (y5y 1 v7 none (some v8)) fun v44 =>
oh (yjy 1 v41 v44 h) fun v45 h1 =>
ob (y5 .add v8 v45) fun v46 =>
(yij v7 v46 h1)
def y2ew (s : St) : OX := y1ic (s 7) (s 8) s.h
theorem y1sn : T1 y19l yc7 (y1 0 yaz xN) [.t 4] y2ew := fun _ => by kernel_rfl
def y13p (v7 v8 : AV) (h : Heap) : OX :=
ob (yq 1 v7 h) fun v36 =>
ob (y5 .lss v8 v36) fun v37 =>
cnd v37
 ((y1ic v7 v8 h))
 ((y19f v7 h))
def y2df (s : St) : OX := y13p (s 7) (s 8) s.h
theorem y1lg : T1 yym yc7 (y1 0 yaz xN) [.t 4] y2df := sq y1sn fun _ => by kernel_rfl
theorem yms (v7 v8 : AV) (h : Heap) : yij v7 v8 h = (y13p v7 v8 h) :=
  y19.trans ((y12 _ _ _ (n' := yc7) (fun s => yn4 s)).trans ((y1lg _).trans (by kernel_rfl)))
theorem y1ls : T1 y17k yaz xN [.t 4] yc7 := fun s => yo.trans (yn4 s)
theorem y1q8 : T0 y15w [.t 4] yc7 := sq y1j2 y1ls
def y1fe (v0 v7 : AV) (h : Heap) : OX :=
oh (yjy 1 v7 v0 h) fun v33 h2 =>
(yij v7 v33 h2)
def y2j9 (s : St) : OX := y1fe (s 0) (s 7) s.h
theorem y1ka : T0 y14i [.t 4] y2j9 := sq y1q8 fun _ => by kernel_rfl
def y1ny (v0 v6 : AV) (h : Heap) : OX :=
ob (yco .i64 v6) fun v29 =>
oh (mkSC 0 (some 0) 1 8 [(.int .i64 0)] v29 v29 h) fun v30 h3 =>
(y1fe v0 v30 h3)
def y2hx (s : St) : OX := y1ny (s 0) (s 6) s.h
theorem y1gb : T0 y122 [.t 4] y2hx := sq y1ka fun _ => by kernel_rfl
def y1mv (v0 v5 v6 : AV) (h : Heap) : OX :=
ob (y5 .gtr v5 (AV.int .u64 0)) fun v22 =>
gb v22 false (some v6) fun v24 =>
gb v22 false (y5 .gtr v24 (AV.int .u64 9223372036854775807)) fun v25 =>
ob (yb v22 (AV.bool true) v25) fun v26 =>
cnd v26
 (none)
 ((y1ny v0 v6 h))
def y2hp (s : St) : OX := y1mv (s 0) (s 5) (s 6) s.h
theorem y1tw : T0 y148 [.t 4] y2hp := sq y1gb fun _ => by kernel_rfl
def yx5 (v0 v1 : AV) (h : Heap) : OX :=
ob (yq 1 v0 h) fun v14 =>
ob (yco .u64 v14) fun v15 =>
ob (yco .u64 v1) fun v17 =>
oh (y7 E (y8 E) 0 none true 157 [v15, v17] h) fun v18 h4 =>
ob (y5r 0 v18) fun v19 =>
ob (y5r 1 v18) fun v20 =>
(y1mv v0 v19 v20 h4)
def y29e (s : St) : OX := yx5 (s 0) (s 1) s.h
theorem y1bi : T0 ysv [.t 4] y29e := sq y1tw fun _ => by kernel_rfl
def yy0 (v0 v1 : AV) (h : Heap) : OX :=
ob (y5 .lss v1 (AV.int .i64 0)) fun v10 =>
cnd v10
 (none)
 ((yx5 v0 v1 h))
def y24q (s : St) : OX := yy0 (s 0) (s 1) s.h
theorem y1cy : T0 ytl [.t 4] y24q := sq y1bi fun _ => by kernel_rfl
def yxj (v0 v1 : AV) (h : Heap) : OX :=
(yy0 v0 v1 h)
def y26d (s : St) : OX := yxj (s 0) (s 1) s.h
theorem y1dw : T0 yu1 [.t 4] y26d := sq y1cy fun _ => by kernel_rfl
@[simp] theorem y2v3 : E.pure 150 = true := rfl
theorem y2ra (v0 v1 : AV) : (y8 E).p 150 [v0, v1] = yxj v0 v1 [⟨0, .dead⟩] :=
  (yz (cf := y2an) (by kernel_rfl) rfl).trans ((y1dw _).trans (by kernel_rfl))
def q2_1 (fb : Nat) (v0 v2 v3 v6 : AV) (h : Heap) : Option (AV × Heap) :=
ob (evLd false 1 v2 h) fun v30 =>
ob (yi 1 v30 v0) fun v33 =>
oh (evSt 1 v33 v6 h) fun _ h1 =>
ob (evLd false 1 v3 h1) fun v34 =>
oh (yw fb (some 0) 1 1 [(.int .i64 0)] [(0, v0)] h1) fun v36 h2 =>
oh (y3h fb (some 1) 1 8 v34 v36 h2) fun v37 h3 =>
oh (evSt 1 v3 v37 h3) fun _ h4 =>
(some ((.tup []), h4))
def y2re (fb : Nat) (s : St) : Option (AV × Heap) := q2_1 fb (s 0) (s 2) (s 3) (s 6) s.h
theorem y2fj (fb : Nat) (s : St) : W E fb y2bw s (finI []) xN (finI []) = y2re fb s :=
  by kernel_rfl
def q2_2 (fb : Nat) (v0 v2 v3 v6 : AV) (h : Heap) : Option (AV × Heap) :=
ob (y5 .eql v0 (AV.int .i64 0)) fun v14 =>
gb v14 false (evLd false 1 v2 h) fun v16 =>
gb v14 false (some v0) fun v17 =>
gb v14 false (yi 1 v16 v17) fun v18 =>
gb v14 false (evLd false 1 v18 h) fun v19 =>
gb v14 false (y3n 1 true v19 AV.nils) fun v20 =>
gb v14 false (some v20) fun v21 =>
gb v21 true (some v6) fun v22 =>
gb v21 true (evLd false 1 v2 h) fun v23 =>
gb v21 true (some v0) fun v24 =>
gb v21 true (yi 1 v23 v24) fun v25 =>
gb v21 true (evLd false 1 v25 h) fun v26 =>
gh v21 true (y7 E (y8 E) fb none true 156 [v22, v26] h) h fun v27 h5 =>
gb v14 false (yb v21 v27 (AV.bool false)) fun v28 =>
ob (yb v14 (AV.bool true) v28) fun v29 =>
cnd v29
 ((some ((.tup []), h5)))
 ((q2_1 fb v0 v2 v3 v6 h5))
def y2q5 (fb : Nat) (s : St) : Option (AV × Heap) := q2_2 fb (s 0) (s 2) (s 3) (s 6) s.h
theorem y2hh (fb : Nat) (s : St) : W E fb y2b8 s (finI []) xN (finI []) = y2q5 fb s :=
  (y8q (k := (y2re fb)) (fun s => y2fj fb s)).trans (by kernel_rfl)
def q2_3 (fb : Nat) (v0 v1 v2 v3 : AV) (h : Heap) : Option (AV × Heap) :=
ob (evLd false 1 v2 h) fun v7 =>
ob (yi 1 v7 v0) fun v9 =>
ob (evLd false 1 v9 h) fun v10 =>
oh (y7 E (y8 E) fb none true 155 [v10, v1] h) fun v12 h6 =>
(q2_2 fb v0 v2 v3 v12 h6)
def y2xk (fb : Nat) (s : St) : Option (AV × Heap) := q2_3 fb (s 0) (s 1) (s 2) (s 3) s.h
theorem y2ft (fb : Nat) (s : St) : W E fb y2d4 s (finI []) xN (finI []) = y2xk fb s :=
  (y8q (k := (y2q5 fb)) (fun s => y2hh fb s)).trans (by kernel_rfl)
@[simp] theorem y2us : E.pure 151 = false := rfl
theorem x_q2 (fb : Nat) (v0 v1 v2 v3 : AV) (h : Heap) : (y8 E).i 151 [v0, v1, v2, v3] fb h = q2_3 fb v0 v1 v2 v3 (if fb = h.length then h ++ yp 2 else h) :=
  (yoy (cf := c_q2) (by kernel_rfl) rfl).trans ((y2ft fb _).trans (by kernel_rfl))
def q5_1 (v5 : AV) (h : Heap) : OX :=
(yc h v5)
def yju (s : St) : OX := q5_1 (s 5) s.h
theorem y2f9 : T0 y2da [.t 4] yju := fun _ => by kernel_rfl
def y1lc (v1 v5 v14 v15 : AV) (h : Heap) : OX :=
  W E 0 yxd ⟨[(1, v1), (5, v5), (14, v14), (15, v15)], h⟩ yju (y1 0 yju xN) (finP [.t 4])
def ykm (s : St) : OX := y1lc (s 1) (s 5) (s 14) (s 15) s.h
theorem y11c : T1 yxd yju (y1 0 yju xN) [.t 4] ykm := fun s => ye.trans (by kernel_rfl)
def q5_3 (v1 v5 v14 v15 : AV) (h : Heap) : OX :=
ob (y5 .add v15 (AV.int .i64 1)) fun v30 =>
(y1lc v1 v5 v14 v30 h)
def y2xl (s : St) : OX := q5_3 (s 1) (s 5) (s 14) (s 15) s.h
theorem y2j7 : T1 y2d8 ykm (y1 0 yju xN) [.t 4] y2xl := fun _ => by kernel_rfl
def q5_4 (v1 v5 v14 v15 : AV) (h : Heap) : OX :=
ob (yi 1 v5 v15) fun v20 =>
ob (evLd false 1 v20 h) fun v21 =>
ob (yi 1 v1 v15) fun v24 =>
ob (evLd false 1 v24 h) fun v25 =>
ob (y5 .neq v21 v25) fun v26 =>
cnd v26
 (ob (yi 1 v5 v15) fun v29 =>
oh (evSt 1 v29 (AV.int .i64 (-1)) h) fun _ h1 =>
(q5_3 v1 v5 v14 v15 h1))
 ((q5_3 v1 v5 v14 v15 h))
def y2vl (s : St) : OX := q5_4 (s 1) (s 5) (s 14) (s 15) s.h
theorem y2gy : T1 y2br ykm (y1 0 yju xN) [.t 4] y2vl := sq y2j7 fun _ => by kernel_rfl
def q5_5 (v1 v5 v14 v15 v16 : AV) (h : Heap) : OX :=
cnd v16
 ((q5_4 v1 v5 v14 v15 h))
 ((q5_1 v5 h))
def y2wh (s : St) : OX := q5_5 (s 1) (s 5) (s 14) (s 15) (s 16) s.h
theorem y2dg : T1 y2am ykm (y1 0 yju xN) [.t 4] y2wh := sq y2gy fun _ => by kernel_rfl
def q5_6 (v1 v5 v14 v15 : AV) (h : Heap) : OX :=
ob (y5 .lss v15 v14) fun v16 =>
(q5_5 v1 v5 v14 v15 v16 h)
def y2x3 (s : St) : OX := q5_6 (s 1) (s 5) (s 14) (s 15) s.h
theorem y2ki : T1 y2d6 ykm (y1 0 yju xN) [.t 4] y2x3 := sq y2dg fun _ => by kernel_rfl
theorem yz0 (v1 v5 v14 v15 : AV) (h : Heap) : y1lc v1 v5 v14 v15 h = (q5_6 v1 v5 v14 v15 h) :=
  y19.trans ((y12 _ _ _ (n' := ykm) (fun s => y11c s)).trans ((y2ki _).trans (by kernel_rfl)))
theorem y2ge : T1 y2bt yju xN [.t 4] ykm := fun s => yo.trans (y11c s)
def q5_8 (v1 v5 : AV) (h : Heap) : OX :=
ob (yq 1 v5 h) fun v14 =>
(y1lc v1 v5 v14 (AV.int .i64 0) h)
def y2sf (s : St) : OX := q5_8 (s 1) (s 5) s.h
theorem y2ke : T1 y2bo yju xN [.t 4] y2sf := sq y2ge fun _ => by kernel_rfl
theorem y2fn : T0 y2cl [.t 4] y2sf := sq y2f9 y2ke
def y2ks (v0 v1 : AV) (h : Heap) : OX :=
oh (y7 E (y8 E) 0 (some 1) false 153 [v0] h) fun v12 h2 =>
(q5_8 v1 v12 h2)
def y2t4 (s : St) : OX := y2ks (s 0) (s 1) s.h
theorem y24z : T0 y1ks [.t 4] y2t4 := sq y2fn fun _ => by kernel_rfl
def y26x (v0 v1 : AV) (h : Heap) : OX :=
ob (y3n 1 false v0 AV.nils) fun v8 =>
cnd v8
 (oh (y7 E (y8 E) 0 (some 0) false 153 [v1] h) fun v10 h3 =>
(yc h3 v10))
 ((y2ks v0 v1 h))
def y2pr (s : St) : OX := y26x (s 0) (s 1) s.h
theorem y23u : T0 y1vc [.t 4] y2pr := sq y24z fun _ => by kernel_rfl
def y28w (v0 v1 : AV) (h : Heap) : OX :=
(y26x v0 v1 h)
def y2u9 (s : St) : OX := y28w (s 0) (s 1) s.h
theorem y2ac : T0 y1w0 [.t 4] y2u9 := sq y23u fun _ => by kernel_rfl
@[simp] theorem y2vf : E.pure 155 = true := rfl
theorem x_q5 (v0 v1 : AV) : (y8 E).p 155 [v0, v1] = y28w v0 v1 [⟨0, .dead⟩, ⟨0, .dead⟩] :=
  (yz (cf := c_q5) (by kernel_rfl) rfl).trans ((y2ac _).trans (by kernel_rfl))
def y1ff (h : Heap) : OX :=
(yc h (AV.bool true))
def y73 (s : St) : OX := y1ff s.h
theorem y1ix : T0 y11i [.t 4] y73 := fun _ => by kernel_rfl
def ykz (v0 v1 v12 v13 : AV) (h : Heap) : OX :=
  W E 0 yi7 ⟨[(0, v0), (1, v1), (12, v12), (13, v13)], h⟩ y73 (y1 0 y73 xN) (finP [.t 4])
def y8u (s : St) : OX := ykz (s 0) (s 1) (s 12) (s 13) s.h
theorem ynt : T1 yi7 y73 (y1 0 y73 xN) [.t 4] y8u := fun s => ye.trans (by kernel_rfl)
def y1l7 (v0 v1 v12 v13 : AV) (h : Heap) : OX :=
ob (y5 .add v13 (AV.int .i64 1)) fun v25 =>
(ykz v0 v1 v12 v25 h)
def y2jd (s : St) : OX := y1l7 (s 0) (s 1) (s 12) (s 13) s.h
theorem y1q3 : T1 y131 y8u (y1 0 y73 xN) [.t 4] y2jd := fun _ => by kernel_rfl
def y1yd (v0 v1 v12 v13 : AV) (h : Heap) : OX :=
ob (yi 1 v0 v13) fun v18 =>
ob (evLd false 1 v18 h) fun v19 =>
ob (yi 1 v1 v13) fun v22 =>
ob (evLd false 1 v22 h) fun v23 =>
ob (y5 .neq v19 v23) fun v24 =>
cnd v24
 ((yc h (AV.bool false)))
 ((y1l7 v0 v1 v12 v13 h))
def y2fy (s : St) : OX := y1yd (s 0) (s 1) (s 12) (s 13) s.h
theorem y1f9 : T1 y144 y8u (y1 0 y73 xN) [.t 4] y2fy := sq y1q3 fun _ => by kernel_rfl
def y191 (v0 v1 v12 v13 v14 : AV) (h : Heap) : OX :=
cnd v14
 ((y1yd v0 v1 v12 v13 h))
 ((y1ff h))
def y2ik (s : St) : OX := y191 (s 0) (s 1) (s 12) (s 13) (s 14) s.h
theorem y1mn : T1 y07 y8u (y1 0 y73 xN) [.t 4] y2ik := sq y1f9 fun _ => by kernel_rfl
def y12o (v0 v1 v12 v13 : AV) (h : Heap) : OX :=
ob (y5 .lss v13 v12) fun v14 =>
(y191 v0 v1 v12 v13 v14 h)
def y2k8 (s : St) : OX := y12o (s 0) (s 1) (s 12) (s 13) s.h
theorem y1xq : T1 yyz y8u (y1 0 y73 xN) [.t 4] y2k8 := sq y1mn fun _ => by kernel_rfl
theorem yn6 (v0 v1 v12 v13 : AV) (h : Heap) : ykz v0 v1 v12 v13 h = (y12o v0 v1 v12 v13 h) :=
  y19.trans ((y12 _ _ _ (n' := y8u) (fun s => ynt s)).trans ((y1xq _).trans (by kernel_rfl)))
theorem y1hu : T1 y15c y73 xN [.t 4] y8u := fun s => yo.trans (ynt s)
def y1ua (v0 v1 : AV) (h : Heap) : OX :=
ob (yq 1 v0 h) fun v12 =>
(ykz v0 v1 v12 (AV.int .i64 0) h)
def y1f2 (s : St) : OX := y1ua (s 0) (s 1) s.h
theorem y1it : T1 yzn y73 xN [.t 4] y1f2 := sq y1hu fun _ => by kernel_rfl
theorem y1vm : T0 y15f [.t 4] y1f2 := sq y1ix y1it
def yyi (v0 v1 : AV) (h : Heap) : OX :=
ob (yq 1 v0 h) fun v7 =>
ob (yq 1 v1 h) fun v9 =>
ob (y5 .neq v7 v9) fun v10 =>
cnd v10
 ((yc h (AV.bool false)))
 ((y1ua v0 v1 h))
def y257 (s : St) : OX := yyi (s 0) (s 1) s.h
theorem y1bk : T0 ysf [.t 4] y257 := sq y1vm fun _ => by kernel_rfl
def yxr (v0 v1 : AV) (h : Heap) : OX :=
(yyi v0 v1 h)
def y24i (s : St) : OX := yxr (s 0) (s 1) s.h
theorem y1cf : T0 yt8 [.t 4] y24i := sq y1bk fun _ => by kernel_rfl
@[simp] theorem y2v5 : E.pure 156 = true := rfl
theorem y2rt (v0 v1 : AV) : (y8 E).p 156 [v0, v1] = yxr v0 v1 [] :=
  (yz (cf := y2b3) (by kernel_rfl) rfl).trans ((y1cf _).trans (by kernel_rfl))
def q3_1 (v0 v5 v6 : AV) (h : Heap) : OX :=
oh (y7 E (y8 E) 0 none false 154 [v0, v5] h) fun v62 h1 =>
ob (yi 1 v0 v5) fun v66 =>
oh (evSt 1 v66 v6 h1) fun _ h2 =>
(yc h2 v0)
def y2ww (s : St) : OX := q3_1 (s 0) (s 5) (s 6) s.h
theorem y2ij : T0 y2b0 [.t 4] y2ww := fun _ => by kernel_rfl
def q3_2 (v0 v3 v5 v6 : AV) (h : Heap) : OX :=
ob (evFa 0 v3) fun v25 =>
ob (evLd false 1 v25 h) fun v26 =>
ob (y5 .eql v26 (AV.int .i64 4)) fun v27 =>
gb v27 true (evFa 2 v3) fun v29 =>
gb v27 true (evLd false 1 v29 h) fun v30 =>
gb v27 true (some v5) fun v31 =>
gb v27 true (y5 .neq v30 v31) fun v32 =>
ob (yb v27 v32 (AV.bool false)) fun v33 =>
cnd v33
 (ob (evFa 2 v3) fun v34 =>
ob (evLd false 1 v34 h) fun v35 =>
ob (yi 1 v0 v35) fun v38 =>
ob (evLd false 1 v38 h) fun v39 =>
ob (y5 .geq v39 (AV.int .i64 0)) fun v40 =>
gb v40 true (some v0) fun v42 =>
gb v40 true (some v35) fun v43 =>
gb v40 true (yi 1 v42 v43) fun v44 =>
gb v40 true (evLd false 1 v44 h) fun v45 =>
gb v40 true (some v5) fun v46 =>
gb v40 true (y5 .neq v45 v46) fun v47 =>
ob (yb v40 v47 (AV.bool false)) fun v48 =>
cnd v48
 (ob (yi 1 v0 v35) fun v51 =>
ob (evLd false 1 v51 h) fun v52 =>
(q3_1 v0 v5 v52 h))
 (ob (yi 1 v0 v35) fun v55 =>
ob (evLd false 1 v55 h) fun v56 =>
ob (y5 .eql v56 v5) fun v58 =>
cnd v58
 ((yc h v0))
 ((q3_1 v0 v5 v35 h))))
 ((q3_1 v0 v5 v6 h))
def y2yd (s : St) : OX := q3_2 (s 0) (s 3) (s 5) (s 6) s.h
theorem y2ii : T0 y2c1 [.t 4] y2yd := sq y2ij fun _ => by kernel_rfl
def q3_3 (v0 v3 v5 : AV) (h : Heap) : OX :=
(q3_2 v0 v3 v5 (AV.int .i64 (-1)) h)
def y2zj (s : St) : OX := q3_3 (s 0) (s 3) (s 5) s.h
theorem y2k7 : T0 y2aq [.t 4] y2zj := sq y2ii fun _ => by kernel_rfl
def q3_4 (v0 v3 v5 : AV) (h : Heap) : OX :=
ob (y5 .lss v5 (AV.int .i64 0)) fun v12 =>
gb v12 false (evFa 0 v3) fun v14 =>
gb v12 false (evLd false 1 v14 h) fun v15 =>
gb v12 false (y5 .eql v15 (AV.int .i64 4)) fun v16 =>
gb v12 false (some v16) fun v17 =>
gb v17 true (evFa 2 v3) fun v18 =>
gb v17 true (evLd false 1 v18 h) fun v19 =>
gb v17 true (some v5) fun v20 =>
gb v17 true (y5 .eql v19 v20) fun v21 =>
gb v12 false (yb v17 v21 (AV.bool false)) fun v22 =>
ob (yb v12 (AV.bool true) v22) fun v23 =>
cnd v23
 ((yc h v0))
 ((q3_3 v0 v3 v5 h))
def y2wi (s : St) : OX := q3_4 (s 0) (s 3) (s 5) s.h
theorem y2ga : T0 y2b1 [.t 4] y2wi := sq y2k7 fun _ => by kernel_rfl
def q3_5 (v0 v3 : AV) (h : Heap) : OX :=
ob (evLd true 9 v3 h) fun v9 =>
oh (y7 E (y8 E) 0 none true 9 [v9] h) fun v10 h3 =>
(q3_4 v0 v3 v10 h3)
def y2y6 (s : St) : OX := q3_5 (s 0) (s 3) s.h
theorem y2fl : T0 y2c4 [.t 4] y2y6 := sq y2ga fun _ => by kernel_rfl
def q3_6 (v0 v3 : AV) (h : Heap) : OX :=
oh (y7 E (y8 E) 0 (some 1) false 153 [v0] h) fun v8 h4 =>
(q3_5 v8 v3 h4)
def y2yf (s : St) : OX := q3_6 (s 0) (s 3) s.h
theorem y2f1 : T0 y2cw [.t 4] y2yf := sq y2fl fun _ => by kernel_rfl
def q3_7 (v0 v1 : AV) (h : Heap) : OX :=
oh (newC 0 (some 0) (cellsOf v1) h) fun v3 h5 =>
(q3_6 v0 v3 h5)
def y2yg (s : St) : OX := q3_7 (s 0) (s 1) s.h
theorem y2k9 : T0 y2ay [.t 4] y2yg := sq y2f1 fun _ => by kernel_rfl
@[simp] theorem y2ur : E.pure 152 = true := rfl
theorem x_q3 (v0 v1 : AV) : (y8 E).p 152 [v0, v1] = q3_7 v0 v1 [⟨0, .dead⟩, ⟨0, .dead⟩] :=
  (yz (cf := c_q3) (by kernel_rfl) rfl).trans ((y2k9 _).trans (by kernel_rfl))
def yln (v2 v4 : AV) (h : Heap) : OX :=
ob (evLd true 9 v2 h) fun v38 =>
oh (evSt 9 v4 v38 h) fun _ h1 =>
(ob (evLd true 9 v4 h1) fun r0 =>
  yc h1 r0)
def y2nu (s : St) : OX := yln (s 2) (s 4) s.h
theorem y27i : T0 y1u4 [.cell 4 true 9] y2nu := fun _ => by kernel_rfl
def ylv (v1 v2 v4 v5 : AV) (h : Heap) : OX :=
ob (y5 .gtr v5 (AV.int .i64 2)) fun v33 =>
cnd v33
 (ob (yi 1 v1 (AV.int .i64 2)) fun v35 =>
ob (evLd false 1 v35 h) fun v36 =>
ob (evFa 4 v2) fun v37 =>
oh (evSt 1 v37 v36 h) fun _ h2 =>
(yln v2 v4 h2))
 ((yln v2 v4 h))
def y2s5 (s : St) : OX := ylv (s 1) (s 2) (s 4) (s 5) s.h
theorem y22i : T0 y1ia [.cell 4 true 9] y2s5 := sq y27i fun _ => by kernel_rfl
def ylm (v1 v2 v4 v5 : AV) (h : Heap) : OX :=
ob (y5 .gtr v5 (AV.int .i64 1)) fun v27 =>
cnd v27
 (ob (yi 1 v1 (AV.int .i64 1)) fun v29 =>
ob (evLd false 1 v29 h) fun v30 =>
ob (evFa 3 v2) fun v31 =>
oh (evSt 1 v31 v30 h) fun _ h3 =>
(ylv v1 v2 v4 v5 h3))
 ((ylv v1 v2 v4 v5 h))
def y2ro (s : St) : OX := ylm (s 1) (s 2) (s 4) (s 5) s.h
theorem y23p : T0 y1ex [.cell 4 true 9] y2ro := sq y22i fun _ => by kernel_rfl
def ypm (v1 v2 v4 v5 : AV) (h : Heap) : OX :=
ob (y5 .gtr v5 (AV.int .i64 0)) fun v21 =>
cnd v21
 (ob (yi 1 v1 (AV.int .i64 0)) fun v23 =>
ob (evLd false 1 v23 h) fun v24 =>
ob (evFa 2 v2) fun v25 =>
oh (evSt 1 v25 v24 h) fun _ h4 =>
(ylm v1 v2 v4 v5 h4))
 ((ylm v1 v2 v4 v5 h))
def y2t6 (s : St) : OX := ypm (s 1) (s 2) (s 4) (s 5) s.h
theorem y29x : T0 y1pe [.cell 4 true 9] y2t6 := sq y23p fun _ => by kernel_rfl
def yp6 (v1 v2 v4 v5 : AV) (h : Heap) : OX :=
ob (evLd true 9 v2 h) fun v14 =>
oh (y7 E (y8 E) 0 none true 17 [v14] h) fun v15 h5 =>
cnd v15
 (oh (y7 E (y8 E) 0 (some 2) false 39 [v1] h5) fun v17 h6 =>
ob (evFa 8 v2) fun v18 =>
oh (evSt 1 v18 v17 h6) fun _ h7 =>
ob (evLd true 9 v2 h7) fun v19 =>
oh (evSt 9 v4 v19 h7) fun _ h8 =>
(ob (evLd true 9 v4 h8) fun r0 =>
  yc h8 r0))
 ((ypm v1 v2 v4 v5 h5))
def y2u6 (s : St) : OX := yp6 (s 1) (s 2) (s 4) (s 5) s.h
theorem y22w : T0 y1ij [.cell 4 true 9] y2u6 := sq y29x fun _ => by kernel_rfl
def yq4 (v1 v2 v4 v5 : AV) (h : Heap) : OX :=
ob (yq 1 v1 h) fun v11 =>
ob (y5 .neq v5 v11) fun v12 =>
cnd v12
 (ob (evLd true 9 v2 h) fun v13 =>
oh (evSt 9 v4 v13 h) fun _ h9 =>
(ob (evLd true 9 v4 h9) fun r0 =>
  yc h9 r0))
 ((yp6 v1 v2 v4 v5 h))
def y2ul (s : St) : OX := yq4 (s 1) (s 2) (s 4) (s 5) s.h
theorem y2a6 : T0 y203 [.cell 4 true 9] y2ul := sq y22w fun _ => by kernel_rfl
def yq7 (v1 v2 v4 : AV) (h : Heap) : OX :=
ob (evLd true 9 v2 h) fun v6 =>
oh (y7 E (y8 E) 0 none true 10 [v6] h) fun v7 h10 =>
ob (yq 1 v7 h10) fun v8 =>
(yq4 v1 v2 v4 v8 h10)
def y2o5 (s : St) : OX := yq7 (s 1) (s 2) (s 4) s.h
theorem y29f : T0 y1ld [.cell 4 true 9] y2o5 := sq y2a6 fun _ => by kernel_rfl
def ypn (v0 v1 : AV) (h : Heap) : OX :=
oh (newC 0 (some 0) (cellsOf v0) h) fun v2 h11 =>
oh (newC 0 (some 1) [(.int .i64 0), (.int .i64 0), (.int .i64 0), (.int .i64 0), (.int .i64 0), (.int .i64 0), (.int .i64 0), (.str []), .nils] h11) fun v4 h12 =>
(yq7 v1 v2 v4 h12)
def y2q1 (s : St) : OX := ypn (s 0) (s 1) s.h
theorem y215 : T0 y1no [.cell 4 true 9] y2q1 := sq y29f fun _ => by kernel_rfl
@[simp] theorem y2yc : E.pure 27 = true := rfl
theorem y2jn (v0 v1 : AV) : (y8 E).p 27 [v0, v1] = ypn v0 v1 [⟨0, .dead⟩, ⟨0, .dead⟩, ⟨0, .dead⟩] :=
  (yz (cf := y2rn) (by kernel_rfl) rfl).trans ((y215 _).trans (by kernel_rfl))
def y2kt (v0 : AV) (h : Heap) : OX :=
oh (newC 0 (some 0) (cellsOf v0) h) fun v1 h1 =>
ob (evFa 0 v1) fun v3 =>
ob (evLd false 1 v3 h1) fun v4 =>
ob (y5 .geq v4 (AV.int .i64 23)) fun v5 =>
gb v5 true (evFa 0 v1) fun v7 =>
gb v5 true (evLd false 1 v7 h1) fun v8 =>
gb v5 true (y5 .leq v8 (AV.int .i64 26)) fun v9 =>
ob (yb v5 v9 (AV.bool false)) fun v10 =>
(yc h1 v10)
def y2p5 (s : St) : OX := y2kt (s 0) s.h
theorem y26v : T0 y1fd [.t 2] y2p5 := fun _ => by kernel_rfl
@[simp] theorem yy8 : E.pure 17 = true := rfl
theorem y2xc (v0 : AV) : (y8 E).p 17 [v0] = y2kt v0 [⟨0, .dead⟩] :=
  (yz (cf := y2qu) (by kernel_rfl) rfl).trans ((y26v _).trans (by kernel_rfl))
def yn5 (h : Heap) : OX :=
(yc h (AV.int .i64 (-1)))
def y6t (s : St) : OX := yn5 s.h
theorem y1wu : T0 y12h [.t 4] y6t := fun _ => by kernel_rfl
def yjo (v0 v1 v7 v8 : AV) (h : Heap) : OX :=
  W E 0 ykb ⟨[(0, v0), (1, v1), (7, v7), (8, v8)], h⟩ y6t (y1 0 y6t xN) (finP [.t 4])
def y8v (s : St) : OX := yjo (s 0) (s 1) (s 7) (s 8) s.h
theorem ynv : T1 ykb y6t (y1 0 y6t xN) [.t 4] y8v := fun s => ye.trans (by kernel_rfl)
def yn0 (v0 v1 v7 v8 : AV) (h : Heap) : OX :=
ob (y5 .add v8 (AV.int .i64 1)) fun v18 =>
(yjo v0 v1 v7 v18 h)
def y2is (s : St) : OX := yn0 (s 0) (s 1) (s 7) (s 8) s.h
theorem y1po : T1 y04 y8v (y1 0 y6t xN) [.t 4] y2is := fun _ => by kernel_rfl
def ym7 (v0 v1 v7 v8 : AV) (h : Heap) : OX :=
ob (yi 1 v0 v8) fun v14 =>
ob (evLd false 1 v14 h) fun v15 =>
ob (y5 .eql v1 v15) fun v16 =>
cnd v16
 ((yc h v8))
 ((yn0 v0 v1 v7 v8 h))
def y2ja (s : St) : OX := ym7 (s 0) (s 1) (s 7) (s 8) s.h
theorem y1qr : T1 y13a y8v (y1 0 y6t xN) [.t 4] y2ja := sq y1po fun _ => by kernel_rfl
def ymw (v0 v1 v7 v8 v9 : AV) (h : Heap) : OX :=
cnd v9
 ((ym7 v0 v1 v7 v8 h))
 ((yn5 h))
def y2ka (s : St) : OX := ymw (s 0) (s 1) (s 7) (s 8) (s 9) s.h
theorem y1hq : T1 yyq y8v (y1 0 y6t xN) [.t 4] y2ka := sq y1qr fun _ => by kernel_rfl
def yna (v0 v1 v7 v8 : AV) (h : Heap) : OX :=
ob (y5 .lss v8 v7) fun v9 =>
(ymw v0 v1 v7 v8 v9 h)
def y2mp (s : St) : OX := yna (s 0) (s 1) (s 7) (s 8) s.h
theorem y1to : T1 yyj y8v (y1 0 y6t xN) [.t 4] y2mp := sq y1hq fun _ => by kernel_rfl
theorem ym6 (v0 v1 v7 v8 : AV) (h : Heap) : yjo v0 v1 v7 v8 h = (yna v0 v1 v7 v8 h) :=
  y19.trans ((y12 _ _ _ (n' := y8v) (fun s => ynv s)).trans ((y1to _).trans (by kernel_rfl)))
theorem y1x3 : T1 y15e y6t xN [.t 4] y8v := fun s => yo.trans (ynv s)
def ymi (v0 v1 : AV) (h : Heap) : OX :=
ob (yq 1 v0 h) fun v7 =>
(yjo v0 v1 v7 (AV.int .i64 0) h)
def y1hi (s : St) : OX := ymi (s 0) (s 1) s.h
theorem y1vl : T1 y1a8 y6t xN [.t 4] y1hi := sq y1x3 fun _ => by kernel_rfl
theorem y1kl : T0 y19b [.t 4] y1hi := sq y1wu y1vl
def yg6 (v0 v1 : AV) (h : Heap) : OX :=
(ymi v0 v1 h)
def y266 (s : St) : OX := yg6 (s 0) (s 1) s.h
theorem y1cs : T0 ysw [.t 4] y266 := sq y1kl fun _ => by kernel_rfl
@[simp] theorem y2x5 : E.pure 45 = true := rfl
theorem y2s7 (v0 v1 : AV) : (y8 E).p 45 [v0, v1] = yg6 v0 v1 [] :=
  (yz (cf := y2cu) (by kernel_rfl) rfl).trans ((y1cs _).trans (by kernel_rfl))
def yhe (v1 v2 : AV) (h : Heap) : OX :=
ob (evLd true 9 v1 h) fun v138 =>
oh (y7 E (y8 E) 0 none true 51 [v138] h) fun v139 h1 =>
ob (y5r 0 v139) fun v140 =>
ob (y5r 1 v139) fun v141 =>
oh (evSt 4 v2 v140 h1) fun _ h2 =>
(ob (evLd true 4 v2 h2) fun r0 =>
  yc h2 (.tup [r0, v141]))
def yn (s : St) : OX := yhe (s 1) (s 2) s.h
theorem y25y : T0 y1p2 [.cell 2 true 4, .t 3] yn := fun _ => by kernel_rfl
def ygj (v1 v2 v134 : AV) (h : Heap) : OX :=
cnd v134
 (ob (y1i [(.int .i64 0), (.int .i64 0), (.int .i64 0), (.int .i64 0)] [(0, 1, (AV.int .i64 (-1))), (1, 1, (AV.int .i64 (-1))), (2, 1, (AV.int .i64 (-1))), (3, 1, (AV.int .i64 (-1)))]) fun v137 =>
oh (evSt 4 v2 v137 h) fun _ h3 =>
(ob (evLd true 4 v2 h3) fun r0 =>
  yc h3 (.tup [r0, (AV.bool true)])))
 ((yhe v1 v2 h))
def y2t1 (s : St) : OX := ygj (s 1) (s 2) (s 134) s.h
theorem y29l : T1 y1se yn (y1 0 yn xN) [.cell 2 true 4, .t 3] y2t1 := fun _ => by kernel_rfl
def yhk (v1 v2 v11 : AV) (h : Heap) : OX :=
ob (y5 .eql v11 (AV.int .i64 27)) fun v135 =>
cnd v135
 ((ygj v1 v2 v135 h))
 (ob (y5 .eql v11 (AV.int .i64 33)) fun v136 =>
(ygj v1 v2 v136 h))
def y2qr (s : St) : OX := yhk (s 1) (s 2) (s 11) s.h
theorem y21u : T1 y1ni yn (y1 0 yn xN) [.cell 2 true 4, .t 3] y2qr := sq y29l fun _ => by kernel_rfl
def yhd (v1 v2 v11 v123 : AV) (h : Heap) : OX :=
cnd v123
 (ob (y1i [(.int .i64 0), (.int .i64 0), (.int .i64 0), (.int .i64 0)] [(0, 1, (AV.int .i64 (-1))), (1, 1, (AV.int .i64 1)), (2, 1, (AV.int .i64 1)), (3, 1, (AV.int .i64 (-1)))]) fun v125 =>
ob (evFa 5 v1) fun v126 =>
ob (evLd false 1 v126 h) fun v127 =>
ob (y5 .geq v127 (AV.int .i64 0)) fun v128 =>
ofp (fgd v128 true (some ([], []))) fun f5 =>
gb v128 true (evFa 5 v1) fun v130 =>
ofp (fgd v128 true (some (ids1 v130, []))) fun f6 =>
gb v128 true (evLd false 1 v130 h) fun v131 =>
ofp (fgd v128 true (some ([], []))) fun f7 =>
gb v128 true (y5 .leq v131 (AV.int .i64 5)) fun v132 =>
ob (yb v128 v132 (AV.bool false)) fun v133 =>
oh (evSt 4 v2 v125 h) fun _ h4 =>
okK (yd [([], []), ([], []), (ids1 v126, []), ([], []), ([], []), f5, f6, f7, ([], []), ([], ids1 v2), ([], [])] [(6, 9)]) <|
(ob (evLd true 4 v2 h4) fun r0 =>
  yc h4 (.tup [r0, v133])))
 ((yhk v1 v2 v11 h))
def y2p9 (s : St) : OX := yhd (s 1) (s 2) (s 11) (s 123) s.h
theorem y211 : T1 y1fa yn (y1 0 yn xN) [.cell 2 true 4, .t 3] y2p9 := fun s => (y1b rfl (y21u s)).trans (by kernel_rfl)
def yhj (v1 v2 v11 : AV) (h : Heap) : OX :=
ob (y5 .eql v11 (AV.int .i64 28)) fun v124 =>
(yhd v1 v2 v11 v124 h)
def y2sc (s : St) : OX := yhj (s 1) (s 2) (s 11) s.h
theorem y25k : T1 y1jo yn (y1 0 yn xN) [.cell 2 true 4, .t 3] y2sc := sq y211 fun _ => by kernel_rfl
def yhh (v1 v2 v11 v117 : AV) (h : Heap) : OX :=
cnd v117
 (ob (y1i [(.int .i64 0), (.int .i64 0), (.int .i64 0), (.int .i64 0)] [(0, 1, (AV.int .i64 3)), (1, 1, (AV.int .i64 1)), (2, 1, (AV.int .i64 (-1))), (3, 1, (AV.int .i64 (-1)))]) fun v119 =>
ob (evFa 7 v1) fun v120 =>
ob (evLd false 1 v120 h) fun v121 =>
oh (y7 E (y8 E) 0 none true 37 [v121] h) fun v122 h5 =>
oh (evSt 4 v2 v119 h5) fun _ h6 =>
(ob (evLd true 4 v2 h6) fun r0 =>
  yc h6 (.tup [r0, v122])))
 ((yhj v1 v2 v11 h))
def y2qt (s : St) : OX := yhh (s 1) (s 2) (s 11) (s 117) s.h
theorem y295 : T1 y1qf yn (y1 0 yn xN) [.cell 2 true 4, .t 3] y2qt := fun s => (y1b rfl (y25k s)).trans (by kernel_rfl)
def yhf (v1 v2 v11 : AV) (h : Heap) : OX :=
ob (y5 .eql v11 (AV.int .i64 21)) fun v118 =>
(yhh v1 v2 v11 v118 h)
def y2oc (s : St) : OX := yhf (s 1) (s 2) (s 11) s.h
theorem y23d : T1 y1tf yn (y1 0 yn xN) [.cell 2 true 4, .t 3] y2oc := sq y295 fun _ => by kernel_rfl
def yhi (v1 v2 v11 v114 : AV) (h : Heap) : OX :=
cnd v114
 (ob (y1i [(.int .i64 0), (.int .i64 0), (.int .i64 0), (.int .i64 0)] [(0, 1, (AV.int .i64 (-1))), (1, 1, (AV.int .i64 0)), (2, 1, (AV.int .i64 (-1))), (3, 1, (AV.int .i64 (-1)))]) fun v116 =>
oh (evSt 4 v2 v116 h) fun _ h7 =>
(ob (evLd true 4 v2 h7) fun r0 =>
  yc h7 (.tup [r0, (AV.bool true)])))
 ((yhf v1 v2 v11 h))
def y2pd (s : St) : OX := yhi (s 1) (s 2) (s 11) (s 114) s.h
theorem y21z : T1 y1fj yn (y1 0 yn xN) [.cell 2 true 4, .t 3] y2pd := fun s => (y1b rfl (y23d s)).trans (by kernel_rfl)
def yhg (v1 v2 v11 : AV) (h : Heap) : OX :=
ob (y5 .eql v11 (AV.int .i64 19)) fun v115 =>
(yhi v1 v2 v11 v115 h)
def y2pi (s : St) : OX := yhg (s 1) (s 2) (s 11) s.h
theorem y210 : T1 y1tn yn (y1 0 yn xN) [.cell 2 true 4, .t 3] y2pi := sq y21z fun _ => by kernel_rfl
def yac (v1 v2 v11 v108 : AV) (h : Heap) : OX :=
cnd v108
 (ob (y1i [(.int .i64 0), (.int .i64 0), (.int .i64 0), (.int .i64 0)] [(0, 1, (AV.int .i64 (-1))), (1, 1, (AV.int .i64 3)), (2, 1, (AV.int .i64 0)), (3, 1, (AV.int .i64 (-1)))]) fun v110 =>
ob (evFa 5 v1) fun v111 =>
ob (evLd false 1 v111 h) fun v112 =>
ob (y5 .geq v112 (AV.int .i64 0)) fun v113 =>
oh (evSt 4 v2 v110 h) fun _ h8 =>
okK (yd [([], []), ([], []), (ids1 v111, []), ([], []), ([], ids1 v2), ([], [])] [(2, 4)]) <|
(ob (evLd true 4 v2 h8) fun r0 =>
  yc h8 (.tup [r0, v113])))
 ((yhg v1 v2 v11 h))
def y2jl (s : St) : OX := yac (s 1) (s 2) (s 11) (s 108) s.h
theorem y1zj : T1 y118 yn (y1 0 yn xN) [.cell 2 true 4, .t 3] y2jl := fun s => (y1b rfl (y210 s)).trans (by kernel_rfl)
def yae (v1 v2 v11 : AV) (h : Heap) : OX :=
ob (y5 .eql v11 (AV.int .i64 17)) fun v109 =>
(yac v1 v2 v11 v109 h)
def y2el (s : St) : OX := yae (s 1) (s 2) (s 11) s.h
theorem y201 : T1 y19w yn (y1 0 yn xN) [.cell 2 true 4, .t 3] y2el := sq y1zj fun _ => by kernel_rfl
def y9w (v1 v2 v11 v102 : AV) (h : Heap) : OX :=
cnd v102
 (ob (y1i [(.int .i64 0), (.int .i64 0), (.int .i64 0), (.int .i64 0)] [(0, 1, (AV.int .i64 0)), (1, 1, (AV.int .i64 3)), (2, 1, (AV.int .i64 (-1))), (3, 1, (AV.int .i64 (-1)))]) fun v104 =>
ob (evFa 5 v1) fun v105 =>
ob (evLd false 1 v105 h) fun v106 =>
ob (y5 .geq v106 (AV.int .i64 0)) fun v107 =>
oh (evSt 4 v2 v104 h) fun _ h9 =>
okK (yd [([], []), ([], []), (ids1 v105, []), ([], []), ([], ids1 v2), ([], [])] [(2, 4)]) <|
(ob (evLd true 4 v2 h9) fun r0 =>
  yc h9 (.tup [r0, v107])))
 ((yae v1 v2 v11 h))
def y2g2 (s : St) : OX := y9w (s 1) (s 2) (s 11) (s 102) s.h
theorem y1r3 : T1 y125 yn (y1 0 yn xN) [.cell 2 true 4, .t 3] y2g2 := fun s => (y1b rfl (y201 s)).trans (by kernel_rfl)
def yaa (v1 v2 v11 : AV) (h : Heap) : OX :=
ob (y5 .eql v11 (AV.int .i64 16)) fun v103 =>
(y9w v1 v2 v11 v103 h)
def y2ho (s : St) : OX := yaa (s 1) (s 2) (s 11) s.h
theorem y1uj : T1 y19e yn (y1 0 yn xN) [.cell 2 true 4, .t 3] y2ho := sq y1r3 fun _ => by kernel_rfl
def yah (v1 v2 v11 v99 : AV) (h : Heap) : OX :=
cnd v99
 (ob (y1i [(.int .i64 0), (.int .i64 0), (.int .i64 0), (.int .i64 0)] [(0, 1, (AV.int .i64 1)), (1, 1, (AV.int .i64 3)), (2, 1, (AV.int .i64 (-1))), (3, 1, (AV.int .i64 (-1)))]) fun v101 =>
oh (evSt 4 v2 v101 h) fun _ h10 =>
(ob (evLd true 4 v2 h10) fun r0 =>
  yc h10 (.tup [r0, (AV.bool true)])))
 ((yaa v1 v2 v11 h))
def y2im (s : St) : OX := yah (s 1) (s 2) (s 11) (s 99) s.h
theorem y1j6 : T1 y12n yn (y1 0 yn xN) [.cell 2 true 4, .t 3] y2im := fun s => (y1b rfl (y1uj s)).trans (by kernel_rfl)
def ya0 (v1 v2 v11 : AV) (h : Heap) : OX :=
ob (y5 .eql v11 (AV.int .i64 15)) fun v100 =>
(yah v1 v2 v11 v100 h)
def y2ie (s : St) : OX := ya0 (s 1) (s 2) (s 11) s.h
theorem y1ug : T1 yzk yn (y1 0 yn xN) [.cell 2 true 4, .t 3] y2ie := sq y1j6 fun _ => by kernel_rfl
def y9x (v1 v2 v11 v96 : AV) (h : Heap) : OX :=
cnd v96
 (ob (y1i [(.int .i64 0), (.int .i64 0), (.int .i64 0), (.int .i64 0)] [(0, 1, (AV.int .i64 (-1))), (1, 1, (AV.int .i64 3)), (2, 1, (AV.int .i64 1)), (3, 1, (AV.int .i64 0))]) fun v98 =>
oh (evSt 4 v2 v98 h) fun _ h11 =>
(ob (evLd true 4 v2 h11) fun r0 =>
  yc h11 (.tup [r0, (AV.bool true)])))
 ((ya0 v1 v2 v11 h))
def y2g9 (s : St) : OX := y9x (s 1) (s 2) (s 11) (s 96) s.h
theorem y1pw : T1 yz3 yn (y1 0 yn xN) [.cell 2 true 4, .t 3] y2g9 := fun s => (y1b rfl (y1ug s)).trans (by kernel_rfl)
def y9p (v1 v2 v11 : AV) (h : Heap) : OX :=
ob (y5 .eql v11 (AV.int .i64 14)) fun v97 =>
(y9x v1 v2 v11 v97 h)
def y2dv (s : St) : OX := y9p (s 1) (s 2) (s 11) s.h
theorem y1q1 : T1 yyt yn (y1 0 yn xN) [.cell 2 true 4, .t 3] y2dv := sq y1pw fun _ => by kernel_rfl
def yaf (v1 v2 v11 v93 : AV) (h : Heap) : OX :=
cnd v93
 (ob (y1i [(.int .i64 0), (.int .i64 0), (.int .i64 0), (.int .i64 0)] [(0, 1, (AV.int .i64 0)), (1, 1, (AV.int .i64 3)), (2, 1, (AV.int .i64 1)), (3, 1, (AV.int .i64 (-1)))]) fun v95 =>
oh (evSt 4 v2 v95 h) fun _ h12 =>
(ob (evLd true 4 v2 h12) fun r0 =>
  yc h12 (.tup [r0, (AV.bool true)])))
 ((y9p v1 v2 v11 h))
def y2lf (s : St) : OX := yaf (s 1) (s 2) (s 11) (s 93) s.h
theorem y1zy : T1 y177 yn (y1 0 yn xN) [.cell 2 true 4, .t 3] y2lf := fun s => (y1b rfl (y1q1 s)).trans (by kernel_rfl)
def ya2 (v1 v2 v11 : AV) (h : Heap) : OX :=
ob (y5 .eql v11 (AV.int .i64 13)) fun v94 =>
(yaf v1 v2 v11 v94 h)
def y2n1 (s : St) : OX := ya2 (s 1) (s 2) (s 11) s.h
theorem y1j9 : T1 yyv yn (y1 0 yn xN) [.cell 2 true 4, .t 3] y2n1 := sq y1zy fun _ => by kernel_rfl
def y9v (v1 v2 v11 v90 : AV) (h : Heap) : OX :=
cnd v90
 (ob (y1i [(.int .i64 0), (.int .i64 0), (.int .i64 0), (.int .i64 0)] [(0, 1, (AV.int .i64 (-1))), (1, 1, (AV.int .i64 3)), (2, 1, (AV.int .i64 3)), (3, 1, (AV.int .i64 (-1)))]) fun v92 =>
oh (evSt 4 v2 v92 h) fun _ h13 =>
(ob (evLd true 4 v2 h13) fun r0 =>
  yc h13 (.tup [r0, (AV.bool true)])))
 ((ya2 v1 v2 v11 h))
def y2mq (s : St) : OX := y9v (s 1) (s 2) (s 11) (s 90) s.h
theorem y1k4 : T1 y12t yn (y1 0 yn xN) [.cell 2 true 4, .t 3] y2mq := fun s => (y1b rfl (y1j9 s)).trans (by kernel_rfl)
def y9n (v1 v2 v11 : AV) (h : Heap) : OX :=
ob (y5 .eql v11 (AV.int .i64 11)) fun v91 =>
(y9v v1 v2 v11 v91 h)
def y2ea (s : St) : OX := y9n (s 1) (s 2) (s 11) s.h
theorem y1ja : T1 y1ae yn (y1 0 yn xN) [.cell 2 true 4, .t 3] y2ea := sq y1k4 fun _ => by kernel_rfl
def y9i (v1 v2 v11 v87 : AV) (h : Heap) : OX :=
cnd v87
 (ob (y1i [(.int .i64 0), (.int .i64 0), (.int .i64 0), (.int .i64 0)] [(0, 1, (AV.int .i64 (-1))), (1, 1, (AV.int .i64 1)), (2, 1, (AV.int .i64 (-1))), (3, 1, (AV.int .i64 (-1)))]) fun v89 =>
oh (evSt 4 v2 v89 h) fun _ h14 =>
(ob (evLd true 4 v2 h14) fun r0 =>
  yc h14 (.tup [r0, (AV.bool true)])))
 ((y9n v1 v2 v11 h))
def y2fg (s : St) : OX := y9i (s 1) (s 2) (s 11) (s 87) s.h
theorem y1jf : T1 y16q yn (y1 0 yn xN) [.cell 2 true 4, .t 3] y2fg := fun s => (y1b rfl (y1ja s)).trans (by kernel_rfl)
def ya9 (v1 v2 v11 : AV) (h : Heap) : OX :=
ob (y5 .eql v11 (AV.int .i64 10)) fun v88 =>
(y9i v1 v2 v11 v88 h)
def y2i3 (s : St) : OX := ya9 (s 1) (s 2) (s 11) s.h
theorem y1i2 : T1 y0m yn (y1 0 yn xN) [.cell 2 true 4, .t 3] y2i3 := sq y1jf fun _ => by kernel_rfl
def y9s (v1 v2 v11 v84 : AV) (h : Heap) : OX :=
cnd v84
 (ob (y1i [(.int .i64 0), (.int .i64 0), (.int .i64 0), (.int .i64 0)] [(0, 1, (AV.int .i64 (-1))), (1, 1, (AV.int .i64 3)), (2, 1, (AV.int .i64 1)), (3, 1, (AV.int .i64 (-1)))]) fun v86 =>
oh (evSt 4 v2 v86 h) fun _ h15 =>
(ob (evLd true 4 v2 h15) fun r0 =>
  yc h15 (.tup [r0, (AV.bool true)])))
 ((ya9 v1 v2 v11 h))
def y2lp (s : St) : OX := y9s (s 1) (s 2) (s 11) (s 84) s.h
theorem y1us : T1 y1ap yn (y1 0 yn xN) [.cell 2 true 4, .t 3] y2lp := fun s => (y1b rfl (y1i2 s)).trans (by kernel_rfl)
def ya7 (v1 v2 v11 : AV) (h : Heap) : OX :=
ob (y5 .eql v11 (AV.int .i64 9)) fun v85 =>
(y9s v1 v2 v11 v85 h)
def y2fw (s : St) : OX := ya7 (s 1) (s 2) (s 11) s.h
theorem y1o6 : T1 y19y yn (y1 0 yn xN) [.cell 2 true 4, .t 3] y2fw := sq y1us fun _ => by kernel_rfl
def ya8 (v1 v2 v11 v78 : AV) (h : Heap) : OX :=
cnd v78
 (ob (y1i [(.int .i64 0), (.int .i64 0), (.int .i64 0), (.int .i64 0)] [(0, 1, (AV.int .i64 1)), (1, 1, (AV.int .i64 3)), (2, 1, (AV.int .i64 (-1))), (3, 1, (AV.int .i64 (-1)))]) fun v80 =>
ob (evFa 7 v1) fun v81 =>
ob (evLd false 1 v81 h) fun v82 =>
oh (y7 E (y8 E) 0 none true 37 [v82] h) fun v83 h16 =>
oh (evSt 4 v2 v80 h16) fun _ h17 =>
(ob (evLd true 4 v2 h17) fun r0 =>
  yc h17 (.tup [r0, v83])))
 ((ya7 v1 v2 v11 h))
def y2k4 (s : St) : OX := ya8 (s 1) (s 2) (s 11) (s 78) s.h
theorem y1za : T1 y12v yn (y1 0 yn xN) [.cell 2 true 4, .t 3] y2k4 := fun s => (y1b rfl (y1o6 s)).trans (by kernel_rfl)
def y9f (v1 v2 v11 : AV) (h : Heap) : OX :=
ob (y5 .eql v11 (AV.int .i64 22)) fun v79 =>
(ya8 v1 v2 v11 v79 h)
def y2hz (s : St) : OX := y9f (s 1) (s 2) (s 11) s.h
theorem y1pn : T1 y13e yn (y1 0 yn xN) [.cell 2 true 4, .t 3] y2hz := sq y1za fun _ => by kernel_rfl
def y9d (v1 v2 v11 v72 : AV) (h : Heap) : OX :=
cnd v72
 (ob (y1i [(.int .i64 0), (.int .i64 0), (.int .i64 0), (.int .i64 0)] [(0, 1, (AV.int .i64 (-1))), (1, 1, (AV.int .i64 3)), (2, 1, (AV.int .i64 (-1))), (3, 1, (AV.int .i64 (-1)))]) fun v74 =>
ob (evFa 7 v1) fun v75 =>
ob (evLd false 1 v75 h) fun v76 =>
oh (y7 E (y8 E) 0 none true 37 [v76] h) fun v77 h18 =>
oh (evSt 4 v2 v74 h18) fun _ h19 =>
(ob (evLd true 4 v2 h19) fun r0 =>
  yc h19 (.tup [r0, v77])))
 ((y9f v1 v2 v11 h))
def y2fs (s : St) : OX := y9d (s 1) (s 2) (s 11) (s 72) s.h
theorem y1u9 : T1 y11t yn (y1 0 yn xN) [.cell 2 true 4, .t 3] y2fs := fun s => (y1b rfl (y1pn s)).trans (by kernel_rfl)
def ya3 (v1 v2 v11 : AV) (h : Heap) : OX :=
ob (y5 .eql v11 (AV.int .i64 12)) fun v73 =>
(y9d v1 v2 v11 v73 h)
def y2k1 (s : St) : OX := ya3 (s 1) (s 2) (s 11) s.h
theorem y1vj : T1 y15y yn (y1 0 yn xN) [.cell 2 true 4, .t 3] y2k1 := sq y1u9 fun _ => by kernel_rfl
def y8e (v1 v2 v11 v68 : AV) (h : Heap) : OX :=
cnd v68
 (ob (y1i [(.int .i64 0), (.int .i64 0), (.int .i64 0), (.int .i64 0)] [(0, 1, (AV.int .i64 (-1))), (1, 1, (AV.int .i64 3)), (2, 1, (AV.int .i64 (-1))), (3, 1, (AV.int .i64 (-1)))]) fun v71 =>
oh (evSt 4 v2 v71 h) fun _ h20 =>
(ob (evLd true 4 v2 h20) fun r0 =>
  yc h20 (.tup [r0, (AV.bool true)])))
 ((ya3 v1 v2 v11 h))
def y2n0 (s : St) : OX := y8e (s 1) (s 2) (s 11) (s 68) s.h
theorem y1pb : T1 y16i yn (y1 0 yn xN) [.cell 2 true 4, .t 3] y2n0 := fun s => (y1b rfl (y1vj s)).trans (by kernel_rfl)
def y9k (v1 v2 v11 : AV) (h : Heap) : OX :=
ob (y5 .eql v11 (AV.int .i64 8)) fun v69 =>
cnd v69
 ((y8e v1 v2 v11 v69 h))
 (ob (y5 .eql v11 (AV.int .i64 31)) fun v70 =>
(y8e v1 v2 v11 v70 h))
def y2lb (s : St) : OX := y9k (s 1) (s 2) (s 11) s.h
theorem y1x4 : T1 y135 yn (y1 0 yn xN) [.cell 2 true 4, .t 3] y2lb := sq y1pb fun _ => by kernel_rfl
def y9h (v1 v2 v11 v65 : AV) (h : Heap) : OX :=
cnd v65
 (ob (y1i [(.int .i64 0), (.int .i64 0), (.int .i64 0), (.int .i64 0)] [(0, 1, (AV.int .i64 (-1))), (1, 1, (AV.int .i64 0)), (2, 1, (AV.int .i64 (-1))), (3, 1, (AV.int .i64 (-1)))]) fun v67 =>
oh (evSt 4 v2 v67 h) fun _ h21 =>
(ob (evLd true 4 v2 h21) fun r0 =>
  yc h21 (.tup [r0, (AV.bool true)])))
 ((y9k v1 v2 v11 h))
def y2lx (s : St) : OX := y9h (s 1) (s 2) (s 11) (s 65) s.h
theorem y1lo : T1 y112 yn (y1 0 yn xN) [.cell 2 true 4, .t 3] y2lx := fun s => (y1b rfl (y1x4 s)).trans (by kernel_rfl)
def y9r (v1 v2 v11 : AV) (h : Heap) : OX :=
ob (y5 .eql v11 (AV.int .i64 7)) fun v66 =>
(y9h v1 v2 v11 v66 h)
def y2j2 (s : St) : OX := y9r (s 1) (s 2) (s 11) s.h
theorem y1qm : T1 y12z yn (y1 0 yn xN) [.cell 2 true 4, .t 3] y2j2 := sq y1lo fun _ => by kernel_rfl
def y9u (v1 v2 v11 v47 : AV) (h : Heap) : OX :=
cnd v47
 (ob (evFa 5 v1) fun v50 =>
ob (evLd false 1 v50 h) fun v51 =>
oh (y7 E (y8 E) 0 none true 50 [v51] h) fun v52 h22 =>
ob (y5r 0 v52) fun v53 =>
ob (y5r 1 v52) fun v54 =>
ob (y5r 2 v52) fun v55 =>
ob (y1i [(.int .i64 0), (.int .i64 0), (.int .i64 0), (.int .i64 0)] [(0, 1, v55), (1, 1, v53), (2, 1, (AV.int .i64 (-1))), (3, 1, (AV.int .i64 (-1)))]) fun v58 =>
ob (y5 .neq v53 (AV.int .i64 0)) fun v60 =>
gb v60 true (some v54) fun v62 =>
gb v60 true (y5 .eql v62 (AV.int .i64 0)) fun v63 =>
ob (yb v60 v63 (AV.bool false)) fun v64 =>
oh (evSt 4 v2 v58 h22) fun _ h23 =>
(ob (evLd true 4 v2 h23) fun r0 =>
  yc h23 (.tup [r0, v64])))
 ((y9r v1 v2 v11 h))
def y2h1 (s : St) : OX := y9u (s 1) (s 2) (s 11) (s 47) s.h
theorem y1uz : T1 y11m yn (y1 0 yn xN) [.cell 2 true 4, .t 3] y2h1 := fun s => (y1b rfl (y1qm s)).trans (by kernel_rfl)
def y9q (v1 v2 v11 : AV) (h : Heap) : OX :=
ob (y5 .eql v11 (AV.int .i64 6)) fun v48 =>
(y9u v1 v2 v11 v48 h)
def y2ms (s : St) : OX := y9q (s 1) (s 2) (s 11) s.h
theorem y1h2 : T1 y12x yn (y1 0 yn xN) [.cell 2 true 4, .t 3] y2ms := sq y1uz fun _ => by kernel_rfl
def yab (v1 v2 v11 v25 : AV) (h : Heap) : OX :=
cnd v25
 (ob (evFa 5 v1) fun v28 =>
ob (evLd false 1 v28 h) fun v29 =>
oh (y7 E (y8 E) 0 none true 50 [v29] h) fun v30 h24 =>
ob (y5r 0 v30) fun v31 =>
ob (y5r 1 v30) fun v32 =>
ob (y5r 2 v30) fun v33 =>
ob (y1i [(.int .i64 0), (.int .i64 0), (.int .i64 0), (.int .i64 0)] [(0, 1, v33), (1, 1, v31), (2, 1, v32), (3, 1, (AV.int .i64 (-1)))]) fun v37 =>
ob (evFa 5 v1) fun v38 =>
ob (evLd false 1 v38 h24) fun v39 =>
ob (evFa 5 v1) fun v40 =>
ob (evLd false 1 v40 h24) fun v41 =>
ob (y5 .eql v39 v41) fun v42 =>
gb v42 true (some v32) fun v44 =>
gb v42 true (y5 .neq v44 (AV.int .i64 0)) fun v45 =>
ob (yb v42 v45 (AV.bool false)) fun v46 =>
oh (evSt 4 v2 v37 h24) fun _ h25 =>
(ob (evLd true 4 v2 h25) fun r0 =>
  yc h25 (.tup [r0, v46])))
 ((y9q v1 v2 v11 h))
def y2gl (s : St) : OX := yab (s 1) (s 2) (s 11) (s 25) s.h
theorem y1yu : T1 y17e yn (y1 0 yn xN) [.cell 2 true 4, .t 3] y2gl := fun s => (y1b rfl (y1h2 s)).trans (by kernel_rfl)
def y9y (v1 v2 v11 : AV) (h : Heap) : OX :=
ob (y5 .eql v11 (AV.int .i64 5)) fun v26 =>
(yab v1 v2 v11 v26 h)
def y2kn (s : St) : OX := y9y (s 1) (s 2) (s 11) s.h
theorem y1g7 : T1 y18o yn (y1 0 yn xN) [.cell 2 true 4, .t 3] y2kn := sq y1yu fun _ => by kernel_rfl
def ya4 (v1 v2 v11 v22 : AV) (h : Heap) : OX :=
cnd v22
 (ob (y1i [(.int .i64 0), (.int .i64 0), (.int .i64 0), (.int .i64 0)] [(0, 1, (AV.int .i64 0)), (1, 1, (AV.int .i64 0)), (2, 1, (AV.int .i64 (-1))), (3, 1, (AV.int .i64 (-1)))]) fun v24 =>
oh (evSt 4 v2 v24 h) fun _ h26 =>
(ob (evLd true 4 v2 h26) fun r0 =>
  yc h26 (.tup [r0, (AV.bool true)])))
 ((y9y v1 v2 v11 h))
def y2ht (s : St) : OX := ya4 (s 1) (s 2) (s 11) (s 22) s.h
theorem y1xp : T1 yz2 yn (y1 0 yn xN) [.cell 2 true 4, .t 3] y2ht := fun s => (y1b rfl (y1g7 s)).trans (by kernel_rfl)
def y9l (v1 v2 v11 : AV) (h : Heap) : OX :=
ob (y5 .eql v11 (AV.int .i64 4)) fun v23 =>
(ya4 v1 v2 v11 v23 h)
def y2ey (s : St) : OX := y9l (s 1) (s 2) (s 11) s.h
theorem y1ju : T1 y17x yn (y1 0 yn xN) [.cell 2 true 4, .t 3] y2ey := sq y1xp fun _ => by kernel_rfl
def y70 (v1 v2 v11 v16 : AV) (h : Heap) : OX :=
cnd v16
 (ob (y1i [(.int .i64 0), (.int .i64 0), (.int .i64 0), (.int .i64 0)] [(0, 1, (AV.int .i64 3)), (1, 1, (AV.int .i64 (-1))), (2, 1, (AV.int .i64 (-1))), (3, 1, (AV.int .i64 (-1)))]) fun v21 =>
oh (evSt 4 v2 v21 h) fun _ h27 =>
(ob (evLd true 4 v2 h27) fun r0 =>
  yc h27 (.tup [r0, (AV.bool true)])))
 ((y9l v1 v2 v11 h))
def y2jb (s : St) : OX := y70 (s 1) (s 2) (s 11) (s 16) s.h
theorem y1qd : T1 y13u yn (y1 0 yn xN) [.cell 2 true 4, .t 3] y2jb := fun s => (y1b rfl (y1ju s)).trans (by kernel_rfl)
def y9t (v1 v2 v11 : AV) (h : Heap) : OX :=
ob (y5 .eql v11 (AV.int .i64 2)) fun v17 =>
cnd v17
 ((y70 v1 v2 v11 v17 h))
 (ob (y5 .eql v11 (AV.int .i64 3)) fun v18 =>
cnd v18
 ((y70 v1 v2 v11 v18 h))
 (ob (y5 .eql v11 (AV.int .i64 20)) fun v19 =>
cnd v19
 ((y70 v1 v2 v11 v19 h))
 (ob (y5 .eql v11 (AV.int .i64 32)) fun v20 =>
(y70 v1 v2 v11 v20 h))))
def y2mv (s : St) : OX := y9t (s 1) (s 2) (s 11) s.h
theorem y1ma : T1 y1a9 yn (y1 0 yn xN) [.cell 2 true 4, .t 3] y2mv := sq y1qd fun _ => by kernel_rfl
def y87 (v1 v2 v11 v12 : AV) (h : Heap) : OX :=
cnd v12
 (ob (y1i [(.int .i64 0), (.int .i64 0), (.int .i64 0), (.int .i64 0)] [(0, 1, (AV.int .i64 0)), (1, 1, (AV.int .i64 (-1))), (2, 1, (AV.int .i64 (-1))), (3, 1, (AV.int .i64 (-1)))]) fun v15 =>
oh (evSt 4 v2 v15 h) fun _ h28 =>
(ob (evLd true 4 v2 h28) fun r0 =>
  yc h28 (.tup [r0, (AV.bool true)])))
 ((y9t v1 v2 v11 h))
def y2di (s : St) : OX := y87 (s 1) (s 2) (s 11) (s 12) s.h
theorem y1ve : T1 y16x yn (y1 0 yn xN) [.cell 2 true 4, .t 3] y2di := fun s => (y1b rfl (y1ma s)).trans (by kernel_rfl)
def y9g (v1 v2 v11 : AV) (h : Heap) : OX :=
ob (y5 .eql v11 (AV.int .i64 1)) fun v13 =>
cnd v13
 ((y87 v1 v2 v11 v13 h))
 (ob (y5 .eql v11 (AV.int .i64 18)) fun v14 =>
(y87 v1 v2 v11 v14 h))
def y1sd (s : St) : OX := y9g (s 1) (s 2) (s 11) s.h
theorem y1r1 : T1 y0x yn (y1 0 yn xN) [.cell 2 true 4, .t 3] y1sd := sq y1ve fun _ => by kernel_rfl
theorem y1oz : T1 y13b yn xN [.cell 2 true 4, .t 3] y1sd := fun s => yo.trans (y1r1 s)
def yad (v1 v2 : AV) (h : Heap) : OX :=
ob (evFa 0 v1) fun v10 =>
ob (evLd false 1 v10 h) fun v11 =>
(y9g v1 v2 v11 h)
def y1vb (s : St) : OX := yad (s 1) (s 2) s.h
theorem y1z4 : T1 y18n yn xN [.cell 2 true 4, .t 3] y1vb := sq y1oz fun _ => by kernel_rfl
theorem y1zs : T0 yyo [.cell 2 true 4, .t 3] y1vb := sq y25y y1z4
def y9e (v0 : AV) (h : Heap) : OX :=
oh (newC 0 (some 0) (cellsOf v0) h) fun v1 h29 =>
oh (newC 0 (some 1) [(.int .i64 0), (.int .i64 0), (.int .i64 0), (.int .i64 0)] h29) fun v2 h30 =>
(yad v1 v2 h30)
def y2lw (s : St) : OX := y9e (s 0) s.h
theorem y1rg : T0 y159 [.cell 2 true 4, .t 3] y2lw := sq y1zs fun _ => by kernel_rfl
@[simp] theorem y2xy : E.pure 47 = true := rfl
theorem y1zg (v0 : AV) : (y8 E).p 47 [v0] = y9e v0 [⟨0, .dead⟩, ⟨0, .dead⟩] :=
  (yz (cf := y2tm) (by kernel_rfl) rfl).trans ((y1rg _).trans (by kernel_rfl))
def y1jt (v0 : AV) (h : Heap) : OX :=
oh (newC 0 (some 0) (cellsOf v0) h) fun v1 h1 =>
ob (evFa 0 v1) fun v3 =>
ob (evLd false 1 v3 h1) fun v4 =>
ob (y5 .geq v4 (AV.int .i64 7)) fun v5 =>
gb v5 true (evFa 0 v1) fun v7 =>
gb v5 true (evLd false 1 v7 h1) fun v8 =>
gb v5 true (y5 .leq v8 (AV.int .i64 12)) fun v9 =>
ob (yb v5 v9 (AV.bool false)) fun v10 =>
gb v10 false (evFa 0 v1) fun v12 =>
gb v10 false (evLd false 1 v12 h1) fun v13 =>
gb v10 false (y5 .eql v13 (AV.int .i64 20)) fun v14 =>
ob (yb v10 (AV.bool true) v14) fun v15 =>
gb v15 false (evFa 0 v1) fun v17 =>
gb v15 false (evLd false 1 v17 h1) fun v18 =>
gb v15 false (y5 .eql v18 (AV.int .i64 21)) fun v19 =>
ob (yb v15 (AV.bool true) v19) fun v20 =>
gb v20 false (evFa 0 v1) fun v22 =>
gb v20 false (evLd false 1 v22 h1) fun v23 =>
gb v20 false (y5 .eql v23 (AV.int .i64 31)) fun v24 =>
ob (yb v20 (AV.bool true) v24) fun v25 =>
gb v25 false (evLd true 9 v1 h1) fun v27 =>
gh v25 false (y7 E (y8 E) 0 none true 17 [v27] h1) h1 fun v28 h2 =>
ob (yb v25 (AV.bool true) v28) fun v29 =>
(yc h2 v29)
def y2qm (s : St) : OX := y1jt (s 0) s.h
theorem y29n : T0 y1ki [.t 2] y2qm := fun _ => by kernel_rfl
@[simp] theorem y2xt : E.pure 18 = true := rfl
theorem y2wt (v0 : AV) : (y8 E).p 18 [v0] = y1jt v0 [⟨0, .dead⟩] :=
  (yz (cf := y2ps) (by kernel_rfl) rfl).trans ((y29n _).trans (by kernel_rfl))
def y1zd (v0 v3 : AV) (h : Heap) : OX :=
ob (yi 1 v3 v0) fun v15 =>
ob (evLd false 1 v15 h) fun v16 =>
(yc h v16)
def y2ej (s : St) : OX := y1zd (s 0) (s 3) s.h
theorem y1tu : T0 y19z [.t 2] y2ej := fun _ => by kernel_rfl
def y1pf (v0 v3 : AV) (h : Heap) : OX :=
ob (y5 .lss v0 (AV.int .i64 1)) fun v6 =>
gb v6 false (some v0) fun v8 =>
gb v6 false (some v3) fun v9 =>
gb v6 false (yq 1 v9 h) fun v10 =>
gb v6 false (y5 .geq v8 v10) fun v11 =>
ob (yb v6 (AV.bool true) v11) fun v12 =>
cnd v12
 ((yc h (AV.str [])))
 ((y1zd v0 v3 h))
def y2m7 (s : St) : OX := y1pf (s 0) (s 3) s.h
theorem y1gr : T0 y16c [.t 2] y2m7 := sq y1tu fun _ => by kernel_rfl
def y1qi (v0 : AV) (h : Heap) : OX :=
oh (yw 0 (some 0) 1 34 [(.str [])] [(0, (AV.str [])), (1, (AV.str [110, 45, 45, 45])), (2, (AV.str [51, 45, 45, 45])), (3, (AV.str [51, 45, 45, 45])), (4, (AV.str [42, 61, 45, 45])), (5, (AV.str [63, 63, 63, 63])), (6, (AV.str [63, 63, 63, 63])), (7, (AV.str [45, 110, 45, 45])), (8, (AV.str [45, 51, 45, 45])), (9, (AV.str [45, 51, 49, 45])), (10, (AV.str [45, 49, 45, 45])), (11, (AV.str [45, 51, 51, 45])), (12, (AV.str [45, 51, 45, 45])), (13, (AV.str [42, 51, 49, 45])), (14, (AV.str [45, 51, 49, 42])), (15, (AV.str [49, 51, 45, 45])), (16, (AV.str [42, 51, 45, 45])), (17, (AV.str [45, 51, 42, 45])), (18, (AV.str [42, 45, 45, 45])), (19, (AV.str [45, 42, 45, 45])), (20, (AV.str [51, 45, 45, 45])), (21, (AV.str [51, 49, 45, 45])), (22, (AV.str [49, 51, 45, 45])), (23, (AV.str [63, 63, 63, 63])), (24, (AV.str [63, 63, 63, 63])), (25, (AV.str [63, 63, 63, 63])), (26, (AV.str [63, 63, 63, 63])), (27, (AV.str [45, 45, 45, 45])), (28, (AV.str [45, 49, 49, 45])), (29, (AV.str [45, 51, 63, 45])), (30, (AV.str [45, 63, 45, 45])), (31, (AV.str [45, 51, 45, 45])), (32, (AV.str [51, 45, 45, 45])), (33, (AV.str [45, 45, 45, 45]))] h) fun v4 h1 =>
(y1pf v0 v4 h1)
def y2ef (s : St) : OX := y1qi (s 0) s.h
theorem y1jh : T0 y187 [.t 2] y2ef := sq y1gr fun _ => by kernel_rfl
def y1s0 (v0 : AV) (h : Heap) : OX :=
(y1qi v0 h)
def y2hi (s : St) : OX := y1s0 (s 0) s.h
theorem y1j0 : T0 yzh [.t 2] y2hi := sq y1jh fun _ => by kernel_rfl
@[simp] theorem y2yo : E.pure 38 = true := rfl
theorem y2tl (v0 : AV) : (y8 E).p 38 [v0] = y1s0 v0 [⟨0, .dead⟩] :=
  (yz (cf := y2d5) (by kernel_rfl) rfl).trans ((y1j0 _).trans (by kernel_rfl))
def yct (v2 v7 : AV) (h : Heap) : OX :=
ob (y5 .sub v2 (AV.int .u8 48)) fun v30 =>
ob (yco .i64 v30) fun v31 =>
ob (y5 .eql v7 v31) fun v32 =>
(yc h v32)
def y6j (s : St) : OX := yct (s 2) (s 7) s.h
theorem y1tz : T0 y14a [.t 6] y6j := fun _ => by kernel_rfl
def ybq (v2 v7 v11 v15 : AV) (h : Heap) : OX :=
cnd v15
 (ob (y5 .gtr v7 (AV.int .i64 0)) fun v19 =>
(yc h v19))
 (ob (y5 .eql v11 (AV.int .u8 110)) fun v21 =>
cnd v21
 (ob (y5 .eql v7 (AV.int .i64 1)) fun v23 =>
gb v23 false (some v7) fun v25 =>
gb v23 false (y5 .eql v25 (AV.int .i64 2)) fun v26 =>
ob (yb v23 (AV.bool true) v26) fun v27 =>
(yc h v27))
 ((yct v2 v7 h)))
def y2mn (s : St) : OX := ybq (s 2) (s 7) (s 11) (s 15) s.h
theorem y1gp : T1 y154 y6j (y1 0 y6j xN) [.t 6] y2mn := fun _ => by kernel_rfl
def ycv (v2 v7 v11 : AV) (h : Heap) : OX :=
ob (y5 .eql v11 (AV.int .u8 42)) fun v16 =>
cnd v16
 ((ybq v2 v7 v11 v16 h))
 (ob (y5 .eql v11 (AV.int .u8 61)) fun v17 =>
(ybq v2 v7 v11 v17 h))
def y2h6 (s : St) : OX := ycv (s 2) (s 7) (s 11) s.h
theorem y1s3 : T1 y133 y6j (y1 0 y6j xN) [.t 6] y2h6 := sq y1gp fun _ => by kernel_rfl
def ybp (v2 v7 v11 v12 : AV) (h : Heap) : OX :=
cnd v12
 ((yc h (AV.bool true)))
 ((ycv v2 v7 v11 h))
def y2fd (s : St) : OX := ybp (s 2) (s 7) (s 11) (s 12) s.h
theorem y1sa : T1 y13i y6j (y1 0 y6j xN) [.t 6] y2fd := fun s => (y1b rfl (y1s3 s)).trans (by kernel_rfl)
def ycq (v2 v7 v11 : AV) (h : Heap) : OX :=
ob (y5 .eql v11 (AV.int .u8 45)) fun v13 =>
cnd v13
 ((ybp v2 v7 v11 v13 h))
 (ob (y5 .eql v11 (AV.int .u8 63)) fun v14 =>
(ybp v2 v7 v11 v14 h))
def y1xd (s : St) : OX := ycq (s 2) (s 7) (s 11) s.h
theorem y1o4 : T1 y19n y6j (y1 0 y6j xN) [.t 6] y1xd := sq y1sa fun _ => by kernel_rfl
theorem y1x8 : T1 yyl y6j xN [.t 6] y1xd := fun s => yo.trans (y1o4 s)
def ycz (v2 v7 : AV) (h : Heap) : OX :=
(ycq v2 v7 v2 h)
def y1i8 (s : St) : OX := ycz (s 2) (s 7) s.h
theorem y1oq : T1 y18r y6j xN [.t 6] y1i8 := sq y1x8 fun _ => by kernel_rfl
theorem y206 : T0 yz9 [.t 6] y1i8 := sq y1tz y1oq
def yd4 (v1 v2 v3 : AV) (h : Heap) : OX :=
ob (evLd true 5 v3 h) fun v8 =>
oh (y7 E (y8 E) 0 none true 48 [v8, v1] h) fun v10 h1 =>
(ycz v2 v10 h1)
def y2eh (s : St) : OX := yd4 (s 1) (s 2) (s 3) s.h
theorem y1vw : T0 y1a4 [.t 6] y2eh := sq y206 fun _ => by kernel_rfl
def y7n (v0 v1 v2 : AV) (h : Heap) : OX :=
oh (newC 0 (some 0) (cellsOf v0) h) fun v3 h2 =>
(yd4 v1 v2 v3 h2)
def y25s (s : St) : OX := y7n (s 0) (s 1) (s 2) s.h
theorem y1az : T0 yrq [.t 6] y25s := sq y1vw fun _ => by kernel_rfl
@[simp] theorem y2w4 : E.pure 65 = true := rfl
theorem y2rl (v0 v1 v2 : AV) : (y8 E).p 65 [v0, v1, v2] = y7n v0 v1 v2 [⟨0, .dead⟩] :=
  (yz (cf := y2bg) (by kernel_rfl) rfl).trans ((y1az _).trans (by kernel_rfl))
def y23y (h : Heap) : OX :=
(yc h (.tup [(AV.int .i64 0), (AV.int .i64 0), (AV.int .i64 0)]))
def y2ql (s : St) : OX := y23y s.h
theorem y24l : T0 y1nr [.t 2, .t 3, .t 4] y2ql := fun _ => by kernel_rfl
def y27w (v0 v5 : AV) (h : Heap) : OX :=
gb v5 true (some v0) fun v28 =>
gb v5 true (y5 .rem v28 (AV.int .i64 2)) fun v29 =>
gb v5 true (y5 .eql v29 (AV.int .i64 0)) fun v30 =>
ob (yb v5 v30 (AV.bool false)) fun v31 =>
cnd v31
 ((yc h (.tup [(AV.int .i64 1), (AV.int .i64 1), (AV.int .i64 1)])))
 (ob (y5 .eql v0 (AV.int .i64 121)) fun v34 =>
gb v34 false (some v0) fun v36 =>
gb v34 false (y5 .eql v36 (AV.int .i64 123)) fun v37 =>
ob (yb v34 (AV.bool true) v37) fun v38 =>
gb v38 false (some v0) fun v40 =>
gb v38 false (y5 .eql v40 (AV.int .i64 125)) fun v41 =>
ob (yb v38 (AV.bool true) v41) fun v42 =>
cnd v42
 ((yc h (.tup [(AV.int .i64 2), (AV.int .i64 1), (AV.int .i64 2)])))
 (cnd v5
 ((yc h (.tup [(AV.int .i64 2), (AV.int .i64 2), (AV.int .i64 2)])))
 (ob (y5 .eql v0 (AV.int .i64 148)) fun v47 =>
cnd v47
 ((yc h (.tup [(AV.int .i64 2), (AV.int .i64 2), (AV.int .i64 1)])))
 (ob (y5 .eql v0 (AV.int .i64 116)) fun v50 =>
gb v50 false (some v0) fun v52 =>
gb v50 false (y5 .geq v52 (AV.int .i64 145)) fun v53 =>
gb v50 false (some v53) fun v54 =>
gb v54 true (some v0) fun v55 =>
gb v54 true (y5 .leq v55 (AV.int .i64 147)) fun v56 =>
gb v50 false (yb v54 v56 (AV.bool false)) fun v57 =>
ob (yb v50 (AV.bool true) v57) fun v58 =>
cnd v58
 ((yc h (.tup [(AV.int .i64 1), (AV.int .i64 0), (AV.int .i64 1)])))
 (ob (y5 .eql v0 (AV.int .i64 117)) fun v61 =>
cnd v61
 ((yc h (.tup [(AV.int .i64 2), (AV.int .i64 0), (AV.int .i64 2)])))
 (ob (y5 .eql v0 (AV.int .i64 133)) fun v64 =>
cnd v64
 ((yc h (.tup [(AV.int .i64 1), (AV.int .i64 0), (AV.int .i64 2)])))
 (ob (y5 .eql v0 (AV.int .i64 136)) fun v67 =>
cnd v67
 ((yc h (.tup [(AV.int .i64 2), (AV.int .i64 0), (AV.int .i64 1)])))
 ((y23y h)))))))))
def y2pc (s : St) : OX := y27w (s 0) (s 5) s.h
theorem y23m : T0 y1ze [.t 2, .t 3, .t 4] y2pc := sq y24l fun _ => by kernel_rfl
def y21b (v0 : AV) (h : Heap) : OX :=
ob (y5 .geq v0 (AV.int .i64 96)) fun v7 =>
gb v7 true (some v0) fun v9 =>
gb v7 true (y5 .leq v9 (AV.int .i64 113)) fun v10 =>
ob (yb v7 v10 (AV.bool false)) fun v11 =>
gb v11 true (some v0) fun v13 =>
gb v11 true (y5 .rem v13 (AV.int .i64 4)) fun v14 =>
gb v11 true (y5 .lss v14 (AV.int .i64 2)) fun v15 =>
ob (yb v11 v15 (AV.bool false)) fun v16 =>
gb v16 false (some v0) fun v18 =>
gb v16 false (y5 .geq v18 (AV.int .i64 120)) fun v19 =>
gb v16 false (some v19) fun v20 =>
gb v20 true (some v0) fun v21 =>
gb v20 true (y5 .leq v21 (AV.int .i64 131)) fun v22 =>
gb v16 false (yb v20 v22 (AV.bool false)) fun v23 =>
ob (yb v16 (AV.bool true) v23) fun v24 =>
(y27w v0 v24 h)
def y2qo (s : St) : OX := y21b (s 0) s.h
theorem y29d : T0 y1x5 [.t 2, .t 3, .t 4] y2qo := sq y23m fun _ => by kernel_rfl
def y231 (v0 : AV) (h : Heap) : OX :=
(y21b v0 h)
def y2t2 (s : St) : OX := y231 (s 0) s.h
theorem y29z : T0 y1rf [.t 2, .t 3, .t 4] y2t2 := sq y29d fun _ => by kernel_rfl
@[simp] theorem y2xh : E.pure 66 = true := rfl
theorem y2x8 (v0 : AV) : (y8 E).p 66 [v0] = y231 v0 [] :=
  (yz (cf := y2sd) (by kernel_rfl) rfl).trans ((y29z _).trans (by kernel_rfl))
def ykj (v0 : AV) (h : Heap) : OX :=
ob (yq 0 v0 h) fun v28 =>
ob (y5 .gtr v28 (AV.int .i64 2)) fun v29 =>
gb v29 true (some v0) fun v31 =>
gb v29 true (y62 v31 (AV.int .i64 0)) fun v32 =>
gb v29 true (y5 .eql v32 (AV.int .u8 76)) fun v33 =>
ob (yb v29 v33 (AV.bool false)) fun v34 =>
gb v34 true (some v0) fun v36 =>
gb v34 true (some v0) fun v37 =>
gb v34 true (yq 0 v37 h) fun v38 =>
gb v34 true (y5 .sub v38 (AV.int .i64 1)) fun v39 =>
gb v34 true (y62 v36 v39) fun v40 =>
gb v34 true (y5 .eql v40 (AV.int .u8 59)) fun v41 =>
ob (yb v34 v41 (AV.bool false)) fun v42 =>
gb v42 true (some v0) fun v44 =>
gb v42 true (some v0) fun v45 =>
gb v42 true (yq 0 v45 h) fun v46 =>
gb v42 true (y5 .sub v46 (AV.int .i64 1)) fun v47 =>
gb v42 true (yfg v44 (some (AV.int .i64 1)) (some v47)) fun v48 =>
gh v42 true (y7 E (y8 E) 0 none true 69 [v48, (AV.bool false)] h) h fun v49 h1 =>
ob (yb v42 v49 (AV.bool false)) fun v50 =>
(yc h1 v50)
def y2eg (s : St) : OX := ykj (s 0) s.h
theorem y1nb : T0 y02 [.t 2] y2eg := fun _ => by kernel_rfl
def ye0 (v0 : AV) (h : Heap) : OX :=
ob (y5 .eql v0 (AV.str [73])) fun v22 =>
gb v22 false (some v0) fun v24 =>
gb v22 false (y5 .eql v24 (AV.str [74])) fun v25 =>
ob (yb v22 (AV.bool true) v25) fun v26 =>
cnd v26
 ((yc h (AV.bool true)))
 ((ykj v0 h))
def y2mi (s : St) : OX := ye0 (s 0) s.h
theorem y1ws : T0 y166 [.t 2] y2mi := sq y1nb fun _ => by kernel_rfl
def yux (v0 v3 : AV) (h : Heap) : OX :=
ob (y5 .gtr v3 (AV.int .i64 8)) fun v20 =>
cnd v20
 ((yc h (AV.bool false)))
 ((ye0 v0 h))
def y2fa (s : St) : OX := yux (s 0) (s 3) s.h
theorem y1md : T0 y12e [.t 2] y2fa := sq y1ws fun _ => by kernel_rfl
def ymy (v0 v3 : AV) (h : Heap) : OX :=
ob (yfg v0 (some v3) none) fun v18 =>
(yux v18 v3 h)
def yb7 (s : St) : OX := ymy (s 0) (s 3) s.h
theorem y1o8 : T0 y14u [.t 2] yb7 := sq y1md fun _ => by kernel_rfl
def yfx (v0 v3 : AV) (h : Heap) : OX :=
  W E 0 yje ⟨[(0, v0), (3, v3)], h⟩ yb7 (y1 0 yb7 xN) (finP [.t 2])
def yc0 (s : St) : OX := yfx (s 0) (s 3) s.h
theorem ymz : T1 yje yb7 (y1 0 yb7 xN) [.t 2] yc0 := fun s => ye.trans (by kernel_rfl)
def y195 (v0 v3 : AV) (h : Heap) : OX :=
ob (y5 .add v3 (AV.int .i64 1)) fun v15 =>
(yfx v0 v15 h)
def y2fv (s : St) : OX := y195 (s 0) (s 3) s.h
theorem y1n6 : T1 y12u yc0 (y1 0 yb7 xN) [.t 2] y2fv := fun _ => by kernel_rfl
def yoi (v0 v3 : AV) (h : Heap) : OX :=
ob (yq 0 v0 h) fun v6 =>
ob (y5 .lss v3 v6) fun v7 =>
gb v7 true (some v0) fun v9 =>
gb v7 true (some v3) fun v10 =>
gb v7 true (y62 v9 v10) fun v11 =>
gb v7 true (y5 .eql v11 (AV.int .u8 91)) fun v12 =>
ob (yb v7 v12 (AV.bool false)) fun v13 =>
cnd v13
 ((y195 v0 v3 h))
 ((ymy v0 v3 h))
def y2hl (s : St) : OX := yoi (s 0) (s 3) s.h
theorem y1gh : T1 y13s yc0 (y1 0 yb7 xN) [.t 2] y2hl := sq y1n6 fun _ => by kernel_rfl
theorem yma (v0 v3 : AV) (h : Heap) : yfx v0 v3 h = (yoi v0 v3 h) :=
  y19.trans ((y12 _ _ _ (n' := yc0) (fun s => ymz s)).trans ((y1gh _).trans (by kernel_rfl)))
theorem y1mh : T1 yyx yb7 xN [.t 2] yc0 := fun s => yo.trans (ymz s)
theorem y1wf : T0 y138 [.t 2] yc0 := sq y1o8 y1mh
def yxt (v0 : AV) (h : Heap) : OX :=
(yfx v0 (AV.int .i64 0) h)
def y20x (s : St) : OX := yxt (s 0) s.h
theorem y1c4 : T0 yvi [.t 2] y20x := sq y1wf fun _ => by kernel_rfl
def ypt (v0 : AV) (h : Heap) : OX :=
(yxt v0 h)
def y27b (s : St) : OX := ypt (s 0) s.h
theorem y1ep : T0 yu6 [.t 2] y27b := sq y1c4 fun _ => by kernel_rfl
@[simp] theorem y2xx : E.pure 67 = true := rfl
theorem y2rx (v0 : AV) : (y8 E).p 67 [v0] = ypt v0 [] :=
  (yz (cf := y2c6) (by kernel_rfl) rfl).trans ((y1ep _).trans (by kernel_rfl))
def y5u (v2 v3 : AV) (h : Heap) : OX :=
ob (evFa 0 v3) fun v47 =>
ob (evLd false 1 v47 h) fun v48 =>
ob (y5 .neq v48 (AV.int .i64 24)) fun v49 =>
gb v49 true (evFa 0 v3) fun v51 =>
gb v49 true (evLd false 1 v51 h) fun v52 =>
gb v49 true (y5 .neq v52 (AV.int .i64 25)) fun v53 =>
ob (yb v49 v53 (AV.bool false)) fun v54 =>
gb v54 false (evFa 8 v3) fun v56 =>
gb v54 false (evLd false 1 v56 h) fun v57 =>
gb v54 false (yq 1 v57 h) fun v58 =>
gb v54 false (y5 .gtr v58 (AV.int .i64 0)) fun v59 =>
gb v54 false (some v59) fun v60 =>
gb v60 true (evLd true 5 v2 h) fun v61 =>
gb v60 true (evFa 8 v3) fun v62 =>
gb v60 true (evLd false 1 v62 h) fun v63 =>
gb v60 true (yi 1 v63 (AV.int .i64 0)) fun v64 =>
gb v60 true (evLd false 1 v64 h) fun v65 =>
gh v60 true (y7 E (y8 E) 0 none true 48 [v61, v65] h) h fun v66 h1 =>
gb v60 true (y5 .eql v66 (AV.int .i64 3)) fun v67 =>
gb v54 false (yb v60 v67 (AV.bool false)) fun v68 =>
ob (yb v54 (AV.bool true) v68) fun v69 =>
(yc h1 v69)
def y7o (s : St) : OX := y5u (s 2) (s 3) s.h
theorem y1gi : T0 y15d [.t 4] y7o := fun _ => by kernel_rfl
def yjd (v2 v3 v5 : AV) (h : Heap) : OX :=
  W E 0 ykc ⟨[(2, v2), (3, v3), (5, v5)], h⟩ y7o (y1 0 y7o xN) (finP [.t 4])
def ycc (s : St) : OX := yjd (s 2) (s 3) (s 5) s.h
theorem ymh : T1 ykc y7o (y1 0 y7o xN) [.t 4] ycc := fun s => ye.trans (by kernel_rfl)
def y9m (v2 v3 v5 : AV) (h : Heap) : OX :=
ob (y5 .add v5 (AV.int .i64 1)) fun v38 =>
(yjd v2 v3 v38 h)
def y2ic (s : St) : OX := y9m (s 2) (s 3) (s 5) s.h
theorem y1sv : T1 y18a ycc (y1 0 y7o xN) [.t 4] y2ic := fun _ => by kernel_rfl
def y88 (v2 v3 v5 : AV) (h : Heap) : OX :=
ob (evLd true 5 v2 h) fun v39 =>
ob (evFa 8 v3) fun v40 =>
ob (evLd false 1 v40 h) fun v41 =>
ob (yi 1 v41 v5) fun v43 =>
ob (evLd false 1 v43 h) fun v44 =>
oh (y7 E (y8 E) 0 none true 48 [v39, v44] h) fun v45 h2 =>
ob (y5 .eql v45 (AV.int .i64 0)) fun v46 =>
cnd v46
 ((yc h2 (AV.bool false)))
 ((y9m v2 v3 v5 h2))
def y2k3 (s : St) : OX := y88 (s 2) (s 3) (s 5) s.h
theorem y1lw : T1 yzx ycc (y1 0 y7o xN) [.t 4] y2k3 := sq y1sv fun _ => by kernel_rfl
def y7g (v2 v3 v5 : AV) (h : Heap) : OX :=
ob (evFa 8 v3) fun v33 =>
ob (evLd false 1 v33 h) fun v34 =>
ob (yq 1 v34 h) fun v35 =>
ob (y5 .lss v5 v35) fun v36 =>
cnd v36
 ((y88 v2 v3 v5 h))
 ((y5u v2 v3 h))
def y2ll (s : St) : OX := y7g (s 2) (s 3) (s 5) s.h
theorem y1wn : T1 y199 ycc (y1 0 y7o xN) [.t 4] y2ll := sq y1lw fun _ => by kernel_rfl
theorem ymb (v2 v3 v5 : AV) (h : Heap) : yjd v2 v3 v5 h = (y7g v2 v3 v5 h) :=
  y19.trans ((y12 _ _ _ (n' := ycc) (fun s => ymh s)).trans ((y1wn _).trans (by kernel_rfl)))
theorem y1sp : T1 y15r y7o xN [.t 4] ycc := fun s => yo.trans (ymh s)
def yba (v2 v3 : AV) (h : Heap) : OX :=
(yjd v2 v3 (AV.int .i64 0) h)
def y1hk (s : St) : OX := yba (s 2) (s 3) s.h
theorem y1t8 : T1 yyw y7o xN [.t 4] y1hk := sq y1sp fun _ => by kernel_rfl
theorem y1p1 : T0 y172 [.t 4] y1hk := sq y1gi y1t8
def ybn (v2 v3 : AV) (h : Heap) : OX :=
ob (evFa 5 v3) fun v6 =>
ob (evLd false 1 v6 h) fun v7 =>
ob (y5 .lss v7 (AV.int .i64 0)) fun v8 =>
gb v8 true (evFa 0 v3) fun v10 =>
gb v8 true (evLd false 1 v10 h) fun v11 =>
gb v8 true (y5 .neq v11 (AV.int .i64 25)) fun v12 =>
ob (yb v8 v12 (AV.bool false)) fun v13 =>
gb v13 false (evFa 8 v3) fun v15 =>
gb v13 false (evLd false 1 v15 h) fun v16 =>
gb v13 false (yq 1 v16 h) fun v17 =>
gb v13 false (y5 .gtr v17 (AV.int .i64 21)) fun v18 =>
ob (yb v13 (AV.bool true) v18) fun v19 =>
gb v19 false (evFa 1 v3) fun v21 =>
gb v19 false (evLd false 1 v21 h) fun v22 =>
gb v19 false (y5 .neq v22 (AV.int .i64 (-1))) fun v23 =>
gb v19 false (some v23) fun v24 =>
gb v24 true (evLd true 5 v2 h) fun v25 =>
gb v24 true (evFa 1 v3) fun v26 =>
gb v24 true (evLd false 1 v26 h) fun v27 =>
gh v24 true (y7 E (y8 E) 0 none true 48 [v25, v27] h) h fun v28 h3 =>
gb v24 true (y5 .eql v28 (AV.int .i64 0)) fun v29 =>
gb v19 false (yb v24 v29 (AV.bool false)) fun v30 =>
ob (yb v19 (AV.bool true) v30) fun v31 =>
cnd v31
 ((yc h3 (AV.bool false)))
 ((yba v2 v3 h3))
def y2lm (s : St) : OX := ybn (s 2) (s 3) s.h
theorem y1pd : T0 y193 [.t 4] y2lm := sq y1p1 fun _ => by kernel_rfl
def y6w (v0 v1 : AV) (h : Heap) : OX :=
oh (newC 0 (some 0) (cellsOf v0) h) fun v2 h4 =>
oh (newC 0 (some 1) (cellsOf v1) h4) fun v3 h5 =>
(ybn v2 v3 h5)
def y22k (s : St) : OX := y6w (s 0) (s 1) s.h
theorem y1de : T0 yvv [.t 4] y22k := sq y1pd fun _ => by kernel_rfl
@[simp] theorem y2y0 : E.pure 68 = true := rfl
theorem y2uh (v0 v1 : AV) : (y8 E).p 68 [v0, v1] = y6w v0 v1 [⟨0, .dead⟩, ⟨0, .dead⟩] :=
  (yz (cf := y2b9) (by kernel_rfl) rfl).trans ((y1de _).trans (by kernel_rfl))
def y2eq (v0 v1 : AV) (h : Heap) : OX :=
oh (y7 E (y8 E) 0 none true 159 [v0, v1] h) fun v25 h1 =>
ob (y5r 0 v25) fun v26 =>
ob (y5r 1 v25) fun v27 =>
(yc h1 (.tup [v26, v27]))
def y2pv (s : St) : OX := y2eq (s 0) (s 1) s.h
theorem y22q : T0 y1v5 [.t 4, .t 5] y2pv := fun _ => by kernel_rfl
def y2ir (v0 v1 : AV) (h : Heap) : OX :=
cnd (AV.bool false)
 (ob (yco .u32 v0) fun v12 =>
ob (yco .u32 v1) fun v14 =>
oh (y7 E (y8 E) 0 none true 158 [v12, v14] h) fun v15 h2 =>
ob (y5r 0 v15) fun v16 =>
ob (y5r 1 v15) fun v17 =>
ob (yco .u64 v16) fun v19 =>
ob (yco .u64 v17) fun v21 =>
(yc h2 (.tup [v19, v21])))
 ((y2eq v0 v1 h))
def y2pj (s : St) : OX := y2ir (s 0) (s 1) s.h
theorem y27m : T0 y1tl [.t 4, .t 5] y2pj := sq y22q fun _ => by kernel_rfl
def y2iy (v0 v1 : AV) (h : Heap) : OX :=
(y2ir v0 v1 h)
def y2om (s : St) : OX := y2iy (s 0) (s 1) s.h
theorem y20n : T0 y1i3 [.t 4, .t 5] y2om := sq y27m fun _ => by kernel_rfl
@[simp] theorem y2v9 : E.pure 157 = true := rfl
theorem y2ze (v0 v1 : AV) : (y8 E).p 157 [v0, v1] = y2iy v0 v1 [] :=
  (yz (cf := y2qg) (by kernel_rfl) rfl).trans ((y20n _).trans (by kernel_rfl))
def y1n7 (v0 : AV) (h : Heap) : OX :=
oh (yw 0 (some 0) 1 0 [(.int .i64 0)] [] h) fun v5 h1 =>
oh (y3h 0 (some 1) 1 8 v5 v0 h1) fun v7 h2 =>
(yc h2 v7)
def y2dl (s : St) : OX := y1n7 (s 0) s.h
theorem y1h4 : T0 y13t [.t 2] y2dl := fun _ => by kernel_rfl
def y1ql (v0 : AV) (h : Heap) : OX :=
ob (y3n 1 false v0 AV.nils) fun v4 =>
cnd v4
 ((yc h AV.nils))
 ((y1n7 v0 h))
def y2g0 (s : St) : OX := y1ql (s 0) s.h
theorem y1pg : T0 y14b [.t 2] y2g0 := sq y1h4 fun _ => by kernel_rfl
def y1j1 (v0 : AV) (h : Heap) : OX :=
(y1ql v0 h)
def y2gq (s : St) : OX := y1j1 (s 0) s.h
theorem y1p9 : T0 y11d [.t 2] y2gq := sq y1pg fun _ => by kernel_rfl
@[simp] theorem y2v7 : E.pure 153 = true := rfl
theorem y2s4 (v0 : AV) : (y8 E).p 153 [v0] = y1j1 v0 [⟨0, .dead⟩, ⟨0, .dead⟩] :=
  (yz (cf := y2bl) (by kernel_rfl) rfl).trans ((y1p9 _).trans (by kernel_rfl))
def y1w9 (fb : Nat) (v0 v1 v9 v10 : AV) (h : Heap) : Option (AV × Heap) :=
  W E fb yy1 ⟨[(0, v0), (1, v1), (9, v9), (10, v10)], h⟩ (finI []) (y1 0 (finI []) xN) (finI [])
def ygn (fb : Nat) (s : St) : Option (AV × Heap) := y1w9 fb (s 0) (s 1) (s 9) (s 10) s.h
theorem y19m (fb : Nat) (s : St) : W E fb yy1 s (finI []) (y1 0 (finI []) xN) (finI []) = ygn fb s := ye.trans (by kernel_rfl)
def q4_2 (fb : Nat) (v0 v1 v9 v10 : AV) (h : Heap) : Option (AV × Heap) :=
ob (y5 .add v10 (AV.int .i64 1)) fun v22 =>
(y1w9 fb v0 v1 v9 v22 h)
def y2qy (fb : Nat) (s : St) : Option (AV × Heap) := q4_2 fb (s 0) (s 1) (s 9) (s 10) s.h
theorem y2dt (fb : Nat) (s : St) : W E fb y2d3 s (ygn fb) (y1 0 (finI []) xN) (finI []) = y2qy fb s :=
  by kernel_rfl
def q4_3 (fb : Nat) (v0 v1 v9 v10 : AV) (h : Heap) : Option (AV × Heap) :=
ob (yi 1 v0 v10) fun v15 =>
ob (evLd false 1 v15 h) fun v16 =>
ob (y5 .eql v16 v1) fun v18 =>
cnd v18
 (ob (yi 1 v0 v10) fun v21 =>
oh (evSt 1 v21 (AV.int .i64 (-1)) h) fun _ h1 =>
(q4_2 fb v0 v1 v9 v10 h1))
 ((q4_2 fb v0 v1 v9 v10 h))
def y2nn (fb : Nat) (s : St) : Option (AV × Heap) := q4_3 fb (s 0) (s 1) (s 9) (s 10) s.h
theorem y2ly (fb : Nat) (s : St) : W E fb y2bz s (ygn fb) (y1 0 (finI []) xN) (finI []) = y2nn fb s :=
  (y8q (k := (y2qy fb)) (fun s => y2dt fb s)).trans (by kernel_rfl)
def q4_4 (fb : Nat) (v0 v1 v9 v10 v11 : AV) (h : Heap) : Option (AV × Heap) :=
cnd v11
 ((q4_3 fb v0 v1 v9 v10 h))
 ((some ((.tup []), h)))
def y2tw (fb : Nat) (s : St) : Option (AV × Heap) := q4_4 fb (s 0) (s 1) (s 9) (s 10) (s 11) s.h
theorem y2hq (fb : Nat) (s : St) : W E fb y2bi s (ygn fb) (y1 0 (finI []) xN) (finI []) = y2tw fb s :=
  (y8q (k := (y2nn fb)) (fun s => y2ly fb s)).trans (by kernel_rfl)
def q4_5 (fb : Nat) (v0 v1 v9 v10 : AV) (h : Heap) : Option (AV × Heap) :=
ob (y5 .lss v10 v9) fun v11 =>
(q4_4 fb v0 v1 v9 v10 v11 h)
def y2wc (fb : Nat) (s : St) : Option (AV × Heap) := q4_5 fb (s 0) (s 1) (s 9) (s 10) s.h
theorem y2ig (fb : Nat) (s : St) : W E fb y2c5 s (ygn fb) (y1 0 (finI []) xN) (finI []) = y2wc fb s :=
  (y8q (k := (y2tw fb)) (fun s => y2hq fb s)).trans (by kernel_rfl)
theorem y17q (fb : Nat) (v0 v1 v9 v10 : AV) (h : Heap) : y1w9 fb v0 v1 v9 v10 h = (q4_5 fb v0 v1 v9 v10 h) :=
  y19.trans ((y12 _ _ _ (n' := (ygn fb)) (fun s => y19m fb s)).trans ((y2ig fb _).trans (by kernel_rfl)))
theorem y2it (fb : Nat) (s : St) : W E fb y2ar s (finI []) xN (finI []) = ygn fb s :=
  yo.trans (y19m fb s)
def q4_7 (fb : Nat) (v0 v1 : AV) (h : Heap) : Option (AV × Heap) :=
ob (yq 1 v0 h) fun v9 =>
(y1w9 fb v0 v1 v9 (AV.int .i64 0) h)
def y2um (fb : Nat) (s : St) : Option (AV × Heap) := q4_7 fb (s 0) (s 1) s.h
theorem y2m4 (fb : Nat) (s : St) : W E fb y2av s (finI []) xN (finI []) = y2um fb s :=
  (y8q (k := (ygn fb)) (fun s => y2it fb s)).trans (by kernel_rfl)
def q4_8 (fb : Nat) (v0 v1 : AV) (h : Heap) : Option (AV × Heap) :=
ob (yi 1 v0 v1) fun v7 =>
oh (evSt 1 v7 (AV.int .i64 (-1)) h) fun _ h2 =>
(q4_7 fb v0 v1 h2)
def y2z9 (fb : Nat) (s : St) : Option (AV × Heap) := q4_8 fb (s 0) (s 1) s.h
theorem y2fu (fb : Nat) (s : St) : W E fb y2bf s (finI []) xN (finI []) = y2z9 fb s :=
  (y8q (k := (y2um fb)) (fun s => y2m4 fb s)).trans (by kernel_rfl)
@[simp] theorem y2ut : E.pure 154 = false := rfl
theorem x_q4 (fb : Nat) (v0 v1 : AV) (h : Heap) : (y8 E).i 154 [v0, v1] fb h = q4_8 fb v0 v1 (if fb = h.length then h ++ yp 0 else h) :=
  (yoy (cf := c_q4) (by kernel_rfl) rfl).trans ((y2fu fb _).trans (by kernel_rfl))
def y2mj (h : Heap) : OX :=
(yc h (.tup [(AV.int .i64 0), (AV.int .i64 0), (AV.int .i64 0)]))
def y3x (s : St) : OX := y2mj s.h
theorem y285 : T0 y1mt [.t 2, .t 3, .t 4] y3x := fun _ => by kernel_rfl
def y1c8 (v5 v33 : AV) (h : Heap) : OX :=
cnd v33
 ((yc h (.tup [(AV.int .i64 1), (AV.int .i64 0), (AV.int .i64 1)])))
 (ob (y5 .eql v5 (AV.int .i64 117)) fun v39 =>
cnd v39
 ((yc h (.tup [(AV.int .i64 2), (AV.int .i64 0), (AV.int .i64 2)])))
 (ob (y5 .eql v5 (AV.int .i64 133)) fun v41 =>
cnd v41
 ((yc h (.tup [(AV.int .i64 1), (AV.int .i64 0), (AV.int .i64 2)])))
 (ob (y5 .eql v5 (AV.int .i64 136)) fun v43 =>
cnd v43
 ((yc h (.tup [(AV.int .i64 2), (AV.int .i64 0), (AV.int .i64 1)])))
 ((y2mj h)))))
def y2o8 (s : St) : OX := y1c8 (s 5) (s 33) s.h
theorem y25e : T1 y1g2 y3x (y1 0 y3x xN) [.t 2, .t 3, .t 4] y2o8 := fun _ => by kernel_rfl
def y2lg (v5 : AV) (h : Heap) : OX :=
ob (y5 .eql v5 (AV.int .i64 116)) fun v34 =>
cnd v34
 ((y1c8 v5 v34 h))
 (ob (y5 .eql v5 (AV.int .i64 145)) fun v35 =>
cnd v35
 ((y1c8 v5 v35 h))
 (ob (y5 .eql v5 (AV.int .i64 146)) fun v36 =>
cnd v36
 ((y1c8 v5 v36 h))
 (ob (y5 .eql v5 (AV.int .i64 147)) fun v37 =>
(y1c8 v5 v37 h))))
def y2tz (s : St) : OX := y2lg (s 5) s.h
theorem y2a4 : T1 y1v3 y3x (y1 0 y3x xN) [.t 2, .t 3, .t 4] y2tz := sq y25e fun _ => by kernel_rfl
def y2dy (v5 v31 : AV) (h : Heap) : OX :=
cnd v31
 ((yc h (.tup [(AV.int .i64 2), (AV.int .i64 2), (AV.int .i64 1)])))
 ((y2lg v5 h))
def y2pg (s : St) : OX := y2dy (s 5) (s 31) s.h
theorem y27x : T1 y1h6 y3x (y1 0 y3x xN) [.t 2, .t 3, .t 4] y2pg := fun s => (y1b rfl (y2a4 s)).trans (by kernel_rfl)
def y2es (v5 : AV) (h : Heap) : OX :=
ob (y5 .eql v5 (AV.int .i64 148)) fun v32 =>
(y2dy v5 v32 h)
def y2t9 (s : St) : OX := y2es (s 5) s.h
theorem y29k : T1 y1li y3x (y1 0 y3x xN) [.t 2, .t 3, .t 4] y2t9 := sq y27x fun _ => by kernel_rfl
def y1hs (v5 v27 : AV) (h : Heap) : OX :=
cnd v27
 ((yc h (.tup [(AV.int .i64 2), (AV.int .i64 1), (AV.int .i64 2)])))
 ((y2es v5 h))
def y2nk (s : St) : OX := y1hs (s 5) (s 27) s.h
theorem y20r : T1 y1oe y3x (y1 0 y3x xN) [.t 2, .t 3, .t 4] y2nk := fun s => (y1b rfl (y29k s)).trans (by kernel_rfl)
def y2go (v5 : AV) (h : Heap) : OX :=
ob (y5 .eql v5 (AV.int .i64 121)) fun v28 =>
cnd v28
 ((y1hs v5 v28 h))
 (ob (y5 .eql v5 (AV.int .i64 123)) fun v29 =>
cnd v29
 ((y1hs v5 v29 h))
 (ob (y5 .eql v5 (AV.int .i64 125)) fun v30 =>
(y1hs v5 v30 h)))
def y2ru (s : St) : OX := y2go (s 5) s.h
theorem y2a0 : T1 y1f3 y3x (y1 0 y3x xN) [.t 2, .t 3, .t 4] y2ru := sq y20r fun _ => by kernel_rfl
def ylu (v5 v18 : AV) (h : Heap) : OX :=
cnd v18
 ((yc h (.tup [(AV.int .i64 2), (AV.int .i64 2), (AV.int .i64 2)])))
 ((y2go v5 h))
def y2qf (s : St) : OX := ylu (s 5) (s 18) s.h
theorem y26w : T1 y1q5 y3x (y1 0 y3x xN) [.t 2, .t 3, .t 4] y2qf := fun s => (y1b rfl (y2a0 s)).trans (by kernel_rfl)
def y2il (v5 : AV) (h : Heap) : OX :=
ob (y5 .eql v5 (AV.int .i64 97)) fun v19 =>
cnd v19
 ((ylu v5 v19 h))
 (ob (y5 .eql v5 (AV.int .i64 101)) fun v20 =>
cnd v20
 ((ylu v5 v20 h))
 (ob (y5 .eql v5 (AV.int .i64 105)) fun v21 =>
cnd v21
 ((ylu v5 v21 h))
 (ob (y5 .eql v5 (AV.int .i64 109)) fun v22 =>
cnd v22
 ((ylu v5 v22 h))
 (ob (y5 .eql v5 (AV.int .i64 113)) fun v23 =>
cnd v23
 ((ylu v5 v23 h))
 (ob (y5 .eql v5 (AV.int .i64 127)) fun v24 =>
cnd v24
 ((ylu v5 v24 h))
 (ob (y5 .eql v5 (AV.int .i64 129)) fun v25 =>
cnd v25
 ((ylu v5 v25 h))
 (ob (y5 .eql v5 (AV.int .i64 131)) fun v26 =>
(ylu v5 v26 h))))))))
def y2nw (s : St) : OX := y2il (s 5) s.h
theorem y28y : T1 y1f5 y3x (y1 0 y3x xN) [.t 2, .t 3, .t 4] y2nw := sq y26w fun _ => by kernel_rfl
def y84 (v5 v6 : AV) (h : Heap) : OX :=
cnd v6
 ((yc h (.tup [(AV.int .i64 1), (AV.int .i64 1), (AV.int .i64 1)])))
 ((y2il v5 h))
def y2gj (s : St) : OX := y84 (s 5) (s 6) s.h
theorem y1sz : T1 y16d y3x (y1 0 y3x xN) [.t 2, .t 3, .t 4] y2gj := fun s => (y1b rfl (y28y s)).trans (by kernel_rfl)
def y1wc (v5 : AV) (h : Heap) : OX :=
ob (y5 .eql v5 (AV.int .i64 96)) fun v7 =>
cnd v7
 ((y84 v5 v7 h))
 (ob (y5 .eql v5 (AV.int .i64 100)) fun v8 =>
cnd v8
 ((y84 v5 v8 h))
 (ob (y5 .eql v5 (AV.int .i64 104)) fun v9 =>
cnd v9
 ((y84 v5 v9 h))
 (ob (y5 .eql v5 (AV.int .i64 108)) fun v10 =>
cnd v10
 ((y84 v5 v10 h))
 (ob (y5 .eql v5 (AV.int .i64 112)) fun v11 =>
cnd v11
 ((y84 v5 v11 h))
 (ob (y5 .eql v5 (AV.int .i64 120)) fun v12 =>
cnd v12
 ((y84 v5 v12 h))
 (ob (y5 .eql v5 (AV.int .i64 122)) fun v13 =>
cnd v13
 ((y84 v5 v13 h))
 (ob (y5 .eql v5 (AV.int .i64 124)) fun v14 =>
cnd v14
 ((y84 v5 v14 h))
 (ob (y5 .eql v5 (AV.int .i64 126)) fun v15 =>
cnd v15
 ((y84 v5 v15 h))
 (ob (y5 .eql v5 (AV.int .i64 128)) fun v16 =>
cnd v16
 ((y84 v5 v16 h))
 (ob (y5 .eql v5 (AV.int .i64 130)) fun v17 =>
(y84 v5 v17 h)))))))))))
def y1pm (s : St) : OX := y1wc (s 5) s.h
theorem y1rl : T1 y12y y3x (y1 0 y3x xN) [.t 2, .t 3, .t 4] y1pm := sq y1sz fun _ => by kernel_rfl
theorem y1od : T1 y113 y3x xN [.t 2, .t 3, .t 4] y1pm := fun s => yo.trans (y1rl s)
def y1yi (v0 : AV) (h : Heap) : OX :=
(y1wc v0 h)
def y1fv (s : St) : OX := y1yi (s 0) s.h
theorem y1lr : T1 y15s y3x xN [.t 2, .t 3, .t 4] y1fv := sq y1od fun _ => by kernel_rfl
theorem y1y3 : T0 y18p [.t 2, .t 3, .t 4] y1fv := sq y285 y1lr
def y1wh (v0 : AV) (h : Heap) : OX :=
(y1yi v0 h)
def y2h2 (s : St) : OX := y1wh (s 0) s.h
theorem y1zz : T0 y11u [.t 2, .t 3, .t 4] y2h2 := sq y1y3 fun _ => by kernel_rfl
@[simp] theorem y2y8 : E.pure 50 = true := rfl
theorem y2wn (v0 : AV) : (y8 E).p 50 [v0] = y1wh v0 [] :=
  (yz (cf := y2r3) (by kernel_rfl) rfl).trans ((y1zz _).trans (by kernel_rfl))
def q8_1 (v0 : AV) (h : Heap) : OX :=
ob (y5 .neq v0 (AV.str [])) fun v4 =>
gb v4 true (some v0) fun v6 =>
gh v4 true (y7 E (y8 E) 0 none true 44 [v6] h) h fun v7 h1 =>
gb v4 true (some v0) fun v8 =>
gb v4 true (yq 0 v8 h1) fun v9 =>
gb v4 true (y5 .eql v7 v9) fun v10 =>
ob (yb v4 v10 (AV.bool false)) fun v11 =>
(yc h1 v11)
def y2x4 (s : St) : OX := q8_1 (s 0) s.h
theorem y2km : T0 y2bn [.t 2] y2x4 := fun _ => by kernel_rfl
@[simp] theorem y2x2 : E.pure 37 = true := rfl
theorem x_q8 (v0 : AV) : (y8 E).p 37 [v0] = q8_1 v0 [] :=
  (yz (cf := c_q8) (by kernel_rfl) rfl).trans ((y2km _).trans (by kernel_rfl))
def yyh (v2 : AV) (h : Heap) : OX :=
ob (y1i [(.int .i64 0), (.int .i64 0), (.int .i64 0), (.int .i64 0)] []) fun v73 =>
oh (evSt 4 v2 v73 h) fun _ h1 =>
(ob (evLd true 4 v2 h1) fun r0 =>
  yc h1 (.tup [r0, (AV.bool false)]))
def y2i (s : St) : OX := yyh (s 2) s.h
theorem y28v : T0 y1zu [.cell 2 true 4, .t 3] y2i := fun _ => by kernel_rfl
def ytj (v1 v2 v4 : AV) (h : Heap) : OX :=
ob (y1i [(.int .i64 0), (.int .i64 0), (.int .i64 0), (.int .i64 0)] [(0, 1, (AV.int .i64 (-1))), (1, 1, (AV.int .i64 3)), (2, 1, v4), (3, 1, (AV.int .i64 (-1)))]) fun v16 =>
ob (evFa 5 v1) fun v17 =>
ob (evLd false 1 v17 h) fun v18 =>
ob (y5 .eql v18 (AV.int .i64 0)) fun v19 =>
ofp (fgd v19 false (some ([], []))) fun f6 =>
gb v19 false (evFa 5 v1) fun v21 =>
ofp (fgd v19 false (some (ids1 v21, []))) fun f7 =>
gb v19 false (evLd false 1 v21 h) fun v22 =>
ofp (fgd v19 false (some ([], []))) fun f8 =>
gb v19 false (y5 .eql v22 (AV.int .i64 1)) fun v23 =>
ob (yb v19 (AV.bool true) v23) fun v24 =>
oh (evSt 4 v2 v16 h) fun _ h2 =>
okK (yd [([], []), ([], []), ([], []), (ids1 v17, []), ([], []), ([], []), f6, f7, f8, ([], []), ([], ids1 v2), ([], [])] [(7, 10)]) <|
(ob (evLd true 4 v2 h2) fun r0 =>
  yc h2 (.tup [r0, v24]))
def y2p4 (s : St) : OX := ytj (s 1) (s 2) (s 4) s.h
theorem y24j : T1 y208 y2i (y1 0 y2i xN) [.cell 2 true 4, .t 3] y2p4 := fun _ => by kernel_rfl
def yx0 (v1 v2 v4 : AV) (h : Heap) : OX :=
ob (evFa 3 v1) fun v12 =>
ob (evLd false 1 v12 h) fun v13 =>
ob (y5 .neq v13 (AV.int .i64 (-1))) fun v14 =>
cnd v14
 ((ytj v1 v2 (AV.int .i64 3) h))
 ((ytj v1 v2 v4 h))
def y2qv (s : St) : OX := yx0 (s 1) (s 2) (s 4) s.h
theorem y22y : T1 y1rx y2i (y1 0 y2i xN) [.cell 2 true 4, .t 3] y2qv := sq y24j fun _ => by kernel_rfl
def yx1 (v1 v2 : AV) (h : Heap) : OX :=
(yx0 v1 v2 (AV.int .i64 (-1)) h)
def y2sl (s : St) : OX := yx1 (s 1) (s 2) s.h
theorem y23b : T1 y1lx y2i (y1 0 y2i xN) [.cell 2 true 4, .t 3] y2sl := sq y22y fun _ => by kernel_rfl
def yu5 (v2 v5 : AV) (h : Heap) : OX :=
ob (y1i [(.int .i64 0), (.int .i64 0), (.int .i64 0), (.int .i64 0)] [(0, 1, (AV.int .i64 (-1))), (1, 1, v5), (2, 1, (AV.int .i64 (-1))), (3, 1, (AV.int .i64 (-1)))]) fun v31 =>
oh (evSt 4 v2 v31 h) fun _ h3 =>
(ob (evLd true 4 v2 h3) fun r0 =>
  yc h3 (.tup [r0, (AV.bool true)]))
def y2qd (s : St) : OX := yu5 (s 2) (s 5) s.h
theorem y28g : T1 y1ps y2i (y1 0 y2i xN) [.cell 2 true 4, .t 3] y2qd := fun _ => by kernel_rfl
def yy3 (v1 v2 v5 : AV) (h : Heap) : OX :=
ob (evFa 2 v1) fun v27 =>
ob (evLd false 1 v27 h) fun v28 =>
ob (y5 .neq v28 (AV.int .i64 (-1))) fun v29 =>
cnd v29
 ((yu5 v2 (AV.int .i64 0) h))
 ((yu5 v2 v5 h))
def y2ph (s : St) : OX := yy3 (s 1) (s 2) (s 5) s.h
theorem y23f : T1 y1s7 y2i (y1 0 y2i xN) [.cell 2 true 4, .t 3] y2ph := sq y28g fun _ => by kernel_rfl
def yxw (v1 v2 : AV) (h : Heap) : OX :=
(yy3 v1 v2 (AV.int .i64 (-1)) h)
def y2oj (s : St) : OX := yxw (s 1) (s 2) s.h
theorem y24w : T1 y1zt y2i (y1 0 y2i xN) [.cell 2 true 4, .t 3] y2oj := sq y23f fun _ => by kernel_rfl
def ys5 (v1 v2 v6 : AV) (h : Heap) : OX :=
ob (evFa 0 v1) fun v40 =>
ob (evLd false 1 v40 h) fun v41 =>
ob (y5 .eql v41 (AV.int .i64 23)) fun v42 =>
gb v42 false (evFa 0 v1) fun v44 =>
gb v42 false (evLd false 1 v44 h) fun v45 =>
gb v42 false (y5 .eql v45 (AV.int .i64 26)) fun v46 =>
ob (yb v42 (AV.bool true) v46) fun v47 =>
gb v47 false (evFa 8 v1) fun v49 =>
gb v47 false (evLd false 1 v49 h) fun v50 =>
gb v47 false (yq 1 v50 h) fun v51 =>
gb v47 false (y5 .gtr v51 (AV.int .i64 0)) fun v52 =>
ob (yb v47 (AV.bool true) v52) fun v53 =>
ob (y1i [(.int .i64 0), (.int .i64 0), (.int .i64 0), (.int .i64 0)] [(0, 1, v6), (1, 1, (AV.int .i64 (-1))), (2, 1, (AV.int .i64 (-1))), (3, 1, (AV.int .i64 (-1)))]) fun v55 =>
ofp (fgd v53 true (some ([], []))) fun f4 =>
gb v53 true (evFa 5 v1) fun v58 =>
ofp (fgd v53 true (some (ids1 v58, []))) fun f5 =>
gb v53 true (evLd false 1 v58 h) fun v59 =>
ofp (fgd v53 true (some ([], []))) fun f6 =>
gb v53 true (y5 .geq v59 (AV.int .i64 0)) fun v60 =>
ofp (fgd v53 true (some ([], []))) fun f7 =>
gb v53 true (some v60) fun v61 =>
ofp (fgd v61 false (some ([], []))) fun f8 =>
gb v61 false (evFa 0 v1) fun v62 =>
ofp (fgd v61 false (some (ids1 v62, []))) fun f9 =>
gb v61 false (evLd false 1 v62 h) fun v63 =>
ofp (fgd v61 false (some ([], []))) fun f10 =>
gb v61 false (y5 .eql v63 (AV.int .i64 25)) fun v64 =>
ofp (fgd v53 true (some ([], []))) fun f11 =>
gb v53 true (yb v61 (AV.bool true) v64) fun v65 =>
ob (yb v53 v65 (AV.bool false)) fun v66 =>
ofp (fgd v66 true (some ([], []))) fun f14 =>
gb v66 true (evFa 8 v1) fun v68 =>
ofp (fgd v66 true (some (ids1 v68, []))) fun f15 =>
gb v66 true (evLd false 1 v68 h) fun v69 =>
ofp (fgd v66 true (some (ids1 v69, []))) fun f16 =>
gb v66 true (yq 1 v69 h) fun v70 =>
ofp (fgd v66 true (some ([], []))) fun f17 =>
gb v66 true (y5 .leq v70 (AV.int .i64 21)) fun v71 =>
ob (yb v66 v71 (AV.bool false)) fun v72 =>
oh (evSt 4 v2 v55 h) fun _ h4 =>
okK (yd [([], []), ([], []), ([], []), ([], []), f4, f5, f6, f7, f8, f9, f10, f11, ([], []), ([], []), f14, f15, f16, f17, ([], []), ([], ids1 v2), ([], [])] [(15, 19), (16, 19)]) <|
(ob (evLd true 4 v2 h4) fun r0 =>
  yc h4 (.tup [r0, v72]))
def y2ry (s : St) : OX := ys5 (s 1) (s 2) (s 6) s.h
theorem y25a : T1 y204 y2i (y1 0 y2i xN) [.cell 2 true 4, .t 3] y2ry := fun _ => by kernel_rfl
def yxg (v1 v2 v6 : AV) (h : Heap) : OX :=
ob (evFa 1 v1) fun v37 =>
ob (evLd false 1 v37 h) fun v38 =>
ob (y5 .neq v38 (AV.int .i64 (-1))) fun v39 =>
cnd v39
 ((ys5 v1 v2 (AV.int .i64 0) h))
 ((ys5 v1 v2 v6 h))
def y2qk (s : St) : OX := yxg (s 1) (s 2) (s 6) s.h
theorem y27s : T1 y1vk y2i (y1 0 y2i xN) [.cell 2 true 4, .t 3] y2qk := sq y25a fun _ => by kernel_rfl
def yiz (v1 v2 : AV) (h : Heap) : OX :=
(yxg v1 v2 (AV.int .i64 (-1)) h)
def y2h7 (s : St) : OX := yiz (s 1) (s 2) s.h
theorem y1hb : T1 y18c y2i (y1 0 y2i xN) [.cell 2 true 4, .t 3] y2h7 := sq y27s fun _ => by kernel_rfl
def ycy (v1 v2 v32 : AV) (h : Heap) : OX :=
cnd v32
 ((yiz v1 v2 h))
 ((yyh v2 h))
def y2ln (s : St) : OX := ycy (s 1) (s 2) (s 32) s.h
theorem y1zb : T1 y14w y2i (y1 0 y2i xN) [.cell 2 true 4, .t 3] y2ln := fun s => (y1b (y1hb s) rfl).trans (by kernel_rfl)
def yjn (v1 v2 v9 : AV) (h : Heap) : OX :=
ob (y5 .eql v9 (AV.int .i64 23)) fun v33 =>
cnd v33
 ((ycy v1 v2 v33 h))
 (ob (y5 .eql v9 (AV.int .i64 24)) fun v34 =>
cnd v34
 ((ycy v1 v2 v34 h))
 (ob (y5 .eql v9 (AV.int .i64 25)) fun v35 =>
cnd v35
 ((ycy v1 v2 v35 h))
 (ob (y5 .eql v9 (AV.int .i64 26)) fun v36 =>
(ycy v1 v2 v36 h))))
def y2hj (s : St) : OX := yjn (s 1) (s 2) (s 9) s.h
theorem y1gc : T1 y15n y2i (y1 0 y2i xN) [.cell 2 true 4, .t 3] y2hj := sq y1zb fun _ => by kernel_rfl
def yj2 (v1 v2 v9 v25 : AV) (h : Heap) : OX :=
cnd v25
 ((yxw v1 v2 h))
 ((yjn v1 v2 v9 h))
def y2m0 (s : St) : OX := yj2 (s 1) (s 2) (s 9) (s 25) s.h
theorem y1gj : T1 y14z y2i (y1 0 y2i xN) [.cell 2 true 4, .t 3] y2m0 := fun s => (y1b (y24w s) (y1gc s)).trans (by kernel_rfl)
def yl0 (v1 v2 v9 : AV) (h : Heap) : OX :=
ob (y5 .eql v9 (AV.int .i64 30)) fun v26 =>
(yj2 v1 v2 v9 v26 h)
def y2f8 (s : St) : OX := yl0 (s 1) (s 2) (s 9) s.h
theorem y1j5 : T1 y1ab y2i (y1 0 y2i xN) [.cell 2 true 4, .t 3] y2f8 := sq y1gj fun _ => by kernel_rfl
def yiq (v1 v2 v9 v10 : AV) (h : Heap) : OX :=
cnd v10
 ((yx1 v1 v2 h))
 ((yl0 v1 v2 v9 h))
def y2ix (s : St) : OX := yiq (s 1) (s 2) (s 9) (s 10) s.h
theorem y1xr : T1 y175 y2i (y1 0 y2i xN) [.cell 2 true 4, .t 3] y2ix := fun s => (y1b (y23b s) (y1j5 s)).trans (by kernel_rfl)
def yl6 (v1 v2 v9 : AV) (h : Heap) : OX :=
ob (y5 .eql v9 (AV.int .i64 29)) fun v11 =>
(yiq v1 v2 v9 v11 h)
def y1wp (s : St) : OX := yl6 (s 1) (s 2) (s 9) s.h
theorem y1gf : T1 y18y y2i (y1 0 y2i xN) [.cell 2 true 4, .t 3] y1wp := sq y1xr fun _ => by kernel_rfl
theorem y1kj : T1 y143 y2i xN [.cell 2 true 4, .t 3] y1wp := fun s => yo.trans (y1gf s)
def yk1 (v1 v2 : AV) (h : Heap) : OX :=
ob (evFa 0 v1) fun v8 =>
ob (evLd false 1 v8 h) fun v9 =>
(yl6 v1 v2 v9 h)
def y1kk (s : St) : OX := yk1 (s 1) (s 2) s.h
theorem y1vp : T1 y16y y2i xN [.cell 2 true 4, .t 3] y1kk := sq y1kj fun _ => by kernel_rfl
theorem y1rq : T0 y139 [.cell 2 true 4, .t 3] y1kk := sq y28v y1vp
def yk0 (v0 : AV) (h : Heap) : OX :=
oh (newC 0 (some 0) (cellsOf v0) h) fun v1 h5 =>
oh (newC 0 (some 1) [(.int .i64 0), (.int .i64 0), (.int .i64 0), (.int .i64 0)] h5) fun v2 h6 =>
(yk1 v1 v2 h6)
def y2hd (s : St) : OX := yk0 (s 0) s.h
theorem y1zc : T0 yyu [.cell 2 true 4, .t 3] y2hd := sq y1rq fun _ => by kernel_rfl
@[simp] theorem y2ws : E.pure 51 = true := rfl
theorem y245 (v0 : AV) : (y8 E).p 51 [v0] = yk0 v0 [⟨0, .dead⟩, ⟨0, .dead⟩] :=
  (yz (cf := y2r0) (by kernel_rfl) rfl).trans ((y1zc _).trans (by kernel_rfl))
def yjt (v0 : AV) (h : Heap) : OX :=
ob (y5 .neq v0 (AV.str [])) fun v25 =>
gb v25 true (some v0) fun v27 =>
gb v25 true (yq 0 v27 h) fun v28 =>
gb v25 true (y5 .leq v28 (AV.int .i64 60)) fun v29 =>
ob (yb v25 v29 (AV.bool false)) fun v30 =>
(yc h v30)
def y7m (s : St) : OX := yjt (s 0) s.h
theorem y1oi : T0 y17y [.t 4] y7m := fun _ => by kernel_rfl
def yft (v0 v5 v6 : AV) (h : Heap) : OX :=
  W E 0 yjs ⟨[(0, v0), (5, v5), (6, v6)], h⟩ y7m (y1 0 y7m xN) (finP [.t 4])
def yci (s : St) : OX := yft (s 0) (s 5) (s 6) s.h
theorem yof : T1 yjs y7m (y1 0 y7m xN) [.t 4] yci := fun s => ye.trans (by kernel_rfl)
def y13m (v0 v5 v6 : AV) (h : Heap) : OX :=
ob (y5 .add v6 (AV.int .i64 1)) fun v15 =>
(yft v0 v5 v15 h)
def y2do (s : St) : OX := y13m (s 0) (s 5) (s 6) s.h
theorem y1w3 : T1 y14q yci (y1 0 y7m xN) [.t 4] y2do := fun _ => by kernel_rfl
def ytz (v0 v5 v6 : AV) (h : Heap) : OX :=
ob (y5 .add v6 (AV.int .i64 1)) fun v20 =>
ob (yfg v0 (some v6) (some v20)) fun v21 =>
oh (y7 E (y8 E) 0 none true 53 [v5, v21] h) fun v22 h1 =>
ob (evUn .not v22) fun v23 =>
cnd v23
 ((yc h1 (AV.bool false)))
 ((y13m v0 v5 v6 h1))
def y2i1 (s : St) : OX := ytz (s 0) (s 5) (s 6) s.h
theorem y1f8 : T1 y19s yci (y1 0 y7m xN) [.t 4] y2i1 := sq y1w3 fun _ => by kernel_rfl
def yrw (v0 v5 v6 : AV) (h : Heap) : OX :=
ob (yq 0 v0 h) fun v12 =>
ob (y5 .lss v6 v12) fun v13 =>
cnd v13
 ((ytz v0 v5 v6 h))
 ((yjt v0 h))
def y2kp (s : St) : OX := yrw (s 0) (s 5) (s 6) s.h
theorem y1hx : T1 y136 yci (y1 0 y7m xN) [.t 4] y2kp := sq y1f8 fun _ => by kernel_rfl
theorem ym0 (v0 v5 v6 : AV) (h : Heap) : yft v0 v5 v6 h = (yrw v0 v5 v6 h) :=
  y19.trans ((y12 _ _ _ (n' := yci) (fun s => yof s)).trans ((y1hx _).trans (by kernel_rfl)))
theorem y1nf : T1 y1af y7m xN [.t 4] yci := fun s => yo.trans (yof s)
def y13h (v0 v5 : AV) (h : Heap) : OX :=
(yft v0 v5 (AV.int .i64 0) h)
def y1zk (s : St) : OX := y13h (s 0) (s 5) s.h
theorem y1yh : T1 y12j y7m xN [.t 4] y1zk := sq y1nf fun _ => by kernel_rfl
theorem y1xy : T0 y120 [.t 4] y1zk := sq y1oi y1yh
def y1ro (v0 v1 v5 : AV) (h : Heap) : OX :=
cnd v1
 (ob (y5 .add v5 (AV.str [60, 62])) fun v9 =>
(y13h v0 v9 h))
 ((y13h v0 v5 h))
def y2kd (s : St) : OX := y1ro (s 0) (s 1) (s 5) s.h
theorem y1xi : T0 y19g [.t 4] y2kd := sq y1xy fun _ => by kernel_rfl
def yy9 (v0 v1 : AV) (h : Heap) : OX :=
(y1ro v0 v1 (AV.str [97, 98, 99, 100, 101, 102, 103, 104, 105, 106, 107, 108, 109, 110, 111, 112, 113, 114, 115, 116, 117, 118, 119, 120, 121, 122, 65, 66, 67, 68, 69, 70, 71, 72, 73, 74, 75, 76, 77, 78, 79, 80, 81, 82, 83, 84, 85, 86, 87, 88, 89, 90, 48, 49, 50, 51, 52, 53, 54, 55, 56, 57, 95, 36, 47]) h)
def y216 (s : St) : OX := yy9 (s 0) (s 1) s.h
theorem y1b9 : T0 yr1 [.t 4] y216 := sq y1xi fun _ => by kernel_rfl
def ypr (v0 v1 : AV) (h : Heap) : OX :=
(yy9 v0 v1 h)
def y23n (s : St) : OX := ypr (s 0) (s 1) s.h
theorem y1cx : T0 ysr [.t 4] y23n := sq y1b9 fun _ => by kernel_rfl
@[simp] theorem y2xb : E.pure 69 = true := rfl
theorem y2nq (v0 v1 : AV) : (y8 E).p 69 [v0, v1] = ypr v0 v1 [] :=
  (yz (cf := y2bm) (by kernel_rfl) rfl).trans ((y1cx _).trans (by kernel_rfl))
@[simp] theorem y2vd : E.pure 158 = true := rfl
def y2hu (v0 v1 : AV) (h : Heap) : OX :=
ob (y5 .and v0 (AV.int .u64 4294967295)) fun v15 =>
ob (y5 .shr v0 (AV.int .u64 32)) fun v17 =>
ob (y5 .and v1 (AV.int .u64 4294967295)) fun v19 =>
ob (y5 .shr v1 (AV.int .u64 32)) fun v21 =>
ob (y5 .mul v15 v19) fun v24 =>
ob (y5 .mul v17 v19) fun v27 =>
ob (y5 .shr v24 (AV.int .u64 32)) fun v29 =>
ob (y5 .add v27 v29) fun v30 =>
ob (y5 .and v30 (AV.int .u64 4294967295)) fun v32 =>
ob (y5 .shr v30 (AV.int .u64 32)) fun v34 =>
ob (y5 .mul v15 v21) fun v38 =>
ob (y5 .add v32 v38) fun v39 =>
ob (y5 .mul v17 v21) fun v42 =>
ob (y5 .add v42 v34) fun v44 =>
ob (y5 .shr v39 (AV.int .u64 32)) fun v46 =>
ob (y5 .add v44 v46) fun v47 =>
ob (y5 .mul v0 v1) fun v50 =>
(yc h (.tup [v47, v50]))
def y2ts (s : St) : OX := y2hu (s 0) (s 1) s.h
theorem y27k : T0 y1sf [.t 4, .t 5] y2ts := fun _ => by kernel_rfl
@[simp] theorem y2vg : E.pure 159 = true := rfl
theorem y2w2 (v0 v1 : AV) : (y8 E).p 159 [v0, v1] = y2hu v0 v1 [] :=
  (yz (cf := y2rs) (by kernel_rfl) rfl).trans ((y27k _).trans (by kernel_rfl))
def q9_1 (h : Heap) : OX :=
(yc h (AV.int .i64 0))
def y3s (s : St) : OX := q9_1 s.h
theorem y2dh : T0 y2c3 [.t 2] y3s := fun _ => by kernel_rfl
def y1py (v0 v3 v4 : AV) (h : Heap) : OX :=
  W E 0 yye ⟨[(0, v0), (3, v3), (4, v4)], h⟩ y3s (y1 3 y3s (y1 2 y3s xN)) (finP [.t 2])
def yoq (s : St) : OX := y1py (s 0) (s 3) (s 4) s.h
theorem y11l : T1 yye y3s (y1 3 y3s (y1 2 y3s xN)) [.t 2] yoq := fun s => ye.trans (by kernel_rfl)
def q9_3 (v0 v3 v4 : AV) (h : Heap) : OX :=
ob (y5 .add v4 (AV.int .i64 1)) fun v42 =>
(y1py v0 v3 v42 h)
def yli (s : St) : OX := q9_3 (s 0) (s 3) (s 4) s.h
theorem y2j0 : T1 y2ad yoq (y1 3 y3s (y1 2 y3s xN)) [.t 2] yli := fun _ => by kernel_rfl
def q9_4 (h : Heap) : OX :=
(yc h (AV.int .i64 0))
def y2yj (s : St) : OX := q9_4 s.h
theorem y2lr : T1 y2cr yli (y1 4 yli (y1 3 y3s (y1 2 y3s xN))) [.t 2] y2yj := fun _ => by kernel_rfl
def q9_5 (v0 v3 v4 : AV) (h : Heap) : OX :=
ob (y5 .add v3 (AV.int .i64 1)) fun v49 =>
ob (yfg v0 (some v49) (some v4)) fun v51 =>
oh (y7 E (y8 E) 0 none true 60 [v51, (AV.bool false)] h) fun v52 h1 =>
cnd v52
 (ob (y5 .add v4 (AV.int .i64 1)) fun v54 =>
(yc h1 v54))
 ((q9_4 h1))
def y2wv (s : St) : OX := q9_5 (s 0) (s 3) (s 4) s.h
theorem y2dq : T1 y2ax yli (y1 4 yli (y1 3 y3s (y1 2 y3s xN))) [.t 2] y2wv := sq y2lr fun _ => by kernel_rfl
def q9_6 (v0 v3 v4 v46 : AV) (h : Heap) : OX :=
cnd v46
 ((q9_5 v0 v3 v4 h))
 ((q9_3 v0 v3 v4 h))
def y2vq (s : St) : OX := q9_6 (s 0) (s 3) (s 4) (s 46) s.h
theorem y2my : T1 y2ae yli (y1 4 yli (y1 3 y3s (y1 2 y3s xN))) [.t 2] y2vq := fun s => (y1b (y2dq s) rfl).trans (by kernel_rfl)
def q9_7 (v0 v3 v4 : AV) (h : Heap) : OX :=
ob (y62 v0 v4) fun v45 =>
ob (y5 .eql v45 (AV.int .u8 59)) fun v46 =>
(q9_6 v0 v3 v4 v46 h)
def y2jr (s : St) : OX := q9_7 (s 0) (s 3) (s 4) s.h
theorem y2ku : T1 y2bc yli (y1 4 yli (y1 3 y3s (y1 2 y3s xN))) [.t 2] y2jr := sq y2my fun _ => by kernel_rfl
theorem y2iu : T1 y2d9 yli (y1 3 y3s (y1 2 y3s xN)) [.t 2] y2jr := fun s => yo.trans (y2ku s)
theorem y2eb : T1 y2as yoq (y1 3 y3s (y1 2 y3s xN)) [.t 2] y2jr := sq y2j0 y2iu
def y1d6 (v0 v3 v4 : AV) (h : Heap) : OX :=
ob (yq 0 v0 h) fun v39 =>
ob (y5 .lss v4 v39) fun v40 =>
cnd v40
 ((q9_7 v0 v3 v4 h))
 ((q9_1 h))
def y2r5 (s : St) : OX := y1d6 (s 0) (s 3) (s 4) s.h
theorem y25d : T1 y1gx yoq (y1 3 y3s (y1 2 y3s xN)) [.t 2] y2r5 := sq y2eb fun _ => by kernel_rfl
theorem y13q (v0 v3 v4 : AV) (h : Heap) : y1py v0 v3 v4 h = (y1d6 v0 v3 v4 h) :=
  y19.trans ((y12 _ _ _ (n' := yoq) (fun s => y11l s)).trans ((y25d _).trans (by kernel_rfl)))
theorem y29q : T1 y1zo y3s (y1 2 y3s xN) [.t 2] yoq := fun s => yo.trans (y11l s)
def y2dk (v0 v3 : AV) (h : Heap) : OX :=
ob (y5 .add v3 (AV.int .i64 1)) fun v36 =>
(y1py v0 v3 v36 h)
def y2o4 (s : St) : OX := y2dk (s 0) (s 3) s.h
theorem y20p : T1 y1qs y3s (y1 2 y3s xN) [.t 2] y2o4 := sq y29q fun _ => by kernel_rfl
def y27j (v0 v3 v33 : AV) (h : Heap) : OX :=
cnd v33
 ((y2dk v0 v3 h))
 ((q9_1 h))
def y2q7 (s : St) : OX := y27j (s 0) (s 3) (s 33) s.h
theorem y23e : T1 y1fp y3s (y1 2 y3s xN) [.t 2] y2q7 := fun s => (y1b (y20p s) rfl).trans (by kernel_rfl)
def y27o (v0 v3 v27 : AV) (h : Heap) : OX :=
ob (y5 .eql v27 (AV.int .u8 76)) fun v34 =>
(y27j v0 v3 v34 h)
def y2s8 (s : St) : OX := y27o (s 0) (s 3) (s 27) s.h
theorem y265 : T1 y1yf y3s (y1 2 y3s xN) [.t 2] y2s8 := sq y23e fun _ => by kernel_rfl
def yyg (v0 v3 v27 v28 : AV) (h : Heap) : OX :=
cnd v28
 (ob (y5 .add v3 (AV.int .i64 1)) fun v32 =>
(yc h v32))
 ((y27o v0 v3 v27 h))
def y2tc (s : St) : OX := yyg (s 0) (s 3) (s 27) (s 28) s.h
theorem y25q : T1 y1rt y3s (y1 2 y3s xN) [.t 2] y2tc := fun s => (y1b rfl (y265 s)).trans (by kernel_rfl)
def y1cq (v0 v3 v27 : AV) (h : Heap) : OX :=
ob (y5 .eql v27 (AV.int .u8 73)) fun v29 =>
cnd v29
 ((yyg v0 v3 v27 v29 h))
 (ob (y5 .eql v27 (AV.int .u8 74)) fun v30 =>
(yyg v0 v3 v27 v30 h))
def y2c0 (s : St) : OX := y1cq (s 0) (s 3) (s 27) s.h
theorem y226 : T1 y1ey y3s (y1 2 y3s xN) [.t 2] y2c0 := sq y25q fun _ => by kernel_rfl
theorem y25z : T1 y1r7 y3s xN [.t 2] y2c0 := fun s => yo.trans (y226 s)
def y1dc (v0 v3 : AV) (h : Heap) : OX :=
ob (y62 v0 v3) fun v27 =>
(y1cq v0 v3 v27 h)
def y2cp (s : St) : OX := y1dc (s 0) (s 3) s.h
theorem y237 : T1 y1ly y3s xN [.t 2] y2cp := sq y25z fun _ => by kernel_rfl
theorem y2a1 : T0 y1vt [.t 2] y2cp := sq y2dh y237
def ylq (v0 v3 : AV) (h : Heap) : OX :=
ob (y5 .gtr v3 (AV.int .i64 8)) fun v18 =>
gb v18 false (some v3) fun v20 =>
gb v18 false (some v0) fun v21 =>
gb v18 false (yq 0 v21 h) fun v22 =>
gb v18 false (y5 .eql v20 v22) fun v23 =>
ob (yb v18 (AV.bool true) v23) fun v24 =>
cnd v24
 ((yc h (AV.int .i64 0)))
 ((y1dc v0 v3 h))
def ygz (s : St) : OX := ylq (s 0) (s 3) s.h
theorem y25o : T0 y1ga [.t 2] ygz := sq y2a1 fun _ => by kernel_rfl
def yqx (v0 v3 : AV) (h : Heap) : OX :=
  W E 0 ypk ⟨[(0, v0), (3, v3)], h⟩ ygz (y1 0 ygz xN) (finP [.t 2])
def yg7 (s : St) : OX := yqx (s 0) (s 3) s.h
theorem yu2 : T1 ypk ygz (y1 0 ygz xN) [.t 2] yg7 := fun s => ye.trans (by kernel_rfl)
def y2lv (v0 v3 : AV) (h : Heap) : OX :=
ob (y5 .add v3 (AV.int .i64 1)) fun v16 =>
(yqx v0 v16 h)
def y2op (s : St) : OX := y2lv (s 0) (s 3) s.h
theorem y23o : T1 y1q4 yg7 (y1 0 ygz xN) [.t 2] y2op := fun _ => by kernel_rfl
def y1t6 (v0 v3 : AV) (h : Heap) : OX :=
ob (yq 0 v0 h) fun v7 =>
ob (y5 .lss v3 v7) fun v8 =>
gb v8 true (some v0) fun v10 =>
gb v8 true (some v3) fun v11 =>
gb v8 true (y62 v10 v11) fun v12 =>
gb v8 true (y5 .eql v12 (AV.int .u8 91)) fun v13 =>
ob (yb v8 v13 (AV.bool false)) fun v14 =>
cnd v14
 ((y2lv v0 v3 h))
 ((ylq v0 v3 h))
def y2rr (s : St) : OX := y1t6 (s 0) (s 3) s.h
theorem y29p : T1 y1my yg7 (y1 0 ygz xN) [.t 2] y2rr := sq y23o fun _ => by kernel_rfl
theorem yqt (v0 v3 : AV) (h : Heap) : yqx v0 v3 h = (y1t6 v0 v3 h) :=
  y19.trans ((y12 _ _ _ (n' := yg7) (fun s => yu2 s)).trans ((y29p _).trans (by kernel_rfl)))
theorem y20j : T1 y1t4 ygz xN [.t 2] yg7 := fun s => yo.trans (yu2 s)
theorem y28n : T0 y1v8 [.t 2] yg7 := sq y25o y20j
def y2kl (v0 : AV) (h : Heap) : OX :=
(yqx v0 (AV.int .i64 0) h)
def y2rq (s : St) : OX := y2kl (s 0) s.h
theorem y24n : T0 y1q9 [.t 2] y2rq := sq y28n fun _ => by kernel_rfl
def y2gt (v0 : AV) (h : Heap) : OX :=
(y2kl v0 h)
def y2se (s : St) : OX := y2gt (s 0) s.h
theorem y21a : T0 y1oj [.t 2] y2se := sq y24n fun _ => by kernel_rfl
@[simp] theorem y2x7 : E.pure 44 = true := rfl
theorem x_q9 (v0 : AV) : (y8 E).p 44 [v0] = y2gt v0 [] :=
  (yz (cf := c_q9) (by kernel_rfl) rfl).trans ((y21a _).trans (by kernel_rfl))
def q7_1 (h : Heap) : OX :=
(yc h (AV.bool true))
def yio (s : St) : OX := q7_1 s.h
theorem y2kb : T0 y2cd [.t 4] yio := fun _ => by kernel_rfl
def y1t5 (v1 v17 v18 v19 : AV) (h : Heap) : OX :=
  W E 0 ywa ⟨[(1, v1), (17, v17), (18, v18), (19, v19)], h⟩ yio (y1 0 yio xN) (finP [.t 4])
def ykf (s : St) : OX := y1t5 (s 1) (s 17) (s 18) (s 19) s.h
theorem y18v : T1 ywa yio (y1 0 yio xN) [.t 4] ykf := fun s => ye.trans (by kernel_rfl)
def q7_3 (v1 v17 v18 v19 : AV) (h : Heap) : OX :=
ob (y5 .add v19 (AV.int .i64 1)) fun v71 =>
(y1t5 v1 v17 v18 v71 h)
def y2y3 (s : St) : OX := q7_3 (s 1) (s 17) (s 18) (s 19) s.h
theorem y2k5 : T1 y2d1 ykf (y1 0 yio xN) [.t 4] y2y3 := fun _ => by kernel_rfl
def q7_4 (v1 v17 v18 v19 : AV) (h : Heap) : OX :=
ob (yi 1 v17 v19) fun v21 =>
ob (evLd false 1 v21 h) fun v22 =>
ob (y5 .geq v22 (AV.int .u8 97)) fun v24 =>
gb v24 true (some v22) fun v26 =>
gb v24 true (y5 .leq v26 (AV.int .u8 122)) fun v27 =>
ob (yb v24 v27 (AV.bool false)) fun v28 =>
gb v28 false (some v22) fun v30 =>
gb v28 false (y5 .geq v30 (AV.int .u8 65)) fun v31 =>
gb v28 false (some v31) fun v32 =>
gb v32 true (some v22) fun v33 =>
gb v32 true (y5 .leq v33 (AV.int .u8 90)) fun v34 =>
gb v28 false (yb v32 v34 (AV.bool false)) fun v35 =>
ob (yb v28 (AV.bool true) v35) fun v36 =>
gb v36 false (some v22) fun v38 =>
gb v36 false (y5 .geq v38 (AV.int .u8 48)) fun v39 =>
gb v36 false (some v39) fun v40 =>
gb v40 true (some v22) fun v41 =>
gb v40 true (y5 .leq v41 (AV.int .u8 57)) fun v42 =>
gb v36 false (yb v40 v42 (AV.bool false)) fun v43 =>
ob (yb v36 (AV.bool true) v43) fun v44 =>
gb v44 false (some v22) fun v46 =>
gb v44 false (y5 .eql v46 (AV.int .u8 95)) fun v47 =>
ob (yb v44 (AV.bool true) v47) fun v48 =>
gb v48 false (some v22) fun v50 =>
gb v48 false (y5 .eql v50 (AV.int .u8 36)) fun v51 =>
ob (yb v48 (AV.bool true) v51) fun v52 =>
gb v52 false (some v22) fun v54 =>
gb v52 false (y5 .eql v54 (AV.int .u8 47)) fun v55 =>
ob (yb v52 (AV.bool true) v55) fun v56 =>
ob (evUn .not v56) fun v58 =>
gb v58 true (some v1) fun v60 =>
gb v58 true (some v60) fun v61 =>
gb v61 true (some v22) fun v62 =>
gb v61 true (y5 .eql v62 (AV.int .u8 60)) fun v63 =>
gb v61 true (some v63) fun v64 =>
gb v64 false (some v22) fun v65 =>
gb v64 false (y5 .eql v65 (AV.int .u8 62)) fun v66 =>
gb v61 true (yb v64 (AV.bool true) v66) fun v67 =>
gb v58 true (yb v61 v67 (AV.bool false)) fun v68 =>
gb v58 true (evUn .not v68) fun v69 =>
ob (yb v58 v69 (AV.bool false)) fun v70 =>
cnd v70
 ((yc h (AV.bool false)))
 ((q7_3 v1 v17 v18 v19 h))
def y2vx (s : St) : OX := q7_4 (s 1) (s 17) (s 18) (s 19) s.h
theorem y2l5 : T1 y2d0 ykf (y1 0 yio xN) [.t 4] y2vx := sq y2k5 fun _ => by kernel_rfl
def q7_5 (v1 v17 v18 v19 v20 : AV) (h : Heap) : OX :=
cnd v20
 ((q7_4 v1 v17 v18 v19 h))
 ((q7_1 h))
def y2wm (s : St) : OX := q7_5 (s 1) (s 17) (s 18) (s 19) (s 20) s.h
theorem y2he : T1 y2b2 ykf (y1 0 yio xN) [.t 4] y2wm := sq y2l5 fun _ => by kernel_rfl
def q7_6 (v1 v17 v18 v19 : AV) (h : Heap) : OX :=
ob (y5 .lss v19 v18) fun v20 =>
(q7_5 v1 v17 v18 v19 v20 h)
def y2yt (s : St) : OX := q7_6 (s 1) (s 17) (s 18) (s 19) s.h
theorem y2mw : T1 y2co ykf (y1 0 yio xN) [.t 4] y2yt := sq y2he fun _ => by kernel_rfl
theorem y165 (v1 v17 v18 v19 : AV) (h : Heap) : y1t5 v1 v17 v18 v19 h = (q7_6 v1 v17 v18 v19 h) :=
  y19.trans ((y12 _ _ _ (n' := ykf) (fun s => y18v s)).trans ((y2mw _).trans (by kernel_rfl)))
theorem y2i4 : T1 y2d2 yio xN [.t 4] ykf := fun s => yo.trans (y18v s)
def q7_8 (v0 v1 : AV) (h : Heap) : OX :=
oh (s2bC 0 (some 0) v0 h) fun v17 h1 =>
ob (yq 1 v17 h1) fun v18 =>
(y1t5 v1 v17 v18 (AV.int .i64 0) h1)
def y2rk (s : St) : OX := q7_8 (s 0) (s 1) s.h
theorem y2dd : T1 y2ce yio xN [.t 4] y2rk := sq y2i4 fun _ => by kernel_rfl
theorem y2i0 : T0 y2ah [.t 4] y2rk := sq y2kb y2dd
def y1jg (v0 v1 : AV) (h : Heap) : OX :=
ob (yq 0 v0 h) fun v9 =>
ob (y5 .lss v9 (AV.int .i64 1)) fun v10 =>
gb v10 false (some v0) fun v12 =>
gb v10 false (yq 0 v12 h) fun v13 =>
gb v10 false (y5 .gtr v13 (AV.int .i64 60)) fun v14 =>
ob (yb v10 (AV.bool true) v14) fun v15 =>
cnd v15
 ((yc h (AV.bool false)))
 ((q7_8 v0 v1 h))
def y2u1 (s : St) : OX := y1jg (s 0) (s 1) s.h
theorem y24m : T0 y1un [.t 4] y2u1 := sq y2i0 fun _ => by kernel_rfl
def y1ty (v0 v1 : AV) (h : Heap) : OX :=
(y1jg v0 v1 h)
def y2p8 (s : St) : OX := y1ty (s 0) (s 1) s.h
theorem y29s : T0 y1ii [.t 4] y2p8 := sq y24m fun _ => by kernel_rfl
@[simp] theorem y2xg : E.pure 60 = true := rfl
theorem x_q7 (v0 v1 : AV) : (y8 E).p 60 [v0, v1] = y1ty v0 v1 [⟨0, .dead⟩] :=
  (yz (cf := c_q7) (by kernel_rfl) rfl).trans ((y29s _).trans (by kernel_rfl))
end
end Go.Vm
