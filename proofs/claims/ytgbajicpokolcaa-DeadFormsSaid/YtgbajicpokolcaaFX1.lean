/- Functions of the machine as plain functions that go on with what follows. -/
import Derived.Test.YtgbajicpokolcaaFEnv
set_option linter.unusedSimpArgs false
set_option linter.unusedVariables false
set_option linter.unusedSectionVars false
namespace Go.Vm
noncomputable section
def y2v (h : Heap) : OX :=
(ye h (AV.bool true))
def y10 (s : St) : OX := y2v s.h
theorem y1vm : T0 yxn [.t 4] y10 := fun _ => by kernel_rfl
def y2q (v2 v3 : AV) (h : Heap) : OX :=
ob (evFa 2 v3) fun v215 =>
ob (evLd false 1 v215 h) fun v216 =>
ob (y7 .neq v216 (AV.int .i64 (-1))) fun v217 =>
ofp (fgd v217 true (some (ids1 v2, []))) fun f4 =>
gb v217 true (evLd true 5 v2 h) fun v219 =>
ofp (fgd v217 true (some ([], []))) fun f5 =>
gb v217 true (evFa 2 v3) fun v220 =>
ofp (fgd v217 true (some (ids1 v220, []))) fun f6 =>
gb v217 true (evLd false 1 v220 h) fun v221 =>
ofp (fgd v217 true (y5j E (y9 E) 0 none true 48 [v219, v221] h)) fun f7 =>
gh v217 true (y8 E (y9 E) 0 none true 48 [v219, v221] h) h fun v222 h1 =>
ofp (fgd v217 true (some ([], []))) fun f8 =>
gb v217 true (evFa 2 v2) fun v223 =>
ofp (fgd v217 true (some (ids1 v223, []))) fun f9 =>
gb v217 true (evLd false 1 v223 h1) fun v224 =>
ofp (fgd v217 true (some ([], []))) fun f10 =>
gb v217 true (y7 .eql v222 v224) fun v225 =>
ob (yd v217 v225 (AV.bool false)) fun v226 =>
okK (yf [([], []), (ids1 v215, []), ([], []), ([], []), f4, f5, f6, f7, f8, f9, f10, ([], []), ([], [])] [(7, 9)]) <|
(ye h1 v226)
def y2ed (s : St) : OX := y2q (s 2) (s 3) s.h
theorem y1mf : T1 y13j y10 (y5 2 y10 xN) [.t 4] y2ed := fun _ => by kernel_rfl
def y2u (v2 v3 : AV) (h : Heap) : OX :=
ob (evFa 2 v2) fun v209 =>
ob (evLd false 1 v209 h) fun v210 =>
ob (y7 .eql v210 (AV.int .i64 0)) fun v211 =>
cnd v211
 (ob (evFa 2 v3) fun v212 =>
ob (evLd false 1 v212 h) fun v213 =>
ob (y7 .eql v213 (AV.int .i64 (-1))) fun v214 =>
(ye h v214))
 ((y2q v2 v3 h))
def y2bv (s : St) : OX := y2u (s 2) (s 3) s.h
theorem y1ja : T1 y14t y10 (y5 2 y10 xN) [.t 4] y2bv := sq y1mf fun _ => by kernel_rfl
def y2w (v2 v3 v207 : AV) (h : Heap) : OX :=
cnd v207
 ((y2u v2 v3 h))
 ((y2v h))
def y2b8 (s : St) : OX := y2w (s 2) (s 3) (s 207) s.h
theorem y1lb : T1 ywj y10 (y5 2 y10 xN) [.t 4] y2b8 := fun s => (y1g (y1ja s) rfl).trans (by kernel_rfl)
def y2r (v2 v3 v55 : AV) (h : Heap) : OX :=
ob (y7 .eql v55 (AV.int .i64 30)) fun v208 =>
(y2w v2 v3 v208 h)
def y29r (s : St) : OX := y2r (s 2) (s 3) (s 55) s.h
theorem y1cb : T1 y17m y10 (y5 2 y10 xN) [.t 4] y29r := sq y1lb fun _ => by kernel_rfl
def y2t (v2 v3 v55 v179 : AV) (h : Heap) : OX :=
cnd v179
 (ob (evFa 5 v3) fun v181 =>
ob (evLd false 1 v181 h) fun v182 =>
ob (y7 .eql v182 (AV.int .i64 0)) fun v183 =>
gb v183 false (evFa 5 v3) fun v185 =>
gb v183 false (evLd false 1 v185 h) fun v186 =>
gb v183 false (y7 .eql v186 (AV.int .i64 1)) fun v187 =>
ob (yd v183 (AV.bool true) v187) fun v188 =>
gb v188 true (evFa 3 v3) fun v190 =>
gb v188 true (evLd false 1 v190 h) fun v191 =>
gb v188 true (y7 .eql v191 (AV.int .i64 (-1))) fun v192 =>
gb v188 true (some v192) fun v193 =>
gb v193 false (evLd true 5 v2 h) fun v194 =>
gb v193 false (evFa 3 v3) fun v195 =>
gb v193 false (evLd false 1 v195 h) fun v196 =>
gh v193 false (y8 E (y9 E) 0 none true 48 [v194, v196] h) h fun v197 h2 =>
gb v193 false (y7 .eql v197 (AV.int .i64 3)) fun v198 =>
gb v188 true (yd v193 (AV.bool true) v198) fun v199 =>
ob (yd v188 v199 (AV.bool false)) fun v200 =>
gb v200 true (evLd true 5 v2 h2) fun v202 =>
gb v200 true (evFa 6 v3) fun v203 =>
gb v200 true (evLd false 1 v203 h2) fun v204 =>
gh v200 true (y8 E (y9 E) 0 none true 49 [v202, v204] h2) h2 fun v205 h3 =>
ob (yd v200 v205 (AV.bool false)) fun v206 =>
(ye h3 v206))
 ((y2r v2 v3 v55 h))
def y2eq (s : St) : OX := y2t (s 2) (s 3) (s 55) (s 179) s.h
theorem y1hr : T1 y15x y10 (y5 2 y10 xN) [.t 4] y2eq := fun s => (y1g rfl (y1cb s)).trans (by kernel_rfl)
def y2s (v2 v3 v55 : AV) (h : Heap) : OX :=
ob (y7 .eql v55 (AV.int .i64 29)) fun v180 =>
(y2t v2 v3 v55 v180 h)
def y2ch (s : St) : OX := y2s (s 2) (s 3) (s 55) s.h
theorem y1tg : T1 ywu y10 (y5 2 y10 xN) [.t 4] y2ch := sq y1hr fun _ => by kernel_rfl
def y2x (v2 v3 v55 v173 : AV) (h : Heap) : OX :=
cnd v173
 (ob (evLd true 5 v2 h) fun v175 =>
ob (evFa 6 v3) fun v176 =>
ob (evLd false 1 v176 h) fun v177 =>
oh (y8 E (y9 E) 0 none true 49 [v175, v177] h) fun v178 h4 =>
(ye h4 v178))
 ((y2s v2 v3 v55 h))
def y2dr (s : St) : OX := y2x (s 2) (s 3) (s 55) (s 173) s.h
theorem y1rg : T1 y160 y10 (y5 2 y10 xN) [.t 4] y2dr := fun s => (y1g rfl (y1tg s)).trans (by kernel_rfl)
def y2p (v2 v3 v55 : AV) (h : Heap) : OX :=
ob (y7 .eql v55 (AV.int .i64 27)) fun v174 =>
(y2x v2 v3 v55 v174 h)
def y2dt (s : St) : OX := y2p (s 2) (s 3) (s 55) s.h
theorem y1n2 : T1 yxk y10 (y5 2 y10 xN) [.t 4] y2dt := sq y1rg fun _ => by kernel_rfl
def y23 (v2 v3 v55 v157 : AV) (h : Heap) : OX :=
cnd v157
 (ob (evFa 5 v3) fun v159 =>
ob (evLd false 1 v159 h) fun v160 =>
ob (y7 .geq v160 (AV.int .i64 0)) fun v161 =>
gb v161 true (evFa 5 v3) fun v163 =>
gb v161 true (evLd false 1 v163 h) fun v164 =>
gb v161 true (y7 .leq v164 (AV.int .i64 5)) fun v165 =>
ob (yd v161 v165 (AV.bool false)) fun v166 =>
gb v166 true (evLd true 5 v2 h) fun v168 =>
gb v166 true (evFa 6 v3) fun v169 =>
gb v166 true (evLd false 1 v169 h) fun v170 =>
gh v166 true (y8 E (y9 E) 0 none true 49 [v168, v170] h) h fun v171 h5 =>
ob (yd v166 v171 (AV.bool false)) fun v172 =>
(ye h5 v172))
 ((y2p v2 v3 v55 h))
def y1xd (s : St) : OX := y23 (s 2) (s 3) (s 55) (s 157) s.h
theorem y1bm : T1 ypo y10 (y5 2 y10 xN) [.t 4] y1xd := fun s => (y1g rfl (y1n2 s)).trans (by kernel_rfl)
def y22 (v2 v3 v55 : AV) (h : Heap) : OX :=
ob (y7 .eql v55 (AV.int .i64 28)) fun v158 =>
(y23 v2 v3 v55 v158 h)
def y1zd (s : St) : OX := y22 (s 2) (s 3) (s 55) s.h
theorem y1bw : T1 yrc y10 (y5 2 y10 xN) [.t 4] y1zd := sq y1bm fun _ => by kernel_rfl
def y1j (v2 v3 v55 v149 : AV) (h : Heap) : OX :=
cnd v149
 (ob (evLd true 5 v2 h) fun v154 =>
ob (evLd true 9 v3 h) fun v155 =>
oh (y8 E (y9 E) 0 none true 68 [v154, v155] h) fun v156 h6 =>
(ye h6 v156))
 ((y22 v2 v3 v55 h))
def y21e (s : St) : OX := y1j (s 2) (s 3) (s 55) (s 149) s.h
theorem y1bb : T1 ypi y10 (y5 2 y10 xN) [.t 4] y21e := fun s => (y1g rfl (y1bw s)).trans (by kernel_rfl)
def y1z (v2 v3 v55 : AV) (h : Heap) : OX :=
ob (y7 .eql v55 (AV.int .i64 23)) fun v150 =>
cnd v150
 ((y1j v2 v3 v55 v150 h))
 (ob (y7 .eql v55 (AV.int .i64 24)) fun v151 =>
cnd v151
 ((y1j v2 v3 v55 v151 h))
 (ob (y7 .eql v55 (AV.int .i64 25)) fun v152 =>
cnd v152
 ((y1j v2 v3 v55 v152 h))
 (ob (y7 .eql v55 (AV.int .i64 26)) fun v153 =>
(y1j v2 v3 v55 v153 h))))
def y25s (s : St) : OX := y1z (s 2) (s 3) (s 55) s.h
theorem y19k : T1 yq1 y10 (y5 2 y10 xN) [.t 4] y25s := sq y1bb fun _ => by kernel_rfl
def y1q (v2 v3 v55 v143 : AV) (h : Heap) : OX :=
cnd v143
 (ob (evFa 5 v3) fun v146 =>
ob (evLd false 1 v146 h) fun v147 =>
ob (y7 .geq v147 (AV.int .i64 0)) fun v148 =>
(ye h v148))
 ((y1z v2 v3 v55 h))
def y258 (s : St) : OX := y1q (s 2) (s 3) (s 55) (s 143) s.h
theorem y1ba : T1 yru y10 (y5 2 y10 xN) [.t 4] y258 := fun s => (y1g rfl (y19k s)).trans (by kernel_rfl)
def y1v (v2 v3 v55 : AV) (h : Heap) : OX :=
ob (y7 .eql v55 (AV.int .i64 16)) fun v144 =>
cnd v144
 ((y1q v2 v3 v55 v144 h))
 (ob (y7 .eql v55 (AV.int .i64 17)) fun v145 =>
(y1q v2 v3 v55 v145 h))
def y22f (s : St) : OX := y1v (s 2) (s 3) (s 55) s.h
theorem y1b7 : T1 yta y10 (y5 2 y10 xN) [.t 4] y22f := sq y1ba fun _ => by kernel_rfl
def y1l (v2 v3 v55 v136 : AV) (h : Heap) : OX :=
cnd v136
 (ob (evFa 7 v3) fun v140 =>
ob (evLd false 1 v140 h) fun v141 =>
oh (y8 E (y9 E) 0 none true 67 [v141] h) fun v142 h7 =>
(ye h7 v142))
 ((y1v v2 v3 v55 h))
def y22z (s : St) : OX := y1l (s 2) (s 3) (s 55) (s 136) s.h
theorem y18r : T1 yt4 y10 (y5 2 y10 xN) [.t 4] y22z := fun s => (y1g rfl (y1b7 s)).trans (by kernel_rfl)
def y1x (v2 v3 v55 : AV) (h : Heap) : OX :=
ob (y7 .eql v55 (AV.int .i64 12)) fun v137 =>
cnd v137
 ((y1l v2 v3 v55 v137 h))
 (ob (y7 .eql v55 (AV.int .i64 21)) fun v138 =>
cnd v138
 ((y1l v2 v3 v55 v138 h))
 (ob (y7 .eql v55 (AV.int .i64 22)) fun v139 =>
(y1l v2 v3 v55 v139 h)))
def y1xl (s : St) : OX := y1x (s 2) (s 3) (s 55) s.h
theorem y19c : T1 ysx y10 (y5 2 y10 xN) [.t 4] y1xl := sq y18r fun _ => by kernel_rfl
def y1w (v2 v3 v8 v9 v10 v55 v112 : AV) (h : Heap) : OX :=
cnd v112
 (ob (y7 .gtr v8 (AV.int .i64 0)) fun v115 =>
gb v115 true (some v9) fun v117 =>
gb v115 true (y7 .eql v117 (AV.int .i64 0)) fun v118 =>
ob (yd v115 v118 (AV.bool false)) fun v119 =>
gb v119 true (evLd true 5 v2 h) fun v121 =>
gb v119 true (evFa 1 v3) fun v122 =>
gb v119 true (evLd false 1 v122 h) fun v123 =>
gh v119 true (y8 E (y9 E) 0 none true 48 [v121, v123] h) h fun v124 h8 =>
gb v119 true (some v10) fun v125 =>
gb v119 true (y7 .eql v124 v125) fun v126 =>
ob (yd v119 v126 (AV.bool false)) fun v127 =>
gb v127 true (evLd true 5 v2 h8) fun v129 =>
gb v127 true (evFa 2 v3) fun v130 =>
gb v127 true (evLd false 1 v130 h8) fun v131 =>
gh v127 true (y8 E (y9 E) 0 none true 48 [v129, v131] h8) h8 fun v132 h9 =>
gb v127 true (some v8) fun v133 =>
gb v127 true (y7 .eql v132 v133) fun v134 =>
ob (yd v127 v134 (AV.bool false)) fun v135 =>
(ye h9 v135))
 ((y1x v2 v3 v55 h))
def y23r (s : St) : OX := y1w (s 2) (s 3) (s 8) (s 9) (s 10) (s 55) (s 112) s.h
theorem y18u : T1 ys5 y10 (y5 2 y10 xN) [.t 4] y23r := fun s => (y1g rfl (y19c s)).trans (by kernel_rfl)
def y1y (v2 v3 v8 v9 v10 v55 : AV) (h : Heap) : OX :=
ob (y7 .eql v55 (AV.int .i64 6)) fun v113 =>
(y1w v2 v3 v8 v9 v10 v55 v113 h)
def y1xj (s : St) : OX := y1y (s 2) (s 3) (s 8) (s 9) (s 10) (s 55) s.h
theorem y1ah : T1 ytj y10 (y5 2 y10 xN) [.t 4] y1xj := sq y18u fun _ => by kernel_rfl
def y21 (v2 v3 v8 v9 v10 v55 v84 : AV) (h : Heap) : OX :=
cnd v84
 (ob (y7 .gtr v9 (AV.int .i64 0)) fun v87 =>
gb v87 true (evLd true 5 v2 h) fun v89 =>
gb v87 true (evFa 1 v3) fun v90 =>
gb v87 true (evLd false 1 v90 h) fun v91 =>
gh v87 true (y8 E (y9 E) 0 none true 48 [v89, v91] h) h fun v92 h10 =>
gb v87 true (some v10) fun v93 =>
gb v87 true (y7 .eql v92 v93) fun v94 =>
ob (yd v87 v94 (AV.bool false)) fun v95 =>
gb v95 true (evLd true 5 v2 h10) fun v97 =>
gb v95 true (evFa 2 v3) fun v98 =>
gb v95 true (evLd false 1 v98 h10) fun v99 =>
gh v95 true (y8 E (y9 E) 0 none true 48 [v97, v99] h10) h10 fun v100 h11 =>
gb v95 true (some v8) fun v101 =>
gb v95 true (y7 .eql v100 v101) fun v102 =>
ob (yd v95 v102 (AV.bool false)) fun v103 =>
gb v103 true (evLd true 5 v2 h11) fun v105 =>
gb v103 true (evFa 3 v3) fun v106 =>
gb v103 true (evLd false 1 v106 h11) fun v107 =>
gh v103 true (y8 E (y9 E) 0 none true 48 [v105, v107] h11) h11 fun v108 h12 =>
gb v103 true (some v9) fun v109 =>
gb v103 true (y7 .eql v108 v109) fun v110 =>
ob (yd v103 v110 (AV.bool false)) fun v111 =>
(ye h12 v111))
 ((y1y v2 v3 v8 v9 v10 v55 h))
def y1z5 (s : St) : OX := y21 (s 2) (s 3) (s 8) (s 9) (s 10) (s 55) (s 84) s.h
theorem y19y : T1 yre y10 (y5 2 y10 xN) [.t 4] y1z5 := fun s => (y1g rfl (y1ah s)).trans (by kernel_rfl)
def y20 (v2 v3 v8 v9 v10 v55 : AV) (h : Heap) : OX :=
ob (y7 .eql v55 (AV.int .i64 5)) fun v85 =>
(y21 v2 v3 v8 v9 v10 v55 v85 h)
def y226 (s : St) : OX := y20 (s 2) (s 3) (s 8) (s 9) (s 10) (s 55) s.h
theorem y1bl : T1 ysc y10 (y5 2 y10 xN) [.t 4] y226 := sq y19y fun _ => by kernel_rfl
def y1p (v2 v3 v8 v9 v10 v55 v73 : AV) (h : Heap) : OX :=
cnd v73
 (ob (evLd true 5 v2 h) fun v75 =>
ob (evFa 1 v3) fun v76 =>
ob (evLd false 1 v76 h) fun v77 =>
ofp (y5j E (y9 E) 0 none true 48 [v75, v77] h) fun f3 =>
oh (y8 E (y9 E) 0 none true 48 [v75, v77] h) fun v78 h13 =>
ob (evLd true 5 v2 h13) fun v79 =>
ob (evFa 2 v3) fun v80 =>
ob (evLd false 1 v80 h13) fun v81 =>
ofp (y5j E (y9 E) 0 none true 48 [v79, v81] h13) fun f7 =>
oh (y8 E (y9 E) 0 none true 48 [v79, v81] h13) fun v82 h14 =>
ob (y7 .eql v78 v82) fun v83 =>
okK (yf [(ids1 v2, []), ([], []), (ids1 v76, []), f3, (ids1 v2, []), ([], []), (ids1 v80, []), f7, ([], []), ([], [])] [(3, 4), (3, 6)]) <|
(ye h14 v83))
 ((y20 v2 v3 v8 v9 v10 v55 h))
def y1y4 (s : St) : OX := y1p (s 2) (s 3) (s 8) (s 9) (s 10) (s 55) (s 73) s.h
theorem y1b2 : T1 yts y10 (y5 2 y10 xN) [.t 4] y1y4 := fun s => (y1g rfl (y1bl s)).trans (by kernel_rfl)
def y1o (v2 v3 v8 v9 v10 v55 : AV) (h : Heap) : OX :=
ob (y7 .eql v55 (AV.int .i64 4)) fun v74 =>
(y1p v2 v3 v8 v9 v10 v55 v74 h)
def y1za (s : St) : OX := y1o (s 2) (s 3) (s 8) (s 9) (s 10) (s 55) s.h
theorem y19u : T1 ysi y10 (y5 2 y10 xN) [.t 4] y1za := sq y1b2 fun _ => by kernel_rfl
def y1k (v2 v3 v8 v9 v10 v55 v56 : AV) (h : Heap) : OX :=
cnd v56
 (ob (evLd true 5 v2 h) fun v58 =>
ob (evFa 1 v3) fun v59 =>
ob (evLd false 1 v59 h) fun v60 =>
oh (y8 E (y9 E) 0 none true 48 [v58, v60] h) fun v61 h15 =>
ob (y7 .eql v61 (AV.int .i64 2)) fun v62 =>
gb v62 false (evFa 5 v3) fun v64 =>
gb v62 false (evLd false 1 v64 h15) fun v65 =>
gb v62 false (y7 .geq v65 (AV.int .i64 (-2147483648))) fun v66 =>
gb v62 false (some v66) fun v67 =>
gb v67 true (evFa 5 v3) fun v68 =>
gb v67 true (evLd false 1 v68 h15) fun v69 =>
gb v67 true (y7 .lss v69 (AV.int .i64 2147483648)) fun v70 =>
gb v62 false (yd v67 v70 (AV.bool false)) fun v71 =>
ob (yd v62 (AV.bool true) v71) fun v72 =>
(ye h15 v72))
 ((y1o v2 v3 v8 v9 v10 v55 h))
def y20k (s : St) : OX := y1k (s 2) (s 3) (s 8) (s 9) (s 10) (s 55) (s 56) s.h
theorem y1bc : T1 yra y10 (y5 2 y10 xN) [.t 4] y20k := fun s => (y1g rfl (y19u s)).trans (by kernel_rfl)
def y1h (v2 v3 v8 v9 v10 v55 : AV) (h : Heap) : OX :=
ob (y7 .eql v55 (AV.int .i64 1)) fun v57 =>
(y1k v2 v3 v8 v9 v10 v55 v57 h)
def y17g (s : St) : OX := y1h (s 2) (s 3) (s 8) (s 9) (s 10) (s 55) s.h
theorem y1at : T1 yql y10 (y5 2 y10 xN) [.t 4] y17g := sq y1bc fun _ => by kernel_rfl
theorem y1a5 : T1 ytz y10 xN [.t 4] y17g := fun s => yw.trans (y1at s)
def yez (v2 v3 v8 v9 v10 : AV) (h : Heap) : OX :=
ob (evFa 0 v3) fun v54 =>
ob (evLd false 1 v54 h) fun v55 =>
(y1h v2 v3 v8 v9 v10 v55 h)
def y168 (s : St) : OX := yez (s 2) (s 3) (s 8) (s 9) (s 10) s.h
theorem y1c5 : T1 yrp y10 xN [.t 4] y168 := sq y1a5 fun _ => by kernel_rfl
theorem y19x : T0 ys3 [.t 4] y168 := sq y1vm y1c5
def yk1 (v2 v3 v8 v9 v10 : AV) (h : Heap) : OX :=
ob (evFa 5 v3) fun v39 =>
ob (evLd false 1 v39 h) fun v40 =>
ob (y7 .geq v40 (AV.int .i64 0)) fun v41 =>
gb v41 true (evFa 5 v3) fun v43 =>
gb v41 true (evLd false 1 v43 h) fun v44 =>
gb v41 true (y7 .lss v44 (AV.int .i64 1000)) fun v45 =>
ob (yd v41 v45 (AV.bool false)) fun v46 =>
cnd v46
 (ob (evFa 5 v3) fun v48 =>
ob (evLd false 1 v48 h) fun v49 =>
oh (y8 E (y9 E) 0 none true 66 [v49] h) fun v50 h16 =>
ob (ybu 0 v50) fun v51 =>
ob (ybu 1 v50) fun v52 =>
ob (ybu 2 v50) fun v53 =>
(yez v2 v3 v51 v52 v53 h16))
 ((yez v2 v3 v8 v9 v10 h))
def y22o (s : St) : OX := yk1 (s 2) (s 3) (s 8) (s 9) (s 10) s.h
theorem y1as : T0 yti [.t 4] y22o := sq y19x fun _ => by kernel_rfl
def yij (v2 v3 : AV) (h : Heap) : OX :=
(yk1 v2 v3 (AV.int .i64 0) (AV.int .i64 0) (AV.int .i64 0) h)
def y5c (s : St) : OX := yij (s 2) (s 3) s.h
theorem y18e : T0 yrq [.t 4] y5c := sq y1as fun _ => by kernel_rfl
def y5b (v2 v3 v5 v6 v7 : AV) (h : Heap) : OX :=
  W E 0 yfq ⟨[(2, v2), (3, v3), (5, v5), (6, v6), (7, v7)], h⟩ y5c (y5 0 y5c xN) (finP [.t 4])
def y7n (s : St) : OX := y5b (s 2) (s 3) (s 5) (s 6) (s 7) s.h
theorem yi2 : T1 yfq y5c (y5 0 y5c xN) [.t 4] y7n := fun s => yi.trans (by kernel_rfl)
def yp4 (v2 v3 v5 v6 v7 : AV) (h : Heap) : OX :=
ob (y7 .add v7 (AV.int .i64 1)) fun v28 =>
(y5b v2 v3 v5 v6 v28 h)
def y1x8 (s : St) : OX := yp4 (s 2) (s 3) (s 5) (s 6) (s 7) s.h
theorem y1be : T1 ytv y7n (y5 0 y5c xN) [.t 4] y1x8 := fun _ => by kernel_rfl
def yvi (v2 v3 v5 v6 v7 : AV) (h : Heap) : OX :=
ob (evLd true 5 v2 h) fun v29 =>
ob (yt 1 v6 v7) fun v32 =>
ob (evLd false 1 v32 h) fun v33 =>
ob (y5n v5 v7) fun v36 =>
oh (y8 E (y9 E) 0 none true 65 [v29, v33, v36] h) fun v37 h17 =>
ob (evUn .not v37) fun v38 =>
cnd v38
 ((ye h17 (AV.bool false)))
 ((yp4 v2 v3 v5 v6 v7 h17))
def y23y (s : St) : OX := yvi (s 2) (s 3) (s 5) (s 6) (s 7) s.h
theorem y1ae : T1 yrd y7n (y5 0 y5c xN) [.t 4] y23y := sq y1be fun _ => by kernel_rfl
def yf6 (v2 v3 v5 v6 v7 : AV) (h : Heap) : OX :=
ob (y7 .lss v7 (AV.int .i64 4)) fun v26 =>
cnd v26
 ((yvi v2 v3 v5 v6 v7 h))
 ((yij v2 v3 h))
def y200 (s : St) : OX := yf6 (s 2) (s 3) (s 5) (s 6) (s 7) s.h
theorem y1ap : T1 ypv y7n (y5 0 y5c xN) [.t 4] y200 := sq y1ae fun _ => by kernel_rfl
theorem yh9 (v2 v3 v5 v6 v7 : AV) (h : Heap) : y5b v2 v3 v5 v6 v7 h = (yf6 v2 v3 v5 v6 v7 h) :=
  y1n.trans ((y17 _ _ _ (n' := y7n) (fun s => yi2 s)).trans ((y1ap _).trans (by kernel_rfl)))
theorem y1al : T1 ys7 y5c xN [.t 4] y7n := fun s => yw.trans (yi2 s)
def yvx (v2 v3 v5 v6 : AV) (h : Heap) : OX :=
(y5b v2 v3 v5 v6 (AV.int .i64 0) h)
def y12n (s : St) : OX := yvx (s 2) (s 3) (s 5) (s 6) s.h
theorem y18o : T1 ys8 y5c xN [.t 4] y12n := sq y1al fun _ => by kernel_rfl
theorem y1a0 : T0 yt2 [.t 4] y12n := sq y18e y18o
def yvu (v2 v3 v5 : AV) (h : Heap) : OX :=
ob (evFa 1 v3) fun v16 =>
ob (evLd false 1 v16 h) fun v17 =>
ob (evFa 2 v3) fun v18 =>
ob (evLd false 1 v18 h) fun v19 =>
ob (evFa 3 v3) fun v20 =>
ob (evLd false 1 v20 h) fun v21 =>
ob (evFa 4 v3) fun v22 =>
ob (evLd false 1 v22 h) fun v23 =>
oh (y11 0 (some 2) 1 4 [(.int .i64 0)] [(0, v17), (1, v19), (2, v21), (3, v23)] h) fun v24 h18 =>
(yvx v2 v3 v5 v24 h18)
def y1ys (s : St) : OX := yvu (s 2) (s 3) (s 5) s.h
theorem y19h : T0 yu6 [.t 4] y1ys := sq y1a0 fun _ => by kernel_rfl
def yha (v2 v3 v5 : AV) (h : Heap) : OX :=
ob (y7 .eql v5 (AV.str [])) fun v15 =>
cnd v15
 ((ye h (AV.bool false)))
 ((yvu v2 v3 v5 h))
def y1xo (s : St) : OX := yha (s 2) (s 3) (s 5) s.h
theorem y1ab : T0 ytn [.t 4] y1xo := sq y19h fun _ => by kernel_rfl
def yjz (v2 v3 : AV) (h : Heap) : OX :=
ob (evFa 0 v3) fun v11 =>
ob (evLd false 1 v11 h) fun v12 =>
oh (y8 E (y9 E) 0 none true 38 [v12] h) fun v13 h19 =>
(yha v2 v3 v13 h19)
def y1x2 (s : St) : OX := yjz (s 2) (s 3) s.h
theorem y1a4 : T0 yr3 [.t 4] y1x2 := sq y1ab fun _ => by kernel_rfl
def yey (v0 v1 : AV) (h : Heap) : OX :=
oh (newC 0 (some 0) (cellsOf v0) h) fun v2 h20 =>
oh (newC 0 (some 1) (cellsOf v1) h20) fun v3 h21 =>
(yjz v2 v3 h21)
def y264 (s : St) : OX := yey (s 0) (s 1) s.h
theorem y18j : T0 yrz [.t 4] y264 := sq y1a4 fun _ => by kernel_rfl
@[simp] theorem y2pk : E.pure 64 = true := rfl
theorem y2ms (v0 v1 : AV) : (y9 E).p 64 [v0, v1] = yey v0 v1 [⟨0, .dead⟩, ⟨0, .dead⟩, ⟨0, .dead⟩] :=
  (y12 (cf := y26l) (by kernel_rfl) rfl).trans ((y18j _).trans (by kernel_rfl))
def y1up (v0 : AV) (h : Heap) : OX :=
oh (y11 0 (some 0) 1 3 [(.int .i64 0)] [(0, (AV.int .i64 27)), (1, (AV.int .i64 28)), (2, (AV.int .i64 29))] h) fun v4 h1 =>
oh (y8 E (y9 E) 0 none true 42 [v0, v4] h1) fun v5 h2 =>
(ye h2 v5)
def y2gl (s : St) : OX := y1up (s 0) s.h
theorem y1ok : T0 y17j [.t 2] y2gl := fun _ => by kernel_rfl
@[simp] theorem y2pp : E.pure 23 = true := rfl
theorem y2hz (v0 : AV) : (y9 E).p 23 [v0] = y1up v0 [⟨0, .dead⟩] :=
  (y12 (cf := y26q) (by kernel_rfl) rfl).trans ((y1ok _).trans (by kernel_rfl))
def y1qn (v0 v1 : AV) (h : Heap) : OX :=
oh (newC 0 (some 0) (cellsOf v0) h) fun v2 h1 =>
ob (y7 .geq v1 (AV.int .i64 0)) fun v6 =>
gb v6 true (some v1) fun v8 =>
gb v6 true (evFa 3 v2) fun v9 =>
gb v6 true (evLd false 1 v9 h1) fun v10 =>
gb v6 true (y14 1 v10 h1) fun v11 =>
gb v6 true (y7 .lss v8 v11) fun v12 =>
ob (yd v6 v12 (AV.bool false)) fun v13 =>
(ye h1 v13)
def y2e6 (s : St) : OX := y1qn (s 0) (s 1) s.h
theorem y1ou : T0 yzu [.t 4] y2e6 := fun _ => by kernel_rfl
@[simp] theorem y2sq : E.pure 49 = true := rfl
theorem y2ks (v0 v1 : AV) : (y9 E).p 49 [v0, v1] = y1qn v0 v1 [⟨0, .dead⟩] :=
  (y12 (cf := y26z) (by kernel_rfl) rfl).trans ((y1ou _).trans (by kernel_rfl))
def y1gw (v0 : AV) (h : Heap) : OX :=
oh (y11 0 (some 0) 1 0 [(.bool false)] [] h) fun v5 h1 =>
oh (y37 0 (some 1) 1 1 v5 v0 h1) fun v7 h2 =>
(ye h2 v7)
def y28l (s : St) : OX := y1gw (s 0) s.h
theorem y1mq : T0 y17u [.t 2] y28l := fun _ => by kernel_rfl
def y1ec (v0 : AV) (h : Heap) : OX :=
ob (y5f 1 false v0 AV.nils) fun v4 =>
cnd v4
 ((ye h AV.nils))
 ((y1gw v0 h))
def y2el (s : St) : OX := y1ec (s 0) s.h
theorem y1uf : T0 yzm [.t 2] y2el := sq y1mq fun _ => by kernel_rfl
def y1fu (v0 : AV) (h : Heap) : OX :=
(y1ec v0 h)
def y2gw (s : St) : OX := y1fu (s 0) s.h
theorem y1ue : T0 y13m [.t 2] y2gw := sq y1uf fun _ => by kernel_rfl
@[simp] theorem y2qe : E.pure 78 = true := rfl
theorem y2mc (v0 : AV) : (y9 E).p 78 [v0] = y1fu v0 [⟨0, .dead⟩, ⟨0, .dead⟩] :=
  (y12 (cf := y27m) (by kernel_rfl) rfl).trans ((y1ue _).trans (by kernel_rfl))
def y1dd (fb : Nat) (v3 : AV) (h : Heap) : Option (AV × Heap) :=
(some (v3, h))
def y26b (fb : Nat) (s : St) : Option (AV × Heap) := y1dd fb (s 3) s.h
theorem y1yq (fb : Nat) (s : St) : W E fb y1mp s (finI [.t 8]) xN (finI [.t 8]) = y26b fb s :=
  by kernel_rfl
def y19a (fb : Nat) (v1 v3 v9 : AV) (h : Heap) : Option (AV × Heap) :=
cnd v9
 (oh (y11 fb (some 3) 1 1 [(.int .i64 0)] [(0, v1)] h) fun v54 h1 =>
oh (y37 fb (some 4) 1 8 v3 v54 h1) fun v55 h2 =>
(y1dd fb v55 h2))
 ((y1dd fb v3 h))
def y97 (fb : Nat) (s : St) : Option (AV × Heap) := y19a fb (s 1) (s 3) (s 9) s.h
theorem y24c (fb : Nat) (s : St) : W E fb y1oe s (finI [.t 8]) xN (finI [.t 8]) = y97 fb s :=
  (yak (k := (y26b fb)) (fun s => y1yq fb s)).trans (by kernel_rfl)
def yq7 (fb : Nat) (v0 v1 v2 v3 v9 v29 v30 v31 : AV) (h : Heap) : Option (AV × Heap) :=
  W E fb yok ⟨[(0, v0), (1, v1), (2, v2), (3, v3), (9, v9), (29, v29), (30, v30), (31, v31)], h⟩ (y97 fb) (y5 0 (y97 fb) xN) (finI [.t 8])
def ya8 (fb : Nat) (s : St) : Option (AV × Heap) := yq7 fb (s 0) (s 1) (s 2) (s 3) (s 9) (s 29) (s 30) (s 31) s.h
theorem yqm (fb : Nat) (s : St) : W E fb yok s (y97 fb) (y5 0 (y97 fb) xN) (finI [.t 8]) = ya8 fb s := yi.trans (by kernel_rfl)
def y1az (fb : Nat) (v0 v1 v2 v3 v9 v29 v30 v31 : AV) (h : Heap) : Option (AV × Heap) :=
ob (y7 .add v31 (AV.int .i64 1)) fun v50 =>
(yq7 fb v0 v1 v2 v3 v9 v29 v30 v50 h)
def y28a (fb : Nat) (s : St) : Option (AV × Heap) := y1az fb (s 0) (s 1) (s 2) (s 3) (s 9) (s 29) (s 30) (s 31) s.h
theorem y20z (fb : Nat) (s : St) : W E fb y1gy s (ya8 fb) (y5 0 (y97 fb) xN) (finI [.t 8]) = y28a fb s :=
  by kernel_rfl
def y1w4 (fb : Nat) (v0 v1 v2 v3 v9 v29 v30 v31 : AV) (h : Heap) : Option (AV × Heap) :=
ob (yt 1 v29 v31) fun v34 =>
ob (evLd false 1 v34 h) fun v35 =>
gb v35 true (some v2) fun v38 =>
gb v35 true (some v31) fun v39 =>
gb v35 true (yt 1 v38 v39) fun v40 =>
gb v35 true (evLd false 1 v40 h) fun v41 =>
gb v35 true (evUn .not v41) fun v42 =>
ob (yd v35 v42 (AV.bool false)) fun v43 =>
cnd v43
 (ob (yt 1 v0 v1) fun v46 =>
ob (evLd false 1 v46 h) fun v47 =>
ob (yt 1 v47 v31) fun v49 =>
oh (evSt 1 v49 (AV.bool false) h) fun _ h3 =>
(y1az fb v0 v1 v2 v3 (AV.bool true) v29 v30 v31 h3))
 ((y1az fb v0 v1 v2 v3 v9 v29 v30 v31 h))
def y28c (fb : Nat) (s : St) : Option (AV × Heap) := y1w4 fb (s 0) (s 1) (s 2) (s 3) (s 9) (s 29) (s 30) (s 31) s.h
theorem y1xf (fb : Nat) (s : St) : W E fb y1gg s (ya8 fb) (y5 0 (y97 fb) xN) (finI [.t 8]) = y28c fb s :=
  (yak (k := (y28a fb)) (fun s => y20z fb s)).trans (by kernel_rfl)
def y1ao (fb : Nat) (v0 v1 v2 v3 v9 v29 v30 v31 v32 : AV) (h : Heap) : Option (AV × Heap) :=
cnd v32
 ((y1w4 fb v0 v1 v2 v3 v9 v29 v30 v31 h))
 ((y19a fb v1 v3 v9 h))
def y281 (fb : Nat) (s : St) : Option (AV × Heap) := y1ao fb (s 0) (s 1) (s 2) (s 3) (s 9) (s 29) (s 30) (s 31) (s 32) s.h
theorem y21s (fb : Nat) (s : St) : W E fb y1rb s (ya8 fb) (y5 0 (y97 fb) xN) (finI [.t 8]) = y281 fb s :=
  (yak (k := (y28c fb)) (fun s => y1xf fb s)).trans (by kernel_rfl)
def y1a8 (fb : Nat) (v0 v1 v2 v3 v9 v29 v30 v31 : AV) (h : Heap) : Option (AV × Heap) :=
ob (y7 .lss v31 v30) fun v32 =>
(y1ao fb v0 v1 v2 v3 v9 v29 v30 v31 v32 h)
def y2lb (fb : Nat) (s : St) : Option (AV × Heap) := y1a8 fb (s 0) (s 1) (s 2) (s 3) (s 9) (s 29) (s 30) (s 31) s.h
theorem y1yj (fb : Nat) (s : St) : W E fb y1eb s (ya8 fb) (y5 0 (y97 fb) xN) (finI [.t 8]) = y2lb fb s :=
  (yak (k := (y281 fb)) (fun s => y21s fb s)).trans (by kernel_rfl)
theorem yst (fb : Nat) (v0 v1 v2 v3 v9 v29 v30 v31 : AV) (h : Heap) : yq7 fb v0 v1 v2 v3 v9 v29 v30 v31 h = (y1a8 fb v0 v1 v2 v3 v9 v29 v30 v31 h) :=
  y1n.trans ((y17 _ _ _ (n' := (ya8 fb)) (fun s => yqm fb s)).trans ((y1yj fb _).trans (by kernel_rfl)))
theorem y24a (fb : Nat) (s : St) : W E fb y1s5 s (y97 fb) xN (finI [.t 8]) = ya8 fb s :=
  yw.trans (yqm fb s)
def y2ae (fb : Nat) (v0 v1 v2 v3 v9 : AV) (h : Heap) : Option (AV × Heap) :=
ob (yt 1 v0 v1) fun v28 =>
ob (evLd false 1 v28 h) fun v29 =>
ob (y14 1 v29 h) fun v30 =>
(yq7 fb v0 v1 v2 v3 v9 v29 v30 (AV.int .i64 0) h)
def y1vo (fb : Nat) (s : St) : Option (AV × Heap) := y2ae fb (s 0) (s 1) (s 2) (s 3) (s 9) s.h
theorem y1x7 (fb : Nat) (s : St) : W E fb y1om s (y97 fb) xN (finI [.t 8]) = y1vo fb s :=
  (yak (k := (ya8 fb)) (fun s => y24a fb s)).trans (by kernel_rfl)
theorem y1k8 (fb : Nat) (s : St) : W E fb y12e s (finI [.t 8]) xN (finI [.t 8]) = y1vo fb s :=
  (yak (k := (y97 fb)) (fun s => y24c fb s)).trans (y1x7 fb s)
def y1tb (fb : Nat) (v0 v1 v2 v3 : AV) (h : Heap) : Option (AV × Heap) :=
(y2ae fb v0 v1 v2 v3 (AV.bool false) h)
def y1ej (fb : Nat) (s : St) : Option (AV × Heap) := y1tb fb (s 0) (s 1) (s 2) (s 3) s.h
theorem y1vd (fb : Nat) (s : St) : W E fb y17o s (finI [.t 8]) xN (finI [.t 8]) = y1ej fb s :=
  (yak (k := (y1vo fb)) (fun s => y1k8 fb s)).trans (by kernel_rfl)
def yl7 (fb : Nat) (v0 v1 v2 v3 : AV) (h : Heap) : Option (AV × Heap) :=
ob (yt 1 v0 v1) fun v14 =>
ob (evLd false 1 v14 h) fun v15 =>
ob (y5f 1 false v15 AV.nils) fun v16 =>
cnd v16
 (oh (y8 E (y9 E) fb (some 0) false 78 [v2] h) fun v20 h4 =>
ob (yt 1 v0 v1) fun v21 =>
oh (evSt 1 v21 v20 h4) fun _ h5 =>
oh (y11 fb (some 1) 1 1 [(.int .i64 0)] [(0, v1)] h5) fun v24 h6 =>
oh (y37 fb (some 2) 1 8 v3 v24 h6) fun v25 h7 =>
(some (v25, h7)))
 ((y1tb fb v0 v1 v2 v3 h))
def y1tj (fb : Nat) (s : St) : Option (AV × Heap) := yl7 fb (s 0) (s 1) (s 2) (s 3) s.h
theorem y1e2 (fb : Nat) (s : St) : W E fb yzs s (finI [.t 8]) xN (finI [.t 8]) = y1tj fb s :=
  (yak (k := (y1ej fb)) (fun s => y1vd fb s)).trans (by kernel_rfl)
def y27s (fb : Nat) (v0 v1 v2 v3 : AV) (h : Heap) : Option (AV × Heap) :=
(yl7 fb v0 v1 v2 v3 h)
def y2gv (fb : Nat) (s : St) : Option (AV × Heap) := y27s fb (s 0) (s 1) (s 2) (s 3) s.h
theorem y1cg (fb : Nat) (s : St) : W E fb y127 s (finI [.t 8]) xN (finI [.t 8]) = y2gv fb s :=
  (yak (k := (y1tj fb)) (fun s => y1e2 fb s)).trans (by kernel_rfl)
@[simp] theorem y2pt : E.pure 80 = false := rfl
theorem y2pn (fb : Nat) (v0 v1 v2 v3 : AV) (h : Heap) : (y9 E).i 80 [v0, v1, v2, v3] fb h = y27s fb v0 v1 v2 v3 (if fb = h.length then h ++ yk 5 else h) :=
  (yor (cf := y2mf) (by kernel_rfl) rfl).trans ((y1cg fb _).trans (by kernel_rfl))
def y2dn (v0 : AV) (h : Heap) : OX :=
oh (newC 0 (some 0) (cellsOf v0) h) fun v1 h1 =>
ob (evFa 0 v1) fun v3 =>
ob (evLd false 1 v3 h1) fun v4 =>
ob (y7 .geq v4 (AV.int .i64 23)) fun v5 =>
gb v5 true (evFa 0 v1) fun v7 =>
gb v5 true (evLd false 1 v7 h1) fun v8 =>
gb v5 true (y7 .leq v8 (AV.int .i64 26)) fun v9 =>
ob (yd v5 v9 (AV.bool false)) fun v10 =>
(ye h1 v10)
def y2jy (s : St) : OX := y2dn (s 0) s.h
theorem y253 : T0 y1et [.t 2] y2jy := fun _ => by kernel_rfl
@[simp] theorem yv3 : E.pure 17 = true := rfl
theorem y2r4 (v0 : AV) : (y9 E).p 17 [v0] = y2dn v0 [⟨0, .dead⟩] :=
  (y12 (cf := y2l4) (by kernel_rfl) rfl).trans ((y253 _).trans (by kernel_rfl))
def ymz (h : Heap) : OX :=
(ye h (AV.int .i64 (-1)))
def y6e (s : St) : OX := ymz s.h
theorem y1ev : T0 y16e [.t 4] y6e := fun _ => by kernel_rfl
def yip (v0 v1 v7 v8 : AV) (h : Heap) : OX :=
  W E 0 yhu ⟨[(0, v0), (1, v1), (7, v7), (8, v8)], h⟩ y6e (y5 0 y6e xN) (finP [.t 4])
def y87 (s : St) : OX := yip (s 0) (s 1) (s 7) (s 8) s.h
theorem yma : T1 yhu y6e (y5 0 y6e xN) [.t 4] y87 := fun s => yi.trans (by kernel_rfl)
def yl6 (v0 v1 v7 v8 : AV) (h : Heap) : OX :=
ob (y7 .add v8 (AV.int .i64 1)) fun v18 =>
(yip v0 v1 v7 v18 h)
def y2a2 (s : St) : OX := yl6 (s 0) (s 1) (s 7) (s 8) s.h
theorem y1cv : T1 yys y87 (y5 0 y6e xN) [.t 4] y2a2 := fun _ => by kernel_rfl
def ym9 (v0 v1 v7 v8 : AV) (h : Heap) : OX :=
ob (yt 1 v0 v8) fun v14 =>
ob (evLd false 1 v14 h) fun v15 =>
ob (y7 .eql v1 v15) fun v16 =>
cnd v16
 ((ye h v8))
 ((yl6 v0 v1 v7 v8 h))
def y2ap (s : St) : OX := ym9 (s 0) (s 1) (s 7) (s 8) s.h
theorem y1io : T1 y146 y87 (y5 0 y6e xN) [.t 4] y2ap := sq y1cv fun _ => by kernel_rfl
def yn4 (v0 v1 v7 v8 v9 : AV) (h : Heap) : OX :=
cnd v9
 ((ym9 v0 v1 v7 v8 h))
 ((ymz h))
def y2g7 (s : St) : OX := yn4 (s 0) (s 1) (s 7) (s 8) (s 9) s.h
theorem y1s4 : T1 yxp y87 (y5 0 y6e xN) [.t 4] y2g7 := sq y1io fun _ => by kernel_rfl
def yln (v0 v1 v7 v8 : AV) (h : Heap) : OX :=
ob (y7 .lss v8 v7) fun v9 =>
(yn4 v0 v1 v7 v8 v9 h)
def y296 (s : St) : OX := yln (s 0) (s 1) (s 7) (s 8) s.h
theorem y1mm : T1 y0g y87 (y5 0 y6e xN) [.t 4] y296 := sq y1s4 fun _ => by kernel_rfl
theorem ylb (v0 v1 v7 v8 : AV) (h : Heap) : yip v0 v1 v7 v8 h = (yln v0 v1 v7 v8 h) :=
  y1n.trans ((y17 _ _ _ (n' := y87) (fun s => yma s)).trans ((y1mm _).trans (by kernel_rfl)))
theorem y1il : T1 y167 y6e xN [.t 4] y87 := fun s => yw.trans (yma s)
def ymj (v0 v1 : AV) (h : Heap) : OX :=
ob (y14 1 v0 h) fun v7 =>
(yip v0 v1 v7 (AV.int .i64 0) h)
def y1pd (s : St) : OX := ymj (s 0) (s 1) s.h
theorem y1cf : T1 y110 y6e xN [.t 4] y1pd := sq y1il fun _ => by kernel_rfl
theorem y1eu : T0 yxc [.t 4] y1pd := sq y1ev y1cf
def yf7 (v0 v1 : AV) (h : Heap) : OX :=
(ymj v0 v1 h)
def y1ym (s : St) : OX := yf7 (s 0) (s 1) s.h
theorem y191 : T0 ysj [.t 4] y1ym := sq y1eu fun _ => by kernel_rfl
@[simp] theorem y2q7 : E.pure 45 = true := rfl
theorem y2js (v0 v1 : AV) : (y9 E).p 45 [v0, v1] = yf7 v0 v1 [] :=
  (y12 (cf := y27u) (by kernel_rfl) rfl).trans ((y191 _).trans (by kernel_rfl))
def ygk (v1 v2 : AV) (h : Heap) : OX :=
ob (evLd true 9 v1 h) fun v138 =>
oh (y8 E (y9 E) 0 none true 51 [v138] h) fun v139 h1 =>
ob (ybu 0 v139) fun v140 =>
ob (ybu 1 v139) fun v141 =>
oh (evSt 4 v2 v140 h1) fun _ h2 =>
(ob (evLd true 4 v2 h2) fun r0 =>
  ye h2 (.tup [r0, v141]))
def yo (s : St) : OX := ygk (s 1) (s 2) s.h
theorem y21y : T0 y1gh [.cell 2 true 4, .t 3] yo := fun _ => by kernel_rfl
def yf1 (v1 v2 v134 : AV) (h : Heap) : OX :=
cnd v134
 (ob (y1c [(.int .i64 0), (.int .i64 0), (.int .i64 0), (.int .i64 0)] [(0, 1, (AV.int .i64 (-1))), (1, 1, (AV.int .i64 (-1))), (2, 1, (AV.int .i64 (-1))), (3, 1, (AV.int .i64 (-1)))]) fun v137 =>
oh (evSt 4 v2 v137 h) fun _ h3 =>
(ob (evLd true 4 v2 h3) fun r0 =>
  ye h3 (.tup [r0, (AV.bool true)])))
 ((ygk v1 v2 h))
def y2i3 (s : St) : OX := yf1 (s 1) (s 2) (s 134) s.h
theorem y24g : T1 y1ug yo (y5 0 yo xN) [.cell 2 true 4, .t 3] y2i3 := fun _ => by kernel_rfl
def ygq (v1 v2 v11 : AV) (h : Heap) : OX :=
ob (y7 .eql v11 (AV.int .i64 27)) fun v135 =>
cnd v135
 ((yf1 v1 v2 v135 h))
 (ob (y7 .eql v11 (AV.int .i64 33)) fun v136 =>
(yf1 v1 v2 v136 h))
def y2lp (s : St) : OX := ygq (s 1) (s 2) (s 11) s.h
theorem y1yt : T1 y1vv yo (y5 0 yo xN) [.cell 2 true 4, .t 3] y2lp := sq y24g fun _ => by kernel_rfl
def ygo (v1 v2 v11 v123 : AV) (h : Heap) : OX :=
cnd v123
 (ob (y1c [(.int .i64 0), (.int .i64 0), (.int .i64 0), (.int .i64 0)] [(0, 1, (AV.int .i64 (-1))), (1, 1, (AV.int .i64 1)), (2, 1, (AV.int .i64 1)), (3, 1, (AV.int .i64 (-1)))]) fun v125 =>
ob (evFa 5 v1) fun v126 =>
ob (evLd false 1 v126 h) fun v127 =>
ob (y7 .geq v127 (AV.int .i64 0)) fun v128 =>
ofp (fgd v128 true (some ([], []))) fun f5 =>
gb v128 true (evFa 5 v1) fun v130 =>
ofp (fgd v128 true (some (ids1 v130, []))) fun f6 =>
gb v128 true (evLd false 1 v130 h) fun v131 =>
ofp (fgd v128 true (some ([], []))) fun f7 =>
gb v128 true (y7 .leq v131 (AV.int .i64 5)) fun v132 =>
ob (yd v128 v132 (AV.bool false)) fun v133 =>
oh (evSt 4 v2 v125 h) fun _ h4 =>
okK (yf [([], []), ([], []), (ids1 v126, []), ([], []), ([], []), f5, f6, f7, ([], []), ([], ids1 v2), ([], [])] [(6, 9)]) <|
(ob (evLd true 4 v2 h4) fun r0 =>
  ye h4 (.tup [r0, v133])))
 ((ygq v1 v2 v11 h))
def y2k3 (s : St) : OX := ygo (s 1) (s 2) (s 11) (s 123) s.h
theorem y21i : T1 y1i2 yo (y5 0 yo xN) [.cell 2 true 4, .t 3] y2k3 := fun s => (y1g rfl (y1yt s)).trans (by kernel_rfl)
def ygp (v1 v2 v11 : AV) (h : Heap) : OX :=
ob (y7 .eql v11 (AV.int .i64 28)) fun v124 =>
(ygo v1 v2 v11 v124 h)
def y2kh (s : St) : OX := ygp (s 1) (s 2) (s 11) s.h
theorem y218 : T1 y1uw yo (y5 0 yo xN) [.cell 2 true 4, .t 3] y2kh := sq y21i fun _ => by kernel_rfl
def ygj (v1 v2 v11 v117 : AV) (h : Heap) : OX :=
cnd v117
 (ob (y1c [(.int .i64 0), (.int .i64 0), (.int .i64 0), (.int .i64 0)] [(0, 1, (AV.int .i64 3)), (1, 1, (AV.int .i64 1)), (2, 1, (AV.int .i64 (-1))), (3, 1, (AV.int .i64 (-1)))]) fun v119 =>
ob (evFa 7 v1) fun v120 =>
ob (evLd false 1 v120 h) fun v121 =>
oh (y8 E (y9 E) 0 none true 37 [v121] h) fun v122 h5 =>
oh (evSt 4 v2 v119 h5) fun _ h6 =>
(ob (evLd true 4 v2 h6) fun r0 =>
  ye h6 (.tup [r0, v122])))
 ((ygp v1 v2 v11 h))
def y2m4 (s : St) : OX := ygj (s 1) (s 2) (s 11) (s 117) s.h
theorem y1zn : T1 y1kb yo (y5 0 yo xN) [.cell 2 true 4, .t 3] y2m4 := fun s => (y1g rfl (y218 s)).trans (by kernel_rfl)
def ygm (v1 v2 v11 : AV) (h : Heap) : OX :=
ob (y7 .eql v11 (AV.int .i64 21)) fun v118 =>
(ygj v1 v2 v11 v118 h)
def y2k6 (s : St) : OX := ygm (s 1) (s 2) (s 11) s.h
theorem y24m : T1 y1t9 yo (y5 0 yo xN) [.cell 2 true 4, .t 3] y2k6 := sq y1zn fun _ => by kernel_rfl
def ygr (v1 v2 v11 v114 : AV) (h : Heap) : OX :=
cnd v114
 (ob (y1c [(.int .i64 0), (.int .i64 0), (.int .i64 0), (.int .i64 0)] [(0, 1, (AV.int .i64 (-1))), (1, 1, (AV.int .i64 0)), (2, 1, (AV.int .i64 (-1))), (3, 1, (AV.int .i64 (-1)))]) fun v116 =>
oh (evSt 4 v2 v116 h) fun _ h7 =>
(ob (evLd true 4 v2 h7) fun r0 =>
  ye h7 (.tup [r0, (AV.bool true)])))
 ((ygm v1 v2 v11 h))
def y2ik (s : St) : OX := ygr (s 1) (s 2) (s 11) (s 114) s.h
theorem y21b : T1 y1gk yo (y5 0 yo xN) [.cell 2 true 4, .t 3] y2ik := fun s => (y1g rfl (y24m s)).trans (by kernel_rfl)
def ygt (v1 v2 v11 : AV) (h : Heap) : OX :=
ob (y7 .eql v11 (AV.int .i64 19)) fun v115 =>
(ygr v1 v2 v11 v115 h)
def y2mk (s : St) : OX := ygt (s 1) (s 2) (s 11) s.h
theorem y1yc : T1 y1s7 yo (y5 0 yo xN) [.cell 2 true 4, .t 3] y2mk := sq y21b fun _ => by kernel_rfl
def y93 (v1 v2 v11 v108 : AV) (h : Heap) : OX :=
cnd v108
 (ob (y1c [(.int .i64 0), (.int .i64 0), (.int .i64 0), (.int .i64 0)] [(0, 1, (AV.int .i64 (-1))), (1, 1, (AV.int .i64 3)), (2, 1, (AV.int .i64 0)), (3, 1, (AV.int .i64 (-1)))]) fun v110 =>
ob (evFa 5 v1) fun v111 =>
ob (evLd false 1 v111 h) fun v112 =>
ob (y7 .geq v112 (AV.int .i64 0)) fun v113 =>
oh (evSt 4 v2 v110 h) fun _ h8 =>
okK (yf [([], []), ([], []), (ids1 v111, []), ([], []), ([], ids1 v2), ([], [])] [(2, 4)]) <|
(ob (evLd true 4 v2 h8) fun r0 =>
  ye h8 (.tup [r0, v113])))
 ((ygt v1 v2 v11 h))
def y2dx (s : St) : OX := y93 (s 1) (s 2) (s 11) (s 108) s.h
theorem y1we : T1 yxm yo (y5 0 yo xN) [.cell 2 true 4, .t 3] y2dx := fun s => (y1g rfl (y1yc s)).trans (by kernel_rfl)
def y9p (v1 v2 v11 : AV) (h : Heap) : OX :=
ob (y7 .eql v11 (AV.int .i64 17)) fun v109 =>
(y93 v1 v2 v11 v109 h)
def y2gc (s : St) : OX := y9p (s 1) (s 2) (s 11) s.h
theorem y1k6 : T1 y05 yo (y5 0 yo xN) [.cell 2 true 4, .t 3] y2gc := sq y1we fun _ => by kernel_rfl
def y9a (v1 v2 v11 v102 : AV) (h : Heap) : OX :=
cnd v102
 (ob (y1c [(.int .i64 0), (.int .i64 0), (.int .i64 0), (.int .i64 0)] [(0, 1, (AV.int .i64 0)), (1, 1, (AV.int .i64 3)), (2, 1, (AV.int .i64 (-1))), (3, 1, (AV.int .i64 (-1)))]) fun v104 =>
ob (evFa 5 v1) fun v105 =>
ob (evLd false 1 v105 h) fun v106 =>
ob (y7 .geq v106 (AV.int .i64 0)) fun v107 =>
oh (evSt 4 v2 v104 h) fun _ h9 =>
okK (yf [([], []), ([], []), (ids1 v105, []), ([], []), ([], ids1 v2), ([], [])] [(2, 4)]) <|
(ob (evLd true 4 v2 h9) fun r0 =>
  ye h9 (.tup [r0, v107])))
 ((y9p v1 v2 v11 h))
def y28x (s : St) : OX := y9a (s 1) (s 2) (s 11) (s 102) s.h
theorem y1l0 : T1 y15l yo (y5 0 yo xN) [.cell 2 true 4, .t 3] y28x := fun s => (y1g rfl (y1k6 s)).trans (by kernel_rfl)
def y8u (v1 v2 v11 : AV) (h : Heap) : OX :=
ob (y7 .eql v11 (AV.int .i64 16)) fun v103 =>
(y9a v1 v2 v11 v103 h)
def y2d9 (s : St) : OX := y8u (s 1) (s 2) (s 11) s.h
theorem y1wc : T1 y162 yo (y5 0 yo xN) [.cell 2 true 4, .t 3] y2d9 := sq y1l0 fun _ => by kernel_rfl
def y9s (v1 v2 v11 v99 : AV) (h : Heap) : OX :=
cnd v99
 (ob (y1c [(.int .i64 0), (.int .i64 0), (.int .i64 0), (.int .i64 0)] [(0, 1, (AV.int .i64 1)), (1, 1, (AV.int .i64 3)), (2, 1, (AV.int .i64 (-1))), (3, 1, (AV.int .i64 (-1)))]) fun v101 =>
oh (evSt 4 v2 v101 h) fun _ h10 =>
(ob (evLd true 4 v2 h10) fun r0 =>
  ye h10 (.tup [r0, (AV.bool true)])))
 ((y8u v1 v2 v11 h))
def y2ff (s : St) : OX := y9s (s 1) (s 2) (s 11) (s 99) s.h
theorem y1t8 : T1 y16h yo (y5 0 yo xN) [.cell 2 true 4, .t 3] y2ff := fun s => (y1g rfl (y1wc s)).trans (by kernel_rfl)
def y92 (v1 v2 v11 : AV) (h : Heap) : OX :=
ob (y7 .eql v11 (AV.int .i64 15)) fun v100 =>
(y9s v1 v2 v11 v100 h)
def y28t (s : St) : OX := y92 (s 1) (s 2) (s 11) s.h
theorem y1ks : T1 y11b yo (y5 0 yo xN) [.cell 2 true 4, .t 3] y28t := sq y1t8 fun _ => by kernel_rfl
def y9l (v1 v2 v11 v96 : AV) (h : Heap) : OX :=
cnd v96
 (ob (y1c [(.int .i64 0), (.int .i64 0), (.int .i64 0), (.int .i64 0)] [(0, 1, (AV.int .i64 (-1))), (1, 1, (AV.int .i64 3)), (2, 1, (AV.int .i64 1)), (3, 1, (AV.int .i64 0))]) fun v98 =>
oh (evSt 4 v2 v98 h) fun _ h11 =>
(ob (evLd true 4 v2 h11) fun r0 =>
  ye h11 (.tup [r0, (AV.bool true)])))
 ((y92 v1 v2 v11 h))
def y2ea (s : St) : OX := y9l (s 1) (s 2) (s 11) (s 96) s.h
theorem y1e9 : T1 y18a yo (y5 0 yo xN) [.cell 2 true 4, .t 3] y2ea := fun s => (y1g rfl (y1ks s)).trans (by kernel_rfl)
def y8t (v1 v2 v11 : AV) (h : Heap) : OX :=
ob (y7 .eql v11 (AV.int .i64 14)) fun v97 =>
(y9l v1 v2 v11 v97 h)
def y2bk (s : St) : OX := y8t (s 1) (s 2) (s 11) s.h
theorem y1rc : T1 yxx yo (y5 0 yo xN) [.cell 2 true 4, .t 3] y2bk := sq y1e9 fun _ => by kernel_rfl
def y9o (v1 v2 v11 v93 : AV) (h : Heap) : OX :=
cnd v93
 (ob (y1c [(.int .i64 0), (.int .i64 0), (.int .i64 0), (.int .i64 0)] [(0, 1, (AV.int .i64 0)), (1, 1, (AV.int .i64 3)), (2, 1, (AV.int .i64 1)), (3, 1, (AV.int .i64 (-1)))]) fun v95 =>
oh (evSt 4 v2 v95 h) fun _ h12 =>
(ob (evLd true 4 v2 h12) fun r0 =>
  ye h12 (.tup [r0, (AV.bool true)])))
 ((y8t v1 v2 v11 h))
def y29d (s : St) : OX := y9o (s 1) (s 2) (s 11) (s 93) s.h
theorem y1vw : T1 y16r yo (y5 0 yo xN) [.cell 2 true 4, .t 3] y29d := fun s => (y1g rfl (y1rc s)).trans (by kernel_rfl)
def y8s (v1 v2 v11 : AV) (h : Heap) : OX :=
ob (y7 .eql v11 (AV.int .i64 13)) fun v94 =>
(y9o v1 v2 v11 v94 h)
def y2bj (s : St) : OX := y8s (s 1) (s 2) (s 11) s.h
theorem y1w1 : T1 y153 yo (y5 0 yo xN) [.cell 2 true 4, .t 3] y2bj := sq y1vw fun _ => by kernel_rfl
def y8q (v1 v2 v11 v90 : AV) (h : Heap) : OX :=
cnd v90
 (ob (y1c [(.int .i64 0), (.int .i64 0), (.int .i64 0), (.int .i64 0)] [(0, 1, (AV.int .i64 (-1))), (1, 1, (AV.int .i64 3)), (2, 1, (AV.int .i64 3)), (3, 1, (AV.int .i64 (-1)))]) fun v92 =>
oh (evSt 4 v2 v92 h) fun _ h13 =>
(ob (evLd true 4 v2 h13) fun r0 =>
  ye h13 (.tup [r0, (AV.bool true)])))
 ((y8s v1 v2 v11 h))
def y2g2 (s : St) : OX := y8q (s 1) (s 2) (s 11) (s 90) s.h
theorem y1ft : T1 y0v yo (y5 0 yo xN) [.cell 2 true 4, .t 3] y2g2 := fun s => (y1g rfl (y1w1 s)).trans (by kernel_rfl)
def y94 (v1 v2 v11 : AV) (h : Heap) : OX :=
ob (y7 .eql v11 (AV.int .i64 11)) fun v91 =>
(y8q v1 v2 v11 v91 h)
def y2e2 (s : St) : OX := y94 (s 1) (s 2) (s 11) s.h
theorem y1mv : T1 y11c yo (y5 0 yo xN) [.cell 2 true 4, .t 3] y2e2 := sq y1ft fun _ => by kernel_rfl
def y9t (v1 v2 v11 v87 : AV) (h : Heap) : OX :=
cnd v87
 (ob (y1c [(.int .i64 0), (.int .i64 0), (.int .i64 0), (.int .i64 0)] [(0, 1, (AV.int .i64 (-1))), (1, 1, (AV.int .i64 1)), (2, 1, (AV.int .i64 (-1))), (3, 1, (AV.int .i64 (-1)))]) fun v89 =>
oh (evSt 4 v2 v89 h) fun _ h14 =>
(ob (evLd true 4 v2 h14) fun r0 =>
  ye h14 (.tup [r0, (AV.bool true)])))
 ((y94 v1 v2 v11 h))
def y2cf (s : St) : OX := y9t (s 1) (s 2) (s 11) (s 87) s.h
theorem y1em : T1 y15o yo (y5 0 yo xN) [.cell 2 true 4, .t 3] y2cf := fun s => (y1g rfl (y1mv s)).trans (by kernel_rfl)
def y90 (v1 v2 v11 : AV) (h : Heap) : OX :=
ob (y7 .eql v11 (AV.int .i64 10)) fun v88 =>
(y9t v1 v2 v11 v88 h)
def y2bf (s : St) : OX := y90 (s 1) (s 2) (s 11) s.h
theorem y1ce : T1 y07 yo (y5 0 yo xN) [.cell 2 true 4, .t 3] y2bf := sq y1em fun _ => by kernel_rfl
def y98 (v1 v2 v11 v84 : AV) (h : Heap) : OX :=
cnd v84
 (ob (y1c [(.int .i64 0), (.int .i64 0), (.int .i64 0), (.int .i64 0)] [(0, 1, (AV.int .i64 (-1))), (1, 1, (AV.int .i64 3)), (2, 1, (AV.int .i64 1)), (3, 1, (AV.int .i64 (-1)))]) fun v86 =>
oh (evSt 4 v2 v86 h) fun _ h15 =>
(ob (evLd true 4 v2 h15) fun r0 =>
  ye h15 (.tup [r0, (AV.bool true)])))
 ((y90 v1 v2 v11 h))
def y2at (s : St) : OX := y98 (s 1) (s 2) (s 11) (s 84) s.h
theorem y1e3 : T1 y12q yo (y5 0 yo xN) [.cell 2 true 4, .t 3] y2at := fun s => (y1g rfl (y1ce s)).trans (by kernel_rfl)
def y9g (v1 v2 v11 : AV) (h : Heap) : OX :=
ob (y7 .eql v11 (AV.int .i64 9)) fun v85 =>
(y98 v1 v2 v11 v85 h)
def y2dw (s : St) : OX := y9g (s 1) (s 2) (s 11) s.h
theorem y1iq : T1 y14o yo (y5 0 yo xN) [.cell 2 true 4, .t 3] y2dw := sq y1e3 fun _ => by kernel_rfl
def y8v (v1 v2 v11 v78 : AV) (h : Heap) : OX :=
cnd v78
 (ob (y1c [(.int .i64 0), (.int .i64 0), (.int .i64 0), (.int .i64 0)] [(0, 1, (AV.int .i64 1)), (1, 1, (AV.int .i64 3)), (2, 1, (AV.int .i64 (-1))), (3, 1, (AV.int .i64 (-1)))]) fun v80 =>
ob (evFa 7 v1) fun v81 =>
ob (evLd false 1 v81 h) fun v82 =>
oh (y8 E (y9 E) 0 none true 37 [v82] h) fun v83 h16 =>
oh (evSt 4 v2 v80 h16) fun _ h17 =>
(ob (evLd true 4 v2 h17) fun r0 =>
  ye h17 (.tup [r0, v83])))
 ((y9g v1 v2 v11 h))
def y2cy (s : St) : OX := y8v (s 1) (s 2) (s 11) (s 78) s.h
theorem y1if : T1 y152 yo (y5 0 yo xN) [.cell 2 true 4, .t 3] y2cy := fun s => (y1g rfl (y1iq s)).trans (by kernel_rfl)
def y8w (v1 v2 v11 : AV) (h : Heap) : OX :=
ob (y7 .eql v11 (AV.int .i64 22)) fun v79 =>
(y8v v1 v2 v11 v79 h)
def y2c9 (s : St) : OX := y8w (s 1) (s 2) (s 11) s.h
theorem y1i4 : T1 y13c yo (y5 0 yo xN) [.cell 2 true 4, .t 3] y2c9 := sq y1if fun _ => by kernel_rfl
def y9n (v1 v2 v11 v72 : AV) (h : Heap) : OX :=
cnd v72
 (ob (y1c [(.int .i64 0), (.int .i64 0), (.int .i64 0), (.int .i64 0)] [(0, 1, (AV.int .i64 (-1))), (1, 1, (AV.int .i64 3)), (2, 1, (AV.int .i64 (-1))), (3, 1, (AV.int .i64 (-1)))]) fun v74 =>
ob (evFa 7 v1) fun v75 =>
ob (evLd false 1 v75 h) fun v76 =>
oh (y8 E (y9 E) 0 none true 37 [v76] h) fun v77 h18 =>
oh (evSt 4 v2 v74 h18) fun _ h19 =>
(ob (evLd true 4 v2 h19) fun r0 =>
  ye h19 (.tup [r0, v77])))
 ((y8w v1 v2 v11 h))
def y2c8 (s : St) : OX := y9n (s 1) (s 2) (s 11) (s 72) s.h
theorem y1kt : T1 y12t yo (y5 0 yo xN) [.cell 2 true 4, .t 3] y2c8 := fun s => (y1g rfl (y1i4 s)).trans (by kernel_rfl)
def y9k (v1 v2 v11 : AV) (h : Heap) : OX :=
ob (y7 .eql v11 (AV.int .i64 12)) fun v73 =>
(y9n v1 v2 v11 v73 h)
def y2bn (s : St) : OX := y9k (s 1) (s 2) (s 11) s.h
theorem y1jo : T1 y12v yo (y5 0 yo xN) [.cell 2 true 4, .t 3] y2bn := sq y1kt fun _ => by kernel_rfl
def y7m (v1 v2 v11 v68 : AV) (h : Heap) : OX :=
cnd v68
 (ob (y1c [(.int .i64 0), (.int .i64 0), (.int .i64 0), (.int .i64 0)] [(0, 1, (AV.int .i64 (-1))), (1, 1, (AV.int .i64 3)), (2, 1, (AV.int .i64 (-1))), (3, 1, (AV.int .i64 (-1)))]) fun v71 =>
oh (evSt 4 v2 v71 h) fun _ h20 =>
(ob (evLd true 4 v2 h20) fun r0 =>
  ye h20 (.tup [r0, (AV.bool true)])))
 ((y9k v1 v2 v11 h))
def y2f9 (s : St) : OX := y7m (s 1) (s 2) (s 11) (s 68) s.h
theorem y1u7 : T1 y13b yo (y5 0 yo xN) [.cell 2 true 4, .t 3] y2f9 := fun s => (y1g rfl (y1jo s)).trans (by kernel_rfl)
def y91 (v1 v2 v11 : AV) (h : Heap) : OX :=
ob (y7 .eql v11 (AV.int .i64 8)) fun v69 =>
cnd v69
 ((y7m v1 v2 v11 v69 h))
 (ob (y7 .eql v11 (AV.int .i64 31)) fun v70 =>
(y7m v1 v2 v11 v70 h))
def y2ai (s : St) : OX := y91 (s 1) (s 2) (s 11) s.h
theorem y1ry : T1 y15y yo (y5 0 yo xN) [.cell 2 true 4, .t 3] y2ai := sq y1u7 fun _ => by kernel_rfl
def y9r (v1 v2 v11 v65 : AV) (h : Heap) : OX :=
cnd v65
 (ob (y1c [(.int .i64 0), (.int .i64 0), (.int .i64 0), (.int .i64 0)] [(0, 1, (AV.int .i64 (-1))), (1, 1, (AV.int .i64 0)), (2, 1, (AV.int .i64 (-1))), (3, 1, (AV.int .i64 (-1)))]) fun v67 =>
oh (evSt 4 v2 v67 h) fun _ h21 =>
(ob (evLd true 4 v2 h21) fun r0 =>
  ye h21 (.tup [r0, (AV.bool true)])))
 ((y91 v1 v2 v11 h))
def y28o (s : St) : OX := y9r (s 1) (s 2) (s 11) (s 65) s.h
theorem y1l9 : T1 y15g yo (y5 0 yo xN) [.cell 2 true 4, .t 3] y28o := fun s => (y1g rfl (y1ry s)).trans (by kernel_rfl)
def y95 (v1 v2 v11 : AV) (h : Heap) : OX :=
ob (y7 .eql v11 (AV.int .i64 7)) fun v66 =>
(y9r v1 v2 v11 v66 h)
def y2fa (s : St) : OX := y95 (s 1) (s 2) (s 11) s.h
theorem y1d6 : T1 y11h yo (y5 0 yo xN) [.cell 2 true 4, .t 3] y2fa := sq y1l9 fun _ => by kernel_rfl
def y99 (v1 v2 v11 v47 : AV) (h : Heap) : OX :=
cnd v47
 (ob (evFa 5 v1) fun v50 =>
ob (evLd false 1 v50 h) fun v51 =>
oh (y8 E (y9 E) 0 none true 50 [v51] h) fun v52 h22 =>
ob (ybu 0 v52) fun v53 =>
ob (ybu 1 v52) fun v54 =>
ob (ybu 2 v52) fun v55 =>
ob (y1c [(.int .i64 0), (.int .i64 0), (.int .i64 0), (.int .i64 0)] [(0, 1, v55), (1, 1, v53), (2, 1, (AV.int .i64 (-1))), (3, 1, (AV.int .i64 (-1)))]) fun v58 =>
ob (y7 .neq v53 (AV.int .i64 0)) fun v60 =>
gb v60 true (some v54) fun v62 =>
gb v60 true (y7 .eql v62 (AV.int .i64 0)) fun v63 =>
ob (yd v60 v63 (AV.bool false)) fun v64 =>
oh (evSt 4 v2 v58 h22) fun _ h23 =>
(ob (evLd true 4 v2 h23) fun r0 =>
  ye h23 (.tup [r0, v64])))
 ((y95 v1 v2 v11 h))
def y2e0 (s : St) : OX := y99 (s 1) (s 2) (s 11) (s 47) s.h
theorem y1f4 : T1 y11d yo (y5 0 yo xN) [.cell 2 true 4, .t 3] y2e0 := fun s => (y1g rfl (y1d6 s)).trans (by kernel_rfl)
def y96 (v1 v2 v11 : AV) (h : Heap) : OX :=
ob (y7 .eql v11 (AV.int .i64 6)) fun v48 =>
(y99 v1 v2 v11 v48 h)
def y2b7 (s : St) : OX := y96 (s 1) (s 2) (s 11) s.h
theorem y1ey : T1 ywq yo (y5 0 yo xN) [.cell 2 true 4, .t 3] y2b7 := sq y1f4 fun _ => by kernel_rfl
def y9h (v1 v2 v11 v25 : AV) (h : Heap) : OX :=
cnd v25
 (ob (evFa 5 v1) fun v28 =>
ob (evLd false 1 v28 h) fun v29 =>
oh (y8 E (y9 E) 0 none true 50 [v29] h) fun v30 h24 =>
ob (ybu 0 v30) fun v31 =>
ob (ybu 1 v30) fun v32 =>
ob (ybu 2 v30) fun v33 =>
ob (y1c [(.int .i64 0), (.int .i64 0), (.int .i64 0), (.int .i64 0)] [(0, 1, v33), (1, 1, v31), (2, 1, v32), (3, 1, (AV.int .i64 (-1)))]) fun v37 =>
ob (evFa 5 v1) fun v38 =>
ob (evLd false 1 v38 h24) fun v39 =>
ob (evFa 5 v1) fun v40 =>
ob (evLd false 1 v40 h24) fun v41 =>
ob (y7 .eql v39 v41) fun v42 =>
gb v42 true (some v32) fun v44 =>
gb v42 true (y7 .neq v44 (AV.int .i64 0)) fun v45 =>
ob (yd v42 v45 (AV.bool false)) fun v46 =>
oh (evSt 4 v2 v37 h24) fun _ h25 =>
(ob (evLd true 4 v2 h25) fun r0 =>
  ye h25 (.tup [r0, v46])))
 ((y96 v1 v2 v11 h))
def y2ci (s : St) : OX := y9h (s 1) (s 2) (s 11) (s 25) s.h
theorem y1ov : T1 y14k yo (y5 0 yo xN) [.cell 2 true 4, .t 3] y2ci := fun s => (y1g rfl (y1ey s)).trans (by kernel_rfl)
def y9m (v1 v2 v11 : AV) (h : Heap) : OX :=
ob (y7 .eql v11 (AV.int .i64 5)) fun v26 =>
(y9h v1 v2 v11 v26 h)
def y2dk (s : St) : OX := y9m (s 1) (s 2) (s 11) s.h
theorem y1n3 : T1 ywk yo (y5 0 yo xN) [.cell 2 true 4, .t 3] y2dk := sq y1ov fun _ => by kernel_rfl
def y8y (v1 v2 v11 v22 : AV) (h : Heap) : OX :=
cnd v22
 (ob (y1c [(.int .i64 0), (.int .i64 0), (.int .i64 0), (.int .i64 0)] [(0, 1, (AV.int .i64 0)), (1, 1, (AV.int .i64 0)), (2, 1, (AV.int .i64 (-1))), (3, 1, (AV.int .i64 (-1)))]) fun v24 =>
oh (evSt 4 v2 v24 h) fun _ h26 =>
(ob (evLd true 4 v2 h26) fun r0 =>
  ye h26 (.tup [r0, (AV.bool true)])))
 ((y9m v1 v2 v11 h))
def y2az (s : St) : OX := y8y (s 1) (s 2) (s 11) (s 22) s.h
theorem y1da : T1 yxo yo (y5 0 yo xN) [.cell 2 true 4, .t 3] y2az := fun s => (y1g rfl (y1n3 s)).trans (by kernel_rfl)
def y9q (v1 v2 v11 : AV) (h : Heap) : OX :=
ob (y7 .eql v11 (AV.int .i64 4)) fun v23 =>
(y8y v1 v2 v11 v23 h)
def y2er (s : St) : OX := y9q (s 1) (s 2) (s 11) s.h
theorem y1cs : T1 y11r yo (y5 0 yo xN) [.cell 2 true 4, .t 3] y2er := sq y1da fun _ => by kernel_rfl
def y6f (v1 v2 v11 v16 : AV) (h : Heap) : OX :=
cnd v16
 (ob (y1c [(.int .i64 0), (.int .i64 0), (.int .i64 0), (.int .i64 0)] [(0, 1, (AV.int .i64 3)), (1, 1, (AV.int .i64 (-1))), (2, 1, (AV.int .i64 (-1))), (3, 1, (AV.int .i64 (-1)))]) fun v21 =>
oh (evSt 4 v2 v21 h) fun _ h27 =>
(ob (evLd true 4 v2 h27) fun r0 =>
  ye h27 (.tup [r0, (AV.bool true)])))
 ((y9q v1 v2 v11 h))
def y2cd (s : St) : OX := y6f (s 1) (s 2) (s 11) (s 16) s.h
theorem y1nu : T1 yxt yo (y5 0 yo xN) [.cell 2 true 4, .t 3] y2cd := fun s => (y1g rfl (y1cs s)).trans (by kernel_rfl)
def y8x (v1 v2 v11 : AV) (h : Heap) : OX :=
ob (y7 .eql v11 (AV.int .i64 2)) fun v17 =>
cnd v17
 ((y6f v1 v2 v11 v17 h))
 (ob (y7 .eql v11 (AV.int .i64 3)) fun v18 =>
cnd v18
 ((y6f v1 v2 v11 v18 h))
 (ob (y7 .eql v11 (AV.int .i64 20)) fun v19 =>
cnd v19
 ((y6f v1 v2 v11 v19 h))
 (ob (y7 .eql v11 (AV.int .i64 32)) fun v20 =>
(y6f v1 v2 v11 v20 h))))
def y29a (s : St) : OX := y8x (s 1) (s 2) (s 11) s.h
theorem y1ob : T1 y11f yo (y5 0 yo xN) [.cell 2 true 4, .t 3] y29a := sq y1nu fun _ => by kernel_rfl
def y7o (v1 v2 v11 v12 : AV) (h : Heap) : OX :=
cnd v12
 (ob (y1c [(.int .i64 0), (.int .i64 0), (.int .i64 0), (.int .i64 0)] [(0, 1, (AV.int .i64 0)), (1, 1, (AV.int .i64 (-1))), (2, 1, (AV.int .i64 (-1))), (3, 1, (AV.int .i64 (-1)))]) fun v15 =>
oh (evSt 4 v2 v15 h) fun _ h28 =>
(ob (evLd true 4 v2 h28) fun r0 =>
  ye h28 (.tup [r0, (AV.bool true)])))
 ((y8x v1 v2 v11 h))
def y29v (s : St) : OX := y7o (s 1) (s 2) (s 11) (s 12) s.h
theorem y1lp : T1 y17w yo (y5 0 yo xN) [.cell 2 true 4, .t 3] y29v := fun s => (y1g rfl (y1ob s)).trans (by kernel_rfl)
def y9c (v1 v2 v11 : AV) (h : Heap) : OX :=
ob (y7 .eql v11 (AV.int .i64 1)) fun v13 =>
cnd v13
 ((y7o v1 v2 v11 v13 h))
 (ob (y7 .eql v11 (AV.int .i64 18)) fun v14 =>
(y7o v1 v2 v11 v14 h))
def y1cl (s : St) : OX := y9c (s 1) (s 2) (s 11) s.h
theorem y1fx : T1 yz8 yo (y5 0 yo xN) [.cell 2 true 4, .t 3] y1cl := sq y1lp fun _ => by kernel_rfl
theorem y1fy : T1 y120 yo xN [.cell 2 true 4, .t 3] y1cl := fun s => yw.trans (y1fx s)
def y9b (v1 v2 : AV) (h : Heap) : OX :=
ob (evFa 0 v1) fun v10 =>
ob (evLd false 1 v10 h) fun v11 =>
(y9c v1 v2 v11 h)
def y1qc (s : St) : OX := y9b (s 1) (s 2) s.h
theorem y1nb : T1 y13e yo xN [.cell 2 true 4, .t 3] y1qc := sq y1fy fun _ => by kernel_rfl
theorem y1s0 : T0 yzo [.cell 2 true 4, .t 3] y1qc := sq y21y y1nb
def y9e (v0 : AV) (h : Heap) : OX :=
oh (newC 0 (some 0) (cellsOf v0) h) fun v1 h29 =>
oh (newC 0 (some 1) [(.int .i64 0), (.int .i64 0), (.int .i64 0), (.int .i64 0)] h29) fun v2 h30 =>
(y9b v1 v2 h30)
def y2be (s : St) : OX := y9e (s 0) s.h
theorem y1vu : T0 yyh [.cell 2 true 4, .t 3] y2be := sq y1s0 fun _ => by kernel_rfl
@[simp] theorem y2qx : E.pure 47 = true := rfl
theorem y1ff (v0 : AV) : (y9 E).p 47 [v0] = y9e v0 [⟨0, .dead⟩, ⟨0, .dead⟩] :=
  (y12 (cf := y2nh) (by kernel_rfl) rfl).trans ((y1vu _).trans (by kernel_rfl))
def y2cp (fb : Nat) (v5 : AV) (h : Heap) : Option (AV × Heap) :=
(some (v5, h))
def y9f (fb : Nat) (s : St) : Option (AV × Heap) := y2cp fb (s 5) s.h
theorem y21c (fb : Nat) (s : St) : W E fb y1ek s (finI [.t 4]) xN (finI [.t 4]) = y9f fb s :=
  by kernel_rfl
def yss (fb : Nat) (v0 v5 v8 v9 v10 : AV) (h : Heap) : Option (AV × Heap) :=
  W E fb yov ⟨[(0, v0), (5, v5), (8, v8), (9, v9), (10, v10)], h⟩ (y9f fb) (y5 0 (y9f fb) xN) (finI [.t 4])
def ya9 (fb : Nat) (s : St) : Option (AV × Heap) := yss fb (s 0) (s 5) (s 8) (s 9) (s 10) s.h
theorem yrl (fb : Nat) (s : St) : W E fb yov s (y9f fb) (y5 0 (y9f fb) xN) (finI [.t 4]) = ya9 fb s := yi.trans (by kernel_rfl)
def y243 (fb : Nat) (v0 v5 v8 v9 v10 : AV) (h : Heap) : Option (AV × Heap) :=
ob (y7 .add v10 (AV.int .i64 1)) fun v32 =>
(yss fb v0 v5 v8 v9 v32 h)
def y279 (fb : Nat) (s : St) : Option (AV × Heap) := y243 fb (s 0) (s 5) (s 8) (s 9) (s 10) s.h
theorem y20n (fb : Nat) (s : St) : W E fb y1fo s (ya9 fb) (y5 0 (y9f fb) xN) (finI [.t 4]) = y279 fb s :=
  by kernel_rfl
def y20l (fb : Nat) (v0 v5 v8 v9 v10 : AV) (h : Heap) : Option (AV × Heap) :=
ob (yt 1 v8 v10) fun v13 =>
ob (evLd false 1 v13 h) fun v14 =>
gb v5 false (some v14) fun v17 =>
gb v5 false (some v0) fun v18 =>
gb v5 false (some v10) fun v19 =>
gb v5 false (yt 1 v18 v19) fun v20 =>
gb v5 false (evLd false 1 v20 h) fun v21 =>
gb v5 false (y7 .andNot v17 v21) fun v22 =>
gb v5 false (y7 .neq v22 (AV.int .u64 0)) fun v23 =>
ob (yd v5 (AV.bool true) v23) fun v24 =>
ob (yt 1 v0 v10) fun v27 =>
ob (evLd false 1 v27 h) fun v28 =>
ob (y7 .or v28 v14) fun v30 =>
ob (yt 1 v0 v10) fun v31 =>
oh (evSt 1 v31 v30 h) fun _ h1 =>
(y243 fb v0 v24 v8 v9 v10 h1)
def y26r (fb : Nat) (s : St) : Option (AV × Heap) := y20l fb (s 0) (s 5) (s 8) (s 9) (s 10) s.h
theorem y23n (fb : Nat) (s : St) : W E fb y1iz s (ya9 fb) (y5 0 (y9f fb) xN) (finI [.t 4]) = y26r fb s :=
  (yak (k := (y279 fb)) (fun s => y20n fb s)).trans (by kernel_rfl)
def y1pw (fb : Nat) (v0 v5 v8 v9 v10 v11 : AV) (h : Heap) : Option (AV × Heap) :=
cnd v11
 ((y20l fb v0 v5 v8 v9 v10 h))
 ((y2cp fb v5 h))
def y26s (fb : Nat) (s : St) : Option (AV × Heap) := y1pw fb (s 0) (s 5) (s 8) (s 9) (s 10) (s 11) s.h
theorem y25q (fb : Nat) (s : St) : W E fb y1d9 s (ya9 fb) (y5 0 (y9f fb) xN) (finI [.t 4]) = y26s fb s :=
  (yak (k := (y26r fb)) (fun s => y23n fb s)).trans (by kernel_rfl)
def y1or (fb : Nat) (v0 v5 v8 v9 v10 : AV) (h : Heap) : Option (AV × Heap) :=
ob (y7 .lss v10 v9) fun v11 =>
(y1pw fb v0 v5 v8 v9 v10 v11 h)
def y2jx (fb : Nat) (s : St) : Option (AV × Heap) := y1or fb (s 0) (s 5) (s 8) (s 9) (s 10) s.h
theorem y1zw (fb : Nat) (s : St) : W E fb y1ps s (ya9 fb) (y5 0 (y9f fb) xN) (finI [.t 4]) = y2jx fb s :=
  (yak (k := (y26s fb)) (fun s => y25q fb s)).trans (by kernel_rfl)
theorem yrj (fb : Nat) (v0 v5 v8 v9 v10 : AV) (h : Heap) : yss fb v0 v5 v8 v9 v10 h = (y1or fb v0 v5 v8 v9 v10 h) :=
  y1n.trans ((y17 _ _ _ (n' := (ya9 fb)) (fun s => yrl fb s)).trans ((y1zw fb _).trans (by kernel_rfl)))
theorem y21p (fb : Nat) (s : St) : W E fb y1ea s (y9f fb) xN (finI [.t 4]) = ya9 fb s :=
  yw.trans (yrl fb s)
def y2ak (fb : Nat) (v0 v1 v5 : AV) (h : Heap) : Option (AV × Heap) :=
ob (y14 1 v1 h) fun v9 =>
(yss fb v0 v5 v1 v9 (AV.int .i64 0) h)
def y1m8 (fb : Nat) (s : St) : Option (AV × Heap) := y2ak fb (s 0) (s 1) (s 5) s.h
theorem y1xy (fb : Nat) (s : St) : W E fb y1js s (y9f fb) xN (finI [.t 4]) = y1m8 fb s :=
  (yak (k := (ya9 fb)) (fun s => y21p fb s)).trans (by kernel_rfl)
theorem y25v (fb : Nat) (s : St) : W E fb y1pj s (finI [.t 4]) xN (finI [.t 4]) = y1m8 fb s :=
  (yak (k := (y9f fb)) (fun s => y21c fb s)).trans (y1xy fb s)
def y1wv (fb : Nat) (v0 v1 : AV) (h : Heap) : Option (AV × Heap) :=
(y2ak fb v0 v1 (AV.bool false) h)
def y1gd (fb : Nat) (s : St) : Option (AV × Heap) := y1wv fb (s 0) (s 1) s.h
theorem y1hz (fb : Nat) (s : St) : W E fb yyo s (finI [.t 4]) xN (finI [.t 4]) = y1gd fb s :=
  (yak (k := (y1m8 fb)) (fun s => y25v fb s)).trans (by kernel_rfl)
def y1cn (fb : Nat) (v0 v1 : AV) (h : Heap) : Option (AV × Heap) :=
(y1wv fb v0 v1 h)
def y28m (fb : Nat) (s : St) : Option (AV × Heap) := y1cn fb (s 0) (s 1) s.h
theorem y1hf (fb : Nat) (s : St) : W E fb yyf s (finI [.t 4]) xN (finI [.t 4]) = y28m fb s :=
  (yak (k := (y1gd fb)) (fun s => y1hz fb s)).trans (by kernel_rfl)
@[simp] theorem y2r2 : E.pure 84 = false := rfl
theorem y2ow (fb : Nat) (v0 v1 : AV) (h : Heap) : (y9 E).i 84 [v0, v1] fb h = y1cn fb v0 v1 (if fb = h.length then h ++ yk 0 else h) :=
  (yor (cf := y2kw) (by kernel_rfl) rfl).trans ((y1hf fb _).trans (by kernel_rfl))
def y24w (fb : Nat) (v0 v1 : AV) (h : Heap) : Option (AV × Heap) :=
ob (y7 .quo v1 (AV.int .i64 64)) fun v6 =>
ob (yt 1 v0 v6) fun v7 =>
ob (evLd false 1 v7 h) fun v8 =>
ob (y7 .rem v1 (AV.int .i64 64)) fun v10 =>
ob (y7 .shl (AV.int .u64 1) v10) fun v11 =>
ob (y7 .andNot v8 v11) fun v12 =>
ob (yt 1 v0 v6) fun v13 =>
oh (evSt 1 v13 v12 h) fun _ h1 =>
(some ((.tup []), h1))
def y2ke (fb : Nat) (s : St) : Option (AV × Heap) := y24w fb (s 0) (s 1) s.h
theorem y1xi (fb : Nat) (s : St) : W E fb y1id s (finI []) xN (finI []) = y2ke fb s :=
  by kernel_rfl
@[simp] theorem y2rz : E.pure 85 = false := rfl
theorem y2q2 (fb : Nat) (v0 v1 : AV) (h : Heap) : (y9 E).i 85 [v0, v1] fb h = y24w fb v0 v1 (if fb = h.length then h ++ yk 0 else h) :=
  (yor (cf := y2kl) (by kernel_rfl) rfl).trans ((y1xi fb _).trans (by kernel_rfl))
def y22i (fb : Nat) (v0 v1 : AV) (h : Heap) : Option (AV × Heap) :=
ob (y7 .quo v1 (AV.int .i64 64)) fun v6 =>
ob (yt 1 v0 v6) fun v7 =>
ob (evLd false 1 v7 h) fun v8 =>
ob (y7 .rem v1 (AV.int .i64 64)) fun v10 =>
ob (y7 .shl (AV.int .u64 1) v10) fun v11 =>
ob (y7 .or v8 v11) fun v12 =>
ob (yt 1 v0 v6) fun v13 =>
oh (evSt 1 v13 v12 h) fun _ h1 =>
(some ((.tup []), h1))
def y2k1 (fb : Nat) (s : St) : Option (AV × Heap) := y22i fb (s 0) (s 1) s.h
theorem y219 (fb : Nat) (s : St) : W E fb y1qw s (finI []) xN (finI []) = y2k1 fb s :=
  by kernel_rfl
@[simp] theorem y2r9 : E.pure 86 = false := rfl
theorem y2p2 (fb : Nat) (v0 v1 : AV) (h : Heap) : (y9 E).i 86 [v0, v1] fb h = y22i fb v0 v1 (if fb = h.length then h ++ yk 0 else h) :=
  (yor (cf := y2i1) (by kernel_rfl) rfl).trans ((y219 fb _).trans (by kernel_rfl))
def yw9 (v0 v1 v2 v3 : AV) (h : Heap) : OX :=
ob (y5f 0 true v0 AV.nilp) fun v10 =>
gb v10 true (some v2) fun v12 =>
gb v10 true (y7 .geq v12 (AV.int .i64 0)) fun v13 =>
ob (yd v10 v13 (AV.bool false)) fun v14 =>
gb v14 true (some v2) fun v16 =>
gb v14 true (some v1) fun v17 =>
gb v14 true (y14 1 v17 h) fun v18 =>
gb v14 true (y7 .lss v16 v18) fun v19 =>
ob (yd v14 v19 (AV.bool false)) fun v20 =>
gb v20 true (some v3) fun v22 =>
gb v20 true (y7 .geq v22 (AV.int .i64 0)) fun v23 =>
ob (yd v20 v23 (AV.bool false)) fun v24 =>
gb v24 true (some v3) fun v26 =>
gb v24 true (some v0) fun v27 =>
gb v24 true (y1t v27) fun v28 =>
gb v24 true (evFa 3 v28) fun v29 =>
gb v24 true (evLd false 1 v29 h) fun v30 =>
gb v24 true (y7 .lss v26 v30) fun v31 =>
ob (yd v24 v31 (AV.bool false)) fun v32 =>
gb v32 true (some v1) fun v34 =>
gb v32 true (some v2) fun v35 =>
gb v32 true (yt 1 v34 v35) fun v36 =>
gb v32 true (evLd false 1 v36 h) fun v37 =>
gb v32 true (some v3) fun v38 =>
gh v32 true (y8 E (y9 E) 0 none true 83 [v37, v38] h) h fun v39 h1 =>
ob (yd v32 v39 (AV.bool false)) fun v40 =>
(ye h1 v40)
def y2ho (s : St) : OX := yw9 (s 0) (s 1) (s 2) (s 3) s.h
theorem y23h : T0 y1vl [.t 8] y2ho := fun _ => by kernel_rfl
@[simp] theorem y2sp : E.pure 82 = true := rfl
theorem y2sj (v0 v1 v2 v3 : AV) : (y9 E).p 82 [v0, v1, v2, v3] = yw9 v0 v1 v2 v3 [] :=
  (y12 (cf := y2hw) (by kernel_rfl) rfl).trans ((y23h _).trans (by kernel_rfl))
def y1sy (v0 : AV) (h : Heap) : OX :=
oh (newC 0 (some 0) (cellsOf v0) h) fun v1 h1 =>
ob (evFa 0 v1) fun v3 =>
ob (evLd false 1 v3 h1) fun v4 =>
ob (y7 .geq v4 (AV.int .i64 7)) fun v5 =>
gb v5 true (evFa 0 v1) fun v7 =>
gb v5 true (evLd false 1 v7 h1) fun v8 =>
gb v5 true (y7 .leq v8 (AV.int .i64 12)) fun v9 =>
ob (yd v5 v9 (AV.bool false)) fun v10 =>
gb v10 false (evFa 0 v1) fun v12 =>
gb v10 false (evLd false 1 v12 h1) fun v13 =>
gb v10 false (y7 .eql v13 (AV.int .i64 20)) fun v14 =>
ob (yd v10 (AV.bool true) v14) fun v15 =>
gb v15 false (evFa 0 v1) fun v17 =>
gb v15 false (evLd false 1 v17 h1) fun v18 =>
gb v15 false (y7 .eql v18 (AV.int .i64 21)) fun v19 =>
ob (yd v15 (AV.bool true) v19) fun v20 =>
gb v20 false (evFa 0 v1) fun v22 =>
gb v20 false (evLd false 1 v22 h1) fun v23 =>
gb v20 false (y7 .eql v23 (AV.int .i64 31)) fun v24 =>
ob (yd v20 (AV.bool true) v24) fun v25 =>
gb v25 false (evLd true 9 v1 h1) fun v27 =>
gh v25 false (y8 E (y9 E) 0 none true 17 [v27] h1) h1 fun v28 h2 =>
ob (yd v25 (AV.bool true) v28) fun v29 =>
(ye h2 v29)
def y2jn (s : St) : OX := y1sy (s 0) s.h
theorem y1y6 : T0 y1tu [.t 2] y2jn := fun _ => by kernel_rfl
@[simp] theorem y2q0 : E.pure 18 = true := rfl
theorem y2ql (v0 : AV) : (y9 E).p 18 [v0] = y1sy v0 [⟨0, .dead⟩] :=
  (y12 (cf := y2jh) (by kernel_rfl) rfl).trans ((y1y6 _).trans (by kernel_rfl))
@[simp] theorem y2q8 : E.pure 95 = true := rfl
@[simp] theorem y2pv : E.pure 16 = true := rfl
def y1pg (v0 v3 : AV) (h : Heap) : OX :=
ob (yt 1 v3 v0) fun v15 =>
ob (evLd false 1 v15 h) fun v16 =>
(ye h v16)
def y2eg (s : St) : OX := y1pg (s 0) (s 3) s.h
theorem y1rv : T0 yyd [.t 2] y2eg := fun _ => by kernel_rfl
def y1jb (v0 v3 : AV) (h : Heap) : OX :=
ob (y7 .lss v0 (AV.int .i64 1)) fun v6 =>
gb v6 false (some v0) fun v8 =>
gb v6 false (some v3) fun v9 =>
gb v6 false (y14 1 v9 h) fun v10 =>
gb v6 false (y7 .geq v8 v10) fun v11 =>
ob (yd v6 (AV.bool true) v11) fun v12 =>
cnd v12
 ((ye h (AV.str [])))
 ((y1pg v0 v3 h))
def y2gx (s : St) : OX := y1jb (s 0) (s 3) s.h
theorem y1i7 : T0 y14f [.t 2] y2gx := sq y1rv fun _ => by kernel_rfl
def y1cu (v0 : AV) (h : Heap) : OX :=
oh (y11 0 (some 0) 1 34 [(.str [])] [(0, (AV.str [])), (1, (AV.str [110, 45, 45, 45])), (2, (AV.str [51, 45, 45, 45])), (3, (AV.str [51, 45, 45, 45])), (4, (AV.str [42, 61, 45, 45])), (5, (AV.str [63, 63, 63, 63])), (6, (AV.str [63, 63, 63, 63])), (7, (AV.str [45, 110, 45, 45])), (8, (AV.str [45, 51, 45, 45])), (9, (AV.str [45, 51, 49, 45])), (10, (AV.str [45, 49, 45, 45])), (11, (AV.str [45, 51, 51, 45])), (12, (AV.str [45, 51, 45, 45])), (13, (AV.str [42, 51, 49, 45])), (14, (AV.str [45, 51, 49, 42])), (15, (AV.str [49, 51, 45, 45])), (16, (AV.str [42, 51, 45, 45])), (17, (AV.str [45, 51, 42, 45])), (18, (AV.str [42, 45, 45, 45])), (19, (AV.str [45, 42, 45, 45])), (20, (AV.str [51, 45, 45, 45])), (21, (AV.str [51, 49, 45, 45])), (22, (AV.str [49, 51, 45, 45])), (23, (AV.str [63, 63, 63, 63])), (24, (AV.str [63, 63, 63, 63])), (25, (AV.str [63, 63, 63, 63])), (26, (AV.str [63, 63, 63, 63])), (27, (AV.str [45, 45, 45, 45])), (28, (AV.str [45, 49, 49, 45])), (29, (AV.str [45, 51, 63, 45])), (30, (AV.str [45, 63, 45, 45])), (31, (AV.str [45, 51, 45, 45])), (32, (AV.str [51, 45, 45, 45])), (33, (AV.str [45, 45, 45, 45]))] h) fun v4 h1 =>
(y1jb v0 v4 h1)
def y2au (s : St) : OX := y1cu (s 0) s.h
theorem y1ka : T0 y11x [.t 2] y2au := sq y1i7 fun _ => by kernel_rfl
def y1gs (v0 : AV) (h : Heap) : OX :=
(y1cu v0 h)
def y2bl (s : St) : OX := y1gs (s 0) s.h
theorem y1lw : T0 y14n [.t 2] y2bl := sq y1ka fun _ => by kernel_rfl
@[simp] theorem y2sh : E.pure 38 = true := rfl
theorem y2mg (v0 : AV) : (y9 E).p 38 [v0] = y1gs v0 [⟨0, .dead⟩] :=
  (y12 (cf := y284) (by kernel_rfl) rfl).trans ((y1lw _).trans (by kernel_rfl))
def yc3 (v2 v7 : AV) (h : Heap) : OX :=
ob (y7 .sub v2 (AV.int .u8 48)) fun v30 =>
ob (y1a9 .i64 v30) fun v31 =>
ob (y7 .eql v7 v31) fun v32 =>
(ye h v32)
def y6l (s : St) : OX := yc3 (s 2) (s 7) s.h
theorem y1q1 : T0 y12l [.t 6] y6l := fun _ => by kernel_rfl
def yan (v2 v7 v11 v15 : AV) (h : Heap) : OX :=
cnd v15
 (ob (y7 .gtr v7 (AV.int .i64 0)) fun v19 =>
(ye h v19))
 (ob (y7 .eql v11 (AV.int .u8 110)) fun v21 =>
cnd v21
 (ob (y7 .eql v7 (AV.int .i64 1)) fun v23 =>
gb v23 false (some v7) fun v25 =>
gb v23 false (y7 .eql v25 (AV.int .i64 2)) fun v26 =>
ob (yd v23 (AV.bool true) v26) fun v27 =>
(ye h v27))
 ((yc3 v2 v7 h)))
def y2go (s : St) : OX := yan (s 2) (s 7) (s 11) (s 15) s.h
theorem y1h5 : T1 y0c y6l (y5 0 y6l xN) [.t 6] y2go := fun _ => by kernel_rfl
def yc2 (v2 v7 v11 : AV) (h : Heap) : OX :=
ob (y7 .eql v11 (AV.int .u8 42)) fun v16 =>
cnd v16
 ((yan v2 v7 v11 v16 h))
 (ob (y7 .eql v11 (AV.int .u8 61)) fun v17 =>
(yan v2 v7 v11 v17 h))
def y2bp (s : St) : OX := yc2 (s 2) (s 7) (s 11) s.h
theorem y1rd : T1 yzr y6l (y5 0 y6l xN) [.t 6] y2bp := sq y1h5 fun _ => by kernel_rfl
def yar (v2 v7 v11 v12 : AV) (h : Heap) : OX :=
cnd v12
 ((ye h (AV.bool true)))
 ((yc2 v2 v7 v11 h))
def y29u (s : St) : OX := yar (s 2) (s 7) (s 11) (s 12) s.h
theorem y1ty : T1 y148 y6l (y5 0 y6l xN) [.t 6] y29u := fun s => (y1g rfl (y1rd s)).trans (by kernel_rfl)
def yc9 (v2 v7 v11 : AV) (h : Heap) : OX :=
ob (y7 .eql v11 (AV.int .u8 45)) fun v13 =>
cnd v13
 ((yar v2 v7 v11 v13 h))
 (ob (y7 .eql v11 (AV.int .u8 63)) fun v14 =>
(yar v2 v7 v11 v14 h))
def y1nd (s : St) : OX := yc9 (s 2) (s 7) (s 11) s.h
theorem y1jm : T1 yzi y6l (y5 0 y6l xN) [.t 6] y1nd := sq y1ty fun _ => by kernel_rfl
theorem y1hu : T1 y156 y6l xN [.t 6] y1nd := fun s => yw.trans (y1jm s)
def ycd (v2 v7 : AV) (h : Heap) : OX :=
(yc9 v2 v7 v2 h)
def y1qp (s : St) : OX := ycd (s 2) (s 7) s.h
theorem y1eq : T1 y139 y6l xN [.t 6] y1qp := sq y1hu fun _ => by kernel_rfl
theorem y1ig : T0 y159 [.t 6] y1qp := sq y1q1 y1eq
def ycc (v1 v2 v3 : AV) (h : Heap) : OX :=
ob (evLd true 5 v3 h) fun v8 =>
oh (y8 E (y9 E) 0 none true 48 [v8, v1] h) fun v10 h1 =>
(ycd v2 v10 h1)
def y2g5 (s : St) : OX := ycc (s 1) (s 2) (s 3) s.h
theorem y1og : T0 y0t [.t 6] y2g5 := sq y1ig fun _ => by kernel_rfl
def y77 (v0 v1 v2 : AV) (h : Heap) : OX :=
oh (newC 0 (some 0) (cellsOf v0) h) fun v3 h2 =>
(ycc v1 v2 v3 h2)
def y1zx (s : St) : OX := y77 (s 0) (s 1) (s 2) s.h
theorem y1c6 : T0 yq2 [.t 6] y1zx := sq y1og fun _ => by kernel_rfl
@[simp] theorem y2qy : E.pure 65 = true := rfl
theorem y2md (v0 v1 v2 : AV) : (y9 E).p 65 [v0, v1, v2] = y77 v0 v1 v2 [⟨0, .dead⟩] :=
  (y12 (cf := y27y) (by kernel_rfl) rfl).trans ((y1c6 _).trans (by kernel_rfl))
def y235 (h : Heap) : OX :=
(ye h (.tup [(AV.int .i64 0), (AV.int .i64 0), (AV.int .i64 0)]))
def y2je (s : St) : OX := y235 s.h
theorem y20c : T0 y1mg [.t 2, .t 3, .t 4] y2je := fun _ => by kernel_rfl
def y1zm (v0 v5 : AV) (h : Heap) : OX :=
gb v5 true (some v0) fun v28 =>
gb v5 true (y7 .rem v28 (AV.int .i64 2)) fun v29 =>
gb v5 true (y7 .eql v29 (AV.int .i64 0)) fun v30 =>
ob (yd v5 v30 (AV.bool false)) fun v31 =>
cnd v31
 ((ye h (.tup [(AV.int .i64 1), (AV.int .i64 1), (AV.int .i64 1)])))
 (ob (y7 .eql v0 (AV.int .i64 121)) fun v34 =>
gb v34 false (some v0) fun v36 =>
gb v34 false (y7 .eql v36 (AV.int .i64 123)) fun v37 =>
ob (yd v34 (AV.bool true) v37) fun v38 =>
gb v38 false (some v0) fun v40 =>
gb v38 false (y7 .eql v40 (AV.int .i64 125)) fun v41 =>
ob (yd v38 (AV.bool true) v41) fun v42 =>
cnd v42
 ((ye h (.tup [(AV.int .i64 2), (AV.int .i64 1), (AV.int .i64 2)])))
 (cnd v5
 ((ye h (.tup [(AV.int .i64 2), (AV.int .i64 2), (AV.int .i64 2)])))
 (ob (y7 .eql v0 (AV.int .i64 148)) fun v47 =>
cnd v47
 ((ye h (.tup [(AV.int .i64 2), (AV.int .i64 2), (AV.int .i64 1)])))
 (ob (y7 .eql v0 (AV.int .i64 116)) fun v50 =>
gb v50 false (some v0) fun v52 =>
gb v50 false (y7 .geq v52 (AV.int .i64 145)) fun v53 =>
gb v50 false (some v53) fun v54 =>
gb v54 true (some v0) fun v55 =>
gb v54 true (y7 .leq v55 (AV.int .i64 147)) fun v56 =>
gb v50 false (yd v54 v56 (AV.bool false)) fun v57 =>
ob (yd v50 (AV.bool true) v57) fun v58 =>
cnd v58
 ((ye h (.tup [(AV.int .i64 1), (AV.int .i64 0), (AV.int .i64 1)])))
 (ob (y7 .eql v0 (AV.int .i64 117)) fun v61 =>
cnd v61
 ((ye h (.tup [(AV.int .i64 2), (AV.int .i64 0), (AV.int .i64 2)])))
 (ob (y7 .eql v0 (AV.int .i64 133)) fun v64 =>
cnd v64
 ((ye h (.tup [(AV.int .i64 1), (AV.int .i64 0), (AV.int .i64 2)])))
 (ob (y7 .eql v0 (AV.int .i64 136)) fun v67 =>
cnd v67
 ((ye h (.tup [(AV.int .i64 2), (AV.int .i64 0), (AV.int .i64 1)])))
 ((y235 h)))))))))
def y2ns (s : St) : OX := y1zm (s 0) (s 5) s.h
theorem y1xa : T0 y1dm [.t 2, .t 3, .t 4] y2ns := sq y20c fun _ => by kernel_rfl
def y24b (v0 : AV) (h : Heap) : OX :=
ob (y7 .geq v0 (AV.int .i64 96)) fun v7 =>
gb v7 true (some v0) fun v9 =>
gb v7 true (y7 .leq v9 (AV.int .i64 113)) fun v10 =>
ob (yd v7 v10 (AV.bool false)) fun v11 =>
gb v11 true (some v0) fun v13 =>
gb v11 true (y7 .rem v13 (AV.int .i64 4)) fun v14 =>
gb v11 true (y7 .lss v14 (AV.int .i64 2)) fun v15 =>
ob (yd v11 v15 (AV.bool false)) fun v16 =>
gb v16 false (some v0) fun v18 =>
gb v16 false (y7 .geq v18 (AV.int .i64 120)) fun v19 =>
gb v16 false (some v19) fun v20 =>
gb v20 true (some v0) fun v21 =>
gb v20 true (y7 .leq v21 (AV.int .i64 131)) fun v22 =>
gb v16 false (yd v20 v22 (AV.bool false)) fun v23 =>
ob (yd v16 (AV.bool true) v23) fun v24 =>
(y1zm v0 v24 h)
def y2mm (s : St) : OX := y24b (s 0) s.h
theorem y21q : T0 y1mo [.t 2, .t 3, .t 4] y2mm := sq y1xa fun _ => by kernel_rfl
def y21l (v0 : AV) (h : Heap) : OX :=
(y24b v0 h)
def y2j7 (s : St) : OX := y21l (s 0) s.h
theorem y261 : T0 y1cm [.t 2, .t 3, .t 4] y2j7 := sq y21q fun _ => by kernel_rfl
@[simp] theorem y2q4 : E.pure 66 = true := rfl
theorem y2rd (v0 : AV) : (y9 E).p 66 [v0] = y21l v0 [] :=
  (y12 (cf := y2l5) (by kernel_rfl) rfl).trans ((y261 _).trans (by kernel_rfl))
def ykd (v0 : AV) (h : Heap) : OX :=
ob (y14 0 v0 h) fun v28 =>
ob (y7 .gtr v28 (AV.int .i64 2)) fun v29 =>
gb v29 true (some v0) fun v31 =>
gb v29 true (y5n v31 (AV.int .i64 0)) fun v32 =>
gb v29 true (y7 .eql v32 (AV.int .u8 76)) fun v33 =>
ob (yd v29 v33 (AV.bool false)) fun v34 =>
gb v34 true (some v0) fun v36 =>
gb v34 true (some v0) fun v37 =>
gb v34 true (y14 0 v37 h) fun v38 =>
gb v34 true (y7 .sub v38 (AV.int .i64 1)) fun v39 =>
gb v34 true (y5n v36 v39) fun v40 =>
gb v34 true (y7 .eql v40 (AV.int .u8 59)) fun v41 =>
ob (yd v34 v41 (AV.bool false)) fun v42 =>
gb v42 true (some v0) fun v44 =>
gb v42 true (some v0) fun v45 =>
gb v42 true (y14 0 v45 h) fun v46 =>
gb v42 true (y7 .sub v46 (AV.int .i64 1)) fun v47 =>
gb v42 true (yea v44 (some (AV.int .i64 1)) (some v47)) fun v48 =>
gh v42 true (y8 E (y9 E) 0 none true 69 [v48, (AV.bool false)] h) h fun v49 h1 =>
ob (yd v42 v49 (AV.bool false)) fun v50 =>
(ye h1 v50)
def y2gd (s : St) : OX := ykd (s 0) s.h
theorem y1ef : T0 y15d [.t 2] y2gd := fun _ => by kernel_rfl
def ydw (v0 : AV) (h : Heap) : OX :=
ob (y7 .eql v0 (AV.str [73])) fun v22 =>
gb v22 false (some v0) fun v24 =>
gb v22 false (y7 .eql v24 (AV.str [74])) fun v25 =>
ob (yd v22 (AV.bool true) v25) fun v26 =>
cnd v26
 ((ye h (AV.bool true)))
 ((ykd v0 h))
def y29l (s : St) : OX := ydw (s 0) s.h
theorem y1oo : T0 yyk [.t 2] y29l := sq y1ef fun _ => by kernel_rfl
def yr6 (v0 v3 : AV) (h : Heap) : OX :=
ob (y7 .gtr v3 (AV.int .i64 8)) fun v20 =>
cnd v20
 ((ye h (AV.bool false)))
 ((ydw v0 h))
def y2a0 (s : St) : OX := yr6 (s 0) (s 3) s.h
theorem y1pq : T0 yyj [.t 2] y2a0 := sq y1oo fun _ => by kernel_rfl
def ym6 (v0 v3 : AV) (h : Heap) : OX :=
ob (yea v0 (some v3) none) fun v18 =>
(yr6 v18 v3 h)
def yat (s : St) : OX := ym6 (s 0) (s 3) s.h
theorem y1r9 : T0 y165 [.t 2] yat := sq y1pq fun _ => by kernel_rfl
def yfe (v0 v3 : AV) (h : Heap) : OX :=
  W E 0 yi8 ⟨[(0, v0), (3, v3)], h⟩ yat (y5 0 yat xN) (finP [.t 2])
def ybf (s : St) : OX := yfe (s 0) (s 3) s.h
theorem yld : T1 yi8 yat (y5 0 yat xN) [.t 2] ybf := fun s => yi.trans (by kernel_rfl)
def y15c (v0 v3 : AV) (h : Heap) : OX :=
ob (y7 .add v3 (AV.int .i64 1)) fun v15 =>
(yfe v0 v15 h)
def y2h3 (s : St) : OX := y15c (s 0) (s 3) s.h
theorem y1gi : T1 yxy ybf (y5 0 yat xN) [.t 2] y2h3 := fun _ => by kernel_rfl
def ylu (v0 v3 : AV) (h : Heap) : OX :=
ob (y14 0 v0 h) fun v6 =>
ob (y7 .lss v3 v6) fun v7 =>
gb v7 true (some v0) fun v9 =>
gb v7 true (some v3) fun v10 =>
gb v7 true (y5n v9 v10) fun v11 =>
gb v7 true (y7 .eql v11 (AV.int .u8 91)) fun v12 =>
ob (yd v7 v12 (AV.bool false)) fun v13 =>
cnd v13
 ((y15c v0 v3 h))
 ((ym6 v0 v3 h))
def y2g3 (s : St) : OX := ylu (s 0) (s 3) s.h
theorem y1ew : T1 y11s ybf (y5 0 yat xN) [.t 2] y2g3 := sq y1gi fun _ => by kernel_rfl
theorem yn3 (v0 v3 : AV) (h : Heap) : yfe v0 v3 h = (ylu v0 v3 h) :=
  y1n.trans ((y17 _ _ _ (n' := ybf) (fun s => yld s)).trans ((y1ew _).trans (by kernel_rfl)))
theorem y1tf : T1 y114 yat xN [.t 2] ybf := fun s => yw.trans (yld s)
theorem y1es : T0 y184 [.t 2] ybf := sq y1r9 y1tf
def yw5 (v0 : AV) (h : Heap) : OX :=
(yfe v0 (AV.int .i64 0) h)
def y211 (s : St) : OX := yw5 (s 0) s.h
theorem y19z : T0 yrs [.t 2] y211 := sq y1es fun _ => by kernel_rfl
def yo9 (v0 : AV) (h : Heap) : OX :=
(yw5 v0 h)
def y25j (s : St) : OX := yo9 (s 0) s.h
theorem y1ak : T0 ysw [.t 2] y25j := sq y19z fun _ => by kernel_rfl
@[simp] theorem y2oo : E.pure 67 = true := rfl
theorem y2ip (v0 : AV) : (y9 E).p 67 [v0] = yo9 v0 [] :=
  (y12 (cf := y274) (by kernel_rfl) rfl).trans ((y1ak _).trans (by kernel_rfl))
def y5h (v2 v3 : AV) (h : Heap) : OX :=
ob (evFa 0 v3) fun v47 =>
ob (evLd false 1 v47 h) fun v48 =>
ob (y7 .neq v48 (AV.int .i64 24)) fun v49 =>
gb v49 true (evFa 0 v3) fun v51 =>
gb v49 true (evLd false 1 v51 h) fun v52 =>
gb v49 true (y7 .neq v52 (AV.int .i64 25)) fun v53 =>
ob (yd v49 v53 (AV.bool false)) fun v54 =>
gb v54 false (evFa 8 v3) fun v56 =>
gb v54 false (evLd false 1 v56 h) fun v57 =>
gb v54 false (y14 1 v57 h) fun v58 =>
gb v54 false (y7 .gtr v58 (AV.int .i64 0)) fun v59 =>
gb v54 false (some v59) fun v60 =>
gb v60 true (evLd true 5 v2 h) fun v61 =>
gb v60 true (evFa 8 v3) fun v62 =>
gb v60 true (evLd false 1 v62 h) fun v63 =>
gb v60 true (yt 1 v63 (AV.int .i64 0)) fun v64 =>
gb v60 true (evLd false 1 v64 h) fun v65 =>
gh v60 true (y8 E (y9 E) 0 none true 48 [v61, v65] h) h fun v66 h1 =>
gb v60 true (y7 .eql v66 (AV.int .i64 3)) fun v67 =>
gb v54 false (yd v60 v67 (AV.bool false)) fun v68 =>
ob (yd v54 (AV.bool true) v68) fun v69 =>
(ye h1 v69)
def y7a (s : St) : OX := y5h (s 2) (s 3) s.h
theorem y1ri : T0 y13q [.t 4] y7a := fun _ => by kernel_rfl
def yhk (v2 v3 v5 : AV) (h : Heap) : OX :=
  W E 0 yjw ⟨[(2, v2), (3, v3), (5, v5)], h⟩ y7a (y5 0 y7a xN) (finP [.t 4])
def yb9 (s : St) : OX := yhk (s 2) (s 3) (s 5) s.h
theorem ym7 : T1 yjw y7a (y5 0 y7a xN) [.t 4] yb9 := fun s => yi.trans (by kernel_rfl)
def y9i (v2 v3 v5 : AV) (h : Heap) : OX :=
ob (y7 .add v5 (AV.int .i64 1)) fun v38 =>
(yhk v2 v3 v38 h)
def y295 (s : St) : OX := y9i (s 2) (s 3) (s 5) s.h
theorem y1os : T1 ywm yb9 (y5 0 y7a xN) [.t 4] y295 := fun _ => by kernel_rfl
def y7s (v2 v3 v5 : AV) (h : Heap) : OX :=
ob (evLd true 5 v2 h) fun v39 =>
ob (evFa 8 v3) fun v40 =>
ob (evLd false 1 v40 h) fun v41 =>
ob (yt 1 v41 v5) fun v43 =>
ob (evLd false 1 v43 h) fun v44 =>
oh (y8 E (y9 E) 0 none true 48 [v39, v44] h) fun v45 h2 =>
ob (y7 .eql v45 (AV.int .i64 0)) fun v46 =>
cnd v46
 ((ye h2 (AV.bool false)))
 ((y9i v2 v3 v5 h2))
def y2ad (s : St) : OX := y7s (s 2) (s 3) (s 5) s.h
theorem y1u6 : T1 y140 yb9 (y5 0 y7a xN) [.t 4] y2ad := sq y1os fun _ => by kernel_rfl
def y6t (v2 v3 v5 : AV) (h : Heap) : OX :=
ob (evFa 8 v3) fun v33 =>
ob (evLd false 1 v33 h) fun v34 =>
ob (y14 1 v34 h) fun v35 =>
ob (y7 .lss v5 v35) fun v36 =>
cnd v36
 ((y7s v2 v3 v5 h))
 ((y5h v2 v3 h))
def y2aj (s : St) : OX := y6t (s 2) (s 3) (s 5) s.h
theorem y1f1 : T1 yya yb9 (y5 0 y7a xN) [.t 4] y2aj := sq y1u6 fun _ => by kernel_rfl
theorem ynk (v2 v3 v5 : AV) (h : Heap) : yhk v2 v3 v5 h = (y6t v2 v3 v5 h) :=
  y1n.trans ((y17 _ _ _ (n' := yb9) (fun s => ym7 s)).trans ((y1f1 _).trans (by kernel_rfl)))
theorem y1kd : T1 yye y7a xN [.t 4] yb9 := fun s => yw.trans (ym7 s)
def yb4 (v2 v3 : AV) (h : Heap) : OX :=
(yhk v2 v3 (AV.int .i64 0) h)
def y1o5 (s : St) : OX := yb4 (s 2) (s 3) s.h
theorem y1r3 : T1 y122 y7a xN [.t 4] y1o5 := sq y1kd fun _ => by kernel_rfl
theorem y1gm : T0 y12h [.t 4] y1o5 := sq y1ri y1r3
def yau (v2 v3 : AV) (h : Heap) : OX :=
ob (evFa 5 v3) fun v6 =>
ob (evLd false 1 v6 h) fun v7 =>
ob (y7 .lss v7 (AV.int .i64 0)) fun v8 =>
gb v8 true (evFa 0 v3) fun v10 =>
gb v8 true (evLd false 1 v10 h) fun v11 =>
gb v8 true (y7 .neq v11 (AV.int .i64 25)) fun v12 =>
ob (yd v8 v12 (AV.bool false)) fun v13 =>
gb v13 false (evFa 8 v3) fun v15 =>
gb v13 false (evLd false 1 v15 h) fun v16 =>
gb v13 false (y14 1 v16 h) fun v17 =>
gb v13 false (y7 .gtr v17 (AV.int .i64 21)) fun v18 =>
ob (yd v13 (AV.bool true) v18) fun v19 =>
gb v19 false (evFa 1 v3) fun v21 =>
gb v19 false (evLd false 1 v21 h) fun v22 =>
gb v19 false (y7 .neq v22 (AV.int .i64 (-1))) fun v23 =>
gb v19 false (some v23) fun v24 =>
gb v24 true (evLd true 5 v2 h) fun v25 =>
gb v24 true (evFa 1 v3) fun v26 =>
gb v24 true (evLd false 1 v26 h) fun v27 =>
gh v24 true (y8 E (y9 E) 0 none true 48 [v25, v27] h) h fun v28 h3 =>
gb v24 true (y7 .eql v28 (AV.int .i64 0)) fun v29 =>
gb v19 false (yd v24 v29 (AV.bool false)) fun v30 =>
ob (yd v19 (AV.bool true) v30) fun v31 =>
cnd v31
 ((ye h3 (AV.bool false)))
 ((yb4 v2 v3 h3))
def y2gm (s : St) : OX := yau (s 2) (s 3) s.h
theorem y1ol : T0 yx1 [.t 4] y2gm := sq y1gm fun _ => by kernel_rfl
def y6d (v0 v1 : AV) (h : Heap) : OX :=
oh (newC 0 (some 0) (cellsOf v0) h) fun v2 h4 =>
oh (newC 0 (some 1) (cellsOf v1) h4) fun v3 h5 =>
(yau v2 v3 h5)
def y23l (s : St) : OX := y6d (s 0) (s 1) s.h
theorem y1ax : T0 ypz [.t 4] y23l := sq y1ol fun _ => by kernel_rfl
@[simp] theorem y2q3 : E.pure 68 = true := rfl
theorem y2j2 (v0 v1 : AV) : (y9 E).p 68 [v0, v1] = y6d v0 v1 [⟨0, .dead⟩, ⟨0, .dead⟩] :=
  (y12 (cf := y276) (by kernel_rfl) rfl).trans ((y1ax _).trans (by kernel_rfl))
def y2fj (h : Heap) : OX :=
(ye h (.tup [(AV.int .i64 0), (AV.int .i64 0), (AV.int .i64 0)]))
def y3s (s : St) : OX := y2fj s.h
theorem y22e : T0 y1oa [.t 2, .t 3, .t 4] y3s := fun _ => by kernel_rfl
def y19n (v5 v33 : AV) (h : Heap) : OX :=
cnd v33
 ((ye h (.tup [(AV.int .i64 1), (AV.int .i64 0), (AV.int .i64 1)])))
 (ob (y7 .eql v5 (AV.int .i64 117)) fun v39 =>
cnd v39
 ((ye h (.tup [(AV.int .i64 2), (AV.int .i64 0), (AV.int .i64 2)])))
 (ob (y7 .eql v5 (AV.int .i64 133)) fun v41 =>
cnd v41
 ((ye h (.tup [(AV.int .i64 1), (AV.int .i64 0), (AV.int .i64 2)])))
 (ob (y7 .eql v5 (AV.int .i64 136)) fun v43 =>
cnd v43
 ((ye h (.tup [(AV.int .i64 2), (AV.int .i64 0), (AV.int .i64 1)])))
 ((y2fj h)))))
def y2m9 (s : St) : OX := y19n (s 5) (s 33) s.h
theorem y1z7 : T1 y1k3 y3s (y5 0 y3s xN) [.t 2, .t 3, .t 4] y2m9 := fun _ => by kernel_rfl
def y2em (v5 : AV) (h : Heap) : OX :=
ob (y7 .eql v5 (AV.int .i64 116)) fun v34 =>
cnd v34
 ((y19n v5 v34 h))
 (ob (y7 .eql v5 (AV.int .i64 145)) fun v35 =>
cnd v35
 ((y19n v5 v35 h))
 (ob (y7 .eql v5 (AV.int .i64 146)) fun v36 =>
cnd v36
 ((y19n v5 v36 h))
 (ob (y7 .eql v5 (AV.int .i64 147)) fun v37 =>
(y19n v5 v37 h))))
def y2kg (s : St) : OX := y2em (s 5) s.h
theorem y1zp : T1 y1df y3s (y5 0 y3s xN) [.t 2, .t 3, .t 4] y2kg := sq y1z7 fun _ => by kernel_rfl
def y2ar (v5 v31 : AV) (h : Heap) : OX :=
cnd v31
 ((ye h (.tup [(AV.int .i64 2), (AV.int .i64 2), (AV.int .i64 1)])))
 ((y2em v5 h))
def y2im (s : St) : OX := y2ar (s 5) (s 31) s.h
theorem y1zl : T1 y1u9 y3s (y5 0 y3s xN) [.t 2, .t 3, .t 4] y2im := fun s => (y1g rfl (y1zp s)).trans (by kernel_rfl)
def y2dp (v5 : AV) (h : Heap) : OX :=
ob (y7 .eql v5 (AV.int .i64 148)) fun v32 =>
(y2ar v5 v32 h)
def y2hn (s : St) : OX := y2dp (s 5) s.h
theorem y21a : T1 y1g1 y3s (y5 0 y3s xN) [.t 2, .t 3, .t 4] y2hn := sq y1zl fun _ => by kernel_rfl
def y1qx (v5 v27 : AV) (h : Heap) : OX :=
cnd v27
 ((ye h (.tup [(AV.int .i64 2), (AV.int .i64 1), (AV.int .i64 2)])))
 ((y2dp v5 h))
def y2k7 (s : St) : OX := y1qx (s 5) (s 27) s.h
theorem y20h : T1 y1gl y3s (y5 0 y3s xN) [.t 2, .t 3, .t 4] y2k7 := fun s => (y1g rfl (y21a s)).trans (by kernel_rfl)
def y2c5 (v5 : AV) (h : Heap) : OX :=
ob (y7 .eql v5 (AV.int .i64 121)) fun v28 =>
cnd v28
 ((y1qx v5 v28 h))
 (ob (y7 .eql v5 (AV.int .i64 123)) fun v29 =>
cnd v29
 ((y1qx v5 v29 h))
 (ob (y7 .eql v5 (AV.int .i64 125)) fun v30 =>
(y1qx v5 v30 h)))
def y2nj (s : St) : OX := y2c5 (s 5) s.h
theorem y21n : T1 y1rz y3s (y5 0 y3s xN) [.t 2, .t 3, .t 4] y2nj := sq y20h fun _ => by kernel_rfl
def yko (v5 v18 : AV) (h : Heap) : OX :=
cnd v18
 ((ye h (.tup [(AV.int .i64 2), (AV.int .i64 2), (AV.int .i64 2)])))
 ((y2c5 v5 h))
def y2mv (s : St) : OX := yko (s 5) (s 18) s.h
theorem y22j : T1 y1su y3s (y5 0 y3s xN) [.t 2, .t 3, .t 4] y2mv := fun s => (y1g rfl (y21n s)).trans (by kernel_rfl)
def y2fs (v5 : AV) (h : Heap) : OX :=
ob (y7 .eql v5 (AV.int .i64 97)) fun v19 =>
cnd v19
 ((yko v5 v19 h))
 (ob (y7 .eql v5 (AV.int .i64 101)) fun v20 =>
cnd v20
 ((yko v5 v20 h))
 (ob (y7 .eql v5 (AV.int .i64 105)) fun v21 =>
cnd v21
 ((yko v5 v21 h))
 (ob (y7 .eql v5 (AV.int .i64 109)) fun v22 =>
cnd v22
 ((yko v5 v22 h))
 (ob (y7 .eql v5 (AV.int .i64 113)) fun v23 =>
cnd v23
 ((yko v5 v23 h))
 (ob (y7 .eql v5 (AV.int .i64 127)) fun v24 =>
cnd v24
 ((yko v5 v24 h))
 (ob (y7 .eql v5 (AV.int .i64 129)) fun v25 =>
cnd v25
 ((yko v5 v25 h))
 (ob (y7 .eql v5 (AV.int .i64 131)) fun v26 =>
(yko v5 v26 h))))))))
def y2lr (s : St) : OX := y2fs (s 5) s.h
theorem y225 : T1 y1sv y3s (y5 0 y3s xN) [.t 2, .t 3, .t 4] y2lr := sq y22j fun _ => by kernel_rfl
def y7r (v5 v6 : AV) (h : Heap) : OX :=
cnd v6
 ((ye h (.tup [(AV.int .i64 1), (AV.int .i64 1), (AV.int .i64 1)])))
 ((y2fs v5 h))
def y29e (s : St) : OX := y7r (s 5) (s 6) s.h
theorem y1o4 : T1 yx2 y3s (y5 0 y3s xN) [.t 2, .t 3, .t 4] y29e := fun s => (y1g rfl (y225 s)).trans (by kernel_rfl)
def y1j0 (v5 : AV) (h : Heap) : OX :=
ob (y7 .eql v5 (AV.int .i64 96)) fun v7 =>
cnd v7
 ((y7r v5 v7 h))
 (ob (y7 .eql v5 (AV.int .i64 100)) fun v8 =>
cnd v8
 ((y7r v5 v8 h))
 (ob (y7 .eql v5 (AV.int .i64 104)) fun v9 =>
cnd v9
 ((y7r v5 v9 h))
 (ob (y7 .eql v5 (AV.int .i64 108)) fun v10 =>
cnd v10
 ((y7r v5 v10 h))
 (ob (y7 .eql v5 (AV.int .i64 112)) fun v11 =>
cnd v11
 ((y7r v5 v11 h))
 (ob (y7 .eql v5 (AV.int .i64 120)) fun v12 =>
cnd v12
 ((y7r v5 v12 h))
 (ob (y7 .eql v5 (AV.int .i64 122)) fun v13 =>
cnd v13
 ((y7r v5 v13 h))
 (ob (y7 .eql v5 (AV.int .i64 124)) fun v14 =>
cnd v14
 ((y7r v5 v14 h))
 (ob (y7 .eql v5 (AV.int .i64 126)) fun v15 =>
cnd v15
 ((y7r v5 v15 h))
 (ob (y7 .eql v5 (AV.int .i64 128)) fun v16 =>
cnd v16
 ((y7r v5 v16 h))
 (ob (y7 .eql v5 (AV.int .i64 130)) fun v17 =>
(y7r v5 v17 h)))))))))))
def y1fn (s : St) : OX := y1j0 (s 5) s.h
theorem y1o0 : T1 y17p y3s (y5 0 y3s xN) [.t 2, .t 3, .t 4] y1fn := sq y1o4 fun _ => by kernel_rfl
theorem y1hk : T1 y132 y3s xN [.t 2, .t 3, .t 4] y1fn := fun s => yw.trans (y1o0 s)
def y1kq (v0 : AV) (h : Heap) : OX :=
(y1j0 v0 h)
def y1wq (s : St) : OX := y1kq (s 0) s.h
theorem y1sh : T1 y11u y3s xN [.t 2, .t 3, .t 4] y1wq := sq y1hk fun _ => by kernel_rfl
theorem y1q2 : T0 y0y [.t 2, .t 3, .t 4] y1wq := sq y22e y1sh
def y1e7 (v0 : AV) (h : Heap) : OX :=
(y1kq v0 h)
def y2ao (s : St) : OX := y1e7 (s 0) s.h
theorem y1tl : T0 y13p [.t 2, .t 3, .t 4] y2ao := sq y1q2 fun _ => by kernel_rfl
@[simp] theorem y2qz : E.pure 50 = true := rfl
theorem y2rt (v0 : AV) : (y9 E).p 50 [v0] = y1e7 v0 [] :=
  (y12 (cf := y2hr) (by kernel_rfl) rfl).trans ((y1tl _).trans (by kernel_rfl))
def q8_1 (v0 : AV) (h : Heap) : OX :=
ob (y7 .neq v0 (AV.str [])) fun v4 =>
gb v4 true (some v0) fun v6 =>
gh v4 true (y8 E (y9 E) 0 none true 44 [v6] h) h fun v7 h1 =>
gb v4 true (some v0) fun v8 =>
gb v4 true (y14 0 v8 h1) fun v9 =>
gb v4 true (y7 .eql v7 v9) fun v10 =>
ob (yd v4 v10 (AV.bool false)) fun v11 =>
(ye h1 v11)
def y2sa (s : St) : OX := q8_1 (s 0) s.h
theorem y2cu : T0 y26n [.t 2] y2sa := fun _ => by kernel_rfl
@[simp] theorem y2q9 : E.pure 37 = true := rfl
theorem x_q8 (v0 : AV) : (y9 E).p 37 [v0] = q8_1 v0 [] :=
  (y12 (cf := c_q8) (by kernel_rfl) rfl).trans ((y2cu _).trans (by kernel_rfl))
def yvt (v2 : AV) (h : Heap) : OX :=
ob (y1c [(.int .i64 0), (.int .i64 0), (.int .i64 0), (.int .i64 0)] []) fun v73 =>
oh (evSt 4 v2 v73 h) fun _ h1 =>
(ob (evLd true 4 v2 h1) fun r0 =>
  ye h1 (.tup [r0, (AV.bool false)]))
def y2j (s : St) : OX := yvt (s 2) s.h
theorem y248 : T0 y1qu [.cell 2 true 4, .t 3] y2j := fun _ => by kernel_rfl
def yq0 (v1 v2 v4 : AV) (h : Heap) : OX :=
ob (y1c [(.int .i64 0), (.int .i64 0), (.int .i64 0), (.int .i64 0)] [(0, 1, (AV.int .i64 (-1))), (1, 1, (AV.int .i64 3)), (2, 1, v4), (3, 1, (AV.int .i64 (-1)))]) fun v16 =>
ob (evFa 5 v1) fun v17 =>
ob (evLd false 1 v17 h) fun v18 =>
ob (y7 .eql v18 (AV.int .i64 0)) fun v19 =>
ofp (fgd v19 false (some ([], []))) fun f6 =>
gb v19 false (evFa 5 v1) fun v21 =>
ofp (fgd v19 false (some (ids1 v21, []))) fun f7 =>
gb v19 false (evLd false 1 v21 h) fun v22 =>
ofp (fgd v19 false (some ([], []))) fun f8 =>
gb v19 false (y7 .eql v22 (AV.int .i64 1)) fun v23 =>
ob (yd v19 (AV.bool true) v23) fun v24 =>
oh (evSt 4 v2 v16 h) fun _ h2 =>
okK (yf [([], []), ([], []), ([], []), (ids1 v17, []), ([], []), ([], []), f6, f7, f8, ([], []), ([], ids1 v2), ([], [])] [(7, 10)]) <|
(ob (evLd true 4 v2 h2) fun r0 =>
  ye h2 (.tup [r0, v24]))
def y2l7 (s : St) : OX := yq0 (s 1) (s 2) (s 4) s.h
theorem y25p : T1 y1u5 y2j (y5 0 y2j xN) [.cell 2 true 4, .t 3] y2l7 := fun _ => by kernel_rfl
def yus (v1 v2 v4 : AV) (h : Heap) : OX :=
ob (evFa 3 v1) fun v12 =>
ob (evLd false 1 v12 h) fun v13 =>
ob (y7 .neq v13 (AV.int .i64 (-1))) fun v14 =>
cnd v14
 ((yq0 v1 v2 (AV.int .i64 3) h))
 ((yq0 v1 v2 v4 h))
def y2lh (s : St) : OX := yus (s 1) (s 2) (s 4) s.h
theorem y21u : T1 y1vb y2j (y5 0 y2j xN) [.cell 2 true 4, .t 3] y2lh := sq y25p fun _ => by kernel_rfl
def yvd (v1 v2 : AV) (h : Heap) : OX :=
(yus v1 v2 (AV.int .i64 (-1)) h)
def y2ku (s : St) : OX := yvd (s 1) (s 2) s.h
theorem y1z9 : T1 y1vn y2j (y5 0 y2j xN) [.cell 2 true 4, .t 3] y2ku := sq y21u fun _ => by kernel_rfl
def yr2 (v2 v5 : AV) (h : Heap) : OX :=
ob (y1c [(.int .i64 0), (.int .i64 0), (.int .i64 0), (.int .i64 0)] [(0, 1, (AV.int .i64 (-1))), (1, 1, v5), (2, 1, (AV.int .i64 (-1))), (3, 1, (AV.int .i64 (-1)))]) fun v31 =>
oh (evSt 4 v2 v31 h) fun _ h3 =>
(ob (evLd true 4 v2 h3) fun r0 =>
  ye h3 (.tup [r0, (AV.bool true)]))
def y2i2 (s : St) : OX := yr2 (s 2) (s 5) s.h
theorem y210 : T1 y1ga y2j (y5 0 y2j xN) [.cell 2 true 4, .t 3] y2i2 := fun _ => by kernel_rfl
def yw1 (v1 v2 v5 : AV) (h : Heap) : OX :=
ob (evFa 2 v1) fun v27 =>
ob (evLd false 1 v27 h) fun v28 =>
ob (y7 .neq v28 (AV.int .i64 (-1))) fun v29 =>
cnd v29
 ((yr2 v2 (AV.int .i64 0) h))
 ((yr2 v2 v5 h))
def y2ju (s : St) : OX := yw1 (s 1) (s 2) (s 5) s.h
theorem y25h : T1 y1nc y2j (y5 0 y2j xN) [.cell 2 true 4, .t 3] y2ju := sq y210 fun _ => by kernel_rfl
def yug (v1 v2 : AV) (h : Heap) : OX :=
(yw1 v1 v2 (AV.int .i64 (-1)) h)
def y2ls (s : St) : OX := yug (s 1) (s 2) s.h
theorem y25d : T1 y1hn y2j (y5 0 y2j xN) [.cell 2 true 4, .t 3] y2ls := sq y25h fun _ => by kernel_rfl
def ytq (v1 v2 v6 : AV) (h : Heap) : OX :=
ob (evFa 0 v1) fun v40 =>
ob (evLd false 1 v40 h) fun v41 =>
ob (y7 .eql v41 (AV.int .i64 23)) fun v42 =>
gb v42 false (evFa 0 v1) fun v44 =>
gb v42 false (evLd false 1 v44 h) fun v45 =>
gb v42 false (y7 .eql v45 (AV.int .i64 26)) fun v46 =>
ob (yd v42 (AV.bool true) v46) fun v47 =>
gb v47 false (evFa 8 v1) fun v49 =>
gb v47 false (evLd false 1 v49 h) fun v50 =>
gb v47 false (y14 1 v50 h) fun v51 =>
gb v47 false (y7 .gtr v51 (AV.int .i64 0)) fun v52 =>
ob (yd v47 (AV.bool true) v52) fun v53 =>
ob (y1c [(.int .i64 0), (.int .i64 0), (.int .i64 0), (.int .i64 0)] [(0, 1, v6), (1, 1, (AV.int .i64 (-1))), (2, 1, (AV.int .i64 (-1))), (3, 1, (AV.int .i64 (-1)))]) fun v55 =>
ofp (fgd v53 true (some ([], []))) fun f4 =>
gb v53 true (evFa 5 v1) fun v58 =>
ofp (fgd v53 true (some (ids1 v58, []))) fun f5 =>
gb v53 true (evLd false 1 v58 h) fun v59 =>
ofp (fgd v53 true (some ([], []))) fun f6 =>
gb v53 true (y7 .geq v59 (AV.int .i64 0)) fun v60 =>
ofp (fgd v53 true (some ([], []))) fun f7 =>
gb v53 true (some v60) fun v61 =>
ofp (fgd v61 false (some ([], []))) fun f8 =>
gb v61 false (evFa 0 v1) fun v62 =>
ofp (fgd v61 false (some (ids1 v62, []))) fun f9 =>
gb v61 false (evLd false 1 v62 h) fun v63 =>
ofp (fgd v61 false (some ([], []))) fun f10 =>
gb v61 false (y7 .eql v63 (AV.int .i64 25)) fun v64 =>
ofp (fgd v53 true (some ([], []))) fun f11 =>
gb v53 true (yd v61 (AV.bool true) v64) fun v65 =>
ob (yd v53 v65 (AV.bool false)) fun v66 =>
ofp (fgd v66 true (some ([], []))) fun f14 =>
gb v66 true (evFa 8 v1) fun v68 =>
ofp (fgd v66 true (some (ids1 v68, []))) fun f15 =>
gb v66 true (evLd false 1 v68 h) fun v69 =>
ofp (fgd v66 true (some (ids1 v69, []))) fun f16 =>
gb v66 true (y14 1 v69 h) fun v70 =>
ofp (fgd v66 true (some ([], []))) fun f17 =>
gb v66 true (y7 .leq v70 (AV.int .i64 21)) fun v71 =>
ob (yd v66 v71 (AV.bool false)) fun v72 =>
oh (evSt 4 v2 v55 h) fun _ h4 =>
okK (yf [([], []), ([], []), ([], []), ([], []), f4, f5, f6, f7, f8, f9, f10, f11, ([], []), ([], []), f14, f15, f16, f17, ([], []), ([], ids1 v2), ([], [])] [(15, 19), (16, 19)]) <|
(ob (evLd true 4 v2 h4) fun r0 =>
  ye h4 (.tup [r0, v72]))
def y2n2 (s : St) : OX := ytq (s 1) (s 2) (s 6) s.h
theorem y247 : T1 y1t5 y2j (y5 0 y2j xN) [.cell 2 true 4, .t 3] y2n2 := fun _ => by kernel_rfl
def yui (v1 v2 v6 : AV) (h : Heap) : OX :=
ob (evFa 1 v1) fun v37 =>
ob (evLd false 1 v37 h) fun v38 =>
ob (y7 .neq v38 (AV.int .i64 (-1))) fun v39 =>
cnd v39
 ((ytq v1 v2 (AV.int .i64 0) h))
 ((ytq v1 v2 v6 h))
def y2nc (s : St) : OX := yui (s 1) (s 2) (s 6) s.h
theorem y221 : T1 y1w2 y2j (y5 0 y2j xN) [.cell 2 true 4, .t 3] y2nc := sq y247 fun _ => by kernel_rfl
def ykc (v1 v2 : AV) (h : Heap) : OX :=
(yui v1 v2 (AV.int .i64 (-1)) h)
def y2av (s : St) : OX := ykc (s 1) (s 2) s.h
theorem y1re : T1 y16k y2j (y5 0 y2j xN) [.cell 2 true 4, .t 3] y2av := sq y221 fun _ => by kernel_rfl
def yc0 (v1 v2 v32 : AV) (h : Heap) : OX :=
cnd v32
 ((ykc v1 v2 h))
 ((yvt v2 h))
def y2ax (s : St) : OX := yc0 (s 1) (s 2) (s 32) s.h
theorem y1n1 : T1 y14m y2j (y5 0 y2j xN) [.cell 2 true 4, .t 3] y2ax := fun s => (y1g (y1re s) rfl).trans (by kernel_rfl)
def yiq (v1 v2 v9 : AV) (h : Heap) : OX :=
ob (y7 .eql v9 (AV.int .i64 23)) fun v33 =>
cnd v33
 ((yc0 v1 v2 v33 h))
 (ob (y7 .eql v9 (AV.int .i64 24)) fun v34 =>
cnd v34
 ((yc0 v1 v2 v34 h))
 (ob (y7 .eql v9 (AV.int .i64 25)) fun v35 =>
cnd v35
 ((yc0 v1 v2 v35 h))
 (ob (y7 .eql v9 (AV.int .i64 26)) fun v36 =>
(yc0 v1 v2 v36 h))))
def y2f3 (s : St) : OX := yiq (s 1) (s 2) (s 9) s.h
theorem y1f3 : T1 yy5 y2j (y5 0 y2j xN) [.cell 2 true 4, .t 3] y2f3 := sq y1n1 fun _ => by kernel_rfl
def yi6 (v1 v2 v9 v25 : AV) (h : Heap) : OX :=
cnd v25
 ((yug v1 v2 h))
 ((yiq v1 v2 v9 h))
def y2fw (s : St) : OX := yi6 (s 1) (s 2) (s 9) (s 25) s.h
theorem y1jg : T1 y178 y2j (y5 0 y2j xN) [.cell 2 true 4, .t 3] y2fw := fun s => (y1g (y25d s) (y1f3 s)).trans (by kernel_rfl)
def yif (v1 v2 v9 : AV) (h : Heap) : OX :=
ob (y7 .eql v9 (AV.int .i64 30)) fun v26 =>
(yi6 v1 v2 v9 v26 h)
def y2gu (s : St) : OX := yif (s 1) (s 2) (s 9) s.h
theorem y1us : T1 ywf y2j (y5 0 y2j xN) [.cell 2 true 4, .t 3] y2gu := sq y1jg fun _ => by kernel_rfl
def yhe (v1 v2 v9 v10 : AV) (h : Heap) : OX :=
cnd v10
 ((yvd v1 v2 h))
 ((yif v1 v2 v9 h))
def y29i (s : St) : OX := yhe (s 1) (s 2) (s 9) (s 10) s.h
theorem y1ro : T1 y130 y2j (y5 0 y2j xN) [.cell 2 true 4, .t 3] y29i := fun s => (y1g (y1z9 s) (y1us s)).trans (by kernel_rfl)
def yka (v1 v2 v9 : AV) (h : Heap) : OX :=
ob (y7 .eql v9 (AV.int .i64 29)) fun v11 =>
(yhe v1 v2 v9 v11 h)
def y1dc (s : St) : OX := yka (s 1) (s 2) (s 9) s.h
theorem y1vk : T1 y14u y2j (y5 0 y2j xN) [.cell 2 true 4, .t 3] y1dc := sq y1ro fun _ => by kernel_rfl
theorem y1pr : T1 y0d y2j xN [.cell 2 true 4, .t 3] y1dc := fun s => yw.trans (y1vk s)
def yj1 (v1 v2 : AV) (h : Heap) : OX :=
ob (evFa 0 v1) fun v8 =>
ob (evLd false 1 v8 h) fun v9 =>
(yka v1 v2 v9 h)
def y1iv (s : St) : OX := yj1 (s 1) (s 2) s.h
theorem y1qg : T1 y166 y2j xN [.cell 2 true 4, .t 3] y1iv := sq y1pr fun _ => by kernel_rfl
theorem y1jp : T0 y175 [.cell 2 true 4, .t 3] y1iv := sq y248 y1qg
def yjf (v0 : AV) (h : Heap) : OX :=
oh (newC 0 (some 0) (cellsOf v0) h) fun v1 h5 =>
oh (newC 0 (some 1) [(.int .i64 0), (.int .i64 0), (.int .i64 0), (.int .i64 0)] h5) fun v2 h6 =>
(yj1 v1 v2 h6)
def y2bh (s : St) : OX := yjf (s 0) s.h
theorem y1w3 : T0 y16i [.cell 2 true 4, .t 3] y2bh := sq y1jp fun _ => by kernel_rfl
@[simp] theorem y2re : E.pure 51 = true := rfl
theorem y1xg (v0 : AV) : (y9 E).p 51 [v0] = yjf v0 [⟨0, .dead⟩, ⟨0, .dead⟩] :=
  (y12 (cf := y2j0) (by kernel_rfl) rfl).trans ((y1w3 _).trans (by kernel_rfl))
def y2bz (v0 v1 : AV) (h : Heap) : OX :=
ob (y7 .quo v1 (AV.int .i64 64)) fun v7 =>
ob (yt 1 v0 v7) fun v8 =>
ob (evLd false 1 v8 h) fun v9 =>
ob (y7 .rem v1 (AV.int .i64 64)) fun v11 =>
ob (y7 .shr v9 v11) fun v12 =>
ob (y7 .and v12 (AV.int .u64 1)) fun v13 =>
ob (y7 .eql v13 (AV.int .u64 1)) fun v14 =>
(ye h v14)
def y2lc (s : St) : OX := y2bz (s 0) (s 1) s.h
theorem y22u : T0 y1qk [.t 4] y2lc := fun _ => by kernel_rfl
@[simp] theorem y2rh : E.pure 83 = true := rfl
theorem y2qv (v0 v1 : AV) : (y9 E).p 83 [v0, v1] = y2bz v0 v1 [] :=
  (y12 (cf := y2kz) (by kernel_rfl) rfl).trans ((y22u _).trans (by kernel_rfl))
@[simp] theorem y2qa : E.pure 15 = true := rfl
@[simp] theorem y2pm : E.pure 92 = true := rfl
@[simp] theorem y2pl : E.pure 96 = true := rfl
def yi5 (v0 : AV) (h : Heap) : OX :=
ob (y7 .neq v0 (AV.str [])) fun v25 =>
gb v25 true (some v0) fun v27 =>
gb v25 true (y14 0 v27 h) fun v28 =>
gb v25 true (y7 .leq v28 (AV.int .i64 60)) fun v29 =>
ob (yd v25 v29 (AV.bool false)) fun v30 =>
(ye h v30)
def y75 (s : St) : OX := yi5 (s 0) s.h
theorem y1i9 : T0 y123 [.t 4] y75 := fun _ => by kernel_rfl
def yfd (v0 v5 v6 : AV) (h : Heap) : OX :=
  W E 0 yjt ⟨[(0, v0), (5, v5), (6, v6)], h⟩ y75 (y5 0 y75 xN) (finP [.t 4])
def ybo (s : St) : OX := yfd (s 0) (s 5) (s 6) s.h
theorem yl9 : T1 yjt y75 (y5 0 y75 xN) [.t 4] ybo := fun s => yi.trans (by kernel_rfl)
def y12s (v0 v5 v6 : AV) (h : Heap) : OX :=
ob (y7 .add v6 (AV.int .i64 1)) fun v15 =>
(yfd v0 v5 v15 h)
def y2e3 (s : St) : OX := y12s (s 0) (s 5) (s 6) s.h
theorem y1ww : T1 y0h ybo (y5 0 y75 xN) [.t 4] y2e3 := fun _ => by kernel_rfl
def ypw (v0 v5 v6 : AV) (h : Heap) : OX :=
ob (y7 .add v6 (AV.int .i64 1)) fun v20 =>
ob (yea v0 (some v6) (some v20)) fun v21 =>
oh (y8 E (y9 E) 0 none true 53 [v5, v21] h) fun v22 h1 =>
ob (evUn .not v22) fun v23 =>
cnd v23
 ((ye h1 (AV.bool false)))
 ((y12s v0 v5 v6 h1))
def y29g (s : St) : OX := ypw (s 0) (s 5) (s 6) s.h
theorem y1te : T1 yxv ybo (y5 0 y75 xN) [.t 4] y29g := sq y1ww fun _ => by kernel_rfl
def yu3 (v0 v5 v6 : AV) (h : Heap) : OX :=
ob (y14 0 v0 h) fun v12 =>
ob (y7 .lss v6 v12) fun v13 =>
cnd v13
 ((ypw v0 v5 v6 h))
 ((yi5 v0 h))
def y2ag (s : St) : OX := yu3 (s 0) (s 5) (s 6) s.h
theorem y1s9 : T1 y18b ybo (y5 0 y75 xN) [.t 4] y2ag := sq y1te fun _ => by kernel_rfl
theorem ynn (v0 v5 v6 : AV) (h : Heap) : yfd v0 v5 v6 h = (yu3 v0 v5 v6 h) :=
  y1n.trans ((y17 _ _ _ (n' := ybo) (fun s => yl9 s)).trans ((y1s9 _).trans (by kernel_rfl)))
theorem y1kp : T1 yx4 y75 xN [.t 4] ybo := fun s => yw.trans (yl9 s)
def y17l (v0 v5 : AV) (h : Heap) : OX :=
(yfd v0 v5 (AV.int .i64 0) h)
def y1h4 (s : St) : OX := y17l (s 0) (s 5) s.h
theorem y1ky : T1 y15r y75 xN [.t 4] y1h4 := sq y1kp fun _ => by kernel_rfl
theorem y1pk : T0 yyp [.t 4] y1h4 := sq y1i9 y1ky
def y1lm (v0 v1 v5 : AV) (h : Heap) : OX :=
cnd v1
 (ob (y7 .add v5 (AV.str [60, 62])) fun v9 =>
(y17l v0 v9 h))
 ((y17l v0 v5 h))
def y2by (s : St) : OX := y1lm (s 0) (s 1) (s 5) s.h
theorem y1vg : T0 y182 [.t 4] y2by := sq y1pk fun _ => by kernel_rfl
def yuk (v0 v1 : AV) (h : Heap) : OX :=
(y1lm v0 v1 (AV.str [97, 98, 99, 100, 101, 102, 103, 104, 105, 106, 107, 108, 109, 110, 111, 112, 113, 114, 115, 116, 117, 118, 119, 120, 121, 122, 65, 66, 67, 68, 69, 70, 71, 72, 73, 74, 75, 76, 77, 78, 79, 80, 81, 82, 83, 84, 85, 86, 87, 88, 89, 90, 48, 49, 50, 51, 52, 53, 54, 55, 56, 57, 95, 36, 47]) h)
def y1zo (s : St) : OX := yuk (s 0) (s 1) s.h
theorem y19i : T0 yqf [.t 4] y1zo := sq y1vg fun _ => by kernel_rfl
def yox (v0 v1 : AV) (h : Heap) : OX :=
(yuk v0 v1 h)
def y1z1 (s : St) : OX := yox (s 0) (s 1) s.h
theorem y1aj : T0 ytr [.t 4] y1z1 := sq y19i fun _ => by kernel_rfl
@[simp] theorem y2s4 : E.pure 69 = true := rfl
theorem y2i9 (v0 v1 : AV) : (y9 E).p 69 [v0, v1] = yox v0 v1 [] :=
  (y12 (cf := y266) (by kernel_rfl) rfl).trans ((y1aj _).trans (by kernel_rfl))
def q9_1 (h : Heap) : OX :=
(ye h (AV.int .i64 0))
def y3n (s : St) : OX := q9_1 s.h
theorem y2g6 : T0 y267 [.t 2] y3n := fun _ => by kernel_rfl
def y1gr (v0 v3 v4 : AV) (h : Heap) : OX :=
  W E 0 yw2 ⟨[(0, v0), (3, v3), (4, v4)], h⟩ y3n (y5 3 y3n (y5 2 y3n xN)) (finP [.t 2])
def yms (s : St) : OX := y1gr (s 0) (s 3) (s 4) s.h
theorem yzc : T1 yw2 y3n (y5 3 y3n (y5 2 y3n xN)) [.t 2] yms := fun s => yi.trans (by kernel_rfl)
def q9_3 (v0 v3 v4 : AV) (h : Heap) : OX :=
ob (y7 .add v4 (AV.int .i64 1)) fun v42 =>
(y1gr v0 v3 v42 h)
def ykl (s : St) : OX := q9_3 (s 0) (s 3) (s 4) s.h
theorem y2d3 : T1 y26g yms (y5 3 y3n (y5 2 y3n xN)) [.t 2] ykl := fun _ => by kernel_rfl
def q9_4 (h : Heap) : OX :=
(ye h (AV.int .i64 0))
def y2ou (s : St) : OX := q9_4 s.h
theorem y2ga : T1 y26i ykl (y5 4 ykl (y5 3 y3n (y5 2 y3n xN))) [.t 2] y2ou := fun _ => by kernel_rfl
def q9_5 (v0 v3 v4 : AV) (h : Heap) : OX :=
ob (y7 .add v3 (AV.int .i64 1)) fun v49 =>
ob (yea v0 (some v49) (some v4)) fun v51 =>
oh (y8 E (y9 E) 0 none true 60 [v51, (AV.bool false)] h) fun v52 h1 =>
cnd v52
 (ob (y7 .add v4 (AV.int .i64 1)) fun v54 =>
(ye h1 v54))
 ((q9_4 h1))
def y2p0 (s : St) : OX := q9_5 (s 0) (s 3) (s 4) s.h
theorem y29t : T1 y27h ykl (y5 4 ykl (y5 3 y3n (y5 2 y3n xN))) [.t 2] y2p0 := sq y2ga fun _ => by kernel_rfl
def q9_6 (v0 v3 v4 v46 : AV) (h : Heap) : OX :=
cnd v46
 ((q9_5 v0 v3 v4 h))
 ((q9_3 v0 v3 v4 h))
def y2rj (s : St) : OX := q9_6 (s 0) (s 3) (s 4) (s 46) s.h
theorem y2ct : T1 y26t ykl (y5 4 ykl (y5 3 y3n (y5 2 y3n xN))) [.t 2] y2rj := fun s => (y1g (y29t s) rfl).trans (by kernel_rfl)
def q9_7 (v0 v3 v4 : AV) (h : Heap) : OX :=
ob (y5n v0 v4) fun v45 =>
ob (y7 .eql v45 (AV.int .u8 59)) fun v46 =>
(q9_6 v0 v3 v4 v46 h)
def y2fp (s : St) : OX := q9_7 (s 0) (s 3) (s 4) s.h
theorem y2co : T1 y27q ykl (y5 4 ykl (y5 3 y3n (y5 2 y3n xN))) [.t 2] y2fp := sq y2ct fun _ => by kernel_rfl
theorem y28p : T1 y27l ykl (y5 3 y3n (y5 2 y3n xN)) [.t 2] y2fp := fun s => yw.trans (y2co s)
theorem y2f8 : T1 y26x yms (y5 3 y3n (y5 2 y3n xN)) [.t 2] y2fp := sq y2d3 y28p
def y1bf (v0 v3 v4 : AV) (h : Heap) : OX :=
ob (y14 0 v0 h) fun v39 =>
ob (y7 .lss v4 v39) fun v40 =>
cnd v40
 ((q9_7 v0 v3 v4 h))
 ((q9_1 h))
def y2io (s : St) : OX := y1bf (s 0) (s 3) (s 4) s.h
theorem y25k : T1 y1pt yms (y5 3 y3n (y5 2 y3n xN)) [.t 2] y2io := sq y2f8 fun _ => by kernel_rfl
theorem yxs (v0 v3 v4 : AV) (h : Heap) : y1gr v0 v3 v4 h = (y1bf v0 v3 v4 h) :=
  y1n.trans ((y17 _ _ _ (n' := yms) (fun s => yzc s)).trans ((y25k _).trans (by kernel_rfl)))
theorem y1z6 : T1 y1np y3n (y5 2 y3n xN) [.t 2] yms := fun s => yw.trans (yzc s)
def y28f (v0 v3 : AV) (h : Heap) : OX :=
ob (y7 .add v3 (AV.int .i64 1)) fun v36 =>
(y1gr v0 v3 v36 h)
def y2i6 (s : St) : OX := y28f (s 0) (s 3) s.h
theorem y256 : T1 y1lz y3n (y5 2 y3n xN) [.t 2] y2i6 := sq y1z6 fun _ => by kernel_rfl
def y22s (v0 v3 v33 : AV) (h : Heap) : OX :=
cnd v33
 ((y28f v0 v3 h))
 ((q9_1 h))
def y2nu (s : St) : OX := y22s (s 0) (s 3) (s 33) s.h
theorem y215 : T1 y1i0 y3n (y5 2 y3n xN) [.t 2] y2nu := fun s => (y1g (y256 s) rfl).trans (by kernel_rfl)
def y240 (v0 v3 v27 : AV) (h : Heap) : OX :=
ob (y7 .eql v27 (AV.int .u8 76)) fun v34 =>
(y22s v0 v3 v34 h)
def y2k5 (s : St) : OX := y240 (s 0) (s 3) (s 27) s.h
theorem y1ya : T1 y1jl y3n (y5 2 y3n xN) [.t 2] y2k5 := sq y215 fun _ => by kernel_rfl
def yv4 (v0 v3 v27 v28 : AV) (h : Heap) : OX :=
cnd v28
 (ob (y7 .add v3 (AV.int .i64 1)) fun v32 =>
(ye h v32))
 ((y240 v0 v3 v27 h))
def y2nm (s : St) : OX := yv4 (s 0) (s 3) (s 27) (s 28) s.h
theorem y22l : T1 y1p3 y3n (y5 2 y3n xN) [.t 2] y2nm := fun s => (y1g rfl (y1ya s)).trans (by kernel_rfl)
def y18t (v0 v3 v27 : AV) (h : Heap) : OX :=
ob (y7 .eql v27 (AV.int .u8 73)) fun v29 =>
cnd v29
 ((yv4 v0 v3 v27 v29 h))
 (ob (y7 .eql v27 (AV.int .u8 74)) fun v30 =>
(yv4 v0 v3 v27 v30 h))
def y269 (s : St) : OX := y18t (s 0) (s 3) (s 27) s.h
theorem y22k : T1 y1t2 y3n (y5 2 y3n xN) [.t 2] y269 := sq y22l fun _ => by kernel_rfl
theorem y20r : T1 y1nf y3n xN [.t 2] y269 := fun s => yw.trans (y22k s)
def y1b1 (v0 v3 : AV) (h : Heap) : OX :=
ob (y5n v0 v3) fun v27 =>
(y18t v0 v3 v27 h)
def y26h (s : St) : OX := y1b1 (s 0) (s 3) s.h
theorem y20x : T1 y1p0 y3n xN [.t 2] y26h := sq y20r fun _ => by kernel_rfl
theorem y1z3 : T0 y1jx [.t 2] y26h := sq y2g6 y20x
def ykg (v0 v3 : AV) (h : Heap) : OX :=
ob (y7 .gtr v3 (AV.int .i64 8)) fun v18 =>
gb v18 false (some v3) fun v20 =>
gb v18 false (some v0) fun v21 =>
gb v18 false (y14 0 v21 h) fun v22 =>
gb v18 false (y7 .eql v20 v22) fun v23 =>
ob (yd v18 (AV.bool true) v23) fun v24 =>
cnd v24
 ((ye h (AV.int .i64 0)))
 ((y1b1 v0 v3 h))
def yfw (s : St) : OX := ykg (s 0) (s 3) s.h
theorem y1yo : T0 y1ds [.t 2] yfw := sq y1z3 fun _ => by kernel_rfl
def yt0 (v0 v3 : AV) (h : Heap) : OX :=
  W E 0 yo4 ⟨[(0, v0), (3, v3)], h⟩ yfw (y5 0 yfw xN) (finP [.t 2])
def yf0 (s : St) : OX := yt0 (s 0) (s 3) s.h
theorem ysr : T1 yo4 yfw (y5 0 yfw xN) [.t 2] yf0 := fun s => yi.trans (by kernel_rfl)
def y2am (v0 v3 : AV) (h : Heap) : OX :=
ob (y7 .add v3 (AV.int .i64 1)) fun v16 =>
(yt0 v0 v16 h)
def y2la (s : St) : OX := y2am (s 0) (s 3) s.h
theorem y20j : T1 y1he yf0 (y5 0 yfw xN) [.t 2] y2la := fun _ => by kernel_rfl
def y1wk (v0 v3 : AV) (h : Heap) : OX :=
ob (y14 0 v0 h) fun v7 =>
ob (y7 .lss v3 v7) fun v8 =>
gb v8 true (some v0) fun v10 =>
gb v8 true (some v3) fun v11 =>
gb v8 true (y5n v10 v11) fun v12 =>
gb v8 true (y7 .eql v12 (AV.int .u8 91)) fun v13 =>
ob (yd v8 v13 (AV.bool false)) fun v14 =>
cnd v14
 ((y2am v0 v3 h))
 ((ykg v0 v3 h))
def y2k0 (s : St) : OX := y1wk (s 0) (s 3) s.h
theorem y1x6 : T1 y1sf yf0 (y5 0 yfw xN) [.t 2] y2k0 := sq y20j fun _ => by kernel_rfl
theorem yqc (v0 v3 : AV) (h : Heap) : yt0 v0 v3 h = (y1wk v0 v3 h) :=
  y1n.trans ((y17 _ _ _ (n' := yf0) (fun s => ysr s)).trans ((y1x6 _).trans (by kernel_rfl)))
theorem y21o : T1 y1tn yfw xN [.t 2] yf0 := fun s => yw.trans (ysr s)
theorem y23s : T0 y1t3 [.t 2] yf0 := sq y1yo y21o
def y2f1 (v0 : AV) (h : Heap) : OX :=
(yt0 v0 (AV.int .i64 0) h)
def y2ll (s : St) : OX := y2f1 (s 0) s.h
theorem y24t : T0 y1mi [.t 2] y2ll := sq y23s fun _ => by kernel_rfl
def y2es (v0 : AV) (h : Heap) : OX :=
(y2f1 v0 h)
def y2ic (s : St) : OX := y2es (s 0) s.h
theorem y263 : T0 y1sn [.t 2] y2ic := sq y24t fun _ => by kernel_rfl
@[simp] theorem y2sm : E.pure 44 = true := rfl
theorem x_q9 (v0 : AV) : (y9 E).p 44 [v0] = y2es v0 [] :=
  (y12 (cf := c_q9) (by kernel_rfl) rfl).trans ((y263 _).trans (by kernel_rfl))
def y1dh (v0 : AV) (h : Heap) : OX :=
ob (y7 .geq v0 (AV.int .i64 23)) fun v4 =>
gb v4 true (some v0) fun v6 =>
gb v4 true (y7 .leq v6 (AV.int .i64 26)) fun v7 =>
ob (yd v4 v7 (AV.bool false)) fun v8 =>
(ye h v8)
def y2ce (s : St) : OX := y1dh (s 0) s.h
theorem y1my : T0 y11i [.t 2] y2ce := fun _ => by kernel_rfl
@[simp] theorem y2sy : E.pure 7 = true := rfl
theorem y2i8 (v0 : AV) : (y9 E).p 7 [v0] = y1dh v0 [] :=
  (y12 (cf := y288) (by kernel_rfl) rfl).trans ((y1my _).trans (by kernel_rfl))
def y1fi (v0 : AV) (h : Heap) : OX :=
ob (y7 .geq v0 (AV.int .i64 7)) fun v4 =>
gb v4 true (some v0) fun v6 =>
gb v4 true (y7 .leq v6 (AV.int .i64 12)) fun v7 =>
ob (yd v4 v7 (AV.bool false)) fun v8 =>
gb v8 false (some v0) fun v10 =>
gh v8 false (y11 0 (some 0) 1 3 [(.int .i64 0)] [(0, (AV.int .i64 20)), (1, (AV.int .i64 21)), (2, (AV.int .i64 31))] h) h fun v11 h1 =>
gh v8 false (y8 E (y9 E) 0 none true 42 [v10, v11] h1) h1 fun v12 h2 =>
ob (yd v8 (AV.bool true) v12) fun v13 =>
gb v13 false (some v0) fun v15 =>
gh v13 false (y8 E (y9 E) 0 none true 7 [v15] h2) h2 fun v16 h3 =>
ob (yd v13 (AV.bool true) v16) fun v17 =>
(ye h3 v17)
def y2br (s : St) : OX := y1fi (s 0) s.h
theorem y1lv : T0 y12o [.t 2] y2br := fun _ => by kernel_rfl
@[simp] theorem y2pi : E.pure 19 = true := rfl
theorem y2j4 (v0 : AV) : (y9 E).p 19 [v0] = y1fi v0 [⟨0, .dead⟩] :=
  (y12 (cf := y26o) (by kernel_rfl) rfl).trans ((y1lv _).trans (by kernel_rfl))
def q7_1 (h : Heap) : OX :=
(ye h (AV.bool true))
def yj8 (s : St) : OX := q7_1 s.h
theorem y2e9 : T0 y27e [.t 4] yj8 := fun _ => by kernel_rfl
def y1r1 (v1 v17 v18 v19 : AV) (h : Heap) : OX :=
  W E 0 yw7 ⟨[(1, v1), (17, v17), (18, v18), (19, v19)], h⟩ yj8 (y5 0 yj8 xN) (finP [.t 4])
def yhf (s : St) : OX := y1r1 (s 1) (s 17) (s 18) (s 19) s.h
theorem y13l : T1 yw7 yj8 (y5 0 yj8 xN) [.t 4] yhf := fun s => yi.trans (by kernel_rfl)
def q7_3 (v1 v17 v18 v19 : AV) (h : Heap) : OX :=
ob (y7 .add v19 (AV.int .i64 1)) fun v71 =>
(y1r1 v1 v17 v18 v71 h)
def y2ra (s : St) : OX := q7_3 (s 1) (s 17) (s 18) (s 19) s.h
theorem y2bd : T1 y26k yhf (y5 0 yj8 xN) [.t 4] y2ra := fun _ => by kernel_rfl
def q7_4 (v1 v17 v18 v19 : AV) (h : Heap) : OX :=
ob (yt 1 v17 v19) fun v21 =>
ob (evLd false 1 v21 h) fun v22 =>
ob (y7 .geq v22 (AV.int .u8 97)) fun v24 =>
gb v24 true (some v22) fun v26 =>
gb v24 true (y7 .leq v26 (AV.int .u8 122)) fun v27 =>
ob (yd v24 v27 (AV.bool false)) fun v28 =>
gb v28 false (some v22) fun v30 =>
gb v28 false (y7 .geq v30 (AV.int .u8 65)) fun v31 =>
gb v28 false (some v31) fun v32 =>
gb v32 true (some v22) fun v33 =>
gb v32 true (y7 .leq v33 (AV.int .u8 90)) fun v34 =>
gb v28 false (yd v32 v34 (AV.bool false)) fun v35 =>
ob (yd v28 (AV.bool true) v35) fun v36 =>
gb v36 false (some v22) fun v38 =>
gb v36 false (y7 .geq v38 (AV.int .u8 48)) fun v39 =>
gb v36 false (some v39) fun v40 =>
gb v40 true (some v22) fun v41 =>
gb v40 true (y7 .leq v41 (AV.int .u8 57)) fun v42 =>
gb v36 false (yd v40 v42 (AV.bool false)) fun v43 =>
ob (yd v36 (AV.bool true) v43) fun v44 =>
gb v44 false (some v22) fun v46 =>
gb v44 false (y7 .eql v46 (AV.int .u8 95)) fun v47 =>
ob (yd v44 (AV.bool true) v47) fun v48 =>
gb v48 false (some v22) fun v50 =>
gb v48 false (y7 .eql v50 (AV.int .u8 36)) fun v51 =>
ob (yd v48 (AV.bool true) v51) fun v52 =>
gb v52 false (some v22) fun v54 =>
gb v52 false (y7 .eql v54 (AV.int .u8 47)) fun v55 =>
ob (yd v52 (AV.bool true) v55) fun v56 =>
ob (evUn .not v56) fun v58 =>
gb v58 true (some v1) fun v60 =>
gb v58 true (some v60) fun v61 =>
gb v61 true (some v22) fun v62 =>
gb v61 true (y7 .eql v62 (AV.int .u8 60)) fun v63 =>
gb v61 true (some v63) fun v64 =>
gb v64 false (some v22) fun v65 =>
gb v64 false (y7 .eql v65 (AV.int .u8 62)) fun v66 =>
gb v61 true (yd v64 (AV.bool true) v66) fun v67 =>
gb v58 true (yd v61 v67 (AV.bool false)) fun v68 =>
gb v58 true (evUn .not v68) fun v69 =>
ob (yd v58 v69 (AV.bool false)) fun v70 =>
cnd v70
 ((ye h (AV.bool false)))
 ((q7_3 v1 v17 v18 v19 h))
def y2rw (s : St) : OX := q7_4 (s 1) (s 17) (s 18) (s 19) s.h
theorem y2c0 : T1 y26w yhf (y5 0 yj8 xN) [.t 4] y2rw := sq y2bd fun _ => by kernel_rfl
def q7_5 (v1 v17 v18 v19 v20 : AV) (h : Heap) : OX :=
cnd v20
 ((q7_4 v1 v17 v18 v19 h))
 ((q7_1 h))
def y2po (s : St) : OX := q7_5 (s 1) (s 17) (s 18) (s 19) (s 20) s.h
theorem y2cm : T1 y268 yhf (y5 0 yj8 xN) [.t 4] y2po := sq y2c0 fun _ => by kernel_rfl
def q7_6 (v1 v17 v18 v19 : AV) (h : Heap) : OX :=
ob (y7 .lss v19 v18) fun v20 =>
(q7_5 v1 v17 v18 v19 v20 h)
def y2or (s : St) : OX := q7_6 (s 1) (s 17) (s 18) (s 19) s.h
theorem y2b3 : T1 y27g yhf (y5 0 yj8 xN) [.t 4] y2or := sq y2cm fun _ => by kernel_rfl
theorem yzk (v1 v17 v18 v19 : AV) (h : Heap) : y1r1 v1 v17 v18 v19 h = (q7_6 v1 v17 v18 v19 h) :=
  y1n.trans ((y17 _ _ _ (n' := yhf) (fun s => y13l s)).trans ((y2b3 _).trans (by kernel_rfl)))
theorem y2fm : T1 y286 yj8 xN [.t 4] yhf := fun s => yw.trans (y13l s)
def q7_8 (v0 v1 : AV) (h : Heap) : OX :=
oh (s2bC 0 (some 0) v0 h) fun v17 h1 =>
ob (y14 1 v17 h1) fun v18 =>
(y1r1 v1 v17 v18 (AV.int .i64 0) h1)
def y2ht (s : St) : OX := q7_8 (s 0) (s 1) s.h
theorem y2bt : T1 y280 yj8 xN [.t 4] y2ht := sq y2fm fun _ => by kernel_rfl
theorem y2dc : T0 y27a [.t 4] y2ht := sq y2e9 y2bt
def y1l8 (v0 v1 : AV) (h : Heap) : OX :=
ob (y14 0 v0 h) fun v9 =>
ob (y7 .lss v9 (AV.int .i64 1)) fun v10 =>
gb v10 false (some v0) fun v12 =>
gb v10 false (y14 0 v12 h) fun v13 =>
gb v10 false (y7 .gtr v13 (AV.int .i64 60)) fun v14 =>
ob (yd v10 (AV.bool true) v14) fun v15 =>
cnd v15
 ((ye h (AV.bool false)))
 ((q7_8 v0 v1 h))
def y2kr (s : St) : OX := y1l8 (s 0) (s 1) s.h
theorem y21d : T0 y1qo [.t 4] y2kr := sq y2dc fun _ => by kernel_rfl
def y1la (v0 v1 : AV) (h : Heap) : OX :=
(y1l8 v0 v1 h)
def y2kn (s : St) : OX := y1la (s 0) (s 1) s.h
theorem y22p : T0 y1nl [.t 4] y2kn := sq y21d fun _ => by kernel_rfl
@[simp] theorem y2pd : E.pure 60 = true := rfl
theorem x_q7 (v0 v1 : AV) : (y9 E).p 60 [v0, v1] = y1la v0 v1 [⟨0, .dead⟩] :=
  (y12 (cf := c_q7) (by kernel_rfl) rfl).trans ((y22p _).trans (by kernel_rfl))
end
end Go.Vm
