/- Functions of the machine as plain functions that go on with what follows. -/
import Derived.Test.YtgbajicpokolcaaOEnv
set_option linter.unusedSimpArgs false
set_option linter.unusedVariables false
set_option linter.unusedSectionVars false
namespace Go.Vm
noncomputable section
def y2r (h : Heap) : OX :=
(yc h (AV.bool true))
def yr (s : St) : OX := y2r s.h
theorem y1w8 : T0 y135 [.t 4] yr := fun _ => by kernel_rfl
def y2i (v2 v3 : AV) (h : Heap) : OX :=
ob (evFa 2 v3) fun v215 =>
ob (evLd false 1 v215 h) fun v216 =>
ob (y2 .neq v216 (AV.int .i64 (-1))) fun v217 =>
ofp (fgd v217 true (some (ids1 v2, []))) fun f4 =>
gb v217 true (evLd true 5 v2 h) fun v219 =>
ofp (fgd v217 true (some ([], []))) fun f5 =>
gb v217 true (evFa 2 v3) fun v220 =>
ofp (fgd v217 true (some (ids1 v220, []))) fun f6 =>
gb v217 true (evLd false 1 v220 h) fun v221 =>
ofp (fgd v217 true (y3y E (y7 E) 0 none true 48 [v219, v221] h)) fun f7 =>
gh v217 true (y5 E (y7 E) 0 none true 48 [v219, v221] h) h fun v222 h1 =>
ofp (fgd v217 true (some ([], []))) fun f8 =>
gb v217 true (evFa 2 v2) fun v223 =>
ofp (fgd v217 true (some (ids1 v223, []))) fun f9 =>
gb v217 true (evLd false 1 v223 h1) fun v224 =>
ofp (fgd v217 true (some ([], []))) fun f10 =>
gb v217 true (y2 .eql v222 v224) fun v225 =>
ob (y9 v217 v225 (AV.bool false)) fun v226 =>
okK (yd [([], []), (ids1 v215, []), ([], []), ([], []), f4, f5, f6, f7, f8, f9, f10, ([], []), ([], [])] [(7, 9)]) <|
(yc h1 v226)
def y2gc (s : St) : OX := y2i (s 2) (s 3) s.h
theorem y1x6 : T1 yxk yr (y1 2 yr xN) [.t 4] y2gc := fun _ => by kernel_rfl
def y2q (v2 v3 : AV) (h : Heap) : OX :=
ob (evFa 2 v2) fun v209 =>
ob (evLd false 1 v209 h) fun v210 =>
ob (y2 .eql v210 (AV.int .i64 0)) fun v211 =>
cnd v211
 (ob (evFa 2 v3) fun v212 =>
ob (evLd false 1 v212 h) fun v213 =>
ob (y2 .eql v213 (AV.int .i64 (-1))) fun v214 =>
(yc h v214))
 ((y2i v2 v3 h))
def y2cy (s : St) : OX := y2q (s 2) (s 3) s.h
theorem y1up : T1 y16v yr (y1 2 yr xN) [.t 4] y2cy := sq y1x6 fun _ => by kernel_rfl
def y2k (v2 v3 v207 : AV) (h : Heap) : OX :=
cnd v207
 ((y2q v2 v3 h))
 ((y2r h))
def y2ek (s : St) : OX := y2k (s 2) (s 3) (s 207) s.h
theorem y1hf : T1 y17h yr (y1 2 yr xN) [.t 4] y2ek := fun s => (yw (y1up s) rfl).trans (by kernel_rfl)
def y2j (v2 v3 v55 : AV) (h : Heap) : OX :=
ob (y2 .eql v55 (AV.int .i64 30)) fun v208 =>
(y2k v2 v3 v208 h)
def y2fm (s : St) : OX := y2j (s 2) (s 3) (s 55) s.h
theorem y1lb : T1 y13s yr (y1 2 yr xN) [.t 4] y2fm := sq y1hf fun _ => by kernel_rfl
def y2s (v2 v3 v55 v179 : AV) (h : Heap) : OX :=
cnd v179
 (ob (evFa 5 v3) fun v181 =>
ob (evLd false 1 v181 h) fun v182 =>
ob (y2 .eql v182 (AV.int .i64 0)) fun v183 =>
gb v183 false (evFa 5 v3) fun v185 =>
gb v183 false (evLd false 1 v185 h) fun v186 =>
gb v183 false (y2 .eql v186 (AV.int .i64 1)) fun v187 =>
ob (y9 v183 (AV.bool true) v187) fun v188 =>
gb v188 true (evFa 3 v3) fun v190 =>
gb v188 true (evLd false 1 v190 h) fun v191 =>
gb v188 true (y2 .eql v191 (AV.int .i64 (-1))) fun v192 =>
gb v188 true (some v192) fun v193 =>
gb v193 false (evLd true 5 v2 h) fun v194 =>
gb v193 false (evFa 3 v3) fun v195 =>
gb v193 false (evLd false 1 v195 h) fun v196 =>
gh v193 false (y5 E (y7 E) 0 none true 48 [v194, v196] h) h fun v197 h2 =>
gb v193 false (y2 .eql v197 (AV.int .i64 3)) fun v198 =>
gb v188 true (y9 v193 (AV.bool true) v198) fun v199 =>
ob (y9 v188 v199 (AV.bool false)) fun v200 =>
gb v200 true (evLd true 5 v2 h2) fun v202 =>
gb v200 true (evFa 6 v3) fun v203 =>
gb v200 true (evLd false 1 v203 h2) fun v204 =>
gh v200 true (y5 E (y7 E) 0 none true 49 [v202, v204] h2) h2 fun v205 h3 =>
ob (y9 v200 v205 (AV.bool false)) fun v206 =>
(yc h3 v206))
 ((y2j v2 v3 v55 h))
def y2h3 (s : St) : OX := y2s (s 2) (s 3) (s 55) (s 179) s.h
theorem y1wa : T1 y0e yr (y1 2 yr xN) [.t 4] y2h3 := fun s => (yw rfl (y1lb s)).trans (by kernel_rfl)
def y2p (v2 v3 v55 : AV) (h : Heap) : OX :=
ob (y2 .eql v55 (AV.int .i64 29)) fun v180 =>
(y2s v2 v3 v55 v180 h)
def y2e4 (s : St) : OX := y2p (s 2) (s 3) (s 55) s.h
theorem y1k9 : T1 y04 yr (y1 2 yr xN) [.t 4] y2e4 := sq y1wa fun _ => by kernel_rfl
def y2m (v2 v3 v55 v173 : AV) (h : Heap) : OX :=
cnd v173
 (ob (evLd true 5 v2 h) fun v175 =>
ob (evFa 6 v3) fun v176 =>
ob (evLd false 1 v176 h) fun v177 =>
oh (y5 E (y7 E) 0 none true 49 [v175, v177] h) fun v178 h4 =>
(yc h4 v178))
 ((y2p v2 v3 v55 h))
def y2ct (s : St) : OX := y2m (s 2) (s 3) (s 55) (s 173) s.h
theorem y1v4 : T1 yxw yr (y1 2 yr xN) [.t 4] y2ct := fun s => (yw rfl (y1k9 s)).trans (by kernel_rfl)
def y2n (v2 v3 v55 : AV) (h : Heap) : OX :=
ob (y2 .eql v55 (AV.int .i64 27)) fun v174 =>
(y2m v2 v3 v55 v174 h)
def y2ba (s : St) : OX := y2n (s 2) (s 3) (s 55) s.h
theorem y1w0 : T1 y14z yr (y1 2 yr xN) [.t 4] y2ba := sq y1v4 fun _ => by kernel_rfl
def y1u (v2 v3 v55 v157 : AV) (h : Heap) : OX :=
cnd v157
 (ob (evFa 5 v3) fun v159 =>
ob (evLd false 1 v159 h) fun v160 =>
ob (y2 .geq v160 (AV.int .i64 0)) fun v161 =>
gb v161 true (evFa 5 v3) fun v163 =>
gb v161 true (evLd false 1 v163 h) fun v164 =>
gb v161 true (y2 .leq v164 (AV.int .i64 5)) fun v165 =>
ob (y9 v161 v165 (AV.bool false)) fun v166 =>
gb v166 true (evLd true 5 v2 h) fun v168 =>
gb v166 true (evFa 6 v3) fun v169 =>
gb v166 true (evLd false 1 v169 h) fun v170 =>
gh v166 true (y5 E (y7 E) 0 none true 49 [v168, v170] h) h fun v171 h5 =>
ob (y9 v166 v171 (AV.bool false)) fun v172 =>
(yc h5 v172))
 ((y2n v2 v3 v55 h))
def y280 (s : St) : OX := y1u (s 2) (s 3) (s 55) (s 157) s.h
theorem y1d1 : T1 yry yr (y1 2 yr xN) [.t 4] y280 := fun s => (yw rfl (y1w0 s)).trans (by kernel_rfl)
def y1y (v2 v3 v55 : AV) (h : Heap) : OX :=
ob (y2 .eql v55 (AV.int .i64 28)) fun v158 =>
(y1u v2 v3 v55 v158 h)
def y27i (s : St) : OX := y1y (s 2) (s 3) (s 55) s.h
theorem y1c8 : T1 yud yr (y1 2 yr xN) [.t 4] y27i := sq y1d1 fun _ => by kernel_rfl
def y1i (v2 v3 v55 v149 : AV) (h : Heap) : OX :=
cnd v149
 (ob (evLd true 5 v2 h) fun v154 =>
ob (evLd true 9 v3 h) fun v155 =>
oh (y5 E (y7 E) 0 none true 68 [v154, v155] h) fun v156 h6 =>
(yc h6 v156))
 ((y1y v2 v3 v55 h))
def y23h (s : St) : OX := y1i (s 2) (s 3) (s 55) (s 149) s.h
theorem y1bd : T1 ysa yr (y1 2 yr xN) [.t 4] y23h := fun s => (yw rfl (y1c8 s)).trans (by kernel_rfl)
def y1v (v2 v3 v55 : AV) (h : Heap) : OX :=
ob (y2 .eql v55 (AV.int .i64 23)) fun v150 =>
cnd v150
 ((y1i v2 v3 v55 v150 h))
 (ob (y2 .eql v55 (AV.int .i64 24)) fun v151 =>
cnd v151
 ((y1i v2 v3 v55 v151 h))
 (ob (y2 .eql v55 (AV.int .i64 25)) fun v152 =>
cnd v152
 ((y1i v2 v3 v55 v152 h))
 (ob (y2 .eql v55 (AV.int .i64 26)) fun v153 =>
(y1i v2 v3 v55 v153 h))))
def y26i (s : St) : OX := y1v (s 2) (s 3) (s 55) s.h
theorem y1bk : T1 yqr yr (y1 2 yr xN) [.t 4] y26i := sq y1bd fun _ => by kernel_rfl
def y1l (v2 v3 v55 v143 : AV) (h : Heap) : OX :=
cnd v143
 (ob (evFa 5 v3) fun v146 =>
ob (evLd false 1 v146 h) fun v147 =>
ob (y2 .geq v147 (AV.int .i64 0)) fun v148 =>
(yc h v148))
 ((y1v v2 v3 v55 h))
def y27e (s : St) : OX := y1l (s 2) (s 3) (s 55) (s 143) s.h
theorem y1cf : T1 yrk yr (y1 2 yr xN) [.t 4] y27e := fun s => (yw rfl (y1bk s)).trans (by kernel_rfl)
def y1w (v2 v3 v55 : AV) (h : Heap) : OX :=
ob (y2 .eql v55 (AV.int .i64 16)) fun v144 =>
cnd v144
 ((y1l v2 v3 v55 v144 h))
 (ob (y2 .eql v55 (AV.int .i64 17)) fun v145 =>
(y1l v2 v3 v55 v145 h))
def y28g (s : St) : OX := y1w (s 2) (s 3) (s 55) s.h
theorem y1ca : T1 yto yr (y1 2 yr xN) [.t 4] y28g := sq y1cf fun _ => by kernel_rfl
def y1j (v2 v3 v55 v136 : AV) (h : Heap) : OX :=
cnd v136
 (ob (evFa 7 v3) fun v140 =>
ob (evLd false 1 v140 h) fun v141 =>
oh (y5 E (y7 E) 0 none true 67 [v141] h) fun v142 h7 =>
(yc h7 v142))
 ((y1w v2 v3 v55 h))
def y28d (s : St) : OX := y1j (s 2) (s 3) (s 55) (s 136) s.h
theorem y1de : T1 yug yr (y1 2 yr xN) [.t 4] y28d := fun s => (yw rfl (y1ca s)).trans (by kernel_rfl)
def y1r (v2 v3 v55 : AV) (h : Heap) : OX :=
ob (y2 .eql v55 (AV.int .i64 12)) fun v137 =>
cnd v137
 ((y1j v2 v3 v55 v137 h))
 (ob (y2 .eql v55 (AV.int .i64 21)) fun v138 =>
cnd v138
 ((y1j v2 v3 v55 v138 h))
 (ob (y2 .eql v55 (AV.int .i64 22)) fun v139 =>
(y1j v2 v3 v55 v139 h)))
def y244 (s : St) : OX := y1r (s 2) (s 3) (s 55) s.h
theorem y19y : T1 yqa yr (y1 2 yr xN) [.t 4] y244 := sq y1de fun _ => by kernel_rfl
def y1q (v2 v3 v8 v9 v10 v55 v112 : AV) (h : Heap) : OX :=
cnd v112
 (ob (y2 .gtr v8 (AV.int .i64 0)) fun v115 =>
gb v115 true (some v9) fun v117 =>
gb v115 true (y2 .eql v117 (AV.int .i64 0)) fun v118 =>
ob (y9 v115 v118 (AV.bool false)) fun v119 =>
gb v119 true (evLd true 5 v2 h) fun v121 =>
gb v119 true (evFa 1 v3) fun v122 =>
gb v119 true (evLd false 1 v122 h) fun v123 =>
gh v119 true (y5 E (y7 E) 0 none true 48 [v121, v123] h) h fun v124 h8 =>
gb v119 true (some v10) fun v125 =>
gb v119 true (y2 .eql v124 v125) fun v126 =>
ob (y9 v119 v126 (AV.bool false)) fun v127 =>
gb v127 true (evLd true 5 v2 h8) fun v129 =>
gb v127 true (evFa 2 v3) fun v130 =>
gb v127 true (evLd false 1 v130 h8) fun v131 =>
gh v127 true (y5 E (y7 E) 0 none true 48 [v129, v131] h8) h8 fun v132 h9 =>
gb v127 true (some v8) fun v133 =>
gb v127 true (y2 .eql v132 v133) fun v134 =>
ob (y9 v127 v134 (AV.bool false)) fun v135 =>
(yc h9 v135))
 ((y1r v2 v3 v55 h))
def y237 (s : St) : OX := y1q (s 2) (s 3) (s 8) (s 9) (s 10) (s 55) (s 112) s.h
theorem y1al : T1 yr1 yr (y1 2 yr xN) [.t 4] y237 := fun s => (yw rfl (y19y s)).trans (by kernel_rfl)
def y1s (v2 v3 v8 v9 v10 v55 : AV) (h : Heap) : OX :=
ob (y2 .eql v55 (AV.int .i64 6)) fun v113 =>
(y1q v2 v3 v8 v9 v10 v55 v113 h)
def y22f (s : St) : OX := y1s (s 2) (s 3) (s 8) (s 9) (s 10) (s 55) s.h
theorem y1ce : T1 ytq yr (y1 2 yr xN) [.t 4] y22f := sq y1al fun _ => by kernel_rfl
def y1z (v2 v3 v8 v9 v10 v55 v84 : AV) (h : Heap) : OX :=
cnd v84
 (ob (y2 .gtr v9 (AV.int .i64 0)) fun v87 =>
gb v87 true (evLd true 5 v2 h) fun v89 =>
gb v87 true (evFa 1 v3) fun v90 =>
gb v87 true (evLd false 1 v90 h) fun v91 =>
gh v87 true (y5 E (y7 E) 0 none true 48 [v89, v91] h) h fun v92 h10 =>
gb v87 true (some v10) fun v93 =>
gb v87 true (y2 .eql v92 v93) fun v94 =>
ob (y9 v87 v94 (AV.bool false)) fun v95 =>
gb v95 true (evLd true 5 v2 h10) fun v97 =>
gb v95 true (evFa 2 v3) fun v98 =>
gb v95 true (evLd false 1 v98 h10) fun v99 =>
gh v95 true (y5 E (y7 E) 0 none true 48 [v97, v99] h10) h10 fun v100 h11 =>
gb v95 true (some v8) fun v101 =>
gb v95 true (y2 .eql v100 v101) fun v102 =>
ob (y9 v95 v102 (AV.bool false)) fun v103 =>
gb v103 true (evLd true 5 v2 h11) fun v105 =>
gb v103 true (evFa 3 v3) fun v106 =>
gb v103 true (evLd false 1 v106 h11) fun v107 =>
gh v103 true (y5 E (y7 E) 0 none true 48 [v105, v107] h11) h11 fun v108 h12 =>
gb v103 true (some v9) fun v109 =>
gb v103 true (y2 .eql v108 v109) fun v110 =>
ob (y9 v103 v110 (AV.bool false)) fun v111 =>
(yc h12 v111))
 ((y1s v2 v3 v8 v9 v10 v55 h))
def y269 (s : St) : OX := y1z (s 2) (s 3) (s 8) (s 9) (s 10) (s 55) (s 84) s.h
theorem y1cr : T1 yq9 yr (y1 2 yr xN) [.t 4] y269 := fun s => (yw rfl (y1ce s)).trans (by kernel_rfl)
def y1x (v2 v3 v8 v9 v10 v55 : AV) (h : Heap) : OX :=
ob (y2 .eql v55 (AV.int .i64 5)) fun v85 =>
(y1z v2 v3 v8 v9 v10 v55 v85 h)
def y22t (s : St) : OX := y1x (s 2) (s 3) (s 8) (s 9) (s 10) (s 55) s.h
theorem y1dk : T1 yqx yr (y1 2 yr xN) [.t 4] y22t := sq y1cr fun _ => by kernel_rfl
def y1m (v2 v3 v8 v9 v10 v55 v73 : AV) (h : Heap) : OX :=
cnd v73
 (ob (evLd true 5 v2 h) fun v75 =>
ob (evFa 1 v3) fun v76 =>
ob (evLd false 1 v76 h) fun v77 =>
ofp (y3y E (y7 E) 0 none true 48 [v75, v77] h) fun f3 =>
oh (y5 E (y7 E) 0 none true 48 [v75, v77] h) fun v78 h13 =>
ob (evLd true 5 v2 h13) fun v79 =>
ob (evFa 2 v3) fun v80 =>
ob (evLd false 1 v80 h13) fun v81 =>
ofp (y3y E (y7 E) 0 none true 48 [v79, v81] h13) fun f7 =>
oh (y5 E (y7 E) 0 none true 48 [v79, v81] h13) fun v82 h14 =>
ob (y2 .eql v78 v82) fun v83 =>
okK (yd [(ids1 v2, []), ([], []), (ids1 v76, []), f3, (ids1 v2, []), ([], []), (ids1 v80, []), f7, ([], []), ([], [])] [(3, 4), (3, 6)]) <|
(yc h14 v83))
 ((y1x v2 v3 v8 v9 v10 v55 h))
def y21s (s : St) : OX := y1m (s 2) (s 3) (s 8) (s 9) (s 10) (s 55) (s 73) s.h
theorem y1cb : T1 yte yr (y1 2 yr xN) [.t 4] y21s := fun s => (yw rfl (y1dk s)).trans (by kernel_rfl)
def y1n (v2 v3 v8 v9 v10 v55 : AV) (h : Heap) : OX :=
ob (y2 .eql v55 (AV.int .i64 4)) fun v74 =>
(y1m v2 v3 v8 v9 v10 v55 v74 h)
def y1zs (s : St) : OX := y1n (s 2) (s 3) (s 8) (s 9) (s 10) (s 55) s.h
theorem y1by : T1 yse yr (y1 2 yr xN) [.t 4] y1zs := sq y1cb fun _ => by kernel_rfl
def y1h (v2 v3 v8 v9 v10 v55 v56 : AV) (h : Heap) : OX :=
cnd v56
 (ob (evLd true 5 v2 h) fun v58 =>
ob (evFa 1 v3) fun v59 =>
ob (evLd false 1 v59 h) fun v60 =>
oh (y5 E (y7 E) 0 none true 48 [v58, v60] h) fun v61 h15 =>
ob (y2 .eql v61 (AV.int .i64 2)) fun v62 =>
gb v62 false (evFa 5 v3) fun v64 =>
gb v62 false (evLd false 1 v64 h15) fun v65 =>
gb v62 false (y2 .geq v65 (AV.int .i64 (-2147483648))) fun v66 =>
gb v62 false (some v66) fun v67 =>
gb v67 true (evFa 5 v3) fun v68 =>
gb v67 true (evLd false 1 v68 h15) fun v69 =>
gb v67 true (y2 .lss v69 (AV.int .i64 2147483648)) fun v70 =>
gb v62 false (y9 v67 v70 (AV.bool false)) fun v71 =>
ob (y9 v62 (AV.bool true) v71) fun v72 =>
(yc h15 v72))
 ((y1n v2 v3 v8 v9 v10 v55 h))
def y215 (s : St) : OX := y1h (s 2) (s 3) (s 8) (s 9) (s 10) (s 55) (s 56) s.h
theorem y1bi : T1 yts yr (y1 2 yr xN) [.t 4] y215 := fun s => (yw rfl (y1by s)).trans (by kernel_rfl)
def y1d (v2 v3 v8 v9 v10 v55 : AV) (h : Heap) : OX :=
ob (y2 .eql v55 (AV.int .i64 1)) fun v57 =>
(y1h v2 v3 v8 v9 v10 v55 v57 h)
def yyf (s : St) : OX := y1d (s 2) (s 3) (s 8) (s 9) (s 10) (s 55) s.h
theorem y1c4 : T1 yun yr (y1 2 yr xN) [.t 4] yyf := sq y1bi fun _ => by kernel_rfl
theorem y19s : T1 ysr yr xN [.t 4] yyf := fun s => yi.trans (y1c4 s)
def yg9 (v2 v3 v8 v9 v10 : AV) (h : Heap) : OX :=
ob (evFa 0 v3) fun v54 =>
ob (evLd false 1 v54 h) fun v55 =>
(y1d v2 v3 v8 v9 v10 v55 h)
def y143 (s : St) : OX := yg9 (s 2) (s 3) (s 8) (s 9) (s 10) s.h
theorem y1dd : T1 yty yr xN [.t 4] y143 := sq y19s fun _ => by kernel_rfl
theorem y1aj : T0 yur [.t 4] y143 := sq y1w8 y1dd
def ykk (v2 v3 v8 v9 v10 : AV) (h : Heap) : OX :=
ob (evFa 5 v3) fun v39 =>
ob (evLd false 1 v39 h) fun v40 =>
ob (y2 .geq v40 (AV.int .i64 0)) fun v41 =>
gb v41 true (evFa 5 v3) fun v43 =>
gb v41 true (evLd false 1 v43 h) fun v44 =>
gb v41 true (y2 .lss v44 (AV.int .i64 1000)) fun v45 =>
ob (y9 v41 v45 (AV.bool false)) fun v46 =>
cnd v46
 (ob (evFa 5 v3) fun v48 =>
ob (evLd false 1 v48 h) fun v49 =>
oh (y5 E (y7 E) 0 none true 66 [v49] h) fun v50 h16 =>
ob (y6w 0 v50) fun v51 =>
ob (y6w 1 v50) fun v52 =>
ob (y6w 2 v50) fun v53 =>
(yg9 v2 v3 v51 v52 v53 h16))
 ((yg9 v2 v3 v8 v9 v10 h))
def y1zy (s : St) : OX := ykk (s 2) (s 3) (s 8) (s 9) (s 10) s.h
theorem y1d2 : T0 ytf [.t 4] y1zy := sq y1aj fun _ => by kernel_rfl
def yj0 (v2 v3 : AV) (h : Heap) : OX :=
(ykk v2 v3 (AV.int .i64 0) (AV.int .i64 0) (AV.int .i64 0) h)
def y59 (s : St) : OX := yj0 (s 2) (s 3) s.h
theorem y1b3 : T0 ysn [.t 4] y59 := sq y1d2 fun _ => by kernel_rfl
def y58 (v2 v3 v5 v6 v7 : AV) (h : Heap) : OX :=
  W E 0 yfz ⟨[(2, v2), (3, v3), (5, v5), (6, v6), (7, v7)], h⟩ y59 (y1 0 y59 xN) (finP [.t 4])
def y82 (s : St) : OX := y58 (s 2) (s 3) (s 5) (s 6) (s 7) s.h
theorem yir : T1 yfz y59 (y1 0 y59 xN) [.t 4] y82 := fun s => yf.trans (by kernel_rfl)
def yor (v2 v3 v5 v6 v7 : AV) (h : Heap) : OX :=
ob (y2 .add v7 (AV.int .i64 1)) fun v28 =>
(y58 v2 v3 v5 v6 v28 h)
def y24a (s : St) : OX := yor (s 2) (s 3) (s 5) (s 6) (s 7) s.h
theorem y1bf : T1 yru y82 (y1 0 y59 xN) [.t 4] y24a := fun _ => by kernel_rfl
def yvg (v2 v3 v5 v6 v7 : AV) (h : Heap) : OX :=
ob (evLd true 5 v2 h) fun v29 =>
ob (yp 1 v6 v7) fun v32 =>
ob (evLd false 1 v32 h) fun v33 =>
ob (y5n v5 v7) fun v36 =>
oh (y5 E (y7 E) 0 none true 65 [v29, v33, v36] h) fun v37 h17 =>
ob (evUn .not v37) fun v38 =>
cnd v38
 ((yc h17 (AV.bool false)))
 ((yor v2 v3 v5 v6 v7 h17))
def y225 (s : St) : OX := yvg (s 2) (s 3) (s 5) (s 6) (s 7) s.h
theorem y1b0 : T1 yul y82 (y1 0 y59 xN) [.t 4] y225 := sq y1bf fun _ => by kernel_rfl
def yfw (v2 v3 v5 v6 v7 : AV) (h : Heap) : OX :=
ob (y2 .lss v7 (AV.int .i64 4)) fun v26 =>
cnd v26
 ((yvg v2 v3 v5 v6 v7 h))
 ((yj0 v2 v3 h))
def y21k (s : St) : OX := yfw (s 2) (s 3) (s 5) (s 6) (s 7) s.h
theorem y1am : T1 yti y82 (y1 0 y59 xN) [.t 4] y21k := sq y1b0 fun _ => by kernel_rfl
theorem yje (v2 v3 v5 v6 v7 : AV) (h : Heap) : y58 v2 v3 v5 v6 v7 h = (yfw v2 v3 v5 v6 v7 h) :=
  y22.trans ((y15 _ _ _ (n' := y82) (fun s => yir s)).trans ((y1am _).trans (by kernel_rfl)))
theorem y1cm : T1 yre y59 xN [.t 4] y82 := fun s => yi.trans (yir s)
def ywv (v2 v3 v5 v6 : AV) (h : Heap) : OX :=
(y58 v2 v3 v5 v6 (AV.int .i64 0) h)
def y18m (s : St) : OX := ywv (s 2) (s 3) (s 5) (s 6) s.h
theorem y1ap : T1 yro y59 xN [.t 4] y18m := sq y1cm fun _ => by kernel_rfl
theorem y1cq : T0 yub [.t 4] y18m := sq y1b3 y1ap
def yw8 (v2 v3 v5 : AV) (h : Heap) : OX :=
ob (evFa 1 v3) fun v16 =>
ob (evLd false 1 v16 h) fun v17 =>
ob (evFa 2 v3) fun v18 =>
ob (evLd false 1 v18 h) fun v19 =>
ob (evFa 3 v3) fun v20 =>
ob (evLd false 1 v20 h) fun v21 =>
ob (evFa 4 v3) fun v22 =>
ob (evLd false 1 v22 h) fun v23 =>
oh (yx 0 (some 2) 1 4 [(.int .i64 0)] [(0, v17), (1, v19), (2, v21), (3, v23)] h) fun v24 h18 =>
(ywv v2 v3 v5 v24 h18)
def y25j (s : St) : OX := yw8 (s 2) (s 3) (s 5) s.h
theorem y1at : T0 yt1 [.t 4] y25j := sq y1cq fun _ => by kernel_rfl
def ykv (v2 v3 v5 : AV) (h : Heap) : OX :=
ob (y2 .eql v5 (AV.str [])) fun v15 =>
cnd v15
 ((yc h (AV.bool false)))
 ((yw8 v2 v3 v5 h))
def y26y (s : St) : OX := ykv (s 2) (s 3) (s 5) s.h
theorem y1cs : T0 yql [.t 4] y26y := sq y1at fun _ => by kernel_rfl
def yhz (v2 v3 : AV) (h : Heap) : OX :=
ob (evFa 0 v3) fun v11 =>
ob (evLd false 1 v11 h) fun v12 =>
oh (y5 E (y7 E) 0 none true 38 [v12] h) fun v13 h19 =>
(ykv v2 v3 v13 h19)
def y203 (s : St) : OX := yhz (s 2) (s 3) s.h
theorem y1c0 : T0 yrm [.t 4] y203 := sq y1cs fun _ => by kernel_rfl
def yft (v0 v1 : AV) (h : Heap) : OX :=
oh (newC 0 (some 0) (cellsOf v0) h) fun v2 h20 =>
oh (newC 0 (some 1) (cellsOf v1) h20) fun v3 h21 =>
(yhz v2 v3 h21)
def y25b (s : St) : OX := yft (s 0) (s 1) s.h
theorem y1a6 : T0 yuf [.t 4] y25b := sq y1c0 fun _ => by kernel_rfl
@[simp] theorem y2t7 : E.pure 64 = true := rfl
theorem y2na (v0 v1 : AV) : (y7 E).p 64 [v0, v1] = yft v0 v1 [⟨0, .dead⟩, ⟨0, .dead⟩, ⟨0, .dead⟩] :=
  (yu (cf := y29i) (by kernel_rfl) rfl).trans ((y1a6 _).trans (by kernel_rfl))
def y1wx (v0 : AV) (h : Heap) : OX :=
oh (yx 0 (some 0) 1 3 [(.int .i64 0)] [(0, (AV.int .i64 27)), (1, (AV.int .i64 28)), (2, (AV.int .i64 29))] h) fun v4 h1 =>
oh (y5 E (y7 E) 0 none true 42 [v0, v4] h1) fun v5 h2 =>
(yc h2 v5)
def y2dw (s : St) : OX := y1wx (s 0) s.h
theorem y1rx : T0 y18l [.t 2] y2dw := fun _ => by kernel_rfl
@[simp] theorem y2se : E.pure 23 = true := rfl
theorem y2p2 (v0 : AV) : (y7 E).p 23 [v0] = y1wx v0 [⟨0, .dead⟩] :=
  (yu (cf := y29t) (by kernel_rfl) rfl).trans ((y1rx _).trans (by kernel_rfl))
def y1sj (v0 v1 : AV) (h : Heap) : OX :=
oh (newC 0 (some 0) (cellsOf v0) h) fun v2 h1 =>
ob (y2 .geq v1 (AV.int .i64 0)) fun v6 =>
gb v6 true (some v1) fun v8 =>
gb v6 true (evFa 3 v2) fun v9 =>
gb v6 true (evLd false 1 v9 h1) fun v10 =>
gb v6 true (yv 1 v10 h1) fun v11 =>
gb v6 true (y2 .lss v8 v11) fun v12 =>
ob (y9 v6 v12 (AV.bool false)) fun v13 =>
(yc h1 v13)
def y2co (s : St) : OX := y1sj (s 0) (s 1) s.h
theorem y1ly : T0 y14r [.t 4] y2co := fun _ => by kernel_rfl
@[simp] theorem y2sc : E.pure 49 = true := rfl
theorem y2nx (v0 v1 : AV) : (y7 E).p 49 [v0, v1] = y1sj v0 v1 [⟨0, .dead⟩] :=
  (yu (cf := y28p) (by kernel_rfl) rfl).trans ((y1ly _).trans (by kernel_rfl))
def y1tw (v0 : AV) (h : Heap) : OX :=
oh (yx 0 (some 0) 1 0 [(.bool false)] [] h) fun v5 h1 =>
oh (y3t 0 (some 1) 1 1 v5 v0 h1) fun v7 h2 =>
(yc h2 v7)
def y2d3 (s : St) : OX := y1tw (s 0) s.h
theorem y1y0 : T0 y11p [.t 2] y2d3 := fun _ => by kernel_rfl
def y1fj (v0 : AV) (h : Heap) : OX :=
ob (y86 1 false v0 AV.nils) fun v4 =>
cnd v4
 ((yc h AV.nils))
 ((y1tw v0 h))
def y2j2 (s : St) : OX := y1fj (s 0) s.h
theorem y1h5 : T0 y11d [.t 2] y2j2 := sq y1y0 fun _ => by kernel_rfl
def y1py (v0 : AV) (h : Heap) : OX :=
(y1fj v0 h)
def y2ig (s : St) : OX := y1py (s 0) s.h
theorem y1ox : T0 y134 [.t 2] y2ig := sq y1h5 fun _ => by kernel_rfl
@[simp] theorem y2s7 : E.pure 78 = true := rfl
theorem y2p6 (v0 : AV) : (y7 E).p 78 [v0] = y1py v0 [⟨0, .dead⟩, ⟨0, .dead⟩] :=
  (yu (cf := y2af) (by kernel_rfl) rfl).trans ((y1ox _).trans (by kernel_rfl))
def y1gz (fb : Nat) (v3 : AV) (h : Heap) : Option (AV × Heap) :=
(some (v3, h))
def y29q (fb : Nat) (s : St) : Option (AV × Heap) := y1gz fb (s 3) s.h
theorem y24w (fb : Nat) (s : St) : W E fb y1m1 s (finI [.t 8]) xN (finI [.t 8]) = y29q fb s :=
  by kernel_rfl
def y19z (fb : Nat) (v1 v3 v9 : AV) (h : Heap) : Option (AV × Heap) :=
cnd v9
 (oh (yx fb (some 3) 1 1 [(.int .i64 0)] [(0, v1)] h) fun v54 h1 =>
oh (y3t fb (some 4) 1 8 v3 v54 h1) fun v55 h2 =>
(y1gz fb v55 h2))
 ((y1gz fb v3 h))
def y9r (fb : Nat) (s : St) : Option (AV × Heap) := y19z fb (s 1) (s 3) (s 9) s.h
theorem y27k (fb : Nat) (s : St) : W E fb y1gp s (finI [.t 8]) xN (finI [.t 8]) = y9r fb s :=
  (y7p (k := (y29q fb)) (fun s => y24w fb s)).trans (by kernel_rfl)
def ysw (fb : Nat) (v0 v1 v2 v3 v9 v29 v30 v31 : AV) (h : Heap) : Option (AV × Heap) :=
  W E fb yp7 ⟨[(0, v0), (1, v1), (2, v2), (3, v3), (9, v9), (29, v29), (30, v30), (31, v31)], h⟩ (y9r fb) (y1 0 (y9r fb) xN) (finI [.t 8])
def yb2 (fb : Nat) (s : St) : Option (AV × Heap) := ysw fb (s 0) (s 1) (s 2) (s 3) (s 9) (s 29) (s 30) (s 31) s.h
theorem yt7 (fb : Nat) (s : St) : W E fb yp7 s (y9r fb) (y1 0 (y9r fb) xN) (finI [.t 8]) = yb2 fb s := yf.trans (by kernel_rfl)
def y1co (fb : Nat) (v0 v1 v2 v3 v9 v29 v30 v31 : AV) (h : Heap) : Option (AV × Heap) :=
ob (y2 .add v31 (AV.int .i64 1)) fun v50 =>
(ysw fb v0 v1 v2 v3 v9 v29 v30 v50 h)
def y2aj (fb : Nat) (s : St) : Option (AV × Heap) := y1co fb (s 0) (s 1) (s 2) (s 3) (s 9) (s 29) (s 30) (s 31) s.h
theorem y24z (fb : Nat) (s : St) : W E fb y1vz s (yb2 fb) (y1 0 (y9r fb) xN) (finI [.t 8]) = y2aj fb s :=
  by kernel_rfl
def y1vc (fb : Nat) (v0 v1 v2 v3 v9 v29 v30 v31 : AV) (h : Heap) : Option (AV × Heap) :=
ob (yp 1 v29 v31) fun v34 =>
ob (evLd false 1 v34 h) fun v35 =>
gb v35 true (some v2) fun v38 =>
gb v35 true (some v31) fun v39 =>
gb v35 true (yp 1 v38 v39) fun v40 =>
gb v35 true (evLd false 1 v40 h) fun v41 =>
gb v35 true (evUn .not v41) fun v42 =>
ob (y9 v35 v42 (AV.bool false)) fun v43 =>
cnd v43
 (ob (yp 1 v0 v1) fun v46 =>
ob (evLd false 1 v46 h) fun v47 =>
ob (yp 1 v47 v31) fun v49 =>
oh (evSt 1 v49 (AV.bool false) h) fun _ h3 =>
(y1co fb v0 v1 v2 v3 (AV.bool true) v29 v30 v31 h3))
 ((y1co fb v0 v1 v2 v3 v9 v29 v30 v31 h))
def y299 (fb : Nat) (s : St) : Option (AV × Heap) := y1vc fb (s 0) (s 1) (s 2) (s 3) (s 9) (s 29) (s 30) (s 31) s.h
theorem y1zq (fb : Nat) (s : St) : W E fb y1fu s (yb2 fb) (y1 0 (y9r fb) xN) (finI [.t 8]) = y299 fb s :=
  (y7p (k := (y2aj fb)) (fun s => y24z fb s)).trans (by kernel_rfl)
def y1cp (fb : Nat) (v0 v1 v2 v3 v9 v29 v30 v31 v32 : AV) (h : Heap) : Option (AV × Heap) :=
cnd v32
 ((y1vc fb v0 v1 v2 v3 v9 v29 v30 v31 h))
 ((y19z fb v1 v3 v9 h))
def y29v (fb : Nat) (s : St) : Option (AV × Heap) := y1cp fb (s 0) (s 1) (s 2) (s 3) (s 9) (s 29) (s 30) (s 31) (s 32) s.h
theorem y219 (fb : Nat) (s : St) : W E fb y1tb s (yb2 fb) (y1 0 (y9r fb) xN) (finI [.t 8]) = y29v fb s :=
  (y7p (k := (y299 fb)) (fun s => y1zq fb s)).trans (by kernel_rfl)
def y1dl (fb : Nat) (v0 v1 v2 v3 v9 v29 v30 v31 : AV) (h : Heap) : Option (AV × Heap) :=
ob (y2 .lss v31 v30) fun v32 =>
(y1cp fb v0 v1 v2 v3 v9 v29 v30 v31 v32 h)
def y2oe (fb : Nat) (s : St) : Option (AV × Heap) := y1dl fb (s 0) (s 1) (s 2) (s 3) (s 9) (s 29) (s 30) (s 31) s.h
theorem y216 (fb : Nat) (s : St) : W E fb y1kp s (yb2 fb) (y1 0 (y9r fb) xN) (finI [.t 8]) = y2oe fb s :=
  (y7p (k := (y29v fb)) (fun s => y219 fb s)).trans (by kernel_rfl)
theorem ytv (fb : Nat) (v0 v1 v2 v3 v9 v29 v30 v31 : AV) (h : Heap) : ysw fb v0 v1 v2 v3 v9 v29 v30 v31 h = (y1dl fb v0 v1 v2 v3 v9 v29 v30 v31 h) :=
  y22.trans ((y15 _ _ _ (n' := (yb2 fb)) (fun s => yt7 fb s)).trans ((y216 fb _).trans (by kernel_rfl)))
theorem y246 (fb : Nat) (s : St) : W E fb y1tu s (y9r fb) xN (finI [.t 8]) = yb2 fb s :=
  yi.trans (yt7 fb s)
def y2hu (fb : Nat) (v0 v1 v2 v3 v9 : AV) (h : Heap) : Option (AV × Heap) :=
ob (yp 1 v0 v1) fun v28 =>
ob (evLd false 1 v28 h) fun v29 =>
ob (yv 1 v29 h) fun v30 =>
(ysw fb v0 v1 v2 v3 v9 v29 v30 (AV.int .i64 0) h)
def y1mb (fb : Nat) (s : St) : Option (AV × Heap) := y2hu fb (s 0) (s 1) (s 2) (s 3) (s 9) s.h
theorem y23l (fb : Nat) (s : St) : W E fb y1la s (y9r fb) xN (finI [.t 8]) = y1mb fb s :=
  (y7p (k := (yb2 fb)) (fun s => y246 fb s)).trans (by kernel_rfl)
theorem y1i4 (fb : Nat) (s : St) : W E fb y14y s (finI [.t 8]) xN (finI [.t 8]) = y1mb fb s :=
  (y7p (k := (y9r fb)) (fun s => y27k fb s)).trans (y23l fb s)
def y1iz (fb : Nat) (v0 v1 v2 v3 : AV) (h : Heap) : Option (AV × Heap) :=
(y2hu fb v0 v1 v2 v3 (AV.bool false) h)
def y1uo (fb : Nat) (s : St) : Option (AV × Heap) := y1iz fb (s 0) (s 1) (s 2) (s 3) s.h
theorem y1u0 (fb : Nat) (s : St) : W E fb y14h s (finI [.t 8]) xN (finI [.t 8]) = y1uo fb s :=
  (y7p (k := (y1mb fb)) (fun s => y1i4 fb s)).trans (by kernel_rfl)
def ymx (fb : Nat) (v0 v1 v2 v3 : AV) (h : Heap) : Option (AV × Heap) :=
ob (yp 1 v0 v1) fun v14 =>
ob (evLd false 1 v14 h) fun v15 =>
ob (y86 1 false v15 AV.nils) fun v16 =>
cnd v16
 (oh (y5 E (y7 E) fb (some 0) false 78 [v2] h) fun v20 h4 =>
ob (yp 1 v0 v1) fun v21 =>
oh (evSt 1 v21 v20 h4) fun _ h5 =>
oh (yx fb (some 1) 1 1 [(.int .i64 0)] [(0, v1)] h5) fun v24 h6 =>
oh (y3t fb (some 2) 1 8 v3 v24 h6) fun v25 h7 =>
(some (v25, h7)))
 ((y1iz fb v0 v1 v2 v3 h))
def y1k4 (fb : Nat) (s : St) : Option (AV × Heap) := ymx fb (s 0) (s 1) (s 2) (s 3) s.h
theorem y1uf (fb : Nat) (s : St) : W E fb y161 s (finI [.t 8]) xN (finI [.t 8]) = y1k4 fb s :=
  (y7p (k := (y1uo fb)) (fun s => y1u0 fb s)).trans (by kernel_rfl)
def y2ab (fb : Nat) (v0 v1 v2 v3 : AV) (h : Heap) : Option (AV × Heap) :=
(ymx fb v0 v1 v2 v3 h)
def y2hj (fb : Nat) (s : St) : Option (AV × Heap) := y2ab fb (s 0) (s 1) (s 2) (s 3) s.h
theorem y1f5 (fb : Nat) (s : St) : W E fb y13t s (finI [.t 8]) xN (finI [.t 8]) = y2hj fb s :=
  (y7p (k := (y1k4 fb)) (fun s => y1uf fb s)).trans (by kernel_rfl)
@[simp] theorem y2tz : E.pure 80 = false := rfl
theorem y2sj (fb : Nat) (v0 v1 v2 v3 : AV) (h : Heap) : (y7 E).i 80 [v0, v1, v2, v3] fb h = y2ab fb v0 v1 v2 v3 (if fb = h.length then h ++ yk 5 else h) :=
  (y1u2 (cf := y2kt) (by kernel_rfl) rfl).trans ((y1f5 fb _).trans (by kernel_rfl))
def y2i7 (v0 : AV) (h : Heap) : OX :=
oh (newC 0 (some 0) (cellsOf v0) h) fun v1 h1 =>
ob (evFa 0 v1) fun v3 =>
ob (evLd false 1 v3 h1) fun v4 =>
ob (y2 .geq v4 (AV.int .i64 23)) fun v5 =>
gb v5 true (evFa 0 v1) fun v7 =>
gb v5 true (evLd false 1 v7 h1) fun v8 =>
gb v5 true (y2 .leq v8 (AV.int .i64 26)) fun v9 =>
ob (y9 v5 v9 (AV.bool false)) fun v10 =>
(yc h1 v10)
def y2pa (s : St) : OX := y2i7 (s 0) s.h
theorem y25y : T0 y1r5 [.t 2] y2pa := fun _ => by kernel_rfl
@[simp] theorem yxc : E.pure 17 = true := rfl
theorem y2rq (v0 : AV) : (y7 E).p 17 [v0] = y2i7 v0 [⟨0, .dead⟩] :=
  (yu (cf := y2o9) (by kernel_rfl) rfl).trans ((y25y _).trans (by kernel_rfl))
def yoc (h : Heap) : OX :=
(yc h (AV.int .i64 (-1)))
def y6a (s : St) : OX := yoc s.h
theorem y1ix : T0 y147 [.t 4] y6a := fun _ => by kernel_rfl
def yi2 (v0 v1 v7 v8 : AV) (h : Heap) : OX :=
  W E 0 yk8 ⟨[(0, v0), (1, v1), (7, v7), (8, v8)], h⟩ y6a (y1 0 y6a xN) (finP [.t 4])
def y8o (s : St) : OX := yi2 (s 0) (s 1) (s 7) (s 8) s.h
theorem yon : T1 yk8 y6a (y1 0 y6a xN) [.t 4] y8o := fun s => yf.trans (by kernel_rfl)
def ylt (v0 v1 v7 v8 : AV) (h : Heap) : OX :=
ob (y2 .add v8 (AV.int .i64 1)) fun v18 =>
(yi2 v0 v1 v7 v18 h)
def y2el (s : St) : OX := ylt (s 0) (s 1) (s 7) (s 8) s.h
theorem y1oa : T1 y112 y8o (y1 0 y6a xN) [.t 4] y2el := fun _ => by kernel_rfl
def yo9 (v0 v1 v7 v8 : AV) (h : Heap) : OX :=
ob (yp 1 v0 v8) fun v14 =>
ob (evLd false 1 v14 h) fun v15 =>
ob (y2 .eql v1 v15) fun v16 =>
cnd v16
 ((yc h v8))
 ((ylt v0 v1 v7 v8 h))
def y2av (s : St) : OX := yo9 (s 0) (s 1) (s 7) (s 8) s.h
theorem y1yz : T1 yz6 y8o (y1 0 y6a xN) [.t 4] y2av := sq y1oa fun _ => by kernel_rfl
def ylu (v0 v1 v7 v8 v9 : AV) (h : Heap) : OX :=
cnd v9
 ((yo9 v0 v1 v7 v8 h))
 ((yoc h))
def y2ff (s : St) : OX := ylu (s 0) (s 1) (s 7) (s 8) (s 9) s.h
theorem y1ys : T1 y18g y8o (y1 0 y6a xN) [.t 4] y2ff := sq y1yz fun _ => by kernel_rfl
def ynk (v0 v1 v7 v8 : AV) (h : Heap) : OX :=
ob (y2 .lss v8 v7) fun v9 =>
(ylu v0 v1 v7 v8 v9 h)
def y2ip (s : St) : OX := ynk (s 0) (s 1) (s 7) (s 8) s.h
theorem y1rf : T1 y16o y8o (y1 0 y6a xN) [.t 4] y2ip := sq y1ys fun _ => by kernel_rfl
theorem yok (v0 v1 v7 v8 : AV) (h : Heap) : yi2 v0 v1 v7 v8 h = (ynk v0 v1 v7 v8 h) :=
  y22.trans ((y15 _ _ _ (n' := y8o) (fun s => yon s)).trans ((y1rf _).trans (by kernel_rfl)))
theorem y1wc : T1 y18j y6a xN [.t 4] y8o := fun s => yi.trans (yon s)
def ymu (v0 v1 : AV) (h : Heap) : OX :=
ob (yv 1 v0 h) fun v7 =>
(yi2 v0 v1 v7 (AV.int .i64 0) h)
def y1rs (s : St) : OX := ymu (s 0) (s 1) s.h
theorem y1kl : T1 y177 y6a xN [.t 4] y1rs := sq y1wc fun _ => by kernel_rfl
theorem y1vn : T0 y140 [.t 4] y1rs := sq y1ix y1kl
def yfy (v0 v1 : AV) (h : Heap) : OX :=
(ymu v0 v1 h)
def y28e (s : St) : OX := yfy (s 0) (s 1) s.h
theorem y1cn : T0 yuw [.t 4] y28e := sq y1vn fun _ => by kernel_rfl
@[simp] theorem y2to : E.pure 45 = true := rfl
theorem y2pp (v0 v1 : AV) : (y7 E).p 45 [v0, v1] = yfy v0 v1 [] :=
  (yu (cf := y28s) (by kernel_rfl) rfl).trans ((y1cn _).trans (by kernel_rfl))
def yhe (v1 v2 : AV) (h : Heap) : OX :=
ob (evLd true 9 v1 h) fun v138 =>
oh (y5 E (y7 E) 0 none true 51 [v138] h) fun v139 h1 =>
ob (y6w 0 v139) fun v140 =>
ob (y6w 1 v139) fun v141 =>
oh (evSt 4 v2 v140 h1) fun _ h2 =>
(ob (evLd true 4 v2 h2) fun r0 =>
  yc h2 (.tup [r0, v141]))
def yh (s : St) : OX := yhe (s 1) (s 2) s.h
theorem y23z : T0 y1p3 [.cell 2 true 4, .t 3] yh := fun _ => by kernel_rfl
def yg1 (v1 v2 v134 : AV) (h : Heap) : OX :=
cnd v134
 (ob (y11 [(.int .i64 0), (.int .i64 0), (.int .i64 0), (.int .i64 0)] [(0, 1, (AV.int .i64 (-1))), (1, 1, (AV.int .i64 (-1))), (2, 1, (AV.int .i64 (-1))), (3, 1, (AV.int .i64 (-1)))]) fun v137 =>
oh (evSt 4 v2 v137 h) fun _ h3 =>
(ob (evLd true 4 v2 h3) fun r0 =>
  yc h3 (.tup [r0, (AV.bool true)])))
 ((yhe v1 v2 h))
def y2ml (s : St) : OX := yg1 (s 1) (s 2) (s 134) s.h
theorem y27w : T1 y1kv yh (y1 0 yh xN) [.cell 2 true 4, .t 3] y2ml := fun _ => by kernel_rfl
def yhb (v1 v2 v11 : AV) (h : Heap) : OX :=
ob (y2 .eql v11 (AV.int .i64 27)) fun v135 =>
cnd v135
 ((yg1 v1 v2 v135 h))
 (ob (y2 .eql v11 (AV.int .i64 33)) fun v136 =>
(yg1 v1 v2 v136 h))
def y2li (s : St) : OX := yhb (s 1) (s 2) (s 11) s.h
theorem y1zu : T1 y1tn yh (y1 0 yh xN) [.cell 2 true 4, .t 3] y2li := sq y27w fun _ => by kernel_rfl
def yhc (v1 v2 v11 v123 : AV) (h : Heap) : OX :=
cnd v123
 (ob (y11 [(.int .i64 0), (.int .i64 0), (.int .i64 0), (.int .i64 0)] [(0, 1, (AV.int .i64 (-1))), (1, 1, (AV.int .i64 1)), (2, 1, (AV.int .i64 1)), (3, 1, (AV.int .i64 (-1)))]) fun v125 =>
ob (evFa 5 v1) fun v126 =>
ob (evLd false 1 v126 h) fun v127 =>
ob (y2 .geq v127 (AV.int .i64 0)) fun v128 =>
ofp (fgd v128 true (some ([], []))) fun f5 =>
gb v128 true (evFa 5 v1) fun v130 =>
ofp (fgd v128 true (some (ids1 v130, []))) fun f6 =>
gb v128 true (evLd false 1 v130 h) fun v131 =>
ofp (fgd v128 true (some ([], []))) fun f7 =>
gb v128 true (y2 .leq v131 (AV.int .i64 5)) fun v132 =>
ob (y9 v128 v132 (AV.bool false)) fun v133 =>
oh (evSt 4 v2 v125 h) fun _ h4 =>
okK (yd [([], []), ([], []), (ids1 v126, []), ([], []), ([], []), f5, f6, f7, ([], []), ([], ids1 v2), ([], [])] [(6, 9)]) <|
(ob (evLd true 4 v2 h4) fun r0 =>
  yc h4 (.tup [r0, v133])))
 ((yhb v1 v2 v11 h))
def y2mi (s : St) : OX := yhc (s 1) (s 2) (s 11) (s 123) s.h
theorem y20b : T1 y1xt yh (y1 0 yh xN) [.cell 2 true 4, .t 3] y2mi := fun s => (yw rfl (y1zu s)).trans (by kernel_rfl)
def yhd (v1 v2 v11 : AV) (h : Heap) : OX :=
ob (y2 .eql v11 (AV.int .i64 28)) fun v124 =>
(yhc v1 v2 v11 v124 h)
def y2lo (s : St) : OX := yhd (s 1) (s 2) (s 11) s.h
theorem y24u : T1 y1wy yh (y1 0 yh xN) [.cell 2 true 4, .t 3] y2lo := sq y20b fun _ => by kernel_rfl
def yhi (v1 v2 v11 v117 : AV) (h : Heap) : OX :=
cnd v117
 (ob (y11 [(.int .i64 0), (.int .i64 0), (.int .i64 0), (.int .i64 0)] [(0, 1, (AV.int .i64 3)), (1, 1, (AV.int .i64 1)), (2, 1, (AV.int .i64 (-1))), (3, 1, (AV.int .i64 (-1)))]) fun v119 =>
ob (evFa 7 v1) fun v120 =>
ob (evLd false 1 v120 h) fun v121 =>
oh (y5 E (y7 E) 0 none true 37 [v121] h) fun v122 h5 =>
oh (evSt 4 v2 v119 h5) fun _ h6 =>
(ob (evLd true 4 v2 h6) fun r0 =>
  yc h6 (.tup [r0, v122])))
 ((yhd v1 v2 v11 h))
def y2oa (s : St) : OX := yhi (s 1) (s 2) (s 11) (s 117) s.h
theorem y20e : T1 y1il yh (y1 0 yh xN) [.cell 2 true 4, .t 3] y2oa := fun s => (yw rfl (y24u s)).trans (by kernel_rfl)
def yhj (v1 v2 v11 : AV) (h : Heap) : OX :=
ob (y2 .eql v11 (AV.int .i64 21)) fun v118 =>
(yhi v1 v2 v11 v118 h)
def y2mg (s : St) : OX := yhj (s 1) (s 2) (s 11) s.h
theorem y26u : T1 y1k0 yh (y1 0 yh xN) [.cell 2 true 4, .t 3] y2mg := sq y20e fun _ => by kernel_rfl
def yhk (v1 v2 v11 v114 : AV) (h : Heap) : OX :=
cnd v114
 (ob (y11 [(.int .i64 0), (.int .i64 0), (.int .i64 0), (.int .i64 0)] [(0, 1, (AV.int .i64 (-1))), (1, 1, (AV.int .i64 0)), (2, 1, (AV.int .i64 (-1))), (3, 1, (AV.int .i64 (-1)))]) fun v116 =>
oh (evSt 4 v2 v116 h) fun _ h7 =>
(ob (evLd true 4 v2 h7) fun r0 =>
  yc h7 (.tup [r0, (AV.bool true)])))
 ((yhj v1 v2 v11 h))
def y2n9 (s : St) : OX := yhk (s 1) (s 2) (s 11) (s 114) s.h
theorem y24m : T1 y1q5 yh (y1 0 yh xN) [.cell 2 true 4, .t 3] y2n9 := fun s => (yw rfl (y26u s)).trans (by kernel_rfl)
def yhf (v1 v2 v11 : AV) (h : Heap) : OX :=
ob (y2 .eql v11 (AV.int .i64 19)) fun v115 =>
(yhk v1 v2 v11 v115 h)
def y2mo (s : St) : OX := yhf (s 1) (s 2) (s 11) s.h
theorem y230 : T1 y1se yh (y1 0 yh xN) [.cell 2 true 4, .t 3] y2mo := sq y24m fun _ => by kernel_rfl
def y9x (v1 v2 v11 v108 : AV) (h : Heap) : OX :=
cnd v108
 (ob (y11 [(.int .i64 0), (.int .i64 0), (.int .i64 0), (.int .i64 0)] [(0, 1, (AV.int .i64 (-1))), (1, 1, (AV.int .i64 3)), (2, 1, (AV.int .i64 0)), (3, 1, (AV.int .i64 (-1)))]) fun v110 =>
ob (evFa 5 v1) fun v111 =>
ob (evLd false 1 v111 h) fun v112 =>
ob (y2 .geq v112 (AV.int .i64 0)) fun v113 =>
oh (evSt 4 v2 v110 h) fun _ h8 =>
okK (yd [([], []), ([], []), (ids1 v111, []), ([], []), ([], ids1 v2), ([], [])] [(2, 4)]) <|
(ob (evLd true 4 v2 h8) fun r0 =>
  yc h8 (.tup [r0, v113])))
 ((yhf v1 v2 v11 h))
def y2i4 (s : St) : OX := y9x (s 1) (s 2) (s 11) (s 108) s.h
theorem y1eq : T1 y138 yh (y1 0 yh xN) [.cell 2 true 4, .t 3] y2i4 := fun s => (yw rfl (y230 s)).trans (by kernel_rfl)
def y9u (v1 v2 v11 : AV) (h : Heap) : OX :=
ob (y2 .eql v11 (AV.int .i64 17)) fun v109 =>
(y9x v1 v2 v11 v109 h)
def y2iw (s : St) : OX := y9u (s 1) (s 2) (s 11) s.h
theorem y1iu : T1 y189 yh (y1 0 yh xN) [.cell 2 true 4, .t 3] y2iw := sq y1eq fun _ => by kernel_rfl
def y9p (v1 v2 v11 v102 : AV) (h : Heap) : OX :=
cnd v102
 (ob (y11 [(.int .i64 0), (.int .i64 0), (.int .i64 0), (.int .i64 0)] [(0, 1, (AV.int .i64 0)), (1, 1, (AV.int .i64 3)), (2, 1, (AV.int .i64 (-1))), (3, 1, (AV.int .i64 (-1)))]) fun v104 =>
ob (evFa 5 v1) fun v105 =>
ob (evLd false 1 v105 h) fun v106 =>
ob (y2 .geq v106 (AV.int .i64 0)) fun v107 =>
oh (evSt 4 v2 v104 h) fun _ h9 =>
okK (yd [([], []), ([], []), (ids1 v105, []), ([], []), ([], ids1 v2), ([], [])] [(2, 4)]) <|
(ob (evLd true 4 v2 h9) fun r0 =>
  yc h9 (.tup [r0, v107])))
 ((y9u v1 v2 v11 h))
def y2hb (s : St) : OX := y9p (s 1) (s 2) (s 11) (s 102) s.h
theorem y1z6 : T1 y17x yh (y1 0 yh xN) [.cell 2 true 4, .t 3] y2hb := fun s => (yw rfl (y1iu s)).trans (by kernel_rfl)
def y9n (v1 v2 v11 : AV) (h : Heap) : OX :=
ob (y2 .eql v11 (AV.int .i64 16)) fun v103 =>
(y9p v1 v2 v11 v103 h)
def y2au (s : St) : OX := y9n (s 1) (s 2) (s 11) s.h
theorem y1ee : T1 y119 yh (y1 0 yh xN) [.cell 2 true 4, .t 3] y2au := sq y1z6 fun _ => by kernel_rfl
def y9i (v1 v2 v11 v99 : AV) (h : Heap) : OX :=
cnd v99
 (ob (y11 [(.int .i64 0), (.int .i64 0), (.int .i64 0), (.int .i64 0)] [(0, 1, (AV.int .i64 1)), (1, 1, (AV.int .i64 3)), (2, 1, (AV.int .i64 (-1))), (3, 1, (AV.int .i64 (-1)))]) fun v101 =>
oh (evSt 4 v2 v101 h) fun _ h10 =>
(ob (evLd true 4 v2 h10) fun r0 =>
  yc h10 (.tup [r0, (AV.bool true)])))
 ((y9n v1 v2 v11 h))
def y2at (s : St) : OX := y9i (s 1) (s 2) (s 11) (s 99) s.h
theorem y1f7 : T1 yxn yh (y1 0 yh xN) [.cell 2 true 4, .t 3] y2at := fun s => (yw rfl (y1ee s)).trans (by kernel_rfl)
def y9s (v1 v2 v11 : AV) (h : Heap) : OX :=
ob (y2 .eql v11 (AV.int .i64 15)) fun v100 =>
(y9i v1 v2 v11 v100 h)
def y2id (s : St) : OX := y9s (s 1) (s 2) (s 11) s.h
theorem y1i6 : T1 y18e yh (y1 0 yh xN) [.cell 2 true 4, .t 3] y2id := sq y1f7 fun _ => by kernel_rfl
def ya9 (v1 v2 v11 v96 : AV) (h : Heap) : OX :=
cnd v96
 (ob (y11 [(.int .i64 0), (.int .i64 0), (.int .i64 0), (.int .i64 0)] [(0, 1, (AV.int .i64 (-1))), (1, 1, (AV.int .i64 3)), (2, 1, (AV.int .i64 1)), (3, 1, (AV.int .i64 0))]) fun v98 =>
oh (evSt 4 v2 v98 h) fun _ h11 =>
(ob (evLd true 4 v2 h11) fun r0 =>
  yc h11 (.tup [r0, (AV.bool true)])))
 ((y9s v1 v2 v11 h))
def y2hh (s : St) : OX := ya9 (s 1) (s 2) (s 11) (s 96) s.h
theorem y1tt : T1 y13d yh (y1 0 yh xN) [.cell 2 true 4, .t 3] y2hh := fun s => (yw rfl (y1i6 s)).trans (by kernel_rfl)
def y9b (v1 v2 v11 : AV) (h : Heap) : OX :=
ob (y2 .eql v11 (AV.int .i64 14)) fun v97 =>
(ya9 v1 v2 v11 v97 h)
def y2fb (s : St) : OX := y9b (s 1) (s 2) (s 11) s.h
theorem y1oj : T1 yys yh (y1 0 yh xN) [.cell 2 true 4, .t 3] y2fb := sq y1tt fun _ => by kernel_rfl
def y99 (v1 v2 v11 v93 : AV) (h : Heap) : OX :=
cnd v93
 (ob (y11 [(.int .i64 0), (.int .i64 0), (.int .i64 0), (.int .i64 0)] [(0, 1, (AV.int .i64 0)), (1, 1, (AV.int .i64 3)), (2, 1, (AV.int .i64 1)), (3, 1, (AV.int .i64 (-1)))]) fun v95 =>
oh (evSt 4 v2 v95 h) fun _ h12 =>
(ob (evLd true 4 v2 h12) fun r0 =>
  yc h12 (.tup [r0, (AV.bool true)])))
 ((y9b v1 v2 v11 h))
def y2eg (s : St) : OX := y99 (s 1) (s 2) (s 11) (s 93) s.h
theorem y1k6 : T1 y11f yh (y1 0 yh xN) [.cell 2 true 4, .t 3] y2eg := fun s => (yw rfl (y1oj s)).trans (by kernel_rfl)
def y9t (v1 v2 v11 : AV) (h : Heap) : OX :=
ob (y2 .eql v11 (AV.int .i64 13)) fun v94 =>
(y99 v1 v2 v11 v94 h)
def y2ge (s : St) : OX := y9t (s 1) (s 2) (s 11) s.h
theorem y1qd : T1 y15c yh (y1 0 yh xN) [.cell 2 true 4, .t 3] y2ge := sq y1k6 fun _ => by kernel_rfl
def yaa (v1 v2 v11 v90 : AV) (h : Heap) : OX :=
cnd v90
 (ob (y11 [(.int .i64 0), (.int .i64 0), (.int .i64 0), (.int .i64 0)] [(0, 1, (AV.int .i64 (-1))), (1, 1, (AV.int .i64 3)), (2, 1, (AV.int .i64 3)), (3, 1, (AV.int .i64 (-1)))]) fun v92 =>
oh (evSt 4 v2 v92 h) fun _ h13 =>
(ob (evLd true 4 v2 h13) fun r0 =>
  yc h13 (.tup [r0, (AV.bool true)])))
 ((y9t v1 v2 v11 h))
def y2fp (s : St) : OX := yaa (s 1) (s 2) (s 11) (s 90) s.h
theorem y1nt : T1 y166 yh (y1 0 yh xN) [.cell 2 true 4, .t 3] y2fp := fun s => (yw rfl (y1qd s)).trans (by kernel_rfl)
def y9a (v1 v2 v11 : AV) (h : Heap) : OX :=
ob (y2 .eql v11 (AV.int .i64 11)) fun v91 =>
(yaa v1 v2 v11 v91 h)
def y2cg (s : St) : OX := y9a (s 1) (s 2) (s 11) s.h
theorem y1r6 : T1 yyq yh (y1 0 yh xN) [.cell 2 true 4, .t 3] y2cg := sq y1nt fun _ => by kernel_rfl
def y9v (v1 v2 v11 v87 : AV) (h : Heap) : OX :=
cnd v87
 (ob (y11 [(.int .i64 0), (.int .i64 0), (.int .i64 0), (.int .i64 0)] [(0, 1, (AV.int .i64 (-1))), (1, 1, (AV.int .i64 1)), (2, 1, (AV.int .i64 (-1))), (3, 1, (AV.int .i64 (-1)))]) fun v89 =>
oh (evSt 4 v2 v89 h) fun _ h14 =>
(ob (evLd true 4 v2 h14) fun r0 =>
  yc h14 (.tup [r0, (AV.bool true)])))
 ((y9a v1 v2 v11 h))
def y2cu (s : St) : OX := y9v (s 1) (s 2) (s 11) (s 87) s.h
theorem y1md : T1 y14w yh (y1 0 yh xN) [.cell 2 true 4, .t 3] y2cu := fun s => (yw rfl (y1r6 s)).trans (by kernel_rfl)
def y9y (v1 v2 v11 : AV) (h : Heap) : OX :=
ob (y2 .eql v11 (AV.int .i64 10)) fun v88 =>
(y9v v1 v2 v11 v88 h)
def y2fc (s : St) : OX := y9y (s 1) (s 2) (s 11) s.h
theorem y1uk : T1 y17l yh (y1 0 yh xN) [.cell 2 true 4, .t 3] y2fc := sq y1md fun _ => by kernel_rfl
def y9l (v1 v2 v11 v84 : AV) (h : Heap) : OX :=
cnd v84
 (ob (y11 [(.int .i64 0), (.int .i64 0), (.int .i64 0), (.int .i64 0)] [(0, 1, (AV.int .i64 (-1))), (1, 1, (AV.int .i64 3)), (2, 1, (AV.int .i64 1)), (3, 1, (AV.int .i64 (-1)))]) fun v86 =>
oh (evSt 4 v2 v86 h) fun _ h15 =>
(ob (evLd true 4 v2 h15) fun r0 =>
  yc h15 (.tup [r0, (AV.bool true)])))
 ((y9y v1 v2 v11 h))
def y2dx (s : St) : OX := y9l (s 1) (s 2) (s 11) (s 84) s.h
theorem y1wk : T1 yyk yh (y1 0 yh xN) [.cell 2 true 4, .t 3] y2dx := fun s => (yw rfl (y1uk s)).trans (by kernel_rfl)
def yab (v1 v2 v11 : AV) (h : Heap) : OX :=
ob (y2 .eql v11 (AV.int .i64 9)) fun v85 =>
(y9l v1 v2 v11 v85 h)
def y2i6 (s : St) : OX := yab (s 1) (s 2) (s 11) s.h
theorem y1nz : T1 y0s yh (y1 0 yh xN) [.cell 2 true 4, .t 3] y2i6 := sq y1wk fun _ => by kernel_rfl
def y9h (v1 v2 v11 v78 : AV) (h : Heap) : OX :=
cnd v78
 (ob (y11 [(.int .i64 0), (.int .i64 0), (.int .i64 0), (.int .i64 0)] [(0, 1, (AV.int .i64 1)), (1, 1, (AV.int .i64 3)), (2, 1, (AV.int .i64 (-1))), (3, 1, (AV.int .i64 (-1)))]) fun v80 =>
ob (evFa 7 v1) fun v81 =>
ob (evLd false 1 v81 h) fun v82 =>
oh (y5 E (y7 E) 0 none true 37 [v82] h) fun v83 h16 =>
oh (evSt 4 v2 v80 h16) fun _ h17 =>
(ob (evLd true 4 v2 h17) fun r0 =>
  yc h17 (.tup [r0, v83])))
 ((yab v1 v2 v11 h))
def y2cd (s : St) : OX := y9h (s 1) (s 2) (s 11) (s 78) s.h
theorem y1ya : T1 y12b yh (y1 0 yh xN) [.cell 2 true 4, .t 3] y2cd := fun s => (yw rfl (y1nz s)).trans (by kernel_rfl)
def ya4 (v1 v2 v11 : AV) (h : Heap) : OX :=
ob (y2 .eql v11 (AV.int .i64 22)) fun v79 =>
(y9h v1 v2 v11 v79 h)
def y2dy (s : St) : OX := ya4 (s 1) (s 2) (s 11) s.h
theorem y1hq : T1 yyb yh (y1 0 yh xN) [.cell 2 true 4, .t 3] y2dy := sq y1ya fun _ => by kernel_rfl
def y9m (v1 v2 v11 v72 : AV) (h : Heap) : OX :=
cnd v72
 (ob (y11 [(.int .i64 0), (.int .i64 0), (.int .i64 0), (.int .i64 0)] [(0, 1, (AV.int .i64 (-1))), (1, 1, (AV.int .i64 3)), (2, 1, (AV.int .i64 (-1))), (3, 1, (AV.int .i64 (-1)))]) fun v74 =>
ob (evFa 7 v1) fun v75 =>
ob (evLd false 1 v75 h) fun v76 =>
oh (y5 E (y7 E) 0 none true 37 [v76] h) fun v77 h18 =>
oh (evSt 4 v2 v74 h18) fun _ h19 =>
(ob (evLd true 4 v2 h19) fun r0 =>
  yc h19 (.tup [r0, v77])))
 ((ya4 v1 v2 v11 h))
def y2ds (s : St) : OX := y9m (s 1) (s 2) (s 11) (s 72) s.h
theorem y1te : T1 y156 yh (y1 0 yh xN) [.cell 2 true 4, .t 3] y2ds := fun s => (yw rfl (y1hq s)).trans (by kernel_rfl)
def y9q (v1 v2 v11 : AV) (h : Heap) : OX :=
ob (y2 .eql v11 (AV.int .i64 12)) fun v73 =>
(y9m v1 v2 v11 v73 h)
def y2ci (s : St) : OX := y9q (s 1) (s 2) (s 11) s.h
theorem y1rq : T1 yzn yh (y1 0 yh xN) [.cell 2 true 4, .t 3] y2ci := sq y1te fun _ => by kernel_rfl
def y87 (v1 v2 v11 v68 : AV) (h : Heap) : OX :=
cnd v68
 (ob (y11 [(.int .i64 0), (.int .i64 0), (.int .i64 0), (.int .i64 0)] [(0, 1, (AV.int .i64 (-1))), (1, 1, (AV.int .i64 3)), (2, 1, (AV.int .i64 (-1))), (3, 1, (AV.int .i64 (-1)))]) fun v71 =>
oh (evSt 4 v2 v71 h) fun _ h20 =>
(ob (evLd true 4 v2 h20) fun r0 =>
  yc h20 (.tup [r0, (AV.bool true)])))
 ((y9q v1 v2 v11 h))
def y2ey (s : St) : OX := y87 (s 1) (s 2) (s 11) (s 68) s.h
theorem y1j4 : T1 y18c yh (y1 0 yh xN) [.cell 2 true 4, .t 3] y2ey := fun s => (yw rfl (y1rq s)).trans (by kernel_rfl)
def y9c (v1 v2 v11 : AV) (h : Heap) : OX :=
ob (y2 .eql v11 (AV.int .i64 8)) fun v69 =>
cnd v69
 ((y87 v1 v2 v11 v69 h))
 (ob (y2 .eql v11 (AV.int .i64 31)) fun v70 =>
(y87 v1 v2 v11 v70 h))
def y2gr (s : St) : OX := y9c (s 1) (s 2) (s 11) s.h
theorem y1xq : T1 y16y yh (y1 0 yh xN) [.cell 2 true 4, .t 3] y2gr := sq y1j4 fun _ => by kernel_rfl
def y9j (v1 v2 v11 v65 : AV) (h : Heap) : OX :=
cnd v65
 (ob (y11 [(.int .i64 0), (.int .i64 0), (.int .i64 0), (.int .i64 0)] [(0, 1, (AV.int .i64 (-1))), (1, 1, (AV.int .i64 0)), (2, 1, (AV.int .i64 (-1))), (3, 1, (AV.int .i64 (-1)))]) fun v67 =>
oh (evSt 4 v2 v67 h) fun _ h21 =>
(ob (evLd true 4 v2 h21) fun r0 =>
  yc h21 (.tup [r0, (AV.bool true)])))
 ((y9c v1 v2 v11 h))
def y2fl (s : St) : OX := y9j (s 1) (s 2) (s 11) (s 65) s.h
theorem y1if : T1 y12c yh (y1 0 yh xN) [.cell 2 true 4, .t 3] y2fl := fun s => (yw rfl (y1xq s)).trans (by kernel_rfl)
def y9e (v1 v2 v11 : AV) (h : Heap) : OX :=
ob (y2 .eql v11 (AV.int .i64 7)) fun v66 =>
(y9j v1 v2 v11 v66 h)
def y2e2 (s : St) : OX := y9e (s 1) (s 2) (s 11) s.h
theorem y1p8 : T1 y16c yh (y1 0 yh xN) [.cell 2 true 4, .t 3] y2e2 := sq y1if fun _ => by kernel_rfl
def ya6 (v1 v2 v11 v47 : AV) (h : Heap) : OX :=
cnd v47
 (ob (evFa 5 v1) fun v50 =>
ob (evLd false 1 v50 h) fun v51 =>
oh (y5 E (y7 E) 0 none true 50 [v51] h) fun v52 h22 =>
ob (y6w 0 v52) fun v53 =>
ob (y6w 1 v52) fun v54 =>
ob (y6w 2 v52) fun v55 =>
ob (y11 [(.int .i64 0), (.int .i64 0), (.int .i64 0), (.int .i64 0)] [(0, 1, v55), (1, 1, v53), (2, 1, (AV.int .i64 (-1))), (3, 1, (AV.int .i64 (-1)))]) fun v58 =>
ob (y2 .neq v53 (AV.int .i64 0)) fun v60 =>
gb v60 true (some v54) fun v62 =>
gb v60 true (y2 .eql v62 (AV.int .i64 0)) fun v63 =>
ob (y9 v60 v63 (AV.bool false)) fun v64 =>
oh (evSt 4 v2 v58 h22) fun _ h23 =>
(ob (evLd true 4 v2 h23) fun r0 =>
  yc h23 (.tup [r0, v64])))
 ((y9e v1 v2 v11 h))
def y2hy (s : St) : OX := ya6 (s 1) (s 2) (s 11) (s 47) s.h
theorem y1st : T1 y0y yh (y1 0 yh xN) [.cell 2 true 4, .t 3] y2hy := fun s => (yw rfl (y1p8 s)).trans (by kernel_rfl)
def y9d (v1 v2 v11 : AV) (h : Heap) : OX :=
ob (y2 .eql v11 (AV.int .i64 6)) fun v48 =>
(ya6 v1 v2 v11 v48 h)
def y2d2 (s : St) : OX := y9d (s 1) (s 2) (s 11) s.h
theorem y1fo : T1 y12k yh (y1 0 yh xN) [.cell 2 true 4, .t 3] y2d2 := sq y1st fun _ => by kernel_rfl
def y9k (v1 v2 v11 v25 : AV) (h : Heap) : OX :=
cnd v25
 (ob (evFa 5 v1) fun v28 =>
ob (evLd false 1 v28 h) fun v29 =>
oh (y5 E (y7 E) 0 none true 50 [v29] h) fun v30 h24 =>
ob (y6w 0 v30) fun v31 =>
ob (y6w 1 v30) fun v32 =>
ob (y6w 2 v30) fun v33 =>
ob (y11 [(.int .i64 0), (.int .i64 0), (.int .i64 0), (.int .i64 0)] [(0, 1, v33), (1, 1, v31), (2, 1, v32), (3, 1, (AV.int .i64 (-1)))]) fun v37 =>
ob (evFa 5 v1) fun v38 =>
ob (evLd false 1 v38 h24) fun v39 =>
ob (evFa 5 v1) fun v40 =>
ob (evLd false 1 v40 h24) fun v41 =>
ob (y2 .eql v39 v41) fun v42 =>
gb v42 true (some v32) fun v44 =>
gb v42 true (y2 .neq v44 (AV.int .i64 0)) fun v45 =>
ob (y9 v42 v45 (AV.bool false)) fun v46 =>
oh (evSt 4 v2 v37 h24) fun _ h25 =>
(ob (evLd true 4 v2 h25) fun r0 =>
  yc h25 (.tup [r0, v46])))
 ((y9d v1 v2 v11 h))
def y2di (s : St) : OX := y9k (s 1) (s 2) (s 11) (s 25) s.h
theorem y1gj : T1 y114 yh (y1 0 yh xN) [.cell 2 true 4, .t 3] y2di := fun s => (yw rfl (y1fo s)).trans (by kernel_rfl)
def y98 (v1 v2 v11 : AV) (h : Heap) : OX :=
ob (y2 .eql v11 (AV.int .i64 5)) fun v26 =>
(y9k v1 v2 v11 v26 h)
def y2en (s : St) : OX := y98 (s 1) (s 2) (s 11) s.h
theorem y1dy : T1 y18w yh (y1 0 yh xN) [.cell 2 true 4, .t 3] y2en := sq y1gj fun _ => by kernel_rfl
def y9f (v1 v2 v11 v22 : AV) (h : Heap) : OX :=
cnd v22
 (ob (y11 [(.int .i64 0), (.int .i64 0), (.int .i64 0), (.int .i64 0)] [(0, 1, (AV.int .i64 0)), (1, 1, (AV.int .i64 0)), (2, 1, (AV.int .i64 (-1))), (3, 1, (AV.int .i64 (-1)))]) fun v24 =>
oh (evSt 4 v2 v24 h) fun _ h26 =>
(ob (evLd true 4 v2 h26) fun r0 =>
  yc h26 (.tup [r0, (AV.bool true)])))
 ((y98 v1 v2 v11 h))
def y2h1 (s : St) : OX := y9f (s 1) (s 2) (s 11) (s 22) s.h
theorem y1sa : T1 yz9 yh (y1 0 yh xN) [.cell 2 true 4, .t 3] y2h1 := fun s => (yw rfl (y1dy s)).trans (by kernel_rfl)
def y9z (v1 v2 v11 : AV) (h : Heap) : OX :=
ob (y2 .eql v11 (AV.int .i64 4)) fun v23 =>
(y9f v1 v2 v11 v23 h)
def y2ej (s : St) : OX := y9z (s 1) (s 2) (s 11) s.h
theorem y1fn : T1 y151 yh (y1 0 yh xN) [.cell 2 true 4, .t 3] y2ej := sq y1sa fun _ => by kernel_rfl
def y6d (v1 v2 v11 v16 : AV) (h : Heap) : OX :=
cnd v16
 (ob (y11 [(.int .i64 0), (.int .i64 0), (.int .i64 0), (.int .i64 0)] [(0, 1, (AV.int .i64 3)), (1, 1, (AV.int .i64 (-1))), (2, 1, (AV.int .i64 (-1))), (3, 1, (AV.int .i64 (-1)))]) fun v21 =>
oh (evSt 4 v2 v21 h) fun _ h27 =>
(ob (evLd true 4 v2 h27) fun r0 =>
  yc h27 (.tup [r0, (AV.bool true)])))
 ((y9z v1 v2 v11 h))
def y2i9 (s : St) : OX := y6d (s 1) (s 2) (s 11) (s 16) s.h
theorem y1eb : T1 y0b yh (y1 0 yh xN) [.cell 2 true 4, .t 3] y2i9 := fun s => (yw rfl (y1fn s)).trans (by kernel_rfl)
def ya8 (v1 v2 v11 : AV) (h : Heap) : OX :=
ob (y2 .eql v11 (AV.int .i64 2)) fun v17 =>
cnd v17
 ((y6d v1 v2 v11 v17 h))
 (ob (y2 .eql v11 (AV.int .i64 3)) fun v18 =>
cnd v18
 ((y6d v1 v2 v11 v18 h))
 (ob (y2 .eql v11 (AV.int .i64 20)) fun v19 =>
cnd v19
 ((y6d v1 v2 v11 v19 h))
 (ob (y2 .eql v11 (AV.int .i64 32)) fun v20 =>
(y6d v1 v2 v11 v20 h))))
def y2cq (s : St) : OX := ya8 (s 1) (s 2) (s 11) s.h
theorem y1xk : T1 y117 yh (y1 0 yh xN) [.cell 2 true 4, .t 3] y2cq := sq y1eb fun _ => by kernel_rfl
def y7t (v1 v2 v11 v12 : AV) (h : Heap) : OX :=
cnd v12
 (ob (y11 [(.int .i64 0), (.int .i64 0), (.int .i64 0), (.int .i64 0)] [(0, 1, (AV.int .i64 0)), (1, 1, (AV.int .i64 (-1))), (2, 1, (AV.int .i64 (-1))), (3, 1, (AV.int .i64 (-1)))]) fun v15 =>
oh (evSt 4 v2 v15 h) fun _ h28 =>
(ob (evLd true 4 v2 h28) fun r0 =>
  yc h28 (.tup [r0, (AV.bool true)])))
 ((ya8 v1 v2 v11 h))
def y2e1 (s : St) : OX := y7t (s 1) (s 2) (s 11) (s 12) s.h
theorem y1vs : T1 y13i yh (y1 0 yh xN) [.cell 2 true 4, .t 3] y2e1 := fun s => (yw rfl (y1xk s)).trans (by kernel_rfl)
def y9o (v1 v2 v11 : AV) (h : Heap) : OX :=
ob (y2 .eql v11 (AV.int .i64 1)) fun v13 =>
cnd v13
 ((y7t v1 v2 v11 v13 h))
 (ob (y2 .eql v11 (AV.int .i64 18)) fun v14 =>
(y7t v1 v2 v11 v14 h))
def y1ex (s : St) : OX := y9o (s 1) (s 2) (s 11) s.h
theorem y1kc : T1 y0i yh (y1 0 yh xN) [.cell 2 true 4, .t 3] y1ex := sq y1vs fun _ => by kernel_rfl
theorem y1rh : T1 y16u yh xN [.cell 2 true 4, .t 3] y1ex := fun s => yi.trans (y1kc s)
def ya2 (v1 v2 : AV) (h : Heap) : OX :=
ob (evFa 0 v1) fun v10 =>
ob (evLd false 1 v10 h) fun v11 =>
(y9o v1 v2 v11 h)
def y1mh (s : St) : OX := ya2 (s 1) (s 2) s.h
theorem y1jr : T1 y128 yh xN [.cell 2 true 4, .t 3] y1mh := sq y1rh fun _ => by kernel_rfl
theorem y1kn : T0 y13f [.cell 2 true 4, .t 3] y1mh := sq y23z y1jr
def ya3 (v0 : AV) (h : Heap) : OX :=
oh (newC 0 (some 0) (cellsOf v0) h) fun v1 h29 =>
oh (newC 0 (some 1) [(.int .i64 0), (.int .i64 0), (.int .i64 0), (.int .i64 0)] h29) fun v2 h30 =>
(ya2 v1 v2 h30)
def y2b1 (s : St) : OX := ya3 (s 0) s.h
theorem y1it : T0 y11y [.cell 2 true 4, .t 3] y2b1 := sq y1kn fun _ => by kernel_rfl
@[simp] theorem y2ug : E.pure 47 = true := rfl
theorem y1pq (v0 : AV) : (y7 E).p 47 [v0] = ya3 v0 [⟨0, .dead⟩, ⟨0, .dead⟩] :=
  (yu (cf := y2js) (by kernel_rfl) rfl).trans ((y1it _).trans (by kernel_rfl))
def y1ri (v0 : AV) (h : Heap) : OX :=
oh (newC 0 (some 0) (cellsOf v0) h) fun v1 h1 =>
ob (evFa 0 v1) fun v3 =>
ob (evLd false 1 v3 h1) fun v4 =>
ob (y2 .geq v4 (AV.int .i64 7)) fun v5 =>
gb v5 true (evFa 0 v1) fun v7 =>
gb v5 true (evLd false 1 v7 h1) fun v8 =>
gb v5 true (y2 .leq v8 (AV.int .i64 12)) fun v9 =>
ob (y9 v5 v9 (AV.bool false)) fun v10 =>
gb v10 false (evFa 0 v1) fun v12 =>
gb v10 false (evLd false 1 v12 h1) fun v13 =>
gb v10 false (y2 .eql v13 (AV.int .i64 20)) fun v14 =>
ob (y9 v10 (AV.bool true) v14) fun v15 =>
gb v15 false (evFa 0 v1) fun v17 =>
gb v15 false (evLd false 1 v17 h1) fun v18 =>
gb v15 false (y2 .eql v18 (AV.int .i64 21)) fun v19 =>
ob (y9 v15 (AV.bool true) v19) fun v20 =>
gb v20 false (evFa 0 v1) fun v22 =>
gb v20 false (evLd false 1 v22 h1) fun v23 =>
gb v20 false (y2 .eql v23 (AV.int .i64 31)) fun v24 =>
ob (y9 v20 (AV.bool true) v24) fun v25 =>
gb v25 false (evLd true 9 v1 h1) fun v27 =>
gh v25 false (y5 E (y7 E) 0 none true 17 [v27] h1) h1 fun v28 h2 =>
ob (y9 v25 (AV.bool true) v28) fun v29 =>
(yc h2 v29)
def y2m3 (s : St) : OX := y1ri (s 0) s.h
theorem y24k : T0 y1lc [.t 2] y2m3 := fun _ => by kernel_rfl
@[simp] theorem y2uf : E.pure 18 = true := rfl
theorem y2tq (v0 : AV) : (y7 E).p 18 [v0] = y1ri v0 [⟨0, .dead⟩] :=
  (yu (cf := y2px) (by kernel_rfl) rfl).trans ((y24k _).trans (by kernel_rfl))
def ylb (h : Heap) : OX :=
(yc h (AV.int .i64 0))
def y6j (s : St) : OX := ylb s.h
theorem y20v : T0 y1so [.t 4] y6j := fun _ => by kernel_rfl
def ykx (v1 v5 v16 : AV) (h : Heap) : OX :=
cnd v16
 (ob (y3x .i32 v1) fun v20 =>
ob (y3x .i64 v20) fun v21 =>
(yc h v21))
 (ob (y2 .eql v5 (AV.int .i64 145)) fun v23 =>
cnd v23
 (ob (y3x .i8 v1) fun v25 =>
ob (y3x .i64 v25) fun v26 =>
(yc h v26))
 (ob (y2 .eql v5 (AV.int .i64 146)) fun v28 =>
cnd v28
 (ob (y3x .u16 v1) fun v30 =>
ob (y3x .i64 v30) fun v31 =>
(yc h v31))
 (ob (y2 .eql v5 (AV.int .i64 147)) fun v33 =>
cnd v33
 (ob (y3x .i16 v1) fun v35 =>
ob (y3x .i64 v35) fun v36 =>
(yc h v36))
 ((ylb h)))))
def y2ju (s : St) : OX := ykx (s 1) (s 5) (s 16) s.h
theorem y27z : T1 y1gu y6j (y1 0 y6j xN) [.t 4] y2ju := fun _ => by kernel_rfl
def yl6 (v1 v5 : AV) (h : Heap) : OX :=
ob (y2 .eql v5 (AV.int .i64 133)) fun v17 =>
cnd v17
 ((ykx v1 v5 v17 h))
 (ob (y2 .eql v5 (AV.int .i64 136)) fun v18 =>
(ykx v1 v5 v18 h))
def y2kp (s : St) : OX := yl6 (s 1) (s 5) s.h
theorem y22d : T1 y1fb y6j (y1 0 y6j xN) [.t 4] y2kp := sq y27z fun _ => by kernel_rfl
def yla (v1 v5 v12 : AV) (h : Heap) : OX :=
cnd v12
 (ob (evUn .neg v1) fun v15 =>
(yc h v15))
 ((yl6 v1 v5 h))
def y2md (s : St) : OX := yla (s 1) (s 5) (s 12) s.h
theorem y256 : T1 y1h3 y6j (y1 0 y6j xN) [.t 4] y2md := fun s => (yw rfl (y22d s)).trans (by kernel_rfl)
def yle (v1 v5 : AV) (h : Heap) : OX :=
ob (y2 .eql v5 (AV.int .i64 117)) fun v13 =>
(yla v1 v5 v13 h)
def y2ki (s : St) : OX := yle (s 1) (s 5) s.h
theorem y24j : T1 y1he y6j (y1 0 y6j xN) [.t 4] y2ki := sq y256 fun _ => by kernel_rfl
def yli (v1 v5 v6 : AV) (h : Heap) : OX :=
cnd v6
 (ob (y3x .i32 v1) fun v9 =>
ob (evUn .neg v9) fun v10 =>
ob (y3x .i64 v10) fun v11 =>
(yc h v11))
 ((yle v1 v5 h))
def y2q6 (s : St) : OX := yli (s 1) (s 5) (s 6) s.h
theorem y26c : T1 y1ft y6j (y1 0 y6j xN) [.t 4] y2q6 := fun s => (yw rfl (y24j s)).trans (by kernel_rfl)
def ylj (v1 v5 : AV) (h : Heap) : OX :=
ob (y2 .eql v5 (AV.int .i64 116)) fun v7 =>
(yli v1 v5 v7 h)
def y2ae (s : St) : OX := ylj (s 1) (s 5) s.h
theorem y274 : T1 y1k3 y6j (y1 0 y6j xN) [.t 4] y2ae := sq y26c fun _ => by kernel_rfl
theorem y21y : T1 y1m3 y6j xN [.t 4] y2ae := fun s => yi.trans (y274 s)
def ylp (v0 v1 : AV) (h : Heap) : OX :=
(ylj v1 v0 h)
def y2ac (s : St) : OX := ylp (s 0) (s 1) s.h
theorem y26p : T1 y1n2 y6j xN [.t 4] y2ac := sq y21y fun _ => by kernel_rfl
theorem y1en : T0 y17s [.t 4] y2ac := sq y20v y26p
def ycj (v0 v1 : AV) (h : Heap) : OX :=
(ylp v0 v1 h)
def y2g8 (s : St) : OX := ycj (s 0) (s 1) s.h
theorem y1sf : T0 y18f [.t 4] y2g8 := sq y1en fun _ => by kernel_rfl
@[simp] theorem y2r1 : E.pure 127 = true := rfl
theorem y2tw (v0 v1 : AV) : (y7 E).p 127 [v0, v1] = ycj v0 v1 [] :=
  (yu (cf := y2q3) (by kernel_rfl) rfl).trans ((y1sf _).trans (by kernel_rfl))
def yx0 (v0 v1 v2 : AV) (h : Heap) : OX :=
oh (y5 E (y7 E) 0 none true 131 [v0, v1, v2] h) fun v32 h1 =>
(yc h1 v32)
def yca (s : St) : OX := yx0 (s 0) (s 1) (s 2) s.h
theorem y24h : T0 y1g8 [.t 6] yca := fun _ => by kernel_rfl
def yvx (h : Heap) : OX :=
(yc h (AV.int .i64 0))
def y2n3 (s : St) : OX := yvx s.h
theorem y26t : T1 y1qy yca (y1 0 yca xN) [.t 6] y2n3 := fun _ => by kernel_rfl
def ywq (v1 v2 : AV) (h : Heap) : OX :=
ob (y2 .lss v1 v2) fun v13 =>
cnd v13
 ((yc h (AV.int .i64 (-1))))
 (ob (y2 .gtr v1 v2) fun v17 =>
cnd v17
 ((yc h (AV.int .i64 1)))
 ((yvx h)))
def y2nz (s : St) : OX := ywq (s 1) (s 2) s.h
theorem y26w : T1 y1vx yca (y1 0 yca xN) [.t 6] y2nz := sq y26t fun _ => by kernel_rfl
def yvi (v0 v1 v2 v7 : AV) (h : Heap) : OX :=
cnd v7
 ((ywq v1 v2 h))
 (ob (y2 .and v0 (AV.int .i64 1)) fun v20 =>
ob (y2 .eql v20 (AV.int .i64 0)) fun v21 =>
cnd v21
 (ob (y3x .i32 v1) fun v24 =>
ob (y3x .i32 v2) fun v26 =>
oh (y5 E (y7 E) 0 none true 130 [v0, v24, v26] h) fun v27 h2 =>
ob (y3x .i64 v27) fun v28 =>
(yc h2 v28))
 ((yx0 v0 v1 v2 h)))
def y2mh (s : St) : OX := yvi (s 0) (s 1) (s 2) (s 7) s.h
theorem y21e : T1 y1mr yca (y1 0 yca xN) [.t 6] y2mh := fun s => (yw (y26w s) rfl).trans (by kernel_rfl)
def yx1 (v0 v1 v2 : AV) (h : Heap) : OX :=
ob (y2 .eql v0 (AV.int .i64 148)) fun v9 =>
(yvi v0 v1 v2 v9 h)
def y1i1 (s : St) : OX := yx1 (s 0) (s 1) (s 2) s.h
theorem y26j : T1 y1z8 yca (y1 0 yca xN) [.t 6] y1i1 := sq y21e fun _ => by kernel_rfl
theorem y22h : T1 y1j1 yca xN [.t 6] y1i1 := fun s => yi.trans (y26j s)
theorem y25s : T0 y1lz [.t 6] y1i1 := sq y24h y22h
def yvf (v0 v1 v2 : AV) (h : Heap) : OX :=
(yx1 v0 v1 v2 h)
def y2mx (s : St) : OX := yvf (s 0) (s 1) (s 2) s.h
theorem y247 : T0 y1nc [.t 6] y2mx := sq y25s fun _ => by kernel_rfl
@[simp] theorem y2qu : E.pure 128 = true := rfl
theorem y2ub (v0 v1 v2 : AV) : (y7 E).p 128 [v0, v1, v2] = yvf v0 v1 v2 [] :=
  (yu (cf := y2lb) (by kernel_rfl) rfl).trans ((y247 _).trans (by kernel_rfl))
def ypb (h : Heap) : OX :=
(yc h (AV.bool false))
def y2nk (s : St) : OX := ypb s.h
theorem y22j : T0 y1e6 [.t 6] y2nk := fun _ => by kernel_rfl
def yp8 (v0 v1 v2 : AV) (h : Heap) : OX :=
ob (y2 .eql v0 (AV.int .i64 0)) fun v9 =>
cnd v9
 (ob (y2 .eql v1 v2) fun v12 =>
(yc h v12))
 (ob (y2 .eql v0 (AV.int .i64 1)) fun v14 =>
cnd v14
 (ob (y2 .neq v1 v2) fun v17 =>
(yc h v17))
 (ob (y2 .eql v0 (AV.int .i64 2)) fun v19 =>
cnd v19
 (ob (y2 .lss v1 v2) fun v22 =>
(yc h v22))
 (ob (y2 .eql v0 (AV.int .i64 3)) fun v24 =>
cnd v24
 (ob (y2 .geq v1 v2) fun v27 =>
(yc h v27))
 (ob (y2 .eql v0 (AV.int .i64 4)) fun v29 =>
cnd v29
 (ob (y2 .gtr v1 v2) fun v32 =>
(yc h v32))
 (ob (y2 .eql v0 (AV.int .i64 5)) fun v34 =>
cnd v34
 (ob (y2 .leq v1 v2) fun v37 =>
(yc h v37))
 ((ypb h)))))))
def y2lm (s : St) : OX := yp8 (s 0) (s 1) (s 2) s.h
theorem y278 : T0 y1t7 [.t 6] y2lm := sq y22j fun _ => by kernel_rfl
def yp1 (v0 v1 v2 : AV) (h : Heap) : OX :=
(yp8 v0 v1 v2 h)
def y2jx (s : St) : OX := yp1 (s 0) (s 1) (s 2) s.h
theorem y23j : T0 y1mp [.t 6] y2jx := sq y278 fun _ => by kernel_rfl
@[simp] theorem y2r8 : E.pure 129 = true := rfl
theorem y2ua (v0 v1 v2 : AV) : (y7 E).p 129 [v0, v1, v2] = yp1 v0 v1 v2 [] :=
  (yu (cf := y2lz) (by kernel_rfl) rfl).trans ((y23j _).trans (by kernel_rfl))
def y1fv (v0 v3 : AV) (h : Heap) : OX :=
ob (yp 1 v3 v0) fun v15 =>
ob (evLd false 1 v15 h) fun v16 =>
(yc h v16)
def y2bo (s : St) : OX := y1fv (s 0) (s 3) s.h
theorem y1ua : T0 yzx [.t 2] y2bo := fun _ => by kernel_rfl
def y1ts (v0 v3 : AV) (h : Heap) : OX :=
ob (y2 .lss v0 (AV.int .i64 1)) fun v6 =>
gb v6 false (some v0) fun v8 =>
gb v6 false (some v3) fun v9 =>
gb v6 false (yv 1 v9 h) fun v10 =>
gb v6 false (y2 .geq v8 v10) fun v11 =>
ob (y9 v6 (AV.bool true) v11) fun v12 =>
cnd v12
 ((yc h (AV.str [])))
 ((y1fv v0 v3 h))
def y2do (s : St) : OX := y1ts (s 0) (s 3) s.h
theorem y1s8 : T0 y15k [.t 2] y2do := sq y1ua fun _ => by kernel_rfl
def y1lf (v0 : AV) (h : Heap) : OX :=
oh (yx 0 (some 0) 1 34 [(.str [])] [(0, (AV.str [])), (1, (AV.str [110, 45, 45, 45])), (2, (AV.str [51, 45, 45, 45])), (3, (AV.str [51, 45, 45, 45])), (4, (AV.str [42, 61, 45, 45])), (5, (AV.str [63, 63, 63, 63])), (6, (AV.str [63, 63, 63, 63])), (7, (AV.str [45, 110, 45, 45])), (8, (AV.str [45, 51, 45, 45])), (9, (AV.str [45, 51, 49, 45])), (10, (AV.str [45, 49, 45, 45])), (11, (AV.str [45, 51, 51, 45])), (12, (AV.str [45, 51, 45, 45])), (13, (AV.str [42, 51, 49, 45])), (14, (AV.str [45, 51, 49, 42])), (15, (AV.str [49, 51, 45, 45])), (16, (AV.str [42, 51, 45, 45])), (17, (AV.str [45, 51, 42, 45])), (18, (AV.str [42, 45, 45, 45])), (19, (AV.str [45, 42, 45, 45])), (20, (AV.str [51, 45, 45, 45])), (21, (AV.str [51, 49, 45, 45])), (22, (AV.str [49, 51, 45, 45])), (23, (AV.str [63, 63, 63, 63])), (24, (AV.str [63, 63, 63, 63])), (25, (AV.str [63, 63, 63, 63])), (26, (AV.str [63, 63, 63, 63])), (27, (AV.str [45, 45, 45, 45])), (28, (AV.str [45, 49, 49, 45])), (29, (AV.str [45, 51, 63, 45])), (30, (AV.str [45, 63, 45, 45])), (31, (AV.str [45, 51, 45, 45])), (32, (AV.str [51, 45, 45, 45])), (33, (AV.str [45, 45, 45, 45]))] h) fun v4 h1 =>
(y1ts v0 v4 h1)
def y2dj (s : St) : OX := y1lf (s 0) s.h
theorem y1kj : T0 yxm [.t 2] y2dj := sq y1s8 fun _ => by kernel_rfl
def y1ld (v0 : AV) (h : Heap) : OX :=
(y1lf v0 h)
def y2h6 (s : St) : OX := y1ld (s 0) s.h
theorem y1sh : T0 y176 [.t 2] y2h6 := sq y1kj fun _ => by kernel_rfl
@[simp] theorem y2v1 : E.pure 38 = true := rfl
theorem y2ky (v0 : AV) : (y7 E).p 38 [v0] = y1ld v0 [⟨0, .dead⟩] :=
  (yu (cf := y29k) (by kernel_rfl) rfl).trans ((y1sh _).trans (by kernel_rfl))
def ycn (v2 v7 : AV) (h : Heap) : OX :=
ob (y2 .sub v2 (AV.int .u8 48)) fun v30 =>
ob (y3x .i64 v30) fun v31 =>
ob (y2 .eql v7 v31) fun v32 =>
(yc h v32)
def y6f (s : St) : OX := ycn (s 2) (s 7) s.h
theorem y1w1 : T0 y18y [.t 6] y6f := fun _ => by kernel_rfl
def yba (v2 v7 v11 v15 : AV) (h : Heap) : OX :=
cnd v15
 (ob (y2 .gtr v7 (AV.int .i64 0)) fun v19 =>
(yc h v19))
 (ob (y2 .eql v11 (AV.int .u8 110)) fun v21 =>
cnd v21
 (ob (y2 .eql v7 (AV.int .i64 1)) fun v23 =>
gb v23 false (some v7) fun v25 =>
gb v23 false (y2 .eql v25 (AV.int .i64 2)) fun v26 =>
ob (y9 v23 (AV.bool true) v26) fun v27 =>
(yc h v27))
 ((ycn v2 v7 h)))
def y2h5 (s : St) : OX := yba (s 2) (s 7) (s 11) (s 15) s.h
theorem y1jv : T1 yyl y6f (y1 0 y6f xN) [.t 6] y2h5 := fun _ => by kernel_rfl
def ych (v2 v7 v11 : AV) (h : Heap) : OX :=
ob (y2 .eql v11 (AV.int .u8 42)) fun v16 =>
cnd v16
 ((yba v2 v7 v11 v16 h))
 (ob (y2 .eql v11 (AV.int .u8 61)) fun v17 =>
(yba v2 v7 v11 v17 h))
def y2c6 (s : St) : OX := ych (s 2) (s 7) (s 11) s.h
theorem y1t4 : T1 yxv y6f (y1 0 y6f xN) [.t 6] y2c6 := sq y1jv fun _ => by kernel_rfl
def yau (v2 v7 v11 v12 : AV) (h : Heap) : OX :=
cnd v12
 ((yc h (AV.bool true)))
 ((ych v2 v7 v11 h))
def y2im (s : St) : OX := yau (s 2) (s 7) (s 11) (s 12) s.h
theorem y1fz : T1 y195 y6f (y1 0 y6f xN) [.t 6] y2im := fun s => (yw rfl (y1t4 s)).trans (by kernel_rfl)
def ycg (v2 v7 v11 : AV) (h : Heap) : OX :=
ob (y2 .eql v11 (AV.int .u8 45)) fun v13 =>
cnd v13
 ((yau v2 v7 v11 v13 h))
 (ob (y2 .eql v11 (AV.int .u8 63)) fun v14 =>
(yau v2 v7 v11 v14 h))
def y1s2 (s : St) : OX := ycg (s 2) (s 7) (s 11) s.h
theorem y1ku : T1 y113 y6f (y1 0 y6f xN) [.t 6] y1s2 := sq y1fz fun _ => by kernel_rfl
theorem y1tv : T1 y174 y6f xN [.t 6] y1s2 := fun s => yi.trans (y1ku s)
def ycc (v2 v7 : AV) (h : Heap) : OX :=
(ycg v2 v7 v2 h)
def y1e2 (s : St) : OX := ycc (s 2) (s 7) s.h
theorem y1tz : T1 yyh y6f xN [.t 6] y1e2 := sq y1tv fun _ => by kernel_rfl
theorem y1h0 : T0 yyo [.t 6] y1e2 := sq y1w1 y1tz
def yck (v1 v2 v3 : AV) (h : Heap) : OX :=
ob (evLd true 5 v3 h) fun v8 =>
oh (y5 E (y7 E) 0 none true 48 [v8, v1] h) fun v10 h1 =>
(ycc v2 v10 h1)
def y2d5 (s : St) : OX := yck (s 1) (s 2) (s 3) s.h
theorem y1pw : T0 y11u [.t 6] y2d5 := sq y1h0 fun _ => by kernel_rfl
def y7n (v0 v1 v2 : AV) (h : Heap) : OX :=
oh (newC 0 (some 0) (cellsOf v0) h) fun v3 h2 =>
(yck v1 v2 v3 h2)
def y212 (s : St) : OX := y7n (s 0) (s 1) (s 2) s.h
theorem y19t : T0 yr2 [.t 6] y212 := sq y1pw fun _ => by kernel_rfl
@[simp] theorem y2ul : E.pure 65 = true := rfl
theorem y2q5 (v0 v1 v2 : AV) : (y7 E).p 65 [v0, v1, v2] = y7n v0 v1 v2 [⟨0, .dead⟩] :=
  (yu (cf := y28t) (by kernel_rfl) rfl).trans ((y19t _).trans (by kernel_rfl))
def y204 (h : Heap) : OX :=
(yc h (.tup [(AV.int .i64 0), (AV.int .i64 0), (AV.int .i64 0)]))
def y2nw (s : St) : OX := y204 s.h
theorem y249 : T0 y1ro [.t 2, .t 3, .t 4] y2nw := fun _ => by kernel_rfl
def y22q (v0 v5 : AV) (h : Heap) : OX :=
gb v5 true (some v0) fun v28 =>
gb v5 true (y2 .rem v28 (AV.int .i64 2)) fun v29 =>
gb v5 true (y2 .eql v29 (AV.int .i64 0)) fun v30 =>
ob (y9 v5 v30 (AV.bool false)) fun v31 =>
cnd v31
 ((yc h (.tup [(AV.int .i64 1), (AV.int .i64 1), (AV.int .i64 1)])))
 (ob (y2 .eql v0 (AV.int .i64 121)) fun v34 =>
gb v34 false (some v0) fun v36 =>
gb v34 false (y2 .eql v36 (AV.int .i64 123)) fun v37 =>
ob (y9 v34 (AV.bool true) v37) fun v38 =>
gb v38 false (some v0) fun v40 =>
gb v38 false (y2 .eql v40 (AV.int .i64 125)) fun v41 =>
ob (y9 v38 (AV.bool true) v41) fun v42 =>
cnd v42
 ((yc h (.tup [(AV.int .i64 2), (AV.int .i64 1), (AV.int .i64 2)])))
 (cnd v5
 ((yc h (.tup [(AV.int .i64 2), (AV.int .i64 2), (AV.int .i64 2)])))
 (ob (y2 .eql v0 (AV.int .i64 148)) fun v47 =>
cnd v47
 ((yc h (.tup [(AV.int .i64 2), (AV.int .i64 2), (AV.int .i64 1)])))
 (ob (y2 .eql v0 (AV.int .i64 116)) fun v50 =>
gb v50 false (some v0) fun v52 =>
gb v50 false (y2 .geq v52 (AV.int .i64 145)) fun v53 =>
gb v50 false (some v53) fun v54 =>
gb v54 true (some v0) fun v55 =>
gb v54 true (y2 .leq v55 (AV.int .i64 147)) fun v56 =>
gb v50 false (y9 v54 v56 (AV.bool false)) fun v57 =>
ob (y9 v50 (AV.bool true) v57) fun v58 =>
cnd v58
 ((yc h (.tup [(AV.int .i64 1), (AV.int .i64 0), (AV.int .i64 1)])))
 (ob (y2 .eql v0 (AV.int .i64 117)) fun v61 =>
cnd v61
 ((yc h (.tup [(AV.int .i64 2), (AV.int .i64 0), (AV.int .i64 2)])))
 (ob (y2 .eql v0 (AV.int .i64 133)) fun v64 =>
cnd v64
 ((yc h (.tup [(AV.int .i64 1), (AV.int .i64 0), (AV.int .i64 2)])))
 (ob (y2 .eql v0 (AV.int .i64 136)) fun v67 =>
cnd v67
 ((yc h (.tup [(AV.int .i64 2), (AV.int .i64 0), (AV.int .i64 1)])))
 ((y204 h)))))))))
def y2l1 (s : St) : OX := y22q (s 0) (s 5) s.h
theorem y24c : T0 y1xx [.t 2, .t 3, .t 4] y2l1 := sq y249 fun _ => by kernel_rfl
def y26x (v0 : AV) (h : Heap) : OX :=
ob (y2 .geq v0 (AV.int .i64 96)) fun v7 =>
gb v7 true (some v0) fun v9 =>
gb v7 true (y2 .leq v9 (AV.int .i64 113)) fun v10 =>
ob (y9 v7 v10 (AV.bool false)) fun v11 =>
gb v11 true (some v0) fun v13 =>
gb v11 true (y2 .rem v13 (AV.int .i64 4)) fun v14 =>
gb v11 true (y2 .lss v14 (AV.int .i64 2)) fun v15 =>
ob (y9 v11 v15 (AV.bool false)) fun v16 =>
gb v16 false (some v0) fun v18 =>
gb v16 false (y2 .geq v18 (AV.int .i64 120)) fun v19 =>
gb v16 false (some v19) fun v20 =>
gb v20 true (some v0) fun v21 =>
gb v20 true (y2 .leq v21 (AV.int .i64 131)) fun v22 =>
gb v16 false (y9 v20 v22 (AV.bool false)) fun v23 =>
ob (y9 v16 (AV.bool true) v23) fun v24 =>
(y22q v0 v24 h)
def y2nh (s : St) : OX := y26x (s 0) s.h
theorem y25o : T0 y1tk [.t 2, .t 3, .t 4] y2nh := sq y24c fun _ => by kernel_rfl
def y242 (v0 : AV) (h : Heap) : OX :=
(y26x v0 h)
def y2n4 (s : St) : OX := y242 (s 0) s.h
theorem y21m : T0 y1pv [.t 2, .t 3, .t 4] y2n4 := sq y25o fun _ => by kernel_rfl
@[simp] theorem y2rw : E.pure 66 = true := rfl
theorem y2tt (v0 : AV) : (y7 E).p 66 [v0] = y242 v0 [] :=
  (yu (cf := y2ln) (by kernel_rfl) rfl).trans ((y21m _).trans (by kernel_rfl))
def yi0 (v0 : AV) (h : Heap) : OX :=
ob (yv 0 v0 h) fun v28 =>
ob (y2 .gtr v28 (AV.int .i64 2)) fun v29 =>
gb v29 true (some v0) fun v31 =>
gb v29 true (y5n v31 (AV.int .i64 0)) fun v32 =>
gb v29 true (y2 .eql v32 (AV.int .u8 76)) fun v33 =>
ob (y9 v29 v33 (AV.bool false)) fun v34 =>
gb v34 true (some v0) fun v36 =>
gb v34 true (some v0) fun v37 =>
gb v34 true (yv 0 v37 h) fun v38 =>
gb v34 true (y2 .sub v38 (AV.int .i64 1)) fun v39 =>
gb v34 true (y5n v36 v39) fun v40 =>
gb v34 true (y2 .eql v40 (AV.int .u8 59)) fun v41 =>
ob (y9 v34 v41 (AV.bool false)) fun v42 =>
gb v42 true (some v0) fun v44 =>
gb v42 true (some v0) fun v45 =>
gb v42 true (yv 0 v45 h) fun v46 =>
gb v42 true (y2 .sub v46 (AV.int .i64 1)) fun v47 =>
gb v42 true (yf4 v44 (some (AV.int .i64 1)) (some v47)) fun v48 =>
gh v42 true (y5 E (y7 E) 0 none true 69 [v48, (AV.bool false)] h) h fun v49 h1 =>
ob (y9 v42 v49 (AV.bool false)) fun v50 =>
(yc h1 v50)
def y2f8 (s : St) : OX := yi0 (s 0) s.h
theorem y1mg : T0 y190 [.t 2] y2f8 := fun _ => by kernel_rfl
def yed (v0 : AV) (h : Heap) : OX :=
ob (y2 .eql v0 (AV.str [73])) fun v22 =>
gb v22 false (some v0) fun v24 =>
gb v22 false (y2 .eql v24 (AV.str [74])) fun v25 =>
ob (y9 v22 (AV.bool true) v25) fun v26 =>
cnd v26
 ((yc h (AV.bool true)))
 ((yi0 v0 h))
def y2es (s : St) : OX := yed (s 0) s.h
theorem y1i0 : T0 y157 [.t 2] y2es := sq y1mg fun _ => by kernel_rfl
def yrg (v0 v3 : AV) (h : Heap) : OX :=
ob (y2 .gtr v3 (AV.int .i64 8)) fun v20 =>
cnd v20
 ((yc h (AV.bool false)))
 ((yed v0 h))
def y2bm (s : St) : OX := yrg (s 0) (s 3) s.h
theorem y1z3 : T0 y13u [.t 2] y2bm := sq y1i0 fun _ => by kernel_rfl
def yo6 (v0 v3 : AV) (h : Heap) : OX :=
ob (yf4 v0 (some v3) none) fun v18 =>
(yrg v18 v3 h)
def yap (s : St) : OX := yo6 (s 0) (s 3) s.h
theorem y1tj : T0 y18u [.t 2] yap := sq y1z3 fun _ => by kernel_rfl
def yga (v0 v3 : AV) (h : Heap) : OX :=
  W E 0 ykw ⟨[(0, v0), (3, v3)], h⟩ yap (y1 0 yap xN) (finP [.t 2])
def yc2 (s : St) : OX := yga (s 0) (s 3) s.h
theorem yod : T1 ykw yap (y1 0 yap xN) [.t 2] yc2 := fun s => yf.trans (by kernel_rfl)
def y16e (v0 v3 : AV) (h : Heap) : OX :=
ob (y2 .add v3 (AV.int .i64 1)) fun v15 =>
(yga v0 v15 h)
def y2hn (s : St) : OX := y16e (s 0) (s 3) s.h
theorem y1iq : T1 yzi yc2 (y1 0 yap xN) [.t 2] y2hn := fun _ => by kernel_rfl
def ynp (v0 v3 : AV) (h : Heap) : OX :=
ob (yv 0 v0 h) fun v6 =>
ob (y2 .lss v3 v6) fun v7 =>
gb v7 true (some v0) fun v9 =>
gb v7 true (some v3) fun v10 =>
gb v7 true (y5n v9 v10) fun v11 =>
gb v7 true (y2 .eql v11 (AV.int .u8 91)) fun v12 =>
ob (y9 v7 v12 (AV.bool false)) fun v13 =>
cnd v13
 ((y16e v0 v3 h))
 ((yo6 v0 v3 h))
def y2iy (s : St) : OX := ynp (s 0) (s 3) s.h
theorem y1dp : T1 y08 yc2 (y1 0 yap xN) [.t 2] y2iy := sq y1iq fun _ => by kernel_rfl
theorem ynv (v0 v3 : AV) (h : Heap) : yga v0 v3 h = (ynp v0 v3 h) :=
  y22.trans ((y15 _ _ _ (n' := yc2) (fun s => yod s)).trans ((y1dp _).trans (by kernel_rfl)))
theorem y1f3 : T1 yzh yap xN [.t 2] yc2 := fun s => yi.trans (yod s)
theorem y1qr : T0 y168 [.t 2] yc2 := sq y1tj y1f3
def yvo (v0 : AV) (h : Heap) : OX :=
(yga v0 (AV.int .i64 0) h)
def y26v (s : St) : OX := yvo (s 0) s.h
theorem y1c7 : T0 yuo [.t 2] y26v := sq y1qr fun _ => by kernel_rfl
def yp0 (v0 : AV) (h : Heap) : OX :=
(yvo v0 h)
def y21d (s : St) : OX := yp0 (s 0) s.h
theorem y1bz : T0 ytj [.t 2] y21d := sq y1c7 fun _ => by kernel_rfl
@[simp] theorem y2sl : E.pure 67 = true := rfl
theorem y2qm (v0 : AV) : (y7 E).p 67 [v0] = yp0 v0 [] :=
  (yu (cf := y29f) (by kernel_rfl) rfl).trans ((y1bz _).trans (by kernel_rfl))
def y5f (v2 v3 : AV) (h : Heap) : OX :=
ob (evFa 0 v3) fun v47 =>
ob (evLd false 1 v47 h) fun v48 =>
ob (y2 .neq v48 (AV.int .i64 24)) fun v49 =>
gb v49 true (evFa 0 v3) fun v51 =>
gb v49 true (evLd false 1 v51 h) fun v52 =>
gb v49 true (y2 .neq v52 (AV.int .i64 25)) fun v53 =>
ob (y9 v49 v53 (AV.bool false)) fun v54 =>
gb v54 false (evFa 8 v3) fun v56 =>
gb v54 false (evLd false 1 v56 h) fun v57 =>
gb v54 false (yv 1 v57 h) fun v58 =>
gb v54 false (y2 .gtr v58 (AV.int .i64 0)) fun v59 =>
gb v54 false (some v59) fun v60 =>
gb v60 true (evLd true 5 v2 h) fun v61 =>
gb v60 true (evFa 8 v3) fun v62 =>
gb v60 true (evLd false 1 v62 h) fun v63 =>
gb v60 true (yp 1 v63 (AV.int .i64 0)) fun v64 =>
gb v60 true (evLd false 1 v64 h) fun v65 =>
gh v60 true (y5 E (y7 E) 0 none true 48 [v61, v65] h) h fun v66 h1 =>
gb v60 true (y2 .eql v66 (AV.int .i64 3)) fun v67 =>
gb v54 false (y9 v60 v67 (AV.bool false)) fun v68 =>
ob (y9 v54 (AV.bool true) v68) fun v69 =>
(yc h1 v69)
def y7o (s : St) : OX := y5f (s 2) (s 3) s.h
theorem y1fs : T0 y14l [.t 4] y7o := fun _ => by kernel_rfl
def yi6 (v2 v3 v5 : AV) (h : Heap) : OX :=
  W E 0 yk3 ⟨[(2, v2), (3, v3), (5, v5)], h⟩ y7o (y1 0 y7o xN) (finP [.t 4])
def ybz (s : St) : OX := yi6 (s 2) (s 3) (s 5) s.h
theorem ym3 : T1 yk3 y7o (y1 0 y7o xN) [.t 4] ybz := fun s => yf.trans (by kernel_rfl)
def ya1 (v2 v3 v5 : AV) (h : Heap) : OX :=
ob (y2 .add v5 (AV.int .i64 1)) fun v38 =>
(yi6 v2 v3 v38 h)
def y2fj (s : St) : OX := ya1 (s 2) (s 3) (s 5) s.h
theorem y1w9 : T1 y152 ybz (y1 0 y7o xN) [.t 4] y2fj := fun _ => by kernel_rfl
def y89 (v2 v3 v5 : AV) (h : Heap) : OX :=
ob (evLd true 5 v2 h) fun v39 =>
ob (evFa 8 v3) fun v40 =>
ob (evLd false 1 v40 h) fun v41 =>
ob (yp 1 v41 v5) fun v43 =>
ob (evLd false 1 v43 h) fun v44 =>
oh (y5 E (y7 E) 0 none true 48 [v39, v44] h) fun v45 h2 =>
ob (y2 .eql v45 (AV.int .i64 0)) fun v46 =>
cnd v46
 ((yc h2 (AV.bool false)))
 ((ya1 v2 v3 v5 h2))
def y2f5 (s : St) : OX := y89 (s 2) (s 3) (s 5) s.h
theorem y1g7 : T1 yy4 ybz (y1 0 y7o xN) [.t 4] y2f5 := sq y1w9 fun _ => by kernel_rfl
def y7b (v2 v3 v5 : AV) (h : Heap) : OX :=
ob (evFa 8 v3) fun v33 =>
ob (evLd false 1 v33 h) fun v34 =>
ob (yv 1 v34 h) fun v35 =>
ob (y2 .lss v5 v35) fun v36 =>
cnd v36
 ((y89 v2 v3 v5 h))
 ((y5f v2 v3 h))
def y2if (s : St) : OX := y7b (s 2) (s 3) (s 5) s.h
theorem y1ed : T1 yz2 ybz (y1 0 y7o xN) [.t 4] y2if := sq y1g7 fun _ => by kernel_rfl
theorem ynj (v2 v3 v5 : AV) (h : Heap) : yi6 v2 v3 v5 h = (y7b v2 v3 v5 h) :=
  y22.trans ((y15 _ _ _ (n' := ybz) (fun s => ym3 s)).trans ((y1ed _).trans (by kernel_rfl)))
theorem y1uh : T1 y12n y7o xN [.t 4] ybz := fun s => yi.trans (ym3 s)
def yah (v2 v3 : AV) (h : Heap) : OX :=
(yi6 v2 v3 (AV.int .i64 0) h)
def y1ka (s : St) : OX := yah (s 2) (s 3) s.h
theorem y1gc : T1 y0p y7o xN [.t 4] y1ka := sq y1uh fun _ => by kernel_rfl
theorem y1p5 : T0 y14b [.t 4] y1ka := sq y1fs y1gc
def yaw (v2 v3 : AV) (h : Heap) : OX :=
ob (evFa 5 v3) fun v6 =>
ob (evLd false 1 v6 h) fun v7 =>
ob (y2 .lss v7 (AV.int .i64 0)) fun v8 =>
gb v8 true (evFa 0 v3) fun v10 =>
gb v8 true (evLd false 1 v10 h) fun v11 =>
gb v8 true (y2 .neq v11 (AV.int .i64 25)) fun v12 =>
ob (y9 v8 v12 (AV.bool false)) fun v13 =>
gb v13 false (evFa 8 v3) fun v15 =>
gb v13 false (evLd false 1 v15 h) fun v16 =>
gb v13 false (yv 1 v16 h) fun v17 =>
gb v13 false (y2 .gtr v17 (AV.int .i64 21)) fun v18 =>
ob (y9 v13 (AV.bool true) v18) fun v19 =>
gb v19 false (evFa 1 v3) fun v21 =>
gb v19 false (evLd false 1 v21 h) fun v22 =>
gb v19 false (y2 .neq v22 (AV.int .i64 (-1))) fun v23 =>
gb v19 false (some v23) fun v24 =>
gb v24 true (evLd true 5 v2 h) fun v25 =>
gb v24 true (evFa 1 v3) fun v26 =>
gb v24 true (evLd false 1 v26 h) fun v27 =>
gh v24 true (y5 E (y7 E) 0 none true 48 [v25, v27] h) h fun v28 h3 =>
gb v24 true (y2 .eql v28 (AV.int .i64 0)) fun v29 =>
gb v19 false (y9 v24 v29 (AV.bool false)) fun v30 =>
ob (y9 v19 (AV.bool true) v30) fun v31 =>
cnd v31
 ((yc h3 (AV.bool false)))
 ((yah v2 v3 h3))
def y2g3 (s : St) : OX := yaw (s 2) (s 3) s.h
theorem y1pi : T0 y15r [.t 4] y2g3 := sq y1p5 fun _ => by kernel_rfl
def y6l (v0 v1 : AV) (h : Heap) : OX :=
oh (newC 0 (some 0) (cellsOf v0) h) fun v2 h4 =>
oh (newC 0 (some 1) (cellsOf v1) h4) fun v3 h5 =>
(yaw v2 v3 h5)
def y25d (s : St) : OX := y6l (s 0) (s 1) s.h
theorem y1d7 : T0 yqe [.t 4] y25d := sq y1pi fun _ => by kernel_rfl
@[simp] theorem y2ux : E.pure 68 = true := rfl
theorem y2mt (v0 v1 : AV) : (y7 E).p 68 [v0, v1] = y6l v0 v1 [⟨0, .dead⟩, ⟨0, .dead⟩] :=
  (yu (cf := y28m) (by kernel_rfl) rfl).trans ((y1d7 _).trans (by kernel_rfl))
def y2f6 (h : Heap) : OX :=
(yc h (.tup [(AV.int .i64 0), (AV.int .i64 0), (AV.int .i64 0)]))
def y3l (s : St) : OX := y2f6 s.h
theorem y25c : T0 y1do [.t 2, .t 3, .t 4] y3l := fun _ => by kernel_rfl
def y1bt (v5 v33 : AV) (h : Heap) : OX :=
cnd v33
 ((yc h (.tup [(AV.int .i64 1), (AV.int .i64 0), (AV.int .i64 1)])))
 (ob (y2 .eql v5 (AV.int .i64 117)) fun v39 =>
cnd v39
 ((yc h (.tup [(AV.int .i64 2), (AV.int .i64 0), (AV.int .i64 2)])))
 (ob (y2 .eql v5 (AV.int .i64 133)) fun v41 =>
cnd v41
 ((yc h (.tup [(AV.int .i64 1), (AV.int .i64 0), (AV.int .i64 2)])))
 (ob (y2 .eql v5 (AV.int .i64 136)) fun v43 =>
cnd v43
 ((yc h (.tup [(AV.int .i64 2), (AV.int .i64 0), (AV.int .i64 1)])))
 ((y2f6 h)))))
def y2pi (s : St) : OX := y1bt (s 5) (s 33) s.h
theorem y21u : T1 y1w6 y3l (y1 0 y3l xN) [.t 2, .t 3, .t 4] y2pi := fun _ => by kernel_rfl
def y2h2 (v5 : AV) (h : Heap) : OX :=
ob (y2 .eql v5 (AV.int .i64 116)) fun v34 =>
cnd v34
 ((y1bt v5 v34 h))
 (ob (y2 .eql v5 (AV.int .i64 145)) fun v35 =>
cnd v35
 ((y1bt v5 v35 h))
 (ob (y2 .eql v5 (AV.int .i64 146)) fun v36 =>
cnd v36
 ((y1bt v5 v36 h))
 (ob (y2 .eql v5 (AV.int .i64 147)) fun v37 =>
(y1bt v5 v37 h))))
def y2pe (s : St) : OX := y2h2 (s 5) s.h
theorem y286 : T1 y1im y3l (y1 0 y3l xN) [.t 2, .t 3, .t 4] y2pe := sq y21u fun _ => by kernel_rfl
def y2gk (v5 v31 : AV) (h : Heap) : OX :=
cnd v31
 ((yc h (.tup [(AV.int .i64 2), (AV.int .i64 2), (AV.int .i64 1)])))
 ((y2h2 v5 h))
def y2jz (s : St) : OX := y2gk (s 5) (s 31) s.h
theorem y23d : T1 y1ny y3l (y1 0 y3l xN) [.t 2, .t 3, .t 4] y2jz := fun s => (yw rfl (y286 s)).trans (by kernel_rfl)
def y2bi (v5 : AV) (h : Heap) : OX :=
ob (y2 .eql v5 (AV.int .i64 148)) fun v32 =>
(y2gk v5 v32 h)
def y2p7 (s : St) : OX := y2bi (s 5) s.h
theorem y22v : T1 y1vw y3l (y1 0 y3l xN) [.t 2, .t 3, .t 4] y2p7 := sq y23d fun _ => by kernel_rfl
def y1gi (v5 v27 : AV) (h : Heap) : OX :=
cnd v27
 ((yc h (.tup [(AV.int .i64 2), (AV.int .i64 1), (AV.int .i64 2)])))
 ((y2bi v5 h))
def y2mb (s : St) : OX := y1gi (s 5) (s 27) s.h
theorem y21c : T1 y1q1 y3l (y1 0 y3l xN) [.t 2, .t 3, .t 4] y2mb := fun s => (yw rfl (y22v s)).trans (by kernel_rfl)
def y2d4 (v5 : AV) (h : Heap) : OX :=
ob (y2 .eql v5 (AV.int .i64 121)) fun v28 =>
cnd v28
 ((y1gi v5 v28 h))
 (ob (y2 .eql v5 (AV.int .i64 123)) fun v29 =>
cnd v29
 ((y1gi v5 v29 h))
 (ob (y2 .eql v5 (AV.int .i64 125)) fun v30 =>
(y1gi v5 v30 h)))
def y2kc (s : St) : OX := y2d4 (s 5) s.h
theorem y26g : T1 y1mv y3l (y1 0 y3l xN) [.t 2, .t 3, .t 4] y2kc := sq y21c fun _ => by kernel_rfl
def yl7 (v5 v18 : AV) (h : Heap) : OX :=
cnd v18
 ((yc h (.tup [(AV.int .i64 2), (AV.int .i64 2), (AV.int .i64 2)])))
 ((y2d4 v5 h))
def y2k1 (s : St) : OX := yl7 (s 5) (s 18) s.h
theorem y260 : T1 y1pr y3l (y1 0 y3l xN) [.t 2, .t 3, .t 4] y2k1 := fun s => (yw rfl (y26g s)).trans (by kernel_rfl)
def y2j1 (v5 : AV) (h : Heap) : OX :=
ob (y2 .eql v5 (AV.int .i64 97)) fun v19 =>
cnd v19
 ((yl7 v5 v19 h))
 (ob (y2 .eql v5 (AV.int .i64 101)) fun v20 =>
cnd v20
 ((yl7 v5 v20 h))
 (ob (y2 .eql v5 (AV.int .i64 105)) fun v21 =>
cnd v21
 ((yl7 v5 v21 h))
 (ob (y2 .eql v5 (AV.int .i64 109)) fun v22 =>
cnd v22
 ((yl7 v5 v22 h))
 (ob (y2 .eql v5 (AV.int .i64 113)) fun v23 =>
cnd v23
 ((yl7 v5 v23 h))
 (ob (y2 .eql v5 (AV.int .i64 127)) fun v24 =>
cnd v24
 ((yl7 v5 v24 h))
 (ob (y2 .eql v5 (AV.int .i64 129)) fun v25 =>
cnd v25
 ((yl7 v5 v25 h))
 (ob (y2 .eql v5 (AV.int .i64 131)) fun v26 =>
(yl7 v5 v26 h))))))))
def y2n7 (s : St) : OX := y2j1 (s 5) s.h
theorem y1zp : T1 y1oy y3l (y1 0 y3l xN) [.t 2, .t 3, .t 4] y2n7 := sq y260 fun _ => by kernel_rfl
def y81 (v5 v6 : AV) (h : Heap) : OX :=
cnd v6
 ((yc h (.tup [(AV.int .i64 1), (AV.int .i64 1), (AV.int .i64 1)])))
 ((y2j1 v5 h))
def y2bk (s : St) : OX := y81 (s 5) (s 6) s.h
theorem y1gd : T1 y0h y3l (y1 0 y3l xN) [.t 2, .t 3, .t 4] y2bk := fun s => (yw rfl (y1zp s)).trans (by kernel_rfl)
def y1xb (v5 : AV) (h : Heap) : OX :=
ob (y2 .eql v5 (AV.int .i64 96)) fun v7 =>
cnd v7
 ((y81 v5 v7 h))
 (ob (y2 .eql v5 (AV.int .i64 100)) fun v8 =>
cnd v8
 ((y81 v5 v8 h))
 (ob (y2 .eql v5 (AV.int .i64 104)) fun v9 =>
cnd v9
 ((y81 v5 v9 h))
 (ob (y2 .eql v5 (AV.int .i64 108)) fun v10 =>
cnd v10
 ((y81 v5 v10 h))
 (ob (y2 .eql v5 (AV.int .i64 112)) fun v11 =>
cnd v11
 ((y81 v5 v11 h))
 (ob (y2 .eql v5 (AV.int .i64 120)) fun v12 =>
cnd v12
 ((y81 v5 v12 h))
 (ob (y2 .eql v5 (AV.int .i64 122)) fun v13 =>
cnd v13
 ((y81 v5 v13 h))
 (ob (y2 .eql v5 (AV.int .i64 124)) fun v14 =>
cnd v14
 ((y81 v5 v14 h))
 (ob (y2 .eql v5 (AV.int .i64 126)) fun v15 =>
cnd v15
 ((y81 v5 v15 h))
 (ob (y2 .eql v5 (AV.int .i64 128)) fun v16 =>
cnd v16
 ((y81 v5 v16 h))
 (ob (y2 .eql v5 (AV.int .i64 130)) fun v17 =>
(y81 v5 v17 h)))))))))))
def y1jf (s : St) : OX := y1xb (s 5) s.h
theorem y1y8 : T1 y111 y3l (y1 0 y3l xN) [.t 2, .t 3, .t 4] y1jf := sq y1gd fun _ => by kernel_rfl
theorem y1fe : T1 y131 y3l xN [.t 2, .t 3, .t 4] y1jf := fun s => yi.trans (y1y8 s)
def y1xa (v0 : AV) (h : Heap) : OX :=
(y1xb v0 h)
def y1e5 (s : St) : OX := y1xa (s 0) s.h
theorem y1wu : T1 y148 y3l xN [.t 2, .t 3, .t 4] y1e5 := sq y1fe fun _ => by kernel_rfl
theorem y1wf : T0 y16j [.t 2, .t 3, .t 4] y1e5 := sq y25c y1wu
def y1j8 (v0 : AV) (h : Heap) : OX :=
(y1xa v0 h)
def y2ho (s : St) : OX := y1j8 (s 0) s.h
theorem y1sr : T0 y139 [.t 2, .t 3, .t 4] y2ho := sq y1wf fun _ => by kernel_rfl
@[simp] theorem y2tf : E.pure 50 = true := rfl
theorem y2rs (v0 : AV) : (y7 E).p 50 [v0] = y1j8 v0 [] :=
  (yu (cf := y2nc) (by kernel_rfl) rfl).trans ((y1sr _).trans (by kernel_rfl))
def q8_1 (v0 : AV) (h : Heap) : OX :=
ob (y2 .neq v0 (AV.str [])) fun v4 =>
gb v4 true (some v0) fun v6 =>
gh v4 true (y5 E (y7 E) 0 none true 44 [v6] h) h fun v7 h1 =>
gb v4 true (some v0) fun v8 =>
gb v4 true (yv 0 v8 h1) fun v9 =>
gb v4 true (y2 .eql v7 v9) fun v10 =>
ob (y9 v4 v10 (AV.bool false)) fun v11 =>
(yc h1 v11)
def y2uu (s : St) : OX := q8_1 (s 0) s.h
theorem y2ed : T0 y29c [.t 2] y2uu := fun _ => by kernel_rfl
@[simp] theorem y2sf : E.pure 37 = true := rfl
theorem x_q8 (v0 : AV) : (y7 E).p 37 [v0] = q8_1 v0 [] :=
  (yu (cf := c_q8) (by kernel_rfl) rfl).trans ((y2ed _).trans (by kernel_rfl))
def yx6 (v2 : AV) (h : Heap) : OX :=
ob (y11 [(.int .i64 0), (.int .i64 0), (.int .i64 0), (.int .i64 0)] []) fun v73 =>
oh (evSt 4 v2 v73 h) fun _ h1 =>
(ob (evLd true 4 v2 h1) fun r0 =>
  yc h1 (.tup [r0, (AV.bool false)]))
def y29 (s : St) : OX := yx6 (s 2) s.h
theorem y28c : T0 y1s0 [.cell 2 true 4, .t 3] y29 := fun _ => by kernel_rfl
def yqp (v1 v2 v4 : AV) (h : Heap) : OX :=
ob (y11 [(.int .i64 0), (.int .i64 0), (.int .i64 0), (.int .i64 0)] [(0, 1, (AV.int .i64 (-1))), (1, 1, (AV.int .i64 3)), (2, 1, v4), (3, 1, (AV.int .i64 (-1)))]) fun v16 =>
ob (evFa 5 v1) fun v17 =>
ob (evLd false 1 v17 h) fun v18 =>
ob (y2 .eql v18 (AV.int .i64 0)) fun v19 =>
ofp (fgd v19 false (some ([], []))) fun f6 =>
gb v19 false (evFa 5 v1) fun v21 =>
ofp (fgd v19 false (some (ids1 v21, []))) fun f7 =>
gb v19 false (evLd false 1 v21 h) fun v22 =>
ofp (fgd v19 false (some ([], []))) fun f8 =>
gb v19 false (y2 .eql v22 (AV.int .i64 1)) fun v23 =>
ob (y9 v19 (AV.bool true) v23) fun v24 =>
oh (evSt 4 v2 v16 h) fun _ h2 =>
okK (yd [([], []), ([], []), ([], []), (ids1 v17, []), ([], []), ([], []), f6, f7, f8, ([], []), ([], ids1 v2), ([], [])] [(7, 10)]) <|
(ob (evLd true 4 v2 h2) fun r0 =>
  yc h2 (.tup [r0, v24]))
def y2mf (s : St) : OX := yqp (s 1) (s 2) (s 4) s.h
theorem y28h : T1 y1is y29 (y1 0 y29 xN) [.cell 2 true 4, .t 3] y2mf := fun _ => by kernel_rfl
def ywf (v1 v2 v4 : AV) (h : Heap) : OX :=
ob (evFa 3 v1) fun v12 =>
ob (evLd false 1 v12 h) fun v13 =>
ob (y2 .neq v13 (AV.int .i64 (-1))) fun v14 =>
cnd v14
 ((yqp v1 v2 (AV.int .i64 3) h))
 ((yqp v1 v2 v4 h))
def y2n0 (s : St) : OX := ywf (s 1) (s 2) (s 4) s.h
theorem y22w : T1 y1wz y29 (y1 0 y29 xN) [.cell 2 true 4, .t 3] y2n0 := sq y28h fun _ => by kernel_rfl
def ywc (v1 v2 : AV) (h : Heap) : OX :=
(ywf v1 v2 (AV.int .i64 (-1)) h)
def y2ny (s : St) : OX := ywc (s 1) (s 2) s.h
theorem y22r : T1 y1we y29 (y1 0 y29 xN) [.cell 2 true 4, .t 3] y2ny := sq y22w fun _ => by kernel_rfl
def ysp (v2 v5 : AV) (h : Heap) : OX :=
ob (y11 [(.int .i64 0), (.int .i64 0), (.int .i64 0), (.int .i64 0)] [(0, 1, (AV.int .i64 (-1))), (1, 1, v5), (2, 1, (AV.int .i64 (-1))), (3, 1, (AV.int .i64 (-1)))]) fun v31 =>
oh (evSt 4 v2 v31 h) fun _ h3 =>
(ob (evLd true 4 v2 h3) fun r0 =>
  yc h3 (.tup [r0, (AV.bool true)]))
def y2n1 (s : St) : OX := ysp (s 2) (s 5) s.h
theorem y23g : T1 y1ic y29 (y1 0 y29 xN) [.cell 2 true 4, .t 3] y2n1 := fun _ => by kernel_rfl
def yw4 (v1 v2 v5 : AV) (h : Heap) : OX :=
ob (evFa 2 v1) fun v27 =>
ob (evLd false 1 v27 h) fun v28 =>
ob (y2 .neq v28 (AV.int .i64 (-1))) fun v29 =>
cnd v29
 ((ysp v2 (AV.int .i64 0) h))
 ((ysp v2 v5 h))
def y2pn (s : St) : OX := yw4 (s 1) (s 2) (s 5) s.h
theorem y288 : T1 y1x9 y29 (y1 0 y29 xN) [.cell 2 true 4, .t 3] y2pn := sq y23g fun _ => by kernel_rfl
def ywh (v1 v2 : AV) (h : Heap) : OX :=
(yw4 v1 v2 (AV.int .i64 (-1)) h)
def y2oq (s : St) : OX := ywh (s 1) (s 2) s.h
theorem y275 : T1 y1i7 y29 (y1 0 y29 xN) [.cell 2 true 4, .t 3] y2oq := sq y288 fun _ => by kernel_rfl
def ysq (v1 v2 v6 : AV) (h : Heap) : OX :=
ob (evFa 0 v1) fun v40 =>
ob (evLd false 1 v40 h) fun v41 =>
ob (y2 .eql v41 (AV.int .i64 23)) fun v42 =>
gb v42 false (evFa 0 v1) fun v44 =>
gb v42 false (evLd false 1 v44 h) fun v45 =>
gb v42 false (y2 .eql v45 (AV.int .i64 26)) fun v46 =>
ob (y9 v42 (AV.bool true) v46) fun v47 =>
gb v47 false (evFa 8 v1) fun v49 =>
gb v47 false (evLd false 1 v49 h) fun v50 =>
gb v47 false (yv 1 v50 h) fun v51 =>
gb v47 false (y2 .gtr v51 (AV.int .i64 0)) fun v52 =>
ob (y9 v47 (AV.bool true) v52) fun v53 =>
ob (y11 [(.int .i64 0), (.int .i64 0), (.int .i64 0), (.int .i64 0)] [(0, 1, v6), (1, 1, (AV.int .i64 (-1))), (2, 1, (AV.int .i64 (-1))), (3, 1, (AV.int .i64 (-1)))]) fun v55 =>
ofp (fgd v53 true (some ([], []))) fun f4 =>
gb v53 true (evFa 5 v1) fun v58 =>
ofp (fgd v53 true (some (ids1 v58, []))) fun f5 =>
gb v53 true (evLd false 1 v58 h) fun v59 =>
ofp (fgd v53 true (some ([], []))) fun f6 =>
gb v53 true (y2 .geq v59 (AV.int .i64 0)) fun v60 =>
ofp (fgd v53 true (some ([], []))) fun f7 =>
gb v53 true (some v60) fun v61 =>
ofp (fgd v61 false (some ([], []))) fun f8 =>
gb v61 false (evFa 0 v1) fun v62 =>
ofp (fgd v61 false (some (ids1 v62, []))) fun f9 =>
gb v61 false (evLd false 1 v62 h) fun v63 =>
ofp (fgd v61 false (some ([], []))) fun f10 =>
gb v61 false (y2 .eql v63 (AV.int .i64 25)) fun v64 =>
ofp (fgd v53 true (some ([], []))) fun f11 =>
gb v53 true (y9 v61 (AV.bool true) v64) fun v65 =>
ob (y9 v53 v65 (AV.bool false)) fun v66 =>
ofp (fgd v66 true (some ([], []))) fun f14 =>
gb v66 true (evFa 8 v1) fun v68 =>
ofp (fgd v66 true (some (ids1 v68, []))) fun f15 =>
gb v66 true (evLd false 1 v68 h) fun v69 =>
ofp (fgd v66 true (some (ids1 v69, []))) fun f16 =>
gb v66 true (yv 1 v69 h) fun v70 =>
ofp (fgd v66 true (some ([], []))) fun f17 =>
gb v66 true (y2 .leq v70 (AV.int .i64 21)) fun v71 =>
ob (y9 v66 v71 (AV.bool false)) fun v72 =>
oh (evSt 4 v2 v55 h) fun _ h4 =>
okK (yd [([], []), ([], []), ([], []), ([], []), f4, f5, f6, f7, f8, f9, f10, f11, ([], []), ([], []), f14, f15, f16, f17, ([], []), ([], ids1 v2), ([], [])] [(15, 19), (16, 19)]) <|
(ob (evLd true 4 v2 h4) fun r0 =>
  yc h4 (.tup [r0, v72]))
def y2lg (s : St) : OX := ysq (s 1) (s 2) (s 6) s.h
theorem y23x : T1 y1z0 y29 (y1 0 y29 xN) [.cell 2 true 4, .t 3] y2lg := fun _ => by kernel_rfl
def yw2 (v1 v2 v6 : AV) (h : Heap) : OX :=
ob (evFa 1 v1) fun v37 =>
ob (evLd false 1 v37 h) fun v38 =>
ob (y2 .neq v38 (AV.int .i64 (-1))) fun v39 =>
cnd v39
 ((ysq v1 v2 (AV.int .i64 0) h))
 ((ysq v1 v2 v6 h))
def y2k7 (s : St) : OX := yw2 (s 1) (s 2) (s 6) s.h
theorem y22b : T1 y1lt y29 (y1 0 y29 xN) [.cell 2 true 4, .t 3] y2k7 := sq y23x fun _ => by kernel_rfl
def yjp (v1 v2 : AV) (h : Heap) : OX :=
(yw2 v1 v2 (AV.int .i64 (-1)) h)
def y2bt (s : St) : OX := yjp (s 1) (s 2) s.h
theorem y1pg : T1 yy5 y29 (y1 0 y29 xN) [.cell 2 true 4, .t 3] y2bt := sq y22b fun _ => by kernel_rfl
def yco (v1 v2 v32 : AV) (h : Heap) : OX :=
cnd v32
 ((yjp v1 v2 h))
 ((yx6 v2 h))
def y2ev (s : St) : OX := yco (s 1) (s 2) (s 32) s.h
theorem y1hk : T1 y15h y29 (y1 0 y29 xN) [.cell 2 true 4, .t 3] y2ev := fun s => (yw (y1pg s) rfl).trans (by kernel_rfl)
def yin (v1 v2 v9 : AV) (h : Heap) : OX :=
ob (y2 .eql v9 (AV.int .i64 23)) fun v33 =>
cnd v33
 ((yco v1 v2 v33 h))
 (ob (y2 .eql v9 (AV.int .i64 24)) fun v34 =>
cnd v34
 ((yco v1 v2 v34 h))
 (ob (y2 .eql v9 (AV.int .i64 25)) fun v35 =>
cnd v35
 ((yco v1 v2 v35 h))
 (ob (y2 .eql v9 (AV.int .i64 26)) fun v36 =>
(yco v1 v2 v36 h))))
def y2hw (s : St) : OX := yin (s 1) (s 2) (s 9) s.h
theorem y1gy : T1 y11m y29 (y1 0 y29 xN) [.cell 2 true 4, .t 3] y2hw := sq y1hk fun _ => by kernel_rfl
def yio (v1 v2 v9 v25 : AV) (h : Heap) : OX :=
cnd v25
 ((ywh v1 v2 h))
 ((yin v1 v2 v9 h))
def y2i5 (s : St) : OX := yio (s 1) (s 2) (s 9) (s 25) s.h
theorem y1v3 : T1 y18z y29 (y1 0 y29 xN) [.cell 2 true 4, .t 3] y2i5 := fun s => (yw (y275 s) (y1gy s)).trans (by kernel_rfl)
def yl2 (v1 v2 v9 : AV) (h : Heap) : OX :=
ob (y2 .eql v9 (AV.int .i64 30)) fun v26 =>
(yio v1 v2 v9 v26 h)
def y2ar (s : St) : OX := yl2 (s 1) (s 2) (s 9) s.h
theorem y1ho : T1 y18v y29 (y1 0 y29 xN) [.cell 2 true 4, .t 3] y2ar := sq y1v3 fun _ => by kernel_rfl
def yl3 (v1 v2 v9 v10 : AV) (h : Heap) : OX :=
cnd v10
 ((ywc v1 v2 h))
 ((yl2 v1 v2 v9 h))
def y2b4 (s : St) : OX := yl3 (s 1) (s 2) (s 9) (s 10) s.h
theorem y1ef : T1 y17e y29 (y1 0 y29 xN) [.cell 2 true 4, .t 3] y2b4 := fun s => (yw (y22r s) (y1ho s)).trans (by kernel_rfl)
def yl0 (v1 v2 v9 : AV) (h : Heap) : OX :=
ob (y2 .eql v9 (AV.int .i64 29)) fun v11 =>
(yl3 v1 v2 v9 v11 h)
def y1fm (s : St) : OX := yl0 (s 1) (s 2) (s 9) s.h
theorem y1gk : T1 y14o y29 (y1 0 y29 xN) [.cell 2 true 4, .t 3] y1fm := sq y1ef fun _ => by kernel_rfl
theorem y1ob : T1 y170 y29 xN [.cell 2 true 4, .t 3] y1fm := fun s => yi.trans (y1gk s)
def yjs (v1 v2 : AV) (h : Heap) : OX :=
ob (evFa 0 v1) fun v8 =>
ob (evLd false 1 v8 h) fun v9 =>
(yl0 v1 v2 v9 h)
def y1sn (s : St) : OX := yjs (s 1) (s 2) s.h
theorem y1um : T1 y13l y29 xN [.cell 2 true 4, .t 3] y1sn := sq y1ob fun _ => by kernel_rfl
theorem y1vm : T0 y16t [.cell 2 true 4, .t 3] y1sn := sq y28c y1um
def yij (v0 : AV) (h : Heap) : OX :=
oh (newC 0 (some 0) (cellsOf v0) h) fun v1 h5 =>
oh (newC 0 (some 1) [(.int .i64 0), (.int .i64 0), (.int .i64 0), (.int .i64 0)] h5) fun v2 h6 =>
(yjs v1 v2 h6)
def y2gs (s : St) : OX := yij (s 0) s.h
theorem y1lu : T0 yyw [.cell 2 true 4, .t 3] y2gs := sq y1vm fun _ => by kernel_rfl
@[simp] theorem y2su : E.pure 51 = true := rfl
theorem y25i (v0 : AV) : (y7 E).p 51 [v0] = yij v0 [⟨0, .dead⟩, ⟨0, .dead⟩] :=
  (yu (cf := y2pl) (by kernel_rfl) rfl).trans ((y1lu _).trans (by kernel_rfl))
def yf9 (h : Heap) : OX :=
(yc h (AV.int .i32 0))
def y4n (s : St) : OX := yf9 s.h
theorem y248 : T0 y1gx [.t 6] y4n := fun _ => by kernel_rfl
def yd2 (v0 v1 v2 v7 v23 : AV) (h : Heap) : OX :=
cnd v23
 (ob (y2 .eql v0 (AV.int .i64 112)) fun v27 =>
ob (y3x .i64 v1) fun v29 =>
ob (y3x .i64 v2) fun v31 =>
oh (y5 E (y7 E) 0 none true 132 [v27, v29, v31] h) fun v32 h1 =>
ob (y3x .i32 v32) fun v33 =>
(yc h1 v33))
 (ob (y2 .eql v7 (AV.int .i64 120)) fun v35 =>
cnd v35
 (ob (y3x .u32 v2) fun v38 =>
ob (y2 .and v38 (AV.int .u32 31)) fun v39 =>
ob (y2 .shl v1 v39) fun v40 =>
(yc h v40))
 (ob (y2 .eql v7 (AV.int .i64 122)) fun v42 =>
cnd v42
 (ob (y3x .u32 v2) fun v45 =>
ob (y2 .and v45 (AV.int .u32 31)) fun v46 =>
ob (y2 .shr v1 v46) fun v47 =>
(yc h v47))
 (ob (y2 .eql v7 (AV.int .i64 124)) fun v49 =>
cnd v49
 (ob (y3x .u32 v1) fun v51 =>
ob (y3x .u32 v2) fun v53 =>
ob (y2 .and v53 (AV.int .u32 31)) fun v54 =>
ob (y2 .shr v51 v54) fun v55 =>
ob (y3x .i32 v55) fun v56 =>
(yc h v56))
 (ob (y2 .eql v7 (AV.int .i64 126)) fun v58 =>
cnd v58
 (ob (y2 .and v1 v2) fun v61 =>
(yc h v61))
 (ob (y2 .eql v7 (AV.int .i64 128)) fun v63 =>
cnd v63
 (ob (y2 .or v1 v2) fun v66 =>
(yc h v66))
 (ob (y2 .eql v7 (AV.int .i64 130)) fun v68 =>
cnd v68
 (ob (y2 .xor v1 v2) fun v71 =>
(yc h v71))
 ((yf9 h))))))))
def y2mj (s : St) : OX := yd2 (s 0) (s 1) (s 2) (s 7) (s 23) s.h
theorem y20u : T1 y1tp y4n (y1 0 y4n xN) [.t 6] y2mj := fun _ => by kernel_rfl
def yff (v0 v1 v2 v7 : AV) (h : Heap) : OX :=
ob (y2 .eql v7 (AV.int .i64 108)) fun v24 =>
cnd v24
 ((yd2 v0 v1 v2 v7 v24 h))
 (ob (y2 .eql v7 (AV.int .i64 112)) fun v25 =>
(yd2 v0 v1 v2 v7 v25 h))
def y2ow (s : St) : OX := yff (s 0) (s 1) (s 2) (s 7) s.h
theorem y1zi : T1 y1t8 y4n (y1 0 y4n xN) [.t 6] y2ow := sq y20u fun _ => by kernel_rfl
def yec (v0 v1 v2 v7 v18 : AV) (h : Heap) : OX :=
cnd v18
 (ob (y2 .mul v1 v2) fun v22 =>
(yc h v22))
 ((yff v0 v1 v2 v7 h))
def y2kn (s : St) : OX := yec (s 0) (s 1) (s 2) (s 7) (s 18) s.h
theorem y27x : T1 y1fw y4n (y1 0 y4n xN) [.t 6] y2kn := fun s => (yw rfl (y1zi s)).trans (by kernel_rfl)
def ye1 (v0 v1 v2 v7 : AV) (h : Heap) : OX :=
ob (y2 .eql v7 (AV.int .i64 104)) fun v19 =>
(yec v0 v1 v2 v7 v19 h)
def y2lx (s : St) : OX := ye1 (s 0) (s 1) (s 2) (s 7) s.h
theorem y21t : T1 y1pe y4n (y1 0 y4n xN) [.t 6] y2lx := sq y27x fun _ => by kernel_rfl
def yey (v0 v1 v2 v7 v13 : AV) (h : Heap) : OX :=
cnd v13
 (ob (y2 .sub v1 v2) fun v17 =>
(yc h v17))
 ((ye1 v0 v1 v2 v7 h))
def y2ls (s : St) : OX := yey (s 0) (s 1) (s 2) (s 7) (s 13) s.h
theorem y25v : T1 y1o2 y4n (y1 0 y4n xN) [.t 6] y2ls := fun s => (yw rfl (y21t s)).trans (by kernel_rfl)
def yf5 (v0 v1 v2 v7 : AV) (h : Heap) : OX :=
ob (y2 .eql v7 (AV.int .i64 100)) fun v14 =>
(yey v0 v1 v2 v7 v14 h)
def y2kj (s : St) : OX := yf5 (s 0) (s 1) (s 2) (s 7) s.h
theorem y24y : T1 y1yt y4n (y1 0 y4n xN) [.t 6] y2kj := sq y25v fun _ => by kernel_rfl
def yf8 (v0 v1 v2 v7 v8 : AV) (h : Heap) : OX :=
cnd v8
 (ob (y2 .add v1 v2) fun v12 =>
(yc h v12))
 ((yf5 v0 v1 v2 v7 h))
def y2ov (s : St) : OX := yf8 (s 0) (s 1) (s 2) (s 7) (s 8) s.h
theorem y26e : T1 y1n3 y4n (y1 0 y4n xN) [.t 6] y2ov := fun s => (yw rfl (y24y s)).trans (by kernel_rfl)
def yej (v0 v1 v2 v7 : AV) (h : Heap) : OX :=
ob (y2 .eql v7 (AV.int .i64 96)) fun v9 =>
(yf8 v0 v1 v2 v7 v9 h)
def y2a2 (s : St) : OX := yej (s 0) (s 1) (s 2) (s 7) s.h
theorem y208 : T1 y1mf y4n (y1 0 y4n xN) [.t 6] y2a2 := sq y26e fun _ => by kernel_rfl
theorem y1rr : T1 y15o y4n xN [.t 6] y2a2 := fun s => yi.trans (y208 s)
def y74 (v0 v1 v2 : AV) (h : Heap) : OX :=
(yej v0 v1 v2 v0 h)
def y1ea (s : St) : OX := y74 (s 0) (s 1) (s 2) s.h
theorem y1jo : T1 y16p y4n xN [.t 6] y1ea := sq y1rr fun _ => by kernel_rfl
theorem y1mj : T0 y14s [.t 6] y1ea := sq y248 y1jo
def y6y (v0 v1 v2 : AV) (h : Heap) : OX :=
(y74 v0 v1 v2 h)
def y2dc (s : St) : OX := y6y (s 0) (s 1) (s 2) s.h
theorem y1un : T0 y17t [.t 6] y2dc := sq y1mj fun _ => by kernel_rfl
@[simp] theorem y2qr : E.pure 130 = true := rfl
theorem y2sb (v0 v1 v2 : AV) : (y7 E).p 130 [v0, v1, v2] = y6y v0 v1 v2 [] :=
  (yu (cf := y2os) (by kernel_rfl) rfl).trans ((y1un _).trans (by kernel_rfl))
def yds (h : Heap) : OX :=
(yc h (AV.int .i64 0))
def y4s (s : St) : OX := yds s.h
theorem y20q : T0 y1nm [.t 6] y4s := fun _ => by kernel_rfl
def yd1 (v0 v1 v2 v7 v23 : AV) (h : Heap) : OX :=
cnd v23
 (ob (y2 .eql v0 (AV.int .i64 113)) fun v27 =>
oh (y5 E (y7 E) 0 none true 132 [v27, v1, v2] h) fun v30 h1 =>
(yc h1 v30))
 (ob (y2 .eql v7 (AV.int .i64 121)) fun v32 =>
cnd v32
 (ob (y3x .u64 v2) fun v35 =>
ob (y2 .and v35 (AV.int .u64 63)) fun v36 =>
ob (y2 .shl v1 v36) fun v37 =>
(yc h v37))
 (ob (y2 .eql v7 (AV.int .i64 123)) fun v39 =>
cnd v39
 (ob (y3x .u64 v2) fun v42 =>
ob (y2 .and v42 (AV.int .u64 63)) fun v43 =>
ob (y2 .shr v1 v43) fun v44 =>
(yc h v44))
 (ob (y2 .eql v7 (AV.int .i64 125)) fun v46 =>
cnd v46
 (ob (y3x .u64 v1) fun v48 =>
ob (y3x .u64 v2) fun v50 =>
ob (y2 .and v50 (AV.int .u64 63)) fun v51 =>
ob (y2 .shr v48 v51) fun v52 =>
ob (y3x .i64 v52) fun v53 =>
(yc h v53))
 (ob (y2 .eql v7 (AV.int .i64 127)) fun v55 =>
cnd v55
 (ob (y2 .and v1 v2) fun v58 =>
(yc h v58))
 (ob (y2 .eql v7 (AV.int .i64 129)) fun v60 =>
cnd v60
 (ob (y2 .or v1 v2) fun v63 =>
(yc h v63))
 (ob (y2 .eql v7 (AV.int .i64 131)) fun v65 =>
cnd v65
 (ob (y2 .xor v1 v2) fun v68 =>
(yc h v68))
 ((yds h))))))))
def y2lu (s : St) : OX := yd1 (s 0) (s 1) (s 2) (s 7) (s 23) s.h
theorem y281 : T1 y1hc y4s (y1 0 y4s xN) [.t 6] y2lu := fun _ => by kernel_rfl
def yew (v0 v1 v2 v7 : AV) (h : Heap) : OX :=
ob (y2 .eql v7 (AV.int .i64 109)) fun v24 =>
cnd v24
 ((yd1 v0 v1 v2 v7 v24 h))
 (ob (y2 .eql v7 (AV.int .i64 113)) fun v25 =>
(yd1 v0 v1 v2 v7 v25 h))
def y2qh (s : St) : OX := yew (s 0) (s 1) (s 2) (s 7) s.h
theorem y27d : T1 y1yy y4s (y1 0 y4s xN) [.t 6] y2qh := sq y281 fun _ => by kernel_rfl
def yea (v0 v1 v2 v7 v18 : AV) (h : Heap) : OX :=
cnd v18
 (ob (y2 .mul v1 v2) fun v22 =>
(yc h v22))
 ((yew v0 v1 v2 v7 h))
def y2ko (s : St) : OX := yea (s 0) (s 1) (s 2) (s 7) (s 18) s.h
theorem y25n : T1 y1lj y4s (y1 0 y4s xN) [.t 6] y2ko := fun s => (yw rfl (y27d s)).trans (by kernel_rfl)
def yet (v0 v1 v2 v7 : AV) (h : Heap) : OX :=
ob (y2 .eql v7 (AV.int .i64 105)) fun v19 =>
(yea v0 v1 v2 v7 v19 h)
def y2lr (s : St) : OX := yet (s 0) (s 1) (s 2) (s 7) s.h
theorem y266 : T1 y1w7 y4s (y1 0 y4s xN) [.t 6] y2lr := sq y25n fun _ => by kernel_rfl
def ydu (v0 v1 v2 v7 v13 : AV) (h : Heap) : OX :=
cnd v13
 (ob (y2 .sub v1 v2) fun v17 =>
(yc h v17))
 ((yet v0 v1 v2 v7 h))
def y2oc (s : St) : OX := ydu (s 0) (s 1) (s 2) (s 7) (s 13) s.h
theorem y1zv : T1 y1mw y4s (y1 0 y4s xN) [.t 6] y2oc := fun s => (yw rfl (y266 s)).trans (by kernel_rfl)
def yex (v0 v1 v2 v7 : AV) (h : Heap) : OX :=
ob (y2 .eql v7 (AV.int .i64 101)) fun v14 =>
(ydu v0 v1 v2 v7 v14 h)
def y2q9 (s : St) : OX := yex (s 0) (s 1) (s 2) (s 7) s.h
theorem y23e : T1 y1ig y4s (y1 0 y4s xN) [.t 6] y2q9 := sq y1zv fun _ => by kernel_rfl
def yfb (v0 v1 v2 v7 v8 : AV) (h : Heap) : OX :=
cnd v8
 (ob (y2 .add v1 v2) fun v12 =>
(yc h v12))
 ((yex v0 v1 v2 v7 h))
def y2qa (s : St) : OX := yfb (s 0) (s 1) (s 2) (s 7) (s 8) s.h
theorem y22i : T1 y1o5 y4s (y1 0 y4s xN) [.t 6] y2qa := fun s => (yw rfl (y23e s)).trans (by kernel_rfl)
def ydt (v0 v1 v2 v7 : AV) (h : Heap) : OX :=
ob (y2 .eql v7 (AV.int .i64 97)) fun v9 =>
(yfb v0 v1 v2 v7 v9 h)
def y2ai (s : St) : OX := ydt (s 0) (s 1) (s 2) (s 7) s.h
theorem y206 : T1 y1lq y4s (y1 0 y4s xN) [.t 6] y2ai := sq y22i fun _ => by kernel_rfl
theorem y1yg : T1 y12q y4s xN [.t 6] y2ai := fun s => yi.trans (y206 s)
def y79 (v0 v1 v2 : AV) (h : Heap) : OX :=
(ydt v0 v1 v2 v0 h)
def y1rg (s : St) : OX := y79 (s 0) (s 1) (s 2) s.h
theorem y1qj : T1 y13e y4s xN [.t 6] y1rg := sq y1yg fun _ => by kernel_rfl
theorem y1rj : T0 y12h [.t 6] y1rg := sq y20q y1qj
def y7d (v0 v1 v2 : AV) (h : Heap) : OX :=
(y79 v0 v1 v2 h)
def y2cj (s : St) : OX := y7d (s 0) (s 1) (s 2) s.h
theorem y1ih : T0 y17d [.t 6] y2cj := sq y1rj fun _ => by kernel_rfl
@[simp] theorem y2qt : E.pure 131 = true := rfl
theorem y2rz (v0 v1 v2 : AV) : (y7 E).p 131 [v0, v1, v2] = y7d v0 v1 v2 [] :=
  (yu (cf := y2pv) (by kernel_rfl) rfl).trans ((y1ih _).trans (by kernel_rfl))
def yke (v0 : AV) (h : Heap) : OX :=
ob (y2 .neq v0 (AV.str [])) fun v25 =>
gb v25 true (some v0) fun v27 =>
gb v25 true (yv 0 v27 h) fun v28 =>
gb v25 true (y2 .leq v28 (AV.int .i64 60)) fun v29 =>
ob (y9 v25 v29 (AV.bool false)) fun v30 =>
(yc h v30)
def y7q (s : St) : OX := yke (s 0) s.h
theorem y1dx : T0 y124 [.t 4] y7q := fun _ => by kernel_rfl
def yfs (v0 v5 v6 : AV) (h : Heap) : OX :=
  W E 0 yj5 ⟨[(0, v0), (5, v5), (6, v6)], h⟩ y7q (y1 0 y7q xN) (finP [.t 4])
def yc1 (s : St) : OX := yfs (s 0) (s 5) (s 6) s.h
theorem ynx : T1 yj5 y7q (y1 0 y7q xN) [.t 4] yc1 := fun s => yf.trans (by kernel_rfl)
def y16i (v0 v5 v6 : AV) (h : Heap) : OX :=
ob (y2 .add v6 (AV.int .i64 1)) fun v15 =>
(yfs v0 v5 v15 h)
def y2gy (s : St) : OX := y16i (s 0) (s 5) (s 6) s.h
theorem y1qi : T1 y12t yc1 (y1 0 y7q xN) [.t 4] y2gy := fun _ => by kernel_rfl
def ys1 (v0 v5 v6 : AV) (h : Heap) : OX :=
ob (y2 .add v6 (AV.int .i64 1)) fun v20 =>
ob (yf4 v0 (some v6) (some v20)) fun v21 =>
oh (y5 E (y7 E) 0 none true 53 [v5, v21] h) fun v22 h1 =>
ob (evUn .not v22) fun v23 =>
cnd v23
 ((yc h1 (AV.bool false)))
 ((y16i v0 v5 v6 h1))
def y2bh (s : St) : OX := ys1 (s 0) (s 5) (s 6) s.h
theorem y1kg : T1 y173 yc1 (y1 0 y7q xN) [.t 4] y2bh := sq y1qi fun _ => by kernel_rfl
def ys7 (v0 v5 v6 : AV) (h : Heap) : OX :=
ob (yv 0 v0 h) fun v12 =>
ob (y2 .lss v6 v12) fun v13 =>
cnd v13
 ((ys1 v0 v5 v6 h))
 ((yke v0 h))
def y2ei (s : St) : OX := ys7 (s 0) (s 5) (s 6) s.h
theorem y1l7 : T1 y16b yc1 (y1 0 y7q xN) [.t 4] y2ei := sq y1kg fun _ => by kernel_rfl
theorem ymn (v0 v5 v6 : AV) (h : Heap) : yfs v0 v5 v6 h = (ys7 v0 v5 v6 h) :=
  y22.trans ((y15 _ _ _ (n' := yc1) (fun s => ynx s)).trans ((y1l7 _).trans (by kernel_rfl)))
theorem y1pt : T1 y185 y7q xN [.t 4] yc1 := fun s => yi.trans (ynx s)
def y18h (v0 v5 : AV) (h : Heap) : OX :=
(yfs v0 v5 (AV.int .i64 0) h)
def y1qu (s : St) : OX := y18h (s 0) (s 5) s.h
theorem y1p4 : T1 y0w y7q xN [.t 4] y1qu := sq y1pt fun _ => by kernel_rfl
theorem y1ok : T0 y0q [.t 4] y1qu := sq y1dx y1p4
def y1kw (v0 v1 v5 : AV) (h : Heap) : OX :=
cnd v1
 (ob (y2 .add v5 (AV.str [60, 62])) fun v9 =>
(y18h v0 v9 h))
 ((y18h v0 v5 h))
def y2bn (s : St) : OX := y1kw (s 0) (s 1) (s 5) s.h
theorem y1m8 : T0 y17o [.t 4] y2bn := sq y1ok fun _ => by kernel_rfl
def yw0 (v0 v1 : AV) (h : Heap) : OX :=
(y1kw v0 v1 (AV.str [97, 98, 99, 100, 101, 102, 103, 104, 105, 106, 107, 108, 109, 110, 111, 112, 113, 114, 115, 116, 117, 118, 119, 120, 121, 122, 65, 66, 67, 68, 69, 70, 71, 72, 73, 74, 75, 76, 77, 78, 79, 80, 81, 82, 83, 84, 85, 86, 87, 88, 89, 90, 48, 49, 50, 51, 52, 53, 54, 55, 56, 57, 95, 36, 47]) h)
def y26n (s : St) : OX := yw0 (s 0) (s 1) s.h
theorem y1bo : T0 yr5 [.t 4] y26n := sq y1m8 fun _ => by kernel_rfl
def yoz (v0 v1 : AV) (h : Heap) : OX :=
(yw0 v0 v1 h)
def y20a (s : St) : OX := yoz (s 0) (s 1) s.h
theorem y1cu : T0 yqg [.t 4] y20a := sq y1bo fun _ => by kernel_rfl
@[simp] theorem y2uc : E.pure 69 = true := rfl
theorem y2pr (v0 v1 : AV) : (y7 E).p 69 [v0, v1] = yoz v0 v1 [] :=
  (yu (cf := y2a5) (by kernel_rfl) rfl).trans ((y1cu _).trans (by kernel_rfl))
def q9_1 (h : Heap) : OX :=
(yc h (AV.int .i64 0))
def y3c (s : St) : OX := q9_1 s.h
theorem y2ix : T0 y29p [.t 2] y3c := fun _ => by kernel_rfl
def y1e0 (v0 v3 v4 : AV) (h : Heap) : OX :=
  W E 0 ywe ⟨[(0, v0), (3, v3), (4, v4)], h⟩ y3c (y1 3 y3c (y1 2 y3c xN)) (finP [.t 2])
def ynn (s : St) : OX := y1e0 (s 0) (s 3) (s 4) s.h
theorem y19b : T1 ywe y3c (y1 3 y3c (y1 2 y3c xN)) [.t 2] ynn := fun s => yf.trans (by kernel_rfl)
def q9_3 (v0 v3 v4 : AV) (h : Heap) : OX :=
ob (y2 .add v4 (AV.int .i64 1)) fun v42 =>
(y1e0 v0 v3 v42 h)
def ylq (s : St) : OX := q9_3 (s 0) (s 3) (s 4) s.h
theorem y2fs : T1 y29b ynn (y1 3 y3c (y1 2 y3c xN)) [.t 2] ylq := fun _ => by kernel_rfl
def q9_4 (h : Heap) : OX :=
(yc h (AV.int .i64 0))
def y2tr (s : St) : OX := q9_4 s.h
theorem y2bl : T1 y290 ylq (y1 4 ylq (y1 3 y3c (y1 2 y3c xN))) [.t 2] y2tr := fun _ => by kernel_rfl
def q9_5 (v0 v3 v4 : AV) (h : Heap) : OX :=
ob (y2 .add v3 (AV.int .i64 1)) fun v49 =>
ob (yf4 v0 (some v49) (some v4)) fun v51 =>
oh (y5 E (y7 E) 0 none true 60 [v51, (AV.bool false)] h) fun v52 h1 =>
cnd v52
 (ob (y2 .add v4 (AV.int .i64 1)) fun v54 =>
(yc h1 v54))
 ((q9_4 h1))
def y2sk (s : St) : OX := q9_5 (s 0) (s 3) (s 4) s.h
theorem y2as : T1 y29z ylq (y1 4 ylq (y1 3 y3c (y1 2 y3c xN))) [.t 2] y2sk := sq y2bl fun _ => by kernel_rfl
def q9_6 (v0 v3 v4 v46 : AV) (h : Heap) : OX :=
cnd v46
 ((q9_5 v0 v3 v4 h))
 ((q9_3 v0 v3 v4 h))
def y2tc (s : St) : OX := q9_6 (s 0) (s 3) (s 4) (s 46) s.h
theorem y2gd : T1 y28z ylq (y1 4 ylq (y1 3 y3c (y1 2 y3c xN))) [.t 2] y2tc := fun s => (yw (y2as s) rfl).trans (by kernel_rfl)
def q9_7 (v0 v3 v4 : AV) (h : Heap) : OX :=
ob (y5n v0 v4) fun v45 =>
ob (y2 .eql v45 (AV.int .u8 59)) fun v46 =>
(q9_6 v0 v3 v4 v46 h)
def y2c9 (s : St) : OX := q9_7 (s 0) (s 3) (s 4) s.h
theorem y2in : T1 y298 ylq (y1 4 ylq (y1 3 y3c (y1 2 y3c xN))) [.t 2] y2c9 := sq y2gd fun _ => by kernel_rfl
theorem y2fw : T1 y2ag ylq (y1 3 y3c (y1 2 y3c xN)) [.t 2] y2c9 := fun s => yi.trans (y2in s)
theorem y2hs : T1 y29w ynn (y1 3 y3c (y1 2 y3c xN)) [.t 2] y2c9 := sq y2fs y2fw
def y1au (v0 v3 v4 : AV) (h : Heap) : OX :=
ob (yv 0 v0 h) fun v39 =>
ob (y2 .lss v4 v39) fun v40 =>
cnd v40
 ((q9_7 v0 v3 v4 h))
 ((q9_1 h))
def y2mc (s : St) : OX := y1au (s 0) (s 3) (s 4) s.h
theorem y25x : T1 y1jw ynn (y1 3 y3c (y1 2 y3c xN)) [.t 2] y2mc := sq y2hs fun _ => by kernel_rfl
theorem y153 (v0 v3 v4 : AV) (h : Heap) : y1e0 v0 v3 v4 h = (y1au v0 v3 v4 h) :=
  y22.trans ((y15 _ _ _ (n' := ynn) (fun s => y19b s)).trans ((y25x _).trans (by kernel_rfl)))
theorem y239 : T1 y1hy y3c (y1 2 y3c xN) [.t 2] ynn := fun s => yi.trans (y19b s)
def y2hz (v0 v3 : AV) (h : Heap) : OX :=
ob (y2 .add v3 (AV.int .i64 1)) fun v36 =>
(y1e0 v0 v3 v36 h)
def y2on (s : St) : OX := y2hz (s 0) (s 3) s.h
theorem y20p : T1 y1re y3c (y1 2 y3c xN) [.t 2] y2on := sq y239 fun _ => by kernel_rfl
def y277 (v0 v3 v33 : AV) (h : Heap) : OX :=
cnd v33
 ((y2hz v0 v3 h))
 ((q9_1 h))
def y2q4 (s : St) : OX := y277 (s 0) (s 3) (s 33) s.h
theorem y22s : T1 y1ur y3c (y1 2 y3c xN) [.t 2] y2q4 := fun s => (yw (y20p s) rfl).trans (by kernel_rfl)
def y23m (v0 v3 v27 : AV) (h : Heap) : OX :=
ob (y2 .eql v27 (AV.int .u8 76)) fun v34 =>
(y277 v0 v3 v34 h)
def y2p1 (s : St) : OX := y23m (s 0) (s 3) (s 27) s.h
theorem y211 : T1 y1vu y3c (y1 2 y3c xN) [.t 2] y2p1 := sq y22s fun _ => by kernel_rfl
def yvq (v0 v3 v27 v28 : AV) (h : Heap) : OX :=
cnd v28
 (ob (y2 .add v3 (AV.int .i64 1)) fun v32 =>
(yc h v32))
 ((y23m v0 v3 v27 h))
def y2k8 (s : St) : OX := yvq (s 0) (s 3) (s 27) (s 28) s.h
theorem y27u : T1 y1za y3c (y1 2 y3c xN) [.t 2] y2k8 := fun s => (yw rfl (y211 s)).trans (by kernel_rfl)
def y1b6 (v0 v3 v27 : AV) (h : Heap) : OX :=
ob (y2 .eql v27 (AV.int .u8 73)) fun v29 =>
cnd v29
 ((yvq v0 v3 v27 v29 h))
 (ob (y2 .eql v27 (AV.int .u8 74)) fun v30 =>
(yvq v0 v3 v27 v30 h))
def y29h (s : St) : OX := y1b6 (s 0) (s 3) (s 27) s.h
theorem y28i : T1 y1jm y3c (y1 2 y3c xN) [.t 2] y29h := sq y27u fun _ => by kernel_rfl
theorem y25f : T1 y1ry y3c xN [.t 2] y29h := fun s => yi.trans (y28i s)
def y1ar (v0 v3 : AV) (h : Heap) : OX :=
ob (y5n v0 v3) fun v27 =>
(y1b6 v0 v3 v27 h)
def y2a3 (s : St) : OX := y1ar (s 0) (s 3) s.h
theorem y22x : T1 y1f9 y3c xN [.t 2] y2a3 := sq y25f fun _ => by kernel_rfl
theorem y24b : T0 y1zb [.t 2] y2a3 := sq y2ix y22x
def ylk (v0 v3 : AV) (h : Heap) : OX :=
ob (y2 .gtr v3 (AV.int .i64 8)) fun v18 =>
gb v18 false (some v3) fun v20 =>
gb v18 false (some v0) fun v21 =>
gb v18 false (yv 0 v21 h) fun v22 =>
gb v18 false (y2 .eql v20 v22) fun v23 =>
ob (y9 v18 (AV.bool true) v23) fun v24 =>
cnd v24
 ((yc h (AV.int .i64 0)))
 ((y1ar v0 v3 h))
def ygv (s : St) : OX := ylk (s 0) (s 3) s.h
theorem y27f : T0 y1u7 [.t 2] ygv := sq y24b fun _ => by kernel_rfl
def yua (v0 v3 : AV) (h : Heap) : OX :=
  W E 0 yov ⟨[(0, v0), (3, v3)], h⟩ ygv (y1 0 ygv xN) (finP [.t 2])
def yg2 (s : St) : OX := yua (s 0) (s 3) s.h
theorem yuk : T1 yov ygv (y1 0 ygv xN) [.t 2] yg2 := fun s => yf.trans (by kernel_rfl)
def y2de (v0 v3 : AV) (h : Heap) : OX :=
ob (y2 .add v3 (AV.int .i64 1)) fun v16 =>
(yua v0 v16 h)
def y2kb (s : St) : OX := y2de (s 0) (s 3) s.h
theorem y20k : T1 y1ue yg2 (y1 0 ygv xN) [.t 2] y2kb := fun _ => by kernel_rfl
def y1qw (v0 v3 : AV) (h : Heap) : OX :=
ob (yv 0 v0 h) fun v7 =>
ob (y2 .lss v3 v7) fun v8 =>
gb v8 true (some v0) fun v10 =>
gb v8 true (some v3) fun v11 =>
gb v8 true (y5n v10 v11) fun v12 =>
gb v8 true (y2 .eql v12 (AV.int .u8 91)) fun v13 =>
ob (y9 v8 v13 (AV.bool false)) fun v14 =>
cnd v14
 ((y2de v0 v3 h))
 ((ylk v0 v3 h))
def y2mz (s : St) : OX := y1qw (s 0) (s 3) s.h
theorem y207 : T1 y1j6 yg2 (y1 0 ygv xN) [.t 2] y2mz := sq y20k fun _ => by kernel_rfl
theorem yt6 (v0 v3 : AV) (h : Heap) : yua v0 v3 h = (y1qw v0 v3 h) :=
  y22.trans ((y15 _ _ _ (n' := yg2) (fun s => yuk s)).trans ((y207 _).trans (by kernel_rfl)))
theorem y234 : T1 y1sm ygv xN [.t 2] yg2 := fun s => yi.trans (yuk s)
theorem y26q : T0 y1gv [.t 2] yg2 := sq y27f y234
def y2is (v0 : AV) (h : Heap) : OX :=
(yua v0 (AV.int .i64 0) h)
def y2lk (s : St) : OX := y2is (s 0) s.h
theorem y26h : T0 y1h9 [.t 2] y2lk := sq y26q fun _ => by kernel_rfl
def y2g9 (v0 : AV) (h : Heap) : OX :=
(y2is v0 h)
def y2lw (s : St) : OX := y2g9 (s 0) s.h
theorem y20l : T0 y1yp [.t 2] y2lw := sq y26h fun _ => by kernel_rfl
@[simp] theorem y2u8 : E.pure 44 = true := rfl
theorem x_q9 (v0 : AV) : (y7 E).p 44 [v0] = y2g9 v0 [] :=
  (yu (cf := c_q9) (by kernel_rfl) rfl).trans ((y20l _).trans (by kernel_rfl))
def y1e1 (v1 v2 : AV) (h : Heap) : OX :=
ob (y2 .quo v1 v2) fun v23 =>
(yc h v23)
def y77 (s : St) : OX := y1e1 (s 1) (s 2) s.h
theorem y21g : T0 y1gq [.t 6] y77 := fun _ => by kernel_rfl
def y1hd (v1 : AV) (h : Heap) : OX :=
ob (evUn .neg v1) fun v15 =>
(yc h v15)
def y2l5 (s : St) : OX := y1hd (s 1) s.h
theorem y25m : T1 y1dv y77 (y1 0 y77 xN) [.t 6] y2l5 := fun _ => by kernel_rfl
def y1x3 (v0 v1 : AV) (h : Heap) : OX :=
cnd v0
 ((yc h (AV.int .i64 0)))
 ((y1hd v1 h))
def y2np (s : St) : OX := y1x3 (s 0) (s 1) s.h
theorem y22y : T1 y1fd y77 (y1 0 y77 xN) [.t 6] y2np := sq y25m fun _ => by kernel_rfl
def y1n0 (v0 v1 v2 v10 : AV) (h : Heap) : OX :=
cnd v10
 ((y1x3 v0 v1 h))
 (cnd v0
 (ob (y2 .rem v1 v2) fun v20 =>
(yc h v20))
 ((y1e1 v1 v2 h)))
def y2ma (s : St) : OX := y1n0 (s 0) (s 1) (s 2) (s 10) s.h
theorem y272 : T1 y1ja y77 (y1 0 y77 xN) [.t 6] y2ma := fun s => (yw (y22y s) rfl).trans (by kernel_rfl)
def y1us (v0 v1 v2 : AV) (h : Heap) : OX :=
ob (y2 .eql v2 (AV.int .i64 (-1))) fun v12 =>
(y1n0 v0 v1 v2 v12 h)
def y2pb (s : St) : OX := y1us (s 0) (s 1) (s 2) s.h
theorem y251 : T1 y1xy y77 (y1 0 y77 xN) [.t 6] y2pb := sq y272 fun _ => by kernel_rfl
def y1ti (v0 v1 v2 v7 : AV) (h : Heap) : OX :=
cnd v7
 ((yc h (AV.int .i64 0)))
 ((y1us v0 v1 v2 h))
def y2qf (s : St) : OX := y1ti (s 0) (s 1) (s 2) (s 7) s.h
theorem y20m : T1 y1uq y77 (y1 0 y77 xN) [.t 6] y2qf := fun s => (yw rfl (y251 s)).trans (by kernel_rfl)
def y1wp (v0 v1 v2 : AV) (h : Heap) : OX :=
ob (y2 .eql v2 (AV.int .i64 0)) fun v9 =>
(y1ti v0 v1 v2 v9 h)
def y1yx (s : St) : OX := y1wp (s 0) (s 1) (s 2) s.h
theorem y28b : T1 y1u8 y77 (y1 0 y77 xN) [.t 6] y1yx := sq y20m fun _ => by kernel_rfl
theorem y27m : T1 y1wd y77 xN [.t 6] y1yx := fun s => yi.trans (y28b s)
theorem y21l : T0 y1qa [.t 6] y1yx := sq y21g y27m
def yqm (v0 v1 v2 : AV) (h : Heap) : OX :=
(y1wp v0 v1 v2 h)
def y2iz (s : St) : OX := yqm (s 0) (s 1) (s 2) s.h
theorem y1pb : T0 yzr [.t 6] y2iz := sq y21l fun _ => by kernel_rfl
@[simp] theorem y2rg : E.pure 132 = true := rfl
theorem y2rm (v0 v1 v2 : AV) : (y7 E).p 132 [v0, v1, v2] = yqm v0 v1 v2 [] :=
  (yu (cf := y2p3) (by kernel_rfl) rfl).trans ((y1pb _).trans (by kernel_rfl))
def q7_1 (h : Heap) : OX :=
(yc h (AV.bool true))
def yi8 (s : St) : OX := q7_1 s.h
theorem y2ic : T0 y29l [.t 4] yi8 := fun _ => by kernel_rfl
def y1ln (v1 v17 v18 v19 : AV) (h : Heap) : OX :=
  W E 0 ywg ⟨[(1, v1), (17, v17), (18, v18), (19, v19)], h⟩ yi8 (y1 0 yi8 xN) (finP [.t 4])
def yj3 (s : St) : OX := y1ln (s 1) (s 17) (s 18) (s 19) s.h
theorem y19c : T1 ywg yi8 (y1 0 yi8 xN) [.t 4] yj3 := fun s => yf.trans (by kernel_rfl)
def q7_3 (v1 v17 v18 v19 : AV) (h : Heap) : OX :=
ob (y2 .add v19 (AV.int .i64 1)) fun v71 =>
(y1ln v1 v17 v18 v71 h)
def y2uo (s : St) : OX := q7_3 (s 1) (s 17) (s 18) (s 19) s.h
theorem y2dl : T1 y296 yj3 (y1 0 yi8 xN) [.t 4] y2uo := fun _ => by kernel_rfl
def q7_4 (v1 v17 v18 v19 : AV) (h : Heap) : OX :=
ob (yp 1 v17 v19) fun v21 =>
ob (evLd false 1 v21 h) fun v22 =>
ob (y2 .geq v22 (AV.int .u8 97)) fun v24 =>
gb v24 true (some v22) fun v26 =>
gb v24 true (y2 .leq v26 (AV.int .u8 122)) fun v27 =>
ob (y9 v24 v27 (AV.bool false)) fun v28 =>
gb v28 false (some v22) fun v30 =>
gb v28 false (y2 .geq v30 (AV.int .u8 65)) fun v31 =>
gb v28 false (some v31) fun v32 =>
gb v32 true (some v22) fun v33 =>
gb v32 true (y2 .leq v33 (AV.int .u8 90)) fun v34 =>
gb v28 false (y9 v32 v34 (AV.bool false)) fun v35 =>
ob (y9 v28 (AV.bool true) v35) fun v36 =>
gb v36 false (some v22) fun v38 =>
gb v36 false (y2 .geq v38 (AV.int .u8 48)) fun v39 =>
gb v36 false (some v39) fun v40 =>
gb v40 true (some v22) fun v41 =>
gb v40 true (y2 .leq v41 (AV.int .u8 57)) fun v42 =>
gb v36 false (y9 v40 v42 (AV.bool false)) fun v43 =>
ob (y9 v36 (AV.bool true) v43) fun v44 =>
gb v44 false (some v22) fun v46 =>
gb v44 false (y2 .eql v46 (AV.int .u8 95)) fun v47 =>
ob (y9 v44 (AV.bool true) v47) fun v48 =>
gb v48 false (some v22) fun v50 =>
gb v48 false (y2 .eql v50 (AV.int .u8 36)) fun v51 =>
ob (y9 v48 (AV.bool true) v51) fun v52 =>
gb v52 false (some v22) fun v54 =>
gb v52 false (y2 .eql v54 (AV.int .u8 47)) fun v55 =>
ob (y9 v52 (AV.bool true) v55) fun v56 =>
ob (evUn .not v56) fun v58 =>
gb v58 true (some v1) fun v60 =>
gb v58 true (some v60) fun v61 =>
gb v61 true (some v22) fun v62 =>
gb v61 true (y2 .eql v62 (AV.int .u8 60)) fun v63 =>
gb v61 true (some v63) fun v64 =>
gb v64 false (some v22) fun v65 =>
gb v64 false (y2 .eql v65 (AV.int .u8 62)) fun v66 =>
gb v61 true (y9 v64 (AV.bool true) v66) fun v67 =>
gb v58 true (y9 v61 v67 (AV.bool false)) fun v68 =>
gb v58 true (evUn .not v68) fun v69 =>
ob (y9 v58 v69 (AV.bool false)) fun v70 =>
cnd v70
 ((yc h (AV.bool false)))
 ((q7_3 v1 v17 v18 v19 h))
def y2u4 (s : St) : OX := q7_4 (s 1) (s 17) (s 18) (s 19) s.h
theorem y2eo : T1 y29d yj3 (y1 0 yi8 xN) [.t 4] y2u4 := sq y2dl fun _ => by kernel_rfl
def q7_5 (v1 v17 v18 v19 v20 : AV) (h : Heap) : OX :=
cnd v20
 ((q7_4 v1 v17 v18 v19 h))
 ((q7_1 h))
def y2sp (s : St) : OX := q7_5 (s 1) (s 17) (s 18) (s 19) (s 20) s.h
theorem y2bg : T1 y28l yj3 (y1 0 yi8 xN) [.t 4] y2sp := sq y2eo fun _ => by kernel_rfl
def q7_6 (v1 v17 v18 v19 : AV) (h : Heap) : OX :=
ob (y2 .lss v19 v18) fun v20 =>
(q7_5 v1 v17 v18 v19 v20 h)
def y2sg (s : St) : OX := q7_6 (s 1) (s 17) (s 18) (s 19) s.h
theorem y2dd : T1 y2a4 yj3 (y1 0 yi8 xN) [.t 4] y2sg := sq y2bg fun _ => by kernel_rfl
theorem y0m (v1 v17 v18 v19 : AV) (h : Heap) : y1ln v1 v17 v18 v19 h = (q7_6 v1 v17 v18 v19 h) :=
  y22.trans ((y15 _ _ _ (n' := yj3) (fun s => y19c s)).trans ((y2dd _).trans (by kernel_rfl)))
theorem y2bp : T1 y2a7 yi8 xN [.t 4] yj3 := fun s => yi.trans (y19c s)
def q7_8 (v0 v1 : AV) (h : Heap) : OX :=
oh (s2bC 0 (some 0) v0 h) fun v17 h1 =>
ob (yv 1 v17 h1) fun v18 =>
(y1ln v1 v17 v18 (AV.int .i64 0) h1)
def y2op (s : St) : OX := q7_8 (s 0) (s 1) s.h
theorem y2he : T1 y2aa yi8 xN [.t 4] y2op := sq y2bp fun _ => by kernel_rfl
theorem y2er : T0 y2an [.t 4] y2op := sq y2ic y2he
def y1os (v0 v1 : AV) (h : Heap) : OX :=
ob (yv 0 v0 h) fun v9 =>
ob (y2 .lss v9 (AV.int .i64 1)) fun v10 =>
gb v10 false (some v0) fun v12 =>
gb v10 false (yv 0 v12 h) fun v13 =>
gb v10 false (y2 .gtr v13 (AV.int .i64 60)) fun v14 =>
ob (y9 v10 (AV.bool true) v14) fun v15 =>
cnd v15
 ((yc h (AV.bool false)))
 ((q7_8 v0 v1 h))
def y2q2 (s : St) : OX := y1os (s 0) (s 1) s.h
theorem y1zr : T0 y1ia [.t 4] y2q2 := sq y2er fun _ => by kernel_rfl
def y1wo (v0 v1 : AV) (h : Heap) : OX :=
(y1os v0 v1 h)
def y2lj (s : St) : OX := y1wo (s 0) (s 1) s.h
theorem y22p : T0 y1o7 [.t 4] y2lj := sq y1zr fun _ => by kernel_rfl
@[simp] theorem y2s3 : E.pure 60 = true := rfl
theorem x_q7 (v0 v1 : AV) : (y7 E).p 60 [v0, v1] = y1wo v0 v1 [⟨0, .dead⟩] :=
  (yu (cf := c_q7) (by kernel_rfl) rfl).trans ((y22p _).trans (by kernel_rfl))
end
end Go.Vm
