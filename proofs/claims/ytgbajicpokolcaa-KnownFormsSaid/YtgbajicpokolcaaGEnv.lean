/- The machine's form of functions, each checked against the translation, and the environment that they make. -/
import Derived.Test.YtgbajicpokolcaaVc
import Derived.Test.YtgbajicpokolcaaProg
import Derived.Test.YtgbajicpokolcaaSd
import Derived.WalkSpells
import Derived.KernelRfl
set_option linter.unusedSimpArgs false
set_option linter.unusedVariables false
set_option linter.unusedSectionVars false
namespace Go.Vm
def y1rs : CCode :=
  (.seq (.region [
 kO 30 (.ld true 5 3),
 kO 31 (.call none true 29 [30]),
 kO 32 (.bin .eql 31 (ci 0)),
 kO 33 (.mv 32),
 kG 34 (.fa 3 3) 33 true,
 kG 35 (.ld false 1 34) 33 true,
 kG 36 (.len 1 35) 33 true,
 kG 37 (.fa 3 1) 33 true,
 kG 38 (.ld false 1 37) 33 true,
 kG 39 (.len 1 38) 33 true,
 kG 40 (.bin .eql 36 39) 33 true,
 kO 41 (.pick 33 40 (.c (.bool false))),
 kO 42 (.mv 41),
 kG 43 (.ld true 5 1) 42 true,
 kG 44 (.call none true 77 [43]) 42 true,
 kG 45 (.un .not 44) 42 true,
 kG 46 (.mv 45) 42 true,
 kG 47 (.ld true 5 3) 46 false,
 kG 48 (.call none true 77 [47]) 46 false,
 kG 49 (.pick 46 (.c (.bool true)) 48) 42 true,
 kO 50 (.pick 42 49 (.c (.bool false))),
 kO 2 (.mv 50)])
 .ret)
def y1mr : CCode :=
  (.seq (.seq (.region [
 kO 24 (.ld true 5 1),
 kO 25 (.call none true 29 [24]),
 kO 26 (.bin .neq 25 (ci 0))])
 (.cond 26
 (.seq (.region [
  kO 27 (.ld true 5 1),
  kO 28 (.ld true 5 3),
  kO 29 (.call none true 14 [27, 28]),
  kO 2 (.mv 29)])
  .ret)
 .skip))
 y1rs)
def y1kb : CCode :=
  (.seq (.region [
 kO 22 (.ld true 5 1),
 kO 23 (.call none true 166 [22]),
 kO 3 (.new (some 1) [.nils, .nils, (.int .i64 0), .nils, .nils]),
 kU (.st 5 3 23)])
 y1mr)
def y1vc : CCode :=
  (.seq (.seq (.region [
 kO 6 (.fa 3 1),
 kO 7 (.ld false 1 6),
 kO 8 (.len 1 7),
 kO 9 (.bin .gtr 8 (ci 400)),
 kO 10 (.mv 9),
 kG 11 (.fa 0 1) 10 false,
 kG 12 (.ld false 1 11) 10 false,
 kG 13 (.len 1 12) 10 false,
 kG 14 (.bin .gtr 13 (ci 100)) 10 false,
 kO 15 (.pick 10 (.c (.bool true)) 14),
 kO 16 (.mv 15),
 kG 17 (.fa 4 1) 16 false,
 kG 18 (.ld false 1 17) 16 false,
 kG 19 (.len 1 18) 16 false,
 kG 20 (.bin .gtr 19 (ci 50)) 16 false,
 kO 21 (.pick 16 (.c (.bool true)) 20)])
 (.cond 21
 (.seq (.region [
  kO 2 (.mv (.c (.bool true)))])
  .ret)
 .skip))
 y1kb)
def y1mp : CCode :=
  (.seq (.seq (.region [
 kO 4 (.call none true 165 []),
 kO 5 (.un .not 4)])
 (.cond 5
 (.seq (.region [
  kO 2 (.mv (.c (.bool false)))])
  .ret)
 .skip))
 y1vc)
def y1vu : CCode :=
  (.seq (.region [
 kO 1 (.box (some 0) 0),
 kO 2 (.mv (.c (.bool false)))])
 y1mp)
def y2iu : CFunc :=
  ⟨1, true, 2, y1vu, [.t 2]⟩
def y1k4 : CCode :=
  (.seq (.region [
 kO 39 (.ld true 5 3),
 kU (.st 5 2 39)])
 .ret)
def y1k8 : CCode :=
  (.region [
 kO 38 (.bin .add 23 (ci 1)),
 kO 23 (.mv 38)])
def y1sf : CCode :=
  (.seq (.block 1 (.seq (.region [
 kO 25 (.mv 23),
 kO 4 (.mv 25)])
 (.draw [
 kO 26 (.fa 3 3),
 kO 27 (.ld false 1 26),
 kO 28 (.mv 4),
 kO 29 (.fa 3 3),
 kO 30 (.ld false 1 29),
 kO 31 (.mv 4),
 kO 32 (.ixs 9 30 31),
 kO 33 (.fa 8 32),
 kO 34 (.ld false 1 33),
 kO 35 (.call none true 39 [34]),
 kO 36 (.ixs 9 27 28),
 kO 37 (.fa 8 36),
 kU (.st 1 37 35)] [(1, 9)])))
 y1k8)
def y1p7 : CCode :=
  (.seq (.cond 24
 .skip
 (.exit 0))
 y1sf)
def y1j5 : CCode :=
  (.seq (.region [
 kO 24 (.bin .lss 23 22)])
 y1p7)
def ypm : CCode :=
  (.loop [2, 3, 22, 23] y1j5)
def y1pa : CCode :=
  (.block 0 ypm)
def y1lk : CCode :=
  (.seq (.region [
 kO 20 (.fa 3 3),
 kO 21 (.ld false 1 20),
 kO 22 (.len 1 21),
 kO 23 (.mv (ci 0))])
 y1pa)
def y1r4 : CCode :=
  (.seq y1lk
 y1k4)
def y131 : CCode :=
  (.seq (.draw [
 kO 5 (.fa 0 1),
 kO 6 (.ld false 1 5),
 kO 7 (.call (some 2) false 39 [6]),
 kO 8 (.fa 1 1),
 kO 9 (.ld false 1 8),
 kO 10 (.call (some 3) false 39 [9]),
 kO 11 (.fa 2 1),
 kO 12 (.ld false 1 11),
 kO 13 (.fa 3 1),
 kO 14 (.ld false 1 13),
 kO 15 (.call (some 4) false 40 [14]),
 kO 16 (.fa 4 1),
 kO 17 (.ld false 1 16),
 kO 18 (.call (some 5) false 41 [17]),
 kO 19 (.build [.nils, .nils, (.int .i64 0), .nils, .nils] [(0, 1, 7), (1, 1, 10), (2, 1, 12), (3, 1, 15), (4, 1, 18)]),
 kO 3 (.new (some 6) [.nils, .nils, (.int .i64 0), .nils, .nils]),
 kU (.st 5 3 19)] [(2, 4), (2, 7), (5, 7), (2, 9), (5, 9), (7, 10), (2, 12), (5, 12), (10, 12), (7, 13), (1, 15), (2, 15), (4, 15), (5, 15), (7, 15), (9, 15), (10, 15), (12, 15), (13, 15)])
 y1r4)
def yxm : CCode :=
  (.seq (.region [
 kO 1 (.box (some 0) 0),
 kO 2 (.new (some 1) [.nils, .nils, (.int .i64 0), .nils, .nils])])
 y131)
def y2h9 : CFunc :=
  ⟨1, true, 7, yxm, [.cell 2 true 5]⟩
def y13c : CCode :=
  (.seq (.region [
 kO 4 (.mv (.c (.bool true)))])
 .ret)
def yzt : CCode :=
  (.region [
 kO 70 (.mv 6),
 kO 71 (.bin .add 70 (ci 1)),
 kO 6 (.mv 71)])
def y149 : CCode :=
  (.seq (.block 3 (.seq (.draw [
 kO 72 (.fa 4 2),
 kO 73 (.ld false 1 72),
 kO 74 (.mv 6),
 kO 75 (.ixs 4 73 74),
 kO 76 (.ld true 4 75),
 kO 77 (.fa 4 3),
 kO 78 (.ld false 1 77),
 kO 79 (.mv 6),
 kO 80 (.ixs 4 78 79),
 kO 81 (.ld true 4 80),
 kO 82 (.eqa true [0, 0, 0, 2] 76 81)] [])
 (.cond 82
 (.seq (.region [
  kO 4 (.mv (.c (.bool false)))])
  .ret)
 .skip)))
 yzt)
def y12h : CCode :=
  (.seq (.seq (.region [
 kO 65 (.mv 6),
 kO 66 (.fa 4 2),
 kO 67 (.ld false 1 66),
 kO 68 (.len 1 67),
 kO 69 (.bin .lss 65 68)])
 (.cond 69
 .skip
 (.exit 2)))
 y149)
def ykg : CCode :=
  (.loop [2, 3, 6] y12h)
def y00 : CCode :=
  (.block 2 ykg)
def y01 : CCode :=
  (.seq (.region [
 kO 6 (.mv (ci 0))])
 y00)
def y144 : CCode :=
  (.seq y01
 y13c)
def yqj : CCode :=
  (.region [
 kO 51 (.mv 5),
 kO 52 (.bin .add 51 (ci 1)),
 kO 5 (.mv 52)])
def ytp : CCode :=
  (.seq (.block 1 (.seq (.draw [
 kO 53 (.fa 3 2),
 kO 54 (.ld false 1 53),
 kO 55 (.mv 5),
 kO 56 (.ixs 9 54 55),
 kO 57 (.ld true 9 56),
 kO 58 (.fa 3 3),
 kO 59 (.ld false 1 58),
 kO 60 (.mv 5),
 kO 61 (.ixs 9 59 60),
 kO 62 (.ld true 9 61),
 kO 63 (.call none true 28 [57, 62]),
 kO 64 (.un .not 63)] [])
 (.cond 64
 (.seq (.region [
  kO 4 (.mv (.c (.bool false)))])
  .ret)
 .skip)))
 yqj)
def yqw : CCode :=
  (.seq (.seq (.region [
 kO 46 (.mv 5),
 kO 47 (.fa 3 2),
 kO 48 (.ld false 1 47),
 kO 49 (.len 1 48),
 kO 50 (.bin .lss 46 49)])
 (.cond 50
 .skip
 (.exit 0)))
 ytp)
def yi0 : CCode :=
  (.loop [2, 3, 5] yqw)
def ys6 : CCode :=
  (.block 0 yi0)
def yty : CCode :=
  (.seq (.region [
 kO 5 (.mv (ci 0))])
 ys6)
def ytw : CCode :=
  (.seq yty
 y144)
def yt0 : CCode :=
  (.seq (.seq (.region [
 kO 7 (.fa 0 2),
 kO 8 (.ld false 1 7),
 kO 9 (.fa 0 3),
 kO 10 (.ld false 1 9),
 kO 11 (.call none true 11 [8, 10]),
 kO 12 (.un .not 11),
 kO 13 (.mv 12),
 kG 14 (.fa 1 2) 13 false,
 kG 15 (.ld false 1 14) 13 false,
 kG 16 (.fa 1 3) 13 false,
 kG 17 (.ld false 1 16) 13 false,
 kG 18 (.call none true 11 [15, 17]) 13 false,
 kG 19 (.un .not 18) 13 false,
 kO 20 (.pick 13 (.c (.bool true)) 19),
 kO 21 (.mv 20),
 kG 22 (.fa 2 2) 21 false,
 kG 23 (.ld false 1 22) 21 false,
 kG 24 (.fa 2 3) 21 false,
 kG 25 (.ld false 1 24) 21 false,
 kG 26 (.bin .neq 23 25) 21 false,
 kO 27 (.pick 21 (.c (.bool true)) 26),
 kO 28 (.mv 27),
 kG 29 (.fa 3 2) 28 false,
 kG 30 (.ld false 1 29) 28 false,
 kG 31 (.len 1 30) 28 false,
 kG 32 (.fa 3 3) 28 false,
 kG 33 (.ld false 1 32) 28 false,
 kG 34 (.len 1 33) 28 false,
 kG 35 (.bin .neq 31 34) 28 false,
 kO 36 (.pick 28 (.c (.bool true)) 35),
 kO 37 (.mv 36),
 kG 38 (.fa 4 2) 37 false,
 kG 39 (.ld false 1 38) 37 false,
 kG 40 (.len 1 39) 37 false,
 kG 41 (.fa 4 3) 37 false,
 kG 42 (.ld false 1 41) 37 false,
 kG 43 (.len 1 42) 37 false,
 kG 44 (.bin .neq 40 43) 37 false,
 kO 45 (.pick 37 (.c (.bool true)) 44)])
 (.cond 45
 (.seq (.region [
  kO 4 (.mv (.c (.bool false)))])
  .ret)
 .skip))
 ytw)
def yqb : CCode :=
  (.seq (.region [
 kO 2 (.box (some 0) 0),
 kO 3 (.box (some 1) 1),
 kO 4 (.mv (.c (.bool false)))])
 yt0)
def y26z : CFunc :=
  ⟨2, true, 2, yqb, [.t 4]⟩
def y1m1 : CCode :=
  (.seq (.region [
 kO 2 (.mv (ci 0))])
 .ret)
def y1md : CCode :=
  (.region [
 kO 179 (.bin .add 138 (ci 1)),
 kO 138 (.mv 179)])
def y1qr : CCode :=
  (.seq (.block 7 (.seq (.region [
 kO 140 (.ixs 4 136 138),
 kO 141 (.ld true 4 140),
 kO 11 (.new (some 2) [(.int .i64 0), (.int .i64 0), (.int .i64 0), (.str [])]),
 kU (.st 4 11 141)])
 (.seq (.region [
 kO 142 (.fa 0 11),
 kO 143 (.ld false 1 142),
 kO 144 (.bin .lss 143 (ci 0)),
 kO 145 (.mv 144),
 kG 146 (.fa 0 11) 145 false,
 kG 147 (.ld false 1 146) 145 false,
 kG 148 (.fa 1 11) 145 false,
 kG 149 (.ld false 1 148) 145 false,
 kG 150 (.bin .geq 147 149) 145 false,
 kO 151 (.pick 145 (.c (.bool true)) 150),
 kO 152 (.mv 151),
 kG 153 (.fa 1 11) 152 false,
 kG 154 (.ld false 1 153) 152 false,
 kG 155 (.mv 3) 152 false,
 kG 156 (.bin .gtr 154 155) 152 false,
 kO 157 (.pick 152 (.c (.bool true)) 156),
 kO 158 (.mv 157),
 kG 159 (.fa 2 11) 158 false,
 kG 160 (.ld false 1 159) 158 false,
 kG 161 (.bin .lss 160 (ci 0)) 158 false,
 kO 162 (.pick 158 (.c (.bool true)) 161),
 kO 163 (.mv 162),
 kG 164 (.fa 2 11) 163 false,
 kG 165 (.ld false 1 164) 163 false,
 kG 166 (.mv 3) 163 false,
 kG 167 (.bin .geq 165 166) 163 false,
 kO 168 (.pick 163 (.c (.bool true)) 167),
 kO 169 (.mv 168),
 kG 170 (.fa 3 1) 169 false,
 kG 171 (.ld false 1 170) 169 false,
 kG 172 (.fa 2 11) 169 false,
 kG 173 (.ld false 1 172) 169 false,
 kG 174 (.ixs 9 171 173) 169 false,
 kG 175 (.fa 0 174) 169 false,
 kG 176 (.ld false 1 175) 169 false,
 kG 177 (.bin .neq 176 (ci 32)) 169 false,
 kO 178 (.pick 169 (.c (.bool true)) 177)])
 (.cond 178
 (.seq (.region [
  kO 2 (.mv (ci 80))])
  .ret)
 .skip))))
 y1md)
def y1ow : CCode :=
  (.seq (.cond 139
 .skip
 (.exit 6))
 y1qr)
def y1wd : CCode :=
  (.seq (.region [
 kO 139 (.bin .lss 138 137)])
 y1ow)
def ypu : CCode :=
  (.loop [1, 3, 136, 137, 138] y1wd)
def y1um : CCode :=
  (.block 6 ypu)
def y1sd : CCode :=
  (.seq (.region [
 kO 135 (.fa 4 1),
 kO 136 (.ld false 1 135),
 kO 137 (.len 1 136),
 kO 138 (.mv (ci 0))])
 y1um)
def y1hl : CCode :=
  (.seq y1sd
 y1m1)
def yzc : CCode :=
  (.region [
 kO 134 (.bin .add 94 (ci 1)),
 kO 94 (.mv 134)])
def y12c : CCode :=
  (.seq (.region [
 kO 103 (.fa 0 9),
 kO 104 (.ld false 1 103),
 kO 105 (.bin .eql 104 (ci 32)),
 kO 106 (.mv 105),
 kG 107 (.mv 8) 106 true,
 kG 108 (.bin .eql 107 (ci 0)) 106 true,
 kG 109 (.mv 108) 106 true,
 kG 110 (.fa 3 1) 109 false,
 kG 111 (.ld false 1 110) 109 false,
 kG 112 (.mv 8) 109 false,
 kG 113 (.bin .sub 112 (ci 1)) 109 false,
 kG 114 (.ixs 9 111 113) 109 false,
 kG 115 (.ld true 9 114) 109 false,
 kG 116 (.call none true 24 [115]) 109 false,
 kG 117 (.un .not 116) 109 false,
 kG 118 (.pick 109 (.c (.bool true)) 117) 106 true,
 kO 119 (.pick 106 118 (.c (.bool false))),
 kO 120 (.mv 119),
 kG 121 (.ld true 9 9) 120 false,
 kG 122 (.call none true 22 [121]) 120 false,
 kG 123 (.mv 122) 120 false,
 kG 124 (.fa 3 1) 123 true,
 kG 125 (.ld false 1 124) 123 true,
 kG 126 (.fa 6 9) 123 true,
 kG 127 (.ld false 1 126) 123 true,
 kG 128 (.ixs 9 125 127) 123 true,
 kG 129 (.fa 0 128) 123 true,
 kG 130 (.ld false 1 129) 123 true,
 kG 131 (.bin .eql 130 (ci 32)) 123 true,
 kG 132 (.pick 123 131 (.c (.bool false))) 120 false,
 kO 133 (.pick 120 (.c (.bool true)) 132)])
 (.cond 133
 (.seq (.region [
  kO 2 (.mv (ci 80))])
  .ret)
 .skip))
def yyr : CCode :=
  (.seq (.seq (.region [
 kO 99 (.ld true 5 1),
 kO 100 (.ld true 9 9),
 kO 101 (.call none true 63 [99, 100]),
 kO 102 (.un .not 101)])
 (.cond 102
 (.seq (.region [
  kO 2 (.mv (ci 80))])
  .ret)
 .skip))
 y12c)
def y0f : CCode :=
  (.seq (.region [
 kO 96 (.mv 94),
 kO 97 (.ixs 9 92 94),
 kO 98 (.ld true 9 97),
 kO 9 (.new (some 1) [(.int .i64 0), (.int .i64 0), (.int .i64 0), (.int .i64 0), (.int .i64 0), (.int .i64 0), (.int .i64 0), (.str []), .nils]),
 kO 8 (.mv 96),
 kU (.st 9 9 98)])
 yyr)
def y12m : CCode :=
  (.block 5 y0f)
def y17q : CCode :=
  (.seq y12m
 yzc)
def y15l : CCode :=
  (.seq (.cond 95
 .skip
 (.exit 4))
 y17q)
def y156 : CCode :=
  (.seq (.region [
 kO 95 (.bin .lss 94 93)])
 y15l)
def yih : CCode :=
  (.loop [1, 3, 92, 93, 94] y156)
def y186 : CCode :=
  (.block 4 yih)
def y17w : CCode :=
  (.seq (.region [
 kO 91 (.fa 3 1),
 kO 92 (.ld false 1 91),
 kO 93 (.len 1 92),
 kO 94 (.mv (ci 0))])
 y186)
def y11t : CCode :=
  (.seq y17w
 y1hl)
def y17o : CCode :=
  (.region [
 kO 90 (.bin .add 64 (ci 1)),
 kO 64 (.mv 90)])
def yyd : CCode :=
  (.seq (.block 3 (.seq (.region [
 kO 66 (.mv 64),
 kO 67 (.ixs 1 62 64),
 kO 68 (.ld false 1 67),
 kO 6 (.mv 66),
 kO 7 (.mv 68)])
 (.seq (.region [
 kO 69 (.mv 7),
 kO 70 (.bin .lss 69 (ci 0)),
 kO 71 (.mv 70),
 kG 72 (.mv 7) 71 false,
 kG 73 (.fa 0 1) 71 false,
 kG 74 (.ld false 1 73) 71 false,
 kG 75 (.len 1 74) 71 false,
 kG 76 (.bin .geq 72 75) 71 false,
 kO 77 (.pick 71 (.c (.bool true)) 76),
 kO 78 (.mv 77),
 kG 79 (.fa 1 1) 78 false,
 kG 80 (.ld false 1 79) 78 false,
 kG 81 (.mv 6) 78 false,
 kG 82 (.slc 1 80 none (some 81)) 78 false,
 kG 83 (.mv 7) 78 false,
 kG 84 (.call none true 46 [82, 83]) 78 false,
 kO 85 (.pick 78 (.c (.bool true)) 84),
 kO 86 (.mv 85),
 kG 87 (.mv 6) 86 false,
 kG 88 (.bin .gtr 87 (ci 20)) 86 false,
 kO 89 (.pick 86 (.c (.bool true)) 88)])
 (.cond 89
 (.seq (.region [
  kO 2 (.mv (ci 80))])
  .ret)
 .skip))))
 y17o)
def y0u : CCode :=
  (.seq (.cond 65
 .skip
 (.exit 2))
 yyd)
def y12u : CCode :=
  (.seq (.region [
 kO 65 (.bin .lss 64 63)])
 y0u)
def yi7 : CCode :=
  (.loop [1, 3, 62, 63, 64] y12u)
def y17v : CCode :=
  (.block 2 yi7)
def yzm : CCode :=
  (.seq (.region [
 kO 61 (.fa 1 1),
 kO 62 (.ld false 1 61),
 kO 63 (.len 1 62),
 kO 64 (.mv (ci 0))])
 y17v)
def y175 : CCode :=
  (.seq yzm
 y11t)
def y14y : CCode :=
  (.region [
 kO 60 (.bin .add 50 (ci 1)),
 kO 50 (.mv 60)])
def y183 : CCode :=
  (.seq (.block 1 (.seq (.region [
 kO 52 (.ixs 1 48 50),
 kO 53 (.ld false 1 52),
 kO 5 (.mv 53)])
 (.seq (.region [
 kO 54 (.mv 5),
 kO 55 (.bin .lss 54 (ci 1)),
 kO 56 (.mv 55),
 kG 57 (.mv 5) 56 false,
 kG 58 (.bin .gtr 57 (ci 3)) 56 false,
 kO 59 (.pick 56 (.c (.bool true)) 58)])
 (.cond 59
 (.seq (.region [
  kO 2 (.mv (ci 80))])
  .ret)
 .skip))))
 y14y)
def yyx : CCode :=
  (.seq (.cond 51
 .skip
 (.exit 0))
 y183)
def yxf : CCode :=
  (.seq (.region [
 kO 51 (.bin .lss 50 49)])
 yyx)
def yj9 : CCode :=
  (.loop [1, 3, 48, 49, 50] yxf)
def y11b : CCode :=
  (.block 0 yj9)
def y161 : CCode :=
  (.seq (.region [
 kO 47 (.fa 0 1),
 kO 48 (.ld false 1 47),
 kO 49 (.len 1 48),
 kO 50 (.mv (ci 0))])
 y11b)
def y15f : CCode :=
  (.seq y161
 y175)
def y110 : CCode :=
  (.seq (.seq (.region [
 kO 15 (.mv 3),
 kO 16 (.bin .lss 15 (ci 1)),
 kO 17 (.mv 16),
 kG 18 (.mv 3) 17 false,
 kG 19 (.bin .gtr 18 (ci 20000)) 17 false,
 kO 20 (.pick 17 (.c (.bool true)) 19),
 kO 21 (.mv 20),
 kG 22 (.fa 0 1) 21 false,
 kG 23 (.ld false 1 22) 21 false,
 kG 24 (.len 1 23) 21 false,
 kG 25 (.bin .gtr 24 (ci 20000)) 21 false,
 kO 26 (.pick 21 (.c (.bool true)) 25),
 kO 27 (.mv 26),
 kG 28 (.fa 2 1) 27 false,
 kG 29 (.ld false 1 28) 27 false,
 kG 30 (.bin .lss 29 (ci 0)) 27 false,
 kO 31 (.pick 27 (.c (.bool true)) 30),
 kO 32 (.mv 31),
 kG 33 (.fa 2 1) 32 false,
 kG 34 (.ld false 1 33) 32 false,
 kG 35 (.bin .gtr 34 (ci 3)) 32 false,
 kO 36 (.pick 32 (.c (.bool true)) 35),
 kO 37 (.mv 36),
 kG 38 (.fa 3 1) 37 false,
 kG 39 (.ld false 1 38) 37 false,
 kG 40 (.mv 3) 37 false,
 kG 41 (.bin .sub 40 (ci 1)) 37 false,
 kG 42 (.ixs 9 39 41) 37 false,
 kG 43 (.ld true 9 42) 37 false,
 kG 44 (.call none true 24 [43]) 37 false,
 kG 45 (.un .not 44) 37 false,
 kO 46 (.pick 37 (.c (.bool true)) 45)])
 (.cond 46
 (.seq (.region [
  kO 2 (.mv (ci 80))])
  .ret)
 .skip))
 y15f)
def yxh : CCode :=
  (.seq (.region [
 kO 12 (.fa 3 1),
 kO 13 (.ld false 1 12),
 kO 14 (.len 1 13),
 kO 3 (.mv 14)])
 y110)
def y18f : CCode :=
  (.seq (.region [
 kO 1 (.box (some 0) 0),
 kO 2 (.mv (ci 0))])
 yxh)
def y2kl : CFunc :=
  ⟨1, true, 3, y18f, [.t 2]⟩
def y1tr : CCode :=
  (.seq (.region [
 kO 0 (.mv (.c (.bool false)))])
 (.seq (.region [
 kO 2 (.buildS (some 0) 1 2 [(.int .i64 0)] [(0, (ci 1)), (1, (ci 3))]),
 kO 3 (.buildS (some 1) 1 1 [(.int .i64 0)] [(0, (ci 1))]),
 kO 4 (.build [(.int .i64 0), (.int .i64 0), (.int .i64 0), (.int .i64 0), (.int .i64 0), (.int .i64 0), (.int .i64 0), (.str []), .nils] [(0, 1, (ci 8)), (2, 1, (ci 1))]),
 kO 5 (.build [(.int .i64 0), (.int .i64 0), (.int .i64 0), (.int .i64 0), (.int .i64 0), (.int .i64 0), (.int .i64 0), (.str []), .nils] [(0, 1, (ci 15)), (1, 1, (ci 0)), (2, 1, (ci 1))]),
 kO 6 (.build [(.int .i64 0), (.int .i64 0), (.int .i64 0), (.int .i64 0), (.int .i64 0), (.int .i64 0), (.int .i64 0), (.str []), .nils] [(0, 1, (ci 8)), (2, 1, (ci 1))]),
 kO 7 (.build [(.int .i64 0), (.int .i64 0), (.int .i64 0), (.int .i64 0), (.int .i64 0), (.int .i64 0), (.int .i64 0), (.str []), .nils] [(0, 1, (ci 30)), (2, 1, (ci (-1)))]),
 kO 8 (.buildS (some 2) 9 4 [(.int .i64 0), (.int .i64 0), (.int .i64 0), (.int .i64 0), (.int .i64 0), (.int .i64 0), (.int .i64 0), (.str []), .nils] [(0, 4), (1, 5), (2, 6), (3, 7)]),
 kO 9 (.build [.nils, .nils, (.int .i64 0), .nils, .nils] [(0, 1, 2), (1, 1, 3), (3, 1, 8)]),
 kO 10 (.call none true 166 [9]),
 kO 1 (.new (some 3) [.nils, .nils, (.int .i64 0), .nils, .nils]),
 kU (.st 5 1 10)])
 (.seq (.region [
 kO 11 (.fa 3 1),
 kO 12 (.ld false 1 11),
 kO 13 (.len 1 12),
 kO 14 (.bin .eql 13 (ci 4)),
 kO 15 (.mv 14),
 kG 16 (.fa 3 1) 15 true,
 kG 17 (.ld false 1 16) 15 true,
 kG 18 (.ixs 9 17 (ci 0)) 15 true,
 kG 19 (.fa 0 18) 15 true,
 kG 20 (.ld false 1 19) 15 true,
 kG 21 (.bin .eql 20 (ci 8)) 15 true,
 kO 22 (.pick 15 21 (.c (.bool false))),
 kO 23 (.mv 22),
 kG 24 (.fa 3 1) 23 true,
 kG 25 (.ld false 1 24) 23 true,
 kG 26 (.ixs 9 25 (ci 2)) 23 true,
 kG 27 (.fa 0 26) 23 true,
 kG 28 (.ld false 1 27) 23 true,
 kG 29 (.bin .eql 28 (ci 33)) 23 true,
 kO 30 (.pick 23 29 (.c (.bool false))),
 kO 0 (.mv 30)])
 .ret)))
def y2ii : CFunc :=
  ⟨0, true, 4, y1tr, [.t 0]⟩
def y1e0 : CCode :=
  (.seq (.region [
 kO 119 (.ld true 5 1),
 kU (.st 5 2 119)])
 .ret)
def y1ic : CCode :=
  (.region [
 kO 118 (.bin .add 87 (ci 1)),
 kO 87 (.mv 118)])
def y1gf : CCode :=
  (.seq (.block 7 (.seq (.region [
 kO 89 (.mv 87),
 kO 90 (.ixs 9 85 87),
 kO 91 (.ld true 9 90),
 kO 13 (.new (some 15) [(.int .i64 0), (.int .i64 0), (.int .i64 0), (.int .i64 0), (.int .i64 0), (.int .i64 0), (.int .i64 0), (.str []), .nils]),
 kO 12 (.mv 89),
 kU (.st 9 13 91)])
 (.seq (.region [
 kO 93 (.ld true 9 13),
 kO 94 (.call none true 169 [93]),
 kO 92 (.mv 94),
 kO 95 (.ext 0 92),
 kO 96 (.ext 1 92),
 kO 14 (.new (some 16) [(.int .i64 0), (.int .i64 0), (.int .i64 0)]),
 kU (.st 3 14 95),
 kO 15 (.mv 96)])
 (.seq (.draw [
 kO 97 (.mv 15),
 kO 98 (.mv 97),
 kG 99 (.ld false 1 3) 98 true,
 kG 100 (.mv 12) 98 true,
 kG 101 (.ixs 1 99 100) 98 true,
 kG 102 (.ld false 1 101) 98 true,
 kG 103 (.eqn 2 true 102 (.c .nilm)) 98 true,
 kO 104 (.pick 98 103 (.c (.bool false))),
 kO 105 (.mv 104),
 kG 106 (.ld false 1 3) 105 true,
 kG 107 (.mv 12) 105 true,
 kG 108 (.ixs 1 106 107) 105 true,
 kG 109 (.ld false 1 108) 105 true,
 kG 110 (.ld true 3 14) 105 true,
 kG 111 (.mget true [0, 0, 0] (.bool false) false 109 110) 105 true,
 kO 112 (.pick 105 111 (.c (.bool false)))] [])
 (.cond 112
 (.region [
  kO 113 (.fa 3 1),
  kO 114 (.ld false 1 113),
  kO 115 (.mv 12),
  kO 116 (.build [(.int .i64 0), (.int .i64 0), (.int .i64 0), (.int .i64 0), (.int .i64 0), (.int .i64 0), (.int .i64 0), (.str []), .nils] [(0, 1, (ci 33))]),
  kO 117 (.ixs 9 114 115),
  kU (.st 9 117 116)])
 .skip)))))
 y1ic)
def y1nr : CCode :=
  (.seq (.cond 88
 .skip
 (.exit 6))
 y1gf)
def y1j0 : CCode :=
  (.seq (.region [
 kO 88 (.bin .lss 87 86)])
 y1nr)
def yp9 : CCode :=
  (.loop [1, 2, 3, 85, 86, 87] y1j0)
def y1ls : CCode :=
  (.block 6 yp9)
def y1fh : CCode :=
  (.seq (.region [
 kO 84 (.fa 3 1),
 kO 85 (.ld false 1 84),
 kO 86 (.len 1 85),
 kO 87 (.mv (ci 0))])
 y1ls)
def y1ka : CCode :=
  (.seq y1fh
 y1e0)
def yy2 : CCode :=
  (.region [
 kO 83 (.bin .add 75 (ci 1)),
 kO 75 (.mv 83)])
def y0n : CCode :=
  (.seq (.block 5 (.seq (.region [
 kO 77 (.ixs 1 73 75),
 kO 78 (.ld false 1 77),
 kO 11 (.mv 78)])
 (.region [
 kO 79 (.mv 5),
 kO 80 (.mv 11),
 kO 81 (.mv 9),
 kO 82 (.callv none true 79 [80, 81])])))
 yy2)
def y17t : CCode :=
  (.seq (.cond 76
 .skip
 (.exit 4))
 y0n)
def yzs : CCode :=
  (.seq (.region [
 kO 76 (.bin .lss 75 74)])
 y17t)
def yif : CCode :=
  (.loop [1, 2, 3, 4, 5, 9, 73, 74, 75] yzs)
def y18p : CCode :=
  (.block 4 yif)
def y17y : CCode :=
  (.seq (.region [
 kO 71 (.ld true 5 1),
 kO 72 (.mv 6),
 kO 73 (.call none true 81 [71, 72]),
 kO 74 (.len 1 73),
 kO 75 (.mv (ci 0))])
 y18p)
def y179 : CCode :=
  (.seq (.draw [
 kO 61 (.ld false 1 3),
 kO 62 (.mv 6),
 kO 63 (.ixs 1 61 62),
 kO 64 (.ld false 1 63),
 kO 65 (.fa 3 1),
 kO 66 (.ld false 1 65),
 kO 67 (.mv 6),
 kO 68 (.ixs 9 66 67),
 kO 69 (.ld true 9 68),
 kO 70 (.call none true 168 [64, 69]),
 kO 9 (.mv 70)] [])
 y17y)
def y14o : CCode :=
  (.region [
 kO 60 (.bin .add 49 (ci 1)),
 kO 49 (.mv 60)])
def y176 : CCode :=
  (.seq (.block 3 (.seq (.region [
 kO 51 (.ixs 1 47 49),
 kO 52 (.ld false 1 51),
 kO 8 (.mv 52)])
 (.region [
 kO 53 (.mv 5),
 kO 54 (.mv 8),
 kO 55 (.ld false 1 3),
 kO 56 (.mv 6),
 kO 57 (.ixs 1 55 56),
 kO 58 (.ld false 1 57),
 kO 59 (.callv none true 53 [54, 58])])))
 y14o)
def y158 : CCode :=
  (.seq (.cond 50
 .skip
 (.exit 2))
 y176)
def yzr : CCode :=
  (.seq (.region [
 kO 50 (.bin .lss 49 48)])
 y158)
def yjm : CCode :=
  (.loop [1, 2, 3, 4, 5, 6, 47, 48, 49] yzr)
def y11n : CCode :=
  (.block 2 yjm)
def y139 : CCode :=
  (.seq (.region [
 kO 45 (.ld true 5 1),
 kO 46 (.mv 6),
 kO 47 (.call none true 79 [45, 46]),
 kO 48 (.len 1 47),
 kO 49 (.mv (ci 0))])
 y11n)
def yzz : CCode :=
  (.seq y139
 y179)
def y16u : CCode :=
  (.seq (.region [
 kO 40 (.ld false 1 4),
 kO 41 (.ld false 1 4),
 kO 42 (.len 1 41),
 kO 43 (.bin .sub 42 (ci 1)),
 kO 44 (.slc 1 40 none (some 43)),
 kU (.st 1 4 44)])
 yzz)
def y16v : CCode :=
  (.seq (.region [
 kO 34 (.ld false 1 4),
 kO 35 (.ld false 1 4),
 kO 36 (.len 1 35),
 kO 37 (.bin .sub 36 (ci 1)),
 kO 38 (.ixs 1 34 37),
 kO 39 (.ld false 1 38),
 kO 6 (.mv 39)])
 y16u)
def y18g : CCode :=
  (.block 1 y16v)
def yyn : CCode :=
  (.seq (.seq (.region [
 kO 31 (.ld false 1 4),
 kO 32 (.len 1 31),
 kO 33 (.bin .gtr 32 (ci 0))])
 (.cond 33
 .skip
 (.exit 0)))
 y18g)
def yhu : CCode :=
  (.loop [1, 2, 3, 4, 5] yyn)
def yyj : CCode :=
  (.block 0 yhu)
def y14n : CCode :=
  (.seq yyj
 y1ka)
def y16i : CCode :=
  (.seq (.region [
 kO 30 (.mkf 167 [3, 4]),
 kO 5 (.mv 30)])
 y14n)
def yz8 : CCode :=
  (.seq (.region [
 kO 29 (.buildS (some 13) 1 1 [(.int .i64 0)] [(0, (ci 0))]),
 kO 4 (.new (some 14) [.nils]),
 kU (.st 1 4 29)])
 y16i)
def y18l : CCode :=
  (.seq (.region [
 kO 26 (.ld false 1 3),
 kO 27 (.mkm (some 12)),
 kO 28 (.ixs 1 26 (ci 0)),
 kU (.st 1 28 27)])
 yz8)
def y12l : CCode :=
  (.seq (.region [
 kO 22 (.fa 3 1),
 kO 23 (.ld false 1 22),
 kO 24 (.len 1 23),
 kO 25 (.mkS (some 10) 1 8 [.nilm] 24 24),
 kO 3 (.new (some 11) [.nils]),
 kU (.st 1 3 25)])
 y18l)
def y128 : CCode :=
  (.seq (.seq (.region [
 kO 18 (.ld true 5 1),
 kO 19 (.call none true 8 [18]),
 kO 20 (.bin .neq 19 (ci 0))])
 (.cond 20
 (.seq (.region [
  kO 21 (.ld true 5 1),
  kU (.st 5 2 21)])
  .ret)
 .skip))
 y12l)
def yx6 : CCode :=
  (.seq (.region [
 kO 16 (.ld true 5 1),
 kO 17 (.call (some 2) false 13 [16]),
 kU (.st 5 1 17)])
 y128)
def y14t : CCode :=
  (.seq (.region [
 kO 1 (.box (some 0) 0),
 kO 2 (.new (some 1) [.nils, .nils, (.int .i64 0), .nils, .nils])])
 yx6)
def y2kf : CFunc :=
  ⟨1, true, 17, y14t, [.cell 2 true 5]⟩
def yz5 : CCode :=
  (.seq (.region [
 kO 2 (.mv (ci 0))])
 .ret)
def y03 : CCode :=
  (.region [
 kO 154 (.mv 8),
 kO 155 (.bin .add 154 (ci 1)),
 kO 8 (.mv 155)])
def y11q : CCode :=
  (.seq (.block 7 (.seq (.region [
 kO 156 (.fa 4 1),
 kO 157 (.ld false 1 156),
 kO 158 (.mv 8),
 kO 159 (.ixs 4 157 158),
 kO 160 (.ld true 4 159),
 kO 9 (.new (some 2) [(.int .i64 0), (.int .i64 0), (.int .i64 0), (.str [])]),
 kU (.st 4 9 160)])
 (.seq (.region [
 kO 161 (.fa 0 9),
 kO 162 (.ld false 1 161),
 kO 163 (.bin .lss 162 (ci 0)),
 kO 164 (.mv 163),
 kG 165 (.fa 0 9) 164 false,
 kG 166 (.ld false 1 165) 164 false,
 kG 167 (.fa 1 9) 164 false,
 kG 168 (.ld false 1 167) 164 false,
 kG 169 (.bin .geq 166 168) 164 false,
 kO 170 (.pick 164 (.c (.bool true)) 169),
 kO 171 (.mv 170),
 kG 172 (.fa 1 9) 171 false,
 kG 173 (.ld false 1 172) 171 false,
 kG 174 (.mv 3) 171 false,
 kG 175 (.bin .gtr 173 174) 171 false,
 kO 176 (.pick 171 (.c (.bool true)) 175),
 kO 177 (.mv 176),
 kG 178 (.ld true 5 1) 177 false,
 kG 179 (.fa 2 9) 177 false,
 kG 180 (.ld false 1 179) 177 false,
 kG 181 (.call none true 49 [178, 180]) 177 false,
 kG 182 (.un .not 181) 177 false,
 kO 183 (.pick 177 (.c (.bool true)) 182),
 kO 184 (.mv 183),
 kG 185 (.fa 3 1) 184 false,
 kG 186 (.ld false 1 185) 184 false,
 kG 187 (.fa 2 9) 184 false,
 kG 188 (.ld false 1 187) 184 false,
 kG 189 (.ixs 9 186 188) 184 false,
 kG 190 (.fa 0 189) 184 false,
 kG 191 (.ld false 1 190) 184 false,
 kG 192 (.bin .neq 191 (ci 32)) 184 false,
 kO 193 (.pick 184 (.c (.bool true)) 192)])
 (.cond 193
 (.seq (.region [
  kO 2 (.mv (ci 80))])
  .ret)
 .skip))))
 y03)
def y18k : CCode :=
  (.seq (.seq (.region [
 kO 149 (.mv 8),
 kO 150 (.fa 4 1),
 kO 151 (.ld false 1 150),
 kO 152 (.len 1 151),
 kO 153 (.bin .lss 149 152)])
 (.cond 153
 .skip
 (.exit 6)))
 y11q)
def yhp : CCode :=
  (.loop [1, 3, 8] y18k)
def y12o : CCode :=
  (.block 6 yhp)
def y17z : CCode :=
  (.seq (.region [
 kO 8 (.mv (ci 0))])
 y12o)
def yz2 : CCode :=
  (.seq y17z
 yz5)
def yu6 : CCode :=
  (.region [
 kO 103 (.mv 6),
 kO 104 (.bin .add 103 (ci 1)),
 kO 6 (.mv 104)])
def ytf : CCode :=
  (.seq (.block 5 (.seq (.region [
 kO 105 (.fa 3 1),
 kO 106 (.ld false 1 105),
 kO 107 (.mv 6),
 kO 108 (.ixs 9 106 107),
 kO 109 (.ld true 9 108),
 kO 7 (.new (some 1) [(.int .i64 0), (.int .i64 0), (.int .i64 0), (.int .i64 0), (.int .i64 0), (.int .i64 0), (.int .i64 0), (.str []), .nils]),
 kU (.st 9 7 109)])
 (.seq (.region [
 kO 110 (.ld true 5 1),
 kO 111 (.ld true 9 7),
 kO 112 (.call none true 64 [110, 111]),
 kO 113 (.un .not 112),
 kO 114 (.mv 113),
 kG 115 (.fa 0 7) 114 false,
 kG 116 (.ld false 1 115) 114 false,
 kG 117 (.bin .eql 116 (ci 32)) 114 false,
 kG 118 (.mv 117) 114 false,
 kG 119 (.mv 6) 118 true,
 kG 120 (.bin .eql 119 (ci 0)) 118 true,
 kG 121 (.mv 120) 118 true,
 kG 122 (.fa 3 1) 121 false,
 kG 123 (.ld false 1 122) 121 false,
 kG 124 (.mv 6) 121 false,
 kG 125 (.bin .sub 124 (ci 1)) 121 false,
 kG 126 (.ixs 9 123 125) 121 false,
 kG 127 (.fa 0 126) 121 false,
 kG 128 (.ld false 1 127) 121 false,
 kG 129 (.call none true 25 [128]) 121 false,
 kG 130 (.un .not 129) 121 false,
 kG 131 (.pick 121 (.c (.bool true)) 130) 118 true,
 kG 132 (.pick 118 131 (.c (.bool false))) 114 false,
 kO 133 (.pick 114 (.c (.bool true)) 132),
 kO 134 (.mv 133),
 kG 135 (.fa 0 7) 134 false,
 kG 136 (.ld false 1 135) 134 false,
 kG 137 (.call none true 23 [136]) 134 false,
 kG 138 (.mv 137) 134 false,
 kG 139 (.fa 3 1) 138 true,
 kG 140 (.ld false 1 139) 138 true,
 kG 141 (.fa 6 7) 138 true,
 kG 142 (.ld false 1 141) 138 true,
 kG 143 (.ixs 9 140 142) 138 true,
 kG 144 (.fa 0 143) 138 true,
 kG 145 (.ld false 1 144) 138 true,
 kG 146 (.bin .eql 145 (ci 32)) 138 true,
 kG 147 (.pick 138 146 (.c (.bool false))) 134 false,
 kO 148 (.pick 134 (.c (.bool true)) 147)])
 (.cond 148
 (.seq (.region [
  kO 2 (.mv (ci 80))])
  .ret)
 .skip))))
 yu6)
def yr8 : CCode :=
  (.seq (.seq (.region [
 kO 100 (.mv 6),
 kO 101 (.mv 3),
 kO 102 (.bin .lss 100 101)])
 (.cond 102
 .skip
 (.exit 4)))
 ytf)
def yk2 : CCode :=
  (.loop [1, 3, 6] yr8)
def yse : CCode :=
  (.block 4 yk2)
def ys8 : CCode :=
  (.seq (.region [
 kO 6 (.mv (ci 0))])
 yse)
def yst : CCode :=
  (.seq ys8
 yz2)
def ys1 : CCode :=
  (.region [
 kO 78 (.mv 5),
 kO 79 (.bin .add 78 (ci 1)),
 kO 5 (.mv 79)])
def yt6 : CCode :=
  (.seq (.block 3 (.seq (.draw [
 kO 80 (.ld true 5 1),
 kO 81 (.fa 1 1),
 kO 82 (.ld false 1 81),
 kO 83 (.mv 5),
 kO 84 (.ixs 1 82 83),
 kO 85 (.ld false 1 84),
 kO 86 (.call none true 48 [80, 85]),
 kO 87 (.bin .eql 86 (ci 0)),
 kO 88 (.mv 87),
 kG 89 (.fa 1 1) 88 false,
 kG 90 (.ld false 1 89) 88 false,
 kG 91 (.mv 5) 88 false,
 kG 92 (.ixs 1 90 91) 88 false,
 kG 93 (.ld false 1 92) 88 false,
 kG 94 (.fa 1 1) 88 false,
 kG 95 (.ld false 1 94) 88 false,
 kG 96 (.mv 5) 88 false,
 kG 97 (.slc 1 95 none (some 96)) 88 false,
 kG 98 (.call none true 42 [93, 97]) 88 false,
 kO 99 (.pick 88 (.c (.bool true)) 98)] [])
 (.cond 99
 (.seq (.region [
  kO 2 (.mv (ci 80))])
  .ret)
 .skip)))
 ys1)
def ysu : CCode :=
  (.seq (.seq (.region [
 kO 73 (.mv 5),
 kO 74 (.fa 1 1),
 kO 75 (.ld false 1 74),
 kO 76 (.len 1 75),
 kO 77 (.bin .lss 73 76)])
 (.cond 77
 .skip
 (.exit 2)))
 yt6)
def yfs : CCode :=
  (.loop [1, 3, 5] ysu)
def ytu : CCode :=
  (.block 2 yfs)
def ytb : CCode :=
  (.seq (.region [
 kO 5 (.mv (ci 0))])
 ytu)
def yr1 : CCode :=
  (.seq ytb
 yst)
def yss : CCode :=
  (.region [
 kO 57 (.mv 4),
 kO 58 (.bin .add 57 (ci 1)),
 kO 4 (.mv 58)])
def yur : CCode :=
  (.seq (.block 1 (.seq (.region [
 kO 59 (.fa 0 1),
 kO 60 (.ld false 1 59),
 kO 61 (.mv 4),
 kO 62 (.ixs 1 60 61),
 kO 63 (.ld false 1 62),
 kO 64 (.bin .lss 63 (ci 1)),
 kO 65 (.mv 64),
 kG 66 (.fa 0 1) 65 false,
 kG 67 (.ld false 1 66) 65 false,
 kG 68 (.mv 4) 65 false,
 kG 69 (.ixs 1 67 68) 65 false,
 kG 70 (.ld false 1 69) 65 false,
 kG 71 (.bin .gtr 70 (ci 3)) 65 false,
 kO 72 (.pick 65 (.c (.bool true)) 71)])
 (.cond 72
 (.seq (.region [
  kO 2 (.mv (ci 80))])
  .ret)
 .skip)))
 yss)
def yt1 : CCode :=
  (.seq (.seq (.region [
 kO 52 (.mv 4),
 kO 53 (.fa 0 1),
 kO 54 (.ld false 1 53),
 kO 55 (.len 1 54),
 kO 56 (.bin .lss 52 55)])
 (.cond 56
 .skip
 (.exit 0)))
 yur)
def yfy : CCode :=
  (.loop [1, 3, 4] yt1)
def yrl : CCode :=
  (.block 0 yfy)
def ytn : CCode :=
  (.seq (.region [
 kO 4 (.mv (ci 0))])
 yrl)
def yth : CCode :=
  (.seq ytn
 yr1)
def yuc : CCode :=
  (.seq (.seq (.region [
 kO 13 (.mv 3),
 kO 14 (.bin .eql 13 (ci 0)),
 kO 15 (.mv 14),
 kG 16 (.mv 3) 15 false,
 kG 17 (.bin .gtr 16 (ci 20000)) 15 false,
 kO 18 (.pick 15 (.c (.bool true)) 17),
 kO 19 (.mv 18),
 kG 20 (.fa 0 1) 19 false,
 kG 21 (.ld false 1 20) 19 false,
 kG 22 (.len 1 21) 19 false,
 kG 23 (.bin .gtr 22 (ci 20000)) 19 false,
 kO 24 (.pick 19 (.c (.bool true)) 23),
 kO 25 (.mv 24),
 kG 26 (.fa 1 1) 25 false,
 kG 27 (.ld false 1 26) 25 false,
 kG 28 (.len 1 27) 25 false,
 kG 29 (.bin .gtr 28 (ci 21)) 25 false,
 kO 30 (.pick 25 (.c (.bool true)) 29),
 kO 31 (.mv 30),
 kG 32 (.fa 2 1) 31 false,
 kG 33 (.ld false 1 32) 31 false,
 kG 34 (.bin .lss 33 (ci 0)) 31 false,
 kO 35 (.pick 31 (.c (.bool true)) 34),
 kO 36 (.mv 35),
 kG 37 (.fa 2 1) 36 false,
 kG 38 (.ld false 1 37) 36 false,
 kG 39 (.bin .gtr 38 (ci 3)) 36 false,
 kO 40 (.pick 36 (.c (.bool true)) 39),
 kO 41 (.mv 40),
 kG 42 (.fa 3 1) 41 false,
 kG 43 (.ld false 1 42) 41 false,
 kG 44 (.mv 3) 41 false,
 kG 45 (.bin .sub 44 (ci 1)) 41 false,
 kG 46 (.ixs 9 43 45) 41 false,
 kG 47 (.fa 0 46) 41 false,
 kG 48 (.ld false 1 47) 41 false,
 kG 49 (.call none true 25 [48]) 41 false,
 kG 50 (.un .not 49) 41 false,
 kO 51 (.pick 41 (.c (.bool true)) 50)])
 (.cond 51
 (.seq (.region [
  kO 2 (.mv (ci 80))])
  .ret)
 .skip))
 yth)
def yrz : CCode :=
  (.seq (.region [
 kO 10 (.fa 3 1),
 kO 11 (.ld false 1 10),
 kO 12 (.len 1 11),
 kO 3 (.mv 12)])
 yuc)
def yu1 : CCode :=
  (.seq (.region [
 kO 1 (.box (some 0) 0),
 kO 2 (.mv (ci 0))])
 yrz)
def y25n : CFunc :=
  ⟨1, true, 3, yu1, [.t 2]⟩
def y1pn : CCode :=
  (.seq (.region [
 kO 2 (.mv (.c (.bool true)))])
 .ret)
def y1t4 : CCode :=
  (.region [
 kO 134 (.bin .add 106 (ci 1)),
 kO 106 (.mv 134)])
def y1ty : CCode :=
  (.region [
 kO 133 (.bin .add 114 (ci 1)),
 kO 114 (.mv 133)])
def y1vi : CCode :=
  (.seq (.block 11 (.seq (.region [
 kO 116 (.ixs 1 112 114),
 kO 117 (.ld false 1 116),
 kO 18 (.mv 117)])
 (.seq (.region [
 kO 118 (.mv 3),
 kO 119 (.mv 15),
 kO 120 (.ixs 1 118 119),
 kO 121 (.ld false 1 120),
 kO 122 (.eqn 1 true 121 (.c .nils)),
 kO 123 (.mv 122),
 kG 124 (.mv 3) 123 true,
 kG 125 (.mv 15) 123 true,
 kG 126 (.ixs 1 124 125) 123 true,
 kG 127 (.ld false 1 126) 123 true,
 kG 128 (.mv 18) 123 true,
 kG 129 (.ixs 1 127 128) 123 true,
 kG 130 (.ld false 1 129) 123 true,
 kG 131 (.un .not 130) 123 true,
 kO 132 (.pick 123 131 (.c (.bool false)))])
 (.cond 132
 (.seq (.region [
  kO 2 (.mv (.c (.bool false)))])
  .ret)
 .skip))))
 y1ty)
def y1jv : CCode :=
  (.seq (.cond 115
 .skip
 (.exit 10))
 y1vi)
def y1vv : CCode :=
  (.seq (.region [
 kO 115 (.bin .lss 114 113)])
 y1jv)
def ypa : CCode :=
  (.loop [3, 15, 104, 105, 106, 112, 113, 114] y1vv)
def y1w5 : CCode :=
  (.block 10 ypa)
def y17u : CCode :=
  (.seq (.region [
 kO 111 (.ld true 9 16),
 kO 112 (.call none true 10 [111]),
 kO 113 (.len 1 112),
 kO 114 (.mv (ci 0))])
 y1w5)
def y16h : CCode :=
  (.seq (.region [
 kO 108 (.mv 106),
 kO 109 (.ixs 9 104 106),
 kO 110 (.ld true 9 109),
 kO 16 (.new (some 5) [(.int .i64 0), (.int .i64 0), (.int .i64 0), (.int .i64 0), (.int .i64 0), (.int .i64 0), (.int .i64 0), (.str []), .nils]),
 kO 15 (.mv 108),
 kU (.st 9 16 110)])
 y17u)
def yxn : CCode :=
  (.block 9 y16h)
def yzn : CCode :=
  (.seq yxn
 y1t4)
def y15w : CCode :=
  (.seq (.cond 107
 .skip
 (.exit 8))
 yzn)
def y17a : CCode :=
  (.seq (.region [
 kO 107 (.bin .lss 106 105)])
 y15w)
def yon : CCode :=
  (.loop [3, 104, 105, 106] y17a)
def y0p : CCode :=
  (.block 8 yon)
def yx9 : CCode :=
  (.seq (.region [
 kO 103 (.fa 3 1),
 kO 104 (.ld false 1 103),
 kO 105 (.len 1 104),
 kO 106 (.mv (ci 0))])
 y0p)
def y13l : CCode :=
  (.seq yx9
 y1pn)
def y17i : CCode :=
  (.region [
 kO 102 (.bin .add 93 (ci 1)),
 kO 93 (.mv 102)])
def y167 : CCode :=
  (.seq (.block 7 (.seq (.region [
 kO 95 (.ixs 1 91 93),
 kO 96 (.ld false 1 95),
 kO 14 (.mv 96)])
 (.region [
 kO 97 (.mv 3),
 kO 98 (.mv 14),
 kO 99 (.mv 9),
 kO 100 (.mv 7),
 kO 101 (.call none false 80 [97, 98, 99, 100]),
 kO 7 (.mv 101)])))
 y17i)
def y143 : CCode :=
  (.seq (.cond 94
 .skip
 (.exit 6))
 y167)
def y11i : CCode :=
  (.seq (.region [
 kO 94 (.bin .lss 93 92)])
 y143)
def yhw : CCode :=
  (.loop [1, 3, 7, 9, 91, 92, 93] y11i)
def y15i : CCode :=
  (.block 6 yhw)
def y17n : CCode :=
  (.seq (.region [
 kO 89 (.ld true 5 1),
 kO 90 (.mv 8),
 kO 91 (.call none true 81 [89, 90]),
 kO 92 (.len 1 91),
 kO 93 (.mv (ci 0))])
 y15i)
def y15k : CCode :=
  (.seq (.seq (.region [
 kO 78 (.fa 3 1),
 kO 79 (.ld false 1 78),
 kO 80 (.mv 8),
 kO 81 (.ixs 9 79 80),
 kO 82 (.ld true 9 81),
 kO 83 (.call none true 9 [82]),
 kO 12 (.mv 83)])
 (.seq (.region [
 kO 84 (.mv 12),
 kO 85 (.bin .geq 84 (ci 0))])
 (.cond 85
 (.region [
  kO 86 (.mv 9),
  kO 87 (.mv 12),
  kO 88 (.ixs 1 86 87),
  kU (.st 1 88 (.c (.bool true)))])
 .skip)))
 y17n)
def y17x : CCode :=
  (.region [
 kO 77 (.bin .add 68 (ci 1)),
 kO 68 (.mv 77)])
def yxc : CCode :=
  (.seq (.block 5 (.seq (.region [
 kO 70 (.ixs 1 66 68),
 kO 71 (.ld false 1 70),
 kO 11 (.mv 71)])
 (.region [
 kO 72 (.mv 3),
 kO 73 (.mv 11),
 kO 74 (.mv 9),
 kO 75 (.mv 7),
 kO 76 (.call none false 80 [72, 73, 74, 75]),
 kO 7 (.mv 76)])))
 y17x)
def y14q : CCode :=
  (.seq (.cond 69
 .skip
 (.exit 4))
 yxc)
def yzu : CCode :=
  (.seq (.region [
 kO 69 (.bin .lss 68 67)])
 y14q)
def yiy : CCode :=
  (.loop [1, 3, 7, 8, 9, 66, 67, 68] yzu)
def yzf : CCode :=
  (.block 4 yiy)
def y11v : CCode :=
  (.seq (.region [
 kO 64 (.ld true 5 1),
 kO 65 (.mv 8),
 kO 66 (.call none true 79 [64, 65]),
 kO 67 (.len 1 66),
 kO 68 (.mv (ci 0))])
 yzf)
def y141 : CCode :=
  (.seq y11v
 y15k)
def y0e : CCode :=
  (.seq (.region [
 kO 59 (.mv 3),
 kO 60 (.mv 8),
 kO 61 (.ixs 1 59 60),
 kO 62 (.ld false 1 61),
 kO 63 (.call (some 4) false 78 [62]),
 kO 9 (.mv 63)])
 y141)
def y15s : CCode :=
  (.seq (.region [
 kO 54 (.mv 7),
 kO 55 (.mv 7),
 kO 56 (.len 1 55),
 kO 57 (.bin .sub 56 (ci 1)),
 kO 58 (.slc 1 54 none (some 57)),
 kO 7 (.mv 58)])
 y0e)
def y138 : CCode :=
  (.seq (.region [
 kO 48 (.mv 7),
 kO 49 (.mv 7),
 kO 50 (.len 1 49),
 kO 51 (.bin .sub 50 (ci 1)),
 kO 52 (.ixs 1 48 51),
 kO 53 (.ld false 1 52),
 kO 8 (.mv 53)])
 y15s)
def y17d : CCode :=
  (.block 3 y138)
def yzh : CCode :=
  (.seq (.seq (.region [
 kO 45 (.mv 7),
 kO 46 (.len 1 45),
 kO 47 (.bin .gtr 46 (ci 0))])
 (.cond 47
 .skip
 (.exit 2)))
 y17d)
def yjr : CCode :=
  (.loop [1, 3, 7] yzh)
def y0l : CCode :=
  (.block 2 yjr)
def y07 : CCode :=
  (.seq y0l
 y13l)
def y11p : CCode :=
  (.seq (.region [
 kO 42 (.mv 3),
 kO 43 (.mv 4),
 kO 44 (.ixs 1 42 (ci 0)),
 kU (.st 1 44 43)])
 y07)
def yzw : CCode :=
  (.seq (.region [
 kO 41 (.buildS (some 3) 1 1 [(.int .i64 0)] [(0, (ci 0))]),
 kO 7 (.mv 41)])
 y11p)
def yy8 : CCode :=
  (.region [
 kO 40 (.bin .add 33 (ci 1)),
 kO 33 (.mv 40)])
def y113 : CCode :=
  (.seq (.block 1 (.seq (.region [
 kO 35 (.ixs 1 31 33),
 kO 36 (.ld false 1 35),
 kO 6 (.mv 36)])
 (.region [
 kO 37 (.mv 4),
 kO 38 (.mv 6),
 kO 39 (.ixs 1 37 38),
 kU (.st 1 39 (.c (.bool true)))])))
 yy8)
def y0x : CCode :=
  (.seq (.cond 34
 .skip
 (.exit 0))
 y113)
def y122 : CCode :=
  (.seq (.region [
 kO 34 (.bin .lss 33 32)])
 y0x)
def ykw : CCode :=
  (.loop [1, 3, 4, 31, 32, 33] y122)
def yy4 : CCode :=
  (.block 0 ykw)
def y188 : CCode :=
  (.seq (.region [
 kO 30 (.fa 1 1),
 kO 31 (.ld false 1 30),
 kO 32 (.len 1 31),
 kO 33 (.mv (ci 0))])
 yy4)
def y13h : CCode :=
  (.seq y188
 yzw)
def yxi : CCode :=
  (.seq (.region [
 kO 26 (.fa 0 1),
 kO 27 (.ld false 1 26),
 kO 28 (.len 1 27),
 kO 29 (.mkS (some 2) 1 1 [(.bool false)] 28 28),
 kO 4 (.mv 29)])
 y13h)
def y13m : CCode :=
  (.seq (.region [
 kO 22 (.fa 3 1),
 kO 23 (.ld false 1 22),
 kO 24 (.len 1 23),
 kO 25 (.mkS (some 1) 1 24 [.nils] 24 24),
 kO 3 (.mv 25)])
 yxi)
def y159 : CCode :=
  (.seq (.seq (.region [
 kO 19 (.ld true 5 1),
 kO 20 (.call none true 8 [19]),
 kO 21 (.bin .neq 20 (ci 0))])
 (.cond 21
 (.seq (.region [
  kO 2 (.mv (.c (.bool false)))])
  .ret)
 .skip))
 y13m)
def y140 : CCode :=
  (.seq (.region [
 kO 1 (.box (some 0) 0),
 kO 2 (.mv (.c (.bool false)))])
 y159)
def y2in : CFunc :=
  ⟨1, true, 6, y140, [.t 2]⟩
def y1i3 : CCode :=
  (.seq (.region [
 kO 2 (.mv (.c .nils))])
 .ret)
def y1g7 : CCode :=
  (.seq (.region [
 kO 58 (.fa 2 1),
 kO 59 (.ld false 1 58),
 kO 60 (.fa 3 1),
 kO 61 (.ld false 1 60),
 kO 62 (.buildS (some 6) 1 2 [(.int .i64 0)] [(0, 59), (1, 61)]),
 kO 2 (.mv 62)])
 .ret)
def y1ex : CCode :=
  (.seq (.seq (.region [
 kO 52 (.fa 3 1),
 kO 53 (.ld false 1 52),
 kO 54 (.bin .lss 53 (ci 0))])
 (.cond 54
 (.seq (.region [
  kO 55 (.fa 2 1),
  kO 56 (.ld false 1 55),
  kO 57 (.buildS (some 5) 1 1 [(.int .i64 0)] [(0, 56)]),
  kO 2 (.mv 57)])
  .ret)
 .skip))
 y1g7)
def y1ot : CCode :=
  (.cond 50
 y1ex
 (.seq (.region [
  kO 64 (.bin .eql 4 (ci 30)),
  kO 63 (.mv 64)])
  (.cond 63
  (.seq (.region [
   kO 65 (.fa 2 1),
   kO 66 (.ld false 1 65),
   kO 67 (.bin .geq 66 (ci 0))])
   (.cond 67
   (.seq (.region [
    kO 68 (.fa 2 1),
    kO 69 (.ld false 1 68),
    kO 70 (.buildS (some 7) 1 1 [(.int .i64 0)] [(0, 69)]),
    kO 2 (.mv 70)])
    .ret)
   .skip))
  .skip)))
def y1u1 : CCode :=
  (.seq (.region [
 kO 51 (.bin .eql 4 (ci 29)),
 kO 50 (.mv 51)])
 y1ot)
def y1gh : CCode :=
  (.cond 42
 (.seq (.region [
  kO 47 (.fa 8 1),
  kO 48 (.ld false 1 47),
  kO 49 (.call (some 4) false 39 [48]),
  kO 2 (.mv 49)])
  .ret)
 y1u1)
def y1la : CCode :=
  (.seq (.seq (.region [
 kO 43 (.bin .eql 4 (ci 23)),
 kO 42 (.mv 43)])
 (.cond 42
 .skip
 (.seq (.region [
  kO 44 (.bin .eql 4 (ci 24)),
  kO 42 (.mv 44)])
  (.cond 42
  .skip
  (.seq (.region [
   kO 45 (.bin .eql 4 (ci 25)),
   kO 42 (.mv 45)])
   (.cond 42
   .skip
   (.region [
    kO 46 (.bin .eql 4 (ci 26)),
    kO 42 (.mv 46)])))))))
 y1gh)
def y1rj : CCode :=
  (.cond 33
 (.seq (.region [
  kO 35 (.fa 2 1),
  kO 36 (.ld false 1 35),
  kO 37 (.fa 3 1),
  kO 38 (.ld false 1 37),
  kO 39 (.fa 4 1),
  kO 40 (.ld false 1 39),
  kO 41 (.buildS (some 3) 1 3 [(.int .i64 0)] [(0, 36), (1, 38), (2, 40)]),
  kO 2 (.mv 41)])
  .ret)
 y1la)
def y1oh : CCode :=
  (.seq (.region [
 kO 34 (.bin .eql 4 (ci 14)),
 kO 33 (.mv 34)])
 y1rj)
def y02 : CCode :=
  (.cond 21
 (.seq (.region [
  kO 28 (.fa 2 1),
  kO 29 (.ld false 1 28),
  kO 30 (.fa 3 1),
  kO 31 (.ld false 1 30),
  kO 32 (.buildS (some 2) 1 2 [(.int .i64 0)] [(0, 29), (1, 31)]),
  kO 2 (.mv 32)])
  .ret)
 y1oh)
def y0b : CCode :=
  (.seq (.seq (.region [
 kO 22 (.bin .eql 4 (ci 5)),
 kO 21 (.mv 22)])
 (.cond 21
 .skip
 (.seq (.region [
  kO 23 (.bin .eql 4 (ci 9)),
  kO 21 (.mv 23)])
  (.cond 21
  .skip
  (.seq (.region [
   kO 24 (.bin .eql 4 (ci 11)),
   kO 21 (.mv 24)])
   (.cond 21
   .skip
   (.seq (.region [
    kO 25 (.bin .eql 4 (ci 13)),
    kO 21 (.mv 25)])
    (.cond 21
    .skip
    (.seq (.region [
     kO 26 (.bin .eql 4 (ci 17)),
     kO 21 (.mv 26)])
     (.cond 21
     .skip
     (.region [
      kO 27 (.bin .eql 4 (ci 28)),
      kO 21 (.mv 27)])))))))))))
 y02)
def yzq : CCode :=
  (.cond 5
 (.seq (.region [
  kO 18 (.fa 2 1),
  kO 19 (.ld false 1 18),
  kO 20 (.buildS (some 1) 1 1 [(.int .i64 0)] [(0, 19)]),
  kO 2 (.mv 20)])
  .ret)
 y0b)
def y15j : CCode :=
  (.seq (.seq (.region [
 kO 6 (.bin .eql 4 (ci 4)),
 kO 5 (.mv 6)])
 (.cond 5
 .skip
 (.seq (.region [
  kO 7 (.bin .eql 4 (ci 6)),
  kO 5 (.mv 7)])
  (.cond 5
  .skip
  (.seq (.region [
   kO 8 (.bin .eql 4 (ci 7)),
   kO 5 (.mv 8)])
   (.cond 5
   .skip
   (.seq (.region [
    kO 9 (.bin .eql 4 (ci 8)),
    kO 5 (.mv 9)])
    (.cond 5
    .skip
    (.seq (.region [
     kO 10 (.bin .eql 4 (ci 10)),
     kO 5 (.mv 10)])
     (.cond 5
     .skip
     (.seq (.region [
      kO 11 (.bin .eql 4 (ci 12)),
      kO 5 (.mv 11)])
      (.cond 5
      .skip
      (.seq (.region [
       kO 12 (.bin .eql 4 (ci 15)),
       kO 5 (.mv 12)])
       (.cond 5
       .skip
       (.seq (.region [
        kO 13 (.bin .eql 4 (ci 16)),
        kO 5 (.mv 13)])
        (.cond 5
        .skip
        (.seq (.region [
         kO 14 (.bin .eql 4 (ci 19)),
         kO 5 (.mv 14)])
         (.cond 5
         .skip
         (.seq (.region [
          kO 15 (.bin .eql 4 (ci 21)),
          kO 5 (.mv 15)])
          (.cond 5
          .skip
          (.seq (.region [
           kO 16 (.bin .eql 4 (ci 22)),
           kO 5 (.mv 16)])
           (.cond 5
           .skip
           (.region [
            kO 17 (.bin .eql 4 (ci 31)),
            kO 5 (.mv 17)])))))))))))))))))))))))
 yzq)
def y14d : CCode :=
  (.block 0 y15j)
def y189 : CCode :=
  (.seq (.region [
 kO 3 (.fa 0 1),
 kO 4 (.ld false 1 3)])
 y14d)
def y14c : CCode :=
  (.seq y189
 y1i3)
def y13g : CCode :=
  (.seq (.region [
 kO 1 (.box (some 0) 0),
 kO 2 (.mv (.c .nils))])
 y14c)
def y2is : CFunc :=
  ⟨1, true, 8, y13g, [.t 2]⟩
def y1em : CCode :=
  (.seq (.region [
 kO 2 (.mv (ci (-1)))])
 .ret)
def y1fr : CCode :=
  (.seq (.seq (.region [
 kO 22 (.ld true 9 1),
 kO 23 (.call none true 17 [22])])
 (.cond 23
 (.seq (.region [
  kO 24 (.fa 1 1),
  kO 25 (.ld false 1 24),
  kO 2 (.mv 25)])
  .ret)
 .skip))
 y1em)
def y1pe : CCode :=
  (.cond 5
 (.seq (.region [
  kO 20 (.fa 1 1),
  kO 21 (.ld false 1 20),
  kO 2 (.mv 21)])
  .ret)
 .skip)
def y1kj : CCode :=
  (.seq (.seq (.region [
 kO 6 (.bin .eql 4 (ci 1)),
 kO 5 (.mv 6)])
 (.cond 5
 .skip
 (.seq (.region [
  kO 7 (.bin .eql 4 (ci 2)),
  kO 5 (.mv 7)])
  (.cond 5
  .skip
  (.seq (.region [
   kO 8 (.bin .eql 4 (ci 3)),
   kO 5 (.mv 8)])
   (.cond 5
   .skip
   (.seq (.region [
    kO 9 (.bin .eql 4 (ci 4)),
    kO 5 (.mv 9)])
    (.cond 5
    .skip
    (.seq (.region [
     kO 10 (.bin .eql 4 (ci 5)),
     kO 5 (.mv 10)])
     (.cond 5
     .skip
     (.seq (.region [
      kO 11 (.bin .eql 4 (ci 6)),
      kO 5 (.mv 11)])
      (.cond 5
      .skip
      (.seq (.region [
       kO 12 (.bin .eql 4 (ci 13)),
       kO 5 (.mv 12)])
       (.cond 5
       .skip
       (.seq (.region [
        kO 13 (.bin .eql 4 (ci 15)),
        kO 5 (.mv 13)])
        (.cond 5
        .skip
        (.seq (.region [
         kO 14 (.bin .eql 4 (ci 16)),
         kO 5 (.mv 14)])
         (.cond 5
         .skip
         (.seq (.region [
          kO 15 (.bin .eql 4 (ci 18)),
          kO 5 (.mv 15)])
          (.cond 5
          .skip
          (.seq (.region [
           kO 16 (.bin .eql 4 (ci 20)),
           kO 5 (.mv 16)])
           (.cond 5
           .skip
           (.seq (.region [
            kO 17 (.bin .eql 4 (ci 21)),
            kO 5 (.mv 17)])
            (.cond 5
            .skip
            (.seq (.region [
             kO 18 (.bin .eql 4 (ci 22)),
             kO 5 (.mv 18)])
             (.cond 5
             .skip
             (.region [
              kO 19 (.bin .eql 4 (ci 32)),
              kO 5 (.mv 19)])))))))))))))))))))))))))))
 y1pe)
def y1hj : CCode :=
  (.block 0 y1kj)
def y1vg : CCode :=
  (.seq (.region [
 kO 3 (.fa 0 1),
 kO 4 (.ld false 1 3)])
 y1hj)
def y1h2 : CCode :=
  (.seq y1vg
 y1fr)
def y1pb : CCode :=
  (.seq (.region [
 kO 1 (.box (some 0) 0),
 kO 2 (.mv (ci 0))])
 y1h2)
def y2mb : CFunc :=
  ⟨1, true, 1, y1pb, [.t 2]⟩
def y11s : CCode :=
  (.seq (.region [
 kO 5 (.buildS (some 0) 1 0 [(.int .i64 0)] []),
 kO 6 (.mv 0),
 kO 7 (.app (some 1) 1 8 5 6),
 kO 2 (.mv 7)])
 .ret)
def y0w : CCode :=
  (.seq (.seq (.region [
 kO 3 (.mv 0),
 kO 4 (.eqn 1 false 3 (.c .nils))])
 (.cond 4
 (.seq (.region [
  kO 2 (.mv (.c .nils))])
  .ret)
 .skip))
 y11s)
def y11d : CCode :=
  (.seq (.region [
 kO 2 (.mv (.c .nils))])
 y0w)
def y26r : CFunc :=
  ⟨1, true, 2, y11d, [.t 2]⟩
def y16e : CCode :=
  (.seq (.region [
 kO 5 (.buildS (some 0) 9 0 [(.int .i64 0), (.int .i64 0), (.int .i64 0), (.int .i64 0), (.int .i64 0), (.int .i64 0), (.int .i64 0), (.str []), .nils] []),
 kO 6 (.mv 0),
 kO 7 (.app (some 1) 9 96 5 6),
 kO 2 (.mv 7)])
 .ret)
def y06 : CCode :=
  (.seq (.seq (.region [
 kO 3 (.mv 0),
 kO 4 (.eqn 1 false 3 (.c .nils))])
 (.cond 4
 (.seq (.region [
  kO 2 (.mv (.c .nils))])
  .ret)
 .skip))
 y16e)
def y12x : CCode :=
  (.seq (.region [
 kO 2 (.mv (.c .nils))])
 y06)
def y26c : CFunc :=
  ⟨1, true, 2, y12x, [.t 2]⟩
def y17c : CCode :=
  (.seq (.region [
 kO 5 (.buildS (some 0) 4 0 [(.int .i64 0), (.int .i64 0), (.int .i64 0), (.str [])] []),
 kO 6 (.mv 0),
 kO 7 (.app (some 1) 4 40 5 6),
 kO 2 (.mv 7)])
 .ret)
def y112 : CCode :=
  (.seq (.seq (.region [
 kO 3 (.mv 0),
 kO 4 (.eqn 1 false 3 (.c .nils))])
 (.cond 4
 (.seq (.region [
  kO 2 (.mv (.c .nils))])
  .ret)
 .skip))
 y17c)
def y130 : CCode :=
  (.seq (.region [
 kO 2 (.mv (.c .nils))])
 y112)
def y26h : CFunc :=
  ⟨1, true, 2, y130, [.t 2]⟩
def y180 : CCode :=
  (.seq (.region [
 kO 4 (.mv (.c (.bool true)))])
 .ret)
def yy0 : CCode :=
  (.region [
 kO 15 (.mv 5),
 kO 16 (.bin .add 15 (ci 1)),
 kO 5 (.mv 16)])
def yz0 : CCode :=
  (.seq (.block 1 (.seq (.draw [
 kO 17 (.mv 0),
 kO 18 (.mv 5),
 kO 19 (.ixs 1 17 18),
 kO 20 (.ld false 1 19),
 kO 21 (.mv 1),
 kO 22 (.mv 5),
 kO 23 (.ixs 1 21 22),
 kO 24 (.ld false 1 23),
 kO 25 (.bin .neq 20 24)] [])
 (.cond 25
 (.seq (.region [
  kO 4 (.mv (.c (.bool false)))])
  .ret)
 .skip)))
 yy0)
def yyt : CCode :=
  (.seq (.seq (.region [
 kO 11 (.mv 5),
 kO 12 (.mv 0),
 kO 13 (.len 1 12),
 kO 14 (.bin .lss 11 13)])
 (.cond 14
 .skip
 (.exit 0)))
 yz0)
def ykt : CCode :=
  (.loop [0, 1, 5] yyt)
def yy1 : CCode :=
  (.block 0 ykt)
def yzk : CCode :=
  (.seq (.region [
 kO 5 (.mv (ci 0))])
 yy1)
def y0a : CCode :=
  (.seq yzk
 y180)
def y12g : CCode :=
  (.seq (.seq (.region [
 kO 6 (.mv 0),
 kO 7 (.len 1 6),
 kO 8 (.mv 1),
 kO 9 (.len 1 8),
 kO 10 (.bin .neq 7 9)])
 (.cond 10
 (.seq (.region [
  kO 4 (.mv (.c (.bool false)))])
  .ret)
 .skip))
 y0a)
def ysm : CCode :=
  (.seq (.region [
 kO 4 (.mv (.c (.bool false)))])
 y12g)
def y260 : CFunc :=
  ⟨2, true, 0, ysm, [.t 4]⟩
def yyl : CCode :=
  (.seq (.region [
 kO 2 (.box (some 0) 0),
 kO 3 (.box (some 1) 1),
 kO 4 (.mv (.c (.bool false)))])
 (.seq (.region [
 kO 5 (.fa 0 2),
 kO 6 (.ld false 1 5),
 kO 7 (.fa 0 3),
 kO 8 (.ld false 1 7),
 kO 9 (.bin .eql 6 8),
 kO 10 (.mv 9),
 kG 11 (.fa 1 2) 10 true,
 kG 12 (.ld false 1 11) 10 true,
 kG 13 (.fa 1 3) 10 true,
 kG 14 (.ld false 1 13) 10 true,
 kG 15 (.bin .eql 12 14) 10 true,
 kO 16 (.pick 10 15 (.c (.bool false))),
 kO 17 (.mv 16),
 kG 18 (.fa 2 2) 17 true,
 kG 19 (.ld false 1 18) 17 true,
 kG 20 (.fa 2 3) 17 true,
 kG 21 (.ld false 1 20) 17 true,
 kG 22 (.bin .eql 19 21) 17 true,
 kO 23 (.pick 17 22 (.c (.bool false))),
 kO 24 (.mv 23),
 kG 25 (.fa 3 2) 24 true,
 kG 26 (.ld false 1 25) 24 true,
 kG 27 (.fa 3 3) 24 true,
 kG 28 (.ld false 1 27) 24 true,
 kG 29 (.bin .eql 26 28) 24 true,
 kO 30 (.pick 24 29 (.c (.bool false))),
 kO 31 (.mv 30),
 kG 32 (.fa 4 2) 31 true,
 kG 33 (.ld false 1 32) 31 true,
 kG 34 (.fa 4 3) 31 true,
 kG 35 (.ld false 1 34) 31 true,
 kG 36 (.bin .eql 33 35) 31 true,
 kO 37 (.pick 31 36 (.c (.bool false))),
 kO 38 (.mv 37),
 kG 39 (.fa 5 2) 38 true,
 kG 40 (.ld false 1 39) 38 true,
 kG 41 (.fa 5 3) 38 true,
 kG 42 (.ld false 1 41) 38 true,
 kG 43 (.bin .eql 40 42) 38 true,
 kO 44 (.pick 38 43 (.c (.bool false))),
 kO 45 (.mv 44),
 kG 46 (.fa 6 2) 45 true,
 kG 47 (.ld false 1 46) 45 true,
 kG 48 (.fa 6 3) 45 true,
 kG 49 (.ld false 1 48) 45 true,
 kG 50 (.bin .eql 47 49) 45 true,
 kO 51 (.pick 45 50 (.c (.bool false))),
 kO 52 (.mv 51),
 kG 53 (.fa 7 2) 52 true,
 kG 54 (.ld false 1 53) 52 true,
 kG 55 (.fa 7 3) 52 true,
 kG 56 (.ld false 1 55) 52 true,
 kG 57 (.bin .eql 54 56) 52 true,
 kO 58 (.pick 52 57 (.c (.bool false))),
 kO 59 (.mv 58),
 kG 60 (.fa 8 2) 59 true,
 kG 61 (.ld false 1 60) 59 true,
 kG 62 (.fa 8 3) 59 true,
 kG 63 (.ld false 1 62) 59 true,
 kG 64 (.call none true 11 [61, 63]) 59 true,
 kO 65 (.pick 59 64 (.c (.bool false))),
 kO 4 (.mv 65)])
 .ret))
def y27o : CFunc :=
  ⟨2, true, 2, yyl, [.t 4]⟩
def y1do : CCode :=
  (.seq (.region [
 kO 1 (.box (some 0) 0),
 kO 2 (.mv (.c (.bool false)))])
 (.seq (.region [
 kO 3 (.fa 0 1),
 kO 4 (.ld false 1 3),
 kO 5 (.bin .eql 4 (ci 27)),
 kO 6 (.mv 5),
 kG 7 (.fa 0 1) 6 false,
 kG 8 (.ld false 1 7) 6 false,
 kG 9 (.bin .eql 8 (ci 30)) 6 false,
 kO 10 (.pick 6 (.c (.bool true)) 9),
 kO 11 (.mv 10),
 kG 12 (.fa 0 1) 11 false,
 kG 13 (.ld false 1 12) 11 false,
 kG 14 (.bin .eql 13 (ci 31)) 11 false,
 kO 15 (.pick 11 (.c (.bool true)) 14),
 kO 2 (.mv 15)])
 .ret))
def y2hs : CFunc :=
  ⟨1, true, 1, y1do, [.t 2]⟩
def y16d : CCode :=
  (.seq (.region [
 kO 4 (.mv (.c (.bool false)))])
 (.seq (.region [
 kO 5 (.mv 0),
 kO 6 (.mv 1),
 kO 7 (.call none true 45 [5, 6]),
 kO 8 (.bin .geq 7 (ci 0)),
 kO 4 (.mv 8)])
 .ret))
def y26x : CFunc :=
  ⟨2, true, 0, y16d, [.t 4]⟩
def y1lj : CCode :=
  (.seq (.region [
 kO 183 (.ld true 9 3),
 kO 184 (.call none true 22 [183]),
 kO 185 (.un .not 184),
 kO 186 (.mv 185),
 kG 187 (.fa 6 3) 186 false,
 kG 188 (.ld false 1 187) 186 false,
 kG 189 (.bin .geq 188 (ci 0)) 186 false,
 kG 190 (.mv 189) 186 false,
 kG 191 (.fa 6 3) 190 true,
 kG 192 (.ld false 1 191) 190 true,
 kG 193 (.fa 3 2) 190 true,
 kG 194 (.ld false 1 193) 190 true,
 kG 195 (.len 1 194) 190 true,
 kG 196 (.bin .lss 192 195) 190 true,
 kG 197 (.pick 190 196 (.c (.bool false))) 186 false,
 kO 198 (.pick 186 (.c (.bool true)) 197),
 kO 4 (.mv 198)])
 .ret)
def y1s1 : CCode :=
  (.seq (.seq (.region [
 kO 105 (.fa 0 3),
 kO 106 (.ld false 1 105)])
 (.block 4 (.seq (.region [
 kO 108 (.bin .eql 106 (ci 1)),
 kO 107 (.mv 108)])
 (.cond 107
 (.seq (.region [
  kO 109 (.fa 0 2),
  kO 110 (.ld false 1 109),
  kO 111 (.fa 1 3),
  kO 112 (.ld false 1 111),
  kO 113 (.ixs 1 110 112),
  kO 114 (.ld false 1 113),
  kO 115 (.bin .neq 114 (ci 3)),
  kO 116 (.mv 115),
  kG 117 (.fa 0 2) 116 true,
  kG 118 (.ld false 1 117) 116 true,
  kG 119 (.fa 1 3) 116 true,
  kG 120 (.ld false 1 119) 116 true,
  kG 121 (.ixs 1 118 120) 116 true,
  kG 122 (.ld false 1 121) 116 true,
  kG 123 (.bin .eql 122 (ci 2)) 116 true,
  kG 124 (.mv 123) 116 true,
  kG 125 (.fa 5 3) 124 false,
  kG 126 (.ld false 1 125) 124 false,
  kG 127 (.fa 5 3) 124 false,
  kG 128 (.ld false 1 127) 124 false,
  kG 129 (.cvi .i32 128) 124 false,
  kG 130 (.cvi .i64 129) 124 false,
  kG 131 (.bin .eql 126 130) 124 false,
  kG 132 (.pick 124 (.c (.bool true)) 131) 116 true,
  kO 133 (.pick 116 132 (.c (.bool false))),
  kO 4 (.mv 133)])
  .ret)
 (.seq (.region [
  kO 135 (.bin .eql 106 (ci 4)),
  kO 134 (.mv 135)])
  (.cond 134
  (.seq (.draw [
   kO 136 (.fa 0 2),
   kO 137 (.ld false 1 136),
   kO 138 (.fa 1 3),
   kO 139 (.ld false 1 138),
   kO 140 (.ixs 1 137 139),
   kO 141 (.ld false 1 140),
   kO 142 (.fa 0 2),
   kO 143 (.ld false 1 142),
   kO 144 (.fa 2 3),
   kO 145 (.ld false 1 144),
   kO 146 (.ixs 1 143 145),
   kO 147 (.ld false 1 146),
   kO 148 (.bin .eql 141 147),
   kO 4 (.mv 148)] [])
   .ret)
  (.seq (.region [
   kO 150 (.bin .eql 106 (ci 7)),
   kO 149 (.mv 150)])
   (.cond 149
   (.seq (.region [
    kO 151 (.fa 0 2),
    kO 152 (.ld false 1 151),
    kO 153 (.fa 2 3),
    kO 154 (.ld false 1 153),
    kO 155 (.ixs 1 152 154),
    kO 156 (.ld false 1 155),
    kO 157 (.bin .neq 156 (ci 3)),
    kO 4 (.mv 157)])
    .ret)
   (.seq (.region [
    kO 159 (.bin .eql 106 (ci 30)),
    kO 158 (.mv 159)])
    (.cond 158
    (.seq (.draw [
     kO 160 (.fa 2 3),
     kO 161 (.ld false 1 160),
     kO 162 (.bin .eql 161 (ci (-1))),
     kO 163 (.fa 2 2),
     kO 164 (.ld false 1 163),
     kO 165 (.bin .eql 164 (ci 0)),
     kO 166 (.eqb false 162 165),
     kO 167 (.mv 166),
     kG 168 (.fa 2 3) 167 true,
     kG 169 (.ld false 1 168) 167 true,
     kG 170 (.bin .eql 169 (ci (-1))) 167 true,
     kG 171 (.mv 170) 167 true,
     kG 172 (.fa 0 2) 171 false,
     kG 173 (.ld false 1 172) 171 false,
     kG 174 (.fa 2 3) 171 false,
     kG 175 (.ld false 1 174) 171 false,
     kG 176 (.ixs 1 173 175) 171 false,
     kG 177 (.ld false 1 176) 171 false,
     kG 178 (.fa 2 2) 171 false,
     kG 179 (.ld false 1 178) 171 false,
     kG 180 (.bin .eql 177 179) 171 false,
     kG 181 (.pick 171 (.c (.bool true)) 180) 167 true,
     kO 182 (.pick 167 181 (.c (.bool false))),
     kO 4 (.mv 182)] [])
     .ret)
    .skip))))))))))
 y1lj)
def y1h5 : CCode :=
  (.region [
 kO 104 (.bin .add 65 (ci 1)),
 kO 65 (.mv 104)])
def y1ne : CCode :=
  (.seq (.region [
 kO 73 (.mv 10),
 kO 74 (.bin .lss 73 (ci 0)),
 kO 75 (.mv 74),
 kG 76 (.mv 10) 75 false,
 kG 77 (.fa 0 2) 75 false,
 kG 78 (.ld false 1 77) 75 false,
 kG 79 (.len 1 78) 75 false,
 kG 80 (.bin .geq 76 79) 75 false,
 kO 81 (.pick 75 (.c (.bool true)) 80),
 kO 82 (.mv 81),
 kG 83 (.mv 9) 82 false,
 kG 84 (.bin .eql 83 (ci 0)) 82 false,
 kG 85 (.mv 84) 82 false,
 kG 86 (.fa 0 3) 85 true,
 kG 87 (.ld false 1 86) 85 true,
 kG 88 (.bin .eql 87 (ci 24)) 85 true,
 kG 89 (.mv 88) 85 true,
 kG 90 (.fa 0 3) 89 false,
 kG 91 (.ld false 1 90) 89 false,
 kG 92 (.bin .eql 91 (ci 25)) 89 false,
 kG 93 (.pick 89 (.c (.bool true)) 92) 85 true,
 kG 94 (.pick 85 93 (.c (.bool false))) 82 false,
 kG 95 (.mv 94) 82 false,
 kG 96 (.fa 0 2) 95 true,
 kG 97 (.ld false 1 96) 95 true,
 kG 98 (.mv 10) 95 true,
 kG 99 (.ixs 1 97 98) 95 true,
 kG 100 (.ld false 1 99) 95 true,
 kG 101 (.bin .neq 100 (ci 3)) 95 true,
 kG 102 (.pick 95 101 (.c (.bool false))) 82 false,
 kO 103 (.pick 82 (.c (.bool true)) 102)])
 (.cond 103
 (.seq (.region [
  kO 4 (.mv (.c (.bool false)))])
  .ret)
 .skip))
def y1lc : CCode :=
  (.seq (.seq (.region [
 kO 70 (.ld true 9 3),
 kO 71 (.call none true 17 [70]),
 kO 72 (.un .not 71)])
 (.cond 72
 (.exit 2)
 .skip))
 y1ne)
def y1rk : CCode :=
  (.seq (.region [
 kO 67 (.mv 65),
 kO 68 (.ixs 1 63 65),
 kO 69 (.ld false 1 68),
 kO 9 (.mv 67),
 kO 10 (.mv 69)])
 y1lc)
def y1su : CCode :=
  (.block 3 y1rk)
def y1qp : CCode :=
  (.seq y1su
 y1h5)
def y11w : CCode :=
  (.seq (.cond 66
 .skip
 (.exit 2))
 y1qp)
def yzg : CCode :=
  (.seq (.region [
 kO 66 (.bin .lss 65 64)])
 y11w)
def yp4 : CCode :=
  (.loop [2, 3, 63, 64, 65] yzg)
def yz7 : CCode :=
  (.block 2 yp4)
def yxq : CCode :=
  (.seq (.region [
 kO 62 (.fa 8 3),
 kO 63 (.ld false 1 62),
 kO 64 (.len 1 63),
 kO 65 (.mv (ci 0))])
 yz7)
def y14a : CCode :=
  (.seq yxq
 y1s1)
def yzi : CCode :=
  (.region [
 kO 61 (.bin .add 27 (ci 1)),
 kO 27 (.mv 61)])
def y14p : CCode :=
  (.seq (.draw [
 kO 35 (.mv 8),
 kO 36 (.bin .lss 35 (ci 0)),
 kO 37 (.mv 36),
 kG 38 (.mv 8) 37 false,
 kG 39 (.fa 0 2) 37 false,
 kG 40 (.ld false 1 39) 37 false,
 kG 41 (.len 1 40) 37 false,
 kG 42 (.bin .geq 38 41) 37 false,
 kO 43 (.pick 37 (.c (.bool true)) 42),
 kO 44 (.mv 43),
 kG 45 (.mv 7) 44 false,
 kG 46 (.ixa 4 1 5 45) 44 false,
 kG 47 (.ld false 1 46) 44 false,
 kG 48 (.bin .gtr 47 (ci 0)) 44 false,
 kG 49 (.mv 48) 44 false,
 kG 50 (.fa 0 2) 49 true,
 kG 51 (.ld false 1 50) 49 true,
 kG 52 (.mv 8) 49 true,
 kG 53 (.ixs 1 51 52) 49 true,
 kG 54 (.ld false 1 53) 49 true,
 kG 55 (.mv 7) 49 true,
 kG 56 (.ixa 4 1 5 55) 49 true,
 kG 57 (.ld false 1 56) 49 true,
 kG 58 (.bin .neq 54 57) 49 true,
 kG 59 (.pick 49 58 (.c (.bool false))) 44 false,
 kO 60 (.pick 44 (.c (.bool true)) 59)] [])
 (.cond 60
 (.seq (.region [
  kO 4 (.mv (.c (.bool false)))])
  .ret)
 .skip))
def yyp : CCode :=
  (.seq (.seq (.region [
 kO 31 (.mv 7),
 kO 32 (.ixa 4 1 5 31),
 kO 33 (.ld false 1 32),
 kO 34 (.bin .lss 33 (ci 0))])
 (.cond 34
 (.exit 1)
 .skip))
 y14p)
def y12n : CCode :=
  (.seq (.region [
 kO 29 (.mv 27),
 kO 30 (.ixv false 4 1 26 27),
 kO 7 (.mv 29),
 kO 8 (.mv 30)])
 yyp)
def y15v : CCode :=
  (.block 1 y12n)
def y170 : CCode :=
  (.seq y15v
 yzi)
def y11f : CCode :=
  (.seq (.cond 28
 .skip
 (.exit 0))
 y170)
def yze : CCode :=
  (.seq (.region [
 kO 28 (.bin .lss 27 (ci 4))])
 y11f)
def yhv : CCode :=
  (.loop [2, 3, 5, 26, 27] yze)
def yxz : CCode :=
  (.block 0 yhv)
def y12a : CCode :=
  (.seq (.region [
 kO 18 (.fa 1 3),
 kO 19 (.ld false 1 18),
 kO 20 (.fa 2 3),
 kO 21 (.ld false 1 20),
 kO 22 (.fa 3 3),
 kO 23 (.ld false 1 22),
 kO 24 (.fa 4 3),
 kO 25 (.ld false 1 24),
 kO 26 (.build [(.int .i64 0), (.int .i64 0), (.int .i64 0), (.int .i64 0)] [(0, 1, 19), (1, 1, 21), (2, 1, 23), (3, 1, 25)]),
 kO 27 (.mv (ci 0))])
 yxz)
def y165 : CCode :=
  (.seq y12a
 y14a)
def y13p : CCode :=
  (.seq (.seq (.region [
 kO 16 (.mv 6),
 kO 17 (.un .not 16)])
 (.cond 17
 (.seq (.region [
  kO 4 (.mv (.c (.bool false)))])
  .ret)
 .skip))
 y165)
def y12p : CCode :=
  (.seq (.region [
 kO 12 (.ld true 9 3),
 kO 13 (.call none true 47 [12]),
 kO 11 (.mv 13),
 kO 14 (.ext 0 11),
 kO 15 (.ext 1 11),
 kO 5 (.new (some 2) [(.int .i64 0), (.int .i64 0), (.int .i64 0), (.int .i64 0)]),
 kU (.st 4 5 14),
 kO 6 (.mv 15)])
 y13p)
def y0d : CCode :=
  (.seq (.region [
 kO 2 (.box (some 0) 0),
 kO 3 (.box (some 1) 1),
 kO 4 (.mv (.c (.bool false)))])
 y12p)
def y2iw : CFunc :=
  ⟨2, true, 3, y0d, [.t 4]⟩
def y1nl : CCode :=
  (.seq (.region [
 kO 1 (.box (some 0) 0),
 kO 2 (.mv (.c (.bool false)))])
 (.seq (.region [
 kO 3 (.fa 0 1),
 kO 4 (.ld false 1 3),
 kO 5 (.bin .eql 4 (ci 27)),
 kO 6 (.mv 5),
 kG 7 (.fa 0 1) 6 false,
 kG 8 (.ld false 1 7) 6 false,
 kG 9 (.bin .eql 8 (ci 28)) 6 false,
 kO 10 (.pick 6 (.c (.bool true)) 9),
 kO 11 (.mv 10),
 kG 12 (.fa 0 1) 11 false,
 kG 13 (.ld false 1 12) 11 false,
 kG 14 (.bin .eql 13 (ci 29)) 11 false,
 kO 15 (.pick 11 (.c (.bool true)) 14),
 kO 2 (.mv 15)])
 .ret))
def y2hi : CFunc :=
  ⟨1, true, 1, y1nl, [.t 2]⟩
def y1qf : CCode :=
  (.region [
 kO 36 (.ld false 1 3),
 kO 37 (.mv 0),
 kO 38 (.buildS (some 0) 1 1 [(.int .i64 0)] [(0, 37)]),
 kO 39 (.app (some 1) 1 8 36 38),
 kU (.st 1 3 39)])
def y1mt : CCode :=
  (.region [
 kO 21 (.ld false 1 2),
 kO 22 (.mv 0),
 kO 23 (.mv 6),
 kO 24 (.ixs 1 21 22),
 kU (.st 1 24 23)])
def y1dq : CCode :=
  (.seq (.seq (.draw [
 kO 13 (.mv 6),
 kO 14 (.len 2 13),
 kO 15 (.ld false 1 2),
 kO 16 (.mv 0),
 kO 17 (.ixs 1 15 16),
 kO 18 (.ld false 1 17),
 kO 19 (.len 2 18),
 kO 20 (.bin .eql 14 19)] [])
 (.cond 20
 .ret
 .skip))
 y1mt)
def y1qb : CCode :=
  (.seq (.region [
 kO 7 (.ld false 1 2),
 kO 8 (.mv 0),
 kO 9 (.ixs 1 7 8),
 kO 10 (.ld false 1 9),
 kO 11 (.mv 1),
 kO 12 (.call none true 170 [10, 11]),
 kO 6 (.mv 12)])
 y1dq)
def y1da : CCode :=
  (.cond 25
 (.draw [
  kO 31 (.ld false 1 2),
  kO 32 (.mv 0),
  kO 33 (.mv 1),
  kO 34 (.call none true 161 [33]),
  kO 35 (.ixs 1 31 32),
  kU (.st 1 35 34)] [(0, 3)])
 y1qb)
def y1n6 : CCode :=
  (.seq (.region [
 kO 26 (.ld false 1 2),
 kO 27 (.mv 0),
 kO 28 (.ixs 1 26 27),
 kO 29 (.ld false 1 28),
 kO 30 (.eqn 2 false 29 (.c .nilm)),
 kO 25 (.mv 30)])
 y1da)
def y1jc : CCode :=
  (.block 0 y1n6)
def y1oa : CCode :=
  (.seq y1jc
 y1qf)
def y2ic : CFunc :=
  ⟨4, false, 2, y1oa, []⟩
def y1j8 : CCode :=
  (.seq (.region [
 kO 19 (.mv 5),
 kO 4 (.mv 19)])
 .ret)
def y1jk : CCode :=
  (.seq (.region [
 kO 14 (.mv 1),
 kO 15 (.ld true 3 6),
 kO 16 (.mget true [0, 0, 0] (.bool false) false 14 15)])
 (.cond 16
 (.region [
  kO 17 (.mv 5),
  kO 18 (.ld true 3 6),
  kU (.mput true [0, 0, 0] 17 18 (.c (.bool true)))])
 .skip))
def y1mi : CCode :=
  (.mrange [
 kO 8 (.mv 0)] 8 [1, 5] 12 [
 kO 13 (.ext 0 12),
 kO 6 (.new (some 1) [(.int .i64 0), (.int .i64 0), (.int .i64 0)]),
 kU (.st 3 6 13)] (.kill [1] y1jk))
def y1ga : CCode :=
  (.seq y1mi
 y1j8)
def y1iw : CCode :=
  (.seq (.region [
 kO 7 (.mkm (some 0)),
 kO 5 (.mv 7)])
 y1ga)
def y1we : CCode :=
  (.seq (.region [
 kO 4 (.mv (.c .nilm))])
 y1iw)
def y2ho : CFunc :=
  ⟨2, true, 2, y1we, [.t 4]⟩
def y1vj : CCode :=
  (.seq (.region [
 kO 57 (.mv 5),
 kO 4 (.mv 57)])
 .ret)
def y1lu : CCode :=
  (.region [
 kO 56 (.bin .add 29 (ci 1)),
 kO 29 (.mv 56)])
def y1v2 : CCode :=
  (.seq (.region [
 kO 53 (.fa 3 7),
 kO 54 (.ld false 1 53),
 kO 55 (.bin .eql 54 (.c (.str [])))])
 (.cond 55
 (.exit 0)
 .skip))
def y1qo : CCode :=
  (.seq (.seq (.region [
 kO 43 (.mv 5),
 kO 44 (.fa 2 7),
 kO 45 (.ld false 1 44),
 kO 46 (.call none true 46 [43, 45]),
 kO 47 (.un .not 46)])
 (.cond 47
 (.region [
  kO 48 (.mv 5),
  kO 49 (.fa 2 7),
  kO 50 (.ld false 1 49),
  kO 51 (.buildS (some 2) 1 1 [(.int .i64 0)] [(0, 50)]),
  kO 52 (.app (some 3) 1 8 48 51),
  kO 5 (.mv 52)])
 .skip))
 y1v2)
def y1tc : CCode :=
  (.seq (.seq (.region [
 kO 33 (.mv 1),
 kO 34 (.fa 0 7),
 kO 35 (.ld false 1 34),
 kO 36 (.bin .lss 33 35),
 kO 37 (.mv 36),
 kG 38 (.mv 1) 37 false,
 kG 39 (.fa 1 7) 37 false,
 kG 40 (.ld false 1 39) 37 false,
 kG 41 (.bin .geq 38 40) 37 false,
 kO 42 (.pick 37 (.c (.bool true)) 41)])
 (.cond 42
 (.exit 1)
 .skip))
 y1qo)
def y1nb : CCode :=
  (.seq (.region [
 kO 31 (.ixs 4 27 29),
 kO 32 (.ld true 4 31),
 kO 7 (.new (some 1) [(.int .i64 0), (.int .i64 0), (.int .i64 0), (.str [])]),
 kU (.st 4 7 32)])
 y1tc)
def y1qg : CCode :=
  (.block 1 y1nb)
def y1hu : CCode :=
  (.seq y1qg
 y1lu)
def y14w : CCode :=
  (.seq (.cond 30
 .skip
 (.exit 0))
 y1hu)
def ywy : CCode :=
  (.seq (.region [
 kO 30 (.bin .lss 29 28)])
 y14w)
def yoo : CCode :=
  (.loop [1, 5, 27, 28, 29] ywy)
def y11z : CCode :=
  (.block 0 yoo)
def y142 : CCode :=
  (.seq (.region [
 kO 26 (.fa 4 2),
 kO 27 (.ld false 1 26),
 kO 28 (.len 1 27),
 kO 29 (.mv (ci 0))])
 y11z)
def y17f : CCode :=
  (.seq y142
 y1vj)
def y155 : CCode :=
  (.seq (.region [
 kO 5 (.mv (.c .nils))])
 y17f)
def yzd : CCode :=
  (.seq (.seq (.region [
 kO 8 (.mv 1),
 kO 9 (.bin .lss 8 (ci 0)),
 kO 10 (.mv 9),
 kG 11 (.mv 1) 10 false,
 kG 12 (.fa 3 2) 10 false,
 kG 13 (.ld false 1 12) 10 false,
 kG 14 (.len 1 13) 10 false,
 kG 15 (.bin .geq 11 14) 10 false,
 kO 16 (.pick 10 (.c (.bool true)) 15),
 kO 17 (.mv 16),
 kG 18 (.fa 3 2) 17 false,
 kG 19 (.ld false 1 18) 17 false,
 kG 20 (.mv 1) 17 false,
 kG 21 (.ixs 9 19 20) 17 false,
 kG 22 (.ld true 9 21) 17 false,
 kG 23 (.call none true 18 [22]) 17 false,
 kG 24 (.un .not 23) 17 false,
 kO 25 (.pick 17 (.c (.bool true)) 24)])
 (.cond 25
 (.seq (.region [
  kO 4 (.mv (.c .nils))])
  .ret)
 .skip))
 y155)
def yy3 : CCode :=
  (.seq (.region [
 kO 2 (.box (some 0) 0),
 kO 4 (.mv (.c .nils))])
 yzd)
def y2ie : CFunc :=
  ⟨2, true, 4, yy3, [.t 4]⟩
def y1sx : CCode :=
  (.seq (.region [
 kO 87 (.mv 5),
 kO 4 (.mv 87)])
 .ret)
def y1lm : CCode :=
  (.seq (.region [
 kO 64 (.fa 1 10),
 kO 65 (.ld false 1 64),
 kO 66 (.fa 2 3),
 kO 67 (.ld false 1 66),
 kO 68 (.bin .eql 65 67),
 kO 69 (.mv 68),
 kG 70 (.fa 2 10) 69 true,
 kG 71 (.ld false 1 70) 69 true,
 kG 72 (.bin .eql 71 (ci (-1))) 69 true,
 kO 73 (.pick 69 72 (.c (.bool false)))])
 (.cond 73
 (.region [
  kO 74 (.mv 5),
  kO 75 (.fa 0 10),
  kO 76 (.ld false 1 75),
  kO 77 (.mv 8),
  kO 78 (.build [(.int .i64 0), (.int .i64 0), (.int .i64 0)] [(0, 1, 76), (1, 1, 77), (2, 1, (ci (-1)))]),
  kU (.mput true [0, 0, 0] 74 78 (.c (.bool true)))])
 .skip))
def y1gs : CCode :=
  (.mrange [
 kO 58 (.mv 0)] 58 [3, 5, 8] 62 [
 kO 63 (.ext 0 62),
 kO 10 (.new (some 4) [(.int .i64 0), (.int .i64 0), (.int .i64 0)]),
 kU (.st 3 10 63)] (.kill [4] y1lm))
def y1mf : CCode :=
  (.cond 79
 (.region [
  kO 84 (.mv 5),
  kO 85 (.mv 8),
  kO 86 (.build [(.int .i64 0), (.int .i64 0), (.int .i64 0)] [(0, 1, (ci 8)), (1, 1, 85), (2, 1, (ci (-1)))]),
  kU (.mput true [0, 0, 0] 84 86 (.c (.bool true)))])
 .skip)
def y1li : CCode :=
  (.seq (.seq (.region [
 kO 80 (.bin .eql 55 (ci 20)),
 kO 79 (.mv 80)])
 (.cond 79
 .skip
 (.seq (.region [
  kO 81 (.bin .eql 55 (ci 21)),
  kO 79 (.mv 81)])
  (.cond 79
  .skip
  (.seq (.region [
   kO 82 (.bin .eql 55 (ci 3)),
   kO 79 (.mv 82)])
   (.cond 79
   .skip
   (.region [
    kO 83 (.bin .eql 55 (ci 32)),
    kO 79 (.mv 83)])))))))
 y1mf)
def y1r8 : CCode :=
  (.cond 56
 y1gs
 y1li)
def y1s2 : CCode :=
  (.seq (.region [
 kO 57 (.bin .eql 55 (ci 4)),
 kO 56 (.mv 57)])
 y1r8)
def y1nf : CCode :=
  (.block 2 y1s2)
def y1hy : CCode :=
  (.seq (.region [
 kO 54 (.fa 0 3),
 kO 55 (.ld false 1 54)])
 y1nf)
def y15a : CCode :=
  (.seq y1hy
 y1sx)
def y11y : CCode :=
  (.seq (.region [
 kO 42 (.fa 1 9),
 kO 43 (.ld false 1 42),
 kO 44 (.mv 8),
 kO 45 (.bin .eql 43 44),
 kO 46 (.mv 45),
 kG 47 (.fa 2 9) 46 false,
 kG 48 (.ld false 1 47) 46 false,
 kG 49 (.mv 8) 46 false,
 kG 50 (.bin .eql 48 49) 46 false,
 kO 51 (.pick 46 (.c (.bool true)) 50)])
 (.cond 51
 (.region [
  kO 52 (.mv 5),
  kO 53 (.ld true 3 9),
  kU (.mdel true [0, 0, 0] 52 53)])
 .skip))
def y147 : CCode :=
  (.mrange [
 kO 36 (.mv 0)] 36 [0, 3, 5, 8] 40 [
 kO 41 (.ext 0 40),
 kO 9 (.new (some 3) [(.int .i64 0), (.int .i64 0), (.int .i64 0)]),
 kU (.st 3 9 41)] (.kill [3] y11y))
def y13z : CCode :=
  (.seq y147
 y15a)
def yzb : CCode :=
  (.seq (.seq (.region [
 kO 26 (.fa 0 3),
 kO 27 (.ld false 1 26),
 kO 28 (.bin .eql 27 (ci 4)),
 kO 29 (.mv 28),
 kG 30 (.fa 2 3) 29 true,
 kG 31 (.ld false 1 30) 29 true,
 kG 32 (.mv 8) 29 true,
 kG 33 (.bin .eql 31 32) 29 true,
 kO 34 (.pick 29 33 (.c (.bool false)))])
 (.cond 34
 (.seq (.region [
  kO 35 (.mv 5),
  kO 4 (.mv 35)])
  .ret)
 .skip))
 y13z)
def y17b : CCode :=
  (.seq (.seq (.region [
 kO 23 (.mv 8),
 kO 24 (.bin .lss 23 (ci 0))])
 (.cond 24
 (.seq (.region [
  kO 25 (.mv 5),
  kO 4 (.mv 25)])
  .ret)
 .skip))
 yzb)
def y15d : CCode :=
  (.seq (.region [
 kO 21 (.ld true 9 3),
 kO 22 (.call none true 9 [21]),
 kO 8 (.mv 22)])
 y17b)
def y18b : CCode :=
  (.seq (.seq (.region [
 kO 14 (.ld true 9 3),
 kO 15 (.call none true 169 [14]),
 kO 13 (.mv 15),
 kO 16 (.ext 0 13),
 kO 17 (.ext 1 13),
 kO 6 (.new (some 2) [(.int .i64 0), (.int .i64 0), (.int .i64 0)]),
 kU (.st 3 6 16),
 kO 7 (.mv 17)])
 (.seq (.region [
 kO 18 (.mv 7)])
 (.cond 18
 (.region [
  kO 19 (.mv 5),
  kO 20 (.ld true 3 6),
  kU (.mput true [0, 0, 0] 19 20 (.c (.bool true)))])
 .skip)))
 y15d)
def y15z : CCode :=
  (.seq (.region [
 kO 11 (.mv 0),
 kO 12 (.call (some 1) false 161 [11]),
 kO 5 (.mv 12)])
 y18b)
def y16b : CCode :=
  (.seq (.region [
 kO 3 (.box (some 0) 1),
 kO 4 (.mv (.c .nilm))])
 y15z)
def y2j6 : CFunc :=
  ⟨2, true, 5, y16b, [.t 4]⟩
def y1vb : CCode :=
  (.seq (.region [
 kO 43 (.mv 6),
 kO 4 (.mv 43)])
 .ret)
def y1rv : CCode :=
  (.seq (.seq (.region [
 kO 29 (.ld true 9 5),
 kO 30 (.call none true 22 [29]),
 kO 31 (.mv 30),
 kG 32 (.mv 6) 31 true,
 kG 33 (.fa 6 5) 31 true,
 kG 34 (.ld false 1 33) 31 true,
 kG 35 (.call none true 46 [32, 34]) 31 true,
 kG 36 (.un .not 35) 31 true,
 kO 37 (.pick 31 36 (.c (.bool false)))])
 (.cond 37
 (.region [
  kO 38 (.mv 6),
  kO 39 (.fa 6 5),
  kO 40 (.ld false 1 39),
  kO 41 (.buildS (some 4) 1 1 [(.int .i64 0)] [(0, 40)]),
  kO 42 (.app (some 5) 1 8 38 41),
  kO 6 (.mv 42)])
 .skip))
 y1vb)
def y1os : CCode :=
  (.seq (.seq (.region [
 kO 21 (.ld true 9 5),
 kO 22 (.call none true 24 [21]),
 kO 23 (.un .not 22)])
 (.cond 23
 (.region [
  kO 24 (.mv 6),
  kO 25 (.mv 1),
  kO 26 (.bin .add 25 (ci 1)),
  kO 27 (.buildS (some 2) 1 1 [(.int .i64 0)] [(0, 26)]),
  kO 28 (.app (some 3) 1 8 24 27),
  kO 6 (.mv 28)])
 .skip))
 y1rv)
def y1g8 : CCode :=
  (.seq (.region [
 kO 6 (.mv (.c .nils))])
 y1os)
def y1wj : CCode :=
  (.seq (.region [
 kO 16 (.fa 3 2),
 kO 17 (.ld false 1 16),
 kO 18 (.mv 1),
 kO 19 (.ixs 9 17 18),
 kO 20 (.ld true 9 19),
 kO 5 (.new (some 1) [(.int .i64 0), (.int .i64 0), (.int .i64 0), (.int .i64 0), (.int .i64 0), (.int .i64 0), (.int .i64 0), (.str []), .nils]),
 kU (.st 9 5 20)])
 y1g8)
def y1pt : CCode :=
  (.seq (.seq (.region [
 kO 7 (.mv 1),
 kO 8 (.bin .lss 7 (ci 0)),
 kO 9 (.mv 8),
 kG 10 (.mv 1) 9 false,
 kG 11 (.fa 3 2) 9 false,
 kG 12 (.ld false 1 11) 9 false,
 kG 13 (.len 1 12) 9 false,
 kG 14 (.bin .geq 10 13) 9 false,
 kO 15 (.pick 9 (.c (.bool true)) 14)])
 (.cond 15
 (.seq (.region [
  kO 4 (.mv (.c .nils))])
  .ret)
 .skip))
 y1wj)
def y1f7 : CCode :=
  (.seq (.region [
 kO 2 (.box (some 0) 0),
 kO 4 (.mv (.c .nils))])
 y1pt)
def y2jr : CFunc :=
  ⟨2, true, 6, y1f7, [.t 4]⟩
def y1o3 : CCode :=
  (.seq (.region [
 kO 24 (.build [(.int .i64 0), (.int .i64 0), (.int .i64 0)] []),
 kU (.st 3 2 24),
 kO 3 (.mv (.c (.bool false)))])
 .ret)
def y1s3 : CCode :=
  (.cond 6
 (.seq (.region [
  kO 10 (.fa 0 1),
  kO 11 (.ld false 1 10),
  kO 12 (.fa 2 1),
  kO 13 (.ld false 1 12),
  kO 14 (.build [(.int .i64 0), (.int .i64 0), (.int .i64 0)] [(0, 1, 11), (1, 1, 13), (2, 1, (ci (-1)))]),
  kU (.st 3 2 14),
  kO 3 (.mv (.c (.bool true)))])
  .ret)
 (.seq (.region [
  kO 16 (.bin .eql 5 (ci 9)),
  kO 15 (.mv 16)])
  (.cond 15
  (.seq (.region [
   kO 17 (.fa 0 1),
   kO 18 (.ld false 1 17),
   kO 19 (.fa 2 1),
   kO 20 (.ld false 1 19),
   kO 21 (.fa 3 1),
   kO 22 (.ld false 1 21),
   kO 23 (.build [(.int .i64 0), (.int .i64 0), (.int .i64 0)] [(0, 1, 18), (1, 1, 20), (2, 1, 22)]),
   kU (.st 3 2 23),
   kO 3 (.mv (.c (.bool true)))])
   .ret)
  .skip)))
def y1ph : CCode :=
  (.seq (.seq (.region [
 kO 7 (.bin .eql 5 (ci 7)),
 kO 6 (.mv 7)])
 (.cond 6
 .skip
 (.seq (.region [
  kO 8 (.bin .eql 5 (ci 8)),
  kO 6 (.mv 8)])
  (.cond 6
  .skip
  (.region [
   kO 9 (.bin .eql 5 (ci 10)),
   kO 6 (.mv 9)])))))
 y1s3)
def y1ue : CCode :=
  (.block 0 y1ph)
def y1po : CCode :=
  (.seq (.region [
 kO 4 (.fa 0 1),
 kO 5 (.ld false 1 4)])
 y1ue)
def y1m4 : CCode :=
  (.seq y1po
 y1o3)
def y1d1 : CCode :=
  (.seq (.region [
 kO 1 (.box (some 0) 0),
 kO 2 (.new (some 1) [(.int .i64 0), (.int .i64 0), (.int .i64 0)]),
 kO 3 (.mv (.c (.bool false)))])
 y1m4)
def y2l8 : CFunc :=
  ⟨1, true, 2, y1d1, [.cell 2 true 3, .t 3]⟩
def yyq : CCode :=
  (.seq (.region [
 kO 2 (.mv (.c (.bool false)))])
 (.seq (.region [
 kO 3 (.mv 0),
 kO 4 (.buildS (some 0) 1 3 [(.int .i64 0)] [(0, (ci 27)), (1, (ci 30)), (2, (ci 31))]),
 kO 5 (.call none true 42 [3, 4]),
 kO 2 (.mv 5)])
 .ret))
def y25v : CFunc :=
  ⟨1, true, 1, yyq, [.t 2]⟩
def y13j : CCode :=
  (.seq (.region [
 kO 14 (.fa 0 2),
 kO 15 (.ld false 1 14),
 kO 16 (.mv 1),
 kO 17 (.ixs 1 15 16),
 kO 18 (.ld false 1 17),
 kO 4 (.mv 18)])
 .ret)
def y16p : CCode :=
  (.seq (.seq (.region [
 kO 5 (.mv 1),
 kO 6 (.bin .lss 5 (ci 0)),
 kO 7 (.mv 6),
 kG 8 (.mv 1) 7 false,
 kG 9 (.fa 0 2) 7 false,
 kG 10 (.ld false 1 9) 7 false,
 kG 11 (.len 1 10) 7 false,
 kG 12 (.bin .geq 8 11) 7 false,
 kO 13 (.pick 7 (.c (.bool true)) 12)])
 (.cond 13
 (.seq (.region [
  kO 4 (.mv (ci 0))])
  .ret)
 .skip))
 y13j)
def y13v : CCode :=
  (.seq (.region [
 kO 2 (.box (some 0) 0),
 kO 4 (.mv (ci 0))])
 y16p)
def y26v : CFunc :=
  ⟨2, true, 1, y13v, [.t 4]⟩
def y153 : CCode :=
  (.seq (.region [
 kO 4 (.mv (.c (.bool false)))])
 .ret)
def yxd : CCode :=
  (.region [
 kO 10 (.mv 5),
 kO 11 (.bin .add 10 (ci 1)),
 kO 5 (.mv 11)])
def y145 : CCode :=
  (.seq (.block 1 (.seq (.region [
 kO 12 (.mv 1),
 kO 13 (.mv 5),
 kO 14 (.ixs 1 12 13),
 kO 15 (.ld false 1 14),
 kO 16 (.mv 0),
 kO 17 (.bin .eql 15 16)])
 (.cond 17
 (.seq (.region [
  kO 4 (.mv (.c (.bool true)))])
  .ret)
 .skip)))
 yxd)
def y124 : CCode :=
  (.seq (.seq (.region [
 kO 6 (.mv 5),
 kO 7 (.mv 1),
 kO 8 (.len 1 7),
 kO 9 (.bin .lss 6 8)])
 (.cond 9
 .skip
 (.exit 0)))
 y145)
def yjw : CCode :=
  (.loop [0, 1, 5] y124)
def y14m : CCode :=
  (.block 0 yjw)
def y166 : CCode :=
  (.seq (.region [
 kO 5 (.mv (ci 0))])
 y14m)
def y119 : CCode :=
  (.seq y166
 y153)
def y16j : CCode :=
  (.seq (.region [
 kO 4 (.mv (.c (.bool false)))])
 y119)
def y26j : CFunc :=
  ⟨2, true, 0, y16j, [.t 4]⟩
def y0k : CCode :=
  (.seq (.region [
 kO 4 (.mv (.c (.bool true)))])
 .ret)
def y15o : CCode :=
  (.seq (.draw [
 kO 215 (.fa 2 3),
 kO 216 (.ld false 1 215),
 kO 217 (.bin .neq 216 (ci (-1))),
 kO 218 (.mv 217),
 kG 219 (.ld true 5 2) 218 true,
 kG 220 (.fa 2 3) 218 true,
 kG 221 (.ld false 1 220) 218 true,
 kG 222 (.call none true 48 [219, 221]) 218 true,
 kG 223 (.fa 2 2) 218 true,
 kG 224 (.ld false 1 223) 218 true,
 kG 225 (.bin .eql 222 224) 218 true,
 kO 226 (.pick 218 225 (.c (.bool false))),
 kO 4 (.mv 226)] [(7, 9)])
 .ret)
def yz3 : CCode :=
  (.seq (.seq (.region [
 kO 209 (.fa 2 2),
 kO 210 (.ld false 1 209),
 kO 211 (.bin .eql 210 (ci 0))])
 (.cond 211
 (.seq (.region [
  kO 212 (.fa 2 3),
  kO 213 (.ld false 1 212),
  kO 214 (.bin .eql 213 (ci (-1))),
  kO 4 (.mv 214)])
  .ret)
 .skip))
 y15o)
def yza : CCode :=
  (.cond 207
 yz3
 .skip)
def y14g : CCode :=
  (.seq (.region [
 kO 208 (.bin .eql 55 (ci 30)),
 kO 207 (.mv 208)])
 yza)
def y17r : CCode :=
  (.cond 179
 (.seq (.region [
  kO 181 (.fa 5 3),
  kO 182 (.ld false 1 181),
  kO 183 (.bin .eql 182 (ci 0)),
  kO 184 (.mv 183),
  kG 185 (.fa 5 3) 184 false,
  kG 186 (.ld false 1 185) 184 false,
  kG 187 (.bin .eql 186 (ci 1)) 184 false,
  kO 188 (.pick 184 (.c (.bool true)) 187),
  kO 189 (.mv 188),
  kG 190 (.fa 3 3) 189 true,
  kG 191 (.ld false 1 190) 189 true,
  kG 192 (.bin .eql 191 (ci (-1))) 189 true,
  kG 193 (.mv 192) 189 true,
  kG 194 (.ld true 5 2) 193 false,
  kG 195 (.fa 3 3) 193 false,
  kG 196 (.ld false 1 195) 193 false,
  kG 197 (.call none true 48 [194, 196]) 193 false,
  kG 198 (.bin .eql 197 (ci 3)) 193 false,
  kG 199 (.pick 193 (.c (.bool true)) 198) 189 true,
  kO 200 (.pick 189 199 (.c (.bool false))),
  kO 201 (.mv 200),
  kG 202 (.ld true 5 2) 201 true,
  kG 203 (.fa 6 3) 201 true,
  kG 204 (.ld false 1 203) 201 true,
  kG 205 (.call none true 49 [202, 204]) 201 true,
  kO 206 (.pick 201 205 (.c (.bool false))),
  kO 4 (.mv 206)])
  .ret)
 y14g)
def y17h : CCode :=
  (.seq (.region [
 kO 180 (.bin .eql 55 (ci 29)),
 kO 179 (.mv 180)])
 y17r)
def y14e : CCode :=
  (.cond 173
 (.seq (.region [
  kO 175 (.ld true 5 2),
  kO 176 (.fa 6 3),
  kO 177 (.ld false 1 176),
  kO 178 (.call none true 49 [175, 177]),
  kO 4 (.mv 178)])
  .ret)
 y17h)
def y13r : CCode :=
  (.seq (.region [
 kO 174 (.bin .eql 55 (ci 27)),
 kO 173 (.mv 174)])
 y14e)
def yu5 : CCode :=
  (.cond 157
 (.seq (.region [
  kO 159 (.fa 5 3),
  kO 160 (.ld false 1 159),
  kO 161 (.bin .geq 160 (ci 0)),
  kO 162 (.mv 161),
  kG 163 (.fa 5 3) 162 true,
  kG 164 (.ld false 1 163) 162 true,
  kG 165 (.bin .leq 164 (ci 5)) 162 true,
  kO 166 (.pick 162 165 (.c (.bool false))),
  kO 167 (.mv 166),
  kG 168 (.ld true 5 2) 167 true,
  kG 169 (.fa 6 3) 167 true,
  kG 170 (.ld false 1 169) 167 true,
  kG 171 (.call none true 49 [168, 170]) 167 true,
  kO 172 (.pick 167 171 (.c (.bool false))),
  kO 4 (.mv 172)])
  .ret)
 y13r)
def ysd : CCode :=
  (.seq (.region [
 kO 158 (.bin .eql 55 (ci 28)),
 kO 157 (.mv 158)])
 yu5)
def yuj : CCode :=
  (.cond 149
 (.seq (.region [
  kO 154 (.ld true 5 2),
  kO 155 (.ld true 9 3),
  kO 156 (.call none true 68 [154, 155]),
  kO 4 (.mv 156)])
  .ret)
 ysd)
def ysc : CCode :=
  (.seq (.seq (.region [
 kO 150 (.bin .eql 55 (ci 23)),
 kO 149 (.mv 150)])
 (.cond 149
 .skip
 (.seq (.region [
  kO 151 (.bin .eql 55 (ci 24)),
  kO 149 (.mv 151)])
  (.cond 149
  .skip
  (.seq (.region [
   kO 152 (.bin .eql 55 (ci 25)),
   kO 149 (.mv 152)])
   (.cond 149
   .skip
   (.region [
    kO 153 (.bin .eql 55 (ci 26)),
    kO 149 (.mv 153)])))))))
 yuj)
def yu0 : CCode :=
  (.cond 143
 (.seq (.region [
  kO 146 (.fa 5 3),
  kO 147 (.ld false 1 146),
  kO 148 (.bin .geq 147 (ci 0)),
  kO 4 (.mv 148)])
  .ret)
 ysc)
def yu3 : CCode :=
  (.seq (.seq (.region [
 kO 144 (.bin .eql 55 (ci 16)),
 kO 143 (.mv 144)])
 (.cond 143
 .skip
 (.region [
  kO 145 (.bin .eql 55 (ci 17)),
  kO 143 (.mv 145)])))
 yu0)
def yqg : CCode :=
  (.cond 136
 (.seq (.region [
  kO 140 (.fa 7 3),
  kO 141 (.ld false 1 140),
  kO 142 (.call none true 67 [141]),
  kO 4 (.mv 142)])
  .ret)
 yu3)
def yrn : CCode :=
  (.seq (.seq (.region [
 kO 137 (.bin .eql 55 (ci 12)),
 kO 136 (.mv 137)])
 (.cond 136
 .skip
 (.seq (.region [
  kO 138 (.bin .eql 55 (ci 21)),
  kO 136 (.mv 138)])
  (.cond 136
  .skip
  (.region [
   kO 139 (.bin .eql 55 (ci 22)),
   kO 136 (.mv 139)])))))
 yqg)
def ys0 : CCode :=
  (.cond 112
 (.seq (.region [
  kO 114 (.mv 8),
  kO 115 (.bin .gtr 114 (ci 0)),
  kO 116 (.mv 115),
  kG 117 (.mv 9) 116 true,
  kG 118 (.bin .eql 117 (ci 0)) 116 true,
  kO 119 (.pick 116 118 (.c (.bool false))),
  kO 120 (.mv 119),
  kG 121 (.ld true 5 2) 120 true,
  kG 122 (.fa 1 3) 120 true,
  kG 123 (.ld false 1 122) 120 true,
  kG 124 (.call none true 48 [121, 123]) 120 true,
  kG 125 (.mv 10) 120 true,
  kG 126 (.bin .eql 124 125) 120 true,
  kO 127 (.pick 120 126 (.c (.bool false))),
  kO 128 (.mv 127),
  kG 129 (.ld true 5 2) 128 true,
  kG 130 (.fa 2 3) 128 true,
  kG 131 (.ld false 1 130) 128 true,
  kG 132 (.call none true 48 [129, 131]) 128 true,
  kG 133 (.mv 8) 128 true,
  kG 134 (.bin .eql 132 133) 128 true,
  kO 135 (.pick 128 134 (.c (.bool false))),
  kO 4 (.mv 135)])
  .ret)
 yrn)
def ys4 : CCode :=
  (.seq (.region [
 kO 113 (.bin .eql 55 (ci 6)),
 kO 112 (.mv 113)])
 ys0)
def ytj : CCode :=
  (.cond 84
 (.seq (.region [
  kO 86 (.mv 9),
  kO 87 (.bin .gtr 86 (ci 0)),
  kO 88 (.mv 87),
  kG 89 (.ld true 5 2) 88 true,
  kG 90 (.fa 1 3) 88 true,
  kG 91 (.ld false 1 90) 88 true,
  kG 92 (.call none true 48 [89, 91]) 88 true,
  kG 93 (.mv 10) 88 true,
  kG 94 (.bin .eql 92 93) 88 true,
  kO 95 (.pick 88 94 (.c (.bool false))),
  kO 96 (.mv 95),
  kG 97 (.ld true 5 2) 96 true,
  kG 98 (.fa 2 3) 96 true,
  kG 99 (.ld false 1 98) 96 true,
  kG 100 (.call none true 48 [97, 99]) 96 true,
  kG 101 (.mv 8) 96 true,
  kG 102 (.bin .eql 100 101) 96 true,
  kO 103 (.pick 96 102 (.c (.bool false))),
  kO 104 (.mv 103),
  kG 105 (.ld true 5 2) 104 true,
  kG 106 (.fa 3 3) 104 true,
  kG 107 (.ld false 1 106) 104 true,
  kG 108 (.call none true 48 [105, 107]) 104 true,
  kG 109 (.mv 9) 104 true,
  kG 110 (.bin .eql 108 109) 104 true,
  kO 111 (.pick 104 110 (.c (.bool false))),
  kO 4 (.mv 111)])
  .ret)
 ys4)
def yq6 : CCode :=
  (.seq (.region [
 kO 85 (.bin .eql 55 (ci 5)),
 kO 84 (.mv 85)])
 ytj)
def yuu : CCode :=
  (.cond 73
 (.seq (.draw [
  kO 75 (.ld true 5 2),
  kO 76 (.fa 1 3),
  kO 77 (.ld false 1 76),
  kO 78 (.call none true 48 [75, 77]),
  kO 79 (.ld true 5 2),
  kO 80 (.fa 2 3),
  kO 81 (.ld false 1 80),
  kO 82 (.call none true 48 [79, 81]),
  kO 83 (.bin .eql 78 82),
  kO 4 (.mv 83)] [(3, 4), (3, 6)])
  .ret)
 yq6)
def yry : CCode :=
  (.seq (.region [
 kO 74 (.bin .eql 55 (ci 4)),
 kO 73 (.mv 74)])
 yuu)
def ytq : CCode :=
  (.cond 56
 (.seq (.region [
  kO 58 (.ld true 5 2),
  kO 59 (.fa 1 3),
  kO 60 (.ld false 1 59),
  kO 61 (.call none true 48 [58, 60]),
  kO 62 (.bin .eql 61 (ci 2)),
  kO 63 (.mv 62),
  kG 64 (.fa 5 3) 63 false,
  kG 65 (.ld false 1 64) 63 false,
  kG 66 (.bin .geq 65 (ci (-2147483648))) 63 false,
  kG 67 (.mv 66) 63 false,
  kG 68 (.fa 5 3) 67 true,
  kG 69 (.ld false 1 68) 67 true,
  kG 70 (.bin .lss 69 (ci 2147483648)) 67 true,
  kG 71 (.pick 67 70 (.c (.bool false))) 63 false,
  kO 72 (.pick 63 (.c (.bool true)) 71),
  kO 4 (.mv 72)])
  .ret)
 yry)
def yre : CCode :=
  (.seq (.region [
 kO 57 (.bin .eql 55 (ci 1)),
 kO 56 (.mv 57)])
 ytq)
def yug : CCode :=
  (.block 2 yre)
def yrb : CCode :=
  (.seq (.region [
 kO 54 (.fa 0 3),
 kO 55 (.ld false 1 54)])
 yug)
def yr3 : CCode :=
  (.seq yrb
 y0k)
def yso : CCode :=
  (.seq (.seq (.region [
 kO 39 (.fa 5 3),
 kO 40 (.ld false 1 39),
 kO 41 (.bin .geq 40 (ci 0)),
 kO 42 (.mv 41),
 kG 43 (.fa 5 3) 42 true,
 kG 44 (.ld false 1 43) 42 true,
 kG 45 (.bin .lss 44 (ci 1000)) 42 true,
 kO 46 (.pick 42 45 (.c (.bool false)))])
 (.cond 46
 (.region [
  kO 48 (.fa 5 3),
  kO 49 (.ld false 1 48),
  kO 50 (.call none true 66 [49]),
  kO 47 (.mv 50),
  kO 51 (.ext 0 47),
  kO 52 (.ext 1 47),
  kO 53 (.ext 2 47),
  kO 8 (.mv 51),
  kO 9 (.mv 52),
  kO 10 (.mv 53)])
 .skip))
 yr3)
def yrw : CCode :=
  (.seq (.region [
 kO 8 (.mv (ci 0)),
 kO 9 (.mv (ci 0)),
 kO 10 (.mv (ci 0))])
 yso)
def yr7 : CCode :=
  (.region [
 kO 27 (.mv 7),
 kO 28 (.bin .add 27 (ci 1)),
 kO 7 (.mv 28)])
def yq1 : CCode :=
  (.seq (.block 1 (.seq (.draw [
 kO 29 (.ld true 5 2),
 kO 30 (.mv 6),
 kO 31 (.mv 7),
 kO 32 (.ixs 1 30 31),
 kO 33 (.ld false 1 32),
 kO 34 (.mv 5),
 kO 35 (.mv 7),
 kO 36 (.ixstr 34 35),
 kO 37 (.call none true 65 [29, 33, 36]),
 kO 38 (.un .not 37)] [])
 (.cond 38
 (.seq (.region [
  kO 4 (.mv (.c (.bool false)))])
  .ret)
 .skip)))
 yr7)
def yq3 : CCode :=
  (.seq (.seq (.region [
 kO 25 (.mv 7),
 kO 26 (.bin .lss 25 (ci 4))])
 (.cond 26
 .skip
 (.exit 0)))
 yq1)
def yfg : CCode :=
  (.loop [2, 3, 5, 6, 7] yq3)
def yt9 : CCode :=
  (.block 0 yfg)
def ysv : CCode :=
  (.seq (.region [
 kO 7 (.mv (ci 0))])
 yt9)
def yqp : CCode :=
  (.seq ysv
 yrw)
def ysa : CCode :=
  (.seq (.region [
 kO 16 (.fa 1 3),
 kO 17 (.ld false 1 16),
 kO 18 (.fa 2 3),
 kO 19 (.ld false 1 18),
 kO 20 (.fa 3 3),
 kO 21 (.ld false 1 20),
 kO 22 (.fa 4 3),
 kO 23 (.ld false 1 22),
 kO 24 (.buildS (some 2) 1 4 [(.int .i64 0)] [(0, 17), (1, 19), (2, 21), (3, 23)]),
 kO 6 (.mv 24)])
 yqp)
def yu2 : CCode :=
  (.seq (.seq (.region [
 kO 14 (.mv 5),
 kO 15 (.bin .eql 14 (.c (.str [])))])
 (.cond 15
 (.seq (.region [
  kO 4 (.mv (.c (.bool false)))])
  .ret)
 .skip))
 ysa)
def yql : CCode :=
  (.seq (.region [
 kO 11 (.fa 0 3),
 kO 12 (.ld false 1 11),
 kO 13 (.call none true 38 [12]),
 kO 5 (.mv 13)])
 yu2)
def yuf : CCode :=
  (.seq (.region [
 kO 2 (.box (some 0) 0),
 kO 3 (.box (some 1) 1),
 kO 4 (.mv (.c (.bool false)))])
 yql)
def y27i : CFunc :=
  ⟨2, true, 3, yuf, [.t 4]⟩
def yzl : CCode :=
  (.seq (.region [
 kO 2 (.mv (.c (.bool false)))])
 (.seq (.region [
 kO 3 (.mv 0),
 kO 4 (.buildS (some 0) 1 3 [(.int .i64 0)] [(0, (ci 27)), (1, (ci 28)), (2, (ci 29))]),
 kO 5 (.call none true 42 [3, 4]),
 kO 2 (.mv 5)])
 .ret))
def y274 : CFunc :=
  ⟨1, true, 1, yzl, [.t 2]⟩
def y16r : CCode :=
  (.seq (.region [
 kO 2 (.box (some 0) 0),
 kO 4 (.mv (.c (.bool false)))])
 (.seq (.region [
 kO 5 (.mv 1),
 kO 6 (.bin .geq 5 (ci 0)),
 kO 7 (.mv 6),
 kG 8 (.mv 1) 7 true,
 kG 9 (.fa 3 2) 7 true,
 kG 10 (.ld false 1 9) 7 true,
 kG 11 (.len 1 10) 7 true,
 kG 12 (.bin .lss 8 11) 7 true,
 kO 13 (.pick 7 12 (.c (.bool false))),
 kO 4 (.mv 13)])
 .ret))
def y26w : CFunc :=
  ⟨2, true, 1, y16r, [.t 4]⟩
def yyc : CCode :=
  (.seq (.region [
 kO 5 (.buildS (some 0) 1 0 [(.bool false)] []),
 kO 6 (.mv 0),
 kO 7 (.app (some 1) 1 1 5 6),
 kO 2 (.mv 7)])
 .ret)
def yzx : CCode :=
  (.seq (.seq (.region [
 kO 3 (.mv 0),
 kO 4 (.eqn 1 false 3 (.c .nils))])
 (.cond 4
 (.seq (.region [
  kO 2 (.mv (.c .nils))])
  .ret)
 .skip))
 yyc)
def y13t : CCode :=
  (.seq (.region [
 kO 2 (.mv (.c .nils))])
 yzx)
def y264 : CFunc :=
  ⟨1, true, 2, y13t, [.t 2]⟩
def y1hm : CCode :=
  (.seq (.region [
 kO 56 (.mv 3),
 kO 8 (.mv 56)])
 .ret)
def y1ra : CCode :=
  (.seq (.seq (.region [
 kO 51 (.mv 9)])
 (.cond 51
 (.region [
  kO 52 (.mv 3),
  kO 53 (.mv 1),
  kO 54 (.buildS (some 3) 1 1 [(.int .i64 0)] [(0, 53)]),
  kO 55 (.app (some 4) 1 8 52 54),
  kO 3 (.mv 55)])
 .skip))
 y1hm)
def y1lw : CCode :=
  (.region [
 kO 50 (.bin .add 31 (ci 1)),
 kO 31 (.mv 50)])
def y1ig : CCode :=
  (.seq (.block 1 (.seq (.region [
 kO 33 (.mv 31),
 kO 34 (.ixs 1 29 31),
 kO 35 (.ld false 1 34),
 kO 10 (.mv 33),
 kO 11 (.mv 35)])
 (.seq (.region [
 kO 36 (.mv 11),
 kO 37 (.mv 36),
 kG 38 (.mv 2) 37 true,
 kG 39 (.mv 10) 37 true,
 kG 40 (.ixs 1 38 39) 37 true,
 kG 41 (.ld false 1 40) 37 true,
 kG 42 (.un .not 41) 37 true,
 kO 43 (.pick 37 42 (.c (.bool false)))])
 (.cond 43
 (.seq (.region [
  kO 44 (.mv 0),
  kO 45 (.mv 1),
  kO 46 (.ixs 1 44 45),
  kO 47 (.ld false 1 46),
  kO 48 (.mv 10),
  kO 49 (.ixs 1 47 48),
  kU (.st 1 49 (.c (.bool false)))])
  (.region [
  kO 9 (.mv (.c (.bool true)))]))
 .skip))))
 y1lw)
def y1jx : CCode :=
  (.seq (.cond 32
 .skip
 (.exit 0))
 y1ig)
def y1m2 : CCode :=
  (.seq (.region [
 kO 32 (.bin .lss 31 30)])
 y1jx)
def ypg : CCode :=
  (.loop [0, 1, 2, 3, 9, 29, 30, 31] y1m2)
def y1lp : CCode :=
  (.block 0 ypg)
def y1jq : CCode :=
  (.seq (.region [
 kO 26 (.mv 0),
 kO 27 (.mv 1),
 kO 28 (.ixs 1 26 27),
 kO 29 (.ld false 1 28),
 kO 30 (.len 1 29),
 kO 31 (.mv (ci 0))])
 y1lp)
def yxo : CCode :=
  (.seq y1jq
 y1ra)
def yyf : CCode :=
  (.seq (.region [
 kO 9 (.mv (.c (.bool false)))])
 yxo)
def yyb : CCode :=
  (.seq (.seq (.region [
 kO 12 (.mv 0),
 kO 13 (.mv 1),
 kO 14 (.ixs 1 12 13),
 kO 15 (.ld false 1 14),
 kO 16 (.eqn 1 false 15 (.c .nils))])
 (.cond 16
 (.seq (.region [
  kO 17 (.mv 0),
  kO 18 (.mv 1),
  kO 19 (.mv 2),
  kO 20 (.call (some 0) false 78 [19]),
  kO 21 (.ixs 1 17 18),
  kU (.st 1 21 20)])
  (.seq (.region [
  kO 22 (.mv 3),
  kO 23 (.mv 1),
  kO 24 (.buildS (some 1) 1 1 [(.int .i64 0)] [(0, 23)]),
  kO 25 (.app (some 2) 1 8 22 24),
  kO 8 (.mv 25)])
  .ret))
 .skip))
 yyf)
def yxp : CCode :=
  (.seq (.region [
 kO 8 (.mv (.c .nils))])
 yyb)
def y2i8 : CFunc :=
  ⟨4, false, 5, yxp, [.t 8]⟩
def y1n9 : CCode :=
  (.seq (.region [
 kO 1 (.box (some 0) 0),
 kO 2 (.mv (.c (.bool false)))])
 (.seq (.region [
 kO 3 (.fa 0 1),
 kO 4 (.ld false 1 3),
 kO 5 (.bin .geq 4 (ci 23)),
 kO 6 (.mv 5),
 kG 7 (.fa 0 1) 6 true,
 kG 8 (.ld false 1 7) 6 true,
 kG 9 (.bin .leq 8 (ci 26)) 6 true,
 kO 10 (.pick 6 9 (.c (.bool false))),
 kO 2 (.mv 10)])
 .ret))
def y2ha : CFunc :=
  ⟨1, true, 1, y1n9, [.t 2]⟩
def yxy : CCode :=
  (.seq (.region [
 kO 4 (.mv (ci (-1)))])
 .ret)
def y11o : CCode :=
  (.region [
 kO 18 (.bin .add 8 (ci 1)),
 kO 8 (.mv 18)])
def yyg : CCode :=
  (.seq (.block 1 (.seq (.region [
 kO 10 (.mv 8),
 kO 5 (.mv 10)])
 (.seq (.region [
 kO 11 (.mv 1),
 kO 12 (.mv 0),
 kO 13 (.mv 5),
 kO 14 (.ixs 1 12 13),
 kO 15 (.ld false 1 14),
 kO 16 (.bin .eql 11 15)])
 (.cond 16
 (.seq (.region [
  kO 17 (.mv 5),
  kO 4 (.mv 17)])
  .ret)
 .skip))))
 y11o)
def yz6 : CCode :=
  (.seq (.cond 9
 .skip
 (.exit 0))
 yyg)
def y185 : CCode :=
  (.seq (.region [
 kO 9 (.bin .lss 8 7)])
 yz6)
def ykb : CCode :=
  (.loop [0, 1, 7, 8] y185)
def y0o : CCode :=
  (.block 0 ykb)
def yzy : CCode :=
  (.seq (.region [
 kO 6 (.mv 0),
 kO 7 (.len 1 6),
 kO 8 (.mv (ci 0))])
 y0o)
def yx0 : CCode :=
  (.seq yzy
 yxy)
def ysb : CCode :=
  (.seq (.region [
 kO 4 (.mv (ci 0))])
 yx0)
def y26b : CFunc :=
  ⟨2, true, 0, ysb, [.t 4]⟩
def y1mn : CCode :=
  (.seq (.region [
 kO 138 (.ld true 9 1),
 kO 139 (.call none true 51 [138]),
 kO 140 (.ext 0 139),
 kO 141 (.ext 1 139),
 kU (.st 4 2 140),
 kO 3 (.mv 141)])
 .ret)
def y1kh : CCode :=
  (.cond 134
 (.seq (.region [
  kO 137 (.build [(.int .i64 0), (.int .i64 0), (.int .i64 0), (.int .i64 0)] [(0, 1, (ci (-1))), (1, 1, (ci (-1))), (2, 1, (ci (-1))), (3, 1, (ci (-1)))]),
  kU (.st 4 2 137),
  kO 3 (.mv (.c (.bool true)))])
  .ret)
 .skip)
def y1vx : CCode :=
  (.seq (.seq (.region [
 kO 135 (.bin .eql 11 (ci 27)),
 kO 134 (.mv 135)])
 (.cond 134
 .skip
 (.region [
  kO 136 (.bin .eql 11 (ci 33)),
  kO 134 (.mv 136)])))
 y1kh)
def y1ks : CCode :=
  (.cond 123
 (.seq (.draw [
  kO 125 (.build [(.int .i64 0), (.int .i64 0), (.int .i64 0), (.int .i64 0)] [(0, 1, (ci (-1))), (1, 1, (ci 1)), (2, 1, (ci 1)), (3, 1, (ci (-1)))]),
  kO 126 (.fa 5 1),
  kO 127 (.ld false 1 126),
  kO 128 (.bin .geq 127 (ci 0)),
  kO 129 (.mv 128),
  kG 130 (.fa 5 1) 129 true,
  kG 131 (.ld false 1 130) 129 true,
  kG 132 (.bin .leq 131 (ci 5)) 129 true,
  kO 133 (.pick 129 132 (.c (.bool false))),
  kU (.st 4 2 125),
  kO 3 (.mv 133)] [(6, 9)])
  .ret)
 y1vx)
def y1i6 : CCode :=
  (.seq (.region [
 kO 124 (.bin .eql 11 (ci 28)),
 kO 123 (.mv 124)])
 y1ks)
def y1p6 : CCode :=
  (.cond 117
 (.seq (.region [
  kO 119 (.build [(.int .i64 0), (.int .i64 0), (.int .i64 0), (.int .i64 0)] [(0, 1, (ci 3)), (1, 1, (ci 1)), (2, 1, (ci (-1))), (3, 1, (ci (-1)))]),
  kO 120 (.fa 7 1),
  kO 121 (.ld false 1 120),
  kO 122 (.call none true 37 [121]),
  kU (.st 4 2 119),
  kO 3 (.mv 122)])
  .ret)
 y1i6)
def y1ps : CCode :=
  (.seq (.region [
 kO 118 (.bin .eql 11 (ci 21)),
 kO 117 (.mv 118)])
 y1p6)
def y1d5 : CCode :=
  (.cond 114
 (.seq (.region [
  kO 116 (.build [(.int .i64 0), (.int .i64 0), (.int .i64 0), (.int .i64 0)] [(0, 1, (ci (-1))), (1, 1, (ci 0)), (2, 1, (ci (-1))), (3, 1, (ci (-1)))]),
  kU (.st 4 2 116),
  kO 3 (.mv (.c (.bool true)))])
  .ret)
 y1ps)
def y1u3 : CCode :=
  (.seq (.region [
 kO 115 (.bin .eql 11 (ci 19)),
 kO 114 (.mv 115)])
 y1d5)
def y15x : CCode :=
  (.cond 108
 (.seq (.draw [
  kO 110 (.build [(.int .i64 0), (.int .i64 0), (.int .i64 0), (.int .i64 0)] [(0, 1, (ci (-1))), (1, 1, (ci 3)), (2, 1, (ci 0)), (3, 1, (ci (-1)))]),
  kO 111 (.fa 5 1),
  kO 112 (.ld false 1 111),
  kO 113 (.bin .geq 112 (ci 0)),
  kU (.st 4 2 110),
  kO 3 (.mv 113)] [(2, 4)])
  .ret)
 y1u3)
def yz4 : CCode :=
  (.seq (.region [
 kO 109 (.bin .eql 11 (ci 17)),
 kO 108 (.mv 109)])
 y15x)
def y12q : CCode :=
  (.cond 102
 (.seq (.draw [
  kO 104 (.build [(.int .i64 0), (.int .i64 0), (.int .i64 0), (.int .i64 0)] [(0, 1, (ci 0)), (1, 1, (ci 3)), (2, 1, (ci (-1))), (3, 1, (ci (-1)))]),
  kO 105 (.fa 5 1),
  kO 106 (.ld false 1 105),
  kO 107 (.bin .geq 106 (ci 0)),
  kU (.st 4 2 104),
  kO 3 (.mv 107)] [(2, 4)])
  .ret)
 yz4)
def y18o : CCode :=
  (.seq (.region [
 kO 103 (.bin .eql 11 (ci 16)),
 kO 102 (.mv 103)])
 y12q)
def y13y : CCode :=
  (.cond 99
 (.seq (.region [
  kO 101 (.build [(.int .i64 0), (.int .i64 0), (.int .i64 0), (.int .i64 0)] [(0, 1, (ci 1)), (1, 1, (ci 3)), (2, 1, (ci (-1))), (3, 1, (ci (-1)))]),
  kU (.st 4 2 101),
  kO 3 (.mv (.c (.bool true)))])
  .ret)
 y18o)
def ywz : CCode :=
  (.seq (.region [
 kO 100 (.bin .eql 11 (ci 15)),
 kO 99 (.mv 100)])
 y13y)
def y11r : CCode :=
  (.cond 96
 (.seq (.region [
  kO 98 (.build [(.int .i64 0), (.int .i64 0), (.int .i64 0), (.int .i64 0)] [(0, 1, (ci (-1))), (1, 1, (ci 3)), (2, 1, (ci 1)), (3, 1, (ci 0))]),
  kU (.st 4 2 98),
  kO 3 (.mv (.c (.bool true)))])
  .ret)
 ywz)
def y0c : CCode :=
  (.seq (.region [
 kO 97 (.bin .eql 11 (ci 14)),
 kO 96 (.mv 97)])
 y11r)
def y11l : CCode :=
  (.cond 93
 (.seq (.region [
  kO 95 (.build [(.int .i64 0), (.int .i64 0), (.int .i64 0), (.int .i64 0)] [(0, 1, (ci 0)), (1, 1, (ci 3)), (2, 1, (ci 1)), (3, 1, (ci (-1)))]),
  kU (.st 4 2 95),
  kO 3 (.mv (.c (.bool true)))])
  .ret)
 y0c)
def y17m : CCode :=
  (.seq (.region [
 kO 94 (.bin .eql 11 (ci 13)),
 kO 93 (.mv 94)])
 y11l)
def y16w : CCode :=
  (.cond 90
 (.seq (.region [
  kO 92 (.build [(.int .i64 0), (.int .i64 0), (.int .i64 0), (.int .i64 0)] [(0, 1, (ci (-1))), (1, 1, (ci 3)), (2, 1, (ci 3)), (3, 1, (ci (-1)))]),
  kU (.st 4 2 92),
  kO 3 (.mv (.c (.bool true)))])
  .ret)
 y17m)
def y123 : CCode :=
  (.seq (.region [
 kO 91 (.bin .eql 11 (ci 11)),
 kO 90 (.mv 91)])
 y16w)
def yxk : CCode :=
  (.cond 87
 (.seq (.region [
  kO 89 (.build [(.int .i64 0), (.int .i64 0), (.int .i64 0), (.int .i64 0)] [(0, 1, (ci (-1))), (1, 1, (ci 1)), (2, 1, (ci (-1))), (3, 1, (ci (-1)))]),
  kU (.st 4 2 89),
  kO 3 (.mv (.c (.bool true)))])
  .ret)
 y123)
def y157 : CCode :=
  (.seq (.region [
 kO 88 (.bin .eql 11 (ci 10)),
 kO 87 (.mv 88)])
 yxk)
def y134 : CCode :=
  (.cond 84
 (.seq (.region [
  kO 86 (.build [(.int .i64 0), (.int .i64 0), (.int .i64 0), (.int .i64 0)] [(0, 1, (ci (-1))), (1, 1, (ci 3)), (2, 1, (ci 1)), (3, 1, (ci (-1)))]),
  kU (.st 4 2 86),
  kO 3 (.mv (.c (.bool true)))])
  .ret)
 y157)
def y13u : CCode :=
  (.seq (.region [
 kO 85 (.bin .eql 11 (ci 9)),
 kO 84 (.mv 85)])
 y134)
def y111 : CCode :=
  (.cond 78
 (.seq (.region [
  kO 80 (.build [(.int .i64 0), (.int .i64 0), (.int .i64 0), (.int .i64 0)] [(0, 1, (ci 1)), (1, 1, (ci 3)), (2, 1, (ci (-1))), (3, 1, (ci (-1)))]),
  kO 81 (.fa 7 1),
  kO 82 (.ld false 1 81),
  kO 83 (.call none true 37 [82]),
  kU (.st 4 2 80),
  kO 3 (.mv 83)])
  .ret)
 y13u)
def y12k : CCode :=
  (.seq (.region [
 kO 79 (.bin .eql 11 (ci 22)),
 kO 78 (.mv 79)])
 y111)
def y13d : CCode :=
  (.cond 72
 (.seq (.region [
  kO 74 (.build [(.int .i64 0), (.int .i64 0), (.int .i64 0), (.int .i64 0)] [(0, 1, (ci (-1))), (1, 1, (ci 3)), (2, 1, (ci (-1))), (3, 1, (ci (-1)))]),
  kO 75 (.fa 7 1),
  kO 76 (.ld false 1 75),
  kO 77 (.call none true 37 [76]),
  kU (.st 4 2 74),
  kO 3 (.mv 77)])
  .ret)
 y12k)
def y12t : CCode :=
  (.seq (.region [
 kO 73 (.bin .eql 11 (ci 12)),
 kO 72 (.mv 73)])
 y13d)
def y16o : CCode :=
  (.cond 68
 (.seq (.region [
  kO 71 (.build [(.int .i64 0), (.int .i64 0), (.int .i64 0), (.int .i64 0)] [(0, 1, (ci (-1))), (1, 1, (ci 3)), (2, 1, (ci (-1))), (3, 1, (ci (-1)))]),
  kU (.st 4 2 71),
  kO 3 (.mv (.c (.bool true)))])
  .ret)
 y12t)
def y15p : CCode :=
  (.seq (.seq (.region [
 kO 69 (.bin .eql 11 (ci 8)),
 kO 68 (.mv 69)])
 (.cond 68
 .skip
 (.region [
  kO 70 (.bin .eql 11 (ci 31)),
  kO 68 (.mv 70)])))
 y16o)
def y18j : CCode :=
  (.cond 65
 (.seq (.region [
  kO 67 (.build [(.int .i64 0), (.int .i64 0), (.int .i64 0), (.int .i64 0)] [(0, 1, (ci (-1))), (1, 1, (ci 0)), (2, 1, (ci (-1))), (3, 1, (ci (-1)))]),
  kU (.st 4 2 67),
  kO 3 (.mv (.c (.bool true)))])
  .ret)
 y15p)
def y173 : CCode :=
  (.seq (.region [
 kO 66 (.bin .eql 11 (ci 7)),
 kO 65 (.mv 66)])
 y18j)
def y13i : CCode :=
  (.cond 47
 (.seq (.region [
  kO 50 (.fa 5 1),
  kO 51 (.ld false 1 50),
  kO 52 (.call none true 50 [51]),
  kO 49 (.mv 52),
  kO 53 (.ext 0 49),
  kO 54 (.ext 1 49),
  kO 55 (.ext 2 49),
  kO 7 (.mv 53),
  kO 8 (.mv 54),
  kO 9 (.mv 55)])
  (.seq (.region [
  kO 56 (.mv 9),
  kO 57 (.mv 7),
  kO 58 (.build [(.int .i64 0), (.int .i64 0), (.int .i64 0), (.int .i64 0)] [(0, 1, 56), (1, 1, 57), (2, 1, (ci (-1))), (3, 1, (ci (-1)))]),
  kO 59 (.mv 7),
  kO 60 (.bin .neq 59 (ci 0)),
  kO 61 (.mv 60),
  kG 62 (.mv 8) 61 true,
  kG 63 (.bin .eql 62 (ci 0)) 61 true,
  kO 64 (.pick 61 63 (.c (.bool false))),
  kU (.st 4 2 58),
  kO 3 (.mv 64)])
  .ret))
 y173)
def y126 : CCode :=
  (.seq (.region [
 kO 48 (.bin .eql 11 (ci 6)),
 kO 47 (.mv 48)])
 y13i)
def yxt : CCode :=
  (.cond 25
 (.seq (.region [
  kO 28 (.fa 5 1),
  kO 29 (.ld false 1 28),
  kO 30 (.call none true 50 [29]),
  kO 27 (.mv 30),
  kO 31 (.ext 0 27),
  kO 32 (.ext 1 27),
  kO 33 (.ext 2 27),
  kO 4 (.mv 31),
  kO 5 (.mv 32),
  kO 6 (.mv 33)])
  (.seq (.region [
  kO 34 (.mv 6),
  kO 35 (.mv 4),
  kO 36 (.mv 5),
  kO 37 (.build [(.int .i64 0), (.int .i64 0), (.int .i64 0), (.int .i64 0)] [(0, 1, 34), (1, 1, 35), (2, 1, 36), (3, 1, (ci (-1)))]),
  kO 38 (.fa 5 1),
  kO 39 (.ld false 1 38),
  kO 40 (.fa 5 1),
  kO 41 (.ld false 1 40),
  kO 42 (.bin .eql 39 41),
  kO 43 (.mv 42),
  kG 44 (.mv 5) 43 true,
  kG 45 (.bin .neq 44 (ci 0)) 43 true,
  kO 46 (.pick 43 45 (.c (.bool false))),
  kU (.st 4 2 37),
  kO 3 (.mv 46)])
  .ret))
 y126)
def y162 : CCode :=
  (.seq (.region [
 kO 26 (.bin .eql 11 (ci 5)),
 kO 25 (.mv 26)])
 yxt)
def y17s : CCode :=
  (.cond 22
 (.seq (.region [
  kO 24 (.build [(.int .i64 0), (.int .i64 0), (.int .i64 0), (.int .i64 0)] [(0, 1, (ci 0)), (1, 1, (ci 0)), (2, 1, (ci (-1))), (3, 1, (ci (-1)))]),
  kU (.st 4 2 24),
  kO 3 (.mv (.c (.bool true)))])
  .ret)
 y162)
def y13b : CCode :=
  (.seq (.region [
 kO 23 (.bin .eql 11 (ci 4)),
 kO 22 (.mv 23)])
 y17s)
def y12v : CCode :=
  (.cond 16
 (.seq (.region [
  kO 21 (.build [(.int .i64 0), (.int .i64 0), (.int .i64 0), (.int .i64 0)] [(0, 1, (ci 3)), (1, 1, (ci (-1))), (2, 1, (ci (-1))), (3, 1, (ci (-1)))]),
  kU (.st 4 2 21),
  kO 3 (.mv (.c (.bool true)))])
  .ret)
 y13b)
def y13x : CCode :=
  (.seq (.seq (.region [
 kO 17 (.bin .eql 11 (ci 2)),
 kO 16 (.mv 17)])
 (.cond 16
 .skip
 (.seq (.region [
  kO 18 (.bin .eql 11 (ci 3)),
  kO 16 (.mv 18)])
  (.cond 16
  .skip
  (.seq (.region [
   kO 19 (.bin .eql 11 (ci 20)),
   kO 16 (.mv 19)])
   (.cond 16
   .skip
   (.region [
    kO 20 (.bin .eql 11 (ci 32)),
    kO 16 (.mv 20)])))))))
 y12v)
def yxu : CCode :=
  (.cond 12
 (.seq (.region [
  kO 15 (.build [(.int .i64 0), (.int .i64 0), (.int .i64 0), (.int .i64 0)] [(0, 1, (ci 0)), (1, 1, (ci (-1))), (2, 1, (ci (-1))), (3, 1, (ci (-1)))]),
  kU (.st 4 2 15),
  kO 3 (.mv (.c (.bool true)))])
  .ret)
 y13x)
def y11m : CCode :=
  (.seq (.seq (.region [
 kO 13 (.bin .eql 11 (ci 1)),
 kO 12 (.mv 13)])
 (.cond 12
 .skip
 (.region [
  kO 14 (.bin .eql 11 (ci 18)),
  kO 12 (.mv 14)])))
 yxu)
def y150 : CCode :=
  (.block 0 y11m)
def y0r : CCode :=
  (.seq (.region [
 kO 10 (.fa 0 1),
 kO 11 (.ld false 1 10)])
 y150)
def y18e : CCode :=
  (.seq y0r
 y1mn)
def yxs : CCode :=
  (.seq (.region [
 kO 1 (.box (some 0) 0),
 kO 2 (.new (some 1) [(.int .i64 0), (.int .i64 0), (.int .i64 0), (.int .i64 0)]),
 kO 3 (.mv (.c (.bool false)))])
 y18e)
def y2jf : CFunc :=
  ⟨1, true, 2, yxs, [.cell 2 true 4, .t 3]⟩
def y1q5 : CCode :=
  (.seq (.region [
 kO 1 (.box (some 0) 0),
 kO 2 (.mv (.c (.bool false)))])
 (.seq (.region [
 kO 3 (.fa 0 1),
 kO 4 (.ld false 1 3),
 kO 5 (.bin .geq 4 (ci 7)),
 kO 6 (.mv 5),
 kG 7 (.fa 0 1) 6 true,
 kG 8 (.ld false 1 7) 6 true,
 kG 9 (.bin .leq 8 (ci 12)) 6 true,
 kO 10 (.pick 6 9 (.c (.bool false))),
 kO 11 (.mv 10),
 kG 12 (.fa 0 1) 11 false,
 kG 13 (.ld false 1 12) 11 false,
 kG 14 (.bin .eql 13 (ci 20)) 11 false,
 kO 15 (.pick 11 (.c (.bool true)) 14),
 kO 16 (.mv 15),
 kG 17 (.fa 0 1) 16 false,
 kG 18 (.ld false 1 17) 16 false,
 kG 19 (.bin .eql 18 (ci 21)) 16 false,
 kO 20 (.pick 16 (.c (.bool true)) 19),
 kO 21 (.mv 20),
 kG 22 (.fa 0 1) 21 false,
 kG 23 (.ld false 1 22) 21 false,
 kG 24 (.bin .eql 23 (ci 31)) 21 false,
 kO 25 (.pick 21 (.c (.bool true)) 24),
 kO 26 (.mv 25),
 kG 27 (.ld true 9 1) 26 false,
 kG 28 (.call none true 17 [27]) 26 false,
 kO 29 (.pick 26 (.c (.bool true)) 28),
 kO 2 (.mv 29)])
 .ret))
def y2hk : CFunc :=
  ⟨1, true, 1, y1q5, [.t 2]⟩
def y05 : CCode :=
  (.seq (.region [
 kO 13 (.mv 3),
 kO 14 (.mv 0),
 kO 15 (.ixs 1 13 14),
 kO 16 (.ld false 1 15),
 kO 2 (.mv 16)])
 .ret)
def y08 : CCode :=
  (.seq (.seq (.region [
 kO 5 (.mv 0),
 kO 6 (.bin .lss 5 (ci 1)),
 kO 7 (.mv 6),
 kG 8 (.mv 0) 7 false,
 kG 9 (.mv 3) 7 false,
 kG 10 (.len 1 9) 7 false,
 kG 11 (.bin .geq 8 10) 7 false,
 kO 12 (.pick 7 (.c (.bool true)) 11)])
 (.cond 12
 (.seq (.region [
  kO 2 (.mv (.c (.str [])))])
  .ret)
 .skip))
 y05)
def y0v : CCode :=
  (.seq (.region [
 kO 4 (.buildS (some 0) 1 34 [(.str [])] [(0, (.c (.str []))), (1, (.c (.str [110, 45, 45, 45]))), (2, (.c (.str [51, 45, 45, 45]))), (3, (.c (.str [51, 45, 45, 45]))), (4, (.c (.str [42, 61, 45, 45]))), (5, (.c (.str [63, 63, 63, 63]))), (6, (.c (.str [63, 63, 63, 63]))), (7, (.c (.str [45, 110, 45, 45]))), (8, (.c (.str [45, 51, 45, 45]))), (9, (.c (.str [45, 51, 49, 45]))), (10, (.c (.str [45, 49, 45, 45]))), (11, (.c (.str [45, 51, 51, 45]))), (12, (.c (.str [45, 51, 45, 45]))), (13, (.c (.str [42, 51, 49, 45]))), (14, (.c (.str [45, 51, 49, 42]))), (15, (.c (.str [49, 51, 45, 45]))), (16, (.c (.str [42, 51, 45, 45]))), (17, (.c (.str [45, 51, 42, 45]))), (18, (.c (.str [42, 45, 45, 45]))), (19, (.c (.str [45, 42, 45, 45]))), (20, (.c (.str [51, 45, 45, 45]))), (21, (.c (.str [51, 49, 45, 45]))), (22, (.c (.str [49, 51, 45, 45]))), (23, (.c (.str [63, 63, 63, 63]))), (24, (.c (.str [63, 63, 63, 63]))), (25, (.c (.str [63, 63, 63, 63]))), (26, (.c (.str [63, 63, 63, 63]))), (27, (.c (.str [45, 45, 45, 45]))), (28, (.c (.str [45, 49, 49, 45]))), (29, (.c (.str [45, 51, 63, 45]))), (30, (.c (.str [45, 63, 45, 45]))), (31, (.c (.str [45, 51, 45, 45]))), (32, (.c (.str [51, 45, 45, 45]))), (33, (.c (.str [45, 45, 45, 45])))]),
 kO 3 (.mv 4)])
 y08)
def y14j : CCode :=
  (.seq (.region [
 kO 2 (.mv (.c (.str [])))])
 y0v)
def y262 : CFunc :=
  ⟨1, true, 1, y14j, [.t 2]⟩
def yzv : CCode :=
  (.seq (.region [
 kO 28 (.mv 7),
 kO 29 (.mv 2),
 kO 30 (.bin .sub 29 (.c (.int .u8 48))),
 kO 31 (.cvi .i64 30),
 kO 32 (.bin .eql 28 31),
 kO 6 (.mv 32)])
 .ret)
def yx2 : CCode :=
  (.cond 15
 (.seq (.region [
  kO 18 (.mv 7),
  kO 19 (.bin .gtr 18 (ci 0)),
  kO 6 (.mv 19)])
  .ret)
 (.seq (.region [
  kO 21 (.bin .eql 11 (.c (.int .u8 110))),
  kO 20 (.mv 21)])
  (.cond 20
  (.seq (.region [
   kO 22 (.mv 7),
   kO 23 (.bin .eql 22 (ci 1)),
   kO 24 (.mv 23),
   kG 25 (.mv 7) 24 false,
   kG 26 (.bin .eql 25 (ci 2)) 24 false,
   kO 27 (.pick 24 (.c (.bool true)) 26),
   kO 6 (.mv 27)])
   .ret)
  .skip)))
def yx8 : CCode :=
  (.seq (.seq (.region [
 kO 16 (.bin .eql 11 (.c (.int .u8 42))),
 kO 15 (.mv 16)])
 (.cond 15
 .skip
 (.region [
  kO 17 (.bin .eql 11 (.c (.int .u8 61))),
  kO 15 (.mv 17)])))
 yx2)
def y15e : CCode :=
  (.cond 12
 (.seq (.region [
  kO 6 (.mv (.c (.bool true)))])
  .ret)
 yx8)
def yyz : CCode :=
  (.seq (.seq (.region [
 kO 13 (.bin .eql 11 (.c (.int .u8 45))),
 kO 12 (.mv 13)])
 (.cond 12
 .skip
 (.region [
  kO 14 (.bin .eql 11 (.c (.int .u8 63))),
  kO 12 (.mv 14)])))
 y15e)
def y133 : CCode :=
  (.block 0 yyz)
def yxv : CCode :=
  (.seq (.region [
 kO 11 (.mv 2)])
 y133)
def y12e : CCode :=
  (.seq yxv
 yzv)
def y127 : CCode :=
  (.seq (.region [
 kO 8 (.ld true 5 3),
 kO 9 (.mv 1),
 kO 10 (.call none true 48 [8, 9]),
 kO 7 (.mv 10)])
 y12e)
def ysp : CCode :=
  (.seq (.region [
 kO 3 (.box (some 0) 0),
 kO 6 (.mv (.c (.bool false)))])
 y127)
def y25o : CFunc :=
  ⟨3, true, 1, ysp, [.t 6]⟩
def y1tp : CCode :=
  (.seq (.region [
 kO 2 (.mv (ci 0)),
 kO 3 (.mv (ci 0)),
 kO 4 (.mv (ci 0))])
 .ret)
def y1gj : CCode :=
  (.seq (.block 0 (.seq (.region [
 kO 26 (.mv 5),
 kO 27 (.mv 26),
 kG 28 (.mv 0) 27 true,
 kG 29 (.bin .rem 28 (ci 2)) 27 true,
 kG 30 (.bin .eql 29 (ci 0)) 27 true,
 kO 31 (.pick 27 30 (.c (.bool false))),
 kO 25 (.mv 31)])
 (.cond 25
 (.seq (.region [
  kO 2 (.mv (ci 1)),
  kO 3 (.mv (ci 1)),
  kO 4 (.mv (ci 1))])
  .ret)
 (.seq (.region [
  kO 33 (.mv 0),
  kO 34 (.bin .eql 33 (ci 121)),
  kO 35 (.mv 34),
  kG 36 (.mv 0) 35 false,
  kG 37 (.bin .eql 36 (ci 123)) 35 false,
  kO 38 (.pick 35 (.c (.bool true)) 37),
  kO 39 (.mv 38),
  kG 40 (.mv 0) 39 false,
  kG 41 (.bin .eql 40 (ci 125)) 39 false,
  kO 42 (.pick 39 (.c (.bool true)) 41),
  kO 32 (.mv 42)])
  (.cond 32
  (.seq (.region [
   kO 2 (.mv (ci 2)),
   kO 3 (.mv (ci 1)),
   kO 4 (.mv (ci 2))])
   .ret)
  (.seq (.region [
   kO 44 (.mv 5),
   kO 43 (.mv 44)])
   (.cond 43
   (.seq (.region [
    kO 2 (.mv (ci 2)),
    kO 3 (.mv (ci 2)),
    kO 4 (.mv (ci 2))])
    .ret)
   (.seq (.region [
    kO 46 (.mv 0),
    kO 47 (.bin .eql 46 (ci 148)),
    kO 45 (.mv 47)])
    (.cond 45
    (.seq (.region [
     kO 2 (.mv (ci 2)),
     kO 3 (.mv (ci 2)),
     kO 4 (.mv (ci 1))])
     .ret)
    (.seq (.region [
     kO 49 (.mv 0),
     kO 50 (.bin .eql 49 (ci 116)),
     kO 51 (.mv 50),
     kG 52 (.mv 0) 51 false,
     kG 53 (.bin .geq 52 (ci 145)) 51 false,
     kG 54 (.mv 53) 51 false,
     kG 55 (.mv 0) 54 true,
     kG 56 (.bin .leq 55 (ci 147)) 54 true,
     kG 57 (.pick 54 56 (.c (.bool false))) 51 false,
     kO 58 (.pick 51 (.c (.bool true)) 57),
     kO 48 (.mv 58)])
     (.cond 48
     (.seq (.region [
      kO 2 (.mv (ci 1)),
      kO 3 (.mv (ci 0)),
      kO 4 (.mv (ci 1))])
      .ret)
     (.seq (.region [
      kO 60 (.mv 0),
      kO 61 (.bin .eql 60 (ci 117)),
      kO 59 (.mv 61)])
      (.cond 59
      (.seq (.region [
       kO 2 (.mv (ci 2)),
       kO 3 (.mv (ci 0)),
       kO 4 (.mv (ci 2))])
       .ret)
      (.seq (.region [
       kO 63 (.mv 0),
       kO 64 (.bin .eql 63 (ci 133)),
       kO 62 (.mv 64)])
       (.cond 62
       (.seq (.region [
        kO 2 (.mv (ci 1)),
        kO 3 (.mv (ci 0)),
        kO 4 (.mv (ci 2))])
        .ret)
       (.seq (.region [
        kO 66 (.mv 0),
        kO 67 (.bin .eql 66 (ci 136)),
        kO 65 (.mv 67)])
        (.cond 65
        (.seq (.region [
         kO 2 (.mv (ci 2)),
         kO 3 (.mv (ci 0)),
         kO 4 (.mv (ci 1))])
         .ret)
        .skip)))))))))))))))))
 y1tp)
def y1mc : CCode :=
  (.seq (.region [
 kO 6 (.mv 0),
 kO 7 (.bin .geq 6 (ci 96)),
 kO 8 (.mv 7),
 kG 9 (.mv 0) 8 true,
 kG 10 (.bin .leq 9 (ci 113)) 8 true,
 kO 11 (.pick 8 10 (.c (.bool false))),
 kO 12 (.mv 11),
 kG 13 (.mv 0) 12 true,
 kG 14 (.bin .rem 13 (ci 4)) 12 true,
 kG 15 (.bin .lss 14 (ci 2)) 12 true,
 kO 16 (.pick 12 15 (.c (.bool false))),
 kO 17 (.mv 16),
 kG 18 (.mv 0) 17 false,
 kG 19 (.bin .geq 18 (ci 120)) 17 false,
 kG 20 (.mv 19) 17 false,
 kG 21 (.mv 0) 20 true,
 kG 22 (.bin .leq 21 (ci 131)) 20 true,
 kG 23 (.pick 20 22 (.c (.bool false))) 17 false,
 kO 24 (.pick 17 (.c (.bool true)) 23),
 kO 5 (.mv 24)])
 y1gj)
def y1kt : CCode :=
  (.seq (.region [
 kO 2 (.mv (ci 0)),
 kO 3 (.mv (ci 0)),
 kO 4 (.mv (ci 0))])
 y1mc)
def y2jw : CFunc :=
  ⟨1, true, 0, y1kt, [.t 2, .t 3, .t 4]⟩
def y0t : CCode :=
  (.seq (.region [
 kO 27 (.mv 0),
 kO 28 (.len 0 27),
 kO 29 (.bin .gtr 28 (ci 2)),
 kO 30 (.mv 29),
 kG 31 (.mv 0) 30 true,
 kG 32 (.ixstr 31 (ci 0)) 30 true,
 kG 33 (.bin .eql 32 (.c (.int .u8 76))) 30 true,
 kO 34 (.pick 30 33 (.c (.bool false))),
 kO 35 (.mv 34),
 kG 36 (.mv 0) 35 true,
 kG 37 (.mv 0) 35 true,
 kG 38 (.len 0 37) 35 true,
 kG 39 (.bin .sub 38 (ci 1)) 35 true,
 kG 40 (.ixstr 36 39) 35 true,
 kG 41 (.bin .eql 40 (.c (.int .u8 59))) 35 true,
 kO 42 (.pick 35 41 (.c (.bool false))),
 kO 43 (.mv 42),
 kG 44 (.mv 0) 43 true,
 kG 45 (.mv 0) 43 true,
 kG 46 (.len 0 45) 43 true,
 kG 47 (.bin .sub 46 (ci 1)) 43 true,
 kG 48 (.sls 44 (some (ci 1)) (some 47)) 43 true,
 kG 49 (.call none true 69 [48, (.c (.bool false))]) 43 true,
 kO 50 (.pick 43 49 (.c (.bool false))),
 kO 2 (.mv 50)])
 .ret)
def yxx : CCode :=
  (.seq (.seq (.region [
 kO 21 (.mv 0),
 kO 22 (.bin .eql 21 (.c (.str [73]))),
 kO 23 (.mv 22),
 kG 24 (.mv 0) 23 false,
 kG 25 (.bin .eql 24 (.c (.str [74]))) 23 false,
 kO 26 (.pick 23 (.c (.bool true)) 25)])
 (.cond 26
 (.seq (.region [
  kO 2 (.mv (.c (.bool true)))])
  .ret)
 .skip))
 y0t)
def y129 : CCode :=
  (.seq (.seq (.region [
 kO 19 (.mv 3),
 kO 20 (.bin .gtr 19 (ci 8))])
 (.cond 20
 (.seq (.region [
  kO 2 (.mv (.c (.bool false)))])
  .ret)
 .skip))
 yxx)
def y12s : CCode :=
  (.seq (.region [
 kO 16 (.mv 0),
 kO 17 (.mv 3),
 kO 18 (.sls 16 (some 17) none),
 kO 0 (.mv 18)])
 y129)
def y16a : CCode :=
  (.block 1 (.region [
 kO 14 (.mv 3),
 kO 15 (.bin .add 14 (ci 1)),
 kO 3 (.mv 15)]))
def y184 : CCode :=
  (.seq (.seq (.region [
 kO 4 (.mv 3),
 kO 5 (.mv 0),
 kO 6 (.len 0 5),
 kO 7 (.bin .lss 4 6),
 kO 8 (.mv 7),
 kG 9 (.mv 0) 8 true,
 kG 10 (.mv 3) 8 true,
 kG 11 (.ixstr 9 10) 8 true,
 kG 12 (.bin .eql 11 (.c (.int .u8 91))) 8 true,
 kO 13 (.pick 8 12 (.c (.bool false)))])
 (.cond 13
 .skip
 (.exit 0)))
 y16a)
def yjg : CCode :=
  (.loop [0, 3] y184)
def yyw : CCode :=
  (.block 0 yjg)
def y11j : CCode :=
  (.seq yyw
 y12s)
def yta : CCode :=
  (.seq (.region [
 kO 3 (.mv (ci 0))])
 y11j)
def yuq : CCode :=
  (.seq (.region [
 kO 2 (.mv (.c (.bool false)))])
 yta)
def y275 : CFunc :=
  ⟨1, true, 0, yuq, [.t 2]⟩
def y15h : CCode :=
  (.seq (.draw [
 kO 47 (.fa 0 3),
 kO 48 (.ld false 1 47),
 kO 49 (.bin .neq 48 (ci 24)),
 kO 50 (.mv 49),
 kG 51 (.fa 0 3) 50 true,
 kG 52 (.ld false 1 51) 50 true,
 kG 53 (.bin .neq 52 (ci 25)) 50 true,
 kO 54 (.pick 50 53 (.c (.bool false))),
 kO 55 (.mv 54),
 kG 56 (.fa 8 3) 55 false,
 kG 57 (.ld false 1 56) 55 false,
 kG 58 (.len 1 57) 55 false,
 kG 59 (.bin .gtr 58 (ci 0)) 55 false,
 kG 60 (.mv 59) 55 false,
 kG 61 (.ld true 5 2) 60 true,
 kG 62 (.fa 8 3) 60 true,
 kG 63 (.ld false 1 62) 60 true,
 kG 64 (.ixs 1 63 (ci 0)) 60 true,
 kG 65 (.ld false 1 64) 60 true,
 kG 66 (.call none true 48 [61, 65]) 60 true,
 kG 67 (.bin .eql 66 (ci 3)) 60 true,
 kG 68 (.pick 60 67 (.c (.bool false))) 55 false,
 kO 69 (.pick 55 (.c (.bool true)) 68),
 kO 4 (.mv 69)] [])
 .ret)
def yx7 : CCode :=
  (.region [
 kO 37 (.mv 5),
 kO 38 (.bin .add 37 (ci 1)),
 kO 5 (.mv 38)])
def y0s : CCode :=
  (.seq (.block 1 (.seq (.draw [
 kO 39 (.ld true 5 2),
 kO 40 (.fa 8 3),
 kO 41 (.ld false 1 40),
 kO 42 (.mv 5),
 kO 43 (.ixs 1 41 42),
 kO 44 (.ld false 1 43),
 kO 45 (.call none true 48 [39, 44]),
 kO 46 (.bin .eql 45 (ci 0))] [])
 (.cond 46
 (.seq (.region [
  kO 4 (.mv (.c (.bool false)))])
  .ret)
 .skip)))
 yx7)
def y18d : CCode :=
  (.seq (.seq (.region [
 kO 32 (.mv 5),
 kO 33 (.fa 8 3),
 kO 34 (.ld false 1 33),
 kO 35 (.len 1 34),
 kO 36 (.bin .lss 32 35)])
 (.cond 36
 .skip
 (.exit 0)))
 y0s)
def yki : CCode :=
  (.loop [2, 3, 5] y18d)
def y0h : CCode :=
  (.block 0 yki)
def y181 : CCode :=
  (.seq (.region [
 kO 5 (.mv (ci 0))])
 y0h)
def y151 : CCode :=
  (.seq y181
 y15h)
def y169 : CCode :=
  (.seq (.seq (.region [
 kO 6 (.fa 5 3),
 kO 7 (.ld false 1 6),
 kO 8 (.bin .lss 7 (ci 0)),
 kO 9 (.mv 8),
 kG 10 (.fa 0 3) 9 true,
 kG 11 (.ld false 1 10) 9 true,
 kG 12 (.bin .neq 11 (ci 25)) 9 true,
 kO 13 (.pick 9 12 (.c (.bool false))),
 kO 14 (.mv 13),
 kG 15 (.fa 8 3) 14 false,
 kG 16 (.ld false 1 15) 14 false,
 kG 17 (.len 1 16) 14 false,
 kG 18 (.bin .gtr 17 (ci 21)) 14 false,
 kO 19 (.pick 14 (.c (.bool true)) 18),
 kO 20 (.mv 19),
 kG 21 (.fa 1 3) 20 false,
 kG 22 (.ld false 1 21) 20 false,
 kG 23 (.bin .neq 22 (ci (-1))) 20 false,
 kG 24 (.mv 23) 20 false,
 kG 25 (.ld true 5 2) 24 true,
 kG 26 (.fa 1 3) 24 true,
 kG 27 (.ld false 1 26) 24 true,
 kG 28 (.call none true 48 [25, 27]) 24 true,
 kG 29 (.bin .eql 28 (ci 0)) 24 true,
 kG 30 (.pick 24 29 (.c (.bool false))) 20 false,
 kO 31 (.pick 20 (.c (.bool true)) 30)])
 (.cond 31
 (.seq (.region [
  kO 4 (.mv (.c (.bool false)))])
  .ret)
 .skip))
 y151)
def yrk : CCode :=
  (.seq (.region [
 kO 2 (.box (some 0) 0),
 kO 3 (.box (some 1) 1),
 kO 4 (.mv (.c (.bool false)))])
 y169)
def y271 : CFunc :=
  ⟨2, true, 2, yrk, [.t 4]⟩
def y1iu : CCode :=
  (.seq (.region [
 kO 2 (.mv (ci 0)),
 kO 3 (.mv (ci 0)),
 kO 4 (.mv (ci 0))])
 .ret)
def y1uy : CCode :=
  (.cond 33
 (.seq (.region [
  kO 2 (.mv (ci 1)),
  kO 3 (.mv (ci 0)),
  kO 4 (.mv (ci 1))])
  .ret)
 (.seq (.region [
  kO 39 (.bin .eql 5 (ci 117)),
  kO 38 (.mv 39)])
  (.cond 38
  (.seq (.region [
   kO 2 (.mv (ci 2)),
   kO 3 (.mv (ci 0)),
   kO 4 (.mv (ci 2))])
   .ret)
  (.seq (.region [
   kO 41 (.bin .eql 5 (ci 133)),
   kO 40 (.mv 41)])
   (.cond 40
   (.seq (.region [
    kO 2 (.mv (ci 1)),
    kO 3 (.mv (ci 0)),
    kO 4 (.mv (ci 2))])
    .ret)
   (.seq (.region [
    kO 43 (.bin .eql 5 (ci 136)),
    kO 42 (.mv 43)])
    (.cond 42
    (.seq (.region [
     kO 2 (.mv (ci 2)),
     kO 3 (.mv (ci 0)),
     kO 4 (.mv (ci 1))])
     .ret)
    .skip)))))))
def y1si : CCode :=
  (.seq (.seq (.region [
 kO 34 (.bin .eql 5 (ci 116)),
 kO 33 (.mv 34)])
 (.cond 33
 .skip
 (.seq (.region [
  kO 35 (.bin .eql 5 (ci 145)),
  kO 33 (.mv 35)])
  (.cond 33
  .skip
  (.seq (.region [
   kO 36 (.bin .eql 5 (ci 146)),
   kO 33 (.mv 36)])
   (.cond 33
   .skip
   (.region [
    kO 37 (.bin .eql 5 (ci 147)),
    kO 33 (.mv 37)])))))))
 y1uy)
def y1oo : CCode :=
  (.cond 31
 (.seq (.region [
  kO 2 (.mv (ci 2)),
  kO 3 (.mv (ci 2)),
  kO 4 (.mv (ci 1))])
  .ret)
 y1si)
def y1lb : CCode :=
  (.seq (.region [
 kO 32 (.bin .eql 5 (ci 148)),
 kO 31 (.mv 32)])
 y1oo)
def y1ez : CCode :=
  (.cond 27
 (.seq (.region [
  kO 2 (.mv (ci 2)),
  kO 3 (.mv (ci 1)),
  kO 4 (.mv (ci 2))])
  .ret)
 y1lb)
def y1ec : CCode :=
  (.seq (.seq (.region [
 kO 28 (.bin .eql 5 (ci 121)),
 kO 27 (.mv 28)])
 (.cond 27
 .skip
 (.seq (.region [
  kO 29 (.bin .eql 5 (ci 123)),
  kO 27 (.mv 29)])
  (.cond 27
  .skip
  (.region [
   kO 30 (.bin .eql 5 (ci 125)),
   kO 27 (.mv 30)])))))
 y1ez)
def y1dr : CCode :=
  (.cond 18
 (.seq (.region [
  kO 2 (.mv (ci 2)),
  kO 3 (.mv (ci 2)),
  kO 4 (.mv (ci 2))])
  .ret)
 y1ec)
def y1vn : CCode :=
  (.seq (.seq (.region [
 kO 19 (.bin .eql 5 (ci 97)),
 kO 18 (.mv 19)])
 (.cond 18
 .skip
 (.seq (.region [
  kO 20 (.bin .eql 5 (ci 101)),
  kO 18 (.mv 20)])
  (.cond 18
  .skip
  (.seq (.region [
   kO 21 (.bin .eql 5 (ci 105)),
   kO 18 (.mv 21)])
   (.cond 18
   .skip
   (.seq (.region [
    kO 22 (.bin .eql 5 (ci 109)),
    kO 18 (.mv 22)])
    (.cond 18
    .skip
    (.seq (.region [
     kO 23 (.bin .eql 5 (ci 113)),
     kO 18 (.mv 23)])
     (.cond 18
     .skip
     (.seq (.region [
      kO 24 (.bin .eql 5 (ci 127)),
      kO 18 (.mv 24)])
      (.cond 18
      .skip
      (.seq (.region [
       kO 25 (.bin .eql 5 (ci 129)),
       kO 18 (.mv 25)])
       (.cond 18
       .skip
       (.region [
        kO 26 (.bin .eql 5 (ci 131)),
        kO 18 (.mv 26)])))))))))))))))
 y1dr)
def y187 : CCode :=
  (.cond 6
 (.seq (.region [
  kO 2 (.mv (ci 1)),
  kO 3 (.mv (ci 1)),
  kO 4 (.mv (ci 1))])
  .ret)
 y1vn)
def yxe : CCode :=
  (.seq (.seq (.region [
 kO 7 (.bin .eql 5 (ci 96)),
 kO 6 (.mv 7)])
 (.cond 6
 .skip
 (.seq (.region [
  kO 8 (.bin .eql 5 (ci 100)),
  kO 6 (.mv 8)])
  (.cond 6
  .skip
  (.seq (.region [
   kO 9 (.bin .eql 5 (ci 104)),
   kO 6 (.mv 9)])
   (.cond 6
   .skip
   (.seq (.region [
    kO 10 (.bin .eql 5 (ci 108)),
    kO 6 (.mv 10)])
    (.cond 6
    .skip
    (.seq (.region [
     kO 11 (.bin .eql 5 (ci 112)),
     kO 6 (.mv 11)])
     (.cond 6
     .skip
     (.seq (.region [
      kO 12 (.bin .eql 5 (ci 120)),
      kO 6 (.mv 12)])
      (.cond 6
      .skip
      (.seq (.region [
       kO 13 (.bin .eql 5 (ci 122)),
       kO 6 (.mv 13)])
       (.cond 6
       .skip
       (.seq (.region [
        kO 14 (.bin .eql 5 (ci 124)),
        kO 6 (.mv 14)])
        (.cond 6
        .skip
        (.seq (.region [
         kO 15 (.bin .eql 5 (ci 126)),
         kO 6 (.mv 15)])
         (.cond 6
         .skip
         (.seq (.region [
          kO 16 (.bin .eql 5 (ci 128)),
          kO 6 (.mv 16)])
          (.cond 6
          .skip
          (.region [
           kO 17 (.bin .eql 5 (ci 130)),
           kO 6 (.mv 17)])))))))))))))))))))))
 y187)
def yzo : CCode :=
  (.block 0 yxe)
def y04 : CCode :=
  (.seq (.region [
 kO 5 (.mv 0)])
 yzo)
def y11a : CCode :=
  (.seq y04
 y1iu)
def y14i : CCode :=
  (.seq (.region [
 kO 2 (.mv (ci 0)),
 kO 3 (.mv (ci 0)),
 kO 4 (.mv (ci 0))])
 y11a)
def y2ix : CFunc :=
  ⟨1, true, 0, y14i, [.t 2, .t 3, .t 4]⟩
def y27g : CCode :=
  (.seq (.region [
 kO 2 (.mv (.c (.bool false)))])
 (.seq (.region [
 kO 3 (.mv 0),
 kO 4 (.bin .neq 3 (.c (.str []))),
 kO 5 (.mv 4),
 kG 6 (.mv 0) 5 true,
 kG 7 (.call none true 44 [6]) 5 true,
 kG 8 (.mv 0) 5 true,
 kG 9 (.len 0 8) 5 true,
 kG 10 (.bin .eql 7 9) 5 true,
 kO 11 (.pick 5 10 (.c (.bool false))),
 kO 2 (.mv 11)])
 .ret))
def c_q8 : CFunc :=
  ⟨1, true, 0, y27g, [.t 2]⟩
def y1qw : CCode :=
  (.seq (.region [
 kO 73 (.build [(.int .i64 0), (.int .i64 0), (.int .i64 0), (.int .i64 0)] []),
 kU (.st 4 2 73),
 kO 3 (.mv (.c (.bool false)))])
 .ret)
def y1de : CCode :=
  (.seq (.draw [
 kO 15 (.mv 4),
 kO 16 (.build [(.int .i64 0), (.int .i64 0), (.int .i64 0), (.int .i64 0)] [(0, 1, (ci (-1))), (1, 1, (ci 3)), (2, 1, 15), (3, 1, (ci (-1)))]),
 kO 17 (.fa 5 1),
 kO 18 (.ld false 1 17),
 kO 19 (.bin .eql 18 (ci 0)),
 kO 20 (.mv 19),
 kG 21 (.fa 5 1) 20 false,
 kG 22 (.ld false 1 21) 20 false,
 kG 23 (.bin .eql 22 (ci 1)) 20 false,
 kO 24 (.pick 20 (.c (.bool true)) 23),
 kU (.st 4 2 16),
 kO 3 (.mv 24)] [(7, 10)])
 .ret)
def y1gx : CCode :=
  (.seq (.seq (.region [
 kO 12 (.fa 3 1),
 kO 13 (.ld false 1 12),
 kO 14 (.bin .neq 13 (ci (-1)))])
 (.cond 14
 (.region [
  kO 4 (.mv (ci 3))])
 .skip))
 y1de)
def y1f0 : CCode :=
  (.seq (.region [
 kO 4 (.mv (ci (-1)))])
 y1gx)
def y1fw : CCode :=
  (.seq (.region [
 kO 30 (.mv 5),
 kO 31 (.build [(.int .i64 0), (.int .i64 0), (.int .i64 0), (.int .i64 0)] [(0, 1, (ci (-1))), (1, 1, 30), (2, 1, (ci (-1))), (3, 1, (ci (-1)))]),
 kU (.st 4 2 31),
 kO 3 (.mv (.c (.bool true)))])
 .ret)
def y1m8 : CCode :=
  (.seq (.seq (.region [
 kO 27 (.fa 2 1),
 kO 28 (.ld false 1 27),
 kO 29 (.bin .neq 28 (ci (-1)))])
 (.cond 29
 (.region [
  kO 5 (.mv (ci 0))])
 .skip))
 y1fw)
def y1ms : CCode :=
  (.seq (.region [
 kO 5 (.mv (ci (-1)))])
 y1m8)
def y1s6 : CCode :=
  (.seq (.region [
 kO 40 (.fa 0 1),
 kO 41 (.ld false 1 40),
 kO 42 (.bin .eql 41 (ci 23)),
 kO 43 (.mv 42),
 kG 44 (.fa 0 1) 43 false,
 kG 45 (.ld false 1 44) 43 false,
 kG 46 (.bin .eql 45 (ci 26)) 43 false,
 kO 47 (.pick 43 (.c (.bool true)) 46),
 kO 48 (.mv 47),
 kG 49 (.fa 8 1) 48 false,
 kG 50 (.ld false 1 49) 48 false,
 kG 51 (.len 1 50) 48 false,
 kG 52 (.bin .gtr 51 (ci 0)) 48 false,
 kO 53 (.pick 48 (.c (.bool true)) 52),
 kO 7 (.mv 53)])
 (.seq (.draw [
 kO 54 (.mv 6),
 kO 55 (.build [(.int .i64 0), (.int .i64 0), (.int .i64 0), (.int .i64 0)] [(0, 1, 54), (1, 1, (ci (-1))), (2, 1, (ci (-1))), (3, 1, (ci (-1)))]),
 kO 56 (.mv 7),
 kO 57 (.mv 56),
 kG 58 (.fa 5 1) 57 true,
 kG 59 (.ld false 1 58) 57 true,
 kG 60 (.bin .geq 59 (ci 0)) 57 true,
 kG 61 (.mv 60) 57 true,
 kG 62 (.fa 0 1) 61 false,
 kG 63 (.ld false 1 62) 61 false,
 kG 64 (.bin .eql 63 (ci 25)) 61 false,
 kG 65 (.pick 61 (.c (.bool true)) 64) 57 true,
 kO 66 (.pick 57 65 (.c (.bool false))),
 kO 67 (.mv 66),
 kG 68 (.fa 8 1) 67 true,
 kG 69 (.ld false 1 68) 67 true,
 kG 70 (.len 1 69) 67 true,
 kG 71 (.bin .leq 70 (ci 21)) 67 true,
 kO 72 (.pick 67 71 (.c (.bool false))),
 kU (.st 4 2 55),
 kO 3 (.mv 72)] [(15, 19), (16, 19)])
 .ret))
def y1uu : CCode :=
  (.seq (.seq (.region [
 kO 37 (.fa 1 1),
 kO 38 (.ld false 1 37),
 kO 39 (.bin .neq 38 (ci (-1)))])
 (.cond 39
 (.region [
  kO 6 (.mv (ci 0))])
 .skip))
 y1s6)
def y13o : CCode :=
  (.seq (.region [
 kO 6 (.mv (ci (-1)))])
 y1uu)
def y15y : CCode :=
  (.cond 32
 y13o
 .skip)
def y15b : CCode :=
  (.seq (.seq (.region [
 kO 33 (.bin .eql 9 (ci 23)),
 kO 32 (.mv 33)])
 (.cond 32
 .skip
 (.seq (.region [
  kO 34 (.bin .eql 9 (ci 24)),
  kO 32 (.mv 34)])
  (.cond 32
  .skip
  (.seq (.region [
   kO 35 (.bin .eql 9 (ci 25)),
   kO 32 (.mv 35)])
   (.cond 32
   .skip
   (.region [
    kO 36 (.bin .eql 9 (ci 26)),
    kO 32 (.mv 36)])))))))
 y15y)
def yx5 : CCode :=
  (.cond 25
 y1ms
 y15b)
def yye : CCode :=
  (.seq (.region [
 kO 26 (.bin .eql 9 (ci 30)),
 kO 25 (.mv 26)])
 yx5)
def y11x : CCode :=
  (.cond 10
 y1f0
 yye)
def y11u : CCode :=
  (.seq (.region [
 kO 11 (.bin .eql 9 (ci 29)),
 kO 10 (.mv 11)])
 y11x)
def yxj : CCode :=
  (.block 0 y11u)
def yyk : CCode :=
  (.seq (.region [
 kO 8 (.fa 0 1),
 kO 9 (.ld false 1 8)])
 yxj)
def yy7 : CCode :=
  (.seq yyk
 y1qw)
def y0i : CCode :=
  (.seq (.region [
 kO 1 (.box (some 0) 0),
 kO 2 (.new (some 1) [(.int .i64 0), (.int .i64 0), (.int .i64 0), (.int .i64 0)]),
 kO 3 (.mv (.c (.bool false)))])
 yy7)
def y2lg : CFunc :=
  ⟨1, true, 2, y0i, [.cell 2 true 4, .t 3]⟩
def y18m : CCode :=
  (.seq (.region [
 kO 24 (.mv 0),
 kO 25 (.bin .neq 24 (.c (.str []))),
 kO 26 (.mv 25),
 kG 27 (.mv 0) 26 true,
 kG 28 (.len 0 27) 26 true,
 kG 29 (.bin .leq 28 (ci 60)) 26 true,
 kO 30 (.pick 26 29 (.c (.bool false))),
 kO 4 (.mv 30)])
 .ret)
def yys : CCode :=
  (.region [
 kO 14 (.mv 6),
 kO 15 (.bin .add 14 (ci 1)),
 kO 6 (.mv 15)])
def y17j : CCode :=
  (.seq (.block 1 (.seq (.region [
 kO 16 (.mv 5),
 kO 17 (.mv 0),
 kO 18 (.mv 6),
 kO 19 (.mv 6),
 kO 20 (.bin .add 19 (ci 1)),
 kO 21 (.sls 17 (some 18) (some 20)),
 kO 22 (.call none true 53 [16, 21]),
 kO 23 (.un .not 22)])
 (.cond 23
 (.seq (.region [
  kO 4 (.mv (.c (.bool false)))])
  .ret)
 .skip)))
 yys)
def y15n : CCode :=
  (.seq (.seq (.region [
 kO 10 (.mv 6),
 kO 11 (.mv 0),
 kO 12 (.len 0 11),
 kO 13 (.bin .lss 10 12)])
 (.cond 13
 .skip
 (.exit 0)))
 y17j)
def yjv : CCode :=
  (.loop [0, 5, 6] y15n)
def y114 : CCode :=
  (.block 0 yjv)
def yxl : CCode :=
  (.seq (.region [
 kO 6 (.mv (ci 0))])
 y114)
def y12b : CCode :=
  (.seq yxl
 y18m)
def y18i : CCode :=
  (.seq (.seq (.region [
 kO 7 (.mv 1)])
 (.cond 7
 (.region [
  kO 8 (.mv 5),
  kO 9 (.bin .add 8 (.c (.str [60, 62]))),
  kO 5 (.mv 9)])
 .skip))
 y12b)
def yqc : CCode :=
  (.seq (.region [
 kO 5 (.mv (.c (.str [97, 98, 99, 100, 101, 102, 103, 104, 105, 106, 107, 108, 109, 110, 111, 112, 113, 114, 115, 116, 117, 118, 119, 120, 121, 122, 65, 66, 67, 68, 69, 70, 71, 72, 73, 74, 75, 76, 77, 78, 79, 80, 81, 82, 83, 84, 85, 86, 87, 88, 89, 90, 48, 49, 50, 51, 52, 53, 54, 55, 56, 57, 95, 36, 47])))])
 y18i)
def yue : CCode :=
  (.seq (.region [
 kO 4 (.mv (.c (.bool false)))])
 yqc)
def y26p : CFunc :=
  ⟨2, true, 0, yue, [.t 4]⟩
def y27j : CCode :=
  (.seq (.region [
 kO 2 (.mv (ci 0))])
 .ret)
def y25l : CCode :=
  (.region [
 kO 41 (.mv 4),
 kO 42 (.bin .add 41 (ci 1)),
 kO 4 (.mv 42)])
def y25z : CCode :=
  (.seq (.region [
 kO 2 (.mv (ci 0))])
 .ret)
def y27k : CCode :=
  (.seq (.seq (.region [
 kO 47 (.mv 0),
 kO 48 (.mv 3),
 kO 49 (.bin .add 48 (ci 1)),
 kO 50 (.mv 4),
 kO 51 (.sls 47 (some 49) (some 50)),
 kO 52 (.call none true 60 [51, (.c (.bool false))])])
 (.cond 52
 (.seq (.region [
  kO 53 (.mv 4),
  kO 54 (.bin .add 53 (ci 1)),
  kO 2 (.mv 54)])
  .ret)
 .skip))
 y25z)
def y272 : CCode :=
  (.cond 46
 y27k
 .skip)
def y276 : CCode :=
  (.seq (.region [
 kO 43 (.mv 0),
 kO 44 (.mv 4),
 kO 45 (.ixstr 43 44),
 kO 46 (.bin .eql 45 (.c (.int .u8 59)))])
 y272)
def y267 : CCode :=
  (.block 4 y276)
def y27e : CCode :=
  (.seq y267
 y25l)
def y1ef : CCode :=
  (.seq (.seq (.region [
 kO 37 (.mv 4),
 kO 38 (.mv 0),
 kO 39 (.len 0 38),
 kO 40 (.bin .lss 37 39)])
 (.cond 40
 .skip
 (.exit 3)))
 y27e)
def ywb : CCode :=
  (.loop [0, 3, 4] y1ef)
def y1g0 : CCode :=
  (.block 3 ywb)
def y1ux : CCode :=
  (.seq (.region [
 kO 35 (.mv 3),
 kO 36 (.bin .add 35 (ci 1)),
 kO 4 (.mv 36)])
 y1g0)
def y1dv : CCode :=
  (.cond 33
 y1ux
 .skip)
def y1u2 : CCode :=
  (.seq (.region [
 kO 34 (.bin .eql 27 (.c (.int .u8 76))),
 kO 33 (.mv 34)])
 y1dv)
def y1q8 : CCode :=
  (.cond 28
 (.seq (.region [
  kO 31 (.mv 3),
  kO 32 (.bin .add 31 (ci 1)),
  kO 2 (.mv 32)])
  .ret)
 y1u2)
def y1l4 : CCode :=
  (.seq (.seq (.region [
 kO 29 (.bin .eql 27 (.c (.int .u8 73))),
 kO 28 (.mv 29)])
 (.cond 28
 .skip
 (.region [
  kO 30 (.bin .eql 27 (.c (.int .u8 74))),
  kO 28 (.mv 30)])))
 y1q8)
def y1m9 : CCode :=
  (.block 2 y1l4)
def y1f2 : CCode :=
  (.seq (.region [
 kO 25 (.mv 0),
 kO 26 (.mv 3),
 kO 27 (.ixstr 25 26)])
 y1m9)
def y1ht : CCode :=
  (.seq y1f2
 y27j)
def y1ti : CCode :=
  (.seq (.seq (.region [
 kO 17 (.mv 3),
 kO 18 (.bin .gtr 17 (ci 8)),
 kO 19 (.mv 18),
 kG 20 (.mv 3) 19 false,
 kG 21 (.mv 0) 19 false,
 kG 22 (.len 0 21) 19 false,
 kG 23 (.bin .eql 20 22) 19 false,
 kO 24 (.pick 19 (.c (.bool true)) 23)])
 (.cond 24
 (.seq (.region [
  kO 2 (.mv (ci 0))])
  .ret)
 .skip))
 y1ht)
def y1wm : CCode :=
  (.block 1 (.region [
 kO 15 (.mv 3),
 kO 16 (.bin .add 15 (ci 1)),
 kO 3 (.mv 16)]))
def y1ma : CCode :=
  (.seq (.seq (.region [
 kO 5 (.mv 3),
 kO 6 (.mv 0),
 kO 7 (.len 0 6),
 kO 8 (.bin .lss 5 7),
 kO 9 (.mv 8),
 kG 10 (.mv 0) 9 true,
 kG 11 (.mv 3) 9 true,
 kG 12 (.ixstr 10 11) 9 true,
 kG 13 (.bin .eql 12 (.c (.int .u8 91))) 9 true,
 kO 14 (.pick 9 13 (.c (.bool false)))])
 (.cond 14
 .skip
 (.exit 0)))
 y1wm)
def yp3 : CCode :=
  (.loop [0, 3] y1ma)
def y1kf : CCode :=
  (.block 0 yp3)
def y1hd : CCode :=
  (.seq y1kf
 y1ti)
def y1ng : CCode :=
  (.seq (.region [
 kO 3 (.mv (ci 0))])
 y1hd)
def y1sn : CCode :=
  (.seq (.region [
 kO 2 (.mv (ci 0))])
 y1ng)
def c_q9 : CFunc :=
  ⟨1, true, 0, y1sn, [.t 2]⟩
def y278 : CCode :=
  (.seq (.region [
 kO 4 (.mv (.c (.bool true)))])
 .ret)
def y27c : CCode :=
  (.region [
 kO 71 (.bin .add 19 (ci 1)),
 kO 19 (.mv 71)])
def y26l : CCode :=
  (.seq (.block 1 (.seq (.region [
 kO 21 (.ixs 1 17 19),
 kO 22 (.ld false 1 21),
 kO 6 (.mv 22)])
 (.seq (.region [
 kO 23 (.mv 6),
 kO 24 (.bin .geq 23 (.c (.int .u8 97))),
 kO 25 (.mv 24),
 kG 26 (.mv 6) 25 true,
 kG 27 (.bin .leq 26 (.c (.int .u8 122))) 25 true,
 kO 28 (.pick 25 27 (.c (.bool false))),
 kO 29 (.mv 28),
 kG 30 (.mv 6) 29 false,
 kG 31 (.bin .geq 30 (.c (.int .u8 65))) 29 false,
 kG 32 (.mv 31) 29 false,
 kG 33 (.mv 6) 32 true,
 kG 34 (.bin .leq 33 (.c (.int .u8 90))) 32 true,
 kG 35 (.pick 32 34 (.c (.bool false))) 29 false,
 kO 36 (.pick 29 (.c (.bool true)) 35),
 kO 37 (.mv 36),
 kG 38 (.mv 6) 37 false,
 kG 39 (.bin .geq 38 (.c (.int .u8 48))) 37 false,
 kG 40 (.mv 39) 37 false,
 kG 41 (.mv 6) 40 true,
 kG 42 (.bin .leq 41 (.c (.int .u8 57))) 40 true,
 kG 43 (.pick 40 42 (.c (.bool false))) 37 false,
 kO 44 (.pick 37 (.c (.bool true)) 43),
 kO 45 (.mv 44),
 kG 46 (.mv 6) 45 false,
 kG 47 (.bin .eql 46 (.c (.int .u8 95))) 45 false,
 kO 48 (.pick 45 (.c (.bool true)) 47),
 kO 49 (.mv 48),
 kG 50 (.mv 6) 49 false,
 kG 51 (.bin .eql 50 (.c (.int .u8 36))) 49 false,
 kO 52 (.pick 49 (.c (.bool true)) 51),
 kO 53 (.mv 52),
 kG 54 (.mv 6) 53 false,
 kG 55 (.bin .eql 54 (.c (.int .u8 47))) 53 false,
 kO 56 (.pick 53 (.c (.bool true)) 55),
 kO 7 (.mv 56)])
 (.seq (.region [
 kO 57 (.mv 7),
 kO 58 (.un .not 57),
 kO 59 (.mv 58),
 kG 60 (.mv 1) 59 true,
 kG 61 (.mv 60) 59 true,
 kG 62 (.mv 6) 61 true,
 kG 63 (.bin .eql 62 (.c (.int .u8 60))) 61 true,
 kG 64 (.mv 63) 61 true,
 kG 65 (.mv 6) 64 false,
 kG 66 (.bin .eql 65 (.c (.int .u8 62))) 64 false,
 kG 67 (.pick 64 (.c (.bool true)) 66) 61 true,
 kG 68 (.pick 61 67 (.c (.bool false))) 59 true,
 kG 69 (.un .not 68) 59 true,
 kO 70 (.pick 59 69 (.c (.bool false)))])
 (.cond 70
 (.seq (.region [
  kO 4 (.mv (.c (.bool false)))])
  .ret)
 .skip)))))
 y27c)
def y270 : CCode :=
  (.seq (.cond 20
 .skip
 (.exit 0))
 y26l)
def y25s : CCode :=
  (.seq (.region [
 kO 20 (.bin .lss 19 18)])
 y270)
def yvl : CCode :=
  (.loop [1, 17, 18, 19] y25s)
def y26i : CCode :=
  (.block 0 yvl)
def y26t : CCode :=
  (.seq (.region [
 kO 16 (.mv 0),
 kO 17 (.s2b (some 0) 16),
 kO 18 (.len 1 17),
 kO 19 (.mv (ci 0))])
 y26i)
def y27n : CCode :=
  (.seq y26t
 y278)
def y1eg : CCode :=
  (.seq (.seq (.region [
 kO 8 (.mv 0),
 kO 9 (.len 0 8),
 kO 10 (.bin .lss 9 (ci 1)),
 kO 11 (.mv 10),
 kG 12 (.mv 0) 11 false,
 kG 13 (.len 0 12) 11 false,
 kG 14 (.bin .gtr 13 (ci 60)) 11 false,
 kO 15 (.pick 11 (.c (.bool true)) 14)])
 (.cond 15
 (.seq (.region [
  kO 4 (.mv (.c (.bool false)))])
  .ret)
 .skip))
 y27n)
def y1lz : CCode :=
  (.seq (.region [
 kO 4 (.mv (.c (.bool false)))])
 y1eg)
def c_q7 : CFunc :=
  ⟨2, true, 1, y1lz, [.t 4]⟩
def tbl : List (Option Nat) := [none, none, none, none, none, none, none, none, none, none, none, some 162, none, none, none, none, some 13, some 14, some 8, none, none, none, some 165, some 166, none, none, none, none, none, none, none, none, some 29, some 77, none, none, some 10, some 9, some 39, some 40, some 41, some 11, some 28, some 24, some 46, some 63, some 22, none, none, none, none, some 167, some 161, some 170, some 79, some 168, some 81, some 169, none, none, none, none, none, none, none, none, none, none, some 25, some 48, some 42, some 64, some 23, some 49, some 78, some 80, none, none, none, none, none, none, some 17, some 45, some 47, none, none, none, none, none, some 18, none, none, none, none, none, none, none, none, none, none, none, none, none, none, some 38, some 65, some 66, some 67, some 68, none, none, none, some 50, some 37, some 51, none, none, none, none, none, none, none, none, none, none, none, some 69, none, none, some 44, none, none, none, some 53, some 60]
def fnE : Nat → Option CFunc
  | 8 => some y2kl
  | 9 => some y2mb
  | 10 => some y2is
  | 11 => some y260
  | 13 => some y2h9
  | 14 => some y26z
  | 17 => some y2ha
  | 18 => some y2hk
  | 22 => some y2hi
  | 23 => some y274
  | 24 => some y2hs
  | 25 => some y25v
  | 28 => some y27o
  | 29 => some y25n
  | 37 => some c_q8
  | 38 => some y262
  | 39 => some y26r
  | 40 => some y26c
  | 41 => some y26h
  | 42 => some y26j
  | 44 => some c_q9
  | 45 => some y26b
  | 46 => some y26x
  | 47 => some y2jf
  | 48 => some y26v
  | 49 => some y26w
  | 50 => some y2ix
  | 51 => some y2lg
  | 60 => some c_q7
  | 63 => some y2iw
  | 64 => some y27i
  | 65 => some y25o
  | 66 => some y2jw
  | 67 => some y275
  | 68 => some y271
  | 69 => some y26p
  | 77 => some y2in
  | 78 => some y264
  | 79 => some y2ie
  | 80 => some y2i8
  | 81 => some y2jr
  | 162 => some y2iu
  | 165 => some y2ii
  | 166 => some y2kf
  | 167 => some y2ic
  | 168 => some y2j6
  | 169 => some y2l8
  | 170 => some y2ho
  | _ => none
abbrev nm : Nat → Option Nat := nmOf tbl
def E : Env := envX fnE [80, 167] (xpOr xpC (xpM 161))
abbrev T1 (c : CCode) (n : St → OX) (e : Nat → St → OX) (r : List CRes) (k : St → OX) : Prop := ∀ s, W E 0 c s n e (finP r) = k s
abbrev T0 (c : CCode) (r : List CRes) (k : St → OX) : Prop := T1 c (finP r) xN r k
theorem sq {a b : CCode} {n k k' : St → OX} {e : Nat → St → OX} {r : List CRes} (h : T1 b n e r k) (h' : T1 a k e r k') : T1 (.seq a b) n e r k' := fun s => (yek h).trans (h' s)
theorem ok11 : FnOk Go.Proofs.Try.prog nm fnE 11 162 := .of Go.Proofs.Try.func11 (by kernel_rfl) (by kernel_rfl) rfl (by kernel_rfl)
theorem ok16 : FnOk Go.Proofs.Try.prog nm fnE 16 13 := .of Go.Proofs.Try.func16 (by kernel_rfl) (by kernel_rfl) rfl (by kernel_rfl)
theorem ok17 : FnOk Go.Proofs.Try.prog nm fnE 17 14 := .of Go.Proofs.Try.func17 (by kernel_rfl) (by kernel_rfl) rfl (by kernel_rfl)
theorem ok18 : FnOk Go.Proofs.Try.prog nm fnE 18 8 := .of Go.Proofs.Try.func18 (by kernel_rfl) (by kernel_rfl) rfl (by kernel_rfl)
theorem ok22 : FnOk Go.Proofs.Try.prog nm fnE 22 165 := .of Go.Proofs.Try.func22 (by kernel_rfl) (by kernel_rfl) rfl (by kernel_rfl)
theorem ok23 : FnOk Go.Proofs.Try.prog nm fnE 23 166 := .of Go.Proofs.Try.func23 (by kernel_rfl) (by kernel_rfl) rfl (by kernel_rfl)
theorem ok32 : FnOk Go.Proofs.Try.prog nm fnE 32 29 := .of Go.Proofs.Try.func32 (by kernel_rfl) (by kernel_rfl) rfl (by kernel_rfl)
theorem ok33 : FnOk Go.Proofs.Try.prog nm fnE 33 77 := .of Go.Proofs.Try.func33 (by kernel_rfl) (by kernel_rfl) rfl (by kernel_rfl)
theorem ok36 : FnOk Go.Proofs.Try.prog nm fnE 36 10 := .of Go.Proofs.Try.func36 (by kernel_rfl) (by kernel_rfl) rfl (by kernel_rfl)
theorem ok37 : FnOk Go.Proofs.Try.prog nm fnE 37 9 := .of Go.Proofs.Try.func37 (by kernel_rfl) (by kernel_rfl) rfl (by kernel_rfl)
theorem ok38 : FnOk Go.Proofs.Try.prog nm fnE 38 39 := .of Go.Proofs.Try.func38 (by kernel_rfl) (by kernel_rfl) rfl (by kernel_rfl)
theorem ok39 : FnOk Go.Proofs.Try.prog nm fnE 39 40 := .of Go.Proofs.Try.func39 (by kernel_rfl) (by kernel_rfl) rfl (by kernel_rfl)
theorem ok40 : FnOk Go.Proofs.Try.prog nm fnE 40 41 := .of Go.Proofs.Try.func40 (by kernel_rfl) (by kernel_rfl) rfl (by kernel_rfl)
theorem ok41 : FnOk Go.Proofs.Try.prog nm fnE 41 11 := .of Go.Proofs.Try.func41 (by kernel_rfl) (by kernel_rfl) rfl (by kernel_rfl)
theorem ok42 : FnOk Go.Proofs.Try.prog nm fnE 42 28 := .of Go.Proofs.Try.func42 (by kernel_rfl) (by kernel_rfl) rfl (by kernel_rfl)
theorem ok43 : FnOk Go.Proofs.Try.prog nm fnE 43 24 := .of Go.Proofs.Try.func43 (by kernel_rfl) (by kernel_rfl) rfl (by kernel_rfl)
theorem ok44 : FnOk Go.Proofs.Try.prog nm fnE 44 46 := .of Go.Proofs.Try.func44 (by kernel_rfl) (by kernel_rfl) rfl (by kernel_rfl)
theorem ok45 : FnOk Go.Proofs.Try.prog nm fnE 45 63 := .of Go.Proofs.Try.func45 (by kernel_rfl) (by kernel_rfl) rfl (by kernel_rfl)
theorem ok46 : FnOk Go.Proofs.Try.prog nm fnE 46 22 := .of Go.Proofs.Try.func46 (by kernel_rfl) (by kernel_rfl) rfl (by kernel_rfl)
theorem ok51 : FnOk Go.Proofs.Try.prog nm fnE 51 167 := .of Go.Proofs.Try.func51 (by kernel_rfl) (by kernel_rfl) rfl (by kernel_rfl)
theorem ok52 : FnOk Go.Proofs.Try.prog nm fnE 52 161 := .ext Go.Proofs.Try.func52 (by kernel_rfl) (by kernel_rfl) rfl
theorem ok53 : FnOk Go.Proofs.Try.prog nm fnE 53 170 := .of Go.Proofs.Try.func53 (by kernel_rfl) (by kernel_rfl) rfl (by kernel_rfl)
theorem ok54 : FnOk Go.Proofs.Try.prog nm fnE 54 79 := .of Go.Proofs.Try.func54 (by kernel_rfl) (by kernel_rfl) rfl (by kernel_rfl)
theorem ok55 : FnOk Go.Proofs.Try.prog nm fnE 55 168 := .of Go.Proofs.Try.func55 (by kernel_rfl) (by kernel_rfl) rfl (by kernel_rfl)
theorem ok56 : FnOk Go.Proofs.Try.prog nm fnE 56 81 := .of Go.Proofs.Try.func56 (by kernel_rfl) (by kernel_rfl) rfl (by kernel_rfl)
theorem ok57 : FnOk Go.Proofs.Try.prog nm fnE 57 169 := .of Go.Proofs.Try.func57 (by kernel_rfl) (by kernel_rfl) rfl (by kernel_rfl)
theorem ok68 : FnOk Go.Proofs.Try.prog nm fnE 68 25 := .of Go.Proofs.Try.func68 (by kernel_rfl) (by kernel_rfl) rfl (by kernel_rfl)
theorem ok69 : FnOk Go.Proofs.Try.prog nm fnE 69 48 := .of Go.Proofs.Try.func69 (by kernel_rfl) (by kernel_rfl) rfl (by kernel_rfl)
theorem ok70 : FnOk Go.Proofs.Try.prog nm fnE 70 42 := .of Go.Proofs.Try.func70 (by kernel_rfl) (by kernel_rfl) rfl (by kernel_rfl)
theorem ok71 : FnOk Go.Proofs.Try.prog nm fnE 71 64 := .of Go.Proofs.Try.func71 (by kernel_rfl) (by kernel_rfl) rfl (by kernel_rfl)
theorem ok72 : FnOk Go.Proofs.Try.prog nm fnE 72 23 := .of Go.Proofs.Try.func72 (by kernel_rfl) (by kernel_rfl) rfl (by kernel_rfl)
theorem ok73 : FnOk Go.Proofs.Try.prog nm fnE 73 49 := .of Go.Proofs.Try.func73 (by kernel_rfl) (by kernel_rfl) rfl (by kernel_rfl)
theorem ok74 : FnOk Go.Proofs.Try.prog nm fnE 74 78 := .of Go.Proofs.Try.func74 (by kernel_rfl) (by kernel_rfl) rfl (by kernel_rfl)
theorem ok75 : FnOk Go.Proofs.Try.prog nm fnE 75 80 := .of Go.Proofs.Try.func75 (by kernel_rfl) (by kernel_rfl) rfl (by kernel_rfl)
theorem ok82 : FnOk Go.Proofs.Try.prog nm fnE 82 17 := .of Go.Proofs.Try.func82 (by kernel_rfl) (by kernel_rfl) rfl (by kernel_rfl)
theorem ok83 : FnOk Go.Proofs.Try.prog nm fnE 83 45 := .of Go.Proofs.Try.func83 (by kernel_rfl) (by kernel_rfl) rfl (by kernel_rfl)
theorem ok84 : FnOk Go.Proofs.Try.prog nm fnE 84 47 := .of Go.Proofs.Try.func84 (by kernel_rfl) (by kernel_rfl) rfl (by kernel_rfl)
theorem ok90 : FnOk Go.Proofs.Try.prog nm fnE 90 18 := .of Go.Proofs.Try.func90 (by kernel_rfl) (by kernel_rfl) rfl (by kernel_rfl)
theorem y2oq : FnOk Go.Proofs.Try.prog nm fnE 105 38 := .of Go.Proofs.Try.func105 (by kernel_rfl) (by kernel_rfl) rfl (by kernel_rfl)
theorem y2o9 : FnOk Go.Proofs.Try.prog nm fnE 106 65 := .of Go.Proofs.Try.func106 (by kernel_rfl) (by kernel_rfl) rfl (by kernel_rfl)
theorem y2r6 : FnOk Go.Proofs.Try.prog nm fnE 107 66 := .of Go.Proofs.Try.func107 (by kernel_rfl) (by kernel_rfl) rfl (by kernel_rfl)
theorem y2o0 : FnOk Go.Proofs.Try.prog nm fnE 108 67 := .of Go.Proofs.Try.func108 (by kernel_rfl) (by kernel_rfl) rfl (by kernel_rfl)
theorem y2p6 : FnOk Go.Proofs.Try.prog nm fnE 109 68 := .of Go.Proofs.Try.func109 (by kernel_rfl) (by kernel_rfl) rfl (by kernel_rfl)
theorem y2op : FnOk Go.Proofs.Try.prog nm fnE 113 50 := .of Go.Proofs.Try.func113 (by kernel_rfl) (by kernel_rfl) rfl (by kernel_rfl)
theorem y2ob : FnOk Go.Proofs.Try.prog nm fnE 114 37 := .of Go.Proofs.Try.func114 (by kernel_rfl) (by kernel_rfl) rfl (by kernel_rfl)
theorem y2pk : FnOk Go.Proofs.Try.prog nm fnE 115 51 := .of Go.Proofs.Try.func115 (by kernel_rfl) (by kernel_rfl) rfl (by kernel_rfl)
theorem y2on : FnOk Go.Proofs.Try.prog nm fnE 127 69 := .of Go.Proofs.Try.func127 (by kernel_rfl) (by kernel_rfl) rfl (by kernel_rfl)
theorem y2pl : FnOk Go.Proofs.Try.prog nm fnE 130 44 := .of Go.Proofs.Try.func130 (by kernel_rfl) (by kernel_rfl) rfl (by kernel_rfl)
theorem y2p7 : FnOk Go.Proofs.Try.prog nm fnE 134 53 := .ext Go.Proofs.Try.func134 (by kernel_rfl) (by kernel_rfl) rfl
theorem y2qo : FnOk Go.Proofs.Try.prog nm fnE 135 60 := .of Go.Proofs.Try.func135 (by kernel_rfl) (by kernel_rfl) rfl (by kernel_rfl)
theorem y2ov : AllF Go.Proofs.Try.prog nm fnE 0 tbl :=
  ⟨ok11, ok16, ok17, ok18, ok22, ok23, ok32, ok33, ok36, ok37, ok38, ok39, ok40, ok41, ok42, ok43, ok44, ok45, ok46, ok51, ok52, ok53, ok54, ok55, ok56, ok57, ok68, ok69, ok70, ok71, ok72, ok73, ok74, ok75, ok82, ok83, ok84, ok90, y2oq, y2o9, y2r6, y2o0, y2p6, y2op, y2ob, y2pk, y2on, y2pl, y2p7, y2qo, trivial⟩
section
open Go.Proofs Go.RowKit
theorem y1r5 {P : Program} {w : World} {r : Nat} {es : Array MapEntry} {clock : Nat} (t : TypeId) (hb : w.heap[r]? = some (.map es clock)) :
    (Extern.MapsClone.clone #[.iface t (.map (some r))]).run P w = .ok (.iface t (.map (some w.heap.size))) (w.alloc (.map es clock)) := by
  have e : Extern.MapsClone.clone #[.iface t (.map (some r))] = (getObj r >>= fun o => match o with
      | .map entries clock => (newObj (.map entries clock) >>= fun n => pure (.iface t (.map (some n))))
      | _ => stuck "maps.clone: a map expected") := rfl
  rw [e]
  simp [MapKept.run_getObj_map hb, Result.andThen, go_sem]
theorem yv5 {P : Program} {w : World} (t xT k e : TypeId) (v : Value) (h : P.underlying t = some (.map k e)) : (Instr.typeAssert (.iface t v) xT t false).run P w = .ok v w := by
  simp [Instr.typeAssert, yc h, go_sem, Result.andThen]
set_option maxRecDepth 100000 in
set_option maxHeartbeats 2000000 in
theorem yt7 (b : Nat) (es : Array MapEntry) (clock : Nat) (w : World) (hb : w.heap[b]? = some (.map es clock)) : Calls Go.Proofs.Try.prog 52 #[.map (some b)] w fun e w' => e = .returned (.map (some w.heap.size)) ∧ w' = w.alloc (.map es clock) := by
  have hq := fun w => run_eql_map_nil (P := Go.Proofs.Try.prog) w 65 _ _ (some b) Go.Proofs.Try.underlying65
  go_enter Go.Proofs.Try.func52, Go.Proofs.Try.ntmps52
  go_wp2
  rw [run_callFunc_extern Go.Proofs.Try.func89 (by kernel_rfl) (by kernel_rfl) (by kernel_rfl) (e := Extern.MapsClone.clone) (by kernel_rfl), y1r5 65 hb]
  simp only [Result.andThen]
  rw [Oper.upon_value]
  go_wp2
  rw [yv5 65 20 _ _ _ Go.Proofs.Try.underlying65]
  simp only [Result.andThen]
  rw [Oper.upon_value]
  go_wp2
  go_ret
  exact ⟨rfl, rfl⟩
set_option maxRecDepth 100000 in
set_option maxHeartbeats 2000000 in
theorem yrs (w : World) : Calls Go.Proofs.Try.prog 52 #[.map none] w fun e w' => e = .returned (.map none) ∧ w' = w := by
  have hq := fun w => run_eql_map_nil (P := Go.Proofs.Try.prog) w 65 _ _ none Go.Proofs.Try.underlying65
  go_enter Go.Proofs.Try.func52, Go.Proofs.Try.ntmps52
  go_wp2
  go_ret
  exact ⟨rfl, rfl⟩
end
theorem y2oo : EnvOk Go.Proofs.Try.prog nm E := y2bc (by kernel_rfl) y2ov (.or (.contains (f := 134) (y1jg (by kernel_rfl)) Go.Proofs.Try.strings_Contains_one) (.clone (f := 52) (y1jg (by kernel_rfl)) yt7 yrs))
end Go.Vm
