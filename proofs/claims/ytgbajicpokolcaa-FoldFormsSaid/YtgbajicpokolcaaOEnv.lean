/- The machine's form of functions, each checked against the translation, and the environment that they make. -/
import Derived.Test.YtgbajicpokolcaaVc
import Derived.Test.YtgbajicpokolcaaProg
import Derived.Test.YtgbajicpokolcaaSd
import Derived.KernelRfl
set_option linter.unusedSimpArgs false
set_option linter.unusedVariables false
set_option linter.unusedSectionVars false
namespace Go.Vm
def y1xh : CCode :=
  (.seq (.region [
 kO 30 (.ld true 5 3),
 kO 31 (.call none true 29 [30]),
 kO 32 (.bin .eql 31 (ci 0)),
 kO 33 (.mv 32),
 kG 34 (.fa 3 3) 33 true,
 kG 35 (.ld false 1 34) 33 true,
 kG 36 (.len 1 35) 33 true,
 kG 37 (.fa 3 1) 33 true,
 kG 38 (.ld false 1 37) 33 true,
 kG 39 (.len 1 38) 33 true,
 kG 40 (.bin .eql 36 39) 33 true,
 kO 41 (.pick 33 40 (.c (.bool false))),
 kO 42 (.mv 41),
 kG 43 (.ld true 5 1) 42 true,
 kG 44 (.call none true 77 [43]) 42 true,
 kG 45 (.un .not 44) 42 true,
 kG 46 (.mv 45) 42 true,
 kG 47 (.ld true 5 3) 46 false,
 kG 48 (.call none true 77 [47]) 46 false,
 kG 49 (.pick 46 (.c (.bool true)) 48) 42 true,
 kO 50 (.pick 42 49 (.c (.bool false))),
 kO 2 (.mv 50)])
 .ret)
def y1sz : CCode :=
  (.seq (.seq (.region [
 kO 24 (.ld true 5 1),
 kO 25 (.call none true 29 [24]),
 kO 26 (.bin .neq 25 (ci 0))])
 (.cond 26
 (.seq (.region [
  kO 27 (.ld true 5 1),
  kO 28 (.ld true 5 3),
  kO 29 (.call none true 14 [27, 28]),
  kO 2 (.mv 29)])
  .ret)
 .skip))
 y1xh)
def y1e7 : CCode :=
  (.seq (.region [
 kO 22 (.ld true 5 1),
 kO 23 (.call none true 125 [22]),
 kO 3 (.new (some 1) [.nils, .nils, (.int .i64 0), .nils, .nils]),
 kU (.st 5 3 23)])
 y1sz)
def y1y1 : CCode :=
  (.seq (.seq (.region [
 kO 6 (.fa 3 1),
 kO 7 (.ld false 1 6),
 kO 8 (.len 1 7),
 kO 9 (.bin .gtr 8 (ci 400)),
 kO 10 (.mv 9),
 kG 11 (.fa 0 1) 10 false,
 kG 12 (.ld false 1 11) 10 false,
 kG 13 (.len 1 12) 10 false,
 kG 14 (.bin .gtr 13 (ci 100)) 10 false,
 kO 15 (.pick 10 (.c (.bool true)) 14),
 kO 16 (.mv 15),
 kG 17 (.fa 4 1) 16 false,
 kG 18 (.ld false 1 17) 16 false,
 kG 19 (.len 1 18) 16 false,
 kG 20 (.bin .gtr 19 (ci 50)) 16 false,
 kO 21 (.pick 16 (.c (.bool true)) 20)])
 (.cond 21
 (.seq (.region [
  kO 2 (.mv (.c (.bool true)))])
  .ret)
 .skip))
 y1e7)
def y1l1 : CCode :=
  (.seq (.seq (.region [
 kO 4 (.call none true 124 []),
 kO 5 (.un .not 4)])
 (.cond 5
 (.seq (.region [
  kO 2 (.mv (.c (.bool false)))])
  .ret)
 .skip))
 y1y1)
def y1r4 : CCode :=
  (.seq (.region [
 kO 1 (.box (some 0) 0),
 kO 2 (.mv (.c (.bool false)))])
 y1l1)
def y2qk : CFunc :=
  ⟨1, true, 2, y1r4, [.t 2]⟩
def y1ty : CCode :=
  (.seq (.region [
 kO 39 (.ld true 5 3),
 kU (.st 5 2 39)])
 .ret)
def y1jc : CCode :=
  (.region [
 kO 38 (.bin .add 23 (ci 1)),
 kO 23 (.mv 38)])
def y1jg : CCode :=
  (.seq (.block 1 (.seq (.region [
 kO 25 (.mv 23),
 kO 4 (.mv 25)])
 (.draw [
 kO 26 (.fa 3 3),
 kO 27 (.ld false 1 26),
 kO 28 (.mv 4),
 kO 29 (.fa 3 3),
 kO 30 (.ld false 1 29),
 kO 31 (.mv 4),
 kO 32 (.ixs 9 30 31),
 kO 33 (.fa 8 32),
 kO 34 (.ld false 1 33),
 kO 35 (.call none true 39 [34]),
 kO 36 (.ixs 9 27 28),
 kO 37 (.fa 8 36),
 kU (.st 1 37 35)] [(1, 9)])))
 y1jc)
def y1hv : CCode :=
  (.seq (.cond 24
 .skip
 (.exit 0))
 y1jg)
def y1s3 : CCode :=
  (.seq (.region [
 kO 24 (.bin .lss 23 22)])
 y1hv)
def ypg : CCode :=
  (.loop [2, 3, 22, 23] y1s3)
def y1vv : CCode :=
  (.block 0 ypg)
def y1ga : CCode :=
  (.seq (.region [
 kO 20 (.fa 3 3),
 kO 21 (.ld false 1 20),
 kO 22 (.len 1 21),
 kO 23 (.mv (ci 0))])
 y1vv)
def y1l2 : CCode :=
  (.seq y1ga
 y1ty)
def y123 : CCode :=
  (.seq (.draw [
 kO 5 (.fa 0 1),
 kO 6 (.ld false 1 5),
 kO 7 (.call (some 2) false 39 [6]),
 kO 8 (.fa 1 1),
 kO 9 (.ld false 1 8),
 kO 10 (.call (some 3) false 39 [9]),
 kO 11 (.fa 2 1),
 kO 12 (.ld false 1 11),
 kO 13 (.fa 3 1),
 kO 14 (.ld false 1 13),
 kO 15 (.call (some 4) false 40 [14]),
 kO 16 (.fa 4 1),
 kO 17 (.ld false 1 16),
 kO 18 (.call (some 5) false 41 [17]),
 kO 19 (.build [.nils, .nils, (.int .i64 0), .nils, .nils] [(0, 1, 7), (1, 1, 10), (2, 1, 12), (3, 1, 15), (4, 1, 18)]),
 kO 3 (.new (some 6) [.nils, .nils, (.int .i64 0), .nils, .nils]),
 kU (.st 5 3 19)] [(2, 4), (2, 7), (5, 7), (2, 9), (5, 9), (7, 10), (2, 12), (5, 12), (10, 12), (7, 13), (1, 15), (2, 15), (4, 15), (5, 15), (7, 15), (9, 15), (10, 15), (12, 15), (13, 15)])
 y1l2)
def yz0 : CCode :=
  (.seq (.region [
 kO 1 (.box (some 0) 0),
 kO 2 (.new (some 1) [.nils, .nils, (.int .i64 0), .nils, .nils])])
 y123)
def y2pw : CFunc :=
  ⟨1, true, 7, yz0, [.cell 2 true 5]⟩
def y192 : CCode :=
  (.seq (.region [
 kO 4 (.mv (.c (.bool true)))])
 .ret)
def y11j : CCode :=
  (.region [
 kO 70 (.mv 6),
 kO 71 (.bin .add 70 (ci 1)),
 kO 6 (.mv 71)])
def y16h : CCode :=
  (.seq (.block 3 (.seq (.draw [
 kO 72 (.fa 4 2),
 kO 73 (.ld false 1 72),
 kO 74 (.mv 6),
 kO 75 (.ixs 4 73 74),
 kO 76 (.ld true 4 75),
 kO 77 (.fa 4 3),
 kO 78 (.ld false 1 77),
 kO 79 (.mv 6),
 kO 80 (.ixs 4 78 79),
 kO 81 (.ld true 4 80),
 kO 82 (.eqa true [0, 0, 0, 2] 76 81)] [])
 (.cond 82
 (.seq (.region [
  kO 4 (.mv (.c (.bool false)))])
  .ret)
 .skip)))
 y11j)
def y0g : CCode :=
  (.seq (.seq (.region [
 kO 65 (.mv 6),
 kO 66 (.fa 4 2),
 kO 67 (.ld false 1 66),
 kO 68 (.len 1 67),
 kO 69 (.bin .lss 65 68)])
 (.cond 69
 .skip
 (.exit 2)))
 y16h)
def yji : CCode :=
  (.loop [2, 3, 6] y0g)
def y15u : CCode :=
  (.block 2 yji)
def y163 : CCode :=
  (.seq (.region [
 kO 6 (.mv (ci 0))])
 y15u)
def y188 : CCode :=
  (.seq y163
 y192)
def yu2 : CCode :=
  (.region [
 kO 51 (.mv 5),
 kO 52 (.bin .add 51 (ci 1)),
 kO 5 (.mv 52)])
def yqk : CCode :=
  (.seq (.block 1 (.seq (.draw [
 kO 53 (.fa 3 2),
 kO 54 (.ld false 1 53),
 kO 55 (.mv 5),
 kO 56 (.ixs 9 54 55),
 kO 57 (.ld true 9 56),
 kO 58 (.fa 3 3),
 kO 59 (.ld false 1 58),
 kO 60 (.mv 5),
 kO 61 (.ixs 9 59 60),
 kO 62 (.ld true 9 61),
 kO 63 (.call none true 28 [57, 62]),
 kO 64 (.un .not 63)] [])
 (.cond 64
 (.seq (.region [
  kO 4 (.mv (.c (.bool false)))])
  .ret)
 .skip)))
 yu2)
def yqw : CCode :=
  (.seq (.seq (.region [
 kO 46 (.mv 5),
 kO 47 (.fa 3 2),
 kO 48 (.ld false 1 47),
 kO 49 (.len 1 48),
 kO 50 (.bin .lss 46 49)])
 (.cond 50
 .skip
 (.exit 0)))
 yqk)
def yky : CCode :=
  (.loop [2, 3, 5] yqw)
def ytd : CCode :=
  (.block 0 yky)
def yqo : CCode :=
  (.seq (.region [
 kO 5 (.mv (ci 0))])
 ytd)
def yqt : CCode :=
  (.seq yqo
 y188)
def yr8 : CCode :=
  (.seq (.seq (.region [
 kO 7 (.fa 0 2),
 kO 8 (.ld false 1 7),
 kO 9 (.fa 0 3),
 kO 10 (.ld false 1 9),
 kO 11 (.call none true 11 [8, 10]),
 kO 12 (.un .not 11),
 kO 13 (.mv 12),
 kG 14 (.fa 1 2) 13 false,
 kG 15 (.ld false 1 14) 13 false,
 kG 16 (.fa 1 3) 13 false,
 kG 17 (.ld false 1 16) 13 false,
 kG 18 (.call none true 11 [15, 17]) 13 false,
 kG 19 (.un .not 18) 13 false,
 kO 20 (.pick 13 (.c (.bool true)) 19),
 kO 21 (.mv 20),
 kG 22 (.fa 2 2) 21 false,
 kG 23 (.ld false 1 22) 21 false,
 kG 24 (.fa 2 3) 21 false,
 kG 25 (.ld false 1 24) 21 false,
 kG 26 (.bin .neq 23 25) 21 false,
 kO 27 (.pick 21 (.c (.bool true)) 26),
 kO 28 (.mv 27),
 kG 29 (.fa 3 2) 28 false,
 kG 30 (.ld false 1 29) 28 false,
 kG 31 (.len 1 30) 28 false,
 kG 32 (.fa 3 3) 28 false,
 kG 33 (.ld false 1 32) 28 false,
 kG 34 (.len 1 33) 28 false,
 kG 35 (.bin .neq 31 34) 28 false,
 kO 36 (.pick 28 (.c (.bool true)) 35),
 kO 37 (.mv 36),
 kG 38 (.fa 4 2) 37 false,
 kG 39 (.ld false 1 38) 37 false,
 kG 40 (.len 1 39) 37 false,
 kG 41 (.fa 4 3) 37 false,
 kG 42 (.ld false 1 41) 37 false,
 kG 43 (.len 1 42) 37 false,
 kG 44 (.bin .neq 40 43) 37 false,
 kO 45 (.pick 37 (.c (.bool true)) 44)])
 (.cond 45
 (.seq (.region [
  kO 4 (.mv (.c (.bool false)))])
  .ret)
 .skip))
 yqt)
def ysu : CCode :=
  (.seq (.region [
 kO 2 (.box (some 0) 0),
 kO 3 (.box (some 1) 1),
 kO 4 (.mv (.c (.bool false)))])
 yr8)
def y2a9 : CFunc :=
  ⟨2, true, 2, ysu, [.t 4]⟩
def y1yf : CCode :=
  (.seq (.region [
 kO 2 (.mv (ci 0))])
 .ret)
def y1wl : CCode :=
  (.region [
 kO 179 (.bin .add 138 (ci 1)),
 kO 138 (.mv 179)])
def y1vq : CCode :=
  (.seq (.block 7 (.seq (.region [
 kO 140 (.ixs 4 136 138),
 kO 141 (.ld true 4 140),
 kO 11 (.new (some 2) [(.int .i64 0), (.int .i64 0), (.int .i64 0), (.str [])]),
 kU (.st 4 11 141)])
 (.seq (.region [
 kO 142 (.fa 0 11),
 kO 143 (.ld false 1 142),
 kO 144 (.bin .lss 143 (ci 0)),
 kO 145 (.mv 144),
 kG 146 (.fa 0 11) 145 false,
 kG 147 (.ld false 1 146) 145 false,
 kG 148 (.fa 1 11) 145 false,
 kG 149 (.ld false 1 148) 145 false,
 kG 150 (.bin .geq 147 149) 145 false,
 kO 151 (.pick 145 (.c (.bool true)) 150),
 kO 152 (.mv 151),
 kG 153 (.fa 1 11) 152 false,
 kG 154 (.ld false 1 153) 152 false,
 kG 155 (.mv 3) 152 false,
 kG 156 (.bin .gtr 154 155) 152 false,
 kO 157 (.pick 152 (.c (.bool true)) 156),
 kO 158 (.mv 157),
 kG 159 (.fa 2 11) 158 false,
 kG 160 (.ld false 1 159) 158 false,
 kG 161 (.bin .lss 160 (ci 0)) 158 false,
 kO 162 (.pick 158 (.c (.bool true)) 161),
 kO 163 (.mv 162),
 kG 164 (.fa 2 11) 163 false,
 kG 165 (.ld false 1 164) 163 false,
 kG 166 (.mv 3) 163 false,
 kG 167 (.bin .geq 165 166) 163 false,
 kO 168 (.pick 163 (.c (.bool true)) 167),
 kO 169 (.mv 168),
 kG 170 (.fa 3 1) 169 false,
 kG 171 (.ld false 1 170) 169 false,
 kG 172 (.fa 2 11) 169 false,
 kG 173 (.ld false 1 172) 169 false,
 kG 174 (.ixs 9 171 173) 169 false,
 kG 175 (.fa 0 174) 169 false,
 kG 176 (.ld false 1 175) 169 false,
 kG 177 (.bin .neq 176 (ci 32)) 169 false,
 kO 178 (.pick 169 (.c (.bool true)) 177)])
 (.cond 178
 (.seq (.region [
  kO 2 (.mv (ci 80))])
  .ret)
 .skip))))
 y1wl)
def y1lx : CCode :=
  (.seq (.cond 139
 .skip
 (.exit 6))
 y1vq)
def y1uy : CCode :=
  (.seq (.region [
 kO 139 (.bin .lss 138 137)])
 y1lx)
def yop : CCode :=
  (.loop [1, 3, 136, 137, 138] y1uy)
def y1g9 : CCode :=
  (.block 6 yop)
def y1yk : CCode :=
  (.seq (.region [
 kO 135 (.fa 4 1),
 kO 136 (.ld false 1 135),
 kO 137 (.len 1 136),
 kO 138 (.mv (ci 0))])
 y1g9)
def y1xo : CCode :=
  (.seq y1yk
 y1yf)
def y11e : CCode :=
  (.region [
 kO 134 (.bin .add 94 (ci 1)),
 kO 94 (.mv 134)])
def y178 : CCode :=
  (.seq (.region [
 kO 103 (.fa 0 9),
 kO 104 (.ld false 1 103),
 kO 105 (.bin .eql 104 (ci 32)),
 kO 106 (.mv 105),
 kG 107 (.mv 8) 106 true,
 kG 108 (.bin .eql 107 (ci 0)) 106 true,
 kG 109 (.mv 108) 106 true,
 kG 110 (.fa 3 1) 109 false,
 kG 111 (.ld false 1 110) 109 false,
 kG 112 (.mv 8) 109 false,
 kG 113 (.bin .sub 112 (ci 1)) 109 false,
 kG 114 (.ixs 9 111 113) 109 false,
 kG 115 (.ld true 9 114) 109 false,
 kG 116 (.call none true 24 [115]) 109 false,
 kG 117 (.un .not 116) 109 false,
 kG 118 (.pick 109 (.c (.bool true)) 117) 106 true,
 kO 119 (.pick 106 118 (.c (.bool false))),
 kO 120 (.mv 119),
 kG 121 (.ld true 9 9) 120 false,
 kG 122 (.call none true 22 [121]) 120 false,
 kG 123 (.mv 122) 120 false,
 kG 124 (.fa 3 1) 123 true,
 kG 125 (.ld false 1 124) 123 true,
 kG 126 (.fa 6 9) 123 true,
 kG 127 (.ld false 1 126) 123 true,
 kG 128 (.ixs 9 125 127) 123 true,
 kG 129 (.fa 0 128) 123 true,
 kG 130 (.ld false 1 129) 123 true,
 kG 131 (.bin .eql 130 (ci 32)) 123 true,
 kG 132 (.pick 123 131 (.c (.bool false))) 120 false,
 kO 133 (.pick 120 (.c (.bool true)) 132)])
 (.cond 133
 (.seq (.region [
  kO 2 (.mv (ci 80))])
  .ret)
 .skip))
def y19f : CCode :=
  (.seq (.seq (.region [
 kO 99 (.ld true 5 1),
 kO 100 (.ld true 9 9),
 kO 101 (.call none true 63 [99, 100]),
 kO 102 (.un .not 101)])
 (.cond 102
 (.seq (.region [
  kO 2 (.mv (ci 80))])
  .ret)
 .skip))
 y178)
def y159 : CCode :=
  (.seq (.region [
 kO 96 (.mv 94),
 kO 97 (.ixs 9 92 94),
 kO 98 (.ld true 9 97),
 kO 9 (.new (some 1) [(.int .i64 0), (.int .i64 0), (.int .i64 0), (.int .i64 0), (.int .i64 0), (.int .i64 0), (.int .i64 0), (.str []), .nils]),
 kO 8 (.mv 96),
 kU (.st 9 9 98)])
 y19f)
def y14d : CCode :=
  (.block 5 y159)
def y12u : CCode :=
  (.seq y14d
 y11e)
def y0n : CCode :=
  (.seq (.cond 95
 .skip
 (.exit 4))
 y12u)
def y11c : CCode :=
  (.seq (.region [
 kO 95 (.bin .lss 94 93)])
 y0n)
def yl5 : CCode :=
  (.loop [1, 3, 92, 93, 94] y11c)
def yyc : CCode :=
  (.block 4 yl5)
def y15s : CCode :=
  (.seq (.region [
 kO 91 (.fa 3 1),
 kO 92 (.ld false 1 91),
 kO 93 (.len 1 92),
 kO 94 (.mv (ci 0))])
 yyc)
def y15d : CCode :=
  (.seq y15s
 y1xo)
def y199 : CCode :=
  (.region [
 kO 90 (.bin .add 64 (ci 1)),
 kO 64 (.mv 90)])
def yy0 : CCode :=
  (.seq (.block 3 (.seq (.region [
 kO 66 (.mv 64),
 kO 67 (.ixs 1 62 64),
 kO 68 (.ld false 1 67),
 kO 6 (.mv 66),
 kO 7 (.mv 68)])
 (.seq (.region [
 kO 69 (.mv 7),
 kO 70 (.bin .lss 69 (ci 0)),
 kO 71 (.mv 70),
 kG 72 (.mv 7) 71 false,
 kG 73 (.fa 0 1) 71 false,
 kG 74 (.ld false 1 73) 71 false,
 kG 75 (.len 1 74) 71 false,
 kG 76 (.bin .geq 72 75) 71 false,
 kO 77 (.pick 71 (.c (.bool true)) 76),
 kO 78 (.mv 77),
 kG 79 (.fa 1 1) 78 false,
 kG 80 (.ld false 1 79) 78 false,
 kG 81 (.mv 6) 78 false,
 kG 82 (.slc 1 80 none (some 81)) 78 false,
 kG 83 (.mv 7) 78 false,
 kG 84 (.call none true 46 [82, 83]) 78 false,
 kO 85 (.pick 78 (.c (.bool true)) 84),
 kO 86 (.mv 85),
 kG 87 (.mv 6) 86 false,
 kG 88 (.bin .gtr 87 (ci 20)) 86 false,
 kO 89 (.pick 86 (.c (.bool true)) 88)])
 (.cond 89
 (.seq (.region [
  kO 2 (.mv (ci 80))])
  .ret)
 .skip))))
 y199)
def y155 : CCode :=
  (.seq (.cond 65
 .skip
 (.exit 2))
 yy0)
def y184 : CCode :=
  (.seq (.region [
 kO 65 (.bin .lss 64 63)])
 y155)
def yku : CCode :=
  (.loop [1, 3, 62, 63, 64] y184)
def y11l : CCode :=
  (.block 2 yku)
def yzk : CCode :=
  (.seq (.region [
 kO 61 (.fa 1 1),
 kO 62 (.ld false 1 61),
 kO 63 (.len 1 62),
 kO 64 (.mv (ci 0))])
 y11l)
def y16f : CCode :=
  (.seq yzk
 y15d)
def yzu : CCode :=
  (.region [
 kO 60 (.bin .add 50 (ci 1)),
 kO 50 (.mv 60)])
def y17r : CCode :=
  (.seq (.block 1 (.seq (.region [
 kO 52 (.ixs 1 48 50),
 kO 53 (.ld false 1 52),
 kO 5 (.mv 53)])
 (.seq (.region [
 kO 54 (.mv 5),
 kO 55 (.bin .lss 54 (ci 1)),
 kO 56 (.mv 55),
 kG 57 (.mv 5) 56 false,
 kG 58 (.bin .gtr 57 (ci 3)) 56 false,
 kO 59 (.pick 56 (.c (.bool true)) 58)])
 (.cond 59
 (.seq (.region [
  kO 2 (.mv (ci 80))])
  .ret)
 .skip))))
 yzu)
def y15n : CCode :=
  (.seq (.cond 51
 .skip
 (.exit 0))
 y17r)
def yxs : CCode :=
  (.seq (.region [
 kO 51 (.bin .lss 50 49)])
 y15n)
def yie : CCode :=
  (.loop [1, 3, 48, 49, 50] yxs)
def y13q : CCode :=
  (.block 0 yie)
def y14a : CCode :=
  (.seq (.region [
 kO 47 (.fa 0 1),
 kO 48 (.ld false 1 47),
 kO 49 (.len 1 48),
 kO 50 (.mv (ci 0))])
 y13q)
def y16s : CCode :=
  (.seq y14a
 y16f)
def y19i : CCode :=
  (.seq (.seq (.region [
 kO 15 (.mv 3),
 kO 16 (.bin .lss 15 (ci 1)),
 kO 17 (.mv 16),
 kG 18 (.mv 3) 17 false,
 kG 19 (.bin .gtr 18 (ci 20000)) 17 false,
 kO 20 (.pick 17 (.c (.bool true)) 19),
 kO 21 (.mv 20),
 kG 22 (.fa 0 1) 21 false,
 kG 23 (.ld false 1 22) 21 false,
 kG 24 (.len 1 23) 21 false,
 kG 25 (.bin .gtr 24 (ci 20000)) 21 false,
 kO 26 (.pick 21 (.c (.bool true)) 25),
 kO 27 (.mv 26),
 kG 28 (.fa 2 1) 27 false,
 kG 29 (.ld false 1 28) 27 false,
 kG 30 (.bin .lss 29 (ci 0)) 27 false,
 kO 31 (.pick 27 (.c (.bool true)) 30),
 kO 32 (.mv 31),
 kG 33 (.fa 2 1) 32 false,
 kG 34 (.ld false 1 33) 32 false,
 kG 35 (.bin .gtr 34 (ci 3)) 32 false,
 kO 36 (.pick 32 (.c (.bool true)) 35),
 kO 37 (.mv 36),
 kG 38 (.fa 3 1) 37 false,
 kG 39 (.ld false 1 38) 37 false,
 kG 40 (.mv 3) 37 false,
 kG 41 (.bin .sub 40 (ci 1)) 37 false,
 kG 42 (.ixs 9 39 41) 37 false,
 kG 43 (.ld true 9 42) 37 false,
 kG 44 (.call none true 24 [43]) 37 false,
 kG 45 (.un .not 44) 37 false,
 kO 46 (.pick 37 (.c (.bool true)) 45)])
 (.cond 46
 (.seq (.region [
  kO 2 (.mv (ci 80))])
  .ret)
 .skip))
 y16s)
def y15y : CCode :=
  (.seq (.region [
 kO 12 (.fa 3 1),
 kO 13 (.ld false 1 12),
 kO 14 (.len 1 13),
 kO 3 (.mv 14)])
 y19i)
def y07 : CCode :=
  (.seq (.region [
 kO 1 (.box (some 0) 0),
 kO 2 (.mv (ci 0))])
 y15y)
def y2pk : CFunc :=
  ⟨1, true, 3, y07, [.t 2]⟩
def y2sa : CFunc :=
  ⟨0, true, 3, (.seq (.region [
    kO 0 (.mv (.c (.bool false)))])
  (.seq (.region [
    kO 2 (.buildS (some 0) 1 3 [(.int .i64 0)] [(0, (ci 1)), (1, (ci 1)), (2, (ci 1))]),
    kO 3 (.build [(.int .i64 0), (.int .i64 0), (.int .i64 0), (.int .i64 0), (.int .i64 0), (.int .i64 0), (.int .i64 0), (.str []), .nils] [(0, 1, (ci 1)), (1, 1, (ci 0)), (5, 1, (ci 2))]),
    kO 4 (.build [(.int .i64 0), (.int .i64 0), (.int .i64 0), (.int .i64 0), (.int .i64 0), (.int .i64 0), (.int .i64 0), (.str []), .nils] [(0, 1, (ci 1)), (1, 1, (ci 1)), (5, 1, (ci 3))]),
    kO 5 (.build [(.int .i64 0), (.int .i64 0), (.int .i64 0), (.int .i64 0), (.int .i64 0), (.int .i64 0), (.int .i64 0), (.str []), .nils] [(0, 1, (ci 5)), (5, 1, (ci 104)), (1, 1, (ci 2)), (2, 1, (ci 0)), (3, 1, (ci 1))]),
    kO 6 (.build [(.int .i64 0), (.int .i64 0), (.int .i64 0), (.int .i64 0), (.int .i64 0), (.int .i64 0), (.int .i64 0), (.str []), .nils] [(0, 1, (ci 30)), (2, 1, (ci 2))]),
    kO 7 (.buildS (some 1) 9 4 [(.int .i64 0), (.int .i64 0), (.int .i64 0), (.int .i64 0), (.int .i64 0), (.int .i64 0), (.int .i64 0), (.str []), .nils] [(0, 3), (1, 4), (2, 5), (3, 6)]),
    kO 8 (.build [.nils, .nils, (.int .i64 0), .nils, .nils] [(0, 1, 2), (2, 1, (ci 1)), (3, 1, 7)]),
    kO 9 (.call none true 125 [8]),
    kO 1 (.new (some 2) [.nils, .nils, (.int .i64 0), .nils, .nils]),
    kU (.st 5 1 9)])
  (.seq (.region [
    kO 10 (.fa 3 1),
    kO 11 (.ld false 1 10),
    kO 12 (.len 1 11),
    kO 13 (.bin .eql 12 (ci 4)),
    kO 14 (.mv 13),
    kG 15 (.fa 3 1) 14 true,
    kG 16 (.ld false 1 15) 14 true,
    kG 17 (.ixs 9 16 (ci 2)) 14 true,
    kG 18 (.fa 0 17) 14 true,
    kG 19 (.ld false 1 18) 14 true,
    kG 20 (.bin .eql 19 (ci 1)) 14 true,
    kO 21 (.pick 14 20 (.c (.bool false))),
    kO 22 (.mv 21),
    kG 23 (.fa 3 1) 22 true,
    kG 24 (.ld false 1 23) 22 true,
    kG 25 (.ixs 9 24 (ci 2)) 22 true,
    kG 26 (.fa 5 25) 22 true,
    kG 27 (.ld false 1 26) 22 true,
    kG 28 (.bin .eql 27 (ci 6)) 22 true,
    kO 29 (.pick 22 28 (.c (.bool false))),
    kO 30 (.mv 29),
    kG 31 (.fa 3 1) 30 true,
    kG 32 (.ld false 1 31) 30 true,
    kG 33 (.ixs 9 32 (ci 2)) 30 true,
    kG 34 (.fa 1 33) 30 true,
    kG 35 (.ld false 1 34) 30 true,
    kG 36 (.bin .eql 35 (ci 2)) 30 true,
    kO 37 (.pick 30 36 (.c (.bool false))),
    kO 0 (.mv 37)])
  .ret))), [.t 0]⟩
def y1l4 : CCode :=
  (.seq (.region [
 kO 62 (.ld true 5 1),
 kU (.st 5 2 62)])
 .ret)
def y1o4 : CCode :=
  (.region [
 kO 61 (.bin .add 31 (ci 1)),
 kO 31 (.mv 61)])
def y1ge : CCode :=
  (.seq (.region [
 kO 40 (.ld true 9 8),
 kO 41 (.mv 6),
 kO 42 (.call none false 126 [40, 41]),
 kU (.st 9 8 42)])
 (.seq (.region [
 kO 43 (.fa 3 1),
 kO 44 (.ld false 1 43),
 kO 45 (.mv 7),
 kO 46 (.ld true 9 8),
 kO 47 (.ixs 9 44 45),
 kU (.st 9 47 46)])
 (.seq (.region [
 kO 48 (.ld true 9 8),
 kO 49 (.call none true 9 [48]),
 kO 9 (.mv 49)])
 (.seq (.region [
 kO 50 (.mv 9),
 kO 51 (.bin .geq 50 (ci 0))])
 (.cond 51
 (.seq (.region [
  kO 52 (.mv 6),
  kO 53 (.mv 9),
  kU (.mdel false [0] 52 53)])
  (.seq (.region [
  kO 54 (.fa 0 8),
  kO 55 (.ld false 1 54),
  kO 56 (.bin .eql 55 (ci 1))])
  (.cond 56
  (.region [
   kO 57 (.mv 6),
   kO 58 (.mv 9),
   kO 59 (.fa 5 8),
   kO 60 (.ld false 1 59),
   kU (.mput false [0] 57 58 60)])
  .skip)))
 .skip)))))
def y1x2 : CCode :=
  (.seq (.seq (.region [
 kO 36 (.mv 3),
 kO 37 (.mv 7),
 kO 38 (.mget false [0] (.bool false) false 36 37)])
 (.cond 38
 (.region [
  kO 39 (.mv 6),
  kU (.mclr 39)])
 .skip))
 y1ge)
def y1h1 : CCode :=
  (.seq (.region [
 kO 33 (.mv 31),
 kO 34 (.ixs 9 29 31),
 kO 35 (.ld true 9 34),
 kO 8 (.new (some 12) [(.int .i64 0), (.int .i64 0), (.int .i64 0), (.int .i64 0), (.int .i64 0), (.int .i64 0), (.int .i64 0), (.str []), .nils]),
 kO 7 (.mv 33),
 kU (.st 9 8 35)])
 y1x2)
def y1qb : CCode :=
  (.block 3 y1h1)
def y1hb : CCode :=
  (.seq y1qb
 y1o4)
def y1pc : CCode :=
  (.seq (.cond 32
 .skip
 (.exit 2))
 y1hb)
def y12a : CCode :=
  (.seq (.region [
 kO 32 (.bin .lss 31 30)])
 y1pc)
def ypc : CCode :=
  (.loop [1, 2, 3, 6, 29, 30, 31] y12a)
def y15z : CCode :=
  (.block 2 ypc)
def y13y : CCode :=
  (.seq (.region [
 kO 28 (.fa 3 1),
 kO 29 (.ld false 1 28),
 kO 30 (.len 1 29),
 kO 31 (.mv (ci 0))])
 y15z)
def y18x : CCode :=
  (.seq y13y
 y1l4)
def yzv : CCode :=
  (.seq (.region [
 kO 27 (.mkm (some 11)),
 kO 6 (.mv 27)])
 y18x)
def y14j : CCode :=
  (.region [
 kO 26 (.bin .add 20 (ci 1)),
 kO 20 (.mv 26)])
def y15t : CCode :=
  (.seq (.block 1 (.seq (.region [
 kO 22 (.ixs 1 18 20),
 kO 23 (.ld false 1 22),
 kO 5 (.mv 23)])
 (.region [
 kO 24 (.mv 3),
 kO 25 (.mv 5),
 kU (.mput false [0] 24 25 (.c (.bool true)))])))
 y14j)
def y19p : CCode :=
  (.seq (.cond 21
 .skip
 (.exit 0))
 y15t)
def y17p : CCode :=
  (.seq (.region [
 kO 21 (.bin .lss 20 19)])
 y19p)
def yjw : CCode :=
  (.loop [1, 2, 3, 18, 19, 20] y17p)
def y13m : CCode :=
  (.block 0 yjw)
def y118 : CCode :=
  (.seq (.region [
 kO 17 (.ld true 5 1),
 kO 18 (.call none true 102 [17]),
 kO 19 (.len 1 18),
 kO 20 (.mv (ci 0))])
 y13m)
def y18d : CCode :=
  (.seq y118
 yzv)
def y19k : CCode :=
  (.seq (.region [
 kO 16 (.mkm (some 10)),
 kO 3 (.mv 16)])
 y18d)
def y12y : CCode :=
  (.seq (.seq (.region [
 kO 12 (.ld true 5 1),
 kO 13 (.call none true 8 [12]),
 kO 14 (.bin .neq 13 (ci 0))])
 (.cond 14
 (.seq (.region [
  kO 15 (.ld true 5 1),
  kU (.st 5 2 15)])
  .ret)
 .skip))
 y19k)
def y17c : CCode :=
  (.seq (.region [
 kO 10 (.ld true 5 1),
 kO 11 (.call (some 2) false 13 [10]),
 kU (.st 5 1 11)])
 y12y)
def y0r : CCode :=
  (.seq (.region [
 kO 1 (.box (some 0) 0),
 kO 2 (.new (some 1) [.nils, .nils, (.int .i64 0), .nils, .nils])])
 y17c)
def y2ly : CFunc :=
  ⟨1, true, 13, y0r, [.cell 2 true 5]⟩
def y12g : CCode :=
  (.seq (.region [
 kO 2 (.mv (ci 0))])
 .ret)
def y15b : CCode :=
  (.region [
 kO 154 (.mv 8),
 kO 155 (.bin .add 154 (ci 1)),
 kO 8 (.mv 155)])
def yyg : CCode :=
  (.seq (.block 7 (.seq (.region [
 kO 156 (.fa 4 1),
 kO 157 (.ld false 1 156),
 kO 158 (.mv 8),
 kO 159 (.ixs 4 157 158),
 kO 160 (.ld true 4 159),
 kO 9 (.new (some 2) [(.int .i64 0), (.int .i64 0), (.int .i64 0), (.str [])]),
 kU (.st 4 9 160)])
 (.seq (.region [
 kO 161 (.fa 0 9),
 kO 162 (.ld false 1 161),
 kO 163 (.bin .lss 162 (ci 0)),
 kO 164 (.mv 163),
 kG 165 (.fa 0 9) 164 false,
 kG 166 (.ld false 1 165) 164 false,
 kG 167 (.fa 1 9) 164 false,
 kG 168 (.ld false 1 167) 164 false,
 kG 169 (.bin .geq 166 168) 164 false,
 kO 170 (.pick 164 (.c (.bool true)) 169),
 kO 171 (.mv 170),
 kG 172 (.fa 1 9) 171 false,
 kG 173 (.ld false 1 172) 171 false,
 kG 174 (.mv 3) 171 false,
 kG 175 (.bin .gtr 173 174) 171 false,
 kO 176 (.pick 171 (.c (.bool true)) 175),
 kO 177 (.mv 176),
 kG 178 (.ld true 5 1) 177 false,
 kG 179 (.fa 2 9) 177 false,
 kG 180 (.ld false 1 179) 177 false,
 kG 181 (.call none true 49 [178, 180]) 177 false,
 kG 182 (.un .not 181) 177 false,
 kO 183 (.pick 177 (.c (.bool true)) 182),
 kO 184 (.mv 183),
 kG 185 (.fa 3 1) 184 false,
 kG 186 (.ld false 1 185) 184 false,
 kG 187 (.fa 2 9) 184 false,
 kG 188 (.ld false 1 187) 184 false,
 kG 189 (.ixs 9 186 188) 184 false,
 kG 190 (.fa 0 189) 184 false,
 kG 191 (.ld false 1 190) 184 false,
 kG 192 (.bin .neq 191 (ci 32)) 184 false,
 kO 193 (.pick 184 (.c (.bool true)) 192)])
 (.cond 193
 (.seq (.region [
  kO 2 (.mv (ci 80))])
  .ret)
 .skip))))
 y15b)
def y19m : CCode :=
  (.seq (.seq (.region [
 kO 149 (.mv 8),
 kO 150 (.fa 4 1),
 kO 151 (.ld false 1 150),
 kO 152 (.len 1 151),
 kO 153 (.bin .lss 149 152)])
 (.cond 153
 .skip
 (.exit 6)))
 yyg)
def yi1 : CCode :=
  (.loop [1, 3, 8] y19m)
def y19n : CCode :=
  (.block 6 yi1)
def y136 : CCode :=
  (.seq (.region [
 kO 8 (.mv (ci 0))])
 y19n)
def y13j : CCode :=
  (.seq y136
 y12g)
def ytx : CCode :=
  (.region [
 kO 103 (.mv 6),
 kO 104 (.bin .add 103 (ci 1)),
 kO 6 (.mv 104)])
def yso : CCode :=
  (.seq (.block 5 (.seq (.region [
 kO 105 (.fa 3 1),
 kO 106 (.ld false 1 105),
 kO 107 (.mv 6),
 kO 108 (.ixs 9 106 107),
 kO 109 (.ld true 9 108),
 kO 7 (.new (some 1) [(.int .i64 0), (.int .i64 0), (.int .i64 0), (.int .i64 0), (.int .i64 0), (.int .i64 0), (.int .i64 0), (.str []), .nils]),
 kU (.st 9 7 109)])
 (.seq (.region [
 kO 110 (.ld true 5 1),
 kO 111 (.ld true 9 7),
 kO 112 (.call none true 64 [110, 111]),
 kO 113 (.un .not 112),
 kO 114 (.mv 113),
 kG 115 (.fa 0 7) 114 false,
 kG 116 (.ld false 1 115) 114 false,
 kG 117 (.bin .eql 116 (ci 32)) 114 false,
 kG 118 (.mv 117) 114 false,
 kG 119 (.mv 6) 118 true,
 kG 120 (.bin .eql 119 (ci 0)) 118 true,
 kG 121 (.mv 120) 118 true,
 kG 122 (.fa 3 1) 121 false,
 kG 123 (.ld false 1 122) 121 false,
 kG 124 (.mv 6) 121 false,
 kG 125 (.bin .sub 124 (ci 1)) 121 false,
 kG 126 (.ixs 9 123 125) 121 false,
 kG 127 (.fa 0 126) 121 false,
 kG 128 (.ld false 1 127) 121 false,
 kG 129 (.call none true 25 [128]) 121 false,
 kG 130 (.un .not 129) 121 false,
 kG 131 (.pick 121 (.c (.bool true)) 130) 118 true,
 kG 132 (.pick 118 131 (.c (.bool false))) 114 false,
 kO 133 (.pick 114 (.c (.bool true)) 132),
 kO 134 (.mv 133),
 kG 135 (.fa 0 7) 134 false,
 kG 136 (.ld false 1 135) 134 false,
 kG 137 (.call none true 23 [136]) 134 false,
 kG 138 (.mv 137) 134 false,
 kG 139 (.fa 3 1) 138 true,
 kG 140 (.ld false 1 139) 138 true,
 kG 141 (.fa 6 7) 138 true,
 kG 142 (.ld false 1 141) 138 true,
 kG 143 (.ixs 9 140 142) 138 true,
 kG 144 (.fa 0 143) 138 true,
 kG 145 (.ld false 1 144) 138 true,
 kG 146 (.bin .eql 145 (ci 32)) 138 true,
 kG 147 (.pick 138 146 (.c (.bool false))) 134 false,
 kO 148 (.pick 134 (.c (.bool true)) 147)])
 (.cond 148
 (.seq (.region [
  kO 2 (.mv (ci 80))])
  .ret)
 .skip))))
 ytx)
def yqd : CCode :=
  (.seq (.seq (.region [
 kO 100 (.mv 6),
 kO 101 (.mv 3),
 kO 102 (.bin .lss 100 101)])
 (.cond 102
 .skip
 (.exit 4)))
 yso)
def yi7 : CCode :=
  (.loop [1, 3, 6] yqd)
def ytm : CCode :=
  (.block 4 yi7)
def ysm : CCode :=
  (.seq (.region [
 kO 6 (.mv (ci 0))])
 ytm)
def ysi : CCode :=
  (.seq ysm
 y13j)
def yuu : CCode :=
  (.region [
 kO 78 (.mv 5),
 kO 79 (.bin .add 78 (ci 1)),
 kO 5 (.mv 79)])
def yuq : CCode :=
  (.seq (.block 3 (.seq (.draw [
 kO 80 (.ld true 5 1),
 kO 81 (.fa 1 1),
 kO 82 (.ld false 1 81),
 kO 83 (.mv 5),
 kO 84 (.ixs 1 82 83),
 kO 85 (.ld false 1 84),
 kO 86 (.call none true 48 [80, 85]),
 kO 87 (.bin .eql 86 (ci 0)),
 kO 88 (.mv 87),
 kG 89 (.fa 1 1) 88 false,
 kG 90 (.ld false 1 89) 88 false,
 kG 91 (.mv 5) 88 false,
 kG 92 (.ixs 1 90 91) 88 false,
 kG 93 (.ld false 1 92) 88 false,
 kG 94 (.fa 1 1) 88 false,
 kG 95 (.ld false 1 94) 88 false,
 kG 96 (.mv 5) 88 false,
 kG 97 (.slc 1 95 none (some 96)) 88 false,
 kG 98 (.call none true 42 [93, 97]) 88 false,
 kO 99 (.pick 88 (.c (.bool true)) 98)] [])
 (.cond 99
 (.seq (.region [
  kO 2 (.mv (ci 80))])
  .ret)
 .skip)))
 yuu)
def yt3 : CCode :=
  (.seq (.seq (.region [
 kO 73 (.mv 5),
 kO 74 (.fa 1 1),
 kO 75 (.ld false 1 74),
 kO 76 (.len 1 75),
 kO 77 (.bin .lss 73 76)])
 (.cond 77
 .skip
 (.exit 2)))
 yuq)
def yfl : CCode :=
  (.loop [1, 3, 5] yt3)
def yux : CCode :=
  (.block 2 yfl)
def yqf : CCode :=
  (.seq (.region [
 kO 5 (.mv (ci 0))])
 yux)
def yr4 : CCode :=
  (.seq yqf
 ysi)
def yqy : CCode :=
  (.region [
 kO 57 (.mv 4),
 kO 58 (.bin .add 57 (ci 1)),
 kO 4 (.mv 58)])
def yrs : CCode :=
  (.seq (.block 1 (.seq (.region [
 kO 59 (.fa 0 1),
 kO 60 (.ld false 1 59),
 kO 61 (.mv 4),
 kO 62 (.ixs 1 60 61),
 kO 63 (.ld false 1 62),
 kO 64 (.bin .lss 63 (ci 1)),
 kO 65 (.mv 64),
 kG 66 (.fa 0 1) 65 false,
 kG 67 (.ld false 1 66) 65 false,
 kG 68 (.mv 4) 65 false,
 kG 69 (.ixs 1 67 68) 65 false,
 kG 70 (.ld false 1 69) 65 false,
 kG 71 (.bin .gtr 70 (ci 3)) 65 false,
 kO 72 (.pick 65 (.c (.bool true)) 71)])
 (.cond 72
 (.seq (.region [
  kO 2 (.mv (ci 80))])
  .ret)
 .skip)))
 yqy)
def yum : CCode :=
  (.seq (.seq (.region [
 kO 52 (.mv 4),
 kO 53 (.fa 0 1),
 kO 54 (.ld false 1 53),
 kO 55 (.len 1 54),
 kO 56 (.bin .lss 52 55)])
 (.cond 56
 .skip
 (.exit 0)))
 yrs)
def yg5 : CCode :=
  (.loop [1, 3, 4] yum)
def yrp : CCode :=
  (.block 0 yg5)
def yup : CCode :=
  (.seq (.region [
 kO 4 (.mv (ci 0))])
 yrp)
def yrq : CCode :=
  (.seq yup
 yr4)
def ys6 : CCode :=
  (.seq (.seq (.region [
 kO 13 (.mv 3),
 kO 14 (.bin .eql 13 (ci 0)),
 kO 15 (.mv 14),
 kG 16 (.mv 3) 15 false,
 kG 17 (.bin .gtr 16 (ci 20000)) 15 false,
 kO 18 (.pick 15 (.c (.bool true)) 17),
 kO 19 (.mv 18),
 kG 20 (.fa 0 1) 19 false,
 kG 21 (.ld false 1 20) 19 false,
 kG 22 (.len 1 21) 19 false,
 kG 23 (.bin .gtr 22 (ci 20000)) 19 false,
 kO 24 (.pick 19 (.c (.bool true)) 23),
 kO 25 (.mv 24),
 kG 26 (.fa 1 1) 25 false,
 kG 27 (.ld false 1 26) 25 false,
 kG 28 (.len 1 27) 25 false,
 kG 29 (.bin .gtr 28 (ci 21)) 25 false,
 kO 30 (.pick 25 (.c (.bool true)) 29),
 kO 31 (.mv 30),
 kG 32 (.fa 2 1) 31 false,
 kG 33 (.ld false 1 32) 31 false,
 kG 34 (.bin .lss 33 (ci 0)) 31 false,
 kO 35 (.pick 31 (.c (.bool true)) 34),
 kO 36 (.mv 35),
 kG 37 (.fa 2 1) 36 false,
 kG 38 (.ld false 1 37) 36 false,
 kG 39 (.bin .gtr 38 (ci 3)) 36 false,
 kO 40 (.pick 36 (.c (.bool true)) 39),
 kO 41 (.mv 40),
 kG 42 (.fa 3 1) 41 false,
 kG 43 (.ld false 1 42) 41 false,
 kG 44 (.mv 3) 41 false,
 kG 45 (.bin .sub 44 (ci 1)) 41 false,
 kG 46 (.ixs 9 43 45) 41 false,
 kG 47 (.fa 0 46) 41 false,
 kG 48 (.ld false 1 47) 41 false,
 kG 49 (.call none true 25 [48]) 41 false,
 kG 50 (.un .not 49) 41 false,
 kO 51 (.pick 41 (.c (.bool true)) 50)])
 (.cond 51
 (.seq (.region [
  kO 2 (.mv (ci 80))])
  .ret)
 .skip))
 yrq)
def ysf : CCode :=
  (.seq (.region [
 kO 10 (.fa 3 1),
 kO 11 (.ld false 1 10),
 kO 12 (.len 1 11),
 kO 3 (.mv 12)])
 ys6)
def yu7 : CCode :=
  (.seq (.region [
 kO 1 (.box (some 0) 0),
 kO 2 (.mv (ci 0))])
 ysf)
def y291 : CFunc :=
  ⟨1, true, 3, yu7, [.t 2]⟩
def y1o8 : CCode :=
  (.seq (.region [
 kO 2 (.mv (.c (.bool true)))])
 .ret)
def y1xw : CCode :=
  (.region [
 kO 134 (.bin .add 106 (ci 1)),
 kO 106 (.mv 134)])
def y1q6 : CCode :=
  (.region [
 kO 133 (.bin .add 114 (ci 1)),
 kO 114 (.mv 133)])
def y1vt : CCode :=
  (.seq (.block 11 (.seq (.region [
 kO 116 (.ixs 1 112 114),
 kO 117 (.ld false 1 116),
 kO 18 (.mv 117)])
 (.seq (.region [
 kO 118 (.mv 3),
 kO 119 (.mv 15),
 kO 120 (.ixs 1 118 119),
 kO 121 (.ld false 1 120),
 kO 122 (.eqn 1 true 121 (.c .nils)),
 kO 123 (.mv 122),
 kG 124 (.mv 3) 123 true,
 kG 125 (.mv 15) 123 true,
 kG 126 (.ixs 1 124 125) 123 true,
 kG 127 (.ld false 1 126) 123 true,
 kG 128 (.mv 18) 123 true,
 kG 129 (.ixs 1 127 128) 123 true,
 kG 130 (.ld false 1 129) 123 true,
 kG 131 (.un .not 130) 123 true,
 kO 132 (.pick 123 131 (.c (.bool false)))])
 (.cond 132
 (.seq (.region [
  kO 2 (.mv (.c (.bool false)))])
  .ret)
 .skip))))
 y1q6)
def y1ux : CCode :=
  (.seq (.cond 115
 .skip
 (.exit 10))
 y1vt)
def y1v2 : CCode :=
  (.seq (.region [
 kO 115 (.bin .lss 114 113)])
 y1ux)
def ypx : CCode :=
  (.loop [3, 15, 104, 105, 106, 112, 113, 114] y1v2)
def y1wv : CCode :=
  (.block 10 ypx)
def yxu : CCode :=
  (.seq (.region [
 kO 111 (.ld true 9 16),
 kO 112 (.call none true 10 [111]),
 kO 113 (.len 1 112),
 kO 114 (.mv (ci 0))])
 y1wv)
def y193 : CCode :=
  (.seq (.region [
 kO 108 (.mv 106),
 kO 109 (.ixs 9 104 106),
 kO 110 (.ld true 9 109),
 kO 16 (.new (some 5) [(.int .i64 0), (.int .i64 0), (.int .i64 0), (.int .i64 0), (.int .i64 0), (.int .i64 0), (.int .i64 0), (.str []), .nils]),
 kO 15 (.mv 108),
 kU (.st 9 16 110)])
 yxu)
def yye : CCode :=
  (.block 9 y193)
def yyx : CCode :=
  (.seq yye
 y1xw)
def y186 : CCode :=
  (.seq (.cond 107
 .skip
 (.exit 8))
 yyx)
def y11z : CCode :=
  (.seq (.region [
 kO 107 (.bin .lss 106 105)])
 y186)
def yp5 : CCode :=
  (.loop [3, 104, 105, 106] y11z)
def y12o : CCode :=
  (.block 8 yp5)
def y0x : CCode :=
  (.seq (.region [
 kO 103 (.fa 3 1),
 kO 104 (.ld false 1 103),
 kO 105 (.len 1 104),
 kO 106 (.mv (ci 0))])
 y12o)
def y13c : CCode :=
  (.seq y0x
 y1o8)
def y0j : CCode :=
  (.region [
 kO 102 (.bin .add 93 (ci 1)),
 kO 93 (.mv 102)])
def y17u : CCode :=
  (.seq (.block 7 (.seq (.region [
 kO 95 (.ixs 1 91 93),
 kO 96 (.ld false 1 95),
 kO 14 (.mv 96)])
 (.region [
 kO 97 (.mv 3),
 kO 98 (.mv 14),
 kO 99 (.mv 9),
 kO 100 (.mv 7),
 kO 101 (.call none false 80 [97, 98, 99, 100]),
 kO 7 (.mv 101)])))
 y0j)
def y18p : CCode :=
  (.seq (.cond 94
 .skip
 (.exit 6))
 y17u)
def yyj : CCode :=
  (.seq (.region [
 kO 94 (.bin .lss 93 92)])
 y18p)
def yj4 : CCode :=
  (.loop [1, 3, 7, 9, 91, 92, 93] yyj)
def yyz : CCode :=
  (.block 6 yj4)
def yzt : CCode :=
  (.seq (.region [
 kO 89 (.ld true 5 1),
 kO 90 (.mv 8),
 kO 91 (.call none true 81 [89, 90]),
 kO 92 (.len 1 91),
 kO 93 (.mv (ci 0))])
 yyz)
def y133 : CCode :=
  (.seq (.seq (.region [
 kO 78 (.fa 3 1),
 kO 79 (.ld false 1 78),
 kO 80 (.mv 8),
 kO 81 (.ixs 9 79 80),
 kO 82 (.ld true 9 81),
 kO 83 (.call none true 9 [82]),
 kO 12 (.mv 83)])
 (.seq (.region [
 kO 84 (.mv 12),
 kO 85 (.bin .geq 84 (ci 0))])
 (.cond 85
 (.region [
  kO 86 (.mv 9),
  kO 87 (.mv 12),
  kO 88 (.ixs 1 86 87),
  kU (.st 1 88 (.c (.bool true)))])
 .skip)))
 yzt)
def y11x : CCode :=
  (.region [
 kO 77 (.bin .add 68 (ci 1)),
 kO 68 (.mv 77)])
def y11g : CCode :=
  (.seq (.block 5 (.seq (.region [
 kO 70 (.ixs 1 66 68),
 kO 71 (.ld false 1 70),
 kO 11 (.mv 71)])
 (.region [
 kO 72 (.mv 3),
 kO 73 (.mv 11),
 kO 74 (.mv 9),
 kO 75 (.mv 7),
 kO 76 (.call none false 80 [72, 73, 74, 75]),
 kO 7 (.mv 76)])))
 y11x)
def yxi : CCode :=
  (.seq (.cond 69
 .skip
 (.exit 4))
 y11g)
def y154 : CCode :=
  (.seq (.region [
 kO 69 (.bin .lss 68 67)])
 yxi)
def yj8 : CCode :=
  (.loop [1, 3, 7, 8, 9, 66, 67, 68] y154)
def y13b : CCode :=
  (.block 4 yj8)
def y180 : CCode :=
  (.seq (.region [
 kO 64 (.ld true 5 1),
 kO 65 (.mv 8),
 kO 66 (.call none true 79 [64, 65]),
 kO 67 (.len 1 66),
 kO 68 (.mv (ci 0))])
 y13b)
def y12m : CCode :=
  (.seq y180
 y133)
def yym : CCode :=
  (.seq (.region [
 kO 59 (.mv 3),
 kO 60 (.mv 8),
 kO 61 (.ixs 1 59 60),
 kO 62 (.ld false 1 61),
 kO 63 (.call (some 4) false 78 [62]),
 kO 9 (.mv 63)])
 y12m)
def y0k : CCode :=
  (.seq (.region [
 kO 54 (.mv 7),
 kO 55 (.mv 7),
 kO 56 (.len 1 55),
 kO 57 (.bin .sub 56 (ci 1)),
 kO 58 (.slc 1 54 none (some 57)),
 kO 7 (.mv 58)])
 yym)
def y18t : CCode :=
  (.seq (.region [
 kO 48 (.mv 7),
 kO 49 (.mv 7),
 kO 50 (.len 1 49),
 kO 51 (.bin .sub 50 (ci 1)),
 kO 52 (.ixs 1 48 51),
 kO 53 (.ld false 1 52),
 kO 8 (.mv 53)])
 y0k)
def y141 : CCode :=
  (.block 3 y18t)
def y02 : CCode :=
  (.seq (.seq (.region [
 kO 45 (.mv 7),
 kO 46 (.len 1 45),
 kO 47 (.bin .gtr 46 (ci 0))])
 (.cond 47
 .skip
 (.exit 2)))
 y141)
def yi5 : CCode :=
  (.loop [1, 3, 7] y02)
def y18i : CCode :=
  (.block 2 yi5)
def yxo : CCode :=
  (.seq y18i
 y13c)
def yz1 : CCode :=
  (.seq (.region [
 kO 42 (.mv 3),
 kO 43 (.mv 4),
 kO 44 (.ixs 1 42 (ci 0)),
 kU (.st 1 44 43)])
 yxo)
def y15a : CCode :=
  (.seq (.region [
 kO 41 (.buildS (some 3) 1 1 [(.int .i64 0)] [(0, (ci 0))]),
 kO 7 (.mv 41)])
 yz1)
def y198 : CCode :=
  (.region [
 kO 40 (.bin .add 33 (ci 1)),
 kO 33 (.mv 40)])
def yyy : CCode :=
  (.seq (.block 1 (.seq (.region [
 kO 35 (.ixs 1 31 33),
 kO 36 (.ld false 1 35),
 kO 6 (.mv 36)])
 (.region [
 kO 37 (.mv 4),
 kO 38 (.mv 6),
 kO 39 (.ixs 1 37 38),
 kU (.st 1 39 (.c (.bool true)))])))
 y198)
def y12v : CCode :=
  (.seq (.cond 34
 .skip
 (.exit 0))
 yyy)
def y11h : CCode :=
  (.seq (.region [
 kO 34 (.bin .lss 33 32)])
 y12v)
def yi9 : CCode :=
  (.loop [1, 3, 4, 31, 32, 33] y11h)
def y16w : CCode :=
  (.block 0 yi9)
def y14i : CCode :=
  (.seq (.region [
 kO 30 (.fa 1 1),
 kO 31 (.ld false 1 30),
 kO 32 (.len 1 31),
 kO 33 (.mv (ci 0))])
 y16w)
def y12r : CCode :=
  (.seq y14i
 y15a)
def y17v : CCode :=
  (.seq (.region [
 kO 26 (.fa 0 1),
 kO 27 (.ld false 1 26),
 kO 28 (.len 1 27),
 kO 29 (.mkS (some 2) 1 1 [(.bool false)] 28 28),
 kO 4 (.mv 29)])
 y12r)
def y18s : CCode :=
  (.seq (.region [
 kO 22 (.fa 3 1),
 kO 23 (.ld false 1 22),
 kO 24 (.len 1 23),
 kO 25 (.mkS (some 1) 1 24 [.nils] 24 24),
 kO 3 (.mv 25)])
 y17v)
def y19e : CCode :=
  (.seq (.seq (.region [
 kO 19 (.ld true 5 1),
 kO 20 (.call none true 8 [19]),
 kO 21 (.bin .neq 20 (ci 0))])
 (.cond 21
 (.seq (.region [
  kO 2 (.mv (.c (.bool false)))])
  .ret)
 .skip))
 y18s)
def y12i : CCode :=
  (.seq (.region [
 kO 1 (.box (some 0) 0),
 kO 2 (.mv (.c (.bool false)))])
 y19e)
def y2l6 : CFunc :=
  ⟨1, true, 6, y12i, [.t 2]⟩
def y1ph : CCode :=
  (.seq (.region [
 kO 2 (.mv (.c .nils))])
 .ret)
def y1si : CCode :=
  (.seq (.region [
 kO 58 (.fa 2 1),
 kO 59 (.ld false 1 58),
 kO 60 (.fa 3 1),
 kO 61 (.ld false 1 60),
 kO 62 (.buildS (some 6) 1 2 [(.int .i64 0)] [(0, 59), (1, 61)]),
 kO 2 (.mv 62)])
 .ret)
def y1nu : CCode :=
  (.seq (.seq (.region [
 kO 52 (.fa 3 1),
 kO 53 (.ld false 1 52),
 kO 54 (.bin .lss 53 (ci 0))])
 (.cond 54
 (.seq (.region [
  kO 55 (.fa 2 1),
  kO 56 (.ld false 1 55),
  kO 57 (.buildS (some 5) 1 1 [(.int .i64 0)] [(0, 56)]),
  kO 2 (.mv 57)])
  .ret)
 .skip))
 y1si)
def y1ol : CCode :=
  (.cond 50
 y1nu
 (.seq (.region [
  kO 64 (.bin .eql 4 (ci 30)),
  kO 63 (.mv 64)])
  (.cond 63
  (.seq (.region [
   kO 65 (.fa 2 1),
   kO 66 (.ld false 1 65),
   kO 67 (.bin .geq 66 (ci 0))])
   (.cond 67
   (.seq (.region [
    kO 68 (.fa 2 1),
    kO 69 (.ld false 1 68),
    kO 70 (.buildS (some 7) 1 1 [(.int .i64 0)] [(0, 69)]),
    kO 2 (.mv 70)])
    .ret)
   .skip))
  .skip)))
def y1ne : CCode :=
  (.seq (.region [
 kO 51 (.bin .eql 4 (ci 29)),
 kO 50 (.mv 51)])
 y1ol)
def y1vl : CCode :=
  (.cond 42
 (.seq (.region [
  kO 47 (.fa 8 1),
  kO 48 (.ld false 1 47),
  kO 49 (.call (some 4) false 39 [48]),
  kO 2 (.mv 49)])
  .ret)
 y1ne)
def y1e4 : CCode :=
  (.seq (.seq (.region [
 kO 43 (.bin .eql 4 (ci 23)),
 kO 42 (.mv 43)])
 (.cond 42
 .skip
 (.seq (.region [
  kO 44 (.bin .eql 4 (ci 24)),
  kO 42 (.mv 44)])
  (.cond 42
  .skip
  (.seq (.region [
   kO 45 (.bin .eql 4 (ci 25)),
   kO 42 (.mv 45)])
   (.cond 42
   .skip
   (.region [
    kO 46 (.bin .eql 4 (ci 26)),
    kO 42 (.mv 46)])))))))
 y1vl)
def y1q3 : CCode :=
  (.cond 33
 (.seq (.region [
  kO 35 (.fa 2 1),
  kO 36 (.ld false 1 35),
  kO 37 (.fa 3 1),
  kO 38 (.ld false 1 37),
  kO 39 (.fa 4 1),
  kO 40 (.ld false 1 39),
  kO 41 (.buildS (some 3) 1 3 [(.int .i64 0)] [(0, 36), (1, 38), (2, 40)]),
  kO 2 (.mv 41)])
  .ret)
 y1e4)
def y1tc : CCode :=
  (.seq (.region [
 kO 34 (.bin .eql 4 (ci 14)),
 kO 33 (.mv 34)])
 y1q3)
def yz3 : CCode :=
  (.cond 21
 (.seq (.region [
  kO 28 (.fa 2 1),
  kO 29 (.ld false 1 28),
  kO 30 (.fa 3 1),
  kO 31 (.ld false 1 30),
  kO 32 (.buildS (some 2) 1 2 [(.int .i64 0)] [(0, 29), (1, 31)]),
  kO 2 (.mv 32)])
  .ret)
 y1tc)
def y169 : CCode :=
  (.seq (.seq (.region [
 kO 22 (.bin .eql 4 (ci 5)),
 kO 21 (.mv 22)])
 (.cond 21
 .skip
 (.seq (.region [
  kO 23 (.bin .eql 4 (ci 9)),
  kO 21 (.mv 23)])
  (.cond 21
  .skip
  (.seq (.region [
   kO 24 (.bin .eql 4 (ci 11)),
   kO 21 (.mv 24)])
   (.cond 21
   .skip
   (.seq (.region [
    kO 25 (.bin .eql 4 (ci 13)),
    kO 21 (.mv 25)])
    (.cond 21
    .skip
    (.seq (.region [
     kO 26 (.bin .eql 4 (ci 17)),
     kO 21 (.mv 26)])
     (.cond 21
     .skip
     (.region [
      kO 27 (.bin .eql 4 (ci 28)),
      kO 21 (.mv 27)])))))))))))
 yz3)
def yxr : CCode :=
  (.cond 5
 (.seq (.region [
  kO 18 (.fa 2 1),
  kO 19 (.ld false 1 18),
  kO 20 (.buildS (some 1) 1 1 [(.int .i64 0)] [(0, 19)]),
  kO 2 (.mv 20)])
  .ret)
 y169)
def y14q : CCode :=
  (.seq (.seq (.region [
 kO 6 (.bin .eql 4 (ci 4)),
 kO 5 (.mv 6)])
 (.cond 5
 .skip
 (.seq (.region [
  kO 7 (.bin .eql 4 (ci 6)),
  kO 5 (.mv 7)])
  (.cond 5
  .skip
  (.seq (.region [
   kO 8 (.bin .eql 4 (ci 7)),
   kO 5 (.mv 8)])
   (.cond 5
   .skip
   (.seq (.region [
    kO 9 (.bin .eql 4 (ci 8)),
    kO 5 (.mv 9)])
    (.cond 5
    .skip
    (.seq (.region [
     kO 10 (.bin .eql 4 (ci 10)),
     kO 5 (.mv 10)])
     (.cond 5
     .skip
     (.seq (.region [
      kO 11 (.bin .eql 4 (ci 12)),
      kO 5 (.mv 11)])
      (.cond 5
      .skip
      (.seq (.region [
       kO 12 (.bin .eql 4 (ci 15)),
       kO 5 (.mv 12)])
       (.cond 5
       .skip
       (.seq (.region [
        kO 13 (.bin .eql 4 (ci 16)),
        kO 5 (.mv 13)])
        (.cond 5
        .skip
        (.seq (.region [
         kO 14 (.bin .eql 4 (ci 19)),
         kO 5 (.mv 14)])
         (.cond 5
         .skip
         (.seq (.region [
          kO 15 (.bin .eql 4 (ci 21)),
          kO 5 (.mv 15)])
          (.cond 5
          .skip
          (.seq (.region [
           kO 16 (.bin .eql 4 (ci 22)),
           kO 5 (.mv 16)])
           (.cond 5
           .skip
           (.region [
            kO 17 (.bin .eql 4 (ci 31)),
            kO 5 (.mv 17)])))))))))))))))))))))))
 yxr)
def y12p : CCode :=
  (.block 0 y14q)
def y14n : CCode :=
  (.seq (.region [
 kO 3 (.fa 0 1),
 kO 4 (.ld false 1 3)])
 y12p)
def y12f : CCode :=
  (.seq y14n
 y1ph)
def y126 : CCode :=
  (.seq (.region [
 kO 1 (.box (some 0) 0),
 kO 2 (.mv (.c .nils))])
 y12f)
def y2ou : CFunc :=
  ⟨1, true, 8, y126, [.t 2]⟩
def y1rn : CCode :=
  (.seq (.region [
 kO 2 (.mv (ci (-1)))])
 .ret)
def y1lm : CCode :=
  (.seq (.seq (.region [
 kO 22 (.ld true 9 1),
 kO 23 (.call none true 17 [22])])
 (.cond 23
 (.seq (.region [
  kO 24 (.fa 1 1),
  kO 25 (.ld false 1 24),
  kO 2 (.mv 25)])
  .ret)
 .skip))
 y1rn)
def y1wr : CCode :=
  (.cond 5
 (.seq (.region [
  kO 20 (.fa 1 1),
  kO 21 (.ld false 1 20),
  kO 2 (.mv 21)])
  .ret)
 .skip)
def y1fy : CCode :=
  (.seq (.seq (.region [
 kO 6 (.bin .eql 4 (ci 1)),
 kO 5 (.mv 6)])
 (.cond 5
 .skip
 (.seq (.region [
  kO 7 (.bin .eql 4 (ci 2)),
  kO 5 (.mv 7)])
  (.cond 5
  .skip
  (.seq (.region [
   kO 8 (.bin .eql 4 (ci 3)),
   kO 5 (.mv 8)])
   (.cond 5
   .skip
   (.seq (.region [
    kO 9 (.bin .eql 4 (ci 4)),
    kO 5 (.mv 9)])
    (.cond 5
    .skip
    (.seq (.region [
     kO 10 (.bin .eql 4 (ci 5)),
     kO 5 (.mv 10)])
     (.cond 5
     .skip
     (.seq (.region [
      kO 11 (.bin .eql 4 (ci 6)),
      kO 5 (.mv 11)])
      (.cond 5
      .skip
      (.seq (.region [
       kO 12 (.bin .eql 4 (ci 13)),
       kO 5 (.mv 12)])
       (.cond 5
       .skip
       (.seq (.region [
        kO 13 (.bin .eql 4 (ci 15)),
        kO 5 (.mv 13)])
        (.cond 5
        .skip
        (.seq (.region [
         kO 14 (.bin .eql 4 (ci 16)),
         kO 5 (.mv 14)])
         (.cond 5
         .skip
         (.seq (.region [
          kO 15 (.bin .eql 4 (ci 18)),
          kO 5 (.mv 15)])
          (.cond 5
          .skip
          (.seq (.region [
           kO 16 (.bin .eql 4 (ci 20)),
           kO 5 (.mv 16)])
           (.cond 5
           .skip
           (.seq (.region [
            kO 17 (.bin .eql 4 (ci 21)),
            kO 5 (.mv 17)])
            (.cond 5
            .skip
            (.seq (.region [
             kO 18 (.bin .eql 4 (ci 22)),
             kO 5 (.mv 18)])
             (.cond 5
             .skip
             (.region [
              kO 19 (.bin .eql 4 (ci 32)),
              kO 5 (.mv 19)])))))))))))))))))))))))))))
 y1wr)
def y1t1 : CCode :=
  (.block 0 y1fy)
def y1tf : CCode :=
  (.seq (.region [
 kO 3 (.fa 0 1),
 kO 4 (.ld false 1 3)])
 y1t1)
def y1wt : CCode :=
  (.seq y1tf
 y1lm)
def y1ps : CCode :=
  (.seq (.region [
 kO 1 (.box (some 0) 0),
 kO 2 (.mv (ci 0))])
 y1wt)
def y2o3 : CFunc :=
  ⟨1, true, 1, y1ps, [.t 2]⟩
def y12e : CCode :=
  (.seq (.region [
 kO 5 (.buildS (some 0) 1 0 [(.int .i64 0)] []),
 kO 6 (.mv 0),
 kO 7 (.app (some 1) 1 8 5 6),
 kO 2 (.mv 7)])
 .ret)
def y17b : CCode :=
  (.seq (.seq (.region [
 kO 3 (.mv 0),
 kO 4 (.eqn 1 false 3 (.c .nils))])
 (.cond 4
 (.seq (.region [
  kO 2 (.mv (.c .nils))])
  .ret)
 .skip))
 y12e)
def y12z : CCode :=
  (.seq (.region [
 kO 2 (.mv (.c .nils))])
 y17b)
def y297 : CFunc :=
  ⟨1, true, 2, y12z, [.t 2]⟩
def y03 : CCode :=
  (.seq (.region [
 kO 5 (.buildS (some 0) 9 0 [(.int .i64 0), (.int .i64 0), (.int .i64 0), (.int .i64 0), (.int .i64 0), (.int .i64 0), (.int .i64 0), (.str []), .nils] []),
 kO 6 (.mv 0),
 kO 7 (.app (some 1) 9 96 5 6),
 kO 2 (.mv 7)])
 .ret)
def y0f : CCode :=
  (.seq (.seq (.region [
 kO 3 (.mv 0),
 kO 4 (.eqn 1 false 3 (.c .nils))])
 (.cond 4
 (.seq (.region [
  kO 2 (.mv (.c .nils))])
  .ret)
 .skip))
 y03)
def yy3 : CCode :=
  (.seq (.region [
 kO 2 (.mv (.c .nils))])
 y0f)
def y29j : CFunc :=
  ⟨1, true, 2, yy3, [.t 2]⟩
def y183 : CCode :=
  (.seq (.region [
 kO 5 (.buildS (some 0) 4 0 [(.int .i64 0), (.int .i64 0), (.int .i64 0), (.str [])] []),
 kO 6 (.mv 0),
 kO 7 (.app (some 1) 4 40 5 6),
 kO 2 (.mv 7)])
 .ret)
def y11o : CCode :=
  (.seq (.seq (.region [
 kO 3 (.mv 0),
 kO 4 (.eqn 1 false 3 (.c .nils))])
 (.cond 4
 (.seq (.region [
  kO 2 (.mv (.c .nils))])
  .ret)
 .skip))
 y183)
def yy2 : CCode :=
  (.seq (.region [
 kO 2 (.mv (.c .nils))])
 y11o)
def y29g : CFunc :=
  ⟨1, true, 2, yy2, [.t 2]⟩
def y12j : CCode :=
  (.seq (.region [
 kO 4 (.mv (.c (.bool true)))])
 .ret)
def yyu : CCode :=
  (.region [
 kO 15 (.mv 5),
 kO 16 (.bin .add 15 (ci 1)),
 kO 5 (.mv 16)])
def y15g : CCode :=
  (.seq (.block 1 (.seq (.draw [
 kO 17 (.mv 0),
 kO 18 (.mv 5),
 kO 19 (.ixs 1 17 18),
 kO 20 (.ld false 1 19),
 kO 21 (.mv 1),
 kO 22 (.mv 5),
 kO 23 (.ixs 1 21 22),
 kO 24 (.ld false 1 23),
 kO 25 (.bin .neq 20 24)] [])
 (.cond 25
 (.seq (.region [
  kO 4 (.mv (.c (.bool false)))])
  .ret)
 .skip)))
 yyu)
def yzb : CCode :=
  (.seq (.seq (.region [
 kO 11 (.mv 5),
 kO 12 (.mv 0),
 kO 13 (.len 1 12),
 kO 14 (.bin .lss 11 13)])
 (.cond 14
 .skip
 (.exit 0)))
 y15g)
def yko : CCode :=
  (.loop [0, 1, 5] yzb)
def y17w : CCode :=
  (.block 0 yko)
def y16d : CCode :=
  (.seq (.region [
 kO 5 (.mv (ci 0))])
 y17w)
def y17f : CCode :=
  (.seq y16d
 y12j)
def y18b : CCode :=
  (.seq (.seq (.region [
 kO 6 (.mv 0),
 kO 7 (.len 1 6),
 kO 8 (.mv 1),
 kO 9 (.len 1 8),
 kO 10 (.bin .neq 7 9)])
 (.cond 10
 (.seq (.region [
  kO 4 (.mv (.c (.bool false)))])
  .ret)
 .skip))
 y17f)
def yv1 : CCode :=
  (.seq (.region [
 kO 4 (.mv (.c (.bool false)))])
 y18b)
def y293 : CFunc :=
  ⟨2, true, 0, yv1, [.t 4]⟩
def y17k : CCode :=
  (.seq (.region [
 kO 2 (.box (some 0) 0),
 kO 3 (.box (some 1) 1),
 kO 4 (.mv (.c (.bool false)))])
 (.seq (.region [
 kO 5 (.fa 0 2),
 kO 6 (.ld false 1 5),
 kO 7 (.fa 0 3),
 kO 8 (.ld false 1 7),
 kO 9 (.bin .eql 6 8),
 kO 10 (.mv 9),
 kG 11 (.fa 1 2) 10 true,
 kG 12 (.ld false 1 11) 10 true,
 kG 13 (.fa 1 3) 10 true,
 kG 14 (.ld false 1 13) 10 true,
 kG 15 (.bin .eql 12 14) 10 true,
 kO 16 (.pick 10 15 (.c (.bool false))),
 kO 17 (.mv 16),
 kG 18 (.fa 2 2) 17 true,
 kG 19 (.ld false 1 18) 17 true,
 kG 20 (.fa 2 3) 17 true,
 kG 21 (.ld false 1 20) 17 true,
 kG 22 (.bin .eql 19 21) 17 true,
 kO 23 (.pick 17 22 (.c (.bool false))),
 kO 24 (.mv 23),
 kG 25 (.fa 3 2) 24 true,
 kG 26 (.ld false 1 25) 24 true,
 kG 27 (.fa 3 3) 24 true,
 kG 28 (.ld false 1 27) 24 true,
 kG 29 (.bin .eql 26 28) 24 true,
 kO 30 (.pick 24 29 (.c (.bool false))),
 kO 31 (.mv 30),
 kG 32 (.fa 4 2) 31 true,
 kG 33 (.ld false 1 32) 31 true,
 kG 34 (.fa 4 3) 31 true,
 kG 35 (.ld false 1 34) 31 true,
 kG 36 (.bin .eql 33 35) 31 true,
 kO 37 (.pick 31 36 (.c (.bool false))),
 kO 38 (.mv 37),
 kG 39 (.fa 5 2) 38 true,
 kG 40 (.ld false 1 39) 38 true,
 kG 41 (.fa 5 3) 38 true,
 kG 42 (.ld false 1 41) 38 true,
 kG 43 (.bin .eql 40 42) 38 true,
 kO 44 (.pick 38 43 (.c (.bool false))),
 kO 45 (.mv 44),
 kG 46 (.fa 6 2) 45 true,
 kG 47 (.ld false 1 46) 45 true,
 kG 48 (.fa 6 3) 45 true,
 kG 49 (.ld false 1 48) 45 true,
 kG 50 (.bin .eql 47 49) 45 true,
 kO 51 (.pick 45 50 (.c (.bool false))),
 kO 52 (.mv 51),
 kG 53 (.fa 7 2) 52 true,
 kG 54 (.ld false 1 53) 52 true,
 kG 55 (.fa 7 3) 52 true,
 kG 56 (.ld false 1 55) 52 true,
 kG 57 (.bin .eql 54 56) 52 true,
 kO 58 (.pick 52 57 (.c (.bool false))),
 kO 59 (.mv 58),
 kG 60 (.fa 8 2) 59 true,
 kG 61 (.ld false 1 60) 59 true,
 kG 62 (.fa 8 3) 59 true,
 kG 63 (.ld false 1 62) 59 true,
 kG 64 (.call none true 11 [61, 63]) 59 true,
 kO 65 (.pick 59 64 (.c (.bool false))),
 kO 4 (.mv 65)])
 .ret))
def y292 : CFunc :=
  ⟨2, true, 2, y17k, [.t 4]⟩
def y1n1 : CCode :=
  (.seq (.region [
 kO 1 (.box (some 0) 0),
 kO 2 (.mv (.c (.bool false)))])
 (.seq (.region [
 kO 3 (.fa 0 1),
 kO 4 (.ld false 1 3),
 kO 5 (.bin .eql 4 (ci 27)),
 kO 6 (.mv 5),
 kG 7 (.fa 0 1) 6 false,
 kG 8 (.ld false 1 7) 6 false,
 kG 9 (.bin .eql 8 (ci 30)) 6 false,
 kO 10 (.pick 6 (.c (.bool true)) 9),
 kO 11 (.mv 10),
 kG 12 (.fa 0 1) 11 false,
 kG 13 (.ld false 1 12) 11 false,
 kG 14 (.bin .eql 13 (ci 31)) 11 false,
 kO 15 (.pick 11 (.c (.bool true)) 14),
 kO 2 (.mv 15)])
 .ret))
def y2kq : CFunc :=
  ⟨1, true, 1, y1n1, [.t 2]⟩
def y11q : CCode :=
  (.seq (.region [
 kO 4 (.mv (.c (.bool false)))])
 (.seq (.region [
 kO 5 (.mv 0),
 kO 6 (.mv 1),
 kO 7 (.call none true 45 [5, 6]),
 kO 8 (.bin .geq 7 (ci 0)),
 kO 4 (.mv 8)])
 .ret))
def y29m : CFunc :=
  ⟨2, true, 0, y11q, [.t 4]⟩
def y1ju : CCode :=
  (.seq (.region [
 kO 183 (.ld true 9 3),
 kO 184 (.call none true 22 [183]),
 kO 185 (.un .not 184),
 kO 186 (.mv 185),
 kG 187 (.fa 6 3) 186 false,
 kG 188 (.ld false 1 187) 186 false,
 kG 189 (.bin .geq 188 (ci 0)) 186 false,
 kG 190 (.mv 189) 186 false,
 kG 191 (.fa 6 3) 190 true,
 kG 192 (.ld false 1 191) 190 true,
 kG 193 (.fa 3 2) 190 true,
 kG 194 (.ld false 1 193) 190 true,
 kG 195 (.len 1 194) 190 true,
 kG 196 (.bin .lss 192 195) 190 true,
 kG 197 (.pick 190 196 (.c (.bool false))) 186 false,
 kO 198 (.pick 186 (.c (.bool true)) 197),
 kO 4 (.mv 198)])
 .ret)
def y1e3 : CCode :=
  (.seq (.seq (.region [
 kO 105 (.fa 0 3),
 kO 106 (.ld false 1 105)])
 (.block 4 (.seq (.region [
 kO 108 (.bin .eql 106 (ci 1)),
 kO 107 (.mv 108)])
 (.cond 107
 (.seq (.region [
  kO 109 (.fa 0 2),
  kO 110 (.ld false 1 109),
  kO 111 (.fa 1 3),
  kO 112 (.ld false 1 111),
  kO 113 (.ixs 1 110 112),
  kO 114 (.ld false 1 113),
  kO 115 (.bin .neq 114 (ci 3)),
  kO 116 (.mv 115),
  kG 117 (.fa 0 2) 116 true,
  kG 118 (.ld false 1 117) 116 true,
  kG 119 (.fa 1 3) 116 true,
  kG 120 (.ld false 1 119) 116 true,
  kG 121 (.ixs 1 118 120) 116 true,
  kG 122 (.ld false 1 121) 116 true,
  kG 123 (.bin .eql 122 (ci 2)) 116 true,
  kG 124 (.mv 123) 116 true,
  kG 125 (.fa 5 3) 124 false,
  kG 126 (.ld false 1 125) 124 false,
  kG 127 (.fa 5 3) 124 false,
  kG 128 (.ld false 1 127) 124 false,
  kG 129 (.cvi .i32 128) 124 false,
  kG 130 (.cvi .i64 129) 124 false,
  kG 131 (.bin .eql 126 130) 124 false,
  kG 132 (.pick 124 (.c (.bool true)) 131) 116 true,
  kO 133 (.pick 116 132 (.c (.bool false))),
  kO 4 (.mv 133)])
  .ret)
 (.seq (.region [
  kO 135 (.bin .eql 106 (ci 4)),
  kO 134 (.mv 135)])
  (.cond 134
  (.seq (.draw [
   kO 136 (.fa 0 2),
   kO 137 (.ld false 1 136),
   kO 138 (.fa 1 3),
   kO 139 (.ld false 1 138),
   kO 140 (.ixs 1 137 139),
   kO 141 (.ld false 1 140),
   kO 142 (.fa 0 2),
   kO 143 (.ld false 1 142),
   kO 144 (.fa 2 3),
   kO 145 (.ld false 1 144),
   kO 146 (.ixs 1 143 145),
   kO 147 (.ld false 1 146),
   kO 148 (.bin .eql 141 147),
   kO 4 (.mv 148)] [])
   .ret)
  (.seq (.region [
   kO 150 (.bin .eql 106 (ci 7)),
   kO 149 (.mv 150)])
   (.cond 149
   (.seq (.region [
    kO 151 (.fa 0 2),
    kO 152 (.ld false 1 151),
    kO 153 (.fa 2 3),
    kO 154 (.ld false 1 153),
    kO 155 (.ixs 1 152 154),
    kO 156 (.ld false 1 155),
    kO 157 (.bin .neq 156 (ci 3)),
    kO 4 (.mv 157)])
    .ret)
   (.seq (.region [
    kO 159 (.bin .eql 106 (ci 30)),
    kO 158 (.mv 159)])
    (.cond 158
    (.seq (.draw [
     kO 160 (.fa 2 3),
     kO 161 (.ld false 1 160),
     kO 162 (.bin .eql 161 (ci (-1))),
     kO 163 (.fa 2 2),
     kO 164 (.ld false 1 163),
     kO 165 (.bin .eql 164 (ci 0)),
     kO 166 (.eqb false 162 165),
     kO 167 (.mv 166),
     kG 168 (.fa 2 3) 167 true,
     kG 169 (.ld false 1 168) 167 true,
     kG 170 (.bin .eql 169 (ci (-1))) 167 true,
     kG 171 (.mv 170) 167 true,
     kG 172 (.fa 0 2) 171 false,
     kG 173 (.ld false 1 172) 171 false,
     kG 174 (.fa 2 3) 171 false,
     kG 175 (.ld false 1 174) 171 false,
     kG 176 (.ixs 1 173 175) 171 false,
     kG 177 (.ld false 1 176) 171 false,
     kG 178 (.fa 2 2) 171 false,
     kG 179 (.ld false 1 178) 171 false,
     kG 180 (.bin .eql 177 179) 171 false,
     kG 181 (.pick 171 (.c (.bool true)) 180) 167 true,
     kO 182 (.pick 167 181 (.c (.bool false))),
     kO 4 (.mv 182)] [])
     .ret)
    .skip))))))))))
 y1ju)
def y1pa : CCode :=
  (.region [
 kO 104 (.bin .add 65 (ci 1)),
 kO 65 (.mv 104)])
def y1pn : CCode :=
  (.seq (.region [
 kO 73 (.mv 10),
 kO 74 (.bin .lss 73 (ci 0)),
 kO 75 (.mv 74),
 kG 76 (.mv 10) 75 false,
 kG 77 (.fa 0 2) 75 false,
 kG 78 (.ld false 1 77) 75 false,
 kG 79 (.len 1 78) 75 false,
 kG 80 (.bin .geq 76 79) 75 false,
 kO 81 (.pick 75 (.c (.bool true)) 80),
 kO 82 (.mv 81),
 kG 83 (.mv 9) 82 false,
 kG 84 (.bin .eql 83 (ci 0)) 82 false,
 kG 85 (.mv 84) 82 false,
 kG 86 (.fa 0 3) 85 true,
 kG 87 (.ld false 1 86) 85 true,
 kG 88 (.bin .eql 87 (ci 24)) 85 true,
 kG 89 (.mv 88) 85 true,
 kG 90 (.fa 0 3) 89 false,
 kG 91 (.ld false 1 90) 89 false,
 kG 92 (.bin .eql 91 (ci 25)) 89 false,
 kG 93 (.pick 89 (.c (.bool true)) 92) 85 true,
 kG 94 (.pick 85 93 (.c (.bool false))) 82 false,
 kG 95 (.mv 94) 82 false,
 kG 96 (.fa 0 2) 95 true,
 kG 97 (.ld false 1 96) 95 true,
 kG 98 (.mv 10) 95 true,
 kG 99 (.ixs 1 97 98) 95 true,
 kG 100 (.ld false 1 99) 95 true,
 kG 101 (.bin .neq 100 (ci 3)) 95 true,
 kG 102 (.pick 95 101 (.c (.bool false))) 82 false,
 kO 103 (.pick 82 (.c (.bool true)) 102)])
 (.cond 103
 (.seq (.region [
  kO 4 (.mv (.c (.bool false)))])
  .ret)
 .skip))
def y1yo : CCode :=
  (.seq (.seq (.region [
 kO 70 (.ld true 9 3),
 kO 71 (.call none true 17 [70]),
 kO 72 (.un .not 71)])
 (.cond 72
 (.exit 2)
 .skip))
 y1pn)
def y1u4 : CCode :=
  (.seq (.region [
 kO 67 (.mv 65),
 kO 68 (.ixs 1 63 65),
 kO 69 (.ld false 1 68),
 kO 9 (.mv 67),
 kO 10 (.mv 69)])
 y1yo)
def y1qf : CCode :=
  (.block 3 y1u4)
def y1wi : CCode :=
  (.seq y1qf
 y1pa)
def y150 : CCode :=
  (.seq (.cond 66
 .skip
 (.exit 2))
 y1wi)
def y11r : CCode :=
  (.seq (.region [
 kO 66 (.bin .lss 65 64)])
 y150)
def yoy : CCode :=
  (.loop [2, 3, 63, 64, 65] y11r)
def y14t : CCode :=
  (.block 2 yoy)
def y16r : CCode :=
  (.seq (.region [
 kO 62 (.fa 8 3),
 kO 63 (.ld false 1 62),
 kO 64 (.len 1 63),
 kO 65 (.mv (ci 0))])
 y14t)
def yyd : CCode :=
  (.seq y16r
 y1e3)
def yya : CCode :=
  (.region [
 kO 61 (.bin .add 27 (ci 1)),
 kO 27 (.mv 61)])
def y127 : CCode :=
  (.seq (.draw [
 kO 35 (.mv 8),
 kO 36 (.bin .lss 35 (ci 0)),
 kO 37 (.mv 36),
 kG 38 (.mv 8) 37 false,
 kG 39 (.fa 0 2) 37 false,
 kG 40 (.ld false 1 39) 37 false,
 kG 41 (.len 1 40) 37 false,
 kG 42 (.bin .geq 38 41) 37 false,
 kO 43 (.pick 37 (.c (.bool true)) 42),
 kO 44 (.mv 43),
 kG 45 (.mv 7) 44 false,
 kG 46 (.ixa 4 1 5 45) 44 false,
 kG 47 (.ld false 1 46) 44 false,
 kG 48 (.bin .gtr 47 (ci 0)) 44 false,
 kG 49 (.mv 48) 44 false,
 kG 50 (.fa 0 2) 49 true,
 kG 51 (.ld false 1 50) 49 true,
 kG 52 (.mv 8) 49 true,
 kG 53 (.ixs 1 51 52) 49 true,
 kG 54 (.ld false 1 53) 49 true,
 kG 55 (.mv 7) 49 true,
 kG 56 (.ixa 4 1 5 55) 49 true,
 kG 57 (.ld false 1 56) 49 true,
 kG 58 (.bin .neq 54 57) 49 true,
 kG 59 (.pick 49 58 (.c (.bool false))) 44 false,
 kO 60 (.pick 44 (.c (.bool true)) 59)] [])
 (.cond 60
 (.seq (.region [
  kO 4 (.mv (.c (.bool false)))])
  .ret)
 .skip))
def y187 : CCode :=
  (.seq (.seq (.region [
 kO 31 (.mv 7),
 kO 32 (.ixa 4 1 5 31),
 kO 33 (.ld false 1 32),
 kO 34 (.bin .lss 33 (ci 0))])
 (.cond 34
 (.exit 1)
 .skip))
 y127)
def y14c : CCode :=
  (.seq (.region [
 kO 29 (.mv 27),
 kO 30 (.ixv false 4 1 26 27),
 kO 7 (.mv 29),
 kO 8 (.mv 30)])
 y187)
def yzo : CCode :=
  (.block 1 y14c)
def y11i : CCode :=
  (.seq yzo
 yya)
def y17n : CCode :=
  (.seq (.cond 28
 .skip
 (.exit 0))
 y11i)
def y15m : CCode :=
  (.seq (.region [
 kO 28 (.bin .lss 27 (ci 4))])
 y17n)
def yk9 : CCode :=
  (.loop [2, 3, 5, 26, 27] y15m)
def y12s : CCode :=
  (.block 0 yk9)
def y13r : CCode :=
  (.seq (.region [
 kO 18 (.fa 1 3),
 kO 19 (.ld false 1 18),
 kO 20 (.fa 2 3),
 kO 21 (.ld false 1 20),
 kO 22 (.fa 3 3),
 kO 23 (.ld false 1 22),
 kO 24 (.fa 4 3),
 kO 25 (.ld false 1 24),
 kO 26 (.build [(.int .i64 0), (.int .i64 0), (.int .i64 0), (.int .i64 0)] [(0, 1, 19), (1, 1, 21), (2, 1, 23), (3, 1, 25)]),
 kO 27 (.mv (ci 0))])
 y12s)
def y144 : CCode :=
  (.seq y13r
 yyd)
def yxx : CCode :=
  (.seq (.seq (.region [
 kO 16 (.mv 6),
 kO 17 (.un .not 16)])
 (.cond 17
 (.seq (.region [
  kO 4 (.mv (.c (.bool false)))])
  .ret)
 .skip))
 y144)
def y09 : CCode :=
  (.seq (.region [
 kO 12 (.ld true 9 3),
 kO 13 (.call none true 47 [12]),
 kO 11 (.mv 13),
 kO 14 (.ext 0 11),
 kO 15 (.ext 1 11),
 kO 5 (.new (some 2) [(.int .i64 0), (.int .i64 0), (.int .i64 0), (.int .i64 0)]),
 kU (.st 4 5 14),
 kO 6 (.mv 15)])
 yxx)
def y19d : CCode :=
  (.seq (.region [
 kO 2 (.box (some 0) 0),
 kO 3 (.box (some 1) 1),
 kO 4 (.mv (.c (.bool false)))])
 y09)
def y2k4 : CFunc :=
  ⟨2, true, 3, y19d, [.t 4]⟩
def y1x0 : CCode :=
  (.seq (.region [
 kO 1 (.box (some 0) 0),
 kO 2 (.mv (.c (.bool false)))])
 (.seq (.region [
 kO 3 (.fa 0 1),
 kO 4 (.ld false 1 3),
 kO 5 (.bin .eql 4 (ci 27)),
 kO 6 (.mv 5),
 kG 7 (.fa 0 1) 6 false,
 kG 8 (.ld false 1 7) 6 false,
 kG 9 (.bin .eql 8 (ci 28)) 6 false,
 kO 10 (.pick 6 (.c (.bool true)) 9),
 kO 11 (.mv 10),
 kG 12 (.fa 0 1) 11 false,
 kG 13 (.ld false 1 12) 11 false,
 kG 14 (.bin .eql 13 (ci 29)) 11 false,
 kO 15 (.pick 11 (.c (.bool true)) 14),
 kO 2 (.mv 15)])
 .ret))
def y2qb : CFunc :=
  ⟨1, true, 1, y1x0, [.t 2]⟩
def y1s9 : CCode :=
  (.seq (.region [
 kO 57 (.mv 5),
 kO 4 (.mv 57)])
 .ret)
def y1xz : CCode :=
  (.region [
 kO 56 (.bin .add 29 (ci 1)),
 kO 29 (.mv 56)])
def y1xd : CCode :=
  (.seq (.region [
 kO 53 (.fa 3 7),
 kO 54 (.ld false 1 53),
 kO 55 (.bin .eql 54 (.c (.str [])))])
 (.cond 55
 (.exit 0)
 .skip))
def y1i3 : CCode :=
  (.seq (.seq (.region [
 kO 43 (.mv 5),
 kO 44 (.fa 2 7),
 kO 45 (.ld false 1 44),
 kO 46 (.call none true 46 [43, 45]),
 kO 47 (.un .not 46)])
 (.cond 47
 (.region [
  kO 48 (.mv 5),
  kO 49 (.fa 2 7),
  kO 50 (.ld false 1 49),
  kO 51 (.buildS (some 2) 1 1 [(.int .i64 0)] [(0, 50)]),
  kO 52 (.app (some 3) 1 8 48 51),
  kO 5 (.mv 52)])
 .skip))
 y1xd)
def y1yr : CCode :=
  (.seq (.seq (.region [
 kO 33 (.mv 1),
 kO 34 (.fa 0 7),
 kO 35 (.ld false 1 34),
 kO 36 (.bin .lss 33 35),
 kO 37 (.mv 36),
 kG 38 (.mv 1) 37 false,
 kG 39 (.fa 1 7) 37 false,
 kG 40 (.ld false 1 39) 37 false,
 kG 41 (.bin .geq 38 40) 37 false,
 kO 42 (.pick 37 (.c (.bool true)) 41)])
 (.cond 42
 (.exit 1)
 .skip))
 y1i3)
def y1qe : CCode :=
  (.seq (.region [
 kO 31 (.ixs 4 27 29),
 kO 32 (.ld true 4 31),
 kO 7 (.new (some 1) [(.int .i64 0), (.int .i64 0), (.int .i64 0), (.str [])]),
 kU (.st 4 7 32)])
 y1yr)
def y1fr : CCode :=
  (.block 1 y1qe)
def y1tg : CCode :=
  (.seq y1fr
 y1xz)
def y18a : CCode :=
  (.seq (.cond 30
 .skip
 (.exit 0))
 y1tg)
def y15e : CCode :=
  (.seq (.region [
 kO 30 (.bin .lss 29 28)])
 y18a)
def yox : CCode :=
  (.loop [1, 5, 27, 28, 29] y15e)
def y17i : CCode :=
  (.block 0 yox)
def y130 : CCode :=
  (.seq (.region [
 kO 26 (.fa 4 2),
 kO 27 (.ld false 1 26),
 kO 28 (.len 1 27),
 kO 29 (.mv (ci 0))])
 y17i)
def y17m : CCode :=
  (.seq y130
 y1s9)
def y13x : CCode :=
  (.seq (.region [
 kO 5 (.mv (.c .nils))])
 y17m)
def y05 : CCode :=
  (.seq (.seq (.region [
 kO 8 (.mv 1),
 kO 9 (.bin .lss 8 (ci 0)),
 kO 10 (.mv 9),
 kG 11 (.mv 1) 10 false,
 kG 12 (.fa 3 2) 10 false,
 kG 13 (.ld false 1 12) 10 false,
 kG 14 (.len 1 13) 10 false,
 kG 15 (.bin .geq 11 14) 10 false,
 kO 16 (.pick 10 (.c (.bool true)) 15),
 kO 17 (.mv 16),
 kG 18 (.fa 3 2) 17 false,
 kG 19 (.ld false 1 18) 17 false,
 kG 20 (.mv 1) 17 false,
 kG 21 (.ixs 9 19 20) 17 false,
 kG 22 (.ld true 9 21) 17 false,
 kG 23 (.call none true 18 [22]) 17 false,
 kG 24 (.un .not 23) 17 false,
 kO 25 (.pick 17 (.c (.bool true)) 24)])
 (.cond 25
 (.seq (.region [
  kO 4 (.mv (.c .nils))])
  .ret)
 .skip))
 y13x)
def y122 : CCode :=
  (.seq (.region [
 kO 2 (.box (some 0) 0),
 kO 4 (.mv (.c .nils))])
 y05)
def y2pg : CFunc :=
  ⟨2, true, 4, y122, [.t 4]⟩
def y1vi : CCode :=
  (.seq (.region [
 kO 43 (.mv 6),
 kO 4 (.mv 43)])
 .ret)
def y1ye : CCode :=
  (.seq (.seq (.region [
 kO 29 (.ld true 9 5),
 kO 30 (.call none true 22 [29]),
 kO 31 (.mv 30),
 kG 32 (.mv 6) 31 true,
 kG 33 (.fa 6 5) 31 true,
 kG 34 (.ld false 1 33) 31 true,
 kG 35 (.call none true 46 [32, 34]) 31 true,
 kG 36 (.un .not 35) 31 true,
 kO 37 (.pick 31 36 (.c (.bool false)))])
 (.cond 37
 (.region [
  kO 38 (.mv 6),
  kO 39 (.fa 6 5),
  kO 40 (.ld false 1 39),
  kO 41 (.buildS (some 4) 1 1 [(.int .i64 0)] [(0, 40)]),
  kO 42 (.app (some 5) 1 8 38 41),
  kO 6 (.mv 42)])
 .skip))
 y1vi)
def y1l5 : CCode :=
  (.seq (.seq (.region [
 kO 21 (.ld true 9 5),
 kO 22 (.call none true 24 [21]),
 kO 23 (.un .not 22)])
 (.cond 23
 (.region [
  kO 24 (.mv 6),
  kO 25 (.mv 1),
  kO 26 (.bin .add 25 (ci 1)),
  kO 27 (.buildS (some 2) 1 1 [(.int .i64 0)] [(0, 26)]),
  kO 28 (.app (some 3) 1 8 24 27),
  kO 6 (.mv 28)])
 .skip))
 y1ye)
def y1dt : CCode :=
  (.seq (.region [
 kO 6 (.mv (.c .nils))])
 y1l5)
def y1xj : CCode :=
  (.seq (.region [
 kO 16 (.fa 3 2),
 kO 17 (.ld false 1 16),
 kO 18 (.mv 1),
 kO 19 (.ixs 9 17 18),
 kO 20 (.ld true 9 19),
 kO 5 (.new (some 1) [(.int .i64 0), (.int .i64 0), (.int .i64 0), (.int .i64 0), (.int .i64 0), (.int .i64 0), (.int .i64 0), (.str []), .nils]),
 kU (.st 9 5 20)])
 y1dt)
def y1v7 : CCode :=
  (.seq (.seq (.region [
 kO 7 (.mv 1),
 kO 8 (.bin .lss 7 (ci 0)),
 kO 9 (.mv 8),
 kG 10 (.mv 1) 9 false,
 kG 11 (.fa 3 2) 9 false,
 kG 12 (.ld false 1 11) 9 false,
 kG 13 (.len 1 12) 9 false,
 kG 14 (.bin .geq 10 13) 9 false,
 kO 15 (.pick 9 (.c (.bool true)) 14)])
 (.cond 15
 (.seq (.region [
  kO 4 (.mv (.c .nils))])
  .ret)
 .skip))
 y1xj)
def y1k1 : CCode :=
  (.seq (.region [
 kO 2 (.box (some 0) 0),
 kO 4 (.mv (.c .nils))])
 y1v7)
def y2qg : CFunc :=
  ⟨2, true, 6, y1k1, [.t 4]⟩
def y1oo : CCode :=
  (.seq (.region [
 kO 109 (.mv 10),
 kO 2 (.mv 109)])
 .ret)
def y1no : CCode :=
  (.region [
 kO 108 (.bin .add 97 (ci 1)),
 kO 97 (.mv 108)])
def y1ey : CCode :=
  (.seq (.block 7 (.seq (.region [
 kO 99 (.mv 97),
 kO 11 (.mv 99)])
 (.seq (.region [
 kO 100 (.mv 3),
 kO 101 (.mv 11),
 kO 102 (.ixs 1 100 101),
 kO 103 (.ld false 1 102)])
 (.cond 103
 (.region [
  kO 104 (.mv 10),
  kO 105 (.mv 11),
  kO 106 (.buildS (some 5) 1 1 [(.int .i64 0)] [(0, 105)]),
  kO 107 (.app (some 6) 1 8 104 106),
  kO 10 (.mv 107)])
 .skip))))
 y1no)
def y1p0 : CCode :=
  (.seq (.cond 98
 .skip
 (.exit 6))
 y1ey)
def y1v6 : CCode :=
  (.seq (.region [
 kO 98 (.bin .lss 97 96)])
 y1p0)
def yp2 : CCode :=
  (.loop [3, 10, 96, 97] y1v6)
def y1ij : CCode :=
  (.block 6 yp2)
def y1li : CCode :=
  (.seq (.region [
 kO 94 (.fa 3 1),
 kO 95 (.ld false 1 94),
 kO 96 (.len 1 95),
 kO 97 (.mv (ci 0))])
 y1ij)
def y1sb : CCode :=
  (.seq y1li
 y1oo)
def y11v : CCode :=
  (.seq (.region [
 kO 10 (.mv (.c .nils))])
 y1sb)
def y14u : CCode :=
  (.region [
 kO 93 (.bin .add 64 (ci 1)),
 kO 64 (.mv 93)])
def yz8 : CCode :=
  (.region [
 kO 92 (.bin .add 76 (ci 1)),
 kO 76 (.mv 92)])
def y01 : CCode :=
  (.seq (.block 5 (.seq (.region [
 kO 78 (.ixs 1 74 76),
 kO 79 (.ld false 1 78),
 kO 9 (.mv 79)])
 (.seq (.region [
 kO 80 (.mv 9),
 kO 81 (.bin .geq 80 (ci 0)),
 kO 82 (.mv 81),
 kG 83 (.mv 9) 82 true,
 kG 84 (.fa 3 1) 82 true,
 kG 85 (.ld false 1 84) 82 true,
 kG 86 (.len 1 85) 82 true,
 kG 87 (.bin .lss 83 86) 82 true,
 kO 88 (.pick 82 87 (.c (.bool false)))])
 (.cond 88
 (.region [
  kO 89 (.mv 3),
  kO 90 (.mv 9),
  kO 91 (.ixs 1 89 90),
  kU (.st 1 91 (.c (.bool true)))])
 .skip))))
 yz8)
def y11b : CCode :=
  (.seq (.cond 77
 .skip
 (.exit 4))
 y01)
def y12x : CCode :=
  (.seq (.region [
 kO 77 (.bin .lss 76 75)])
 y11b)
def yiw : CCode :=
  (.loop [1, 3, 62, 63, 64, 74, 75, 76] y12x)
def yzs : CCode :=
  (.block 4 yiw)
def y14x : CCode :=
  (.seq (.region [
 kO 68 (.fa 0 7),
 kO 69 (.ld false 1 68),
 kO 70 (.fa 1 7),
 kO 71 (.ld false 1 70),
 kO 72 (.fa 2 7),
 kO 73 (.ld false 1 72),
 kO 74 (.buildS (some 4) 1 3 [(.int .i64 0)] [(0, 69), (1, 71), (2, 73)]),
 kO 75 (.len 1 74),
 kO 76 (.mv (ci 0))])
 yzs)
def yzp : CCode :=
  (.seq (.region [
 kO 66 (.ixs 4 62 64),
 kO 67 (.ld true 4 66),
 kO 7 (.new (some 3) [(.int .i64 0), (.int .i64 0), (.int .i64 0), (.str [])]),
 kU (.st 4 7 67)])
 y14x)
def yzz : CCode :=
  (.block 3 yzp)
def y129 : CCode :=
  (.seq yzz
 y14u)
def y12l : CCode :=
  (.seq (.cond 65
 .skip
 (.exit 2))
 y129)
def y17q : CCode :=
  (.seq (.region [
 kO 65 (.bin .lss 64 63)])
 y12l)
def ykg : CCode :=
  (.loop [1, 3, 62, 63, 64] y17q)
def y196 : CCode :=
  (.block 2 ykg)
def y110 : CCode :=
  (.seq (.region [
 kO 61 (.fa 4 1),
 kO 62 (.ld false 1 61),
 kO 63 (.len 1 62),
 kO 64 (.mv (ci 0))])
 y196)
def y137 : CCode :=
  (.seq y110
 y11v)
def y0a : CCode :=
  (.region [
 kO 60 (.bin .add 26 (ci 1)),
 kO 26 (.mv 60)])
def yzd : CCode :=
  (.seq (.region [
 kO 50 (.ld true 9 5),
 kO 51 (.call none true 22 [50]),
 kO 52 (.mv 51),
 kG 53 (.ld true 9 5) 52 false,
 kG 54 (.call none true 24 [53]) 52 false,
 kO 55 (.pick 52 (.c (.bool true)) 54)])
 (.cond 55
 (.region [
  kO 56 (.mv 3),
  kO 57 (.mv 4),
  kO 58 (.bin .add 57 (ci 1)),
  kO 59 (.ixs 1 56 58),
  kU (.st 1 59 (.c (.bool true)))])
 .skip))
def y197 : CCode :=
  (.seq (.seq (.region [
 kO 31 (.ld true 9 5),
 kO 32 (.call none true 22 [31]),
 kO 33 (.mv 32),
 kG 34 (.fa 6 5) 33 true,
 kG 35 (.ld false 1 34) 33 true,
 kG 36 (.bin .geq 35 (ci 0)) 33 true,
 kO 37 (.pick 33 36 (.c (.bool false))),
 kO 38 (.mv 37),
 kG 39 (.fa 6 5) 38 true,
 kG 40 (.ld false 1 39) 38 true,
 kG 41 (.fa 3 1) 38 true,
 kG 42 (.ld false 1 41) 38 true,
 kG 43 (.len 1 42) 38 true,
 kG 44 (.bin .lss 40 43) 38 true,
 kO 45 (.pick 38 44 (.c (.bool false)))])
 (.cond 45
 (.region [
  kO 46 (.mv 3),
  kO 47 (.fa 6 5),
  kO 48 (.ld false 1 47),
  kO 49 (.ixs 1 46 48),
  kU (.st 1 49 (.c (.bool true)))])
 .skip))
 yzd)
def y121 : CCode :=
  (.seq (.region [
 kO 28 (.mv 26),
 kO 29 (.ixs 9 24 26),
 kO 30 (.ld true 9 29),
 kO 5 (.new (some 2) [(.int .i64 0), (.int .i64 0), (.int .i64 0), (.int .i64 0), (.int .i64 0), (.int .i64 0), (.int .i64 0), (.str []), .nils]),
 kO 4 (.mv 28),
 kU (.st 9 5 30)])
 y197)
def y14v : CCode :=
  (.block 1 y121)
def yxl : CCode :=
  (.seq y14v
 y0a)
def y149 : CCode :=
  (.seq (.cond 27
 .skip
 (.exit 0))
 yxl)
def y16g : CCode :=
  (.seq (.region [
 kO 27 (.bin .lss 26 25)])
 y149)
def yiz : CCode :=
  (.loop [1, 3, 24, 25, 26] y16g)
def y17g : CCode :=
  (.block 0 yiz)
def y15l : CCode :=
  (.seq (.region [
 kO 23 (.fa 3 1),
 kO 24 (.ld false 1 23),
 kO 25 (.len 1 24),
 kO 26 (.mv (ci 0))])
 y17g)
def y13z : CCode :=
  (.seq y15l
 y137)
def y14e : CCode :=
  (.seq (.seq (.region [
 kO 17 (.fa 3 1),
 kO 18 (.ld false 1 17),
 kO 19 (.len 1 18),
 kO 20 (.bin .gtr 19 (ci 0))])
 (.cond 20
 (.region [
  kO 21 (.mv 3),
  kO 22 (.ixs 1 21 (ci 0)),
  kU (.st 1 22 (.c (.bool true)))])
 .skip))
 y13z)
def yzq : CCode :=
  (.seq (.region [
 kO 12 (.fa 3 1),
 kO 13 (.ld false 1 12),
 kO 14 (.len 1 13),
 kO 15 (.bin .add 14 (ci 1)),
 kO 16 (.mkS (some 1) 1 1 [(.bool false)] 15 15),
 kO 3 (.mv 16)])
 y14e)
def y0v : CCode :=
  (.seq (.region [
 kO 1 (.box (some 0) 0),
 kO 2 (.mv (.c .nils))])
 yzq)
def y2no : CFunc :=
  ⟨1, true, 7, y0v, [.t 2]⟩
def y1ul : CCode :=
  (.seq (.region [
 kO 80 (.ld true 9 2),
 kU (.st 9 4 80)])
 .ret)
def y1xm : CCode :=
  (.seq (.region [
 kO 79 (.build [(.int .i64 0), (.int .i64 0), (.int .i64 0), (.int .i64 0), (.int .i64 0), (.int .i64 0), (.int .i64 0), (.str []), .nils] [(0, 1, (ci 33))]),
 kU (.st 9 4 79)])
 .ret)
def y1om : CCode :=
  (.seq (.seq (.region [
 kO 71 (.fa 5 2),
 kO 72 (.ld false 1 71),
 kO 73 (.mv 5),
 kO 74 (.mv 9),
 kO 75 (.call none true 129 [72, 73, 74])])
 (.cond 75
 (.seq (.region [
  kO 76 (.fa 6 2),
  kO 77 (.ld false 1 76),
  kO 78 (.build [(.int .i64 0), (.int .i64 0), (.int .i64 0), (.int .i64 0), (.int .i64 0), (.int .i64 0), (.int .i64 0), (.str []), .nils] [(0, 1, (ci 27)), (6, 1, 77)]),
  kU (.st 9 4 78)])
  .ret)
 .skip))
 y1xm)
def y1p2 : CCode :=
  (.cond 70
 y1om
 .skip)
def y1rm : CCode :=
  (.seq (.region [
 kO 67 (.mv 6),
 kO 68 (.mv 67),
 kG 69 (.mv 10) 68 true,
 kO 70 (.pick 68 69 (.c (.bool false)))])
 y1p2)
def y1dq : CCode :=
  (.seq (.region [
 kO 61 (.mv 1),
 kO 62 (.fa 3 2),
 kO 63 (.ld false 1 62),
 kO 64 (.mget false [0] (.int .i64 0) true 61 63),
 kO 60 (.mv 64),
 kO 65 (.ext 0 60),
 kO 66 (.ext 1 60),
 kO 9 (.mv 65),
 kO 10 (.mv 66)])
 y1rm)
def y1h8 : CCode :=
  (.cond 58
 y1dq
 .skip)
def y1fh : CCode :=
  (.seq (.region [
 kO 59 (.bin .eql 19 (ci 28)),
 kO 58 (.mv 59)])
 y1h8)
def y1eo : CCode :=
  (.cond 51
 (.seq (.region [
  kO 53 (.mv 6)])
  (.cond 53
  (.seq (.region [
   kO 54 (.fa 1 2),
   kO 55 (.ld false 1 54),
   kO 56 (.mv 5),
   kO 57 (.build [(.int .i64 0), (.int .i64 0), (.int .i64 0), (.int .i64 0), (.int .i64 0), (.int .i64 0), (.int .i64 0), (.str []), .nils] [(0, 1, (ci 1)), (1, 1, 55), (5, 1, 56)]),
   kU (.st 9 4 57)])
   .ret)
  .skip))
 y1fh)
def y16n : CCode :=
  (.seq (.region [
 kO 52 (.bin .eql 19 (ci 4)),
 kO 51 (.mv 52)])
 y1eo)
def yyp : CCode :=
  (.cond 30
 (.seq (.region [
  kO 33 (.mv 1),
  kO 34 (.fa 3 2),
  kO 35 (.ld false 1 34),
  kO 36 (.mget false [0] (.int .i64 0) true 33 35),
  kO 32 (.mv 36),
  kO 37 (.ext 0 32),
  kO 38 (.ext 1 32),
  kO 7 (.mv 37),
  kO 8 (.mv 38)])
  (.seq (.region [
  kO 39 (.mv 6),
  kO 40 (.mv 39),
  kG 41 (.mv 8) 40 true,
  kO 42 (.pick 40 41 (.c (.bool false)))])
  (.cond 42
  (.seq (.draw [
   kO 43 (.fa 1 2),
   kO 44 (.ld false 1 43),
   kO 45 (.fa 5 2),
   kO 46 (.ld false 1 45),
   kO 47 (.mv 5),
   kO 48 (.mv 7),
   kO 49 (.call none true 128 [46, 47, 48]),
   kO 50 (.build [(.int .i64 0), (.int .i64 0), (.int .i64 0), (.int .i64 0), (.int .i64 0), (.int .i64 0), (.int .i64 0), (.str []), .nils] [(0, 1, (ci 1)), (1, 1, 44), (5, 1, 49)]),
   kU (.st 9 4 50)] [(1, 6)])
   .ret)
  .skip)))
 y16n)
def y172 : CCode :=
  (.seq (.region [
 kO 31 (.bin .eql 19 (ci 5)),
 kO 30 (.mv 31)])
 yyp)
def y0d : CCode :=
  (.cond 20
 (.seq (.region [
  kO 22 (.mv 6)])
  (.cond 22
  (.seq (.draw [
   kO 23 (.fa 1 2),
   kO 24 (.ld false 1 23),
   kO 25 (.fa 5 2),
   kO 26 (.ld false 1 25),
   kO 27 (.mv 5),
   kO 28 (.call none true 127 [26, 27]),
   kO 29 (.build [(.int .i64 0), (.int .i64 0), (.int .i64 0), (.int .i64 0), (.int .i64 0), (.int .i64 0), (.int .i64 0), (.str []), .nils] [(0, 1, (ci 1)), (1, 1, 24), (5, 1, 28)]),
   kU (.st 9 4 29)] [(1, 5)])
   .ret)
  .skip))
 y172)
def y15w : CCode :=
  (.seq (.region [
 kO 21 (.bin .eql 19 (ci 6)),
 kO 20 (.mv 21)])
 y0d)
def y14k : CCode :=
  (.block 0 y15w)
def y0u : CCode :=
  (.seq (.region [
 kO 18 (.fa 0 2),
 kO 19 (.ld false 1 18)])
 y14k)
def y15f : CCode :=
  (.seq y0u
 y1ul)
def yxj : CCode :=
  (.seq (.region [
 kO 12 (.mv 1),
 kO 13 (.fa 2 2),
 kO 14 (.ld false 1 13),
 kO 15 (.mget false [0] (.int .i64 0) true 12 14),
 kO 11 (.mv 15),
 kO 16 (.ext 0 11),
 kO 17 (.ext 1 11),
 kO 5 (.mv 16),
 kO 6 (.mv 17)])
 y15f)
def y171 : CCode :=
  (.seq (.region [
 kO 2 (.box (some 0) 0),
 kO 4 (.new (some 1) [(.int .i64 0), (.int .i64 0), (.int .i64 0), (.int .i64 0), (.int .i64 0), (.int .i64 0), (.int .i64 0), (.str []), .nils])])
 yxj)
def y2lq : CFunc :=
  ⟨2, false, 2, y171, [.cell 4 true 9]⟩
def y19o : CCode :=
  (.seq (.region [
 kO 2 (.mv (.c (.bool false)))])
 (.seq (.region [
 kO 3 (.mv 0),
 kO 4 (.buildS (some 0) 1 3 [(.int .i64 0)] [(0, (ci 27)), (1, (ci 30)), (2, (ci 31))]),
 kO 5 (.call none true 42 [3, 4]),
 kO 2 (.mv 5)])
 .ret))
def y2a6 : CFunc :=
  ⟨1, true, 1, y19o, [.t 2]⟩
def y19q : CCode :=
  (.seq (.region [
 kO 14 (.fa 0 2),
 kO 15 (.ld false 1 14),
 kO 16 (.mv 1),
 kO 17 (.ixs 1 15 16),
 kO 18 (.ld false 1 17),
 kO 4 (.mv 18)])
 .ret)
def y17j : CCode :=
  (.seq (.seq (.region [
 kO 5 (.mv 1),
 kO 6 (.bin .lss 5 (ci 0)),
 kO 7 (.mv 6),
 kG 8 (.mv 1) 7 false,
 kG 9 (.fa 0 2) 7 false,
 kG 10 (.ld false 1 9) 7 false,
 kG 11 (.len 1 10) 7 false,
 kG 12 (.bin .geq 8 11) 7 false,
 kO 13 (.pick 7 (.c (.bool true)) 12)])
 (.cond 13
 (.seq (.region [
  kO 4 (.mv (ci 0))])
  .ret)
 .skip))
 y19q)
def y0t : CCode :=
  (.seq (.region [
 kO 2 (.box (some 0) 0),
 kO 4 (.mv (ci 0))])
 y17j)
def y294 : CFunc :=
  ⟨2, true, 1, y0t, [.t 4]⟩
def y16l : CCode :=
  (.seq (.region [
 kO 4 (.mv (.c (.bool false)))])
 .ret)
def y14f : CCode :=
  (.region [
 kO 10 (.mv 5),
 kO 11 (.bin .add 10 (ci 1)),
 kO 5 (.mv 11)])
def y165 : CCode :=
  (.seq (.block 1 (.seq (.region [
 kO 12 (.mv 1),
 kO 13 (.mv 5),
 kO 14 (.ixs 1 12 13),
 kO 15 (.ld false 1 14),
 kO 16 (.mv 0),
 kO 17 (.bin .eql 15 16)])
 (.cond 17
 (.seq (.region [
  kO 4 (.mv (.c (.bool true)))])
  .ret)
 .skip)))
 y14f)
def y17z : CCode :=
  (.seq (.seq (.region [
 kO 6 (.mv 5),
 kO 7 (.mv 1),
 kO 8 (.len 1 7),
 kO 9 (.bin .lss 6 8)])
 (.cond 9
 .skip
 (.exit 0)))
 y165)
def ykm : CCode :=
  (.loop [0, 1, 5] y17z)
def y132 : CCode :=
  (.block 0 ykm)
def yxt : CCode :=
  (.seq (.region [
 kO 5 (.mv (ci 0))])
 y132)
def yxy : CCode :=
  (.seq yxt
 y16l)
def y00 : CCode :=
  (.seq (.region [
 kO 4 (.mv (.c (.bool false)))])
 yxy)
def y29y : CFunc :=
  ⟨2, true, 0, y00, [.t 4]⟩
def y135 : CCode :=
  (.seq (.region [
 kO 4 (.mv (.c (.bool true)))])
 .ret)
def yxk : CCode :=
  (.seq (.draw [
 kO 215 (.fa 2 3),
 kO 216 (.ld false 1 215),
 kO 217 (.bin .neq 216 (ci (-1))),
 kO 218 (.mv 217),
 kG 219 (.ld true 5 2) 218 true,
 kG 220 (.fa 2 3) 218 true,
 kG 221 (.ld false 1 220) 218 true,
 kG 222 (.call none true 48 [219, 221]) 218 true,
 kG 223 (.fa 2 2) 218 true,
 kG 224 (.ld false 1 223) 218 true,
 kG 225 (.bin .eql 222 224) 218 true,
 kO 226 (.pick 218 225 (.c (.bool false))),
 kO 4 (.mv 226)] [(7, 9)])
 .ret)
def y16v : CCode :=
  (.seq (.seq (.region [
 kO 209 (.fa 2 2),
 kO 210 (.ld false 1 209),
 kO 211 (.bin .eql 210 (ci 0))])
 (.cond 211
 (.seq (.region [
  kO 212 (.fa 2 3),
  kO 213 (.ld false 1 212),
  kO 214 (.bin .eql 213 (ci (-1))),
  kO 4 (.mv 214)])
  .ret)
 .skip))
 yxk)
def y17h : CCode :=
  (.cond 207
 y16v
 .skip)
def y13s : CCode :=
  (.seq (.region [
 kO 208 (.bin .eql 55 (ci 30)),
 kO 207 (.mv 208)])
 y17h)
def y0e : CCode :=
  (.cond 179
 (.seq (.region [
  kO 181 (.fa 5 3),
  kO 182 (.ld false 1 181),
  kO 183 (.bin .eql 182 (ci 0)),
  kO 184 (.mv 183),
  kG 185 (.fa 5 3) 184 false,
  kG 186 (.ld false 1 185) 184 false,
  kG 187 (.bin .eql 186 (ci 1)) 184 false,
  kO 188 (.pick 184 (.c (.bool true)) 187),
  kO 189 (.mv 188),
  kG 190 (.fa 3 3) 189 true,
  kG 191 (.ld false 1 190) 189 true,
  kG 192 (.bin .eql 191 (ci (-1))) 189 true,
  kG 193 (.mv 192) 189 true,
  kG 194 (.ld true 5 2) 193 false,
  kG 195 (.fa 3 3) 193 false,
  kG 196 (.ld false 1 195) 193 false,
  kG 197 (.call none true 48 [194, 196]) 193 false,
  kG 198 (.bin .eql 197 (ci 3)) 193 false,
  kG 199 (.pick 193 (.c (.bool true)) 198) 189 true,
  kO 200 (.pick 189 199 (.c (.bool false))),
  kO 201 (.mv 200),
  kG 202 (.ld true 5 2) 201 true,
  kG 203 (.fa 6 3) 201 true,
  kG 204 (.ld false 1 203) 201 true,
  kG 205 (.call none true 49 [202, 204]) 201 true,
  kO 206 (.pick 201 205 (.c (.bool false))),
  kO 4 (.mv 206)])
  .ret)
 y13s)
def y04 : CCode :=
  (.seq (.region [
 kO 180 (.bin .eql 55 (ci 29)),
 kO 179 (.mv 180)])
 y0e)
def yxw : CCode :=
  (.cond 173
 (.seq (.region [
  kO 175 (.ld true 5 2),
  kO 176 (.fa 6 3),
  kO 177 (.ld false 1 176),
  kO 178 (.call none true 49 [175, 177]),
  kO 4 (.mv 178)])
  .ret)
 y04)
def y14z : CCode :=
  (.seq (.region [
 kO 174 (.bin .eql 55 (ci 27)),
 kO 173 (.mv 174)])
 yxw)
def yry : CCode :=
  (.cond 157
 (.seq (.region [
  kO 159 (.fa 5 3),
  kO 160 (.ld false 1 159),
  kO 161 (.bin .geq 160 (ci 0)),
  kO 162 (.mv 161),
  kG 163 (.fa 5 3) 162 true,
  kG 164 (.ld false 1 163) 162 true,
  kG 165 (.bin .leq 164 (ci 5)) 162 true,
  kO 166 (.pick 162 165 (.c (.bool false))),
  kO 167 (.mv 166),
  kG 168 (.ld true 5 2) 167 true,
  kG 169 (.fa 6 3) 167 true,
  kG 170 (.ld false 1 169) 167 true,
  kG 171 (.call none true 49 [168, 170]) 167 true,
  kO 172 (.pick 167 171 (.c (.bool false))),
  kO 4 (.mv 172)])
  .ret)
 y14z)
def yud : CCode :=
  (.seq (.region [
 kO 158 (.bin .eql 55 (ci 28)),
 kO 157 (.mv 158)])
 yry)
def ysa : CCode :=
  (.cond 149
 (.seq (.region [
  kO 154 (.ld true 5 2),
  kO 155 (.ld true 9 3),
  kO 156 (.call none true 68 [154, 155]),
  kO 4 (.mv 156)])
  .ret)
 yud)
def yqr : CCode :=
  (.seq (.seq (.region [
 kO 150 (.bin .eql 55 (ci 23)),
 kO 149 (.mv 150)])
 (.cond 149
 .skip
 (.seq (.region [
  kO 151 (.bin .eql 55 (ci 24)),
  kO 149 (.mv 151)])
  (.cond 149
  .skip
  (.seq (.region [
   kO 152 (.bin .eql 55 (ci 25)),
   kO 149 (.mv 152)])
   (.cond 149
   .skip
   (.region [
    kO 153 (.bin .eql 55 (ci 26)),
    kO 149 (.mv 153)])))))))
 ysa)
def yrk : CCode :=
  (.cond 143
 (.seq (.region [
  kO 146 (.fa 5 3),
  kO 147 (.ld false 1 146),
  kO 148 (.bin .geq 147 (ci 0)),
  kO 4 (.mv 148)])
  .ret)
 yqr)
def yto : CCode :=
  (.seq (.seq (.region [
 kO 144 (.bin .eql 55 (ci 16)),
 kO 143 (.mv 144)])
 (.cond 143
 .skip
 (.region [
  kO 145 (.bin .eql 55 (ci 17)),
  kO 143 (.mv 145)])))
 yrk)
def yug : CCode :=
  (.cond 136
 (.seq (.region [
  kO 140 (.fa 7 3),
  kO 141 (.ld false 1 140),
  kO 142 (.call none true 67 [141]),
  kO 4 (.mv 142)])
  .ret)
 yto)
def yqa : CCode :=
  (.seq (.seq (.region [
 kO 137 (.bin .eql 55 (ci 12)),
 kO 136 (.mv 137)])
 (.cond 136
 .skip
 (.seq (.region [
  kO 138 (.bin .eql 55 (ci 21)),
  kO 136 (.mv 138)])
  (.cond 136
  .skip
  (.region [
   kO 139 (.bin .eql 55 (ci 22)),
   kO 136 (.mv 139)])))))
 yug)
def yr1 : CCode :=
  (.cond 112
 (.seq (.region [
  kO 114 (.mv 8),
  kO 115 (.bin .gtr 114 (ci 0)),
  kO 116 (.mv 115),
  kG 117 (.mv 9) 116 true,
  kG 118 (.bin .eql 117 (ci 0)) 116 true,
  kO 119 (.pick 116 118 (.c (.bool false))),
  kO 120 (.mv 119),
  kG 121 (.ld true 5 2) 120 true,
  kG 122 (.fa 1 3) 120 true,
  kG 123 (.ld false 1 122) 120 true,
  kG 124 (.call none true 48 [121, 123]) 120 true,
  kG 125 (.mv 10) 120 true,
  kG 126 (.bin .eql 124 125) 120 true,
  kO 127 (.pick 120 126 (.c (.bool false))),
  kO 128 (.mv 127),
  kG 129 (.ld true 5 2) 128 true,
  kG 130 (.fa 2 3) 128 true,
  kG 131 (.ld false 1 130) 128 true,
  kG 132 (.call none true 48 [129, 131]) 128 true,
  kG 133 (.mv 8) 128 true,
  kG 134 (.bin .eql 132 133) 128 true,
  kO 135 (.pick 128 134 (.c (.bool false))),
  kO 4 (.mv 135)])
  .ret)
 yqa)
def ytq : CCode :=
  (.seq (.region [
 kO 113 (.bin .eql 55 (ci 6)),
 kO 112 (.mv 113)])
 yr1)
def yq9 : CCode :=
  (.cond 84
 (.seq (.region [
  kO 86 (.mv 9),
  kO 87 (.bin .gtr 86 (ci 0)),
  kO 88 (.mv 87),
  kG 89 (.ld true 5 2) 88 true,
  kG 90 (.fa 1 3) 88 true,
  kG 91 (.ld false 1 90) 88 true,
  kG 92 (.call none true 48 [89, 91]) 88 true,
  kG 93 (.mv 10) 88 true,
  kG 94 (.bin .eql 92 93) 88 true,
  kO 95 (.pick 88 94 (.c (.bool false))),
  kO 96 (.mv 95),
  kG 97 (.ld true 5 2) 96 true,
  kG 98 (.fa 2 3) 96 true,
  kG 99 (.ld false 1 98) 96 true,
  kG 100 (.call none true 48 [97, 99]) 96 true,
  kG 101 (.mv 8) 96 true,
  kG 102 (.bin .eql 100 101) 96 true,
  kO 103 (.pick 96 102 (.c (.bool false))),
  kO 104 (.mv 103),
  kG 105 (.ld true 5 2) 104 true,
  kG 106 (.fa 3 3) 104 true,
  kG 107 (.ld false 1 106) 104 true,
  kG 108 (.call none true 48 [105, 107]) 104 true,
  kG 109 (.mv 9) 104 true,
  kG 110 (.bin .eql 108 109) 104 true,
  kO 111 (.pick 104 110 (.c (.bool false))),
  kO 4 (.mv 111)])
  .ret)
 ytq)
def yqx : CCode :=
  (.seq (.region [
 kO 85 (.bin .eql 55 (ci 5)),
 kO 84 (.mv 85)])
 yq9)
def yte : CCode :=
  (.cond 73
 (.seq (.draw [
  kO 75 (.ld true 5 2),
  kO 76 (.fa 1 3),
  kO 77 (.ld false 1 76),
  kO 78 (.call none true 48 [75, 77]),
  kO 79 (.ld true 5 2),
  kO 80 (.fa 2 3),
  kO 81 (.ld false 1 80),
  kO 82 (.call none true 48 [79, 81]),
  kO 83 (.bin .eql 78 82),
  kO 4 (.mv 83)] [(3, 4), (3, 6)])
  .ret)
 yqx)
def yse : CCode :=
  (.seq (.region [
 kO 74 (.bin .eql 55 (ci 4)),
 kO 73 (.mv 74)])
 yte)
def yts : CCode :=
  (.cond 56
 (.seq (.region [
  kO 58 (.ld true 5 2),
  kO 59 (.fa 1 3),
  kO 60 (.ld false 1 59),
  kO 61 (.call none true 48 [58, 60]),
  kO 62 (.bin .eql 61 (ci 2)),
  kO 63 (.mv 62),
  kG 64 (.fa 5 3) 63 false,
  kG 65 (.ld false 1 64) 63 false,
  kG 66 (.bin .geq 65 (ci (-2147483648))) 63 false,
  kG 67 (.mv 66) 63 false,
  kG 68 (.fa 5 3) 67 true,
  kG 69 (.ld false 1 68) 67 true,
  kG 70 (.bin .lss 69 (ci 2147483648)) 67 true,
  kG 71 (.pick 67 70 (.c (.bool false))) 63 false,
  kO 72 (.pick 63 (.c (.bool true)) 71),
  kO 4 (.mv 72)])
  .ret)
 yse)
def yun : CCode :=
  (.seq (.region [
 kO 57 (.bin .eql 55 (ci 1)),
 kO 56 (.mv 57)])
 yts)
def ysr : CCode :=
  (.block 2 yun)
def yty : CCode :=
  (.seq (.region [
 kO 54 (.fa 0 3),
 kO 55 (.ld false 1 54)])
 ysr)
def yur : CCode :=
  (.seq yty
 y135)
def ytf : CCode :=
  (.seq (.seq (.region [
 kO 39 (.fa 5 3),
 kO 40 (.ld false 1 39),
 kO 41 (.bin .geq 40 (ci 0)),
 kO 42 (.mv 41),
 kG 43 (.fa 5 3) 42 true,
 kG 44 (.ld false 1 43) 42 true,
 kG 45 (.bin .lss 44 (ci 1000)) 42 true,
 kO 46 (.pick 42 45 (.c (.bool false)))])
 (.cond 46
 (.region [
  kO 48 (.fa 5 3),
  kO 49 (.ld false 1 48),
  kO 50 (.call none true 66 [49]),
  kO 47 (.mv 50),
  kO 51 (.ext 0 47),
  kO 52 (.ext 1 47),
  kO 53 (.ext 2 47),
  kO 8 (.mv 51),
  kO 9 (.mv 52),
  kO 10 (.mv 53)])
 .skip))
 yur)
def ysn : CCode :=
  (.seq (.region [
 kO 8 (.mv (ci 0)),
 kO 9 (.mv (ci 0)),
 kO 10 (.mv (ci 0))])
 ytf)
def yru : CCode :=
  (.region [
 kO 27 (.mv 7),
 kO 28 (.bin .add 27 (ci 1)),
 kO 7 (.mv 28)])
def yul : CCode :=
  (.seq (.block 1 (.seq (.draw [
 kO 29 (.ld true 5 2),
 kO 30 (.mv 6),
 kO 31 (.mv 7),
 kO 32 (.ixs 1 30 31),
 kO 33 (.ld false 1 32),
 kO 34 (.mv 5),
 kO 35 (.mv 7),
 kO 36 (.ixstr 34 35),
 kO 37 (.call none true 65 [29, 33, 36]),
 kO 38 (.un .not 37)] [])
 (.cond 38
 (.seq (.region [
  kO 4 (.mv (.c (.bool false)))])
  .ret)
 .skip)))
 yru)
def yti : CCode :=
  (.seq (.seq (.region [
 kO 25 (.mv 7),
 kO 26 (.bin .lss 25 (ci 4))])
 (.cond 26
 .skip
 (.exit 0)))
 yul)
def yfz : CCode :=
  (.loop [2, 3, 5, 6, 7] yti)
def yre : CCode :=
  (.block 0 yfz)
def yro : CCode :=
  (.seq (.region [
 kO 7 (.mv (ci 0))])
 yre)
def yub : CCode :=
  (.seq yro
 ysn)
def yt1 : CCode :=
  (.seq (.region [
 kO 16 (.fa 1 3),
 kO 17 (.ld false 1 16),
 kO 18 (.fa 2 3),
 kO 19 (.ld false 1 18),
 kO 20 (.fa 3 3),
 kO 21 (.ld false 1 20),
 kO 22 (.fa 4 3),
 kO 23 (.ld false 1 22),
 kO 24 (.buildS (some 2) 1 4 [(.int .i64 0)] [(0, 17), (1, 19), (2, 21), (3, 23)]),
 kO 6 (.mv 24)])
 yub)
def yql : CCode :=
  (.seq (.seq (.region [
 kO 14 (.mv 5),
 kO 15 (.bin .eql 14 (.c (.str [])))])
 (.cond 15
 (.seq (.region [
  kO 4 (.mv (.c (.bool false)))])
  .ret)
 .skip))
 yt1)
def yrm : CCode :=
  (.seq (.region [
 kO 11 (.fa 0 3),
 kO 12 (.ld false 1 11),
 kO 13 (.call none true 38 [12]),
 kO 5 (.mv 13)])
 yql)
def yuf : CCode :=
  (.seq (.region [
 kO 2 (.box (some 0) 0),
 kO 3 (.box (some 1) 1),
 kO 4 (.mv (.c (.bool false)))])
 yrm)
def y29i : CFunc :=
  ⟨2, true, 3, yuf, [.t 4]⟩
def y18l : CCode :=
  (.seq (.region [
 kO 2 (.mv (.c (.bool false)))])
 (.seq (.region [
 kO 3 (.mv 0),
 kO 4 (.buildS (some 0) 1 3 [(.int .i64 0)] [(0, (ci 27)), (1, (ci 28)), (2, (ci 29))]),
 kO 5 (.call none true 42 [3, 4]),
 kO 2 (.mv 5)])
 .ret))
def y29t : CFunc :=
  ⟨1, true, 1, y18l, [.t 2]⟩
def y14r : CCode :=
  (.seq (.region [
 kO 2 (.box (some 0) 0),
 kO 4 (.mv (.c (.bool false)))])
 (.seq (.region [
 kO 5 (.mv 1),
 kO 6 (.bin .geq 5 (ci 0)),
 kO 7 (.mv 6),
 kG 8 (.mv 1) 7 true,
 kG 9 (.fa 3 2) 7 true,
 kG 10 (.ld false 1 9) 7 true,
 kG 11 (.len 1 10) 7 true,
 kG 12 (.bin .lss 8 11) 7 true,
 kO 13 (.pick 7 12 (.c (.bool false))),
 kO 4 (.mv 13)])
 .ret))
def y28p : CFunc :=
  ⟨2, true, 1, y14r, [.t 4]⟩
def y11p : CCode :=
  (.seq (.region [
 kO 5 (.buildS (some 0) 1 0 [(.bool false)] []),
 kO 6 (.mv 0),
 kO 7 (.app (some 1) 1 1 5 6),
 kO 2 (.mv 7)])
 .ret)
def y11d : CCode :=
  (.seq (.seq (.region [
 kO 3 (.mv 0),
 kO 4 (.eqn 1 false 3 (.c .nils))])
 (.cond 4
 (.seq (.region [
  kO 2 (.mv (.c .nils))])
  .ret)
 .skip))
 y11p)
def y134 : CCode :=
  (.seq (.region [
 kO 2 (.mv (.c .nils))])
 y11d)
def y2af : CFunc :=
  ⟨1, true, 2, y134, [.t 2]⟩
def y1m1 : CCode :=
  (.seq (.region [
 kO 56 (.mv 3),
 kO 8 (.mv 56)])
 .ret)
def y1gp : CCode :=
  (.seq (.seq (.region [
 kO 51 (.mv 9)])
 (.cond 51
 (.region [
  kO 52 (.mv 3),
  kO 53 (.mv 1),
  kO 54 (.buildS (some 3) 1 1 [(.int .i64 0)] [(0, 53)]),
  kO 55 (.app (some 4) 1 8 52 54),
  kO 3 (.mv 55)])
 .skip))
 y1m1)
def y1vz : CCode :=
  (.region [
 kO 50 (.bin .add 31 (ci 1)),
 kO 31 (.mv 50)])
def y1fu : CCode :=
  (.seq (.block 1 (.seq (.region [
 kO 33 (.mv 31),
 kO 34 (.ixs 1 29 31),
 kO 35 (.ld false 1 34),
 kO 10 (.mv 33),
 kO 11 (.mv 35)])
 (.seq (.region [
 kO 36 (.mv 11),
 kO 37 (.mv 36),
 kG 38 (.mv 2) 37 true,
 kG 39 (.mv 10) 37 true,
 kG 40 (.ixs 1 38 39) 37 true,
 kG 41 (.ld false 1 40) 37 true,
 kG 42 (.un .not 41) 37 true,
 kO 43 (.pick 37 42 (.c (.bool false)))])
 (.cond 43
 (.seq (.region [
  kO 44 (.mv 0),
  kO 45 (.mv 1),
  kO 46 (.ixs 1 44 45),
  kO 47 (.ld false 1 46),
  kO 48 (.mv 10),
  kO 49 (.ixs 1 47 48),
  kU (.st 1 49 (.c (.bool false)))])
  (.region [
  kO 9 (.mv (.c (.bool true)))]))
 .skip))))
 y1vz)
def y1tb : CCode :=
  (.seq (.cond 32
 .skip
 (.exit 0))
 y1fu)
def y1kp : CCode :=
  (.seq (.region [
 kO 32 (.bin .lss 31 30)])
 y1tb)
def yp7 : CCode :=
  (.loop [0, 1, 2, 3, 9, 29, 30, 31] y1kp)
def y1tu : CCode :=
  (.block 0 yp7)
def y1la : CCode :=
  (.seq (.region [
 kO 26 (.mv 0),
 kO 27 (.mv 1),
 kO 28 (.ixs 1 26 27),
 kO 29 (.ld false 1 28),
 kO 30 (.len 1 29),
 kO 31 (.mv (ci 0))])
 y1tu)
def y14y : CCode :=
  (.seq y1la
 y1gp)
def y14h : CCode :=
  (.seq (.region [
 kO 9 (.mv (.c (.bool false)))])
 y14y)
def y161 : CCode :=
  (.seq (.seq (.region [
 kO 12 (.mv 0),
 kO 13 (.mv 1),
 kO 14 (.ixs 1 12 13),
 kO 15 (.ld false 1 14),
 kO 16 (.eqn 1 false 15 (.c .nils))])
 (.cond 16
 (.seq (.region [
  kO 17 (.mv 0),
  kO 18 (.mv 1),
  kO 19 (.mv 2),
  kO 20 (.call (some 0) false 78 [19]),
  kO 21 (.ixs 1 17 18),
  kU (.st 1 21 20)])
  (.seq (.region [
  kO 22 (.mv 3),
  kO 23 (.mv 1),
  kO 24 (.buildS (some 1) 1 1 [(.int .i64 0)] [(0, 23)]),
  kO 25 (.app (some 2) 1 8 22 24),
  kO 8 (.mv 25)])
  .ret))
 .skip))
 y14h)
def y13t : CCode :=
  (.seq (.region [
 kO 8 (.mv (.c .nils))])
 y161)
def y2kt : CFunc :=
  ⟨4, false, 5, y13t, [.t 8]⟩
def y1r5 : CCode :=
  (.seq (.region [
 kO 1 (.box (some 0) 0),
 kO 2 (.mv (.c (.bool false)))])
 (.seq (.region [
 kO 3 (.fa 0 1),
 kO 4 (.ld false 1 3),
 kO 5 (.bin .geq 4 (ci 23)),
 kO 6 (.mv 5),
 kG 7 (.fa 0 1) 6 true,
 kG 8 (.ld false 1 7) 6 true,
 kG 9 (.bin .leq 8 (ci 26)) 6 true,
 kO 10 (.pick 6 9 (.c (.bool false))),
 kO 2 (.mv 10)])
 .ret))
def y2o9 : CFunc :=
  ⟨1, true, 1, y1r5, [.t 2]⟩
def y147 : CCode :=
  (.seq (.region [
 kO 4 (.mv (ci (-1)))])
 .ret)
def y112 : CCode :=
  (.region [
 kO 18 (.bin .add 8 (ci 1)),
 kO 8 (.mv 18)])
def yz6 : CCode :=
  (.seq (.block 1 (.seq (.region [
 kO 10 (.mv 8),
 kO 5 (.mv 10)])
 (.seq (.region [
 kO 11 (.mv 1),
 kO 12 (.mv 0),
 kO 13 (.mv 5),
 kO 14 (.ixs 1 12 13),
 kO 15 (.ld false 1 14),
 kO 16 (.bin .eql 11 15)])
 (.cond 16
 (.seq (.region [
  kO 17 (.mv 5),
  kO 4 (.mv 17)])
  .ret)
 .skip))))
 y112)
def y18g : CCode :=
  (.seq (.cond 9
 .skip
 (.exit 0))
 yz6)
def y16o : CCode :=
  (.seq (.region [
 kO 9 (.bin .lss 8 7)])
 y18g)
def yk8 : CCode :=
  (.loop [0, 1, 7, 8] y16o)
def y18j : CCode :=
  (.block 0 yk8)
def y177 : CCode :=
  (.seq (.region [
 kO 6 (.mv 0),
 kO 7 (.len 1 6),
 kO 8 (.mv (ci 0))])
 y18j)
def y140 : CCode :=
  (.seq y177
 y147)
def yuw : CCode :=
  (.seq (.region [
 kO 4 (.mv (ci 0))])
 y140)
def y28s : CFunc :=
  ⟨2, true, 0, yuw, [.t 4]⟩
def y1p3 : CCode :=
  (.seq (.region [
 kO 138 (.ld true 9 1),
 kO 139 (.call none true 51 [138]),
 kO 140 (.ext 0 139),
 kO 141 (.ext 1 139),
 kU (.st 4 2 140),
 kO 3 (.mv 141)])
 .ret)
def y1kv : CCode :=
  (.cond 134
 (.seq (.region [
  kO 137 (.build [(.int .i64 0), (.int .i64 0), (.int .i64 0), (.int .i64 0)] [(0, 1, (ci (-1))), (1, 1, (ci (-1))), (2, 1, (ci (-1))), (3, 1, (ci (-1)))]),
  kU (.st 4 2 137),
  kO 3 (.mv (.c (.bool true)))])
  .ret)
 .skip)
def y1tn : CCode :=
  (.seq (.seq (.region [
 kO 135 (.bin .eql 11 (ci 27)),
 kO 134 (.mv 135)])
 (.cond 134
 .skip
 (.region [
  kO 136 (.bin .eql 11 (ci 33)),
  kO 134 (.mv 136)])))
 y1kv)
def y1xt : CCode :=
  (.cond 123
 (.seq (.draw [
  kO 125 (.build [(.int .i64 0), (.int .i64 0), (.int .i64 0), (.int .i64 0)] [(0, 1, (ci (-1))), (1, 1, (ci 1)), (2, 1, (ci 1)), (3, 1, (ci (-1)))]),
  kO 126 (.fa 5 1),
  kO 127 (.ld false 1 126),
  kO 128 (.bin .geq 127 (ci 0)),
  kO 129 (.mv 128),
  kG 130 (.fa 5 1) 129 true,
  kG 131 (.ld false 1 130) 129 true,
  kG 132 (.bin .leq 131 (ci 5)) 129 true,
  kO 133 (.pick 129 132 (.c (.bool false))),
  kU (.st 4 2 125),
  kO 3 (.mv 133)] [(6, 9)])
  .ret)
 y1tn)
def y1wy : CCode :=
  (.seq (.region [
 kO 124 (.bin .eql 11 (ci 28)),
 kO 123 (.mv 124)])
 y1xt)
def y1il : CCode :=
  (.cond 117
 (.seq (.region [
  kO 119 (.build [(.int .i64 0), (.int .i64 0), (.int .i64 0), (.int .i64 0)] [(0, 1, (ci 3)), (1, 1, (ci 1)), (2, 1, (ci (-1))), (3, 1, (ci (-1)))]),
  kO 120 (.fa 7 1),
  kO 121 (.ld false 1 120),
  kO 122 (.call none true 37 [121]),
  kU (.st 4 2 119),
  kO 3 (.mv 122)])
  .ret)
 y1wy)
def y1k0 : CCode :=
  (.seq (.region [
 kO 118 (.bin .eql 11 (ci 21)),
 kO 117 (.mv 118)])
 y1il)
def y1q5 : CCode :=
  (.cond 114
 (.seq (.region [
  kO 116 (.build [(.int .i64 0), (.int .i64 0), (.int .i64 0), (.int .i64 0)] [(0, 1, (ci (-1))), (1, 1, (ci 0)), (2, 1, (ci (-1))), (3, 1, (ci (-1)))]),
  kU (.st 4 2 116),
  kO 3 (.mv (.c (.bool true)))])
  .ret)
 y1k0)
def y1se : CCode :=
  (.seq (.region [
 kO 115 (.bin .eql 11 (ci 19)),
 kO 114 (.mv 115)])
 y1q5)
def y138 : CCode :=
  (.cond 108
 (.seq (.draw [
  kO 110 (.build [(.int .i64 0), (.int .i64 0), (.int .i64 0), (.int .i64 0)] [(0, 1, (ci (-1))), (1, 1, (ci 3)), (2, 1, (ci 0)), (3, 1, (ci (-1)))]),
  kO 111 (.fa 5 1),
  kO 112 (.ld false 1 111),
  kO 113 (.bin .geq 112 (ci 0)),
  kU (.st 4 2 110),
  kO 3 (.mv 113)] [(2, 4)])
  .ret)
 y1se)
def y189 : CCode :=
  (.seq (.region [
 kO 109 (.bin .eql 11 (ci 17)),
 kO 108 (.mv 109)])
 y138)
def y17x : CCode :=
  (.cond 102
 (.seq (.draw [
  kO 104 (.build [(.int .i64 0), (.int .i64 0), (.int .i64 0), (.int .i64 0)] [(0, 1, (ci 0)), (1, 1, (ci 3)), (2, 1, (ci (-1))), (3, 1, (ci (-1)))]),
  kO 105 (.fa 5 1),
  kO 106 (.ld false 1 105),
  kO 107 (.bin .geq 106 (ci 0)),
  kU (.st 4 2 104),
  kO 3 (.mv 107)] [(2, 4)])
  .ret)
 y189)
def y119 : CCode :=
  (.seq (.region [
 kO 103 (.bin .eql 11 (ci 16)),
 kO 102 (.mv 103)])
 y17x)
def yxn : CCode :=
  (.cond 99
 (.seq (.region [
  kO 101 (.build [(.int .i64 0), (.int .i64 0), (.int .i64 0), (.int .i64 0)] [(0, 1, (ci 1)), (1, 1, (ci 3)), (2, 1, (ci (-1))), (3, 1, (ci (-1)))]),
  kU (.st 4 2 101),
  kO 3 (.mv (.c (.bool true)))])
  .ret)
 y119)
def y18e : CCode :=
  (.seq (.region [
 kO 100 (.bin .eql 11 (ci 15)),
 kO 99 (.mv 100)])
 yxn)
def y13d : CCode :=
  (.cond 96
 (.seq (.region [
  kO 98 (.build [(.int .i64 0), (.int .i64 0), (.int .i64 0), (.int .i64 0)] [(0, 1, (ci (-1))), (1, 1, (ci 3)), (2, 1, (ci 1)), (3, 1, (ci 0))]),
  kU (.st 4 2 98),
  kO 3 (.mv (.c (.bool true)))])
  .ret)
 y18e)
def yys : CCode :=
  (.seq (.region [
 kO 97 (.bin .eql 11 (ci 14)),
 kO 96 (.mv 97)])
 y13d)
def y11f : CCode :=
  (.cond 93
 (.seq (.region [
  kO 95 (.build [(.int .i64 0), (.int .i64 0), (.int .i64 0), (.int .i64 0)] [(0, 1, (ci 0)), (1, 1, (ci 3)), (2, 1, (ci 1)), (3, 1, (ci (-1)))]),
  kU (.st 4 2 95),
  kO 3 (.mv (.c (.bool true)))])
  .ret)
 yys)
def y15c : CCode :=
  (.seq (.region [
 kO 94 (.bin .eql 11 (ci 13)),
 kO 93 (.mv 94)])
 y11f)
def y166 : CCode :=
  (.cond 90
 (.seq (.region [
  kO 92 (.build [(.int .i64 0), (.int .i64 0), (.int .i64 0), (.int .i64 0)] [(0, 1, (ci (-1))), (1, 1, (ci 3)), (2, 1, (ci 3)), (3, 1, (ci (-1)))]),
  kU (.st 4 2 92),
  kO 3 (.mv (.c (.bool true)))])
  .ret)
 y15c)
def yyq : CCode :=
  (.seq (.region [
 kO 91 (.bin .eql 11 (ci 11)),
 kO 90 (.mv 91)])
 y166)
def y14w : CCode :=
  (.cond 87
 (.seq (.region [
  kO 89 (.build [(.int .i64 0), (.int .i64 0), (.int .i64 0), (.int .i64 0)] [(0, 1, (ci (-1))), (1, 1, (ci 1)), (2, 1, (ci (-1))), (3, 1, (ci (-1)))]),
  kU (.st 4 2 89),
  kO 3 (.mv (.c (.bool true)))])
  .ret)
 yyq)
def y17l : CCode :=
  (.seq (.region [
 kO 88 (.bin .eql 11 (ci 10)),
 kO 87 (.mv 88)])
 y14w)
def yyk : CCode :=
  (.cond 84
 (.seq (.region [
  kO 86 (.build [(.int .i64 0), (.int .i64 0), (.int .i64 0), (.int .i64 0)] [(0, 1, (ci (-1))), (1, 1, (ci 3)), (2, 1, (ci 1)), (3, 1, (ci (-1)))]),
  kU (.st 4 2 86),
  kO 3 (.mv (.c (.bool true)))])
  .ret)
 y17l)
def y0s : CCode :=
  (.seq (.region [
 kO 85 (.bin .eql 11 (ci 9)),
 kO 84 (.mv 85)])
 yyk)
def y12b : CCode :=
  (.cond 78
 (.seq (.region [
  kO 80 (.build [(.int .i64 0), (.int .i64 0), (.int .i64 0), (.int .i64 0)] [(0, 1, (ci 1)), (1, 1, (ci 3)), (2, 1, (ci (-1))), (3, 1, (ci (-1)))]),
  kO 81 (.fa 7 1),
  kO 82 (.ld false 1 81),
  kO 83 (.call none true 37 [82]),
  kU (.st 4 2 80),
  kO 3 (.mv 83)])
  .ret)
 y0s)
def yyb : CCode :=
  (.seq (.region [
 kO 79 (.bin .eql 11 (ci 22)),
 kO 78 (.mv 79)])
 y12b)
def y156 : CCode :=
  (.cond 72
 (.seq (.region [
  kO 74 (.build [(.int .i64 0), (.int .i64 0), (.int .i64 0), (.int .i64 0)] [(0, 1, (ci (-1))), (1, 1, (ci 3)), (2, 1, (ci (-1))), (3, 1, (ci (-1)))]),
  kO 75 (.fa 7 1),
  kO 76 (.ld false 1 75),
  kO 77 (.call none true 37 [76]),
  kU (.st 4 2 74),
  kO 3 (.mv 77)])
  .ret)
 yyb)
def yzn : CCode :=
  (.seq (.region [
 kO 73 (.bin .eql 11 (ci 12)),
 kO 72 (.mv 73)])
 y156)
def y18c : CCode :=
  (.cond 68
 (.seq (.region [
  kO 71 (.build [(.int .i64 0), (.int .i64 0), (.int .i64 0), (.int .i64 0)] [(0, 1, (ci (-1))), (1, 1, (ci 3)), (2, 1, (ci (-1))), (3, 1, (ci (-1)))]),
  kU (.st 4 2 71),
  kO 3 (.mv (.c (.bool true)))])
  .ret)
 yzn)
def y16y : CCode :=
  (.seq (.seq (.region [
 kO 69 (.bin .eql 11 (ci 8)),
 kO 68 (.mv 69)])
 (.cond 68
 .skip
 (.region [
  kO 70 (.bin .eql 11 (ci 31)),
  kO 68 (.mv 70)])))
 y18c)
def y12c : CCode :=
  (.cond 65
 (.seq (.region [
  kO 67 (.build [(.int .i64 0), (.int .i64 0), (.int .i64 0), (.int .i64 0)] [(0, 1, (ci (-1))), (1, 1, (ci 0)), (2, 1, (ci (-1))), (3, 1, (ci (-1)))]),
  kU (.st 4 2 67),
  kO 3 (.mv (.c (.bool true)))])
  .ret)
 y16y)
def y16c : CCode :=
  (.seq (.region [
 kO 66 (.bin .eql 11 (ci 7)),
 kO 65 (.mv 66)])
 y12c)
def y0y : CCode :=
  (.cond 47
 (.seq (.region [
  kO 50 (.fa 5 1),
  kO 51 (.ld false 1 50),
  kO 52 (.call none true 50 [51]),
  kO 49 (.mv 52),
  kO 53 (.ext 0 49),
  kO 54 (.ext 1 49),
  kO 55 (.ext 2 49),
  kO 7 (.mv 53),
  kO 8 (.mv 54),
  kO 9 (.mv 55)])
  (.seq (.region [
  kO 56 (.mv 9),
  kO 57 (.mv 7),
  kO 58 (.build [(.int .i64 0), (.int .i64 0), (.int .i64 0), (.int .i64 0)] [(0, 1, 56), (1, 1, 57), (2, 1, (ci (-1))), (3, 1, (ci (-1)))]),
  kO 59 (.mv 7),
  kO 60 (.bin .neq 59 (ci 0)),
  kO 61 (.mv 60),
  kG 62 (.mv 8) 61 true,
  kG 63 (.bin .eql 62 (ci 0)) 61 true,
  kO 64 (.pick 61 63 (.c (.bool false))),
  kU (.st 4 2 58),
  kO 3 (.mv 64)])
  .ret))
 y16c)
def y12k : CCode :=
  (.seq (.region [
 kO 48 (.bin .eql 11 (ci 6)),
 kO 47 (.mv 48)])
 y0y)
def y114 : CCode :=
  (.cond 25
 (.seq (.region [
  kO 28 (.fa 5 1),
  kO 29 (.ld false 1 28),
  kO 30 (.call none true 50 [29]),
  kO 27 (.mv 30),
  kO 31 (.ext 0 27),
  kO 32 (.ext 1 27),
  kO 33 (.ext 2 27),
  kO 4 (.mv 31),
  kO 5 (.mv 32),
  kO 6 (.mv 33)])
  (.seq (.region [
  kO 34 (.mv 6),
  kO 35 (.mv 4),
  kO 36 (.mv 5),
  kO 37 (.build [(.int .i64 0), (.int .i64 0), (.int .i64 0), (.int .i64 0)] [(0, 1, 34), (1, 1, 35), (2, 1, 36), (3, 1, (ci (-1)))]),
  kO 38 (.fa 5 1),
  kO 39 (.ld false 1 38),
  kO 40 (.fa 5 1),
  kO 41 (.ld false 1 40),
  kO 42 (.bin .eql 39 41),
  kO 43 (.mv 42),
  kG 44 (.mv 5) 43 true,
  kG 45 (.bin .neq 44 (ci 0)) 43 true,
  kO 46 (.pick 43 45 (.c (.bool false))),
  kU (.st 4 2 37),
  kO 3 (.mv 46)])
  .ret))
 y12k)
def y18w : CCode :=
  (.seq (.region [
 kO 26 (.bin .eql 11 (ci 5)),
 kO 25 (.mv 26)])
 y114)
def yz9 : CCode :=
  (.cond 22
 (.seq (.region [
  kO 24 (.build [(.int .i64 0), (.int .i64 0), (.int .i64 0), (.int .i64 0)] [(0, 1, (ci 0)), (1, 1, (ci 0)), (2, 1, (ci (-1))), (3, 1, (ci (-1)))]),
  kU (.st 4 2 24),
  kO 3 (.mv (.c (.bool true)))])
  .ret)
 y18w)
def y151 : CCode :=
  (.seq (.region [
 kO 23 (.bin .eql 11 (ci 4)),
 kO 22 (.mv 23)])
 yz9)
def y0b : CCode :=
  (.cond 16
 (.seq (.region [
  kO 21 (.build [(.int .i64 0), (.int .i64 0), (.int .i64 0), (.int .i64 0)] [(0, 1, (ci 3)), (1, 1, (ci (-1))), (2, 1, (ci (-1))), (3, 1, (ci (-1)))]),
  kU (.st 4 2 21),
  kO 3 (.mv (.c (.bool true)))])
  .ret)
 y151)
def y117 : CCode :=
  (.seq (.seq (.region [
 kO 17 (.bin .eql 11 (ci 2)),
 kO 16 (.mv 17)])
 (.cond 16
 .skip
 (.seq (.region [
  kO 18 (.bin .eql 11 (ci 3)),
  kO 16 (.mv 18)])
  (.cond 16
  .skip
  (.seq (.region [
   kO 19 (.bin .eql 11 (ci 20)),
   kO 16 (.mv 19)])
   (.cond 16
   .skip
   (.region [
    kO 20 (.bin .eql 11 (ci 32)),
    kO 16 (.mv 20)])))))))
 y0b)
def y13i : CCode :=
  (.cond 12
 (.seq (.region [
  kO 15 (.build [(.int .i64 0), (.int .i64 0), (.int .i64 0), (.int .i64 0)] [(0, 1, (ci 0)), (1, 1, (ci (-1))), (2, 1, (ci (-1))), (3, 1, (ci (-1)))]),
  kU (.st 4 2 15),
  kO 3 (.mv (.c (.bool true)))])
  .ret)
 y117)
def y0i : CCode :=
  (.seq (.seq (.region [
 kO 13 (.bin .eql 11 (ci 1)),
 kO 12 (.mv 13)])
 (.cond 12
 .skip
 (.region [
  kO 14 (.bin .eql 11 (ci 18)),
  kO 12 (.mv 14)])))
 y13i)
def y16u : CCode :=
  (.block 0 y0i)
def y128 : CCode :=
  (.seq (.region [
 kO 10 (.fa 0 1),
 kO 11 (.ld false 1 10)])
 y16u)
def y13f : CCode :=
  (.seq y128
 y1p3)
def y11y : CCode :=
  (.seq (.region [
 kO 1 (.box (some 0) 0),
 kO 2 (.new (some 1) [(.int .i64 0), (.int .i64 0), (.int .i64 0), (.int .i64 0)]),
 kO 3 (.mv (.c (.bool false)))])
 y13f)
def y2js : CFunc :=
  ⟨1, true, 2, y11y, [.cell 2 true 4, .t 3]⟩
def y1lc : CCode :=
  (.seq (.region [
 kO 1 (.box (some 0) 0),
 kO 2 (.mv (.c (.bool false)))])
 (.seq (.region [
 kO 3 (.fa 0 1),
 kO 4 (.ld false 1 3),
 kO 5 (.bin .geq 4 (ci 7)),
 kO 6 (.mv 5),
 kG 7 (.fa 0 1) 6 true,
 kG 8 (.ld false 1 7) 6 true,
 kG 9 (.bin .leq 8 (ci 12)) 6 true,
 kO 10 (.pick 6 9 (.c (.bool false))),
 kO 11 (.mv 10),
 kG 12 (.fa 0 1) 11 false,
 kG 13 (.ld false 1 12) 11 false,
 kG 14 (.bin .eql 13 (ci 20)) 11 false,
 kO 15 (.pick 11 (.c (.bool true)) 14),
 kO 16 (.mv 15),
 kG 17 (.fa 0 1) 16 false,
 kG 18 (.ld false 1 17) 16 false,
 kG 19 (.bin .eql 18 (ci 21)) 16 false,
 kO 20 (.pick 16 (.c (.bool true)) 19),
 kO 21 (.mv 20),
 kG 22 (.fa 0 1) 21 false,
 kG 23 (.ld false 1 22) 21 false,
 kG 24 (.bin .eql 23 (ci 31)) 21 false,
 kO 25 (.pick 21 (.c (.bool true)) 24),
 kO 26 (.mv 25),
 kG 27 (.ld true 9 1) 26 false,
 kG 28 (.call none true 17 [27]) 26 false,
 kO 29 (.pick 26 (.c (.bool true)) 28),
 kO 2 (.mv 29)])
 .ret))
def y2px : CFunc :=
  ⟨1, true, 1, y1lc, [.t 2]⟩
def y1so : CCode :=
  (.seq (.region [
 kO 4 (.mv (ci 0))])
 .ret)
def y1gu : CCode :=
  (.cond 16
 (.seq (.region [
  kO 19 (.mv 1),
  kO 20 (.cvi .i32 19),
  kO 21 (.cvi .i64 20),
  kO 4 (.mv 21)])
  .ret)
 (.seq (.region [
  kO 23 (.bin .eql 5 (ci 145)),
  kO 22 (.mv 23)])
  (.cond 22
  (.seq (.region [
   kO 24 (.mv 1),
   kO 25 (.cvi .i8 24),
   kO 26 (.cvi .i64 25),
   kO 4 (.mv 26)])
   .ret)
  (.seq (.region [
   kO 28 (.bin .eql 5 (ci 146)),
   kO 27 (.mv 28)])
   (.cond 27
   (.seq (.region [
    kO 29 (.mv 1),
    kO 30 (.cvi .u16 29),
    kO 31 (.cvi .i64 30),
    kO 4 (.mv 31)])
    .ret)
   (.seq (.region [
    kO 33 (.bin .eql 5 (ci 147)),
    kO 32 (.mv 33)])
    (.cond 32
    (.seq (.region [
     kO 34 (.mv 1),
     kO 35 (.cvi .i16 34),
     kO 36 (.cvi .i64 35),
     kO 4 (.mv 36)])
     .ret)
    .skip)))))))
def y1fb : CCode :=
  (.seq (.seq (.region [
 kO 17 (.bin .eql 5 (ci 133)),
 kO 16 (.mv 17)])
 (.cond 16
 .skip
 (.region [
  kO 18 (.bin .eql 5 (ci 136)),
  kO 16 (.mv 18)])))
 y1gu)
def y1h3 : CCode :=
  (.cond 12
 (.seq (.region [
  kO 14 (.mv 1),
  kO 15 (.un .neg 14),
  kO 4 (.mv 15)])
  .ret)
 y1fb)
def y1he : CCode :=
  (.seq (.region [
 kO 13 (.bin .eql 5 (ci 117)),
 kO 12 (.mv 13)])
 y1h3)
def y1ft : CCode :=
  (.cond 6
 (.seq (.region [
  kO 8 (.mv 1),
  kO 9 (.cvi .i32 8),
  kO 10 (.un .neg 9),
  kO 11 (.cvi .i64 10),
  kO 4 (.mv 11)])
  .ret)
 y1he)
def y1k3 : CCode :=
  (.seq (.region [
 kO 7 (.bin .eql 5 (ci 116)),
 kO 6 (.mv 7)])
 y1ft)
def y1m3 : CCode :=
  (.block 0 y1k3)
def y1n2 : CCode :=
  (.seq (.region [
 kO 5 (.mv 0)])
 y1m3)
def y17s : CCode :=
  (.seq y1n2
 y1so)
def y18f : CCode :=
  (.seq (.region [
 kO 4 (.mv (ci 0))])
 y17s)
def y2q3 : CFunc :=
  ⟨2, true, 0, y18f, [.t 4]⟩
def y1g8 : CCode :=
  (.seq (.region [
 kO 29 (.mv 0),
 kO 30 (.mv 1),
 kO 31 (.mv 2),
 kO 32 (.call none true 131 [29, 30, 31]),
 kO 6 (.mv 32)])
 .ret)
def y1qy : CCode :=
  (.seq (.region [
 kO 6 (.mv (ci 0))])
 .ret)
def y1vx : CCode :=
  (.seq (.block 1 (.seq (.region [
 kO 11 (.mv 1),
 kO 12 (.mv 2),
 kO 13 (.bin .lss 11 12),
 kO 10 (.mv 13)])
 (.cond 10
 (.seq (.region [
  kO 6 (.mv (ci (-1)))])
  .ret)
 (.seq (.region [
  kO 15 (.mv 1),
  kO 16 (.mv 2),
  kO 17 (.bin .gtr 15 16),
  kO 14 (.mv 17)])
  (.cond 14
  (.seq (.region [
   kO 6 (.mv (ci 1))])
   .ret)
  .skip)))))
 y1qy)
def y1mr : CCode :=
  (.cond 7
 y1vx
 (.seq (.region [
  kO 19 (.mv 0),
  kO 20 (.bin .and 19 (ci 1)),
  kO 21 (.bin .eql 20 (ci 0)),
  kO 18 (.mv 21)])
  (.cond 18
  (.seq (.region [
   kO 22 (.mv 0),
   kO 23 (.mv 1),
   kO 24 (.cvi .i32 23),
   kO 25 (.mv 2),
   kO 26 (.cvi .i32 25),
   kO 27 (.call none true 130 [22, 24, 26]),
   kO 28 (.cvi .i64 27),
   kO 6 (.mv 28)])
   .ret)
  .skip)))
def y1z8 : CCode :=
  (.seq (.region [
 kO 8 (.mv 0),
 kO 9 (.bin .eql 8 (ci 148)),
 kO 7 (.mv 9)])
 y1mr)
def y1j1 : CCode :=
  (.block 0 y1z8)
def y1lz : CCode :=
  (.seq y1j1
 y1g8)
def y1nc : CCode :=
  (.seq (.region [
 kO 6 (.mv (ci 0))])
 y1lz)
def y2lb : CFunc :=
  ⟨3, true, 0, y1nc, [.t 6]⟩
def y1e6 : CCode :=
  (.seq (.region [
 kO 6 (.mv (.c (.bool false)))])
 .ret)
def y1t7 : CCode :=
  (.seq (.seq (.region [
 kO 7 (.mv 0)])
 (.block 0 (.seq (.region [
 kO 9 (.bin .eql 7 (ci 0)),
 kO 8 (.mv 9)])
 (.cond 8
 (.seq (.region [
  kO 10 (.mv 1),
  kO 11 (.mv 2),
  kO 12 (.bin .eql 10 11),
  kO 6 (.mv 12)])
  .ret)
 (.seq (.region [
  kO 14 (.bin .eql 7 (ci 1)),
  kO 13 (.mv 14)])
  (.cond 13
  (.seq (.region [
   kO 15 (.mv 1),
   kO 16 (.mv 2),
   kO 17 (.bin .neq 15 16),
   kO 6 (.mv 17)])
   .ret)
  (.seq (.region [
   kO 19 (.bin .eql 7 (ci 2)),
   kO 18 (.mv 19)])
   (.cond 18
   (.seq (.region [
    kO 20 (.mv 1),
    kO 21 (.mv 2),
    kO 22 (.bin .lss 20 21),
    kO 6 (.mv 22)])
    .ret)
   (.seq (.region [
    kO 24 (.bin .eql 7 (ci 3)),
    kO 23 (.mv 24)])
    (.cond 23
    (.seq (.region [
     kO 25 (.mv 1),
     kO 26 (.mv 2),
     kO 27 (.bin .geq 25 26),
     kO 6 (.mv 27)])
     .ret)
    (.seq (.region [
     kO 29 (.bin .eql 7 (ci 4)),
     kO 28 (.mv 29)])
     (.cond 28
     (.seq (.region [
      kO 30 (.mv 1),
      kO 31 (.mv 2),
      kO 32 (.bin .gtr 30 31),
      kO 6 (.mv 32)])
      .ret)
     (.seq (.region [
      kO 34 (.bin .eql 7 (ci 5)),
      kO 33 (.mv 34)])
      (.cond 33
      (.seq (.region [
       kO 35 (.mv 1),
       kO 36 (.mv 2),
       kO 37 (.bin .leq 35 36),
       kO 6 (.mv 37)])
       .ret)
      .skip))))))))))))))
 y1e6)
def y1mp : CCode :=
  (.seq (.region [
 kO 6 (.mv (.c (.bool false)))])
 y1t7)
def y2lz : CFunc :=
  ⟨3, true, 0, y1mp, [.t 6]⟩
def yzx : CCode :=
  (.seq (.region [
 kO 13 (.mv 3),
 kO 14 (.mv 0),
 kO 15 (.ixs 1 13 14),
 kO 16 (.ld false 1 15),
 kO 2 (.mv 16)])
 .ret)
def y15k : CCode :=
  (.seq (.seq (.region [
 kO 5 (.mv 0),
 kO 6 (.bin .lss 5 (ci 1)),
 kO 7 (.mv 6),
 kG 8 (.mv 0) 7 false,
 kG 9 (.mv 3) 7 false,
 kG 10 (.len 1 9) 7 false,
 kG 11 (.bin .geq 8 10) 7 false,
 kO 12 (.pick 7 (.c (.bool true)) 11)])
 (.cond 12
 (.seq (.region [
  kO 2 (.mv (.c (.str [])))])
  .ret)
 .skip))
 yzx)
def yxm : CCode :=
  (.seq (.region [
 kO 4 (.buildS (some 0) 1 34 [(.str [])] [(0, (.c (.str []))), (1, (.c (.str [110, 45, 45, 45]))), (2, (.c (.str [51, 45, 45, 45]))), (3, (.c (.str [51, 45, 45, 45]))), (4, (.c (.str [42, 61, 45, 45]))), (5, (.c (.str [63, 63, 63, 63]))), (6, (.c (.str [63, 63, 63, 63]))), (7, (.c (.str [45, 110, 45, 45]))), (8, (.c (.str [45, 51, 45, 45]))), (9, (.c (.str [45, 51, 49, 45]))), (10, (.c (.str [45, 49, 45, 45]))), (11, (.c (.str [45, 51, 51, 45]))), (12, (.c (.str [45, 51, 45, 45]))), (13, (.c (.str [42, 51, 49, 45]))), (14, (.c (.str [45, 51, 49, 42]))), (15, (.c (.str [49, 51, 45, 45]))), (16, (.c (.str [42, 51, 45, 45]))), (17, (.c (.str [45, 51, 42, 45]))), (18, (.c (.str [42, 45, 45, 45]))), (19, (.c (.str [45, 42, 45, 45]))), (20, (.c (.str [51, 45, 45, 45]))), (21, (.c (.str [51, 49, 45, 45]))), (22, (.c (.str [49, 51, 45, 45]))), (23, (.c (.str [63, 63, 63, 63]))), (24, (.c (.str [63, 63, 63, 63]))), (25, (.c (.str [63, 63, 63, 63]))), (26, (.c (.str [63, 63, 63, 63]))), (27, (.c (.str [45, 45, 45, 45]))), (28, (.c (.str [45, 49, 49, 45]))), (29, (.c (.str [45, 51, 63, 45]))), (30, (.c (.str [45, 63, 45, 45]))), (31, (.c (.str [45, 51, 45, 45]))), (32, (.c (.str [51, 45, 45, 45]))), (33, (.c (.str [45, 45, 45, 45])))]),
 kO 3 (.mv 4)])
 y15k)
def y176 : CCode :=
  (.seq (.region [
 kO 2 (.mv (.c (.str [])))])
 yxm)
def y29k : CFunc :=
  ⟨1, true, 1, y176, [.t 2]⟩
def y18y : CCode :=
  (.seq (.region [
 kO 28 (.mv 7),
 kO 29 (.mv 2),
 kO 30 (.bin .sub 29 (.c (.int .u8 48))),
 kO 31 (.cvi .i64 30),
 kO 32 (.bin .eql 28 31),
 kO 6 (.mv 32)])
 .ret)
def yyl : CCode :=
  (.cond 15
 (.seq (.region [
  kO 18 (.mv 7),
  kO 19 (.bin .gtr 18 (ci 0)),
  kO 6 (.mv 19)])
  .ret)
 (.seq (.region [
  kO 21 (.bin .eql 11 (.c (.int .u8 110))),
  kO 20 (.mv 21)])
  (.cond 20
  (.seq (.region [
   kO 22 (.mv 7),
   kO 23 (.bin .eql 22 (ci 1)),
   kO 24 (.mv 23),
   kG 25 (.mv 7) 24 false,
   kG 26 (.bin .eql 25 (ci 2)) 24 false,
   kO 27 (.pick 24 (.c (.bool true)) 26),
   kO 6 (.mv 27)])
   .ret)
  .skip)))
def yxv : CCode :=
  (.seq (.seq (.region [
 kO 16 (.bin .eql 11 (.c (.int .u8 42))),
 kO 15 (.mv 16)])
 (.cond 15
 .skip
 (.region [
  kO 17 (.bin .eql 11 (.c (.int .u8 61))),
  kO 15 (.mv 17)])))
 yyl)
def y195 : CCode :=
  (.cond 12
 (.seq (.region [
  kO 6 (.mv (.c (.bool true)))])
  .ret)
 yxv)
def y113 : CCode :=
  (.seq (.seq (.region [
 kO 13 (.bin .eql 11 (.c (.int .u8 45))),
 kO 12 (.mv 13)])
 (.cond 12
 .skip
 (.region [
  kO 14 (.bin .eql 11 (.c (.int .u8 63))),
  kO 12 (.mv 14)])))
 y195)
def y174 : CCode :=
  (.block 0 y113)
def yyh : CCode :=
  (.seq (.region [
 kO 11 (.mv 2)])
 y174)
def yyo : CCode :=
  (.seq yyh
 y18y)
def y11u : CCode :=
  (.seq (.region [
 kO 8 (.ld true 5 3),
 kO 9 (.mv 1),
 kO 10 (.call none true 48 [8, 9]),
 kO 7 (.mv 10)])
 yyo)
def yr2 : CCode :=
  (.seq (.region [
 kO 3 (.box (some 0) 0),
 kO 6 (.mv (.c (.bool false)))])
 y11u)
def y28t : CFunc :=
  ⟨3, true, 1, yr2, [.t 6]⟩
def y1ro : CCode :=
  (.seq (.region [
 kO 2 (.mv (ci 0)),
 kO 3 (.mv (ci 0)),
 kO 4 (.mv (ci 0))])
 .ret)
def y1xx : CCode :=
  (.seq (.block 0 (.seq (.region [
 kO 26 (.mv 5),
 kO 27 (.mv 26),
 kG 28 (.mv 0) 27 true,
 kG 29 (.bin .rem 28 (ci 2)) 27 true,
 kG 30 (.bin .eql 29 (ci 0)) 27 true,
 kO 31 (.pick 27 30 (.c (.bool false))),
 kO 25 (.mv 31)])
 (.cond 25
 (.seq (.region [
  kO 2 (.mv (ci 1)),
  kO 3 (.mv (ci 1)),
  kO 4 (.mv (ci 1))])
  .ret)
 (.seq (.region [
  kO 33 (.mv 0),
  kO 34 (.bin .eql 33 (ci 121)),
  kO 35 (.mv 34),
  kG 36 (.mv 0) 35 false,
  kG 37 (.bin .eql 36 (ci 123)) 35 false,
  kO 38 (.pick 35 (.c (.bool true)) 37),
  kO 39 (.mv 38),
  kG 40 (.mv 0) 39 false,
  kG 41 (.bin .eql 40 (ci 125)) 39 false,
  kO 42 (.pick 39 (.c (.bool true)) 41),
  kO 32 (.mv 42)])
  (.cond 32
  (.seq (.region [
   kO 2 (.mv (ci 2)),
   kO 3 (.mv (ci 1)),
   kO 4 (.mv (ci 2))])
   .ret)
  (.seq (.region [
   kO 44 (.mv 5),
   kO 43 (.mv 44)])
   (.cond 43
   (.seq (.region [
    kO 2 (.mv (ci 2)),
    kO 3 (.mv (ci 2)),
    kO 4 (.mv (ci 2))])
    .ret)
   (.seq (.region [
    kO 46 (.mv 0),
    kO 47 (.bin .eql 46 (ci 148)),
    kO 45 (.mv 47)])
    (.cond 45
    (.seq (.region [
     kO 2 (.mv (ci 2)),
     kO 3 (.mv (ci 2)),
     kO 4 (.mv (ci 1))])
     .ret)
    (.seq (.region [
     kO 49 (.mv 0),
     kO 50 (.bin .eql 49 (ci 116)),
     kO 51 (.mv 50),
     kG 52 (.mv 0) 51 false,
     kG 53 (.bin .geq 52 (ci 145)) 51 false,
     kG 54 (.mv 53) 51 false,
     kG 55 (.mv 0) 54 true,
     kG 56 (.bin .leq 55 (ci 147)) 54 true,
     kG 57 (.pick 54 56 (.c (.bool false))) 51 false,
     kO 58 (.pick 51 (.c (.bool true)) 57),
     kO 48 (.mv 58)])
     (.cond 48
     (.seq (.region [
      kO 2 (.mv (ci 1)),
      kO 3 (.mv (ci 0)),
      kO 4 (.mv (ci 1))])
      .ret)
     (.seq (.region [
      kO 60 (.mv 0),
      kO 61 (.bin .eql 60 (ci 117)),
      kO 59 (.mv 61)])
      (.cond 59
      (.seq (.region [
       kO 2 (.mv (ci 2)),
       kO 3 (.mv (ci 0)),
       kO 4 (.mv (ci 2))])
       .ret)
      (.seq (.region [
       kO 63 (.mv 0),
       kO 64 (.bin .eql 63 (ci 133)),
       kO 62 (.mv 64)])
       (.cond 62
       (.seq (.region [
        kO 2 (.mv (ci 1)),
        kO 3 (.mv (ci 0)),
        kO 4 (.mv (ci 2))])
        .ret)
       (.seq (.region [
        kO 66 (.mv 0),
        kO 67 (.bin .eql 66 (ci 136)),
        kO 65 (.mv 67)])
        (.cond 65
        (.seq (.region [
         kO 2 (.mv (ci 2)),
         kO 3 (.mv (ci 0)),
         kO 4 (.mv (ci 1))])
         .ret)
        .skip)))))))))))))))))
 y1ro)
def y1tk : CCode :=
  (.seq (.region [
 kO 6 (.mv 0),
 kO 7 (.bin .geq 6 (ci 96)),
 kO 8 (.mv 7),
 kG 9 (.mv 0) 8 true,
 kG 10 (.bin .leq 9 (ci 113)) 8 true,
 kO 11 (.pick 8 10 (.c (.bool false))),
 kO 12 (.mv 11),
 kG 13 (.mv 0) 12 true,
 kG 14 (.bin .rem 13 (ci 4)) 12 true,
 kG 15 (.bin .lss 14 (ci 2)) 12 true,
 kO 16 (.pick 12 15 (.c (.bool false))),
 kO 17 (.mv 16),
 kG 18 (.mv 0) 17 false,
 kG 19 (.bin .geq 18 (ci 120)) 17 false,
 kG 20 (.mv 19) 17 false,
 kG 21 (.mv 0) 20 true,
 kG 22 (.bin .leq 21 (ci 131)) 20 true,
 kG 23 (.pick 20 22 (.c (.bool false))) 17 false,
 kO 24 (.pick 17 (.c (.bool true)) 23),
 kO 5 (.mv 24)])
 y1xx)
def y1pv : CCode :=
  (.seq (.region [
 kO 2 (.mv (ci 0)),
 kO 3 (.mv (ci 0)),
 kO 4 (.mv (ci 0))])
 y1tk)
def y2ln : CFunc :=
  ⟨1, true, 0, y1pv, [.t 2, .t 3, .t 4]⟩
def y190 : CCode :=
  (.seq (.region [
 kO 27 (.mv 0),
 kO 28 (.len 0 27),
 kO 29 (.bin .gtr 28 (ci 2)),
 kO 30 (.mv 29),
 kG 31 (.mv 0) 30 true,
 kG 32 (.ixstr 31 (ci 0)) 30 true,
 kG 33 (.bin .eql 32 (.c (.int .u8 76))) 30 true,
 kO 34 (.pick 30 33 (.c (.bool false))),
 kO 35 (.mv 34),
 kG 36 (.mv 0) 35 true,
 kG 37 (.mv 0) 35 true,
 kG 38 (.len 0 37) 35 true,
 kG 39 (.bin .sub 38 (ci 1)) 35 true,
 kG 40 (.ixstr 36 39) 35 true,
 kG 41 (.bin .eql 40 (.c (.int .u8 59))) 35 true,
 kO 42 (.pick 35 41 (.c (.bool false))),
 kO 43 (.mv 42),
 kG 44 (.mv 0) 43 true,
 kG 45 (.mv 0) 43 true,
 kG 46 (.len 0 45) 43 true,
 kG 47 (.bin .sub 46 (ci 1)) 43 true,
 kG 48 (.sls 44 (some (ci 1)) (some 47)) 43 true,
 kG 49 (.call none true 69 [48, (.c (.bool false))]) 43 true,
 kO 50 (.pick 43 49 (.c (.bool false))),
 kO 2 (.mv 50)])
 .ret)
def y157 : CCode :=
  (.seq (.seq (.region [
 kO 21 (.mv 0),
 kO 22 (.bin .eql 21 (.c (.str [73]))),
 kO 23 (.mv 22),
 kG 24 (.mv 0) 23 false,
 kG 25 (.bin .eql 24 (.c (.str [74]))) 23 false,
 kO 26 (.pick 23 (.c (.bool true)) 25)])
 (.cond 26
 (.seq (.region [
  kO 2 (.mv (.c (.bool true)))])
  .ret)
 .skip))
 y190)
def y13u : CCode :=
  (.seq (.seq (.region [
 kO 19 (.mv 3),
 kO 20 (.bin .gtr 19 (ci 8))])
 (.cond 20
 (.seq (.region [
  kO 2 (.mv (.c (.bool false)))])
  .ret)
 .skip))
 y157)
def y18u : CCode :=
  (.seq (.region [
 kO 16 (.mv 0),
 kO 17 (.mv 3),
 kO 18 (.sls 16 (some 17) none),
 kO 0 (.mv 18)])
 y13u)
def yzi : CCode :=
  (.block 1 (.region [
 kO 14 (.mv 3),
 kO 15 (.bin .add 14 (ci 1)),
 kO 3 (.mv 15)]))
def y08 : CCode :=
  (.seq (.seq (.region [
 kO 4 (.mv 3),
 kO 5 (.mv 0),
 kO 6 (.len 0 5),
 kO 7 (.bin .lss 4 6),
 kO 8 (.mv 7),
 kG 9 (.mv 0) 8 true,
 kG 10 (.mv 3) 8 true,
 kG 11 (.ixstr 9 10) 8 true,
 kG 12 (.bin .eql 11 (.c (.int .u8 91))) 8 true,
 kO 13 (.pick 8 12 (.c (.bool false)))])
 (.cond 13
 .skip
 (.exit 0)))
 yzi)
def ykw : CCode :=
  (.loop [0, 3] y08)
def yzh : CCode :=
  (.block 0 ykw)
def y168 : CCode :=
  (.seq yzh
 y18u)
def yuo : CCode :=
  (.seq (.region [
 kO 3 (.mv (ci 0))])
 y168)
def ytj : CCode :=
  (.seq (.region [
 kO 2 (.mv (.c (.bool false)))])
 yuo)
def y29f : CFunc :=
  ⟨1, true, 0, ytj, [.t 2]⟩
def y14l : CCode :=
  (.seq (.draw [
 kO 47 (.fa 0 3),
 kO 48 (.ld false 1 47),
 kO 49 (.bin .neq 48 (ci 24)),
 kO 50 (.mv 49),
 kG 51 (.fa 0 3) 50 true,
 kG 52 (.ld false 1 51) 50 true,
 kG 53 (.bin .neq 52 (ci 25)) 50 true,
 kO 54 (.pick 50 53 (.c (.bool false))),
 kO 55 (.mv 54),
 kG 56 (.fa 8 3) 55 false,
 kG 57 (.ld false 1 56) 55 false,
 kG 58 (.len 1 57) 55 false,
 kG 59 (.bin .gtr 58 (ci 0)) 55 false,
 kG 60 (.mv 59) 55 false,
 kG 61 (.ld true 5 2) 60 true,
 kG 62 (.fa 8 3) 60 true,
 kG 63 (.ld false 1 62) 60 true,
 kG 64 (.ixs 1 63 (ci 0)) 60 true,
 kG 65 (.ld false 1 64) 60 true,
 kG 66 (.call none true 48 [61, 65]) 60 true,
 kG 67 (.bin .eql 66 (ci 3)) 60 true,
 kG 68 (.pick 60 67 (.c (.bool false))) 55 false,
 kO 69 (.pick 55 (.c (.bool true)) 68),
 kO 4 (.mv 69)] [])
 .ret)
def y152 : CCode :=
  (.region [
 kO 37 (.mv 5),
 kO 38 (.bin .add 37 (ci 1)),
 kO 5 (.mv 38)])
def yy4 : CCode :=
  (.seq (.block 1 (.seq (.draw [
 kO 39 (.ld true 5 2),
 kO 40 (.fa 8 3),
 kO 41 (.ld false 1 40),
 kO 42 (.mv 5),
 kO 43 (.ixs 1 41 42),
 kO 44 (.ld false 1 43),
 kO 45 (.call none true 48 [39, 44]),
 kO 46 (.bin .eql 45 (ci 0))] [])
 (.cond 46
 (.seq (.region [
  kO 4 (.mv (.c (.bool false)))])
  .ret)
 .skip)))
 y152)
def yz2 : CCode :=
  (.seq (.seq (.region [
 kO 32 (.mv 5),
 kO 33 (.fa 8 3),
 kO 34 (.ld false 1 33),
 kO 35 (.len 1 34),
 kO 36 (.bin .lss 32 35)])
 (.cond 36
 .skip
 (.exit 0)))
 yy4)
def yk3 : CCode :=
  (.loop [2, 3, 5] yz2)
def y12n : CCode :=
  (.block 0 yk3)
def y0p : CCode :=
  (.seq (.region [
 kO 5 (.mv (ci 0))])
 y12n)
def y14b : CCode :=
  (.seq y0p
 y14l)
def y15r : CCode :=
  (.seq (.seq (.region [
 kO 6 (.fa 5 3),
 kO 7 (.ld false 1 6),
 kO 8 (.bin .lss 7 (ci 0)),
 kO 9 (.mv 8),
 kG 10 (.fa 0 3) 9 true,
 kG 11 (.ld false 1 10) 9 true,
 kG 12 (.bin .neq 11 (ci 25)) 9 true,
 kO 13 (.pick 9 12 (.c (.bool false))),
 kO 14 (.mv 13),
 kG 15 (.fa 8 3) 14 false,
 kG 16 (.ld false 1 15) 14 false,
 kG 17 (.len 1 16) 14 false,
 kG 18 (.bin .gtr 17 (ci 21)) 14 false,
 kO 19 (.pick 14 (.c (.bool true)) 18),
 kO 20 (.mv 19),
 kG 21 (.fa 1 3) 20 false,
 kG 22 (.ld false 1 21) 20 false,
 kG 23 (.bin .neq 22 (ci (-1))) 20 false,
 kG 24 (.mv 23) 20 false,
 kG 25 (.ld true 5 2) 24 true,
 kG 26 (.fa 1 3) 24 true,
 kG 27 (.ld false 1 26) 24 true,
 kG 28 (.call none true 48 [25, 27]) 24 true,
 kG 29 (.bin .eql 28 (ci 0)) 24 true,
 kG 30 (.pick 24 29 (.c (.bool false))) 20 false,
 kO 31 (.pick 20 (.c (.bool true)) 30)])
 (.cond 31
 (.seq (.region [
  kO 4 (.mv (.c (.bool false)))])
  .ret)
 .skip))
 y14b)
def yqe : CCode :=
  (.seq (.region [
 kO 2 (.box (some 0) 0),
 kO 3 (.box (some 1) 1),
 kO 4 (.mv (.c (.bool false)))])
 y15r)
def y28m : CFunc :=
  ⟨2, true, 2, yqe, [.t 4]⟩
def y1do : CCode :=
  (.seq (.region [
 kO 2 (.mv (ci 0)),
 kO 3 (.mv (ci 0)),
 kO 4 (.mv (ci 0))])
 .ret)
def y1w6 : CCode :=
  (.cond 33
 (.seq (.region [
  kO 2 (.mv (ci 1)),
  kO 3 (.mv (ci 0)),
  kO 4 (.mv (ci 1))])
  .ret)
 (.seq (.region [
  kO 39 (.bin .eql 5 (ci 117)),
  kO 38 (.mv 39)])
  (.cond 38
  (.seq (.region [
   kO 2 (.mv (ci 2)),
   kO 3 (.mv (ci 0)),
   kO 4 (.mv (ci 2))])
   .ret)
  (.seq (.region [
   kO 41 (.bin .eql 5 (ci 133)),
   kO 40 (.mv 41)])
   (.cond 40
   (.seq (.region [
    kO 2 (.mv (ci 1)),
    kO 3 (.mv (ci 0)),
    kO 4 (.mv (ci 2))])
    .ret)
   (.seq (.region [
    kO 43 (.bin .eql 5 (ci 136)),
    kO 42 (.mv 43)])
    (.cond 42
    (.seq (.region [
     kO 2 (.mv (ci 2)),
     kO 3 (.mv (ci 0)),
     kO 4 (.mv (ci 1))])
     .ret)
    .skip)))))))
def y1im : CCode :=
  (.seq (.seq (.region [
 kO 34 (.bin .eql 5 (ci 116)),
 kO 33 (.mv 34)])
 (.cond 33
 .skip
 (.seq (.region [
  kO 35 (.bin .eql 5 (ci 145)),
  kO 33 (.mv 35)])
  (.cond 33
  .skip
  (.seq (.region [
   kO 36 (.bin .eql 5 (ci 146)),
   kO 33 (.mv 36)])
   (.cond 33
   .skip
   (.region [
    kO 37 (.bin .eql 5 (ci 147)),
    kO 33 (.mv 37)])))))))
 y1w6)
def y1ny : CCode :=
  (.cond 31
 (.seq (.region [
  kO 2 (.mv (ci 2)),
  kO 3 (.mv (ci 2)),
  kO 4 (.mv (ci 1))])
  .ret)
 y1im)
def y1vw : CCode :=
  (.seq (.region [
 kO 32 (.bin .eql 5 (ci 148)),
 kO 31 (.mv 32)])
 y1ny)
def y1q1 : CCode :=
  (.cond 27
 (.seq (.region [
  kO 2 (.mv (ci 2)),
  kO 3 (.mv (ci 1)),
  kO 4 (.mv (ci 2))])
  .ret)
 y1vw)
def y1mv : CCode :=
  (.seq (.seq (.region [
 kO 28 (.bin .eql 5 (ci 121)),
 kO 27 (.mv 28)])
 (.cond 27
 .skip
 (.seq (.region [
  kO 29 (.bin .eql 5 (ci 123)),
  kO 27 (.mv 29)])
  (.cond 27
  .skip
  (.region [
   kO 30 (.bin .eql 5 (ci 125)),
   kO 27 (.mv 30)])))))
 y1q1)
def y1pr : CCode :=
  (.cond 18
 (.seq (.region [
  kO 2 (.mv (ci 2)),
  kO 3 (.mv (ci 2)),
  kO 4 (.mv (ci 2))])
  .ret)
 y1mv)
def y1oy : CCode :=
  (.seq (.seq (.region [
 kO 19 (.bin .eql 5 (ci 97)),
 kO 18 (.mv 19)])
 (.cond 18
 .skip
 (.seq (.region [
  kO 20 (.bin .eql 5 (ci 101)),
  kO 18 (.mv 20)])
  (.cond 18
  .skip
  (.seq (.region [
   kO 21 (.bin .eql 5 (ci 105)),
   kO 18 (.mv 21)])
   (.cond 18
   .skip
   (.seq (.region [
    kO 22 (.bin .eql 5 (ci 109)),
    kO 18 (.mv 22)])
    (.cond 18
    .skip
    (.seq (.region [
     kO 23 (.bin .eql 5 (ci 113)),
     kO 18 (.mv 23)])
     (.cond 18
     .skip
     (.seq (.region [
      kO 24 (.bin .eql 5 (ci 127)),
      kO 18 (.mv 24)])
      (.cond 18
      .skip
      (.seq (.region [
       kO 25 (.bin .eql 5 (ci 129)),
       kO 18 (.mv 25)])
       (.cond 18
       .skip
       (.region [
        kO 26 (.bin .eql 5 (ci 131)),
        kO 18 (.mv 26)])))))))))))))))
 y1pr)
def y0h : CCode :=
  (.cond 6
 (.seq (.region [
  kO 2 (.mv (ci 1)),
  kO 3 (.mv (ci 1)),
  kO 4 (.mv (ci 1))])
  .ret)
 y1oy)
def y111 : CCode :=
  (.seq (.seq (.region [
 kO 7 (.bin .eql 5 (ci 96)),
 kO 6 (.mv 7)])
 (.cond 6
 .skip
 (.seq (.region [
  kO 8 (.bin .eql 5 (ci 100)),
  kO 6 (.mv 8)])
  (.cond 6
  .skip
  (.seq (.region [
   kO 9 (.bin .eql 5 (ci 104)),
   kO 6 (.mv 9)])
   (.cond 6
   .skip
   (.seq (.region [
    kO 10 (.bin .eql 5 (ci 108)),
    kO 6 (.mv 10)])
    (.cond 6
    .skip
    (.seq (.region [
     kO 11 (.bin .eql 5 (ci 112)),
     kO 6 (.mv 11)])
     (.cond 6
     .skip
     (.seq (.region [
      kO 12 (.bin .eql 5 (ci 120)),
      kO 6 (.mv 12)])
      (.cond 6
      .skip
      (.seq (.region [
       kO 13 (.bin .eql 5 (ci 122)),
       kO 6 (.mv 13)])
       (.cond 6
       .skip
       (.seq (.region [
        kO 14 (.bin .eql 5 (ci 124)),
        kO 6 (.mv 14)])
        (.cond 6
        .skip
        (.seq (.region [
         kO 15 (.bin .eql 5 (ci 126)),
         kO 6 (.mv 15)])
         (.cond 6
         .skip
         (.seq (.region [
          kO 16 (.bin .eql 5 (ci 128)),
          kO 6 (.mv 16)])
          (.cond 6
          .skip
          (.region [
           kO 17 (.bin .eql 5 (ci 130)),
           kO 6 (.mv 17)])))))))))))))))))))))
 y0h)
def y131 : CCode :=
  (.block 0 y111)
def y148 : CCode :=
  (.seq (.region [
 kO 5 (.mv 0)])
 y131)
def y16j : CCode :=
  (.seq y148
 y1do)
def y139 : CCode :=
  (.seq (.region [
 kO 2 (.mv (ci 0)),
 kO 3 (.mv (ci 0)),
 kO 4 (.mv (ci 0))])
 y16j)
def y2nc : CFunc :=
  ⟨1, true, 0, y139, [.t 2, .t 3, .t 4]⟩
def y29c : CCode :=
  (.seq (.region [
 kO 2 (.mv (.c (.bool false)))])
 (.seq (.region [
 kO 3 (.mv 0),
 kO 4 (.bin .neq 3 (.c (.str []))),
 kO 5 (.mv 4),
 kG 6 (.mv 0) 5 true,
 kG 7 (.call none true 44 [6]) 5 true,
 kG 8 (.mv 0) 5 true,
 kG 9 (.len 0 8) 5 true,
 kG 10 (.bin .eql 7 9) 5 true,
 kO 11 (.pick 5 10 (.c (.bool false))),
 kO 2 (.mv 11)])
 .ret))
def c_q8 : CFunc :=
  ⟨1, true, 0, y29c, [.t 2]⟩
def y1s0 : CCode :=
  (.seq (.region [
 kO 73 (.build [(.int .i64 0), (.int .i64 0), (.int .i64 0), (.int .i64 0)] []),
 kU (.st 4 2 73),
 kO 3 (.mv (.c (.bool false)))])
 .ret)
def y1is : CCode :=
  (.seq (.draw [
 kO 15 (.mv 4),
 kO 16 (.build [(.int .i64 0), (.int .i64 0), (.int .i64 0), (.int .i64 0)] [(0, 1, (ci (-1))), (1, 1, (ci 3)), (2, 1, 15), (3, 1, (ci (-1)))]),
 kO 17 (.fa 5 1),
 kO 18 (.ld false 1 17),
 kO 19 (.bin .eql 18 (ci 0)),
 kO 20 (.mv 19),
 kG 21 (.fa 5 1) 20 false,
 kG 22 (.ld false 1 21) 20 false,
 kG 23 (.bin .eql 22 (ci 1)) 20 false,
 kO 24 (.pick 20 (.c (.bool true)) 23),
 kU (.st 4 2 16),
 kO 3 (.mv 24)] [(7, 10)])
 .ret)
def y1wz : CCode :=
  (.seq (.seq (.region [
 kO 12 (.fa 3 1),
 kO 13 (.ld false 1 12),
 kO 14 (.bin .neq 13 (ci (-1)))])
 (.cond 14
 (.region [
  kO 4 (.mv (ci 3))])
 .skip))
 y1is)
def y1we : CCode :=
  (.seq (.region [
 kO 4 (.mv (ci (-1)))])
 y1wz)
def y1ic : CCode :=
  (.seq (.region [
 kO 30 (.mv 5),
 kO 31 (.build [(.int .i64 0), (.int .i64 0), (.int .i64 0), (.int .i64 0)] [(0, 1, (ci (-1))), (1, 1, 30), (2, 1, (ci (-1))), (3, 1, (ci (-1)))]),
 kU (.st 4 2 31),
 kO 3 (.mv (.c (.bool true)))])
 .ret)
def y1x9 : CCode :=
  (.seq (.seq (.region [
 kO 27 (.fa 2 1),
 kO 28 (.ld false 1 27),
 kO 29 (.bin .neq 28 (ci (-1)))])
 (.cond 29
 (.region [
  kO 5 (.mv (ci 0))])
 .skip))
 y1ic)
def y1i7 : CCode :=
  (.seq (.region [
 kO 5 (.mv (ci (-1)))])
 y1x9)
def y1z0 : CCode :=
  (.seq (.region [
 kO 40 (.fa 0 1),
 kO 41 (.ld false 1 40),
 kO 42 (.bin .eql 41 (ci 23)),
 kO 43 (.mv 42),
 kG 44 (.fa 0 1) 43 false,
 kG 45 (.ld false 1 44) 43 false,
 kG 46 (.bin .eql 45 (ci 26)) 43 false,
 kO 47 (.pick 43 (.c (.bool true)) 46),
 kO 48 (.mv 47),
 kG 49 (.fa 8 1) 48 false,
 kG 50 (.ld false 1 49) 48 false,
 kG 51 (.len 1 50) 48 false,
 kG 52 (.bin .gtr 51 (ci 0)) 48 false,
 kO 53 (.pick 48 (.c (.bool true)) 52),
 kO 7 (.mv 53)])
 (.seq (.draw [
 kO 54 (.mv 6),
 kO 55 (.build [(.int .i64 0), (.int .i64 0), (.int .i64 0), (.int .i64 0)] [(0, 1, 54), (1, 1, (ci (-1))), (2, 1, (ci (-1))), (3, 1, (ci (-1)))]),
 kO 56 (.mv 7),
 kO 57 (.mv 56),
 kG 58 (.fa 5 1) 57 true,
 kG 59 (.ld false 1 58) 57 true,
 kG 60 (.bin .geq 59 (ci 0)) 57 true,
 kG 61 (.mv 60) 57 true,
 kG 62 (.fa 0 1) 61 false,
 kG 63 (.ld false 1 62) 61 false,
 kG 64 (.bin .eql 63 (ci 25)) 61 false,
 kG 65 (.pick 61 (.c (.bool true)) 64) 57 true,
 kO 66 (.pick 57 65 (.c (.bool false))),
 kO 67 (.mv 66),
 kG 68 (.fa 8 1) 67 true,
 kG 69 (.ld false 1 68) 67 true,
 kG 70 (.len 1 69) 67 true,
 kG 71 (.bin .leq 70 (ci 21)) 67 true,
 kO 72 (.pick 67 71 (.c (.bool false))),
 kU (.st 4 2 55),
 kO 3 (.mv 72)] [(15, 19), (16, 19)])
 .ret))
def y1lt : CCode :=
  (.seq (.seq (.region [
 kO 37 (.fa 1 1),
 kO 38 (.ld false 1 37),
 kO 39 (.bin .neq 38 (ci (-1)))])
 (.cond 39
 (.region [
  kO 6 (.mv (ci 0))])
 .skip))
 y1z0)
def yy5 : CCode :=
  (.seq (.region [
 kO 6 (.mv (ci (-1)))])
 y1lt)
def y15h : CCode :=
  (.cond 32
 yy5
 .skip)
def y11m : CCode :=
  (.seq (.seq (.region [
 kO 33 (.bin .eql 9 (ci 23)),
 kO 32 (.mv 33)])
 (.cond 32
 .skip
 (.seq (.region [
  kO 34 (.bin .eql 9 (ci 24)),
  kO 32 (.mv 34)])
  (.cond 32
  .skip
  (.seq (.region [
   kO 35 (.bin .eql 9 (ci 25)),
   kO 32 (.mv 35)])
   (.cond 32
   .skip
   (.region [
    kO 36 (.bin .eql 9 (ci 26)),
    kO 32 (.mv 36)])))))))
 y15h)
def y18z : CCode :=
  (.cond 25
 y1i7
 y11m)
def y18v : CCode :=
  (.seq (.region [
 kO 26 (.bin .eql 9 (ci 30)),
 kO 25 (.mv 26)])
 y18z)
def y17e : CCode :=
  (.cond 10
 y1we
 y18v)
def y14o : CCode :=
  (.seq (.region [
 kO 11 (.bin .eql 9 (ci 29)),
 kO 10 (.mv 11)])
 y17e)
def y170 : CCode :=
  (.block 0 y14o)
def y13l : CCode :=
  (.seq (.region [
 kO 8 (.fa 0 1),
 kO 9 (.ld false 1 8)])
 y170)
def y16t : CCode :=
  (.seq y13l
 y1s0)
def yyw : CCode :=
  (.seq (.region [
 kO 1 (.box (some 0) 0),
 kO 2 (.new (some 1) [(.int .i64 0), (.int .i64 0), (.int .i64 0), (.int .i64 0)]),
 kO 3 (.mv (.c (.bool false)))])
 y16t)
def y2pl : CFunc :=
  ⟨1, true, 2, yyw, [.cell 2 true 4, .t 3]⟩
def y1gx : CCode :=
  (.seq (.region [
 kO 6 (.mv (.c (.int .i32 0)))])
 .ret)
def y1tp : CCode :=
  (.cond 23
 (.seq (.region [
  kO 26 (.mv 0),
  kO 27 (.bin .eql 26 (ci 112)),
  kO 28 (.mv 1),
  kO 29 (.cvi .i64 28),
  kO 30 (.mv 2),
  kO 31 (.cvi .i64 30),
  kO 32 (.call none true 132 [27, 29, 31]),
  kO 33 (.cvi .i32 32),
  kO 6 (.mv 33)])
  .ret)
 (.seq (.region [
  kO 35 (.bin .eql 7 (ci 120)),
  kO 34 (.mv 35)])
  (.cond 34
  (.seq (.region [
   kO 36 (.mv 1),
   kO 37 (.mv 2),
   kO 38 (.cvi .u32 37),
   kO 39 (.bin .and 38 (.c (.int .u32 31))),
   kO 40 (.bin .shl 36 39),
   kO 6 (.mv 40)])
   .ret)
  (.seq (.region [
   kO 42 (.bin .eql 7 (ci 122)),
   kO 41 (.mv 42)])
   (.cond 41
   (.seq (.region [
    kO 43 (.mv 1),
    kO 44 (.mv 2),
    kO 45 (.cvi .u32 44),
    kO 46 (.bin .and 45 (.c (.int .u32 31))),
    kO 47 (.bin .shr 43 46),
    kO 6 (.mv 47)])
    .ret)
   (.seq (.region [
    kO 49 (.bin .eql 7 (ci 124)),
    kO 48 (.mv 49)])
    (.cond 48
    (.seq (.region [
     kO 50 (.mv 1),
     kO 51 (.cvi .u32 50),
     kO 52 (.mv 2),
     kO 53 (.cvi .u32 52),
     kO 54 (.bin .and 53 (.c (.int .u32 31))),
     kO 55 (.bin .shr 51 54),
     kO 56 (.cvi .i32 55),
     kO 6 (.mv 56)])
     .ret)
    (.seq (.region [
     kO 58 (.bin .eql 7 (ci 126)),
     kO 57 (.mv 58)])
     (.cond 57
     (.seq (.region [
      kO 59 (.mv 1),
      kO 60 (.mv 2),
      kO 61 (.bin .and 59 60),
      kO 6 (.mv 61)])
      .ret)
     (.seq (.region [
      kO 63 (.bin .eql 7 (ci 128)),
      kO 62 (.mv 63)])
      (.cond 62
      (.seq (.region [
       kO 64 (.mv 1),
       kO 65 (.mv 2),
       kO 66 (.bin .or 64 65),
       kO 6 (.mv 66)])
       .ret)
      (.seq (.region [
       kO 68 (.bin .eql 7 (ci 130)),
       kO 67 (.mv 68)])
       (.cond 67
       (.seq (.region [
        kO 69 (.mv 1),
        kO 70 (.mv 2),
        kO 71 (.bin .xor 69 70),
        kO 6 (.mv 71)])
        .ret)
       .skip)))))))))))))
def y1t8 : CCode :=
  (.seq (.seq (.region [
 kO 24 (.bin .eql 7 (ci 108)),
 kO 23 (.mv 24)])
 (.cond 23
 .skip
 (.region [
  kO 25 (.bin .eql 7 (ci 112)),
  kO 23 (.mv 25)])))
 y1tp)
def y1fw : CCode :=
  (.cond 18
 (.seq (.region [
  kO 20 (.mv 1),
  kO 21 (.mv 2),
  kO 22 (.bin .mul 20 21),
  kO 6 (.mv 22)])
  .ret)
 y1t8)
def y1pe : CCode :=
  (.seq (.region [
 kO 19 (.bin .eql 7 (ci 104)),
 kO 18 (.mv 19)])
 y1fw)
def y1o2 : CCode :=
  (.cond 13
 (.seq (.region [
  kO 15 (.mv 1),
  kO 16 (.mv 2),
  kO 17 (.bin .sub 15 16),
  kO 6 (.mv 17)])
  .ret)
 y1pe)
def y1yt : CCode :=
  (.seq (.region [
 kO 14 (.bin .eql 7 (ci 100)),
 kO 13 (.mv 14)])
 y1o2)
def y1n3 : CCode :=
  (.cond 8
 (.seq (.region [
  kO 10 (.mv 1),
  kO 11 (.mv 2),
  kO 12 (.bin .add 10 11),
  kO 6 (.mv 12)])
  .ret)
 y1yt)
def y1mf : CCode :=
  (.seq (.region [
 kO 9 (.bin .eql 7 (ci 96)),
 kO 8 (.mv 9)])
 y1n3)
def y15o : CCode :=
  (.block 0 y1mf)
def y16p : CCode :=
  (.seq (.region [
 kO 7 (.mv 0)])
 y15o)
def y14s : CCode :=
  (.seq y16p
 y1gx)
def y17t : CCode :=
  (.seq (.region [
 kO 6 (.mv (.c (.int .i32 0)))])
 y14s)
def y2os : CFunc :=
  ⟨3, true, 0, y17t, [.t 6]⟩
def y1nm : CCode :=
  (.seq (.region [
 kO 6 (.mv (ci 0))])
 .ret)
def y1hc : CCode :=
  (.cond 23
 (.seq (.region [
  kO 26 (.mv 0),
  kO 27 (.bin .eql 26 (ci 113)),
  kO 28 (.mv 1),
  kO 29 (.mv 2),
  kO 30 (.call none true 132 [27, 28, 29]),
  kO 6 (.mv 30)])
  .ret)
 (.seq (.region [
  kO 32 (.bin .eql 7 (ci 121)),
  kO 31 (.mv 32)])
  (.cond 31
  (.seq (.region [
   kO 33 (.mv 1),
   kO 34 (.mv 2),
   kO 35 (.cvi .u64 34),
   kO 36 (.bin .and 35 (.c (.int .u64 63))),
   kO 37 (.bin .shl 33 36),
   kO 6 (.mv 37)])
   .ret)
  (.seq (.region [
   kO 39 (.bin .eql 7 (ci 123)),
   kO 38 (.mv 39)])
   (.cond 38
   (.seq (.region [
    kO 40 (.mv 1),
    kO 41 (.mv 2),
    kO 42 (.cvi .u64 41),
    kO 43 (.bin .and 42 (.c (.int .u64 63))),
    kO 44 (.bin .shr 40 43),
    kO 6 (.mv 44)])
    .ret)
   (.seq (.region [
    kO 46 (.bin .eql 7 (ci 125)),
    kO 45 (.mv 46)])
    (.cond 45
    (.seq (.region [
     kO 47 (.mv 1),
     kO 48 (.cvi .u64 47),
     kO 49 (.mv 2),
     kO 50 (.cvi .u64 49),
     kO 51 (.bin .and 50 (.c (.int .u64 63))),
     kO 52 (.bin .shr 48 51),
     kO 53 (.cvi .i64 52),
     kO 6 (.mv 53)])
     .ret)
    (.seq (.region [
     kO 55 (.bin .eql 7 (ci 127)),
     kO 54 (.mv 55)])
     (.cond 54
     (.seq (.region [
      kO 56 (.mv 1),
      kO 57 (.mv 2),
      kO 58 (.bin .and 56 57),
      kO 6 (.mv 58)])
      .ret)
     (.seq (.region [
      kO 60 (.bin .eql 7 (ci 129)),
      kO 59 (.mv 60)])
      (.cond 59
      (.seq (.region [
       kO 61 (.mv 1),
       kO 62 (.mv 2),
       kO 63 (.bin .or 61 62),
       kO 6 (.mv 63)])
       .ret)
      (.seq (.region [
       kO 65 (.bin .eql 7 (ci 131)),
       kO 64 (.mv 65)])
       (.cond 64
       (.seq (.region [
        kO 66 (.mv 1),
        kO 67 (.mv 2),
        kO 68 (.bin .xor 66 67),
        kO 6 (.mv 68)])
        .ret)
       .skip)))))))))))))
def y1yy : CCode :=
  (.seq (.seq (.region [
 kO 24 (.bin .eql 7 (ci 109)),
 kO 23 (.mv 24)])
 (.cond 23
 .skip
 (.region [
  kO 25 (.bin .eql 7 (ci 113)),
  kO 23 (.mv 25)])))
 y1hc)
def y1lj : CCode :=
  (.cond 18
 (.seq (.region [
  kO 20 (.mv 1),
  kO 21 (.mv 2),
  kO 22 (.bin .mul 20 21),
  kO 6 (.mv 22)])
  .ret)
 y1yy)
def y1w7 : CCode :=
  (.seq (.region [
 kO 19 (.bin .eql 7 (ci 105)),
 kO 18 (.mv 19)])
 y1lj)
def y1mw : CCode :=
  (.cond 13
 (.seq (.region [
  kO 15 (.mv 1),
  kO 16 (.mv 2),
  kO 17 (.bin .sub 15 16),
  kO 6 (.mv 17)])
  .ret)
 y1w7)
def y1ig : CCode :=
  (.seq (.region [
 kO 14 (.bin .eql 7 (ci 101)),
 kO 13 (.mv 14)])
 y1mw)
def y1o5 : CCode :=
  (.cond 8
 (.seq (.region [
  kO 10 (.mv 1),
  kO 11 (.mv 2),
  kO 12 (.bin .add 10 11),
  kO 6 (.mv 12)])
  .ret)
 y1ig)
def y1lq : CCode :=
  (.seq (.region [
 kO 9 (.bin .eql 7 (ci 97)),
 kO 8 (.mv 9)])
 y1o5)
def y12q : CCode :=
  (.block 0 y1lq)
def y13e : CCode :=
  (.seq (.region [
 kO 7 (.mv 0)])
 y12q)
def y12h : CCode :=
  (.seq y13e
 y1nm)
def y17d : CCode :=
  (.seq (.region [
 kO 6 (.mv (ci 0))])
 y12h)
def y2pv : CFunc :=
  ⟨3, true, 0, y17d, [.t 6]⟩
def y124 : CCode :=
  (.seq (.region [
 kO 24 (.mv 0),
 kO 25 (.bin .neq 24 (.c (.str []))),
 kO 26 (.mv 25),
 kG 27 (.mv 0) 26 true,
 kG 28 (.len 0 27) 26 true,
 kG 29 (.bin .leq 28 (ci 60)) 26 true,
 kO 30 (.pick 26 29 (.c (.bool false))),
 kO 4 (.mv 30)])
 .ret)
def y12t : CCode :=
  (.region [
 kO 14 (.mv 6),
 kO 15 (.bin .add 14 (ci 1)),
 kO 6 (.mv 15)])
def y173 : CCode :=
  (.seq (.block 1 (.seq (.region [
 kO 16 (.mv 5),
 kO 17 (.mv 0),
 kO 18 (.mv 6),
 kO 19 (.mv 6),
 kO 20 (.bin .add 19 (ci 1)),
 kO 21 (.sls 17 (some 18) (some 20)),
 kO 22 (.call none true 53 [16, 21]),
 kO 23 (.un .not 22)])
 (.cond 23
 (.seq (.region [
  kO 4 (.mv (.c (.bool false)))])
  .ret)
 .skip)))
 y12t)
def y16b : CCode :=
  (.seq (.seq (.region [
 kO 10 (.mv 6),
 kO 11 (.mv 0),
 kO 12 (.len 0 11),
 kO 13 (.bin .lss 10 12)])
 (.cond 13
 .skip
 (.exit 0)))
 y173)
def yj5 : CCode :=
  (.loop [0, 5, 6] y16b)
def y185 : CCode :=
  (.block 0 yj5)
def y0w : CCode :=
  (.seq (.region [
 kO 6 (.mv (ci 0))])
 y185)
def y0q : CCode :=
  (.seq y0w
 y124)
def y17o : CCode :=
  (.seq (.seq (.region [
 kO 7 (.mv 1)])
 (.cond 7
 (.region [
  kO 8 (.mv 5),
  kO 9 (.bin .add 8 (.c (.str [60, 62]))),
  kO 5 (.mv 9)])
 .skip))
 y0q)
def yr5 : CCode :=
  (.seq (.region [
 kO 5 (.mv (.c (.str [97, 98, 99, 100, 101, 102, 103, 104, 105, 106, 107, 108, 109, 110, 111, 112, 113, 114, 115, 116, 117, 118, 119, 120, 121, 122, 65, 66, 67, 68, 69, 70, 71, 72, 73, 74, 75, 76, 77, 78, 79, 80, 81, 82, 83, 84, 85, 86, 87, 88, 89, 90, 48, 49, 50, 51, 52, 53, 54, 55, 56, 57, 95, 36, 47])))])
 y17o)
def yqg : CCode :=
  (.seq (.region [
 kO 4 (.mv (.c (.bool false)))])
 yr5)
def y2a5 : CFunc :=
  ⟨2, true, 0, yqg, [.t 4]⟩
def y29p : CCode :=
  (.seq (.region [
 kO 2 (.mv (ci 0))])
 .ret)
def y29b : CCode :=
  (.region [
 kO 41 (.mv 4),
 kO 42 (.bin .add 41 (ci 1)),
 kO 4 (.mv 42)])
def y290 : CCode :=
  (.seq (.region [
 kO 2 (.mv (ci 0))])
 .ret)
def y29z : CCode :=
  (.seq (.seq (.region [
 kO 47 (.mv 0),
 kO 48 (.mv 3),
 kO 49 (.bin .add 48 (ci 1)),
 kO 50 (.mv 4),
 kO 51 (.sls 47 (some 49) (some 50)),
 kO 52 (.call none true 60 [51, (.c (.bool false))])])
 (.cond 52
 (.seq (.region [
  kO 53 (.mv 4),
  kO 54 (.bin .add 53 (ci 1)),
  kO 2 (.mv 54)])
  .ret)
 .skip))
 y290)
def y28z : CCode :=
  (.cond 46
 y29z
 .skip)
def y298 : CCode :=
  (.seq (.region [
 kO 43 (.mv 0),
 kO 44 (.mv 4),
 kO 45 (.ixstr 43 44),
 kO 46 (.bin .eql 45 (.c (.int .u8 59)))])
 y28z)
def y2ag : CCode :=
  (.block 4 y298)
def y29w : CCode :=
  (.seq y2ag
 y29b)
def y1jw : CCode :=
  (.seq (.seq (.region [
 kO 37 (.mv 4),
 kO 38 (.mv 0),
 kO 39 (.len 0 38),
 kO 40 (.bin .lss 37 39)])
 (.cond 40
 .skip
 (.exit 3)))
 y29w)
def ywe : CCode :=
  (.loop [0, 3, 4] y1jw)
def y1hy : CCode :=
  (.block 3 ywe)
def y1re : CCode :=
  (.seq (.region [
 kO 35 (.mv 3),
 kO 36 (.bin .add 35 (ci 1)),
 kO 4 (.mv 36)])
 y1hy)
def y1ur : CCode :=
  (.cond 33
 y1re
 .skip)
def y1vu : CCode :=
  (.seq (.region [
 kO 34 (.bin .eql 27 (.c (.int .u8 76))),
 kO 33 (.mv 34)])
 y1ur)
def y1za : CCode :=
  (.cond 28
 (.seq (.region [
  kO 31 (.mv 3),
  kO 32 (.bin .add 31 (ci 1)),
  kO 2 (.mv 32)])
  .ret)
 y1vu)
def y1jm : CCode :=
  (.seq (.seq (.region [
 kO 29 (.bin .eql 27 (.c (.int .u8 73))),
 kO 28 (.mv 29)])
 (.cond 28
 .skip
 (.region [
  kO 30 (.bin .eql 27 (.c (.int .u8 74))),
  kO 28 (.mv 30)])))
 y1za)
def y1ry : CCode :=
  (.block 2 y1jm)
def y1f9 : CCode :=
  (.seq (.region [
 kO 25 (.mv 0),
 kO 26 (.mv 3),
 kO 27 (.ixstr 25 26)])
 y1ry)
def y1zb : CCode :=
  (.seq y1f9
 y29p)
def y1u7 : CCode :=
  (.seq (.seq (.region [
 kO 17 (.mv 3),
 kO 18 (.bin .gtr 17 (ci 8)),
 kO 19 (.mv 18),
 kG 20 (.mv 3) 19 false,
 kG 21 (.mv 0) 19 false,
 kG 22 (.len 0 21) 19 false,
 kG 23 (.bin .eql 20 22) 19 false,
 kO 24 (.pick 19 (.c (.bool true)) 23)])
 (.cond 24
 (.seq (.region [
  kO 2 (.mv (ci 0))])
  .ret)
 .skip))
 y1zb)
def y1ue : CCode :=
  (.block 1 (.region [
 kO 15 (.mv 3),
 kO 16 (.bin .add 15 (ci 1)),
 kO 3 (.mv 16)]))
def y1j6 : CCode :=
  (.seq (.seq (.region [
 kO 5 (.mv 3),
 kO 6 (.mv 0),
 kO 7 (.len 0 6),
 kO 8 (.bin .lss 5 7),
 kO 9 (.mv 8),
 kG 10 (.mv 0) 9 true,
 kG 11 (.mv 3) 9 true,
 kG 12 (.ixstr 10 11) 9 true,
 kG 13 (.bin .eql 12 (.c (.int .u8 91))) 9 true,
 kO 14 (.pick 9 13 (.c (.bool false)))])
 (.cond 14
 .skip
 (.exit 0)))
 y1ue)
def yov : CCode :=
  (.loop [0, 3] y1j6)
def y1sm : CCode :=
  (.block 0 yov)
def y1gv : CCode :=
  (.seq y1sm
 y1u7)
def y1h9 : CCode :=
  (.seq (.region [
 kO 3 (.mv (ci 0))])
 y1gv)
def y1yp : CCode :=
  (.seq (.region [
 kO 2 (.mv (ci 0))])
 y1h9)
def c_q9 : CFunc :=
  ⟨1, true, 0, y1yp, [.t 2]⟩
def y1gq : CCode :=
  (.seq (.region [
 kO 21 (.mv 1),
 kO 22 (.mv 2),
 kO 23 (.bin .quo 21 22),
 kO 6 (.mv 23)])
 .ret)
def y1dv : CCode :=
  (.seq (.region [
 kO 14 (.mv 1),
 kO 15 (.un .neg 14),
 kO 6 (.mv 15)])
 .ret)
def y1fd : CCode :=
  (.seq (.seq (.region [
 kO 13 (.mv 0)])
 (.cond 13
 (.seq (.region [
  kO 6 (.mv (ci 0))])
  .ret)
 .skip))
 y1dv)
def y1ja : CCode :=
  (.cond 10
 y1fd
 (.seq (.region [
  kO 17 (.mv 0),
  kO 16 (.mv 17)])
  (.cond 16
  (.seq (.region [
   kO 18 (.mv 1),
   kO 19 (.mv 2),
   kO 20 (.bin .rem 18 19),
   kO 6 (.mv 20)])
   .ret)
  .skip)))
def y1xy : CCode :=
  (.seq (.region [
 kO 11 (.mv 2),
 kO 12 (.bin .eql 11 (ci (-1))),
 kO 10 (.mv 12)])
 y1ja)
def y1uq : CCode :=
  (.cond 7
 (.seq (.region [
  kO 6 (.mv (ci 0))])
  .ret)
 y1xy)
def y1u8 : CCode :=
  (.seq (.region [
 kO 8 (.mv 2),
 kO 9 (.bin .eql 8 (ci 0)),
 kO 7 (.mv 9)])
 y1uq)
def y1wd : CCode :=
  (.block 0 y1u8)
def y1qa : CCode :=
  (.seq y1wd
 y1gq)
def yzr : CCode :=
  (.seq (.region [
 kO 6 (.mv (ci 0))])
 y1qa)
def y2p3 : CFunc :=
  ⟨3, true, 0, yzr, [.t 6]⟩
def y29l : CCode :=
  (.seq (.region [
 kO 4 (.mv (.c (.bool true)))])
 .ret)
def y296 : CCode :=
  (.region [
 kO 71 (.bin .add 19 (ci 1)),
 kO 19 (.mv 71)])
def y29d : CCode :=
  (.seq (.block 1 (.seq (.region [
 kO 21 (.ixs 1 17 19),
 kO 22 (.ld false 1 21),
 kO 6 (.mv 22)])
 (.seq (.region [
 kO 23 (.mv 6),
 kO 24 (.bin .geq 23 (.c (.int .u8 97))),
 kO 25 (.mv 24),
 kG 26 (.mv 6) 25 true,
 kG 27 (.bin .leq 26 (.c (.int .u8 122))) 25 true,
 kO 28 (.pick 25 27 (.c (.bool false))),
 kO 29 (.mv 28),
 kG 30 (.mv 6) 29 false,
 kG 31 (.bin .geq 30 (.c (.int .u8 65))) 29 false,
 kG 32 (.mv 31) 29 false,
 kG 33 (.mv 6) 32 true,
 kG 34 (.bin .leq 33 (.c (.int .u8 90))) 32 true,
 kG 35 (.pick 32 34 (.c (.bool false))) 29 false,
 kO 36 (.pick 29 (.c (.bool true)) 35),
 kO 37 (.mv 36),
 kG 38 (.mv 6) 37 false,
 kG 39 (.bin .geq 38 (.c (.int .u8 48))) 37 false,
 kG 40 (.mv 39) 37 false,
 kG 41 (.mv 6) 40 true,
 kG 42 (.bin .leq 41 (.c (.int .u8 57))) 40 true,
 kG 43 (.pick 40 42 (.c (.bool false))) 37 false,
 kO 44 (.pick 37 (.c (.bool true)) 43),
 kO 45 (.mv 44),
 kG 46 (.mv 6) 45 false,
 kG 47 (.bin .eql 46 (.c (.int .u8 95))) 45 false,
 kO 48 (.pick 45 (.c (.bool true)) 47),
 kO 49 (.mv 48),
 kG 50 (.mv 6) 49 false,
 kG 51 (.bin .eql 50 (.c (.int .u8 36))) 49 false,
 kO 52 (.pick 49 (.c (.bool true)) 51),
 kO 53 (.mv 52),
 kG 54 (.mv 6) 53 false,
 kG 55 (.bin .eql 54 (.c (.int .u8 47))) 53 false,
 kO 56 (.pick 53 (.c (.bool true)) 55),
 kO 7 (.mv 56)])
 (.seq (.region [
 kO 57 (.mv 7),
 kO 58 (.un .not 57),
 kO 59 (.mv 58),
 kG 60 (.mv 1) 59 true,
 kG 61 (.mv 60) 59 true,
 kG 62 (.mv 6) 61 true,
 kG 63 (.bin .eql 62 (.c (.int .u8 60))) 61 true,
 kG 64 (.mv 63) 61 true,
 kG 65 (.mv 6) 64 false,
 kG 66 (.bin .eql 65 (.c (.int .u8 62))) 64 false,
 kG 67 (.pick 64 (.c (.bool true)) 66) 61 true,
 kG 68 (.pick 61 67 (.c (.bool false))) 59 true,
 kG 69 (.un .not 68) 59 true,
 kO 70 (.pick 59 69 (.c (.bool false)))])
 (.cond 70
 (.seq (.region [
  kO 4 (.mv (.c (.bool false)))])
  .ret)
 .skip)))))
 y296)
def y28l : CCode :=
  (.seq (.cond 20
 .skip
 (.exit 0))
 y29d)
def y2a4 : CCode :=
  (.seq (.region [
 kO 20 (.bin .lss 19 18)])
 y28l)
def ywg : CCode :=
  (.loop [1, 17, 18, 19] y2a4)
def y2a7 : CCode :=
  (.block 0 ywg)
def y2aa : CCode :=
  (.seq (.region [
 kO 16 (.mv 0),
 kO 17 (.s2b (some 0) 16),
 kO 18 (.len 1 17),
 kO 19 (.mv (ci 0))])
 y2a7)
def y2an : CCode :=
  (.seq y2aa
 y29l)
def y1ia : CCode :=
  (.seq (.seq (.region [
 kO 8 (.mv 0),
 kO 9 (.len 0 8),
 kO 10 (.bin .lss 9 (ci 1)),
 kO 11 (.mv 10),
 kG 12 (.mv 0) 11 false,
 kG 13 (.len 0 12) 11 false,
 kG 14 (.bin .gtr 13 (ci 60)) 11 false,
 kO 15 (.pick 11 (.c (.bool true)) 14)])
 (.cond 15
 (.seq (.region [
  kO 4 (.mv (.c (.bool false)))])
  .ret)
 .skip))
 y2an)
def y1o7 : CCode :=
  (.seq (.region [
 kO 4 (.mv (.c (.bool false)))])
 y1ia)
def c_q7 : CFunc :=
  ⟨2, true, 1, y1o7, [.t 4]⟩
def tbl : List (Option Nat) := [none, none, none, none, none, none, none, none, none, none, none, none, none, some 123, none, none, some 13, some 14, some 8, none, none, none, none, none, some 124, none, some 125, none, none, none, none, none, some 29, some 77, none, none, some 10, some 9, some 39, some 40, some 41, some 11, some 28, some 24, some 46, some 63, some 22, none, none, none, none, none, none, none, some 79, none, some 81, none, none, none, some 102, some 126, none, none, none, none, none, none, some 25, some 48, some 42, some 64, some 23, some 49, some 78, some 80, none, none, none, none, none, none, some 17, some 45, some 47, none, none, none, none, none, some 18, none, none, none, none, none, none, some 127, some 128, some 129, none, none, none, none, none, some 38, some 65, some 66, some 67, some 68, none, none, none, some 50, some 37, some 51, none, none, none, none, none, some 130, some 131, none, none, none, none, some 69, none, none, some 44, some 132, none, none, some 53, some 60]
def fnE : Nat → Option CFunc
  | 8 => some y2pk
  | 9 => some y2o3
  | 10 => some y2ou
  | 11 => some y293
  | 13 => some y2pw
  | 14 => some y2a9
  | 17 => some y2o9
  | 18 => some y2px
  | 22 => some y2qb
  | 23 => some y29t
  | 24 => some y2kq
  | 25 => some y2a6
  | 28 => some y292
  | 29 => some y291
  | 37 => some c_q8
  | 38 => some y29k
  | 39 => some y297
  | 40 => some y29j
  | 41 => some y29g
  | 42 => some y29y
  | 44 => some c_q9
  | 45 => some y28s
  | 46 => some y29m
  | 47 => some y2js
  | 48 => some y294
  | 49 => some y28p
  | 50 => some y2nc
  | 51 => some y2pl
  | 60 => some c_q7
  | 63 => some y2k4
  | 64 => some y29i
  | 65 => some y28t
  | 66 => some y2ln
  | 67 => some y29f
  | 68 => some y28m
  | 69 => some y2a5
  | 77 => some y2l6
  | 78 => some y2af
  | 79 => some y2pg
  | 80 => some y2kt
  | 81 => some y2qg
  | 102 => some y2no
  | 123 => some y2qk
  | 124 => some y2sa
  | 125 => some y2ly
  | 126 => some y2lq
  | 127 => some y2q3
  | 128 => some y2lb
  | 129 => some y2lz
  | 130 => some y2os
  | 131 => some y2pv
  | 132 => some y2p3
  | _ => none
abbrev nm : Nat → Option Nat := nmOf tbl
def E : Env := envX fnE [80, 126] xpC
abbrev T1 (c : CCode) (n : St → OX) (e : Nat → St → OX) (r : List CRes) (k : St → OX) : Prop := ∀ s, W E 0 c s n e (finP r) = k s
abbrev T0 (c : CCode) (r : List CRes) (k : St → OX) : Prop := T1 c (finP r) xN r k
theorem sq {a b : CCode} {n k k' : St → OX} {e : Nat → St → OX} {r : List CRes} (h : T1 b n e r k) (h' : T1 a k e r k') : T1 (.seq a b) n e r k' := fun s => (y7p h).trans (h' s)
theorem ok13 : FnOk Go.Proofs.Try.prog nm fnE 13 123 := .of Go.Proofs.Try.func13 (by kernel_rfl) (by kernel_rfl) rfl (by kernel_rfl)
theorem ok16 : FnOk Go.Proofs.Try.prog nm fnE 16 13 := .of Go.Proofs.Try.func16 (by kernel_rfl) (by kernel_rfl) rfl (by kernel_rfl)
theorem ok17 : FnOk Go.Proofs.Try.prog nm fnE 17 14 := .of Go.Proofs.Try.func17 (by kernel_rfl) (by kernel_rfl) rfl (by kernel_rfl)
theorem ok18 : FnOk Go.Proofs.Try.prog nm fnE 18 8 := .of Go.Proofs.Try.func18 (by kernel_rfl) (by kernel_rfl) rfl (by kernel_rfl)
theorem ok24 : FnOk Go.Proofs.Try.prog nm fnE 24 124 := .of Go.Proofs.Try.func24 (by kernel_rfl) (by kernel_rfl) rfl (by kernel_rfl)
theorem ok26 : FnOk Go.Proofs.Try.prog nm fnE 26 125 := .of Go.Proofs.Try.func26 (by kernel_rfl) (by kernel_rfl) rfl (by kernel_rfl)
theorem ok32 : FnOk Go.Proofs.Try.prog nm fnE 32 29 := .of Go.Proofs.Try.func32 (by kernel_rfl) (by kernel_rfl) rfl (by kernel_rfl)
theorem ok33 : FnOk Go.Proofs.Try.prog nm fnE 33 77 := .of Go.Proofs.Try.func33 (by kernel_rfl) (by kernel_rfl) rfl (by kernel_rfl)
theorem ok36 : FnOk Go.Proofs.Try.prog nm fnE 36 10 := .of Go.Proofs.Try.func36 (by kernel_rfl) (by kernel_rfl) rfl (by kernel_rfl)
theorem ok37 : FnOk Go.Proofs.Try.prog nm fnE 37 9 := .of Go.Proofs.Try.func37 (by kernel_rfl) (by kernel_rfl) rfl (by kernel_rfl)
theorem ok38 : FnOk Go.Proofs.Try.prog nm fnE 38 39 := .of Go.Proofs.Try.func38 (by kernel_rfl) (by kernel_rfl) rfl (by kernel_rfl)
theorem ok39 : FnOk Go.Proofs.Try.prog nm fnE 39 40 := .of Go.Proofs.Try.func39 (by kernel_rfl) (by kernel_rfl) rfl (by kernel_rfl)
theorem ok40 : FnOk Go.Proofs.Try.prog nm fnE 40 41 := .of Go.Proofs.Try.func40 (by kernel_rfl) (by kernel_rfl) rfl (by kernel_rfl)
theorem ok41 : FnOk Go.Proofs.Try.prog nm fnE 41 11 := .of Go.Proofs.Try.func41 (by kernel_rfl) (by kernel_rfl) rfl (by kernel_rfl)
theorem ok42 : FnOk Go.Proofs.Try.prog nm fnE 42 28 := .of Go.Proofs.Try.func42 (by kernel_rfl) (by kernel_rfl) rfl (by kernel_rfl)
theorem ok43 : FnOk Go.Proofs.Try.prog nm fnE 43 24 := .of Go.Proofs.Try.func43 (by kernel_rfl) (by kernel_rfl) rfl (by kernel_rfl)
theorem ok44 : FnOk Go.Proofs.Try.prog nm fnE 44 46 := .of Go.Proofs.Try.func44 (by kernel_rfl) (by kernel_rfl) rfl (by kernel_rfl)
theorem ok45 : FnOk Go.Proofs.Try.prog nm fnE 45 63 := .of Go.Proofs.Try.func45 (by kernel_rfl) (by kernel_rfl) rfl (by kernel_rfl)
theorem ok46 : FnOk Go.Proofs.Try.prog nm fnE 46 22 := .of Go.Proofs.Try.func46 (by kernel_rfl) (by kernel_rfl) rfl (by kernel_rfl)
theorem ok54 : FnOk Go.Proofs.Try.prog nm fnE 54 79 := .of Go.Proofs.Try.func54 (by kernel_rfl) (by kernel_rfl) rfl (by kernel_rfl)
theorem ok56 : FnOk Go.Proofs.Try.prog nm fnE 56 81 := .of Go.Proofs.Try.func56 (by kernel_rfl) (by kernel_rfl) rfl (by kernel_rfl)
theorem ok60 : FnOk Go.Proofs.Try.prog nm fnE 60 102 := .of Go.Proofs.Try.func60 (by kernel_rfl) (by kernel_rfl) rfl (by kernel_rfl)
theorem ok61 : FnOk Go.Proofs.Try.prog nm fnE 61 126 := .of Go.Proofs.Try.func61 (by kernel_rfl) (by kernel_rfl) rfl (by kernel_rfl)
theorem ok68 : FnOk Go.Proofs.Try.prog nm fnE 68 25 := .of Go.Proofs.Try.func68 (by kernel_rfl) (by kernel_rfl) rfl (by kernel_rfl)
theorem ok69 : FnOk Go.Proofs.Try.prog nm fnE 69 48 := .of Go.Proofs.Try.func69 (by kernel_rfl) (by kernel_rfl) rfl (by kernel_rfl)
theorem ok70 : FnOk Go.Proofs.Try.prog nm fnE 70 42 := .of Go.Proofs.Try.func70 (by kernel_rfl) (by kernel_rfl) rfl (by kernel_rfl)
theorem ok71 : FnOk Go.Proofs.Try.prog nm fnE 71 64 := .of Go.Proofs.Try.func71 (by kernel_rfl) (by kernel_rfl) rfl (by kernel_rfl)
theorem ok72 : FnOk Go.Proofs.Try.prog nm fnE 72 23 := .of Go.Proofs.Try.func72 (by kernel_rfl) (by kernel_rfl) rfl (by kernel_rfl)
theorem ok73 : FnOk Go.Proofs.Try.prog nm fnE 73 49 := .of Go.Proofs.Try.func73 (by kernel_rfl) (by kernel_rfl) rfl (by kernel_rfl)
theorem ok74 : FnOk Go.Proofs.Try.prog nm fnE 74 78 := .of Go.Proofs.Try.func74 (by kernel_rfl) (by kernel_rfl) rfl (by kernel_rfl)
theorem ok75 : FnOk Go.Proofs.Try.prog nm fnE 75 80 := .of Go.Proofs.Try.func75 (by kernel_rfl) (by kernel_rfl) rfl (by kernel_rfl)
theorem ok82 : FnOk Go.Proofs.Try.prog nm fnE 82 17 := .of Go.Proofs.Try.func82 (by kernel_rfl) (by kernel_rfl) rfl (by kernel_rfl)
theorem ok83 : FnOk Go.Proofs.Try.prog nm fnE 83 45 := .of Go.Proofs.Try.func83 (by kernel_rfl) (by kernel_rfl) rfl (by kernel_rfl)
theorem ok84 : FnOk Go.Proofs.Try.prog nm fnE 84 47 := .of Go.Proofs.Try.func84 (by kernel_rfl) (by kernel_rfl) rfl (by kernel_rfl)
theorem ok90 : FnOk Go.Proofs.Try.prog nm fnE 90 18 := .of Go.Proofs.Try.func90 (by kernel_rfl) (by kernel_rfl) rfl (by kernel_rfl)
theorem ok97 : FnOk Go.Proofs.Try.prog nm fnE 97 127 := .of Go.Proofs.Try.func97 (by kernel_rfl) (by kernel_rfl) rfl (by kernel_rfl)
theorem ok98 : FnOk Go.Proofs.Try.prog nm fnE 98 128 := .of Go.Proofs.Try.func98 (by kernel_rfl) (by kernel_rfl) rfl (by kernel_rfl)
theorem ok99 : FnOk Go.Proofs.Try.prog nm fnE 99 129 := .of Go.Proofs.Try.func99 (by kernel_rfl) (by kernel_rfl) rfl (by kernel_rfl)
theorem y2s6 : FnOk Go.Proofs.Try.prog nm fnE 105 38 := .of Go.Proofs.Try.func105 (by kernel_rfl) (by kernel_rfl) rfl (by kernel_rfl)
theorem y2rn : FnOk Go.Proofs.Try.prog nm fnE 106 65 := .of Go.Proofs.Try.func106 (by kernel_rfl) (by kernel_rfl) rfl (by kernel_rfl)
theorem y2tb : FnOk Go.Proofs.Try.prog nm fnE 107 66 := .of Go.Proofs.Try.func107 (by kernel_rfl) (by kernel_rfl) rfl (by kernel_rfl)
theorem y2sh : FnOk Go.Proofs.Try.prog nm fnE 108 67 := .of Go.Proofs.Try.func108 (by kernel_rfl) (by kernel_rfl) rfl (by kernel_rfl)
theorem y2sn : FnOk Go.Proofs.Try.prog nm fnE 109 68 := .of Go.Proofs.Try.func109 (by kernel_rfl) (by kernel_rfl) rfl (by kernel_rfl)
theorem y2sv : FnOk Go.Proofs.Try.prog nm fnE 113 50 := .of Go.Proofs.Try.func113 (by kernel_rfl) (by kernel_rfl) rfl (by kernel_rfl)
theorem y2uk : FnOk Go.Proofs.Try.prog nm fnE 114 37 := .of Go.Proofs.Try.func114 (by kernel_rfl) (by kernel_rfl) rfl (by kernel_rfl)
theorem y2u9 : FnOk Go.Proofs.Try.prog nm fnE 115 51 := .of Go.Proofs.Try.func115 (by kernel_rfl) (by kernel_rfl) rfl (by kernel_rfl)
theorem y2tj : FnOk Go.Proofs.Try.prog nm fnE 121 130 := .of Go.Proofs.Try.func121 (by kernel_rfl) (by kernel_rfl) rfl (by kernel_rfl)
theorem y2tn : FnOk Go.Proofs.Try.prog nm fnE 122 131 := .of Go.Proofs.Try.func122 (by kernel_rfl) (by kernel_rfl) rfl (by kernel_rfl)
theorem y2us : FnOk Go.Proofs.Try.prog nm fnE 127 69 := .of Go.Proofs.Try.func127 (by kernel_rfl) (by kernel_rfl) rfl (by kernel_rfl)
theorem y2sr : FnOk Go.Proofs.Try.prog nm fnE 130 44 := .of Go.Proofs.Try.func130 (by kernel_rfl) (by kernel_rfl) rfl (by kernel_rfl)
theorem y2t5 : FnOk Go.Proofs.Try.prog nm fnE 131 132 := .of Go.Proofs.Try.func131 (by kernel_rfl) (by kernel_rfl) rfl (by kernel_rfl)
theorem y2sx : FnOk Go.Proofs.Try.prog nm fnE 134 53 := .ext Go.Proofs.Try.func134 (by kernel_rfl) (by kernel_rfl) rfl
theorem y2tx : FnOk Go.Proofs.Try.prog nm fnE 135 60 := .of Go.Proofs.Try.func135 (by kernel_rfl) (by kernel_rfl) rfl (by kernel_rfl)
theorem y2ta : AllF Go.Proofs.Try.prog nm fnE 0 tbl :=
  ⟨ok13, ok16, ok17, ok18, ok24, ok26, ok32, ok33, ok36, ok37, ok38, ok39, ok40, ok41, ok42, ok43, ok44, ok45, ok46, ok54, ok56, ok60, ok61, ok68, ok69, ok70, ok71, ok72, ok73, ok74, ok75, ok82, ok83, ok84, ok90, ok97, ok98, ok99, y2s6, y2rn, y2tb, y2sh, y2sn, y2sv, y2uk, y2u9, y2tj, y2tn, y2us, y2sr, y2t5, y2sx, y2tx, trivial⟩
theorem y2t3 : EnvOk Go.Proofs.Try.prog nm E := y2gl (by kernel_rfl) y2ta (.contains (f := 134) (y2dn (by kernel_rfl)) Go.Proofs.Try.strings_Contains_one)
end Go.Vm
