/- The machine's form of functions, each checked against the translation, and the environment that they make. -/
import Derived.Test.YtgbajicpokolcaaVc
import Derived.Test.YtgbajicpokolcaaProg
import Derived.Test.YtgbajicpokolcaaSd
import Derived.KernelRfl
set_option linter.unusedSimpArgs false
set_option linter.unusedVariables false
set_option linter.unusedSectionVars false
namespace Go.Vm
def y1fh : CCode :=
  (.seq (.region [
 kO 30 (.ld true 5 3),
 kO 31 (.call none true 29 [30]),
 kO 32 (.bin .eql 31 (ci 0)),
 kO 33 (.mv 32),
 kG 34 (.fa 3 3) 33 true,
 kG 35 (.ld false 1 34) 33 true,
 kG 36 (.len 1 35) 33 true,
 kG 37 (.fa 3 1) 33 true,
 kG 38 (.ld false 1 37) 33 true,
 kG 39 (.len 1 38) 33 true,
 kG 40 (.bin .eql 36 39) 33 true,
 kO 41 (.pick 33 40 (.c (.bool false))),
 kO 42 (.mv 41),
 kG 43 (.ld true 5 1) 42 true,
 kG 44 (.call none true 77 [43]) 42 true,
 kG 45 (.un .not 44) 42 true,
 kG 46 (.mv 45) 42 true,
 kG 47 (.ld true 5 3) 46 false,
 kG 48 (.call none true 77 [47]) 46 false,
 kG 49 (.pick 46 (.c (.bool true)) 48) 42 true,
 kO 50 (.pick 42 49 (.c (.bool false))),
 kO 2 (.mv 50)])
 .ret)
def y1m4 : CCode :=
  (.seq (.seq (.region [
 kO 24 (.ld true 5 1),
 kO 25 (.call none true 29 [24]),
 kO 26 (.bin .neq 25 (ci 0))])
 (.cond 26
 (.seq (.region [
  kO 27 (.ld true 5 1),
  kO 28 (.ld true 5 3),
  kO 29 (.call none true 14 [27, 28]),
  kO 2 (.mv 29)])
  .ret)
 .skip))
 y1fh)
def y1mu : CCode :=
  (.seq (.region [
 kO 22 (.ld true 5 1),
 kO 23 (.call none true 149 [22]),
 kO 3 (.new (some 1) [.nils, .nils, (.int .i64 0), .nils, .nils]),
 kU (.st 5 3 23)])
 y1m4)
def y1if : CCode :=
  (.seq (.seq (.region [
 kO 6 (.fa 3 1),
 kO 7 (.ld false 1 6),
 kO 8 (.len 1 7),
 kO 9 (.bin .gtr 8 (ci 400)),
 kO 10 (.mv 9),
 kG 11 (.fa 0 1) 10 false,
 kG 12 (.ld false 1 11) 10 false,
 kG 13 (.len 1 12) 10 false,
 kG 14 (.bin .gtr 13 (ci 100)) 10 false,
 kO 15 (.pick 10 (.c (.bool true)) 14),
 kO 16 (.mv 15),
 kG 17 (.fa 4 1) 16 false,
 kG 18 (.ld false 1 17) 16 false,
 kG 19 (.len 1 18) 16 false,
 kG 20 (.bin .gtr 19 (ci 50)) 16 false,
 kO 21 (.pick 16 (.c (.bool true)) 20)])
 (.cond 21
 (.seq (.region [
  kO 2 (.mv (.c (.bool true)))])
  .ret)
 .skip))
 y1mu)
def y1w1 : CCode :=
  (.seq (.seq (.region [
 kO 4 (.call none true 148 []),
 kO 5 (.un .not 4)])
 (.cond 5
 (.seq (.region [
  kO 2 (.mv (.c (.bool false)))])
  .ret)
 .skip))
 y1if)
def y1fi : CCode :=
  (.seq (.region [
 kO 1 (.box (some 0) 0),
 kO 2 (.mv (.c (.bool false)))])
 y1w1)
def y2tr : CFunc :=
  ⟨1, true, 2, y1fi, [.t 2]⟩
def y20d : CCode :=
  (.seq (.region [
 kO 39 (.ld true 5 3),
 kU (.st 5 2 39)])
 .ret)
def y1vh : CCode :=
  (.region [
 kO 38 (.bin .add 23 (ci 1)),
 kO 23 (.mv 38)])
def y1v6 : CCode :=
  (.seq (.block 1 (.seq (.region [
 kO 25 (.mv 23),
 kO 4 (.mv 25)])
 (.draw [
 kO 26 (.fa 3 3),
 kO 27 (.ld false 1 26),
 kO 28 (.mv 4),
 kO 29 (.fa 3 3),
 kO 30 (.ld false 1 29),
 kO 31 (.mv 4),
 kO 32 (.ixs 9 30 31),
 kO 33 (.fa 8 32),
 kO 34 (.ld false 1 33),
 kO 35 (.call none true 39 [34]),
 kO 36 (.ixs 9 27 28),
 kO 37 (.fa 8 36),
 kU (.st 1 37 35)] [(1, 9)])))
 y1vh)
def y1fg : CCode :=
  (.seq (.cond 24
 .skip
 (.exit 0))
 y1v6)
def y1rd : CCode :=
  (.seq (.region [
 kO 24 (.bin .lss 23 22)])
 y1fg)
def yq2 : CCode :=
  (.loop [2, 3, 22, 23] y1rd)
def y1y6 : CCode :=
  (.block 0 yq2)
def y1va : CCode :=
  (.seq (.region [
 kO 20 (.fa 3 3),
 kO 21 (.ld false 1 20),
 kO 22 (.len 1 21),
 kO 23 (.mv (ci 0))])
 y1y6)
def y1l3 : CCode :=
  (.seq y1va
 y20d)
def y01 : CCode :=
  (.seq (.draw [
 kO 5 (.fa 0 1),
 kO 6 (.ld false 1 5),
 kO 7 (.call (some 2) false 39 [6]),
 kO 8 (.fa 1 1),
 kO 9 (.ld false 1 8),
 kO 10 (.call (some 3) false 39 [9]),
 kO 11 (.fa 2 1),
 kO 12 (.ld false 1 11),
 kO 13 (.fa 3 1),
 kO 14 (.ld false 1 13),
 kO 15 (.call (some 4) false 40 [14]),
 kO 16 (.fa 4 1),
 kO 17 (.ld false 1 16),
 kO 18 (.call (some 5) false 41 [17]),
 kO 19 (.build [.nils, .nils, (.int .i64 0), .nils, .nils] [(0, 1, 7), (1, 1, 10), (2, 1, 12), (3, 1, 15), (4, 1, 18)]),
 kO 3 (.new (some 6) [.nils, .nils, (.int .i64 0), .nils, .nils]),
 kU (.st 5 3 19)] [(2, 4), (2, 7), (5, 7), (2, 9), (5, 9), (7, 10), (2, 12), (5, 12), (10, 12), (7, 13), (1, 15), (2, 15), (4, 15), (5, 15), (7, 15), (9, 15), (10, 15), (12, 15), (13, 15)])
 y1l3)
def y12b : CCode :=
  (.seq (.region [
 kO 1 (.box (some 0) 0),
 kO 2 (.new (some 1) [.nils, .nils, (.int .i64 0), .nils, .nils])])
 y01)
def y2t0 : CFunc :=
  ⟨1, true, 7, y12b, [.cell 2 true 5]⟩
def y14f : CCode :=
  (.seq (.region [
 kO 4 (.mv (.c (.bool true)))])
 .ret)
def y198 : CCode :=
  (.region [
 kO 70 (.mv 6),
 kO 71 (.bin .add 70 (ci 1)),
 kO 6 (.mv 71)])
def y12f : CCode :=
  (.seq (.block 3 (.seq (.draw [
 kO 72 (.fa 4 2),
 kO 73 (.ld false 1 72),
 kO 74 (.mv 6),
 kO 75 (.ixs 4 73 74),
 kO 76 (.ld true 4 75),
 kO 77 (.fa 4 3),
 kO 78 (.ld false 1 77),
 kO 79 (.mv 6),
 kO 80 (.ixs 4 78 79),
 kO 81 (.ld true 4 80),
 kO 82 (.eqa true [0, 0, 0, 2] 76 81)] [])
 (.cond 82
 (.seq (.region [
  kO 4 (.mv (.c (.bool false)))])
  .ret)
 .skip)))
 y198)
def y1a3 : CCode :=
  (.seq (.seq (.region [
 kO 65 (.mv 6),
 kO 66 (.fa 4 2),
 kO 67 (.ld false 1 66),
 kO 68 (.len 1 67),
 kO 69 (.bin .lss 65 68)])
 (.cond 69
 .skip
 (.exit 2)))
 y12f)
def ykn : CCode :=
  (.loop [2, 3, 6] y1a3)
def y16e : CCode :=
  (.block 2 ykn)
def y18d : CCode :=
  (.seq (.region [
 kO 6 (.mv (ci 0))])
 y16e)
def y111 : CCode :=
  (.seq y18d
 y14f)
def ysj : CCode :=
  (.region [
 kO 51 (.mv 5),
 kO 52 (.bin .add 51 (ci 1)),
 kO 5 (.mv 52)])
def yre : CCode :=
  (.seq (.block 1 (.seq (.draw [
 kO 53 (.fa 3 2),
 kO 54 (.ld false 1 53),
 kO 55 (.mv 5),
 kO 56 (.ixs 9 54 55),
 kO 57 (.ld true 9 56),
 kO 58 (.fa 3 3),
 kO 59 (.ld false 1 58),
 kO 60 (.mv 5),
 kO 61 (.ixs 9 59 60),
 kO 62 (.ld true 9 61),
 kO 63 (.call none true 28 [57, 62]),
 kO 64 (.un .not 63)] [])
 (.cond 64
 (.seq (.region [
  kO 4 (.mv (.c (.bool false)))])
  .ret)
 .skip)))
 ysj)
def yvl : CCode :=
  (.seq (.seq (.region [
 kO 46 (.mv 5),
 kO 47 (.fa 3 2),
 kO 48 (.ld false 1 47),
 kO 49 (.len 1 48),
 kO 50 (.bin .lss 46 49)])
 (.cond 50
 .skip
 (.exit 0)))
 yre)
def yid : CCode :=
  (.loop [2, 3, 5] yvl)
def yvn : CCode :=
  (.block 0 yid)
def yua : CCode :=
  (.seq (.region [
 kO 5 (.mv (ci 0))])
 yvn)
def yr2 : CCode :=
  (.seq yua
 y111)
def ytx : CCode :=
  (.seq (.seq (.region [
 kO 7 (.fa 0 2),
 kO 8 (.ld false 1 7),
 kO 9 (.fa 0 3),
 kO 10 (.ld false 1 9),
 kO 11 (.call none true 11 [8, 10]),
 kO 12 (.un .not 11),
 kO 13 (.mv 12),
 kG 14 (.fa 1 2) 13 false,
 kG 15 (.ld false 1 14) 13 false,
 kG 16 (.fa 1 3) 13 false,
 kG 17 (.ld false 1 16) 13 false,
 kG 18 (.call none true 11 [15, 17]) 13 false,
 kG 19 (.un .not 18) 13 false,
 kO 20 (.pick 13 (.c (.bool true)) 19),
 kO 21 (.mv 20),
 kG 22 (.fa 2 2) 21 false,
 kG 23 (.ld false 1 22) 21 false,
 kG 24 (.fa 2 3) 21 false,
 kG 25 (.ld false 1 24) 21 false,
 kG 26 (.bin .neq 23 25) 21 false,
 kO 27 (.pick 21 (.c (.bool true)) 26),
 kO 28 (.mv 27),
 kG 29 (.fa 3 2) 28 false,
 kG 30 (.ld false 1 29) 28 false,
 kG 31 (.len 1 30) 28 false,
 kG 32 (.fa 3 3) 28 false,
 kG 33 (.ld false 1 32) 28 false,
 kG 34 (.len 1 33) 28 false,
 kG 35 (.bin .neq 31 34) 28 false,
 kO 36 (.pick 28 (.c (.bool true)) 35),
 kO 37 (.mv 36),
 kG 38 (.fa 4 2) 37 false,
 kG 39 (.ld false 1 38) 37 false,
 kG 40 (.len 1 39) 37 false,
 kG 41 (.fa 4 3) 37 false,
 kG 42 (.ld false 1 41) 37 false,
 kG 43 (.len 1 42) 37 false,
 kG 44 (.bin .neq 40 43) 37 false,
 kO 45 (.pick 37 (.c (.bool true)) 44)])
 (.cond 45
 (.seq (.region [
  kO 4 (.mv (.c (.bool false)))])
  .ret)
 .skip))
 yr2)
def yve : CCode :=
  (.seq (.region [
 kO 2 (.box (some 0) 0),
 kO 3 (.box (some 1) 1),
 kO 4 (.mv (.c (.bool false)))])
 ytx)
def y2bd : CFunc :=
  ⟨2, true, 2, yve, [.t 4]⟩
def y1ox : CCode :=
  (.seq (.region [
 kO 2 (.mv (ci 0))])
 .ret)
def y1n9 : CCode :=
  (.region [
 kO 179 (.bin .add 138 (ci 1)),
 kO 138 (.mv 179)])
def y1z6 : CCode :=
  (.seq (.block 7 (.seq (.region [
 kO 140 (.ixs 4 136 138),
 kO 141 (.ld true 4 140),
 kO 11 (.new (some 2) [(.int .i64 0), (.int .i64 0), (.int .i64 0), (.str [])]),
 kU (.st 4 11 141)])
 (.seq (.region [
 kO 142 (.fa 0 11),
 kO 143 (.ld false 1 142),
 kO 144 (.bin .lss 143 (ci 0)),
 kO 145 (.mv 144),
 kG 146 (.fa 0 11) 145 false,
 kG 147 (.ld false 1 146) 145 false,
 kG 148 (.fa 1 11) 145 false,
 kG 149 (.ld false 1 148) 145 false,
 kG 150 (.bin .geq 147 149) 145 false,
 kO 151 (.pick 145 (.c (.bool true)) 150),
 kO 152 (.mv 151),
 kG 153 (.fa 1 11) 152 false,
 kG 154 (.ld false 1 153) 152 false,
 kG 155 (.mv 3) 152 false,
 kG 156 (.bin .gtr 154 155) 152 false,
 kO 157 (.pick 152 (.c (.bool true)) 156),
 kO 158 (.mv 157),
 kG 159 (.fa 2 11) 158 false,
 kG 160 (.ld false 1 159) 158 false,
 kG 161 (.bin .lss 160 (ci 0)) 158 false,
 kO 162 (.pick 158 (.c (.bool true)) 161),
 kO 163 (.mv 162),
 kG 164 (.fa 2 11) 163 false,
 kG 165 (.ld false 1 164) 163 false,
 kG 166 (.mv 3) 163 false,
 kG 167 (.bin .geq 165 166) 163 false,
 kO 168 (.pick 163 (.c (.bool true)) 167),
 kO 169 (.mv 168),
 kG 170 (.fa 3 1) 169 false,
 kG 171 (.ld false 1 170) 169 false,
 kG 172 (.fa 2 11) 169 false,
 kG 173 (.ld false 1 172) 169 false,
 kG 174 (.ixs 9 171 173) 169 false,
 kG 175 (.fa 0 174) 169 false,
 kG 176 (.ld false 1 175) 169 false,
 kG 177 (.bin .neq 176 (ci 32)) 169 false,
 kO 178 (.pick 169 (.c (.bool true)) 177)])
 (.cond 178
 (.seq (.region [
  kO 2 (.mv (ci 80))])
  .ret)
 .skip))))
 y1n9)
def y1o2 : CCode :=
  (.seq (.cond 139
 .skip
 (.exit 6))
 y1z6)
def y1pr : CCode :=
  (.seq (.region [
 kO 139 (.bin .lss 138 137)])
 y1o2)
def yqa : CCode :=
  (.loop [1, 3, 136, 137, 138] y1pr)
def y1y9 : CCode :=
  (.block 6 yqa)
def y1ww : CCode :=
  (.seq (.region [
 kO 135 (.fa 4 1),
 kO 136 (.ld false 1 135),
 kO 137 (.len 1 136),
 kO 138 (.mv (ci 0))])
 y1y9)
def y1fm : CCode :=
  (.seq y1ww
 y1ox)
def yz4 : CCode :=
  (.region [
 kO 134 (.bin .add 94 (ci 1)),
 kO 94 (.mv 134)])
def y126 : CCode :=
  (.seq (.region [
 kO 103 (.fa 0 9),
 kO 104 (.ld false 1 103),
 kO 105 (.bin .eql 104 (ci 32)),
 kO 106 (.mv 105),
 kG 107 (.mv 8) 106 true,
 kG 108 (.bin .eql 107 (ci 0)) 106 true,
 kG 109 (.mv 108) 106 true,
 kG 110 (.fa 3 1) 109 false,
 kG 111 (.ld false 1 110) 109 false,
 kG 112 (.mv 8) 109 false,
 kG 113 (.bin .sub 112 (ci 1)) 109 false,
 kG 114 (.ixs 9 111 113) 109 false,
 kG 115 (.ld true 9 114) 109 false,
 kG 116 (.call none true 24 [115]) 109 false,
 kG 117 (.un .not 116) 109 false,
 kG 118 (.pick 109 (.c (.bool true)) 117) 106 true,
 kO 119 (.pick 106 118 (.c (.bool false))),
 kO 120 (.mv 119),
 kG 121 (.ld true 9 9) 120 false,
 kG 122 (.call none true 22 [121]) 120 false,
 kG 123 (.mv 122) 120 false,
 kG 124 (.fa 3 1) 123 true,
 kG 125 (.ld false 1 124) 123 true,
 kG 126 (.fa 6 9) 123 true,
 kG 127 (.ld false 1 126) 123 true,
 kG 128 (.ixs 9 125 127) 123 true,
 kG 129 (.fa 0 128) 123 true,
 kG 130 (.ld false 1 129) 123 true,
 kG 131 (.bin .eql 130 (ci 32)) 123 true,
 kG 132 (.pick 123 131 (.c (.bool false))) 120 false,
 kO 133 (.pick 120 (.c (.bool true)) 132)])
 (.cond 133
 (.seq (.region [
  kO 2 (.mv (ci 80))])
  .ret)
 .skip))
def y13x : CCode :=
  (.seq (.seq (.region [
 kO 99 (.ld true 5 1),
 kO 100 (.ld true 9 9),
 kO 101 (.call none true 63 [99, 100]),
 kO 102 (.un .not 101)])
 (.cond 102
 (.seq (.region [
  kO 2 (.mv (ci 80))])
  .ret)
 .skip))
 y126)
def yza : CCode :=
  (.seq (.region [
 kO 96 (.mv 94),
 kO 97 (.ixs 9 92 94),
 kO 98 (.ld true 9 97),
 kO 9 (.new (some 1) [(.int .i64 0), (.int .i64 0), (.int .i64 0), (.int .i64 0), (.int .i64 0), (.int .i64 0), (.int .i64 0), (.str []), .nils]),
 kO 8 (.mv 96),
 kU (.st 9 9 98)])
 y13x)
def y13v : CCode :=
  (.block 5 yza)
def y163 : CCode :=
  (.seq y13v
 yz4)
def y17w : CCode :=
  (.seq (.cond 95
 .skip
 (.exit 4))
 y163)
def y160 : CCode :=
  (.seq (.region [
 kO 95 (.bin .lss 94 93)])
 y17w)
def ykw : CCode :=
  (.loop [1, 3, 92, 93, 94] y160)
def y18t : CCode :=
  (.block 4 ykw)
def y149 : CCode :=
  (.seq (.region [
 kO 91 (.fa 3 1),
 kO 92 (.ld false 1 91),
 kO 93 (.len 1 92),
 kO 94 (.mv (ci 0))])
 y18t)
def y0f : CCode :=
  (.seq y149
 y1fm)
def y18l : CCode :=
  (.region [
 kO 90 (.bin .add 64 (ci 1)),
 kO 64 (.mv 90)])
def y14d : CCode :=
  (.seq (.block 3 (.seq (.region [
 kO 66 (.mv 64),
 kO 67 (.ixs 1 62 64),
 kO 68 (.ld false 1 67),
 kO 6 (.mv 66),
 kO 7 (.mv 68)])
 (.seq (.region [
 kO 69 (.mv 7),
 kO 70 (.bin .lss 69 (ci 0)),
 kO 71 (.mv 70),
 kG 72 (.mv 7) 71 false,
 kG 73 (.fa 0 1) 71 false,
 kG 74 (.ld false 1 73) 71 false,
 kG 75 (.len 1 74) 71 false,
 kG 76 (.bin .geq 72 75) 71 false,
 kO 77 (.pick 71 (.c (.bool true)) 76),
 kO 78 (.mv 77),
 kG 79 (.fa 1 1) 78 false,
 kG 80 (.ld false 1 79) 78 false,
 kG 81 (.mv 6) 78 false,
 kG 82 (.slc 1 80 none (some 81)) 78 false,
 kG 83 (.mv 7) 78 false,
 kG 84 (.call none true 46 [82, 83]) 78 false,
 kO 85 (.pick 78 (.c (.bool true)) 84),
 kO 86 (.mv 85),
 kG 87 (.mv 6) 86 false,
 kG 88 (.bin .gtr 87 (ci 20)) 86 false,
 kO 89 (.pick 86 (.c (.bool true)) 88)])
 (.cond 89
 (.seq (.region [
  kO 2 (.mv (ci 80))])
  .ret)
 .skip))))
 y18l)
def y1a6 : CCode :=
  (.seq (.cond 65
 .skip
 (.exit 2))
 y14d)
def y132 : CCode :=
  (.seq (.region [
 kO 65 (.bin .lss 64 63)])
 y1a6)
def yjm : CCode :=
  (.loop [1, 3, 62, 63, 64] y132)
def y1ai : CCode :=
  (.block 2 yjm)
def y129 : CCode :=
  (.seq (.region [
 kO 61 (.fa 1 1),
 kO 62 (.ld false 1 61),
 kO 63 (.len 1 62),
 kO 64 (.mv (ci 0))])
 y1ai)
def y15u : CCode :=
  (.seq y129
 y0f)
def y16v : CCode :=
  (.region [
 kO 60 (.bin .add 50 (ci 1)),
 kO 50 (.mv 60)])
def yzd : CCode :=
  (.seq (.block 1 (.seq (.region [
 kO 52 (.ixs 1 48 50),
 kO 53 (.ld false 1 52),
 kO 5 (.mv 53)])
 (.seq (.region [
 kO 54 (.mv 5),
 kO 55 (.bin .lss 54 (ci 1)),
 kO 56 (.mv 55),
 kG 57 (.mv 5) 56 false,
 kG 58 (.bin .gtr 57 (ci 3)) 56 false,
 kO 59 (.pick 56 (.c (.bool true)) 58)])
 (.cond 59
 (.seq (.region [
  kO 2 (.mv (ci 80))])
  .ret)
 .skip))))
 y16v)
def y0l : CCode :=
  (.seq (.cond 51
 .skip
 (.exit 0))
 yzd)
def y18q : CCode :=
  (.seq (.region [
 kO 51 (.bin .lss 50 49)])
 y0l)
def yjp : CCode :=
  (.loop [1, 3, 48, 49, 50] y18q)
def y19j : CCode :=
  (.block 0 yjp)
def y09 : CCode :=
  (.seq (.region [
 kO 47 (.fa 0 1),
 kO 48 (.ld false 1 47),
 kO 49 (.len 1 48),
 kO 50 (.mv (ci 0))])
 y19j)
def y170 : CCode :=
  (.seq y09
 y15u)
def yzs : CCode :=
  (.seq (.seq (.region [
 kO 15 (.mv 3),
 kO 16 (.bin .lss 15 (ci 1)),
 kO 17 (.mv 16),
 kG 18 (.mv 3) 17 false,
 kG 19 (.bin .gtr 18 (ci 20000)) 17 false,
 kO 20 (.pick 17 (.c (.bool true)) 19),
 kO 21 (.mv 20),
 kG 22 (.fa 0 1) 21 false,
 kG 23 (.ld false 1 22) 21 false,
 kG 24 (.len 1 23) 21 false,
 kG 25 (.bin .gtr 24 (ci 20000)) 21 false,
 kO 26 (.pick 21 (.c (.bool true)) 25),
 kO 27 (.mv 26),
 kG 28 (.fa 2 1) 27 false,
 kG 29 (.ld false 1 28) 27 false,
 kG 30 (.bin .lss 29 (ci 0)) 27 false,
 kO 31 (.pick 27 (.c (.bool true)) 30),
 kO 32 (.mv 31),
 kG 33 (.fa 2 1) 32 false,
 kG 34 (.ld false 1 33) 32 false,
 kG 35 (.bin .gtr 34 (ci 3)) 32 false,
 kO 36 (.pick 32 (.c (.bool true)) 35),
 kO 37 (.mv 36),
 kG 38 (.fa 3 1) 37 false,
 kG 39 (.ld false 1 38) 37 false,
 kG 40 (.mv 3) 37 false,
 kG 41 (.bin .sub 40 (ci 1)) 37 false,
 kG 42 (.ixs 9 39 41) 37 false,
 kG 43 (.ld true 9 42) 37 false,
 kG 44 (.call none true 24 [43]) 37 false,
 kG 45 (.un .not 44) 37 false,
 kO 46 (.pick 37 (.c (.bool true)) 45)])
 (.cond 46
 (.seq (.region [
  kO 2 (.mv (ci 80))])
  .ret)
 .skip))
 y170)
def y12r : CCode :=
  (.seq (.region [
 kO 12 (.fa 3 1),
 kO 13 (.ld false 1 12),
 kO 14 (.len 1 13),
 kO 3 (.mv 14)])
 yzs)
def y15j : CCode :=
  (.seq (.region [
 kO 1 (.box (some 0) 0),
 kO 2 (.mv (ci 0))])
 y12r)
def y2oi : CFunc :=
  ⟨1, true, 3, y15j, [.t 2]⟩
def y188 : CCode :=
  (.seq (.region [
 kO 2 (.mv (ci 0))])
 .ret)
def y18f : CCode :=
  (.region [
 kO 154 (.mv 8),
 kO 155 (.bin .add 154 (ci 1)),
 kO 8 (.mv 155)])
def y19d : CCode :=
  (.seq (.block 7 (.seq (.region [
 kO 156 (.fa 4 1),
 kO 157 (.ld false 1 156),
 kO 158 (.mv 8),
 kO 159 (.ixs 4 157 158),
 kO 160 (.ld true 4 159),
 kO 9 (.new (some 2) [(.int .i64 0), (.int .i64 0), (.int .i64 0), (.str [])]),
 kU (.st 4 9 160)])
 (.seq (.region [
 kO 161 (.fa 0 9),
 kO 162 (.ld false 1 161),
 kO 163 (.bin .lss 162 (ci 0)),
 kO 164 (.mv 163),
 kG 165 (.fa 0 9) 164 false,
 kG 166 (.ld false 1 165) 164 false,
 kG 167 (.fa 1 9) 164 false,
 kG 168 (.ld false 1 167) 164 false,
 kG 169 (.bin .geq 166 168) 164 false,
 kO 170 (.pick 164 (.c (.bool true)) 169),
 kO 171 (.mv 170),
 kG 172 (.fa 1 9) 171 false,
 kG 173 (.ld false 1 172) 171 false,
 kG 174 (.mv 3) 171 false,
 kG 175 (.bin .gtr 173 174) 171 false,
 kO 176 (.pick 171 (.c (.bool true)) 175),
 kO 177 (.mv 176),
 kG 178 (.ld true 5 1) 177 false,
 kG 179 (.fa 2 9) 177 false,
 kG 180 (.ld false 1 179) 177 false,
 kG 181 (.call none true 49 [178, 180]) 177 false,
 kG 182 (.un .not 181) 177 false,
 kO 183 (.pick 177 (.c (.bool true)) 182),
 kO 184 (.mv 183),
 kG 185 (.fa 3 1) 184 false,
 kG 186 (.ld false 1 185) 184 false,
 kG 187 (.fa 2 9) 184 false,
 kG 188 (.ld false 1 187) 184 false,
 kG 189 (.ixs 9 186 188) 184 false,
 kG 190 (.fa 0 189) 184 false,
 kG 191 (.ld false 1 190) 184 false,
 kG 192 (.bin .neq 191 (ci 32)) 184 false,
 kO 193 (.pick 184 (.c (.bool true)) 192)])
 (.cond 193
 (.seq (.region [
  kO 2 (.mv (ci 80))])
  .ret)
 .skip))))
 y18f)
def y192 : CCode :=
  (.seq (.seq (.region [
 kO 149 (.mv 8),
 kO 150 (.fa 4 1),
 kO 151 (.ld false 1 150),
 kO 152 (.len 1 151),
 kO 153 (.bin .lss 149 152)])
 (.cond 153
 .skip
 (.exit 6)))
 y19d)
def yl5 : CCode :=
  (.loop [1, 3, 8] y192)
def y0y : CCode :=
  (.block 6 yl5)
def y0g : CCode :=
  (.seq (.region [
 kO 8 (.mv (ci 0))])
 y0y)
def y14p : CCode :=
  (.seq y0g
 y188)
def yv1 : CCode :=
  (.region [
 kO 103 (.mv 6),
 kO 104 (.bin .add 103 (ci 1)),
 kO 6 (.mv 104)])
def yrn : CCode :=
  (.seq (.block 5 (.seq (.region [
 kO 105 (.fa 3 1),
 kO 106 (.ld false 1 105),
 kO 107 (.mv 6),
 kO 108 (.ixs 9 106 107),
 kO 109 (.ld true 9 108),
 kO 7 (.new (some 1) [(.int .i64 0), (.int .i64 0), (.int .i64 0), (.int .i64 0), (.int .i64 0), (.int .i64 0), (.int .i64 0), (.str []), .nils]),
 kU (.st 9 7 109)])
 (.seq (.region [
 kO 110 (.ld true 5 1),
 kO 111 (.ld true 9 7),
 kO 112 (.call none true 64 [110, 111]),
 kO 113 (.un .not 112),
 kO 114 (.mv 113),
 kG 115 (.fa 0 7) 114 false,
 kG 116 (.ld false 1 115) 114 false,
 kG 117 (.bin .eql 116 (ci 32)) 114 false,
 kG 118 (.mv 117) 114 false,
 kG 119 (.mv 6) 118 true,
 kG 120 (.bin .eql 119 (ci 0)) 118 true,
 kG 121 (.mv 120) 118 true,
 kG 122 (.fa 3 1) 121 false,
 kG 123 (.ld false 1 122) 121 false,
 kG 124 (.mv 6) 121 false,
 kG 125 (.bin .sub 124 (ci 1)) 121 false,
 kG 126 (.ixs 9 123 125) 121 false,
 kG 127 (.fa 0 126) 121 false,
 kG 128 (.ld false 1 127) 121 false,
 kG 129 (.call none true 25 [128]) 121 false,
 kG 130 (.un .not 129) 121 false,
 kG 131 (.pick 121 (.c (.bool true)) 130) 118 true,
 kG 132 (.pick 118 131 (.c (.bool false))) 114 false,
 kO 133 (.pick 114 (.c (.bool true)) 132),
 kO 134 (.mv 133),
 kG 135 (.fa 0 7) 134 false,
 kG 136 (.ld false 1 135) 134 false,
 kG 137 (.call none true 23 [136]) 134 false,
 kG 138 (.mv 137) 134 false,
 kG 139 (.fa 3 1) 138 true,
 kG 140 (.ld false 1 139) 138 true,
 kG 141 (.fa 6 7) 138 true,
 kG 142 (.ld false 1 141) 138 true,
 kG 143 (.ixs 9 140 142) 138 true,
 kG 144 (.fa 0 143) 138 true,
 kG 145 (.ld false 1 144) 138 true,
 kG 146 (.bin .eql 145 (ci 32)) 138 true,
 kG 147 (.pick 138 146 (.c (.bool false))) 134 false,
 kO 148 (.pick 134 (.c (.bool true)) 147)])
 (.cond 148
 (.seq (.region [
  kO 2 (.mv (ci 80))])
  .ret)
 .skip))))
 yv1)
def yru : CCode :=
  (.seq (.seq (.region [
 kO 100 (.mv 6),
 kO 101 (.mv 3),
 kO 102 (.bin .lss 100 101)])
 (.cond 102
 .skip
 (.exit 4)))
 yrn)
def yjq : CCode :=
  (.loop [1, 3, 6] yru)
def yra : CCode :=
  (.block 4 yjq)
def yrb : CCode :=
  (.seq (.region [
 kO 6 (.mv (ci 0))])
 yra)
def yt5 : CCode :=
  (.seq yrb
 y14p)
def ysk : CCode :=
  (.region [
 kO 78 (.mv 5),
 kO 79 (.bin .add 78 (ci 1)),
 kO 5 (.mv 79)])
def ytv : CCode :=
  (.seq (.block 3 (.seq (.draw [
 kO 80 (.ld true 5 1),
 kO 81 (.fa 1 1),
 kO 82 (.ld false 1 81),
 kO 83 (.mv 5),
 kO 84 (.ixs 1 82 83),
 kO 85 (.ld false 1 84),
 kO 86 (.call none true 48 [80, 85]),
 kO 87 (.bin .eql 86 (ci 0)),
 kO 88 (.mv 87),
 kG 89 (.fa 1 1) 88 false,
 kG 90 (.ld false 1 89) 88 false,
 kG 91 (.mv 5) 88 false,
 kG 92 (.ixs 1 90 91) 88 false,
 kG 93 (.ld false 1 92) 88 false,
 kG 94 (.fa 1 1) 88 false,
 kG 95 (.ld false 1 94) 88 false,
 kG 96 (.mv 5) 88 false,
 kG 97 (.slc 1 95 none (some 96)) 88 false,
 kG 98 (.call none true 42 [93, 97]) 88 false,
 kO 99 (.pick 88 (.c (.bool true)) 98)] [])
 (.cond 99
 (.seq (.region [
  kO 2 (.mv (ci 80))])
  .ret)
 .skip)))
 ysk)
def yur : CCode :=
  (.seq (.seq (.region [
 kO 73 (.mv 5),
 kO 74 (.fa 1 1),
 kO 75 (.ld false 1 74),
 kO 76 (.len 1 75),
 kO 77 (.bin .lss 73 76)])
 (.cond 77
 .skip
 (.exit 2)))
 ytv)
def yfv : CCode :=
  (.loop [1, 3, 5] yur)
def yso : CCode :=
  (.block 2 yfv)
def yt7 : CCode :=
  (.seq (.region [
 kO 5 (.mv (ci 0))])
 yso)
def yss : CCode :=
  (.seq yt7
 yt5)
def ys7 : CCode :=
  (.region [
 kO 57 (.mv 4),
 kO 58 (.bin .add 57 (ci 1)),
 kO 4 (.mv 58)])
def ys9 : CCode :=
  (.seq (.block 1 (.seq (.region [
 kO 59 (.fa 0 1),
 kO 60 (.ld false 1 59),
 kO 61 (.mv 4),
 kO 62 (.ixs 1 60 61),
 kO 63 (.ld false 1 62),
 kO 64 (.bin .lss 63 (ci 1)),
 kO 65 (.mv 64),
 kG 66 (.fa 0 1) 65 false,
 kG 67 (.ld false 1 66) 65 false,
 kG 68 (.mv 4) 65 false,
 kG 69 (.ixs 1 67 68) 65 false,
 kG 70 (.ld false 1 69) 65 false,
 kG 71 (.bin .gtr 70 (ci 3)) 65 false,
 kO 72 (.pick 65 (.c (.bool true)) 71)])
 (.cond 72
 (.seq (.region [
  kO 2 (.mv (ci 80))])
  .ret)
 .skip)))
 ys7)
def yvm : CCode :=
  (.seq (.seq (.region [
 kO 52 (.mv 4),
 kO 53 (.fa 0 1),
 kO 54 (.ld false 1 53),
 kO 55 (.len 1 54),
 kO 56 (.bin .lss 52 55)])
 (.cond 56
 .skip
 (.exit 0)))
 ys9)
def ygk : CCode :=
  (.loop [1, 3, 4] yvm)
def ysx : CCode :=
  (.block 0 ygk)
def yty : CCode :=
  (.seq (.region [
 kO 4 (.mv (ci 0))])
 ysx)
def yqu : CCode :=
  (.seq yty
 yss)
def yvk : CCode :=
  (.seq (.seq (.region [
 kO 13 (.mv 3),
 kO 14 (.bin .eql 13 (ci 0)),
 kO 15 (.mv 14),
 kG 16 (.mv 3) 15 false,
 kG 17 (.bin .gtr 16 (ci 20000)) 15 false,
 kO 18 (.pick 15 (.c (.bool true)) 17),
 kO 19 (.mv 18),
 kG 20 (.fa 0 1) 19 false,
 kG 21 (.ld false 1 20) 19 false,
 kG 22 (.len 1 21) 19 false,
 kG 23 (.bin .gtr 22 (ci 20000)) 19 false,
 kO 24 (.pick 19 (.c (.bool true)) 23),
 kO 25 (.mv 24),
 kG 26 (.fa 1 1) 25 false,
 kG 27 (.ld false 1 26) 25 false,
 kG 28 (.len 1 27) 25 false,
 kG 29 (.bin .gtr 28 (ci 21)) 25 false,
 kO 30 (.pick 25 (.c (.bool true)) 29),
 kO 31 (.mv 30),
 kG 32 (.fa 2 1) 31 false,
 kG 33 (.ld false 1 32) 31 false,
 kG 34 (.bin .lss 33 (ci 0)) 31 false,
 kO 35 (.pick 31 (.c (.bool true)) 34),
 kO 36 (.mv 35),
 kG 37 (.fa 2 1) 36 false,
 kG 38 (.ld false 1 37) 36 false,
 kG 39 (.bin .gtr 38 (ci 3)) 36 false,
 kO 40 (.pick 36 (.c (.bool true)) 39),
 kO 41 (.mv 40),
 kG 42 (.fa 3 1) 41 false,
 kG 43 (.ld false 1 42) 41 false,
 kG 44 (.mv 3) 41 false,
 kG 45 (.bin .sub 44 (ci 1)) 41 false,
 kG 46 (.ixs 9 43 45) 41 false,
 kG 47 (.fa 0 46) 41 false,
 kG 48 (.ld false 1 47) 41 false,
 kG 49 (.call none true 25 [48]) 41 false,
 kG 50 (.un .not 49) 41 false,
 kO 51 (.pick 41 (.c (.bool true)) 50)])
 (.cond 51
 (.seq (.region [
  kO 2 (.mv (ci 80))])
  .ret)
 .skip))
 yqu)
def yte : CCode :=
  (.seq (.region [
 kO 10 (.fa 3 1),
 kO 11 (.ld false 1 10),
 kO 12 (.len 1 11),
 kO 3 (.mv 12)])
 yvk)
def ytd : CCode :=
  (.seq (.region [
 kO 1 (.box (some 0) 0),
 kO 2 (.mv (ci 0))])
 yte)
def y2ch : CFunc :=
  ⟨1, true, 3, ytd, [.t 2]⟩
def y1l6 : CCode :=
  (.seq (.region [
 kO 2 (.mv (.c (.bool true)))])
 .ret)
def y1np : CCode :=
  (.region [
 kO 134 (.bin .add 106 (ci 1)),
 kO 106 (.mv 134)])
def y1wa : CCode :=
  (.region [
 kO 133 (.bin .add 114 (ci 1)),
 kO 114 (.mv 133)])
def y1f4 : CCode :=
  (.seq (.block 11 (.seq (.region [
 kO 116 (.ixs 1 112 114),
 kO 117 (.ld false 1 116),
 kO 18 (.mv 117)])
 (.seq (.region [
 kO 118 (.mv 3),
 kO 119 (.mv 15),
 kO 120 (.ixs 1 118 119),
 kO 121 (.ld false 1 120),
 kO 122 (.eqn 1 true 121 (.c .nils)),
 kO 123 (.mv 122),
 kG 124 (.mv 3) 123 true,
 kG 125 (.mv 15) 123 true,
 kG 126 (.ixs 1 124 125) 123 true,
 kG 127 (.ld false 1 126) 123 true,
 kG 128 (.mv 18) 123 true,
 kG 129 (.ixs 1 127 128) 123 true,
 kG 130 (.ld false 1 129) 123 true,
 kG 131 (.un .not 130) 123 true,
 kO 132 (.pick 123 131 (.c (.bool false)))])
 (.cond 132
 (.seq (.region [
  kO 2 (.mv (.c (.bool false)))])
  .ret)
 .skip))))
 y1wa)
def y1o1 : CCode :=
  (.seq (.cond 115
 .skip
 (.exit 10))
 y1f4)
def y1l1 : CCode :=
  (.seq (.region [
 kO 115 (.bin .lss 114 113)])
 y1o1)
def ypc : CCode :=
  (.loop [3, 15, 104, 105, 106, 112, 113, 114] y1l1)
def y1le : CCode :=
  (.block 10 ypc)
def y119 : CCode :=
  (.seq (.region [
 kO 111 (.ld true 9 16),
 kO 112 (.call none true 10 [111]),
 kO 113 (.len 1 112),
 kO 114 (.mv (ci 0))])
 y1le)
def y16n : CCode :=
  (.seq (.region [
 kO 108 (.mv 106),
 kO 109 (.ixs 9 104 106),
 kO 110 (.ld true 9 109),
 kO 16 (.new (some 5) [(.int .i64 0), (.int .i64 0), (.int .i64 0), (.int .i64 0), (.int .i64 0), (.int .i64 0), (.int .i64 0), (.str []), .nils]),
 kO 15 (.mv 108),
 kU (.st 9 16 110)])
 y119)
def y18j : CCode :=
  (.block 9 y16n)
def y19c : CCode :=
  (.seq y18j
 y1np)
def y0s : CCode :=
  (.seq (.cond 107
 .skip
 (.exit 8))
 y19c)
def yzi : CCode :=
  (.seq (.region [
 kO 107 (.bin .lss 106 105)])
 y0s)
def ypj : CCode :=
  (.loop [3, 104, 105, 106] yzi)
def y15v : CCode :=
  (.block 8 ypj)
def yze : CCode :=
  (.seq (.region [
 kO 103 (.fa 3 1),
 kO 104 (.ld false 1 103),
 kO 105 (.len 1 104),
 kO 106 (.mv (ci 0))])
 y15v)
def y0k : CCode :=
  (.seq yze
 y1l6)
def y0o : CCode :=
  (.region [
 kO 102 (.bin .add 93 (ci 1)),
 kO 93 (.mv 102)])
def y15l : CCode :=
  (.seq (.block 7 (.seq (.region [
 kO 95 (.ixs 1 91 93),
 kO 96 (.ld false 1 95),
 kO 14 (.mv 96)])
 (.region [
 kO 97 (.mv 3),
 kO 98 (.mv 14),
 kO 99 (.mv 9),
 kO 100 (.mv 7),
 kO 101 (.call none false 80 [97, 98, 99, 100]),
 kO 7 (.mv 101)])))
 y0o)
def y11k : CCode :=
  (.seq (.cond 94
 .skip
 (.exit 6))
 y15l)
def y14y : CCode :=
  (.seq (.region [
 kO 94 (.bin .lss 93 92)])
 y11k)
def yjv : CCode :=
  (.loop [1, 3, 7, 9, 91, 92, 93] y14y)
def y11g : CCode :=
  (.block 6 yjv)
def y151 : CCode :=
  (.seq (.region [
 kO 89 (.ld true 5 1),
 kO 90 (.mv 8),
 kO 91 (.call none true 81 [89, 90]),
 kO 92 (.len 1 91),
 kO 93 (.mv (ci 0))])
 y11g)
def y16g : CCode :=
  (.seq (.seq (.region [
 kO 78 (.fa 3 1),
 kO 79 (.ld false 1 78),
 kO 80 (.mv 8),
 kO 81 (.ixs 9 79 80),
 kO 82 (.ld true 9 81),
 kO 83 (.call none true 9 [82]),
 kO 12 (.mv 83)])
 (.seq (.region [
 kO 84 (.mv 12),
 kO 85 (.bin .geq 84 (ci 0))])
 (.cond 85
 (.region [
  kO 86 (.mv 9),
  kO 87 (.mv 12),
  kO 88 (.ixs 1 86 87),
  kU (.st 1 88 (.c (.bool true)))])
 .skip)))
 y151)
def y1am : CCode :=
  (.region [
 kO 77 (.bin .add 68 (ci 1)),
 kO 68 (.mv 77)])
def y13r : CCode :=
  (.seq (.block 5 (.seq (.region [
 kO 70 (.ixs 1 66 68),
 kO 71 (.ld false 1 70),
 kO 11 (.mv 71)])
 (.region [
 kO 72 (.mv 3),
 kO 73 (.mv 11),
 kO 74 (.mv 9),
 kO 75 (.mv 7),
 kO 76 (.call none false 80 [72, 73, 74, 75]),
 kO 7 (.mv 76)])))
 y1am)
def yzg : CCode :=
  (.seq (.cond 69
 .skip
 (.exit 4))
 y13r)
def y16t : CCode :=
  (.seq (.region [
 kO 69 (.bin .lss 68 67)])
 yzg)
def yl1 : CCode :=
  (.loop [1, 3, 7, 8, 9, 66, 67, 68] y16t)
def y180 : CCode :=
  (.block 4 yl1)
def y134 : CCode :=
  (.seq (.region [
 kO 64 (.ld true 5 1),
 kO 65 (.mv 8),
 kO 66 (.call none true 79 [64, 65]),
 kO 67 (.len 1 66),
 kO 68 (.mv (ci 0))])
 y180)
def y12a : CCode :=
  (.seq y134
 y16g)
def y169 : CCode :=
  (.seq (.region [
 kO 59 (.mv 3),
 kO 60 (.mv 8),
 kO 61 (.ixs 1 59 60),
 kO 62 (.ld false 1 61),
 kO 63 (.call (some 4) false 78 [62]),
 kO 9 (.mv 63)])
 y12a)
def y17r : CCode :=
  (.seq (.region [
 kO 54 (.mv 7),
 kO 55 (.mv 7),
 kO 56 (.len 1 55),
 kO 57 (.bin .sub 56 (ci 1)),
 kO 58 (.slc 1 54 none (some 57)),
 kO 7 (.mv 58)])
 y169)
def y12g : CCode :=
  (.seq (.region [
 kO 48 (.mv 7),
 kO 49 (.mv 7),
 kO 50 (.len 1 49),
 kO 51 (.bin .sub 50 (ci 1)),
 kO 52 (.ixs 1 48 51),
 kO 53 (.ld false 1 52),
 kO 8 (.mv 53)])
 y17r)
def y17i : CCode :=
  (.block 3 y12g)
def y14v : CCode :=
  (.seq (.seq (.region [
 kO 45 (.mv 7),
 kO 46 (.len 1 45),
 kO 47 (.bin .gtr 46 (ci 0))])
 (.cond 47
 .skip
 (.exit 2)))
 y17i)
def yik : CCode :=
  (.loop [1, 3, 7] y14v)
def y1ah : CCode :=
  (.block 2 yik)
def y16s : CCode :=
  (.seq y1ah
 y0k)
def y141 : CCode :=
  (.seq (.region [
 kO 42 (.mv 3),
 kO 43 (.mv 4),
 kO 44 (.ixs 1 42 (ci 0)),
 kU (.st 1 44 43)])
 y16s)
def y17t : CCode :=
  (.seq (.region [
 kO 41 (.buildS (some 3) 1 1 [(.int .i64 0)] [(0, (ci 0))]),
 kO 7 (.mv 41)])
 y141)
def y1ao : CCode :=
  (.region [
 kO 40 (.bin .add 33 (ci 1)),
 kO 33 (.mv 40)])
def y153 : CCode :=
  (.seq (.block 1 (.seq (.region [
 kO 35 (.ixs 1 31 33),
 kO 36 (.ld false 1 35),
 kO 6 (.mv 36)])
 (.region [
 kO 37 (.mv 4),
 kO 38 (.mv 6),
 kO 39 (.ixs 1 37 38),
 kU (.st 1 39 (.c (.bool true)))])))
 y1ao)
def yz6 : CCode :=
  (.seq (.cond 34
 .skip
 (.exit 0))
 y153)
def y17d : CCode :=
  (.seq (.region [
 kO 34 (.bin .lss 33 32)])
 yz6)
def yi9 : CCode :=
  (.loop [1, 3, 4, 31, 32, 33] y17d)
def y19h : CCode :=
  (.block 0 yi9)
def y14n : CCode :=
  (.seq (.region [
 kO 30 (.fa 1 1),
 kO 31 (.ld false 1 30),
 kO 32 (.len 1 31),
 kO 33 (.mv (ci 0))])
 y19h)
def y190 : CCode :=
  (.seq y14n
 y17t)
def y11f : CCode :=
  (.seq (.region [
 kO 26 (.fa 0 1),
 kO 27 (.ld false 1 26),
 kO 28 (.len 1 27),
 kO 29 (.mkS (some 2) 1 1 [(.bool false)] 28 28),
 kO 4 (.mv 29)])
 y190)
def y110 : CCode :=
  (.seq (.region [
 kO 22 (.fa 3 1),
 kO 23 (.ld false 1 22),
 kO 24 (.len 1 23),
 kO 25 (.mkS (some 1) 1 24 [.nils] 24 24),
 kO 3 (.mv 25)])
 y11f)
def y17s : CCode :=
  (.seq (.seq (.region [
 kO 19 (.ld true 5 1),
 kO 20 (.call none true 8 [19]),
 kO 21 (.bin .neq 20 (ci 0))])
 (.cond 21
 (.seq (.region [
  kO 2 (.mv (.c (.bool false)))])
  .ret)
 .skip))
 y110)
def y16b : CCode :=
  (.seq (.region [
 kO 1 (.box (some 0) 0),
 kO 2 (.mv (.c (.bool false)))])
 y17s)
def y2or : CFunc :=
  ⟨1, true, 6, y16b, [.t 2]⟩
def y2xj : CFunc :=
  ⟨0, true, 4, (.seq (.region [
    kO 0 (.mv (.c (.bool false)))])
  (.seq (.region [
    kO 2 (.buildS (some 0) 1 3 [(.int .i64 0)] [(0, (ci 1)), (1, (ci 1)), (2, (ci 1))]),
    kO 3 (.buildS (some 1) 1 1 [(.int .i64 0)] [(0, (ci 0))]),
    kO 4 (.build [(.int .i64 0), (.int .i64 0), (.int .i64 0), (.int .i64 0), (.int .i64 0), (.int .i64 0), (.int .i64 0), (.str []), .nils] [(0, 1, (ci 4)), (1, 1, (ci 1)), (2, 1, (ci 0))]),
    kO 5 (.build [(.int .i64 0), (.int .i64 0), (.int .i64 0), (.int .i64 0), (.int .i64 0), (.int .i64 0), (.int .i64 0), (.str []), .nils] [(0, 1, (ci 5)), (5, 1, (ci 96)), (1, 1, (ci 2)), (2, 1, (ci 1)), (3, 1, (ci 1))]),
    kO 6 (.build [(.int .i64 0), (.int .i64 0), (.int .i64 0), (.int .i64 0), (.int .i64 0), (.int .i64 0), (.int .i64 0), (.str []), .nils] [(0, 1, (ci 30)), (2, 1, (ci 2))]),
    kO 7 (.buildS (some 2) 9 3 [(.int .i64 0), (.int .i64 0), (.int .i64 0), (.int .i64 0), (.int .i64 0), (.int .i64 0), (.int .i64 0), (.str []), .nils] [(0, 4), (1, 5), (2, 6)]),
    kO 8 (.build [.nils, .nils, (.int .i64 0), .nils, .nils] [(0, 1, 2), (1, 1, 3), (2, 1, (ci 1)), (3, 1, 7)]),
    kO 9 (.call none true 149 [8]),
    kO 1 (.new (some 3) [.nils, .nils, (.int .i64 0), .nils, .nils]),
    kU (.st 5 1 9)])
  (.seq (.region [
    kO 10 (.fa 3 1),
    kO 11 (.ld false 1 10),
    kO 12 (.len 1 11),
    kO 13 (.bin .eql 12 (ci 3)),
    kO 14 (.mv 13),
    kG 15 (.fa 3 1) 14 true,
    kG 16 (.ld false 1 15) 14 true,
    kG 17 (.ixs 9 16 (ci 1)) 14 true,
    kG 18 (.fa 2 17) 14 true,
    kG 19 (.ld false 1 18) 14 true,
    kG 20 (.bin .eql 19 (ci 0)) 14 true,
    kO 21 (.pick 14 20 (.c (.bool false))),
    kO 22 (.mv 21),
    kG 23 (.fa 3 1) 22 true,
    kG 24 (.ld false 1 23) 22 true,
    kG 25 (.ixs 9 24 (ci 1)) 22 true,
    kG 26 (.fa 3 25) 22 true,
    kG 27 (.ld false 1 26) 22 true,
    kG 28 (.bin .eql 27 (ci 0)) 22 true,
    kO 29 (.pick 22 28 (.c (.bool false))),
    kO 30 (.mv 29),
    kG 31 (.fa 3 1) 30 true,
    kG 32 (.ld false 1 31) 30 true,
    kG 33 (.ixs 9 32 (ci 2)) 30 true,
    kG 34 (.fa 2 33) 30 true,
    kG 35 (.ld false 1 34) 30 true,
    kG 36 (.bin .eql 35 (ci 2)) 30 true,
    kO 37 (.pick 30 36 (.c (.bool false))),
    kO 0 (.mv 37)])
  .ret))), [.t 0]⟩
def y2au : CCode :=
  (.seq (.region [
 kO 173 (.ld true 5 1),
 kU (.st 5 2 173)])
 .ret)
def y2ca : CCode :=
  (.region [
 kO 172 (.bin .add 109 (ci 1)),
 kO 109 (.mv 172)])
def y2ba : CCode :=
  (.draw [
 kO 165 (.fa 3 1),
 kO 166 (.ld false 1 165),
 kO 167 (.mv 16),
 kO 168 (.ld true 9 17),
 kO 169 (.mv 18),
 kO 170 (.call none true 27 [168, 169]),
 kO 171 (.ixs 9 166 167),
 kU (.st 9 171 170)] [(1, 5)])
def y2az : CCode :=
  (.region [
 kO 164 (.bin .add 141 (ci 1)),
 kO 141 (.mv 164)])
def y2c8 : CCode :=
  (.seq (.block 11 (.seq (.region [
 kO 143 (.mv 141),
 kO 144 (.ixs 1 139 141),
 kO 145 (.ld false 1 144),
 kO 19 (.mv 143),
 kO 20 (.mv 145)])
 (.seq (.region [
 kO 146 (.ld false 1 3),
 kO 147 (.mv 16),
 kO 148 (.ixs 1 146 147),
 kO 149 (.ld false 1 148),
 kO 150 (.mv 20),
 kO 151 (.ixs 1 149 150),
 kO 152 (.ld false 1 151),
 kO 153 (.bin .geq 152 (ci 0))])
 (.cond 153
 (.region [
  kO 154 (.mv 18),
  kO 155 (.mv 19),
  kO 156 (.ld false 1 3),
  kO 157 (.mv 16),
  kO 158 (.ixs 1 156 157),
  kO 159 (.ld false 1 158),
  kO 160 (.mv 20),
  kO 161 (.ixs 1 159 160),
  kO 162 (.ld false 1 161),
  kO 163 (.ixs 1 154 155),
  kU (.st 1 163 162)])
 .skip))))
 y2az)
def y2b4 : CCode :=
  (.seq (.cond 142
 .skip
 (.exit 10))
 y2c8)
def y2c2 : CCode :=
  (.seq (.region [
 kO 142 (.bin .lss 141 140)])
 y2b4)
def ywk : CCode :=
  (.loop [1, 2, 3, 12, 15, 16, 17, 18, 107, 108, 109, 139, 140, 141] y2c2)
def y1rs : CCode :=
  (.block 10 ywk)
def y1i6 : CCode :=
  (.seq (.region [
 kO 139 (.mv 18),
 kO 140 (.len 1 139),
 kO 141 (.mv (ci 0))])
 y1rs)
def y1yn : CCode :=
  (.seq y1i6
 y2ba)
def y1pq : CCode :=
  (.seq (.region [
 kO 137 (.ld true 9 17),
 kO 138 (.call (some 19) false 10 [137]),
 kO 18 (.mv 138)])
 y1yn)
def y1nq : CCode :=
  (.seq (.seq (.region [
 kO 119 (.mv 12),
 kO 120 (.mv 16),
 kO 121 (.mget false [0] (.bool false) false 119 120),
 kO 122 (.un .not 121)])
 (.cond 122
 (.draw [
  kO 123 (.ld false 1 3),
  kO 124 (.mv 16),
  kO 125 (.ld false 1 3),
  kO 126 (.mv 16),
  kO 127 (.bin .sub 126 (ci 1)),
  kO 128 (.ixs 1 125 127),
  kO 129 (.ld false 1 128),
  kO 130 (.mv 15),
  kO 131 (.mv 16),
  kO 132 (.bin .sub 131 (ci 1)),
  kO 133 (.ixs 9 130 132),
  kO 134 (.ld true 9 133),
  kO 135 (.call none true 152 [129, 134]),
  kO 136 (.ixs 1 123 124),
  kU (.st 1 136 135)] [(0, 12)])
 .skip))
 y1pq)
def y1g8 : CCode :=
  (.seq (.seq (.region [
 kO 114 (.ld false 1 3),
 kO 115 (.mv 16),
 kO 116 (.ixs 1 114 115),
 kO 117 (.ld false 1 116),
 kO 118 (.eqn 1 false 117 (.c .nils))])
 (.cond 118
 (.exit 9)
 .skip))
 y1nq)
def y1ml : CCode :=
  (.seq (.region [
 kO 111 (.mv 109),
 kO 112 (.ixs 9 107 109),
 kO 113 (.ld true 9 112),
 kO 17 (.new (some 18) [(.int .i64 0), (.int .i64 0), (.int .i64 0), (.int .i64 0), (.int .i64 0), (.int .i64 0), (.int .i64 0), (.str []), .nils]),
 kO 16 (.mv 111),
 kU (.st 9 17 113)])
 y1g8)
def y1vu : CCode :=
  (.block 9 y1ml)
def y1gy : CCode :=
  (.seq y1vu
 y2ca)
def y1tk : CCode :=
  (.seq (.cond 110
 .skip
 (.exit 8))
 y1gy)
def y1hm : CCode :=
  (.seq (.region [
 kO 110 (.bin .lss 109 108)])
 y1tk)
def yxy : CCode :=
  (.loop [1, 2, 3, 12, 15, 107, 108, 109] y1hm)
def y1x7 : CCode :=
  (.block 8 yxy)
def y1so : CCode :=
  (.seq (.region [
 kO 107 (.mv 15),
 kO 108 (.len 1 107),
 kO 109 (.mv (ci 0))])
 y1x7)
def y1n3 : CCode :=
  (.seq y1so
 y2au)
def y1t9 : CCode :=
  (.seq (.region [
 kO 104 (.fa 3 1),
 kO 105 (.ld false 1 104),
 kO 106 (.call (some 16) true 40 [105]),
 kO 15 (.mv 106)])
 y1n3)
def y1fq : CCode :=
  (.region [
 kO 103 (.bin .add 97 (ci 1)),
 kO 97 (.mv 103)])
def y1im : CCode :=
  (.seq (.block 7 (.seq (.region [
 kO 99 (.ixs 1 95 97),
 kO 100 (.ld false 1 99),
 kO 14 (.mv 100)])
 (.region [
 kO 101 (.mv 12),
 kO 102 (.mv 14),
 kU (.mput false [0] 101 102 (.c (.bool true)))])))
 y1fq)
def y1r6 : CCode :=
  (.seq (.cond 98
 .skip
 (.exit 6))
 y1im)
def y1la : CCode :=
  (.seq (.region [
 kO 98 (.bin .lss 97 96)])
 y1r6)
def yp8 : CCode :=
  (.loop [1, 2, 3, 12, 95, 96, 97] y1la)
def y1k8 : CCode :=
  (.block 6 yp8)
def y1jp : CCode :=
  (.seq (.region [
 kO 94 (.ld true 5 1),
 kO 95 (.call none true 102 [94]),
 kO 96 (.len 1 95),
 kO 97 (.mv (ci 0))])
 y1k8)
def y1g1 : CCode :=
  (.seq y1jp
 y1t9)
def y1ub : CCode :=
  (.seq (.region [
 kO 93 (.mkm (some 15)),
 kO 12 (.mv 93)])
 y1g1)
def y1qq : CCode :=
  (.region [
 kO 92 (.bin .add 84 (ci 1)),
 kO 84 (.mv 92)])
def y1zn : CCode :=
  (.seq (.block 5 (.seq (.region [
 kO 86 (.ixs 1 82 84),
 kO 87 (.ld false 1 86),
 kO 11 (.mv 87)])
 (.region [
 kO 88 (.mv 5),
 kO 89 (.mv 11),
 kO 90 (.mv 9),
 kO 91 (.callv none true 88 [89, 90])])))
 y1qq)
def y1qn : CCode :=
  (.seq (.cond 85
 .skip
 (.exit 4))
 y1zn)
def y1wd : CCode :=
  (.seq (.region [
 kO 85 (.bin .lss 84 83)])
 y1qn)
def yqp : CCode :=
  (.loop [1, 2, 3, 4, 5, 9, 82, 83, 84] y1wd)
def y1ri : CCode :=
  (.block 4 yqp)
def y1o7 : CCode :=
  (.seq (.region [
 kO 80 (.ld true 5 1),
 kO 81 (.mv 6),
 kO 82 (.call none true 81 [80, 81]),
 kO 83 (.len 1 82),
 kO 84 (.mv (ci 0))])
 y1ri)
def y1td : CCode :=
  (.seq (.draw [
 kO 70 (.ld false 1 3),
 kO 71 (.mv 6),
 kO 72 (.ixs 1 70 71),
 kO 73 (.ld false 1 72),
 kO 74 (.fa 3 1),
 kO 75 (.ld false 1 74),
 kO 76 (.mv 6),
 kO 77 (.ixs 9 75 76),
 kO 78 (.ld true 9 77),
 kO 79 (.call none true 152 [73, 78]),
 kO 9 (.mv 79)] [])
 y1o7)
def y1hr : CCode :=
  (.region [
 kO 69 (.bin .add 58 (ci 1)),
 kO 58 (.mv 69)])
def y1os : CCode :=
  (.seq (.block 3 (.seq (.region [
 kO 60 (.ixs 1 56 58),
 kO 61 (.ld false 1 60),
 kO 8 (.mv 61)])
 (.region [
 kO 62 (.mv 5),
 kO 63 (.mv 8),
 kO 64 (.ld false 1 3),
 kO 65 (.mv 6),
 kO 66 (.ixs 1 64 65),
 kO 67 (.ld false 1 66),
 kO 68 (.callv none true 62 [63, 67])])))
 y1hr)
def y1gt : CCode :=
  (.seq (.cond 59
 .skip
 (.exit 2))
 y1os)
def y1w6 : CCode :=
  (.seq (.region [
 kO 59 (.bin .lss 58 57)])
 y1gt)
def yqn : CCode :=
  (.loop [1, 2, 3, 4, 5, 6, 56, 57, 58] y1w6)
def y1ut : CCode :=
  (.block 2 yqn)
def y1pt : CCode :=
  (.seq (.region [
 kO 54 (.ld true 5 1),
 kO 55 (.mv 6),
 kO 56 (.call none true 79 [54, 55]),
 kO 57 (.len 1 56),
 kO 58 (.mv (ci 0))])
 y1ut)
def y1mo : CCode :=
  (.seq y1pt
 y1td)
def y1n5 : CCode :=
  (.seq (.region [
 kO 49 (.ld false 1 4),
 kO 50 (.ld false 1 4),
 kO 51 (.len 1 50),
 kO 52 (.bin .sub 51 (ci 1)),
 kO 53 (.slc 1 49 none (some 52)),
 kU (.st 1 4 53)])
 y1mo)
def y1wj : CCode :=
  (.seq (.region [
 kO 43 (.ld false 1 4),
 kO 44 (.ld false 1 4),
 kO 45 (.len 1 44),
 kO 46 (.bin .sub 45 (ci 1)),
 kO 47 (.ixs 1 43 46),
 kO 48 (.ld false 1 47),
 kO 6 (.mv 48)])
 y1n5)
def y1yl : CCode :=
  (.block 1 y1wj)
def y1fs : CCode :=
  (.seq (.seq (.region [
 kO 40 (.ld false 1 4),
 kO 41 (.len 1 40),
 kO 42 (.bin .gtr 41 (ci 0))])
 (.cond 42
 .skip
 (.exit 0)))
 y1yl)
def ypy : CCode :=
  (.loop [1, 2, 3, 4, 5] y1fs)
def y1y2 : CCode :=
  (.block 0 ypy)
def y1xt : CCode :=
  (.seq y1y2
 y1ub)
def y1jz : CCode :=
  (.seq (.region [
 kO 39 (.mkf 151 [3, 4]),
 kO 5 (.mv 39)])
 y1xt)
def y1r2 : CCode :=
  (.seq (.region [
 kO 38 (.buildS (some 13) 1 1 [(.int .i64 0)] [(0, (ci 0))]),
 kO 4 (.new (some 14) [.nils]),
 kU (.st 1 4 38)])
 y1jz)
def y1nj : CCode :=
  (.seq (.draw [
 kO 31 (.ld false 1 3),
 kO 32 (.buildS (some 12) 1 1 [(.int .i64 0)] [(0, (ci (-1)))]),
 kO 33 (.fa 0 1),
 kO 34 (.ld false 1 33),
 kO 35 (.len 1 34),
 kO 36 (.call none true 150 [32, 35]),
 kO 37 (.ixs 1 31 (ci 0)),
 kU (.st 1 37 36)] [(0, 1), (1, 3), (1, 4), (0, 5)])
 y1r2)
def y1vd : CCode :=
  (.seq (.region [
 kO 27 (.fa 3 1),
 kO 28 (.ld false 1 27),
 kO 29 (.len 1 28),
 kO 30 (.mkS (some 10) 1 24 [.nils] 29 29),
 kO 3 (.new (some 11) [.nils]),
 kU (.st 1 3 30)])
 y1nj)
def y1pv : CCode :=
  (.seq (.seq (.region [
 kO 23 (.ld true 5 1),
 kO 24 (.call none true 8 [23]),
 kO 25 (.bin .neq 24 (ci 0))])
 (.cond 25
 (.seq (.region [
  kO 26 (.ld true 5 1),
  kU (.st 5 2 26)])
  .ret)
 .skip))
 y1vd)
def y1i7 : CCode :=
  (.seq (.region [
 kO 21 (.ld true 5 1),
 kO 22 (.call (some 2) false 13 [21]),
 kU (.st 5 1 22)])
 y1pv)
def y1ew : CCode :=
  (.seq (.region [
 kO 1 (.box (some 0) 0),
 kO 2 (.new (some 1) [.nils, .nils, (.int .i64 0), .nils, .nils])])
 y1i7)
def c_q1 : CFunc :=
  ⟨1, true, 20, y1ew, [.cell 2 true 5]⟩
def y1u8 : CCode :=
  (.seq (.region [
 kO 2 (.mv (.c .nils))])
 .ret)
def y1oo : CCode :=
  (.seq (.region [
 kO 58 (.fa 2 1),
 kO 59 (.ld false 1 58),
 kO 60 (.fa 3 1),
 kO 61 (.ld false 1 60),
 kO 62 (.buildS (some 6) 1 2 [(.int .i64 0)] [(0, 59), (1, 61)]),
 kO 2 (.mv 62)])
 .ret)
def y1mz : CCode :=
  (.seq (.seq (.region [
 kO 52 (.fa 3 1),
 kO 53 (.ld false 1 52),
 kO 54 (.bin .lss 53 (ci 0))])
 (.cond 54
 (.seq (.region [
  kO 55 (.fa 2 1),
  kO 56 (.ld false 1 55),
  kO 57 (.buildS (some 5) 1 1 [(.int .i64 0)] [(0, 56)]),
  kO 2 (.mv 57)])
  .ret)
 .skip))
 y1oo)
def y1kn : CCode :=
  (.cond 50
 y1mz
 (.seq (.region [
  kO 64 (.bin .eql 4 (ci 30)),
  kO 63 (.mv 64)])
  (.cond 63
  (.seq (.region [
   kO 65 (.fa 2 1),
   kO 66 (.ld false 1 65),
   kO 67 (.bin .geq 66 (ci 0))])
   (.cond 67
   (.seq (.region [
    kO 68 (.fa 2 1),
    kO 69 (.ld false 1 68),
    kO 70 (.buildS (some 7) 1 1 [(.int .i64 0)] [(0, 69)]),
    kO 2 (.mv 70)])
    .ret)
   .skip))
  .skip)))
def y1q7 : CCode :=
  (.seq (.region [
 kO 51 (.bin .eql 4 (ci 29)),
 kO 50 (.mv 51)])
 y1kn)
def y1sl : CCode :=
  (.cond 42
 (.seq (.region [
  kO 47 (.fa 8 1),
  kO 48 (.ld false 1 47),
  kO 49 (.call (some 4) false 39 [48]),
  kO 2 (.mv 49)])
  .ret)
 y1q7)
def y1ng : CCode :=
  (.seq (.seq (.region [
 kO 43 (.bin .eql 4 (ci 23)),
 kO 42 (.mv 43)])
 (.cond 42
 .skip
 (.seq (.region [
  kO 44 (.bin .eql 4 (ci 24)),
  kO 42 (.mv 44)])
  (.cond 42
  .skip
  (.seq (.region [
   kO 45 (.bin .eql 4 (ci 25)),
   kO 42 (.mv 45)])
   (.cond 42
   .skip
   (.region [
    kO 46 (.bin .eql 4 (ci 26)),
    kO 42 (.mv 46)])))))))
 y1sl)
def y1k3 : CCode :=
  (.cond 33
 (.seq (.region [
  kO 35 (.fa 2 1),
  kO 36 (.ld false 1 35),
  kO 37 (.fa 3 1),
  kO 38 (.ld false 1 37),
  kO 39 (.fa 4 1),
  kO 40 (.ld false 1 39),
  kO 41 (.buildS (some 3) 1 3 [(.int .i64 0)] [(0, 36), (1, 38), (2, 40)]),
  kO 2 (.mv 41)])
  .ret)
 y1ng)
def y1y1 : CCode :=
  (.seq (.region [
 kO 34 (.bin .eql 4 (ci 14)),
 kO 33 (.mv 34)])
 y1k3)
def y183 : CCode :=
  (.cond 21
 (.seq (.region [
  kO 28 (.fa 2 1),
  kO 29 (.ld false 1 28),
  kO 30 (.fa 3 1),
  kO 31 (.ld false 1 30),
  kO 32 (.buildS (some 2) 1 2 [(.int .i64 0)] [(0, 29), (1, 31)]),
  kO 2 (.mv 32)])
  .ret)
 y1y1)
def y140 : CCode :=
  (.seq (.seq (.region [
 kO 22 (.bin .eql 4 (ci 5)),
 kO 21 (.mv 22)])
 (.cond 21
 .skip
 (.seq (.region [
  kO 23 (.bin .eql 4 (ci 9)),
  kO 21 (.mv 23)])
  (.cond 21
  .skip
  (.seq (.region [
   kO 24 (.bin .eql 4 (ci 11)),
   kO 21 (.mv 24)])
   (.cond 21
   .skip
   (.seq (.region [
    kO 25 (.bin .eql 4 (ci 13)),
    kO 21 (.mv 25)])
    (.cond 21
    .skip
    (.seq (.region [
     kO 26 (.bin .eql 4 (ci 17)),
     kO 21 (.mv 26)])
     (.cond 21
     .skip
     (.region [
      kO 27 (.bin .eql 4 (ci 28)),
      kO 21 (.mv 27)])))))))))))
 y183)
def yys : CCode :=
  (.cond 5
 (.seq (.region [
  kO 18 (.fa 2 1),
  kO 19 (.ld false 1 18),
  kO 20 (.buildS (some 1) 1 1 [(.int .i64 0)] [(0, 19)]),
  kO 2 (.mv 20)])
  .ret)
 y140)
def y128 : CCode :=
  (.seq (.seq (.region [
 kO 6 (.bin .eql 4 (ci 4)),
 kO 5 (.mv 6)])
 (.cond 5
 .skip
 (.seq (.region [
  kO 7 (.bin .eql 4 (ci 6)),
  kO 5 (.mv 7)])
  (.cond 5
  .skip
  (.seq (.region [
   kO 8 (.bin .eql 4 (ci 7)),
   kO 5 (.mv 8)])
   (.cond 5
   .skip
   (.seq (.region [
    kO 9 (.bin .eql 4 (ci 8)),
    kO 5 (.mv 9)])
    (.cond 5
    .skip
    (.seq (.region [
     kO 10 (.bin .eql 4 (ci 10)),
     kO 5 (.mv 10)])
     (.cond 5
     .skip
     (.seq (.region [
      kO 11 (.bin .eql 4 (ci 12)),
      kO 5 (.mv 11)])
      (.cond 5
      .skip
      (.seq (.region [
       kO 12 (.bin .eql 4 (ci 15)),
       kO 5 (.mv 12)])
       (.cond 5
       .skip
       (.seq (.region [
        kO 13 (.bin .eql 4 (ci 16)),
        kO 5 (.mv 13)])
        (.cond 5
        .skip
        (.seq (.region [
         kO 14 (.bin .eql 4 (ci 19)),
         kO 5 (.mv 14)])
         (.cond 5
         .skip
         (.seq (.region [
          kO 15 (.bin .eql 4 (ci 21)),
          kO 5 (.mv 15)])
          (.cond 5
          .skip
          (.seq (.region [
           kO 16 (.bin .eql 4 (ci 22)),
           kO 5 (.mv 16)])
           (.cond 5
           .skip
           (.region [
            kO 17 (.bin .eql 4 (ci 31)),
            kO 5 (.mv 17)])))))))))))))))))))))))
 yys)
def y1ag : CCode :=
  (.block 0 y128)
def y158 : CCode :=
  (.seq (.region [
 kO 3 (.fa 0 1),
 kO 4 (.ld false 1 3)])
 y1ag)
def y13c : CCode :=
  (.seq y158
 y1u8)
def y0w : CCode :=
  (.seq (.region [
 kO 1 (.box (some 0) 0),
 kO 2 (.mv (.c .nils))])
 y13c)
def y2pz : CFunc :=
  ⟨1, true, 8, y0w, [.t 2]⟩
def y1rz : CCode :=
  (.seq (.region [
 kO 2 (.mv (ci (-1)))])
 .ret)
def y1f0 : CCode :=
  (.seq (.seq (.region [
 kO 22 (.ld true 9 1),
 kO 23 (.call none true 17 [22])])
 (.cond 23
 (.seq (.region [
  kO 24 (.fa 1 1),
  kO 25 (.ld false 1 24),
  kO 2 (.mv 25)])
  .ret)
 .skip))
 y1rz)
def y1zw : CCode :=
  (.cond 5
 (.seq (.region [
  kO 20 (.fa 1 1),
  kO 21 (.ld false 1 20),
  kO 2 (.mv 21)])
  .ret)
 .skip)
def y1fk : CCode :=
  (.seq (.seq (.region [
 kO 6 (.bin .eql 4 (ci 1)),
 kO 5 (.mv 6)])
 (.cond 5
 .skip
 (.seq (.region [
  kO 7 (.bin .eql 4 (ci 2)),
  kO 5 (.mv 7)])
  (.cond 5
  .skip
  (.seq (.region [
   kO 8 (.bin .eql 4 (ci 3)),
   kO 5 (.mv 8)])
   (.cond 5
   .skip
   (.seq (.region [
    kO 9 (.bin .eql 4 (ci 4)),
    kO 5 (.mv 9)])
    (.cond 5
    .skip
    (.seq (.region [
     kO 10 (.bin .eql 4 (ci 5)),
     kO 5 (.mv 10)])
     (.cond 5
     .skip
     (.seq (.region [
      kO 11 (.bin .eql 4 (ci 6)),
      kO 5 (.mv 11)])
      (.cond 5
      .skip
      (.seq (.region [
       kO 12 (.bin .eql 4 (ci 13)),
       kO 5 (.mv 12)])
       (.cond 5
       .skip
       (.seq (.region [
        kO 13 (.bin .eql 4 (ci 15)),
        kO 5 (.mv 13)])
        (.cond 5
        .skip
        (.seq (.region [
         kO 14 (.bin .eql 4 (ci 16)),
         kO 5 (.mv 14)])
         (.cond 5
         .skip
         (.seq (.region [
          kO 15 (.bin .eql 4 (ci 18)),
          kO 5 (.mv 15)])
          (.cond 5
          .skip
          (.seq (.region [
           kO 16 (.bin .eql 4 (ci 20)),
           kO 5 (.mv 16)])
           (.cond 5
           .skip
           (.seq (.region [
            kO 17 (.bin .eql 4 (ci 21)),
            kO 5 (.mv 17)])
            (.cond 5
            .skip
            (.seq (.region [
             kO 18 (.bin .eql 4 (ci 22)),
             kO 5 (.mv 18)])
             (.cond 5
             .skip
             (.region [
              kO 19 (.bin .eql 4 (ci 32)),
              kO 5 (.mv 19)])))))))))))))))))))))))))))
 y1zw)
def y1kq : CCode :=
  (.block 0 y1fk)
def y1ru : CCode :=
  (.seq (.region [
 kO 3 (.fa 0 1),
 kO 4 (.ld false 1 3)])
 y1kq)
def y1mj : CCode :=
  (.seq y1ru
 y1f0)
def y1lu : CCode :=
  (.seq (.region [
 kO 1 (.box (some 0) 0),
 kO 2 (.mv (ci 0))])
 y1mj)
def y2q6 : CFunc :=
  ⟨1, true, 1, y1lu, [.t 2]⟩
def y14x : CCode :=
  (.seq (.region [
 kO 5 (.buildS (some 0) 1 0 [(.int .i64 0)] []),
 kO 6 (.mv 0),
 kO 7 (.app (some 1) 1 8 5 6),
 kO 2 (.mv 7)])
 .ret)
def y17m : CCode :=
  (.seq (.seq (.region [
 kO 3 (.mv 0),
 kO 4 (.eqn 1 false 3 (.c .nils))])
 (.cond 4
 (.seq (.region [
  kO 2 (.mv (.c .nils))])
  .ret)
 .skip))
 y14x)
def y15t : CCode :=
  (.seq (.region [
 kO 2 (.mv (.c .nils))])
 y17m)
def y2aw : CFunc :=
  ⟨1, true, 2, y15t, [.t 2]⟩
def yqc : CCode :=
  (.seq (.region [
 kO 5 (.buildS (some 0) 9 0 [(.int .i64 0), (.int .i64 0), (.int .i64 0), (.int .i64 0), (.int .i64 0), (.int .i64 0), (.int .i64 0), (.str []), .nils] []),
 kO 6 (.mv 0),
 kO 7 (.app (some 1) 9 96 5 6),
 kO 2 (.mv 7)])
 .ret)
def yqd : CCode :=
  (.seq (.seq (.region [
 kO 3 (.mv 0),
 kO 4 (.eqn 1 false 3 (.c .nils))])
 (.cond 4
 (.seq (.region [
  kO 2 (.mv (.c .nils))])
  .ret)
 .skip))
 yqc)
def yqh : CCode :=
  (.seq (.region [
 kO 2 (.mv (.c .nils))])
 yqd)
def y1zp : CFunc :=
  ⟨1, true, 2, yqh, [.t 2]⟩
def y1aj : CCode :=
  (.seq (.region [
 kO 5 (.buildS (some 0) 4 0 [(.int .i64 0), (.int .i64 0), (.int .i64 0), (.str [])] []),
 kO 6 (.mv 0),
 kO 7 (.app (some 1) 4 40 5 6),
 kO 2 (.mv 7)])
 .ret)
def y14c : CCode :=
  (.seq (.seq (.region [
 kO 3 (.mv 0),
 kO 4 (.eqn 1 false 3 (.c .nils))])
 (.cond 4
 (.seq (.region [
  kO 2 (.mv (.c .nils))])
  .ret)
 .skip))
 y1aj)
def y17b : CCode :=
  (.seq (.region [
 kO 2 (.mv (.c .nils))])
 y14c)
def y2ap : CFunc :=
  ⟨1, true, 2, y17b, [.t 2]⟩
def y19k : CCode :=
  (.seq (.region [
 kO 4 (.mv (.c (.bool true)))])
 .ret)
def y0e : CCode :=
  (.region [
 kO 15 (.mv 5),
 kO 16 (.bin .add 15 (ci 1)),
 kO 5 (.mv 16)])
def y16u : CCode :=
  (.seq (.block 1 (.seq (.draw [
 kO 17 (.mv 0),
 kO 18 (.mv 5),
 kO 19 (.ixs 1 17 18),
 kO 20 (.ld false 1 19),
 kO 21 (.mv 1),
 kO 22 (.mv 5),
 kO 23 (.ixs 1 21 22),
 kO 24 (.ld false 1 23),
 kO 25 (.bin .neq 20 24)] [])
 (.cond 25
 (.seq (.region [
  kO 4 (.mv (.c (.bool false)))])
  .ret)
 .skip)))
 y0e)
def yzl : CCode :=
  (.seq (.seq (.region [
 kO 11 (.mv 5),
 kO 12 (.mv 0),
 kO 13 (.len 1 12),
 kO 14 (.bin .lss 11 13)])
 (.cond 14
 .skip
 (.exit 0)))
 y16u)
def yj7 : CCode :=
  (.loop [0, 1, 5] yzl)
def yyn : CCode :=
  (.block 0 yj7)
def y16j : CCode :=
  (.seq (.region [
 kO 5 (.mv (ci 0))])
 yyn)
def y1aa : CCode :=
  (.seq y16j
 y19k)
def y179 : CCode :=
  (.seq (.seq (.region [
 kO 6 (.mv 0),
 kO 7 (.len 1 6),
 kO 8 (.mv 1),
 kO 9 (.len 1 8),
 kO 10 (.bin .neq 7 9)])
 (.cond 10
 (.seq (.region [
  kO 4 (.mv (.c (.bool false)))])
  .ret)
 .skip))
 y1aa)
def yv5 : CCode :=
  (.seq (.region [
 kO 4 (.mv (.c (.bool false)))])
 y179)
def y2cg : CFunc :=
  ⟨2, true, 0, yv5, [.t 4]⟩
def y1al : CCode :=
  (.seq (.region [
 kO 2 (.box (some 0) 0),
 kO 3 (.box (some 1) 1),
 kO 4 (.mv (.c (.bool false)))])
 (.seq (.region [
 kO 5 (.fa 0 2),
 kO 6 (.ld false 1 5),
 kO 7 (.fa 0 3),
 kO 8 (.ld false 1 7),
 kO 9 (.bin .eql 6 8),
 kO 10 (.mv 9),
 kG 11 (.fa 1 2) 10 true,
 kG 12 (.ld false 1 11) 10 true,
 kG 13 (.fa 1 3) 10 true,
 kG 14 (.ld false 1 13) 10 true,
 kG 15 (.bin .eql 12 14) 10 true,
 kO 16 (.pick 10 15 (.c (.bool false))),
 kO 17 (.mv 16),
 kG 18 (.fa 2 2) 17 true,
 kG 19 (.ld false 1 18) 17 true,
 kG 20 (.fa 2 3) 17 true,
 kG 21 (.ld false 1 20) 17 true,
 kG 22 (.bin .eql 19 21) 17 true,
 kO 23 (.pick 17 22 (.c (.bool false))),
 kO 24 (.mv 23),
 kG 25 (.fa 3 2) 24 true,
 kG 26 (.ld false 1 25) 24 true,
 kG 27 (.fa 3 3) 24 true,
 kG 28 (.ld false 1 27) 24 true,
 kG 29 (.bin .eql 26 28) 24 true,
 kO 30 (.pick 24 29 (.c (.bool false))),
 kO 31 (.mv 30),
 kG 32 (.fa 4 2) 31 true,
 kG 33 (.ld false 1 32) 31 true,
 kG 34 (.fa 4 3) 31 true,
 kG 35 (.ld false 1 34) 31 true,
 kG 36 (.bin .eql 33 35) 31 true,
 kO 37 (.pick 31 36 (.c (.bool false))),
 kO 38 (.mv 37),
 kG 39 (.fa 5 2) 38 true,
 kG 40 (.ld false 1 39) 38 true,
 kG 41 (.fa 5 3) 38 true,
 kG 42 (.ld false 1 41) 38 true,
 kG 43 (.bin .eql 40 42) 38 true,
 kO 44 (.pick 38 43 (.c (.bool false))),
 kO 45 (.mv 44),
 kG 46 (.fa 6 2) 45 true,
 kG 47 (.ld false 1 46) 45 true,
 kG 48 (.fa 6 3) 45 true,
 kG 49 (.ld false 1 48) 45 true,
 kG 50 (.bin .eql 47 49) 45 true,
 kO 51 (.pick 45 50 (.c (.bool false))),
 kO 52 (.mv 51),
 kG 53 (.fa 7 2) 52 true,
 kG 54 (.ld false 1 53) 52 true,
 kG 55 (.fa 7 3) 52 true,
 kG 56 (.ld false 1 55) 52 true,
 kG 57 (.bin .eql 54 56) 52 true,
 kO 58 (.pick 52 57 (.c (.bool false))),
 kO 59 (.mv 58),
 kG 60 (.fa 8 2) 59 true,
 kG 61 (.ld false 1 60) 59 true,
 kG 62 (.fa 8 3) 59 true,
 kG 63 (.ld false 1 62) 59 true,
 kG 64 (.call none true 11 [61, 63]) 59 true,
 kO 65 (.pick 59 64 (.c (.bool false))),
 kO 4 (.mv 65)])
 .ret))
def y2b6 : CFunc :=
  ⟨2, true, 2, y1al, [.t 4]⟩
def y1jq : CCode :=
  (.seq (.region [
 kO 1 (.box (some 0) 0),
 kO 2 (.mv (.c (.bool false)))])
 (.seq (.region [
 kO 3 (.fa 0 1),
 kO 4 (.ld false 1 3),
 kO 5 (.bin .eql 4 (ci 27)),
 kO 6 (.mv 5),
 kG 7 (.fa 0 1) 6 false,
 kG 8 (.ld false 1 7) 6 false,
 kG 9 (.bin .eql 8 (ci 30)) 6 false,
 kO 10 (.pick 6 (.c (.bool true)) 9),
 kO 11 (.mv 10),
 kG 12 (.fa 0 1) 11 false,
 kG 13 (.ld false 1 12) 11 false,
 kG 14 (.bin .eql 13 (ci 31)) 11 false,
 kO 15 (.pick 11 (.c (.bool true)) 14),
 kO 2 (.mv 15)])
 .ret))
def y2r4 : CFunc :=
  ⟨1, true, 1, y1jq, [.t 2]⟩
def y00 : CCode :=
  (.seq (.region [
 kO 4 (.mv (.c (.bool false)))])
 (.seq (.region [
 kO 5 (.mv 0),
 kO 6 (.mv 1),
 kO 7 (.call none true 45 [5, 6]),
 kO 8 (.bin .geq 7 (ci 0)),
 kO 4 (.mv 8)])
 .ret))
def y2ak : CFunc :=
  ⟨2, true, 0, y00, [.t 4]⟩
def y1z2 : CCode :=
  (.seq (.region [
 kO 183 (.ld true 9 3),
 kO 184 (.call none true 22 [183]),
 kO 185 (.un .not 184),
 kO 186 (.mv 185),
 kG 187 (.fa 6 3) 186 false,
 kG 188 (.ld false 1 187) 186 false,
 kG 189 (.bin .geq 188 (ci 0)) 186 false,
 kG 190 (.mv 189) 186 false,
 kG 191 (.fa 6 3) 190 true,
 kG 192 (.ld false 1 191) 190 true,
 kG 193 (.fa 3 2) 190 true,
 kG 194 (.ld false 1 193) 190 true,
 kG 195 (.len 1 194) 190 true,
 kG 196 (.bin .lss 192 195) 190 true,
 kG 197 (.pick 190 196 (.c (.bool false))) 186 false,
 kO 198 (.pick 186 (.c (.bool true)) 197),
 kO 4 (.mv 198)])
 .ret)
def y1oc : CCode :=
  (.seq (.seq (.region [
 kO 105 (.fa 0 3),
 kO 106 (.ld false 1 105)])
 (.block 4 (.seq (.region [
 kO 108 (.bin .eql 106 (ci 1)),
 kO 107 (.mv 108)])
 (.cond 107
 (.seq (.region [
  kO 109 (.fa 0 2),
  kO 110 (.ld false 1 109),
  kO 111 (.fa 1 3),
  kO 112 (.ld false 1 111),
  kO 113 (.ixs 1 110 112),
  kO 114 (.ld false 1 113),
  kO 115 (.bin .neq 114 (ci 3)),
  kO 116 (.mv 115),
  kG 117 (.fa 0 2) 116 true,
  kG 118 (.ld false 1 117) 116 true,
  kG 119 (.fa 1 3) 116 true,
  kG 120 (.ld false 1 119) 116 true,
  kG 121 (.ixs 1 118 120) 116 true,
  kG 122 (.ld false 1 121) 116 true,
  kG 123 (.bin .eql 122 (ci 2)) 116 true,
  kG 124 (.mv 123) 116 true,
  kG 125 (.fa 5 3) 124 false,
  kG 126 (.ld false 1 125) 124 false,
  kG 127 (.fa 5 3) 124 false,
  kG 128 (.ld false 1 127) 124 false,
  kG 129 (.cvi .i32 128) 124 false,
  kG 130 (.cvi .i64 129) 124 false,
  kG 131 (.bin .eql 126 130) 124 false,
  kG 132 (.pick 124 (.c (.bool true)) 131) 116 true,
  kO 133 (.pick 116 132 (.c (.bool false))),
  kO 4 (.mv 133)])
  .ret)
 (.seq (.region [
  kO 135 (.bin .eql 106 (ci 4)),
  kO 134 (.mv 135)])
  (.cond 134
  (.seq (.draw [
   kO 136 (.fa 0 2),
   kO 137 (.ld false 1 136),
   kO 138 (.fa 1 3),
   kO 139 (.ld false 1 138),
   kO 140 (.ixs 1 137 139),
   kO 141 (.ld false 1 140),
   kO 142 (.fa 0 2),
   kO 143 (.ld false 1 142),
   kO 144 (.fa 2 3),
   kO 145 (.ld false 1 144),
   kO 146 (.ixs 1 143 145),
   kO 147 (.ld false 1 146),
   kO 148 (.bin .eql 141 147),
   kO 4 (.mv 148)] [])
   .ret)
  (.seq (.region [
   kO 150 (.bin .eql 106 (ci 7)),
   kO 149 (.mv 150)])
   (.cond 149
   (.seq (.region [
    kO 151 (.fa 0 2),
    kO 152 (.ld false 1 151),
    kO 153 (.fa 2 3),
    kO 154 (.ld false 1 153),
    kO 155 (.ixs 1 152 154),
    kO 156 (.ld false 1 155),
    kO 157 (.bin .neq 156 (ci 3)),
    kO 4 (.mv 157)])
    .ret)
   (.seq (.region [
    kO 159 (.bin .eql 106 (ci 30)),
    kO 158 (.mv 159)])
    (.cond 158
    (.seq (.draw [
     kO 160 (.fa 2 3),
     kO 161 (.ld false 1 160),
     kO 162 (.bin .eql 161 (ci (-1))),
     kO 163 (.fa 2 2),
     kO 164 (.ld false 1 163),
     kO 165 (.bin .eql 164 (ci 0)),
     kO 166 (.eqb false 162 165),
     kO 167 (.mv 166),
     kG 168 (.fa 2 3) 167 true,
     kG 169 (.ld false 1 168) 167 true,
     kG 170 (.bin .eql 169 (ci (-1))) 167 true,
     kG 171 (.mv 170) 167 true,
     kG 172 (.fa 0 2) 171 false,
     kG 173 (.ld false 1 172) 171 false,
     kG 174 (.fa 2 3) 171 false,
     kG 175 (.ld false 1 174) 171 false,
     kG 176 (.ixs 1 173 175) 171 false,
     kG 177 (.ld false 1 176) 171 false,
     kG 178 (.fa 2 2) 171 false,
     kG 179 (.ld false 1 178) 171 false,
     kG 180 (.bin .eql 177 179) 171 false,
     kG 181 (.pick 171 (.c (.bool true)) 180) 167 true,
     kO 182 (.pick 167 181 (.c (.bool false))),
     kO 4 (.mv 182)] [])
     .ret)
    .skip))))))))))
 y1z2)
def y1tx : CCode :=
  (.region [
 kO 104 (.bin .add 65 (ci 1)),
 kO 65 (.mv 104)])
def y1wb : CCode :=
  (.seq (.region [
 kO 73 (.mv 10),
 kO 74 (.bin .lss 73 (ci 0)),
 kO 75 (.mv 74),
 kG 76 (.mv 10) 75 false,
 kG 77 (.fa 0 2) 75 false,
 kG 78 (.ld false 1 77) 75 false,
 kG 79 (.len 1 78) 75 false,
 kG 80 (.bin .geq 76 79) 75 false,
 kO 81 (.pick 75 (.c (.bool true)) 80),
 kO 82 (.mv 81),
 kG 83 (.mv 9) 82 false,
 kG 84 (.bin .eql 83 (ci 0)) 82 false,
 kG 85 (.mv 84) 82 false,
 kG 86 (.fa 0 3) 85 true,
 kG 87 (.ld false 1 86) 85 true,
 kG 88 (.bin .eql 87 (ci 24)) 85 true,
 kG 89 (.mv 88) 85 true,
 kG 90 (.fa 0 3) 89 false,
 kG 91 (.ld false 1 90) 89 false,
 kG 92 (.bin .eql 91 (ci 25)) 89 false,
 kG 93 (.pick 89 (.c (.bool true)) 92) 85 true,
 kG 94 (.pick 85 93 (.c (.bool false))) 82 false,
 kG 95 (.mv 94) 82 false,
 kG 96 (.fa 0 2) 95 true,
 kG 97 (.ld false 1 96) 95 true,
 kG 98 (.mv 10) 95 true,
 kG 99 (.ixs 1 97 98) 95 true,
 kG 100 (.ld false 1 99) 95 true,
 kG 101 (.bin .neq 100 (ci 3)) 95 true,
 kG 102 (.pick 95 101 (.c (.bool false))) 82 false,
 kO 103 (.pick 82 (.c (.bool true)) 102)])
 (.cond 103
 (.seq (.region [
  kO 4 (.mv (.c (.bool false)))])
  .ret)
 .skip))
def y1g4 : CCode :=
  (.seq (.seq (.region [
 kO 70 (.ld true 9 3),
 kO 71 (.call none true 17 [70]),
 kO 72 (.un .not 71)])
 (.cond 72
 (.exit 2)
 .skip))
 y1wb)
def y1s1 : CCode :=
  (.seq (.region [
 kO 67 (.mv 65),
 kO 68 (.ixs 1 63 65),
 kO 69 (.ld false 1 68),
 kO 9 (.mv 67),
 kO 10 (.mv 69)])
 y1g4)
def y1qy : CCode :=
  (.block 3 y1s1)
def y1xv : CCode :=
  (.seq y1qy
 y1tx)
def y15z : CCode :=
  (.seq (.cond 66
 .skip
 (.exit 2))
 y1xv)
def y0r : CCode :=
  (.seq (.region [
 kO 66 (.bin .lss 65 64)])
 y15z)
def yp4 : CCode :=
  (.loop [2, 3, 63, 64, 65] y0r)
def y13o : CCode :=
  (.block 2 yp4)
def yz7 : CCode :=
  (.seq (.region [
 kO 62 (.fa 8 3),
 kO 63 (.ld false 1 62),
 kO 64 (.len 1 63),
 kO 65 (.mv (ci 0))])
 y13o)
def y11n : CCode :=
  (.seq yz7
 y1oc)
def y0q : CCode :=
  (.region [
 kO 61 (.bin .add 27 (ci 1)),
 kO 27 (.mv 61)])
def y15i : CCode :=
  (.seq (.draw [
 kO 35 (.mv 8),
 kO 36 (.bin .lss 35 (ci 0)),
 kO 37 (.mv 36),
 kG 38 (.mv 8) 37 false,
 kG 39 (.fa 0 2) 37 false,
 kG 40 (.ld false 1 39) 37 false,
 kG 41 (.len 1 40) 37 false,
 kG 42 (.bin .geq 38 41) 37 false,
 kO 43 (.pick 37 (.c (.bool true)) 42),
 kO 44 (.mv 43),
 kG 45 (.mv 7) 44 false,
 kG 46 (.ixa 4 1 5 45) 44 false,
 kG 47 (.ld false 1 46) 44 false,
 kG 48 (.bin .gtr 47 (ci 0)) 44 false,
 kG 49 (.mv 48) 44 false,
 kG 50 (.fa 0 2) 49 true,
 kG 51 (.ld false 1 50) 49 true,
 kG 52 (.mv 8) 49 true,
 kG 53 (.ixs 1 51 52) 49 true,
 kG 54 (.ld false 1 53) 49 true,
 kG 55 (.mv 7) 49 true,
 kG 56 (.ixa 4 1 5 55) 49 true,
 kG 57 (.ld false 1 56) 49 true,
 kG 58 (.bin .neq 54 57) 49 true,
 kG 59 (.pick 49 58 (.c (.bool false))) 44 false,
 kO 60 (.pick 44 (.c (.bool true)) 59)] [])
 (.cond 60
 (.seq (.region [
  kO 4 (.mv (.c (.bool false)))])
  .ret)
 .skip))
def y13w : CCode :=
  (.seq (.seq (.region [
 kO 31 (.mv 7),
 kO 32 (.ixa 4 1 5 31),
 kO 33 (.ld false 1 32),
 kO 34 (.bin .lss 33 (ci 0))])
 (.cond 34
 (.exit 1)
 .skip))
 y15i)
def y17a : CCode :=
  (.seq (.region [
 kO 29 (.mv 27),
 kO 30 (.ixv false 4 1 26 27),
 kO 7 (.mv 29),
 kO 8 (.mv 30)])
 y13w)
def y114 : CCode :=
  (.block 1 y17a)
def y11a : CCode :=
  (.seq y114
 y0q)
def y18k : CCode :=
  (.seq (.cond 28
 .skip
 (.exit 0))
 y11a)
def y11o : CCode :=
  (.seq (.region [
 kO 28 (.bin .lss 27 (ci 4))])
 y18k)
def yks : CCode :=
  (.loop [2, 3, 5, 26, 27] y11o)
def y19t : CCode :=
  (.block 0 yks)
def y06 : CCode :=
  (.seq (.region [
 kO 18 (.fa 1 3),
 kO 19 (.ld false 1 18),
 kO 20 (.fa 2 3),
 kO 21 (.ld false 1 20),
 kO 22 (.fa 3 3),
 kO 23 (.ld false 1 22),
 kO 24 (.fa 4 3),
 kO 25 (.ld false 1 24),
 kO 26 (.build [(.int .i64 0), (.int .i64 0), (.int .i64 0), (.int .i64 0)] [(0, 1, 19), (1, 1, 21), (2, 1, 23), (3, 1, 25)]),
 kO 27 (.mv (ci 0))])
 y19t)
def yz5 : CCode :=
  (.seq y06
 y11n)
def y13k : CCode :=
  (.seq (.seq (.region [
 kO 16 (.mv 6),
 kO 17 (.un .not 16)])
 (.cond 17
 (.seq (.region [
  kO 4 (.mv (.c (.bool false)))])
  .ret)
 .skip))
 yz5)
def y17j : CCode :=
  (.seq (.region [
 kO 12 (.ld true 9 3),
 kO 13 (.call none true 47 [12]),
 kO 11 (.mv 13),
 kO 14 (.ext 0 11),
 kO 15 (.ext 1 11),
 kO 5 (.new (some 2) [(.int .i64 0), (.int .i64 0), (.int .i64 0), (.int .i64 0)]),
 kU (.st 4 5 14),
 kO 6 (.mv 15)])
 y13k)
def y16h : CCode :=
  (.seq (.region [
 kO 2 (.box (some 0) 0),
 kO 3 (.box (some 1) 1),
 kO 4 (.mv (.c (.bool false)))])
 y17j)
def y2q3 : CFunc :=
  ⟨2, true, 3, y16h, [.t 4]⟩
def y1u2 : CCode :=
  (.seq (.region [
 kO 1 (.box (some 0) 0),
 kO 2 (.mv (.c (.bool false)))])
 (.seq (.region [
 kO 3 (.fa 0 1),
 kO 4 (.ld false 1 3),
 kO 5 (.bin .eql 4 (ci 27)),
 kO 6 (.mv 5),
 kG 7 (.fa 0 1) 6 false,
 kG 8 (.ld false 1 7) 6 false,
 kG 9 (.bin .eql 8 (ci 28)) 6 false,
 kO 10 (.pick 6 (.c (.bool true)) 9),
 kO 11 (.mv 10),
 kG 12 (.fa 0 1) 11 false,
 kG 13 (.ld false 1 12) 11 false,
 kG 14 (.bin .eql 13 (ci 29)) 11 false,
 kO 15 (.pick 11 (.c (.bool true)) 14),
 kO 2 (.mv 15)])
 .ret))
def y2ug : CFunc :=
  ⟨1, true, 1, y1u2, [.t 2]⟩
def y1xo : CCode :=
  (.seq (.region [
 kO 57 (.mv 5),
 kO 4 (.mv 57)])
 .ret)
def y1ue : CCode :=
  (.region [
 kO 56 (.bin .add 29 (ci 1)),
 kO 29 (.mv 56)])
def y1h3 : CCode :=
  (.seq (.region [
 kO 53 (.fa 3 7),
 kO 54 (.ld false 1 53),
 kO 55 (.bin .eql 54 (.c (.str [])))])
 (.cond 55
 (.exit 0)
 .skip))
def y1k7 : CCode :=
  (.seq (.seq (.region [
 kO 43 (.mv 5),
 kO 44 (.fa 2 7),
 kO 45 (.ld false 1 44),
 kO 46 (.call none true 46 [43, 45]),
 kO 47 (.un .not 46)])
 (.cond 47
 (.region [
  kO 48 (.mv 5),
  kO 49 (.fa 2 7),
  kO 50 (.ld false 1 49),
  kO 51 (.buildS (some 2) 1 1 [(.int .i64 0)] [(0, 50)]),
  kO 52 (.app (some 3) 1 8 48 51),
  kO 5 (.mv 52)])
 .skip))
 y1h3)
def y1vv : CCode :=
  (.seq (.seq (.region [
 kO 33 (.mv 1),
 kO 34 (.fa 0 7),
 kO 35 (.ld false 1 34),
 kO 36 (.bin .lss 33 35),
 kO 37 (.mv 36),
 kG 38 (.mv 1) 37 false,
 kG 39 (.fa 1 7) 37 false,
 kG 40 (.ld false 1 39) 37 false,
 kG 41 (.bin .geq 38 40) 37 false,
 kO 42 (.pick 37 (.c (.bool true)) 41)])
 (.cond 42
 (.exit 1)
 .skip))
 y1k7)
def y1te : CCode :=
  (.seq (.region [
 kO 31 (.ixs 4 27 29),
 kO 32 (.ld true 4 31),
 kO 7 (.new (some 1) [(.int .i64 0), (.int .i64 0), (.int .i64 0), (.str [])]),
 kU (.st 4 7 32)])
 y1vv)
def y1yq : CCode :=
  (.block 1 y1te)
def y1u1 : CCode :=
  (.seq y1yq
 y1ue)
def y17c : CCode :=
  (.seq (.cond 30
 .skip
 (.exit 0))
 y1u1)
def y0p : CCode :=
  (.seq (.region [
 kO 30 (.bin .lss 29 28)])
 y17c)
def yph : CCode :=
  (.loop [1, 5, 27, 28, 29] y0p)
def y174 : CCode :=
  (.block 0 yph)
def y19q : CCode :=
  (.seq (.region [
 kO 26 (.fa 4 2),
 kO 27 (.ld false 1 26),
 kO 28 (.len 1 27),
 kO 29 (.mv (ci 0))])
 y174)
def y1a1 : CCode :=
  (.seq y19q
 y1xo)
def y19x : CCode :=
  (.seq (.region [
 kO 5 (.mv (.c .nils))])
 y1a1)
def y115 : CCode :=
  (.seq (.seq (.region [
 kO 8 (.mv 1),
 kO 9 (.bin .lss 8 (ci 0)),
 kO 10 (.mv 9),
 kG 11 (.mv 1) 10 false,
 kG 12 (.fa 3 2) 10 false,
 kG 13 (.ld false 1 12) 10 false,
 kG 14 (.len 1 13) 10 false,
 kG 15 (.bin .geq 11 14) 10 false,
 kO 16 (.pick 10 (.c (.bool true)) 15),
 kO 17 (.mv 16),
 kG 18 (.fa 3 2) 17 false,
 kG 19 (.ld false 1 18) 17 false,
 kG 20 (.mv 1) 17 false,
 kG 21 (.ixs 9 19 20) 17 false,
 kG 22 (.ld true 9 21) 17 false,
 kG 23 (.call none true 18 [22]) 17 false,
 kG 24 (.un .not 23) 17 false,
 kO 25 (.pick 17 (.c (.bool true)) 24)])
 (.cond 25
 (.seq (.region [
  kO 4 (.mv (.c .nils))])
  .ret)
 .skip))
 y19x)
def y14g : CCode :=
  (.seq (.region [
 kO 2 (.box (some 0) 0),
 kO 4 (.mv (.c .nils))])
 y115)
def y2po : CFunc :=
  ⟨2, true, 4, y14g, [.t 4]⟩
def y1ip : CCode :=
  (.seq (.region [
 kO 43 (.mv 6),
 kO 4 (.mv 43)])
 .ret)
def y1hz : CCode :=
  (.seq (.seq (.region [
 kO 29 (.ld true 9 5),
 kO 30 (.call none true 22 [29]),
 kO 31 (.mv 30),
 kG 32 (.mv 6) 31 true,
 kG 33 (.fa 6 5) 31 true,
 kG 34 (.ld false 1 33) 31 true,
 kG 35 (.call none true 46 [32, 34]) 31 true,
 kG 36 (.un .not 35) 31 true,
 kO 37 (.pick 31 36 (.c (.bool false)))])
 (.cond 37
 (.region [
  kO 38 (.mv 6),
  kO 39 (.fa 6 5),
  kO 40 (.ld false 1 39),
  kO 41 (.buildS (some 4) 1 1 [(.int .i64 0)] [(0, 40)]),
  kO 42 (.app (some 5) 1 8 38 41),
  kO 6 (.mv 42)])
 .skip))
 y1ip)
def y1mq : CCode :=
  (.seq (.seq (.region [
 kO 21 (.ld true 9 5),
 kO 22 (.call none true 24 [21]),
 kO 23 (.un .not 22)])
 (.cond 23
 (.region [
  kO 24 (.mv 6),
  kO 25 (.mv 1),
  kO 26 (.bin .add 25 (ci 1)),
  kO 27 (.buildS (some 2) 1 1 [(.int .i64 0)] [(0, 26)]),
  kO 28 (.app (some 3) 1 8 24 27),
  kO 6 (.mv 28)])
 .skip))
 y1hz)
def y1k2 : CCode :=
  (.seq (.region [
 kO 6 (.mv (.c .nils))])
 y1mq)
def y1z3 : CCode :=
  (.seq (.region [
 kO 16 (.fa 3 2),
 kO 17 (.ld false 1 16),
 kO 18 (.mv 1),
 kO 19 (.ixs 9 17 18),
 kO 20 (.ld true 9 19),
 kO 5 (.new (some 1) [(.int .i64 0), (.int .i64 0), (.int .i64 0), (.int .i64 0), (.int .i64 0), (.int .i64 0), (.int .i64 0), (.str []), .nils]),
 kU (.st 9 5 20)])
 y1k2)
def y1ib : CCode :=
  (.seq (.seq (.region [
 kO 7 (.mv 1),
 kO 8 (.bin .lss 7 (ci 0)),
 kO 9 (.mv 8),
 kG 10 (.mv 1) 9 false,
 kG 11 (.fa 3 2) 9 false,
 kG 12 (.ld false 1 11) 9 false,
 kG 13 (.len 1 12) 9 false,
 kG 14 (.bin .geq 10 13) 9 false,
 kO 15 (.pick 9 (.c (.bool true)) 14)])
 (.cond 15
 (.seq (.region [
  kO 4 (.mv (.c .nils))])
  .ret)
 .skip))
 y1z3)
def y1ry : CCode :=
  (.seq (.region [
 kO 2 (.box (some 0) 0),
 kO 4 (.mv (.c .nils))])
 y1ib)
def y2o6 : CFunc :=
  ⟨2, true, 6, y1ry, [.t 4]⟩
def y1nv : CCode :=
  (.seq (.region [
 kO 109 (.mv 10),
 kO 2 (.mv 109)])
 .ret)
def y1ya : CCode :=
  (.region [
 kO 108 (.bin .add 97 (ci 1)),
 kO 97 (.mv 108)])
def y1fr : CCode :=
  (.seq (.block 7 (.seq (.region [
 kO 99 (.mv 97),
 kO 11 (.mv 99)])
 (.seq (.region [
 kO 100 (.mv 3),
 kO 101 (.mv 11),
 kO 102 (.ixs 1 100 101),
 kO 103 (.ld false 1 102)])
 (.cond 103
 (.region [
  kO 104 (.mv 10),
  kO 105 (.mv 11),
  kO 106 (.buildS (some 5) 1 1 [(.int .i64 0)] [(0, 105)]),
  kO 107 (.app (some 6) 1 8 104 106),
  kO 10 (.mv 107)])
 .skip))))
 y1ya)
def y1o0 : CCode :=
  (.seq (.cond 98
 .skip
 (.exit 6))
 y1fr)
def y1rn : CCode :=
  (.seq (.region [
 kO 98 (.bin .lss 97 96)])
 y1o0)
def ypw : CCode :=
  (.loop [3, 10, 96, 97] y1rn)
def y1pp : CCode :=
  (.block 6 ypw)
def y1kd : CCode :=
  (.seq (.region [
 kO 94 (.fa 3 1),
 kO 95 (.ld false 1 94),
 kO 96 (.len 1 95),
 kO 97 (.mv (ci 0))])
 y1pp)
def y1nc : CCode :=
  (.seq y1kd
 y1nv)
def y196 : CCode :=
  (.seq (.region [
 kO 10 (.mv (.c .nils))])
 y1nc)
def y17f : CCode :=
  (.region [
 kO 93 (.bin .add 64 (ci 1)),
 kO 64 (.mv 93)])
def y152 : CCode :=
  (.region [
 kO 92 (.bin .add 76 (ci 1)),
 kO 76 (.mv 92)])
def y0h : CCode :=
  (.seq (.block 5 (.seq (.region [
 kO 78 (.ixs 1 74 76),
 kO 79 (.ld false 1 78),
 kO 9 (.mv 79)])
 (.seq (.region [
 kO 80 (.mv 9),
 kO 81 (.bin .geq 80 (ci 0)),
 kO 82 (.mv 81),
 kG 83 (.mv 9) 82 true,
 kG 84 (.fa 3 1) 82 true,
 kG 85 (.ld false 1 84) 82 true,
 kG 86 (.len 1 85) 82 true,
 kG 87 (.bin .lss 83 86) 82 true,
 kO 88 (.pick 82 87 (.c (.bool false)))])
 (.cond 88
 (.region [
  kO 89 (.mv 3),
  kO 90 (.mv 9),
  kO 91 (.ixs 1 89 90),
  kU (.st 1 91 (.c (.bool true)))])
 .skip))))
 y152)
def y14k : CCode :=
  (.seq (.cond 77
 .skip
 (.exit 4))
 y0h)
def y19p : CCode :=
  (.seq (.region [
 kO 77 (.bin .lss 76 75)])
 y14k)
def yjz : CCode :=
  (.loop [1, 3, 62, 63, 64, 74, 75, 76] y19p)
def y18x : CCode :=
  (.block 4 yjz)
def y16o : CCode :=
  (.seq (.region [
 kO 68 (.fa 0 7),
 kO 69 (.ld false 1 68),
 kO 70 (.fa 1 7),
 kO 71 (.ld false 1 70),
 kO 72 (.fa 2 7),
 kO 73 (.ld false 1 72),
 kO 74 (.buildS (some 4) 1 3 [(.int .i64 0)] [(0, 69), (1, 71), (2, 73)]),
 kO 75 (.len 1 74),
 kO 76 (.mv (ci 0))])
 y18x)
def y12m : CCode :=
  (.seq (.region [
 kO 66 (.ixs 4 62 64),
 kO 67 (.ld true 4 66),
 kO 7 (.new (some 3) [(.int .i64 0), (.int .i64 0), (.int .i64 0), (.str [])]),
 kU (.st 4 7 67)])
 y16o)
def yzt : CCode :=
  (.block 3 y12m)
def y14m : CCode :=
  (.seq yzt
 y17f)
def yyp : CCode :=
  (.seq (.cond 65
 .skip
 (.exit 2))
 y14m)
def y145 : CCode :=
  (.seq (.region [
 kO 65 (.bin .lss 64 63)])
 yyp)
def yis : CCode :=
  (.loop [1, 3, 62, 63, 64] y145)
def y12s : CCode :=
  (.block 2 yis)
def y12p : CCode :=
  (.seq (.region [
 kO 61 (.fa 4 1),
 kO 62 (.ld false 1 61),
 kO 63 (.len 1 62),
 kO 64 (.mv (ci 0))])
 y12s)
def yzb : CCode :=
  (.seq y12p
 y196)
def y16f : CCode :=
  (.region [
 kO 60 (.bin .add 26 (ci 1)),
 kO 26 (.mv 60)])
def yzr : CCode :=
  (.seq (.region [
 kO 50 (.ld true 9 5),
 kO 51 (.call none true 22 [50]),
 kO 52 (.mv 51),
 kG 53 (.ld true 9 5) 52 false,
 kG 54 (.call none true 24 [53]) 52 false,
 kO 55 (.pick 52 (.c (.bool true)) 54)])
 (.cond 55
 (.region [
  kO 56 (.mv 3),
  kO 57 (.mv 4),
  kO 58 (.bin .add 57 (ci 1)),
  kO 59 (.ixs 1 56 58),
  kU (.st 1 59 (.c (.bool true)))])
 .skip))
def y12k : CCode :=
  (.seq (.seq (.region [
 kO 31 (.ld true 9 5),
 kO 32 (.call none true 22 [31]),
 kO 33 (.mv 32),
 kG 34 (.fa 6 5) 33 true,
 kG 35 (.ld false 1 34) 33 true,
 kG 36 (.bin .geq 35 (ci 0)) 33 true,
 kO 37 (.pick 33 36 (.c (.bool false))),
 kO 38 (.mv 37),
 kG 39 (.fa 6 5) 38 true,
 kG 40 (.ld false 1 39) 38 true,
 kG 41 (.fa 3 1) 38 true,
 kG 42 (.ld false 1 41) 38 true,
 kG 43 (.len 1 42) 38 true,
 kG 44 (.bin .lss 40 43) 38 true,
 kO 45 (.pick 38 44 (.c (.bool false)))])
 (.cond 45
 (.region [
  kO 46 (.mv 3),
  kO 47 (.fa 6 5),
  kO 48 (.ld false 1 47),
  kO 49 (.ixs 1 46 48),
  kU (.st 1 49 (.c (.bool true)))])
 .skip))
 yzr)
def yzy : CCode :=
  (.seq (.region [
 kO 28 (.mv 26),
 kO 29 (.ixs 9 24 26),
 kO 30 (.ld true 9 29),
 kO 5 (.new (some 2) [(.int .i64 0), (.int .i64 0), (.int .i64 0), (.int .i64 0), (.int .i64 0), (.int .i64 0), (.int .i64 0), (.str []), .nils]),
 kO 4 (.mv 28),
 kU (.st 9 5 30)])
 y12k)
def y11z : CCode :=
  (.block 1 yzy)
def y1a7 : CCode :=
  (.seq y11z
 y16f)
def y12w : CCode :=
  (.seq (.cond 27
 .skip
 (.exit 0))
 y1a7)
def y16l : CCode :=
  (.seq (.region [
 kO 27 (.bin .lss 26 25)])
 y12w)
def yld : CCode :=
  (.loop [1, 3, 24, 25, 26] y16l)
def y16a : CCode :=
  (.block 0 yld)
def y14s : CCode :=
  (.seq (.region [
 kO 23 (.fa 3 1),
 kO 24 (.ld false 1 23),
 kO 25 (.len 1 24),
 kO 26 (.mv (ci 0))])
 y16a)
def y16z : CCode :=
  (.seq y14s
 yzb)
def y164 : CCode :=
  (.seq (.seq (.region [
 kO 17 (.fa 3 1),
 kO 18 (.ld false 1 17),
 kO 19 (.len 1 18),
 kO 20 (.bin .gtr 19 (ci 0))])
 (.cond 20
 (.region [
  kO 21 (.mv 3),
  kO 22 (.ixs 1 21 (ci 0)),
  kU (.st 1 22 (.c (.bool true)))])
 .skip))
 y16z)
def y156 : CCode :=
  (.seq (.region [
 kO 12 (.fa 3 1),
 kO 13 (.ld false 1 12),
 kO 14 (.len 1 13),
 kO 15 (.bin .add 14 (ci 1)),
 kO 16 (.mkS (some 1) 1 1 [(.bool false)] 15 15),
 kO 3 (.mv 16)])
 y164)
def y18w : CCode :=
  (.seq (.region [
 kO 1 (.box (some 0) 0),
 kO 2 (.mv (.c .nils))])
 y156)
def y2qe : CFunc :=
  ⟨1, true, 7, y18w, [.t 2]⟩
def y11e : CCode :=
  (.seq (.region [
 kO 2 (.mv (.c (.bool false)))])
 (.seq (.region [
 kO 3 (.mv 0),
 kO 4 (.buildS (some 0) 1 3 [(.int .i64 0)] [(0, (ci 27)), (1, (ci 30)), (2, (ci 31))]),
 kO 5 (.call none true 42 [3, 4]),
 kO 2 (.mv 5)])
 .ret))
def y2ck : CFunc :=
  ⟨1, true, 1, y11e, [.t 2]⟩
def yzq : CCode :=
  (.seq (.region [
 kO 14 (.fa 0 2),
 kO 15 (.ld false 1 14),
 kO 16 (.mv 1),
 kO 17 (.ixs 1 15 16),
 kO 18 (.ld false 1 17),
 kO 4 (.mv 18)])
 .ret)
def y146 : CCode :=
  (.seq (.seq (.region [
 kO 5 (.mv 1),
 kO 6 (.bin .lss 5 (ci 0)),
 kO 7 (.mv 6),
 kG 8 (.mv 1) 7 false,
 kG 9 (.fa 0 2) 7 false,
 kG 10 (.ld false 1 9) 7 false,
 kG 11 (.len 1 10) 7 false,
 kG 12 (.bin .geq 8 11) 7 false,
 kO 13 (.pick 7 (.c (.bool true)) 12)])
 (.cond 13
 (.seq (.region [
  kO 4 (.mv (ci 0))])
  .ret)
 .skip))
 yzq)
def y18i : CCode :=
  (.seq (.region [
 kO 2 (.box (some 0) 0),
 kO 4 (.mv (ci 0))])
 y146)
def y2cn : CFunc :=
  ⟨2, true, 1, y18i, [.t 4]⟩
def y0z : CCode :=
  (.seq (.region [
 kO 4 (.mv (.c (.bool false)))])
 .ret)
def y1a5 : CCode :=
  (.region [
 kO 10 (.mv 5),
 kO 11 (.bin .add 10 (ci 1)),
 kO 5 (.mv 11)])
def y182 : CCode :=
  (.seq (.block 1 (.seq (.region [
 kO 12 (.mv 1),
 kO 13 (.mv 5),
 kO 14 (.ixs 1 12 13),
 kO 15 (.ld false 1 14),
 kO 16 (.mv 0),
 kO 17 (.bin .eql 15 16)])
 (.cond 17
 (.seq (.region [
  kO 4 (.mv (.c (.bool true)))])
  .ret)
 .skip)))
 y1a5)
def y11j : CCode :=
  (.seq (.seq (.region [
 kO 6 (.mv 5),
 kO 7 (.mv 1),
 kO 8 (.len 1 7),
 kO 9 (.bin .lss 6 8)])
 (.cond 9
 .skip
 (.exit 0)))
 y182)
def yj3 : CCode :=
  (.loop [0, 1, 5] y11j)
def y11v : CCode :=
  (.block 0 yj3)
def y176 : CCode :=
  (.seq (.region [
 kO 5 (.mv (ci 0))])
 y11v)
def y17z : CCode :=
  (.seq y176
 y0z)
def y18e : CCode :=
  (.seq (.region [
 kO 4 (.mv (.c (.bool false)))])
 y17z)
def y2bs : CFunc :=
  ⟨2, true, 0, y18e, [.t 4]⟩
def yzf : CCode :=
  (.seq (.region [
 kO 4 (.mv (.c (.bool true)))])
 .ret)
def y1ad : CCode :=
  (.seq (.draw [
 kO 215 (.fa 2 3),
 kO 216 (.ld false 1 215),
 kO 217 (.bin .neq 216 (ci (-1))),
 kO 218 (.mv 217),
 kG 219 (.ld true 5 2) 218 true,
 kG 220 (.fa 2 3) 218 true,
 kG 221 (.ld false 1 220) 218 true,
 kG 222 (.call none true 48 [219, 221]) 218 true,
 kG 223 (.fa 2 2) 218 true,
 kG 224 (.ld false 1 223) 218 true,
 kG 225 (.bin .eql 222 224) 218 true,
 kO 226 (.pick 218 225 (.c (.bool false))),
 kO 4 (.mv 226)] [(7, 9)])
 .ret)
def y184 : CCode :=
  (.seq (.seq (.region [
 kO 209 (.fa 2 2),
 kO 210 (.ld false 1 209),
 kO 211 (.bin .eql 210 (ci 0))])
 (.cond 211
 (.seq (.region [
  kO 212 (.fa 2 3),
  kO 213 (.ld false 1 212),
  kO 214 (.bin .eql 213 (ci (-1))),
  kO 4 (.mv 214)])
  .ret)
 .skip))
 y1ad)
def y15q : CCode :=
  (.cond 207
 y184
 .skip)
def y13n : CCode :=
  (.seq (.region [
 kO 208 (.bin .eql 55 (ci 30)),
 kO 207 (.mv 208)])
 y15q)
def y0c : CCode :=
  (.cond 179
 (.seq (.region [
  kO 181 (.fa 5 3),
  kO 182 (.ld false 1 181),
  kO 183 (.bin .eql 182 (ci 0)),
  kO 184 (.mv 183),
  kG 185 (.fa 5 3) 184 false,
  kG 186 (.ld false 1 185) 184 false,
  kG 187 (.bin .eql 186 (ci 1)) 184 false,
  kO 188 (.pick 184 (.c (.bool true)) 187),
  kO 189 (.mv 188),
  kG 190 (.fa 3 3) 189 true,
  kG 191 (.ld false 1 190) 189 true,
  kG 192 (.bin .eql 191 (ci (-1))) 189 true,
  kG 193 (.mv 192) 189 true,
  kG 194 (.ld true 5 2) 193 false,
  kG 195 (.fa 3 3) 193 false,
  kG 196 (.ld false 1 195) 193 false,
  kG 197 (.call none true 48 [194, 196]) 193 false,
  kG 198 (.bin .eql 197 (ci 3)) 193 false,
  kG 199 (.pick 193 (.c (.bool true)) 198) 189 true,
  kO 200 (.pick 189 199 (.c (.bool false))),
  kO 201 (.mv 200),
  kG 202 (.ld true 5 2) 201 true,
  kG 203 (.fa 6 3) 201 true,
  kG 204 (.ld false 1 203) 201 true,
  kG 205 (.call none true 49 [202, 204]) 201 true,
  kO 206 (.pick 201 205 (.c (.bool false))),
  kO 4 (.mv 206)])
  .ret)
 y13n)
def y1ar : CCode :=
  (.seq (.region [
 kO 180 (.bin .eql 55 (ci 29)),
 kO 179 (.mv 180)])
 y0c)
def y17p : CCode :=
  (.cond 173
 (.seq (.region [
  kO 175 (.ld true 5 2),
  kO 176 (.fa 6 3),
  kO 177 (.ld false 1 176),
  kO 178 (.call none true 49 [175, 177]),
  kO 4 (.mv 178)])
  .ret)
 y1ar)
def y189 : CCode :=
  (.seq (.region [
 kO 174 (.bin .eql 55 (ci 27)),
 kO 173 (.mv 174)])
 y17p)
def ysc : CCode :=
  (.cond 157
 (.seq (.region [
  kO 159 (.fa 5 3),
  kO 160 (.ld false 1 159),
  kO 161 (.bin .geq 160 (ci 0)),
  kO 162 (.mv 161),
  kG 163 (.fa 5 3) 162 true,
  kG 164 (.ld false 1 163) 162 true,
  kG 165 (.bin .leq 164 (ci 5)) 162 true,
  kO 166 (.pick 162 165 (.c (.bool false))),
  kO 167 (.mv 166),
  kG 168 (.ld true 5 2) 167 true,
  kG 169 (.fa 6 3) 167 true,
  kG 170 (.ld false 1 169) 167 true,
  kG 171 (.call none true 49 [168, 170]) 167 true,
  kO 172 (.pick 167 171 (.c (.bool false))),
  kO 4 (.mv 172)])
  .ret)
 y189)
def yw4 : CCode :=
  (.seq (.region [
 kO 158 (.bin .eql 55 (ci 28)),
 kO 157 (.mv 158)])
 ysc)
def yu3 : CCode :=
  (.cond 149
 (.seq (.region [
  kO 154 (.ld true 5 2),
  kO 155 (.ld true 9 3),
  kO 156 (.call none true 68 [154, 155]),
  kO 4 (.mv 156)])
  .ret)
 yw4)
def yu9 : CCode :=
  (.seq (.seq (.region [
 kO 150 (.bin .eql 55 (ci 23)),
 kO 149 (.mv 150)])
 (.cond 149
 .skip
 (.seq (.region [
  kO 151 (.bin .eql 55 (ci 24)),
  kO 149 (.mv 151)])
  (.cond 149
  .skip
  (.seq (.region [
   kO 152 (.bin .eql 55 (ci 25)),
   kO 149 (.mv 152)])
   (.cond 149
   .skip
   (.region [
    kO 153 (.bin .eql 55 (ci 26)),
    kO 149 (.mv 153)])))))))
 yu3)
def yrz : CCode :=
  (.cond 143
 (.seq (.region [
  kO 146 (.fa 5 3),
  kO 147 (.ld false 1 146),
  kO 148 (.bin .geq 147 (ci 0)),
  kO 4 (.mv 148)])
  .ret)
 yu9)
def yr0 : CCode :=
  (.seq (.seq (.region [
 kO 144 (.bin .eql 55 (ci 16)),
 kO 143 (.mv 144)])
 (.cond 143
 .skip
 (.region [
  kO 145 (.bin .eql 55 (ci 17)),
  kO 143 (.mv 145)])))
 yrz)
def ytf : CCode :=
  (.cond 136
 (.seq (.region [
  kO 140 (.fa 7 3),
  kO 141 (.ld false 1 140),
  kO 142 (.call none true 67 [141]),
  kO 4 (.mv 142)])
  .ret)
 yr0)
def ys8 : CCode :=
  (.seq (.seq (.region [
 kO 137 (.bin .eql 55 (ci 12)),
 kO 136 (.mv 137)])
 (.cond 136
 .skip
 (.seq (.region [
  kO 138 (.bin .eql 55 (ci 21)),
  kO 136 (.mv 138)])
  (.cond 136
  .skip
  (.region [
   kO 139 (.bin .eql 55 (ci 22)),
   kO 136 (.mv 139)])))))
 ytf)
def yta : CCode :=
  (.cond 112
 (.seq (.region [
  kO 114 (.mv 8),
  kO 115 (.bin .gtr 114 (ci 0)),
  kO 116 (.mv 115),
  kG 117 (.mv 9) 116 true,
  kG 118 (.bin .eql 117 (ci 0)) 116 true,
  kO 119 (.pick 116 118 (.c (.bool false))),
  kO 120 (.mv 119),
  kG 121 (.ld true 5 2) 120 true,
  kG 122 (.fa 1 3) 120 true,
  kG 123 (.ld false 1 122) 120 true,
  kG 124 (.call none true 48 [121, 123]) 120 true,
  kG 125 (.mv 10) 120 true,
  kG 126 (.bin .eql 124 125) 120 true,
  kO 127 (.pick 120 126 (.c (.bool false))),
  kO 128 (.mv 127),
  kG 129 (.ld true 5 2) 128 true,
  kG 130 (.fa 2 3) 128 true,
  kG 131 (.ld false 1 130) 128 true,
  kG 132 (.call none true 48 [129, 131]) 128 true,
  kG 133 (.mv 8) 128 true,
  kG 134 (.bin .eql 132 133) 128 true,
  kO 135 (.pick 128 134 (.c (.bool false))),
  kO 4 (.mv 135)])
  .ret)
 ys8)
def yts : CCode :=
  (.seq (.region [
 kO 113 (.bin .eql 55 (ci 6)),
 kO 112 (.mv 113)])
 yta)
def yup : CCode :=
  (.cond 84
 (.seq (.region [
  kO 86 (.mv 9),
  kO 87 (.bin .gtr 86 (ci 0)),
  kO 88 (.mv 87),
  kG 89 (.ld true 5 2) 88 true,
  kG 90 (.fa 1 3) 88 true,
  kG 91 (.ld false 1 90) 88 true,
  kG 92 (.call none true 48 [89, 91]) 88 true,
  kG 93 (.mv 10) 88 true,
  kG 94 (.bin .eql 92 93) 88 true,
  kO 95 (.pick 88 94 (.c (.bool false))),
  kO 96 (.mv 95),
  kG 97 (.ld true 5 2) 96 true,
  kG 98 (.fa 2 3) 96 true,
  kG 99 (.ld false 1 98) 96 true,
  kG 100 (.call none true 48 [97, 99]) 96 true,
  kG 101 (.mv 8) 96 true,
  kG 102 (.bin .eql 100 101) 96 true,
  kO 103 (.pick 96 102 (.c (.bool false))),
  kO 104 (.mv 103),
  kG 105 (.ld true 5 2) 104 true,
  kG 106 (.fa 3 3) 104 true,
  kG 107 (.ld false 1 106) 104 true,
  kG 108 (.call none true 48 [105, 107]) 104 true,
  kG 109 (.mv 9) 104 true,
  kG 110 (.bin .eql 108 109) 104 true,
  kO 111 (.pick 104 110 (.c (.bool false))),
  kO 4 (.mv 111)])
  .ret)
 yts)
def ysn : CCode :=
  (.seq (.region [
 kO 85 (.bin .eql 55 (ci 5)),
 kO 84 (.mv 85)])
 yup)
def yrc : CCode :=
  (.cond 73
 (.seq (.draw [
  kO 75 (.ld true 5 2),
  kO 76 (.fa 1 3),
  kO 77 (.ld false 1 76),
  kO 78 (.call none true 48 [75, 77]),
  kO 79 (.ld true 5 2),
  kO 80 (.fa 2 3),
  kO 81 (.ld false 1 80),
  kO 82 (.call none true 48 [79, 81]),
  kO 83 (.bin .eql 78 82),
  kO 4 (.mv 83)] [(3, 4), (3, 6)])
  .ret)
 ysn)
def yrt : CCode :=
  (.seq (.region [
 kO 74 (.bin .eql 55 (ci 4)),
 kO 73 (.mv 74)])
 yrc)
def yuq : CCode :=
  (.cond 56
 (.seq (.region [
  kO 58 (.ld true 5 2),
  kO 59 (.fa 1 3),
  kO 60 (.ld false 1 59),
  kO 61 (.call none true 48 [58, 60]),
  kO 62 (.bin .eql 61 (ci 2)),
  kO 63 (.mv 62),
  kG 64 (.fa 5 3) 63 false,
  kG 65 (.ld false 1 64) 63 false,
  kG 66 (.bin .geq 65 (ci (-2147483648))) 63 false,
  kG 67 (.mv 66) 63 false,
  kG 68 (.fa 5 3) 67 true,
  kG 69 (.ld false 1 68) 67 true,
  kG 70 (.bin .lss 69 (ci 2147483648)) 67 true,
  kG 71 (.pick 67 70 (.c (.bool false))) 63 false,
  kO 72 (.pick 63 (.c (.bool true)) 71),
  kO 4 (.mv 72)])
  .ret)
 yrt)
def yui : CCode :=
  (.seq (.region [
 kO 57 (.bin .eql 55 (ci 1)),
 kO 56 (.mv 57)])
 yuq)
def yuw : CCode :=
  (.block 2 yui)
def yw2 : CCode :=
  (.seq (.region [
 kO 54 (.fa 0 3),
 kO 55 (.ld false 1 54)])
 yuw)
def ytg : CCode :=
  (.seq yw2
 yzf)
def yqv : CCode :=
  (.seq (.seq (.region [
 kO 39 (.fa 5 3),
 kO 40 (.ld false 1 39),
 kO 41 (.bin .geq 40 (ci 0)),
 kO 42 (.mv 41),
 kG 43 (.fa 5 3) 42 true,
 kG 44 (.ld false 1 43) 42 true,
 kG 45 (.bin .lss 44 (ci 1000)) 42 true,
 kO 46 (.pick 42 45 (.c (.bool false)))])
 (.cond 46
 (.region [
  kO 48 (.fa 5 3),
  kO 49 (.ld false 1 48),
  kO 50 (.call none true 66 [49]),
  kO 47 (.mv 50),
  kO 51 (.ext 0 47),
  kO 52 (.ext 1 47),
  kO 53 (.ext 2 47),
  kO 8 (.mv 51),
  kO 9 (.mv 52),
  kO 10 (.mv 53)])
 .skip))
 ytg)
def ys0 : CCode :=
  (.seq (.region [
 kO 8 (.mv (ci 0)),
 kO 9 (.mv (ci 0)),
 kO 10 (.mv (ci 0))])
 yqv)
def yt0 : CCode :=
  (.region [
 kO 27 (.mv 7),
 kO 28 (.bin .add 27 (ci 1)),
 kO 7 (.mv 28)])
def yv6 : CCode :=
  (.seq (.block 1 (.seq (.draw [
 kO 29 (.ld true 5 2),
 kO 30 (.mv 6),
 kO 31 (.mv 7),
 kO 32 (.ixs 1 30 31),
 kO 33 (.ld false 1 32),
 kO 34 (.mv 5),
 kO 35 (.mv 7),
 kO 36 (.ixstr 34 35),
 kO 37 (.call none true 65 [29, 33, 36]),
 kO 38 (.un .not 37)] [])
 (.cond 38
 (.seq (.region [
  kO 4 (.mv (.c (.bool false)))])
  .ret)
 .skip)))
 yt0)
def yr3 : CCode :=
  (.seq (.seq (.region [
 kO 25 (.mv 7),
 kO 26 (.bin .lss 25 (ci 4))])
 (.cond 26
 .skip
 (.exit 0)))
 yv6)
def yge : CCode :=
  (.loop [2, 3, 5, 6, 7] yr3)
def yto : CCode :=
  (.block 0 yge)
def yvh : CCode :=
  (.seq (.region [
 kO 7 (.mv (ci 0))])
 yto)
def yvz : CCode :=
  (.seq yvh
 ys0)
def yqw : CCode :=
  (.seq (.region [
 kO 16 (.fa 1 3),
 kO 17 (.ld false 1 16),
 kO 18 (.fa 2 3),
 kO 19 (.ld false 1 18),
 kO 20 (.fa 3 3),
 kO 21 (.ld false 1 20),
 kO 22 (.fa 4 3),
 kO 23 (.ld false 1 22),
 kO 24 (.buildS (some 2) 1 4 [(.int .i64 0)] [(0, 17), (1, 19), (2, 21), (3, 23)]),
 kO 6 (.mv 24)])
 yvz)
def yv4 : CCode :=
  (.seq (.seq (.region [
 kO 14 (.mv 5),
 kO 15 (.bin .eql 14 (.c (.str [])))])
 (.cond 15
 (.seq (.region [
  kO 4 (.mv (.c (.bool false)))])
  .ret)
 .skip))
 yqw)
def yrj : CCode :=
  (.seq (.region [
 kO 11 (.fa 0 3),
 kO 12 (.ld false 1 11),
 kO 13 (.call none true 38 [12]),
 kO 5 (.mv 13)])
 yv4)
def yvo : CCode :=
  (.seq (.region [
 kO 2 (.box (some 0) 0),
 kO 3 (.box (some 1) 1),
 kO 4 (.mv (.c (.bool false)))])
 yrj)
def y2af : CFunc :=
  ⟨2, true, 3, yvo, [.t 4]⟩
def yz8 : CCode :=
  (.seq (.region [
 kO 2 (.mv (.c (.bool false)))])
 (.seq (.region [
 kO 3 (.mv 0),
 kO 4 (.buildS (some 0) 1 3 [(.int .i64 0)] [(0, (ci 27)), (1, (ci 28)), (2, (ci 29))]),
 kO 5 (.call none true 42 [3, 4]),
 kO 2 (.mv 5)])
 .ret))
def y2aj : CFunc :=
  ⟨1, true, 1, yz8, [.t 2]⟩
def y12l : CCode :=
  (.seq (.region [
 kO 2 (.box (some 0) 0),
 kO 4 (.mv (.c (.bool false)))])
 (.seq (.region [
 kO 5 (.mv 1),
 kO 6 (.bin .geq 5 (ci 0)),
 kO 7 (.mv 6),
 kG 8 (.mv 1) 7 true,
 kG 9 (.fa 3 2) 7 true,
 kG 10 (.ld false 1 9) 7 true,
 kG 11 (.len 1 10) 7 true,
 kG 12 (.bin .lss 8 11) 7 true,
 kO 13 (.pick 7 12 (.c (.bool false))),
 kO 4 (.mv 13)])
 .ret))
def y2at : CFunc :=
  ⟨2, true, 1, y12l, [.t 4]⟩
def y18g : CCode :=
  (.seq (.region [
 kO 5 (.buildS (some 0) 1 0 [(.bool false)] []),
 kO 6 (.mv 0),
 kO 7 (.app (some 1) 1 1 5 6),
 kO 2 (.mv 7)])
 .ret)
def y15m : CCode :=
  (.seq (.seq (.region [
 kO 3 (.mv 0),
 kO 4 (.eqn 1 false 3 (.c .nils))])
 (.cond 4
 (.seq (.region [
  kO 2 (.mv (.c .nils))])
  .ret)
 .skip))
 y18g)
def y11r : CCode :=
  (.seq (.region [
 kO 2 (.mv (.c .nils))])
 y15m)
def y2bq : CFunc :=
  ⟨1, true, 2, y11r, [.t 2]⟩
def y1rk : CCode :=
  (.seq (.region [
 kO 56 (.mv 3),
 kO 8 (.mv 56)])
 .ret)
def y1up : CCode :=
  (.seq (.seq (.region [
 kO 51 (.mv 9)])
 (.cond 51
 (.region [
  kO 52 (.mv 3),
  kO 53 (.mv 1),
  kO 54 (.buildS (some 3) 1 1 [(.int .i64 0)] [(0, 53)]),
  kO 55 (.app (some 4) 1 8 52 54),
  kO 3 (.mv 55)])
 .skip))
 y1rk)
def y1ji : CCode :=
  (.region [
 kO 50 (.bin .add 31 (ci 1)),
 kO 31 (.mv 50)])
def y1gw : CCode :=
  (.seq (.block 1 (.seq (.region [
 kO 33 (.mv 31),
 kO 34 (.ixs 1 29 31),
 kO 35 (.ld false 1 34),
 kO 10 (.mv 33),
 kO 11 (.mv 35)])
 (.seq (.region [
 kO 36 (.mv 11),
 kO 37 (.mv 36),
 kG 38 (.mv 2) 37 true,
 kG 39 (.mv 10) 37 true,
 kG 40 (.ixs 1 38 39) 37 true,
 kG 41 (.ld false 1 40) 37 true,
 kG 42 (.un .not 41) 37 true,
 kO 43 (.pick 37 42 (.c (.bool false)))])
 (.cond 43
 (.seq (.region [
  kO 44 (.mv 0),
  kO 45 (.mv 1),
  kO 46 (.ixs 1 44 45),
  kO 47 (.ld false 1 46),
  kO 48 (.mv 10),
  kO 49 (.ixs 1 47 48),
  kU (.st 1 49 (.c (.bool false)))])
  (.region [
  kO 9 (.mv (.c (.bool true)))]))
 .skip))))
 y1ji)
def y1wl : CCode :=
  (.seq (.cond 32
 .skip
 (.exit 0))
 y1gw)
def y1qu : CCode :=
  (.seq (.region [
 kO 32 (.bin .lss 31 30)])
 y1wl)
def ypq : CCode :=
  (.loop [0, 1, 2, 3, 9, 29, 30, 31] y1qu)
def y1og : CCode :=
  (.block 0 ypq)
def y1su : CCode :=
  (.seq (.region [
 kO 26 (.mv 0),
 kO 27 (.mv 1),
 kO 28 (.ixs 1 26 27),
 kO 29 (.ld false 1 28),
 kO 30 (.len 1 29),
 kO 31 (.mv (ci 0))])
 y1og)
def y1a0 : CCode :=
  (.seq y1su
 y1up)
def y142 : CCode :=
  (.seq (.region [
 kO 9 (.mv (.c (.bool false)))])
 y1a0)
def y178 : CCode :=
  (.seq (.seq (.region [
 kO 12 (.mv 0),
 kO 13 (.mv 1),
 kO 14 (.ixs 1 12 13),
 kO 15 (.ld false 1 14),
 kO 16 (.eqn 1 false 15 (.c .nils))])
 (.cond 16
 (.seq (.region [
  kO 17 (.mv 0),
  kO 18 (.mv 1),
  kO 19 (.mv 2),
  kO 20 (.call (some 0) false 78 [19]),
  kO 21 (.ixs 1 17 18),
  kU (.st 1 21 20)])
  (.seq (.region [
  kO 22 (.mv 3),
  kO 23 (.mv 1),
  kO 24 (.buildS (some 1) 1 1 [(.int .i64 0)] [(0, 23)]),
  kO 25 (.app (some 2) 1 8 22 24),
  kO 8 (.mv 25)])
  .ret))
 .skip))
 y142)
def y18m : CCode :=
  (.seq (.region [
 kO 8 (.mv (.c .nils))])
 y178)
def y2to : CFunc :=
  ⟨4, false, 5, y18m, [.t 8]⟩
def y0j : CCode :=
  (.seq (.region [
 kO 47 (.mv 7),
 kO 4 (.mv 47)])
 .ret)
def y19l : CCode :=
  (.block 1 (.draw [
 kO 38 (.mv 8),
 kO 39 (.mv 7),
 kO 40 (.mv 8),
 kO 41 (.slc 1 39 (some 40) none),
 kO 42 (.mv 7),
 kO 43 (.mv 8),
 kO 44 (.slc 1 42 none (some 43)),
 kO 45 (.cpy 1 41 44),
 kO 46 (.bin .add 38 45),
 kO 8 (.mv 46)] []))
def yym : CCode :=
  (.seq (.seq (.region [
 kO 34 (.mv 8),
 kO 35 (.mv 7),
 kO 36 (.len 1 35),
 kO 37 (.bin .lss 34 36)])
 (.cond 37
 .skip
 (.exit 0)))
 y19l)
def yii : CCode :=
  (.loop [7, 8] yym)
def y17k : CCode :=
  (.block 0 yii)
def y15w : CCode :=
  (.seq y17k
 y0j)
def y14i : CCode :=
  (.seq (.region [
 kO 31 (.mv 7),
 kO 32 (.mv 0),
 kO 33 (.cpy 1 31 32),
 kO 8 (.mv 33)])
 y15w)
def y122 : CCode :=
  (.seq (.region [
 kO 28 (.mv 6),
 kO 29 (.cvi .i64 28),
 kO 30 (.mkS (some 0) 1 8 [(.int .i64 0)] 29 29),
 kO 7 (.mv 30)])
 y14i)
def y148 : CCode :=
  (.seq (.seq (.region [
 kO 21 (.mv 5),
 kO 22 (.bin .gtr 21 (.c (.int .u64 0))),
 kO 23 (.mv 22),
 kG 24 (.mv 6) 23 false,
 kG 25 (.bin .gtr 24 (.c (.int .u64 9223372036854775807))) 23 false,
 kO 26 (.pick 23 (.c (.bool true)) 25)])
 (.cond 26
 .bad
 .skip))
 y122)
def ysv : CCode :=
  (.seq (.region [
 kO 13 (.mv 0),
 kO 14 (.len 1 13),
 kO 15 (.cvi .u64 14),
 kO 16 (.mv 1),
 kO 17 (.cvi .u64 16),
 kO 18 (.call none true 157 [15, 17]),
 kO 12 (.mv 18),
 kO 19 (.ext 0 12),
 kO 20 (.ext 1 12),
 kO 5 (.mv 19),
 kO 6 (.mv 20)])
 y148)
def ytl : CCode :=
  (.seq (.seq (.region [
 kO 9 (.mv 1),
 kO 10 (.bin .lss 9 (ci 0))])
 (.cond 10
 .bad
 .skip))
 ysv)
def yu1 : CCode :=
  (.seq (.region [
 kO 4 (.mv (.c .nils))])
 ytl)
def y2an : CFunc :=
  ⟨2, true, 1, yu1, [.t 4]⟩
def y2bw : CCode :=
  (.seq (.region [
 kO 30 (.ld false 1 2),
 kO 31 (.mv 0),
 kO 32 (.mv 6),
 kO 33 (.ixs 1 30 31),
 kU (.st 1 33 32)])
 (.region [
 kO 34 (.ld false 1 3),
 kO 35 (.mv 0),
 kO 36 (.buildS (some 0) 1 1 [(.int .i64 0)] [(0, 35)]),
 kO 37 (.app (some 1) 1 8 34 36),
 kU (.st 1 3 37)]))
def y2b8 : CCode :=
  (.seq (.seq (.region [
 kO 13 (.mv 0),
 kO 14 (.bin .eql 13 (ci 0)),
 kO 15 (.mv 14),
 kG 16 (.ld false 1 2) 15 false,
 kG 17 (.mv 0) 15 false,
 kG 18 (.ixs 1 16 17) 15 false,
 kG 19 (.ld false 1 18) 15 false,
 kG 20 (.eqn 1 true 19 (.c .nils)) 15 false,
 kG 21 (.mv 20) 15 false,
 kG 22 (.mv 6) 21 true,
 kG 23 (.ld false 1 2) 21 true,
 kG 24 (.mv 0) 21 true,
 kG 25 (.ixs 1 23 24) 21 true,
 kG 26 (.ld false 1 25) 21 true,
 kG 27 (.call none true 156 [22, 26]) 21 true,
 kG 28 (.pick 21 27 (.c (.bool false))) 15 false,
 kO 29 (.pick 15 (.c (.bool true)) 28)])
 (.cond 29
 .ret
 .skip))
 y2bw)
def y2d4 : CCode :=
  (.seq (.region [
 kO 7 (.ld false 1 2),
 kO 8 (.mv 0),
 kO 9 (.ixs 1 7 8),
 kO 10 (.ld false 1 9),
 kO 11 (.mv 1),
 kO 12 (.call none true 155 [10, 11]),
 kO 6 (.mv 12)])
 y2b8)
def c_q2 : CFunc :=
  ⟨4, false, 2, y2d4, []⟩
def y2da : CCode :=
  (.seq (.region [
 kO 31 (.mv 5),
 kO 4 (.mv 31)])
 .ret)
def y2d8 : CCode :=
  (.region [
 kO 30 (.bin .add 15 (ci 1)),
 kO 15 (.mv 30)])
def y2br : CCode :=
  (.seq (.block 1 (.seq (.region [
 kO 17 (.mv 15),
 kO 6 (.mv 17)])
 (.seq (.draw [
 kO 18 (.mv 5),
 kO 19 (.mv 6),
 kO 20 (.ixs 1 18 19),
 kO 21 (.ld false 1 20),
 kO 22 (.mv 1),
 kO 23 (.mv 6),
 kO 24 (.ixs 1 22 23),
 kO 25 (.ld false 1 24),
 kO 26 (.bin .neq 21 25)] [])
 (.cond 26
 (.region [
  kO 27 (.mv 5),
  kO 28 (.mv 6),
  kO 29 (.ixs 1 27 28),
  kU (.st 1 29 (ci (-1)))])
 .skip))))
 y2d8)
def y2am : CCode :=
  (.seq (.cond 16
 .skip
 (.exit 0))
 y2br)
def y2d6 : CCode :=
  (.seq (.region [
 kO 16 (.bin .lss 15 14)])
 y2am)
def yxd : CCode :=
  (.loop [1, 5, 14, 15] y2d6)
def y2bt : CCode :=
  (.block 0 yxd)
def y2bo : CCode :=
  (.seq (.region [
 kO 13 (.mv 5),
 kO 14 (.len 1 13),
 kO 15 (.mv (ci 0))])
 y2bt)
def y2cl : CCode :=
  (.seq y2bo
 y2da)
def y1ks : CCode :=
  (.seq (.region [
 kO 11 (.mv 0),
 kO 12 (.call (some 1) false 153 [11]),
 kO 5 (.mv 12)])
 y2cl)
def y1vc : CCode :=
  (.seq (.seq (.region [
 kO 7 (.mv 0),
 kO 8 (.eqn 1 false 7 (.c .nils))])
 (.cond 8
 (.seq (.region [
  kO 9 (.mv 1),
  kO 10 (.call (some 0) false 153 [9]),
  kO 4 (.mv 10)])
  .ret)
 .skip))
 y1ks)
def y1w0 : CCode :=
  (.seq (.region [
 kO 4 (.mv (.c .nils))])
 y1vc)
def c_q5 : CFunc :=
  ⟨2, true, 2, y1w0, [.t 4]⟩
def y11i : CCode :=
  (.seq (.region [
 kO 4 (.mv (.c (.bool true)))])
 .ret)
def y131 : CCode :=
  (.region [
 kO 25 (.bin .add 13 (ci 1)),
 kO 13 (.mv 25)])
def y144 : CCode :=
  (.seq (.block 1 (.seq (.region [
 kO 15 (.mv 13),
 kO 5 (.mv 15)])
 (.seq (.draw [
 kO 16 (.mv 0),
 kO 17 (.mv 5),
 kO 18 (.ixs 1 16 17),
 kO 19 (.ld false 1 18),
 kO 20 (.mv 1),
 kO 21 (.mv 5),
 kO 22 (.ixs 1 20 21),
 kO 23 (.ld false 1 22),
 kO 24 (.bin .neq 19 23)] [])
 (.cond 24
 (.seq (.region [
  kO 4 (.mv (.c (.bool false)))])
  .ret)
 .skip))))
 y131)
def y07 : CCode :=
  (.seq (.cond 14
 .skip
 (.exit 0))
 y144)
def yyz : CCode :=
  (.seq (.region [
 kO 14 (.bin .lss 13 12)])
 y07)
def yi7 : CCode :=
  (.loop [0, 1, 12, 13] yyz)
def y15c : CCode :=
  (.block 0 yi7)
def yzn : CCode :=
  (.seq (.region [
 kO 11 (.mv 0),
 kO 12 (.len 1 11),
 kO 13 (.mv (ci 0))])
 y15c)
def y15f : CCode :=
  (.seq yzn
 y11i)
def ysf : CCode :=
  (.seq (.seq (.region [
 kO 6 (.mv 0),
 kO 7 (.len 1 6),
 kO 8 (.mv 1),
 kO 9 (.len 1 8),
 kO 10 (.bin .neq 7 9)])
 (.cond 10
 (.seq (.region [
  kO 4 (.mv (.c (.bool false)))])
  .ret)
 .skip))
 y15f)
def yt8 : CCode :=
  (.seq (.region [
 kO 4 (.mv (.c (.bool false)))])
 ysf)
def y2b3 : CFunc :=
  ⟨2, true, 0, yt8, [.t 4]⟩
def y2b0 : CCode :=
  (.seq (.region [
 kO 60 (.mv 0),
 kO 61 (.mv 5),
 kO 62 (.call none false 154 [60, 61])])
 (.seq (.region [
 kO 63 (.mv 0),
 kO 64 (.mv 5),
 kO 65 (.mv 6),
 kO 66 (.ixs 1 63 64),
 kU (.st 1 66 65)])
 (.seq (.region [
 kO 67 (.mv 0),
 kO 4 (.mv 67)])
 .ret)))
def y2c1 : CCode :=
  (.seq (.seq (.region [
 kO 25 (.fa 0 3),
 kO 26 (.ld false 1 25),
 kO 27 (.bin .eql 26 (ci 4)),
 kO 28 (.mv 27),
 kG 29 (.fa 2 3) 28 true,
 kG 30 (.ld false 1 29) 28 true,
 kG 31 (.mv 5) 28 true,
 kG 32 (.bin .neq 30 31) 28 true,
 kO 33 (.pick 28 32 (.c (.bool false)))])
 (.cond 33
 (.seq (.region [
  kO 34 (.fa 2 3),
  kO 35 (.ld false 1 34),
  kO 6 (.mv 35)])
  (.seq (.region [
  kO 36 (.mv 0),
  kO 37 (.mv 6),
  kO 38 (.ixs 1 36 37),
  kO 39 (.ld false 1 38),
  kO 40 (.bin .geq 39 (ci 0)),
  kO 41 (.mv 40),
  kG 42 (.mv 0) 41 true,
  kG 43 (.mv 6) 41 true,
  kG 44 (.ixs 1 42 43) 41 true,
  kG 45 (.ld false 1 44) 41 true,
  kG 46 (.mv 5) 41 true,
  kG 47 (.bin .neq 45 46) 41 true,
  kO 48 (.pick 41 47 (.c (.bool false)))])
  (.cond 48
  (.region [
   kO 49 (.mv 0),
   kO 50 (.mv 6),
   kO 51 (.ixs 1 49 50),
   kO 52 (.ld false 1 51),
   kO 6 (.mv 52)])
  (.seq (.region [
   kO 53 (.mv 0),
   kO 54 (.mv 6),
   kO 55 (.ixs 1 53 54),
   kO 56 (.ld false 1 55),
   kO 57 (.mv 5),
   kO 58 (.bin .eql 56 57)])
   (.cond 58
   (.seq (.region [
    kO 59 (.mv 0),
    kO 4 (.mv 59)])
    .ret)
   .skip)))))
 .skip))
 y2b0)
def y2aq : CCode :=
  (.seq (.region [
 kO 6 (.mv (ci (-1)))])
 y2c1)
def y2b1 : CCode :=
  (.seq (.seq (.region [
 kO 11 (.mv 5),
 kO 12 (.bin .lss 11 (ci 0)),
 kO 13 (.mv 12),
 kG 14 (.fa 0 3) 13 false,
 kG 15 (.ld false 1 14) 13 false,
 kG 16 (.bin .eql 15 (ci 4)) 13 false,
 kG 17 (.mv 16) 13 false,
 kG 18 (.fa 2 3) 17 true,
 kG 19 (.ld false 1 18) 17 true,
 kG 20 (.mv 5) 17 true,
 kG 21 (.bin .eql 19 20) 17 true,
 kG 22 (.pick 17 21 (.c (.bool false))) 13 false,
 kO 23 (.pick 13 (.c (.bool true)) 22)])
 (.cond 23
 (.seq (.region [
  kO 24 (.mv 0),
  kO 4 (.mv 24)])
  .ret)
 .skip))
 y2aq)
def y2c4 : CCode :=
  (.seq (.region [
 kO 9 (.ld true 9 3),
 kO 10 (.call none true 9 [9]),
 kO 5 (.mv 10)])
 y2b1)
def y2cw : CCode :=
  (.seq (.region [
 kO 7 (.mv 0),
 kO 8 (.call (some 1) false 153 [7]),
 kO 0 (.mv 8)])
 y2c4)
def y2ay : CCode :=
  (.seq (.region [
 kO 3 (.box (some 0) 1),
 kO 4 (.mv (.c .nils))])
 y2cw)
def c_q3 : CFunc :=
  ⟨2, true, 2, y2ay, [.t 4]⟩
def y1u4 : CCode :=
  (.seq (.region [
 kO 38 (.ld true 9 2),
 kU (.st 9 4 38)])
 .ret)
def y1ia : CCode :=
  (.seq (.seq (.region [
 kO 32 (.mv 5),
 kO 33 (.bin .gtr 32 (ci 2))])
 (.cond 33
 (.region [
  kO 34 (.mv 1),
  kO 35 (.ixs 1 34 (ci 2)),
  kO 36 (.ld false 1 35),
  kO 37 (.fa 4 2),
  kU (.st 1 37 36)])
 .skip))
 y1u4)
def y1ex : CCode :=
  (.seq (.seq (.region [
 kO 26 (.mv 5),
 kO 27 (.bin .gtr 26 (ci 1))])
 (.cond 27
 (.region [
  kO 28 (.mv 1),
  kO 29 (.ixs 1 28 (ci 1)),
  kO 30 (.ld false 1 29),
  kO 31 (.fa 3 2),
  kU (.st 1 31 30)])
 .skip))
 y1ia)
def y1pe : CCode :=
  (.seq (.seq (.region [
 kO 20 (.mv 5),
 kO 21 (.bin .gtr 20 (ci 0))])
 (.cond 21
 (.region [
  kO 22 (.mv 1),
  kO 23 (.ixs 1 22 (ci 0)),
  kO 24 (.ld false 1 23),
  kO 25 (.fa 2 2),
  kU (.st 1 25 24)])
 .skip))
 y1ex)
def y1ij : CCode :=
  (.seq (.seq (.region [
 kO 14 (.ld true 9 2),
 kO 15 (.call none true 17 [14])])
 (.cond 15
 (.seq (.region [
  kO 16 (.mv 1),
  kO 17 (.call (some 2) false 39 [16]),
  kO 18 (.fa 8 2),
  kU (.st 1 18 17)])
  (.seq (.region [
  kO 19 (.ld true 9 2),
  kU (.st 9 4 19)])
  .ret))
 .skip))
 y1pe)
def y203 : CCode :=
  (.seq (.seq (.region [
 kO 9 (.mv 5),
 kO 10 (.mv 1),
 kO 11 (.len 1 10),
 kO 12 (.bin .neq 9 11)])
 (.cond 12
 (.seq (.region [
  kO 13 (.ld true 9 2),
  kU (.st 9 4 13)])
  .ret)
 .skip))
 y1ij)
def y1ld : CCode :=
  (.seq (.region [
 kO 6 (.ld true 9 2),
 kO 7 (.call none true 10 [6]),
 kO 8 (.len 1 7),
 kO 5 (.mv 8)])
 y203)
def y1no : CCode :=
  (.seq (.region [
 kO 2 (.box (some 0) 0),
 kO 4 (.new (some 1) [(.int .i64 0), (.int .i64 0), (.int .i64 0), (.int .i64 0), (.int .i64 0), (.int .i64 0), (.int .i64 0), (.str []), .nils])])
 y1ld)
def y2rn : CFunc :=
  ⟨2, true, 3, y1no, [.cell 4 true 9]⟩
def y1fd : CCode :=
  (.seq (.region [
 kO 1 (.box (some 0) 0),
 kO 2 (.mv (.c (.bool false)))])
 (.seq (.region [
 kO 3 (.fa 0 1),
 kO 4 (.ld false 1 3),
 kO 5 (.bin .geq 4 (ci 23)),
 kO 6 (.mv 5),
 kG 7 (.fa 0 1) 6 true,
 kG 8 (.ld false 1 7) 6 true,
 kG 9 (.bin .leq 8 (ci 26)) 6 true,
 kO 10 (.pick 6 9 (.c (.bool false))),
 kO 2 (.mv 10)])
 .ret))
def y2qu : CFunc :=
  ⟨1, true, 1, y1fd, [.t 2]⟩
def y12h : CCode :=
  (.seq (.region [
 kO 4 (.mv (ci (-1)))])
 .ret)
def y04 : CCode :=
  (.region [
 kO 18 (.bin .add 8 (ci 1)),
 kO 8 (.mv 18)])
def y13a : CCode :=
  (.seq (.block 1 (.seq (.region [
 kO 10 (.mv 8),
 kO 5 (.mv 10)])
 (.seq (.region [
 kO 11 (.mv 1),
 kO 12 (.mv 0),
 kO 13 (.mv 5),
 kO 14 (.ixs 1 12 13),
 kO 15 (.ld false 1 14),
 kO 16 (.bin .eql 11 15)])
 (.cond 16
 (.seq (.region [
  kO 17 (.mv 5),
  kO 4 (.mv 17)])
  .ret)
 .skip))))
 y04)
def yyq : CCode :=
  (.seq (.cond 9
 .skip
 (.exit 0))
 y13a)
def yyj : CCode :=
  (.seq (.region [
 kO 9 (.bin .lss 8 7)])
 yyq)
def ykb : CCode :=
  (.loop [0, 1, 7, 8] yyj)
def y15e : CCode :=
  (.block 0 ykb)
def y1a8 : CCode :=
  (.seq (.region [
 kO 6 (.mv 0),
 kO 7 (.len 1 6),
 kO 8 (.mv (ci 0))])
 y15e)
def y19b : CCode :=
  (.seq y1a8
 y12h)
def ysw : CCode :=
  (.seq (.region [
 kO 4 (.mv (ci 0))])
 y19b)
def y2cu : CFunc :=
  ⟨2, true, 0, ysw, [.t 4]⟩
def y1p2 : CCode :=
  (.seq (.region [
 kO 138 (.ld true 9 1),
 kO 139 (.call none true 51 [138]),
 kO 140 (.ext 0 139),
 kO 141 (.ext 1 139),
 kU (.st 4 2 140),
 kO 3 (.mv 141)])
 .ret)
def y1se : CCode :=
  (.cond 134
 (.seq (.region [
  kO 137 (.build [(.int .i64 0), (.int .i64 0), (.int .i64 0), (.int .i64 0)] [(0, 1, (ci (-1))), (1, 1, (ci (-1))), (2, 1, (ci (-1))), (3, 1, (ci (-1)))]),
  kU (.st 4 2 137),
  kO 3 (.mv (.c (.bool true)))])
  .ret)
 .skip)
def y1ni : CCode :=
  (.seq (.seq (.region [
 kO 135 (.bin .eql 11 (ci 27)),
 kO 134 (.mv 135)])
 (.cond 134
 .skip
 (.region [
  kO 136 (.bin .eql 11 (ci 33)),
  kO 134 (.mv 136)])))
 y1se)
def y1fa : CCode :=
  (.cond 123
 (.seq (.draw [
  kO 125 (.build [(.int .i64 0), (.int .i64 0), (.int .i64 0), (.int .i64 0)] [(0, 1, (ci (-1))), (1, 1, (ci 1)), (2, 1, (ci 1)), (3, 1, (ci (-1)))]),
  kO 126 (.fa 5 1),
  kO 127 (.ld false 1 126),
  kO 128 (.bin .geq 127 (ci 0)),
  kO 129 (.mv 128),
  kG 130 (.fa 5 1) 129 true,
  kG 131 (.ld false 1 130) 129 true,
  kG 132 (.bin .leq 131 (ci 5)) 129 true,
  kO 133 (.pick 129 132 (.c (.bool false))),
  kU (.st 4 2 125),
  kO 3 (.mv 133)] [(6, 9)])
  .ret)
 y1ni)
def y1jo : CCode :=
  (.seq (.region [
 kO 124 (.bin .eql 11 (ci 28)),
 kO 123 (.mv 124)])
 y1fa)
def y1qf : CCode :=
  (.cond 117
 (.seq (.region [
  kO 119 (.build [(.int .i64 0), (.int .i64 0), (.int .i64 0), (.int .i64 0)] [(0, 1, (ci 3)), (1, 1, (ci 1)), (2, 1, (ci (-1))), (3, 1, (ci (-1)))]),
  kO 120 (.fa 7 1),
  kO 121 (.ld false 1 120),
  kO 122 (.call none true 37 [121]),
  kU (.st 4 2 119),
  kO 3 (.mv 122)])
  .ret)
 y1jo)
def y1tf : CCode :=
  (.seq (.region [
 kO 118 (.bin .eql 11 (ci 21)),
 kO 117 (.mv 118)])
 y1qf)
def y1fj : CCode :=
  (.cond 114
 (.seq (.region [
  kO 116 (.build [(.int .i64 0), (.int .i64 0), (.int .i64 0), (.int .i64 0)] [(0, 1, (ci (-1))), (1, 1, (ci 0)), (2, 1, (ci (-1))), (3, 1, (ci (-1)))]),
  kU (.st 4 2 116),
  kO 3 (.mv (.c (.bool true)))])
  .ret)
 y1tf)
def y1tn : CCode :=
  (.seq (.region [
 kO 115 (.bin .eql 11 (ci 19)),
 kO 114 (.mv 115)])
 y1fj)
def y118 : CCode :=
  (.cond 108
 (.seq (.draw [
  kO 110 (.build [(.int .i64 0), (.int .i64 0), (.int .i64 0), (.int .i64 0)] [(0, 1, (ci (-1))), (1, 1, (ci 3)), (2, 1, (ci 0)), (3, 1, (ci (-1)))]),
  kO 111 (.fa 5 1),
  kO 112 (.ld false 1 111),
  kO 113 (.bin .geq 112 (ci 0)),
  kU (.st 4 2 110),
  kO 3 (.mv 113)] [(2, 4)])
  .ret)
 y1tn)
def y19w : CCode :=
  (.seq (.region [
 kO 109 (.bin .eql 11 (ci 17)),
 kO 108 (.mv 109)])
 y118)
def y125 : CCode :=
  (.cond 102
 (.seq (.draw [
  kO 104 (.build [(.int .i64 0), (.int .i64 0), (.int .i64 0), (.int .i64 0)] [(0, 1, (ci 0)), (1, 1, (ci 3)), (2, 1, (ci (-1))), (3, 1, (ci (-1)))]),
  kO 105 (.fa 5 1),
  kO 106 (.ld false 1 105),
  kO 107 (.bin .geq 106 (ci 0)),
  kU (.st 4 2 104),
  kO 3 (.mv 107)] [(2, 4)])
  .ret)
 y19w)
def y19e : CCode :=
  (.seq (.region [
 kO 103 (.bin .eql 11 (ci 16)),
 kO 102 (.mv 103)])
 y125)
def y12n : CCode :=
  (.cond 99
 (.seq (.region [
  kO 101 (.build [(.int .i64 0), (.int .i64 0), (.int .i64 0), (.int .i64 0)] [(0, 1, (ci 1)), (1, 1, (ci 3)), (2, 1, (ci (-1))), (3, 1, (ci (-1)))]),
  kU (.st 4 2 101),
  kO 3 (.mv (.c (.bool true)))])
  .ret)
 y19e)
def yzk : CCode :=
  (.seq (.region [
 kO 100 (.bin .eql 11 (ci 15)),
 kO 99 (.mv 100)])
 y12n)
def yz3 : CCode :=
  (.cond 96
 (.seq (.region [
  kO 98 (.build [(.int .i64 0), (.int .i64 0), (.int .i64 0), (.int .i64 0)] [(0, 1, (ci (-1))), (1, 1, (ci 3)), (2, 1, (ci 1)), (3, 1, (ci 0))]),
  kU (.st 4 2 98),
  kO 3 (.mv (.c (.bool true)))])
  .ret)
 yzk)
def yyt : CCode :=
  (.seq (.region [
 kO 97 (.bin .eql 11 (ci 14)),
 kO 96 (.mv 97)])
 yz3)
def y177 : CCode :=
  (.cond 93
 (.seq (.region [
  kO 95 (.build [(.int .i64 0), (.int .i64 0), (.int .i64 0), (.int .i64 0)] [(0, 1, (ci 0)), (1, 1, (ci 3)), (2, 1, (ci 1)), (3, 1, (ci (-1)))]),
  kU (.st 4 2 95),
  kO 3 (.mv (.c (.bool true)))])
  .ret)
 yyt)
def yyv : CCode :=
  (.seq (.region [
 kO 94 (.bin .eql 11 (ci 13)),
 kO 93 (.mv 94)])
 y177)
def y12t : CCode :=
  (.cond 90
 (.seq (.region [
  kO 92 (.build [(.int .i64 0), (.int .i64 0), (.int .i64 0), (.int .i64 0)] [(0, 1, (ci (-1))), (1, 1, (ci 3)), (2, 1, (ci 3)), (3, 1, (ci (-1)))]),
  kU (.st 4 2 92),
  kO 3 (.mv (.c (.bool true)))])
  .ret)
 yyv)
def y1ae : CCode :=
  (.seq (.region [
 kO 91 (.bin .eql 11 (ci 11)),
 kO 90 (.mv 91)])
 y12t)
def y16q : CCode :=
  (.cond 87
 (.seq (.region [
  kO 89 (.build [(.int .i64 0), (.int .i64 0), (.int .i64 0), (.int .i64 0)] [(0, 1, (ci (-1))), (1, 1, (ci 1)), (2, 1, (ci (-1))), (3, 1, (ci (-1)))]),
  kU (.st 4 2 89),
  kO 3 (.mv (.c (.bool true)))])
  .ret)
 y1ae)
def y0m : CCode :=
  (.seq (.region [
 kO 88 (.bin .eql 11 (ci 10)),
 kO 87 (.mv 88)])
 y16q)
def y1ap : CCode :=
  (.cond 84
 (.seq (.region [
  kO 86 (.build [(.int .i64 0), (.int .i64 0), (.int .i64 0), (.int .i64 0)] [(0, 1, (ci (-1))), (1, 1, (ci 3)), (2, 1, (ci 1)), (3, 1, (ci (-1)))]),
  kU (.st 4 2 86),
  kO 3 (.mv (.c (.bool true)))])
  .ret)
 y0m)
def y19y : CCode :=
  (.seq (.region [
 kO 85 (.bin .eql 11 (ci 9)),
 kO 84 (.mv 85)])
 y1ap)
def y12v : CCode :=
  (.cond 78
 (.seq (.region [
  kO 80 (.build [(.int .i64 0), (.int .i64 0), (.int .i64 0), (.int .i64 0)] [(0, 1, (ci 1)), (1, 1, (ci 3)), (2, 1, (ci (-1))), (3, 1, (ci (-1)))]),
  kO 81 (.fa 7 1),
  kO 82 (.ld false 1 81),
  kO 83 (.call none true 37 [82]),
  kU (.st 4 2 80),
  kO 3 (.mv 83)])
  .ret)
 y19y)
def y13e : CCode :=
  (.seq (.region [
 kO 79 (.bin .eql 11 (ci 22)),
 kO 78 (.mv 79)])
 y12v)
def y11t : CCode :=
  (.cond 72
 (.seq (.region [
  kO 74 (.build [(.int .i64 0), (.int .i64 0), (.int .i64 0), (.int .i64 0)] [(0, 1, (ci (-1))), (1, 1, (ci 3)), (2, 1, (ci (-1))), (3, 1, (ci (-1)))]),
  kO 75 (.fa 7 1),
  kO 76 (.ld false 1 75),
  kO 77 (.call none true 37 [76]),
  kU (.st 4 2 74),
  kO 3 (.mv 77)])
  .ret)
 y13e)
def y15y : CCode :=
  (.seq (.region [
 kO 73 (.bin .eql 11 (ci 12)),
 kO 72 (.mv 73)])
 y11t)
def y16i : CCode :=
  (.cond 68
 (.seq (.region [
  kO 71 (.build [(.int .i64 0), (.int .i64 0), (.int .i64 0), (.int .i64 0)] [(0, 1, (ci (-1))), (1, 1, (ci 3)), (2, 1, (ci (-1))), (3, 1, (ci (-1)))]),
  kU (.st 4 2 71),
  kO 3 (.mv (.c (.bool true)))])
  .ret)
 y15y)
def y135 : CCode :=
  (.seq (.seq (.region [
 kO 69 (.bin .eql 11 (ci 8)),
 kO 68 (.mv 69)])
 (.cond 68
 .skip
 (.region [
  kO 70 (.bin .eql 11 (ci 31)),
  kO 68 (.mv 70)])))
 y16i)
def y112 : CCode :=
  (.cond 65
 (.seq (.region [
  kO 67 (.build [(.int .i64 0), (.int .i64 0), (.int .i64 0), (.int .i64 0)] [(0, 1, (ci (-1))), (1, 1, (ci 0)), (2, 1, (ci (-1))), (3, 1, (ci (-1)))]),
  kU (.st 4 2 67),
  kO 3 (.mv (.c (.bool true)))])
  .ret)
 y135)
def y12z : CCode :=
  (.seq (.region [
 kO 66 (.bin .eql 11 (ci 7)),
 kO 65 (.mv 66)])
 y112)
def y11m : CCode :=
  (.cond 47
 (.seq (.region [
  kO 50 (.fa 5 1),
  kO 51 (.ld false 1 50),
  kO 52 (.call none true 50 [51]),
  kO 49 (.mv 52),
  kO 53 (.ext 0 49),
  kO 54 (.ext 1 49),
  kO 55 (.ext 2 49),
  kO 7 (.mv 53),
  kO 8 (.mv 54),
  kO 9 (.mv 55)])
  (.seq (.region [
  kO 56 (.mv 9),
  kO 57 (.mv 7),
  kO 58 (.build [(.int .i64 0), (.int .i64 0), (.int .i64 0), (.int .i64 0)] [(0, 1, 56), (1, 1, 57), (2, 1, (ci (-1))), (3, 1, (ci (-1)))]),
  kO 59 (.mv 7),
  kO 60 (.bin .neq 59 (ci 0)),
  kO 61 (.mv 60),
  kG 62 (.mv 8) 61 true,
  kG 63 (.bin .eql 62 (ci 0)) 61 true,
  kO 64 (.pick 61 63 (.c (.bool false))),
  kU (.st 4 2 58),
  kO 3 (.mv 64)])
  .ret))
 y12z)
def y12x : CCode :=
  (.seq (.region [
 kO 48 (.bin .eql 11 (ci 6)),
 kO 47 (.mv 48)])
 y11m)
def y17e : CCode :=
  (.cond 25
 (.seq (.region [
  kO 28 (.fa 5 1),
  kO 29 (.ld false 1 28),
  kO 30 (.call none true 50 [29]),
  kO 27 (.mv 30),
  kO 31 (.ext 0 27),
  kO 32 (.ext 1 27),
  kO 33 (.ext 2 27),
  kO 4 (.mv 31),
  kO 5 (.mv 32),
  kO 6 (.mv 33)])
  (.seq (.region [
  kO 34 (.mv 6),
  kO 35 (.mv 4),
  kO 36 (.mv 5),
  kO 37 (.build [(.int .i64 0), (.int .i64 0), (.int .i64 0), (.int .i64 0)] [(0, 1, 34), (1, 1, 35), (2, 1, 36), (3, 1, (ci (-1)))]),
  kO 38 (.fa 5 1),
  kO 39 (.ld false 1 38),
  kO 40 (.fa 5 1),
  kO 41 (.ld false 1 40),
  kO 42 (.bin .eql 39 41),
  kO 43 (.mv 42),
  kG 44 (.mv 5) 43 true,
  kG 45 (.bin .neq 44 (ci 0)) 43 true,
  kO 46 (.pick 43 45 (.c (.bool false))),
  kU (.st 4 2 37),
  kO 3 (.mv 46)])
  .ret))
 y12x)
def y18o : CCode :=
  (.seq (.region [
 kO 26 (.bin .eql 11 (ci 5)),
 kO 25 (.mv 26)])
 y17e)
def yz2 : CCode :=
  (.cond 22
 (.seq (.region [
  kO 24 (.build [(.int .i64 0), (.int .i64 0), (.int .i64 0), (.int .i64 0)] [(0, 1, (ci 0)), (1, 1, (ci 0)), (2, 1, (ci (-1))), (3, 1, (ci (-1)))]),
  kU (.st 4 2 24),
  kO 3 (.mv (.c (.bool true)))])
  .ret)
 y18o)
def y17x : CCode :=
  (.seq (.region [
 kO 23 (.bin .eql 11 (ci 4)),
 kO 22 (.mv 23)])
 yz2)
def y13u : CCode :=
  (.cond 16
 (.seq (.region [
  kO 21 (.build [(.int .i64 0), (.int .i64 0), (.int .i64 0), (.int .i64 0)] [(0, 1, (ci 3)), (1, 1, (ci (-1))), (2, 1, (ci (-1))), (3, 1, (ci (-1)))]),
  kU (.st 4 2 21),
  kO 3 (.mv (.c (.bool true)))])
  .ret)
 y17x)
def y1a9 : CCode :=
  (.seq (.seq (.region [
 kO 17 (.bin .eql 11 (ci 2)),
 kO 16 (.mv 17)])
 (.cond 16
 .skip
 (.seq (.region [
  kO 18 (.bin .eql 11 (ci 3)),
  kO 16 (.mv 18)])
  (.cond 16
  .skip
  (.seq (.region [
   kO 19 (.bin .eql 11 (ci 20)),
   kO 16 (.mv 19)])
   (.cond 16
   .skip
   (.region [
    kO 20 (.bin .eql 11 (ci 32)),
    kO 16 (.mv 20)])))))))
 y13u)
def y16x : CCode :=
  (.cond 12
 (.seq (.region [
  kO 15 (.build [(.int .i64 0), (.int .i64 0), (.int .i64 0), (.int .i64 0)] [(0, 1, (ci 0)), (1, 1, (ci (-1))), (2, 1, (ci (-1))), (3, 1, (ci (-1)))]),
  kU (.st 4 2 15),
  kO 3 (.mv (.c (.bool true)))])
  .ret)
 y1a9)
def y0x : CCode :=
  (.seq (.seq (.region [
 kO 13 (.bin .eql 11 (ci 1)),
 kO 12 (.mv 13)])
 (.cond 12
 .skip
 (.region [
  kO 14 (.bin .eql 11 (ci 18)),
  kO 12 (.mv 14)])))
 y16x)
def y13b : CCode :=
  (.block 0 y0x)
def y18n : CCode :=
  (.seq (.region [
 kO 10 (.fa 0 1),
 kO 11 (.ld false 1 10)])
 y13b)
def yyo : CCode :=
  (.seq y18n
 y1p2)
def y159 : CCode :=
  (.seq (.region [
 kO 1 (.box (some 0) 0),
 kO 2 (.new (some 1) [(.int .i64 0), (.int .i64 0), (.int .i64 0), (.int .i64 0)]),
 kO 3 (.mv (.c (.bool false)))])
 yyo)
def y2tm : CFunc :=
  ⟨1, true, 2, y159, [.cell 2 true 4, .t 3]⟩
def y1ki : CCode :=
  (.seq (.region [
 kO 1 (.box (some 0) 0),
 kO 2 (.mv (.c (.bool false)))])
 (.seq (.region [
 kO 3 (.fa 0 1),
 kO 4 (.ld false 1 3),
 kO 5 (.bin .geq 4 (ci 7)),
 kO 6 (.mv 5),
 kG 7 (.fa 0 1) 6 true,
 kG 8 (.ld false 1 7) 6 true,
 kG 9 (.bin .leq 8 (ci 12)) 6 true,
 kO 10 (.pick 6 9 (.c (.bool false))),
 kO 11 (.mv 10),
 kG 12 (.fa 0 1) 11 false,
 kG 13 (.ld false 1 12) 11 false,
 kG 14 (.bin .eql 13 (ci 20)) 11 false,
 kO 15 (.pick 11 (.c (.bool true)) 14),
 kO 16 (.mv 15),
 kG 17 (.fa 0 1) 16 false,
 kG 18 (.ld false 1 17) 16 false,
 kG 19 (.bin .eql 18 (ci 21)) 16 false,
 kO 20 (.pick 16 (.c (.bool true)) 19),
 kO 21 (.mv 20),
 kG 22 (.fa 0 1) 21 false,
 kG 23 (.ld false 1 22) 21 false,
 kG 24 (.bin .eql 23 (ci 31)) 21 false,
 kO 25 (.pick 21 (.c (.bool true)) 24),
 kO 26 (.mv 25),
 kG 27 (.ld true 9 1) 26 false,
 kG 28 (.call none true 17 [27]) 26 false,
 kO 29 (.pick 26 (.c (.bool true)) 28),
 kO 2 (.mv 29)])
 .ret))
def y2ps : CFunc :=
  ⟨1, true, 1, y1ki, [.t 2]⟩
def y19z : CCode :=
  (.seq (.region [
 kO 13 (.mv 3),
 kO 14 (.mv 0),
 kO 15 (.ixs 1 13 14),
 kO 16 (.ld false 1 15),
 kO 2 (.mv 16)])
 .ret)
def y16c : CCode :=
  (.seq (.seq (.region [
 kO 5 (.mv 0),
 kO 6 (.bin .lss 5 (ci 1)),
 kO 7 (.mv 6),
 kG 8 (.mv 0) 7 false,
 kG 9 (.mv 3) 7 false,
 kG 10 (.len 1 9) 7 false,
 kG 11 (.bin .geq 8 10) 7 false,
 kO 12 (.pick 7 (.c (.bool true)) 11)])
 (.cond 12
 (.seq (.region [
  kO 2 (.mv (.c (.str [])))])
  .ret)
 .skip))
 y19z)
def y187 : CCode :=
  (.seq (.region [
 kO 4 (.buildS (some 0) 1 34 [(.str [])] [(0, (.c (.str []))), (1, (.c (.str [110, 45, 45, 45]))), (2, (.c (.str [51, 45, 45, 45]))), (3, (.c (.str [51, 45, 45, 45]))), (4, (.c (.str [42, 61, 45, 45]))), (5, (.c (.str [63, 63, 63, 63]))), (6, (.c (.str [63, 63, 63, 63]))), (7, (.c (.str [45, 110, 45, 45]))), (8, (.c (.str [45, 51, 45, 45]))), (9, (.c (.str [45, 51, 49, 45]))), (10, (.c (.str [45, 49, 45, 45]))), (11, (.c (.str [45, 51, 51, 45]))), (12, (.c (.str [45, 51, 45, 45]))), (13, (.c (.str [42, 51, 49, 45]))), (14, (.c (.str [45, 51, 49, 42]))), (15, (.c (.str [49, 51, 45, 45]))), (16, (.c (.str [42, 51, 45, 45]))), (17, (.c (.str [45, 51, 42, 45]))), (18, (.c (.str [42, 45, 45, 45]))), (19, (.c (.str [45, 42, 45, 45]))), (20, (.c (.str [51, 45, 45, 45]))), (21, (.c (.str [51, 49, 45, 45]))), (22, (.c (.str [49, 51, 45, 45]))), (23, (.c (.str [63, 63, 63, 63]))), (24, (.c (.str [63, 63, 63, 63]))), (25, (.c (.str [63, 63, 63, 63]))), (26, (.c (.str [63, 63, 63, 63]))), (27, (.c (.str [45, 45, 45, 45]))), (28, (.c (.str [45, 49, 49, 45]))), (29, (.c (.str [45, 51, 63, 45]))), (30, (.c (.str [45, 63, 45, 45]))), (31, (.c (.str [45, 51, 45, 45]))), (32, (.c (.str [51, 45, 45, 45]))), (33, (.c (.str [45, 45, 45, 45])))]),
 kO 3 (.mv 4)])
 y16c)
def yzh : CCode :=
  (.seq (.region [
 kO 2 (.mv (.c (.str [])))])
 y187)
def y2d5 : CFunc :=
  ⟨1, true, 1, yzh, [.t 2]⟩
def y14a : CCode :=
  (.seq (.region [
 kO 28 (.mv 7),
 kO 29 (.mv 2),
 kO 30 (.bin .sub 29 (.c (.int .u8 48))),
 kO 31 (.cvi .i64 30),
 kO 32 (.bin .eql 28 31),
 kO 6 (.mv 32)])
 .ret)
def y154 : CCode :=
  (.cond 15
 (.seq (.region [
  kO 18 (.mv 7),
  kO 19 (.bin .gtr 18 (ci 0)),
  kO 6 (.mv 19)])
  .ret)
 (.seq (.region [
  kO 21 (.bin .eql 11 (.c (.int .u8 110))),
  kO 20 (.mv 21)])
  (.cond 20
  (.seq (.region [
   kO 22 (.mv 7),
   kO 23 (.bin .eql 22 (ci 1)),
   kO 24 (.mv 23),
   kG 25 (.mv 7) 24 false,
   kG 26 (.bin .eql 25 (ci 2)) 24 false,
   kO 27 (.pick 24 (.c (.bool true)) 26),
   kO 6 (.mv 27)])
   .ret)
  .skip)))
def y133 : CCode :=
  (.seq (.seq (.region [
 kO 16 (.bin .eql 11 (.c (.int .u8 42))),
 kO 15 (.mv 16)])
 (.cond 15
 .skip
 (.region [
  kO 17 (.bin .eql 11 (.c (.int .u8 61))),
  kO 15 (.mv 17)])))
 y154)
def y13i : CCode :=
  (.cond 12
 (.seq (.region [
  kO 6 (.mv (.c (.bool true)))])
  .ret)
 y133)
def y19n : CCode :=
  (.seq (.seq (.region [
 kO 13 (.bin .eql 11 (.c (.int .u8 45))),
 kO 12 (.mv 13)])
 (.cond 12
 .skip
 (.region [
  kO 14 (.bin .eql 11 (.c (.int .u8 63))),
  kO 12 (.mv 14)])))
 y13i)
def yyl : CCode :=
  (.block 0 y19n)
def y18r : CCode :=
  (.seq (.region [
 kO 11 (.mv 2)])
 yyl)
def yz9 : CCode :=
  (.seq y18r
 y14a)
def y1a4 : CCode :=
  (.seq (.region [
 kO 8 (.ld true 5 3),
 kO 9 (.mv 1),
 kO 10 (.call none true 48 [8, 9]),
 kO 7 (.mv 10)])
 yz9)
def yrq : CCode :=
  (.seq (.region [
 kO 3 (.box (some 0) 0),
 kO 6 (.mv (.c (.bool false)))])
 y1a4)
def y2bg : CFunc :=
  ⟨3, true, 1, yrq, [.t 6]⟩
def y1nr : CCode :=
  (.seq (.region [
 kO 2 (.mv (ci 0)),
 kO 3 (.mv (ci 0)),
 kO 4 (.mv (ci 0))])
 .ret)
def y1ze : CCode :=
  (.seq (.block 0 (.seq (.region [
 kO 26 (.mv 5),
 kO 27 (.mv 26),
 kG 28 (.mv 0) 27 true,
 kG 29 (.bin .rem 28 (ci 2)) 27 true,
 kG 30 (.bin .eql 29 (ci 0)) 27 true,
 kO 31 (.pick 27 30 (.c (.bool false))),
 kO 25 (.mv 31)])
 (.cond 25
 (.seq (.region [
  kO 2 (.mv (ci 1)),
  kO 3 (.mv (ci 1)),
  kO 4 (.mv (ci 1))])
  .ret)
 (.seq (.region [
  kO 33 (.mv 0),
  kO 34 (.bin .eql 33 (ci 121)),
  kO 35 (.mv 34),
  kG 36 (.mv 0) 35 false,
  kG 37 (.bin .eql 36 (ci 123)) 35 false,
  kO 38 (.pick 35 (.c (.bool true)) 37),
  kO 39 (.mv 38),
  kG 40 (.mv 0) 39 false,
  kG 41 (.bin .eql 40 (ci 125)) 39 false,
  kO 42 (.pick 39 (.c (.bool true)) 41),
  kO 32 (.mv 42)])
  (.cond 32
  (.seq (.region [
   kO 2 (.mv (ci 2)),
   kO 3 (.mv (ci 1)),
   kO 4 (.mv (ci 2))])
   .ret)
  (.seq (.region [
   kO 44 (.mv 5),
   kO 43 (.mv 44)])
   (.cond 43
   (.seq (.region [
    kO 2 (.mv (ci 2)),
    kO 3 (.mv (ci 2)),
    kO 4 (.mv (ci 2))])
    .ret)
   (.seq (.region [
    kO 46 (.mv 0),
    kO 47 (.bin .eql 46 (ci 148)),
    kO 45 (.mv 47)])
    (.cond 45
    (.seq (.region [
     kO 2 (.mv (ci 2)),
     kO 3 (.mv (ci 2)),
     kO 4 (.mv (ci 1))])
     .ret)
    (.seq (.region [
     kO 49 (.mv 0),
     kO 50 (.bin .eql 49 (ci 116)),
     kO 51 (.mv 50),
     kG 52 (.mv 0) 51 false,
     kG 53 (.bin .geq 52 (ci 145)) 51 false,
     kG 54 (.mv 53) 51 false,
     kG 55 (.mv 0) 54 true,
     kG 56 (.bin .leq 55 (ci 147)) 54 true,
     kG 57 (.pick 54 56 (.c (.bool false))) 51 false,
     kO 58 (.pick 51 (.c (.bool true)) 57),
     kO 48 (.mv 58)])
     (.cond 48
     (.seq (.region [
      kO 2 (.mv (ci 1)),
      kO 3 (.mv (ci 0)),
      kO 4 (.mv (ci 1))])
      .ret)
     (.seq (.region [
      kO 60 (.mv 0),
      kO 61 (.bin .eql 60 (ci 117)),
      kO 59 (.mv 61)])
      (.cond 59
      (.seq (.region [
       kO 2 (.mv (ci 2)),
       kO 3 (.mv (ci 0)),
       kO 4 (.mv (ci 2))])
       .ret)
      (.seq (.region [
       kO 63 (.mv 0),
       kO 64 (.bin .eql 63 (ci 133)),
       kO 62 (.mv 64)])
       (.cond 62
       (.seq (.region [
        kO 2 (.mv (ci 1)),
        kO 3 (.mv (ci 0)),
        kO 4 (.mv (ci 2))])
        .ret)
       (.seq (.region [
        kO 66 (.mv 0),
        kO 67 (.bin .eql 66 (ci 136)),
        kO 65 (.mv 67)])
        (.cond 65
        (.seq (.region [
         kO 2 (.mv (ci 2)),
         kO 3 (.mv (ci 0)),
         kO 4 (.mv (ci 1))])
         .ret)
        .skip)))))))))))))))))
 y1nr)
def y1x5 : CCode :=
  (.seq (.region [
 kO 6 (.mv 0),
 kO 7 (.bin .geq 6 (ci 96)),
 kO 8 (.mv 7),
 kG 9 (.mv 0) 8 true,
 kG 10 (.bin .leq 9 (ci 113)) 8 true,
 kO 11 (.pick 8 10 (.c (.bool false))),
 kO 12 (.mv 11),
 kG 13 (.mv 0) 12 true,
 kG 14 (.bin .rem 13 (ci 4)) 12 true,
 kG 15 (.bin .lss 14 (ci 2)) 12 true,
 kO 16 (.pick 12 15 (.c (.bool false))),
 kO 17 (.mv 16),
 kG 18 (.mv 0) 17 false,
 kG 19 (.bin .geq 18 (ci 120)) 17 false,
 kG 20 (.mv 19) 17 false,
 kG 21 (.mv 0) 20 true,
 kG 22 (.bin .leq 21 (ci 131)) 20 true,
 kG 23 (.pick 20 22 (.c (.bool false))) 17 false,
 kO 24 (.pick 17 (.c (.bool true)) 23),
 kO 5 (.mv 24)])
 y1ze)
def y1rf : CCode :=
  (.seq (.region [
 kO 2 (.mv (ci 0)),
 kO 3 (.mv (ci 0)),
 kO 4 (.mv (ci 0))])
 y1x5)
def y2sd : CFunc :=
  ⟨1, true, 0, y1rf, [.t 2, .t 3, .t 4]⟩
def y02 : CCode :=
  (.seq (.region [
 kO 27 (.mv 0),
 kO 28 (.len 0 27),
 kO 29 (.bin .gtr 28 (ci 2)),
 kO 30 (.mv 29),
 kG 31 (.mv 0) 30 true,
 kG 32 (.ixstr 31 (ci 0)) 30 true,
 kG 33 (.bin .eql 32 (.c (.int .u8 76))) 30 true,
 kO 34 (.pick 30 33 (.c (.bool false))),
 kO 35 (.mv 34),
 kG 36 (.mv 0) 35 true,
 kG 37 (.mv 0) 35 true,
 kG 38 (.len 0 37) 35 true,
 kG 39 (.bin .sub 38 (ci 1)) 35 true,
 kG 40 (.ixstr 36 39) 35 true,
 kG 41 (.bin .eql 40 (.c (.int .u8 59))) 35 true,
 kO 42 (.pick 35 41 (.c (.bool false))),
 kO 43 (.mv 42),
 kG 44 (.mv 0) 43 true,
 kG 45 (.mv 0) 43 true,
 kG 46 (.len 0 45) 43 true,
 kG 47 (.bin .sub 46 (ci 1)) 43 true,
 kG 48 (.sls 44 (some (ci 1)) (some 47)) 43 true,
 kG 49 (.call none true 69 [48, (.c (.bool false))]) 43 true,
 kO 50 (.pick 43 49 (.c (.bool false))),
 kO 2 (.mv 50)])
 .ret)
def y166 : CCode :=
  (.seq (.seq (.region [
 kO 21 (.mv 0),
 kO 22 (.bin .eql 21 (.c (.str [73]))),
 kO 23 (.mv 22),
 kG 24 (.mv 0) 23 false,
 kG 25 (.bin .eql 24 (.c (.str [74]))) 23 false,
 kO 26 (.pick 23 (.c (.bool true)) 25)])
 (.cond 26
 (.seq (.region [
  kO 2 (.mv (.c (.bool true)))])
  .ret)
 .skip))
 y02)
def y12e : CCode :=
  (.seq (.seq (.region [
 kO 19 (.mv 3),
 kO 20 (.bin .gtr 19 (ci 8))])
 (.cond 20
 (.seq (.region [
  kO 2 (.mv (.c (.bool false)))])
  .ret)
 .skip))
 y166)
def y14u : CCode :=
  (.seq (.region [
 kO 16 (.mv 0),
 kO 17 (.mv 3),
 kO 18 (.sls 16 (some 17) none),
 kO 0 (.mv 18)])
 y12e)
def y12u : CCode :=
  (.block 1 (.region [
 kO 14 (.mv 3),
 kO 15 (.bin .add 14 (ci 1)),
 kO 3 (.mv 15)]))
def y13s : CCode :=
  (.seq (.seq (.region [
 kO 4 (.mv 3),
 kO 5 (.mv 0),
 kO 6 (.len 0 5),
 kO 7 (.bin .lss 4 6),
 kO 8 (.mv 7),
 kG 9 (.mv 0) 8 true,
 kG 10 (.mv 3) 8 true,
 kG 11 (.ixstr 9 10) 8 true,
 kG 12 (.bin .eql 11 (.c (.int .u8 91))) 8 true,
 kO 13 (.pick 8 12 (.c (.bool false)))])
 (.cond 13
 .skip
 (.exit 0)))
 y12u)
def yje : CCode :=
  (.loop [0, 3] y13s)
def yyx : CCode :=
  (.block 0 yje)
def y138 : CCode :=
  (.seq yyx
 y14u)
def yvi : CCode :=
  (.seq (.region [
 kO 3 (.mv (ci 0))])
 y138)
def yu6 : CCode :=
  (.seq (.region [
 kO 2 (.mv (.c (.bool false)))])
 yvi)
def y2c6 : CFunc :=
  ⟨1, true, 0, yu6, [.t 2]⟩
def y15d : CCode :=
  (.seq (.draw [
 kO 47 (.fa 0 3),
 kO 48 (.ld false 1 47),
 kO 49 (.bin .neq 48 (ci 24)),
 kO 50 (.mv 49),
 kG 51 (.fa 0 3) 50 true,
 kG 52 (.ld false 1 51) 50 true,
 kG 53 (.bin .neq 52 (ci 25)) 50 true,
 kO 54 (.pick 50 53 (.c (.bool false))),
 kO 55 (.mv 54),
 kG 56 (.fa 8 3) 55 false,
 kG 57 (.ld false 1 56) 55 false,
 kG 58 (.len 1 57) 55 false,
 kG 59 (.bin .gtr 58 (ci 0)) 55 false,
 kG 60 (.mv 59) 55 false,
 kG 61 (.ld true 5 2) 60 true,
 kG 62 (.fa 8 3) 60 true,
 kG 63 (.ld false 1 62) 60 true,
 kG 64 (.ixs 1 63 (ci 0)) 60 true,
 kG 65 (.ld false 1 64) 60 true,
 kG 66 (.call none true 48 [61, 65]) 60 true,
 kG 67 (.bin .eql 66 (ci 3)) 60 true,
 kG 68 (.pick 60 67 (.c (.bool false))) 55 false,
 kO 69 (.pick 55 (.c (.bool true)) 68),
 kO 4 (.mv 69)] [])
 .ret)
def y18a : CCode :=
  (.region [
 kO 37 (.mv 5),
 kO 38 (.bin .add 37 (ci 1)),
 kO 5 (.mv 38)])
def yzx : CCode :=
  (.seq (.block 1 (.seq (.draw [
 kO 39 (.ld true 5 2),
 kO 40 (.fa 8 3),
 kO 41 (.ld false 1 40),
 kO 42 (.mv 5),
 kO 43 (.ixs 1 41 42),
 kO 44 (.ld false 1 43),
 kO 45 (.call none true 48 [39, 44]),
 kO 46 (.bin .eql 45 (ci 0))] [])
 (.cond 46
 (.seq (.region [
  kO 4 (.mv (.c (.bool false)))])
  .ret)
 .skip)))
 y18a)
def y199 : CCode :=
  (.seq (.seq (.region [
 kO 32 (.mv 5),
 kO 33 (.fa 8 3),
 kO 34 (.ld false 1 33),
 kO 35 (.len 1 34),
 kO 36 (.bin .lss 32 35)])
 (.cond 36
 .skip
 (.exit 0)))
 yzx)
def ykc : CCode :=
  (.loop [2, 3, 5] y199)
def y15r : CCode :=
  (.block 0 ykc)
def yyw : CCode :=
  (.seq (.region [
 kO 5 (.mv (ci 0))])
 y15r)
def y172 : CCode :=
  (.seq yyw
 y15d)
def y193 : CCode :=
  (.seq (.seq (.region [
 kO 6 (.fa 5 3),
 kO 7 (.ld false 1 6),
 kO 8 (.bin .lss 7 (ci 0)),
 kO 9 (.mv 8),
 kG 10 (.fa 0 3) 9 true,
 kG 11 (.ld false 1 10) 9 true,
 kG 12 (.bin .neq 11 (ci 25)) 9 true,
 kO 13 (.pick 9 12 (.c (.bool false))),
 kO 14 (.mv 13),
 kG 15 (.fa 8 3) 14 false,
 kG 16 (.ld false 1 15) 14 false,
 kG 17 (.len 1 16) 14 false,
 kG 18 (.bin .gtr 17 (ci 21)) 14 false,
 kO 19 (.pick 14 (.c (.bool true)) 18),
 kO 20 (.mv 19),
 kG 21 (.fa 1 3) 20 false,
 kG 22 (.ld false 1 21) 20 false,
 kG 23 (.bin .neq 22 (ci (-1))) 20 false,
 kG 24 (.mv 23) 20 false,
 kG 25 (.ld true 5 2) 24 true,
 kG 26 (.fa 1 3) 24 true,
 kG 27 (.ld false 1 26) 24 true,
 kG 28 (.call none true 48 [25, 27]) 24 true,
 kG 29 (.bin .eql 28 (ci 0)) 24 true,
 kG 30 (.pick 24 29 (.c (.bool false))) 20 false,
 kO 31 (.pick 20 (.c (.bool true)) 30)])
 (.cond 31
 (.seq (.region [
  kO 4 (.mv (.c (.bool false)))])
  .ret)
 .skip))
 y172)
def yvv : CCode :=
  (.seq (.region [
 kO 2 (.box (some 0) 0),
 kO 3 (.box (some 1) 1),
 kO 4 (.mv (.c (.bool false)))])
 y193)
def y2b9 : CFunc :=
  ⟨2, true, 2, yvv, [.t 4]⟩
def y1v5 : CCode :=
  (.seq (.region [
 kO 23 (.mv 0),
 kO 24 (.mv 1),
 kO 25 (.call none true 159 [23, 24]),
 kO 22 (.mv 25),
 kO 26 (.ext 0 22),
 kO 27 (.ext 1 22),
 kO 8 (.mv 26),
 kO 9 (.mv 27)])
 (.seq (.region [
 kO 28 (.mv 8),
 kO 29 (.mv 9),
 kO 4 (.mv 28),
 kO 5 (.mv 29)])
 .ret))
def y1tl : CCode :=
  (.seq (.cond (.c (.bool false))
 (.seq (.region [
  kO 11 (.mv 0),
  kO 12 (.cvi .u32 11),
  kO 13 (.mv 1),
  kO 14 (.cvi .u32 13),
  kO 15 (.call none true 158 [12, 14]),
  kO 10 (.mv 15),
  kO 16 (.ext 0 10),
  kO 17 (.ext 1 10),
  kO 6 (.mv 16),
  kO 7 (.mv 17)])
  (.seq (.region [
  kO 18 (.mv 6),
  kO 19 (.cvi .u64 18),
  kO 20 (.mv 7),
  kO 21 (.cvi .u64 20),
  kO 4 (.mv 19),
  kO 5 (.mv 21)])
  .ret))
 .skip)
 y1v5)
def y1i3 : CCode :=
  (.seq (.region [
 kO 4 (.mv (.c (.int .u64 0))),
 kO 5 (.mv (.c (.int .u64 0)))])
 y1tl)
def y2qg : CFunc :=
  ⟨2, true, 0, y1i3, [.t 4, .t 5]⟩
def y13t : CCode :=
  (.seq (.region [
 kO 5 (.buildS (some 0) 1 0 [(.int .i64 0)] []),
 kO 6 (.mv 0),
 kO 7 (.app (some 1) 1 8 5 6),
 kO 2 (.mv 7)])
 .ret)
def y14b : CCode :=
  (.seq (.seq (.region [
 kO 3 (.mv 0),
 kO 4 (.eqn 1 false 3 (.c .nils))])
 (.cond 4
 (.seq (.region [
  kO 2 (.mv (.c .nils))])
  .ret)
 .skip))
 y13t)
def y11d : CCode :=
  (.seq (.region [
 kO 2 (.mv (.c .nils))])
 y14b)
def y2bl : CFunc :=
  ⟨1, true, 2, y11d, [.t 2]⟩
def y2d3 : CCode :=
  (.region [
 kO 22 (.bin .add 10 (ci 1)),
 kO 10 (.mv 22)])
def y2bz : CCode :=
  (.seq (.block 1 (.seq (.region [
 kO 12 (.mv 10),
 kO 4 (.mv 12)])
 (.seq (.region [
 kO 13 (.mv 0),
 kO 14 (.mv 4),
 kO 15 (.ixs 1 13 14),
 kO 16 (.ld false 1 15),
 kO 17 (.mv 1),
 kO 18 (.bin .eql 16 17)])
 (.cond 18
 (.region [
  kO 19 (.mv 0),
  kO 20 (.mv 4),
  kO 21 (.ixs 1 19 20),
  kU (.st 1 21 (ci (-1)))])
 .skip))))
 y2d3)
def y2bi : CCode :=
  (.seq (.cond 11
 .skip
 (.exit 0))
 y2bz)
def y2c5 : CCode :=
  (.seq (.region [
 kO 11 (.bin .lss 10 9)])
 y2bi)
def yy1 : CCode :=
  (.loop [0, 1, 9, 10] y2c5)
def y2ar : CCode :=
  (.block 0 yy1)
def y2av : CCode :=
  (.seq (.region [
 kO 8 (.mv 0),
 kO 9 (.len 1 8),
 kO 10 (.mv (ci 0))])
 y2ar)
def y2bf : CCode :=
  (.seq (.region [
 kO 5 (.mv 0),
 kO 6 (.mv 1),
 kO 7 (.ixs 1 5 6),
 kU (.st 1 7 (ci (-1)))])
 y2av)
def c_q4 : CFunc :=
  ⟨2, false, 0, y2bf, []⟩
def y1mt : CCode :=
  (.seq (.region [
 kO 2 (.mv (ci 0)),
 kO 3 (.mv (ci 0)),
 kO 4 (.mv (ci 0))])
 .ret)
def y1g2 : CCode :=
  (.cond 33
 (.seq (.region [
  kO 2 (.mv (ci 1)),
  kO 3 (.mv (ci 0)),
  kO 4 (.mv (ci 1))])
  .ret)
 (.seq (.region [
  kO 39 (.bin .eql 5 (ci 117)),
  kO 38 (.mv 39)])
  (.cond 38
  (.seq (.region [
   kO 2 (.mv (ci 2)),
   kO 3 (.mv (ci 0)),
   kO 4 (.mv (ci 2))])
   .ret)
  (.seq (.region [
   kO 41 (.bin .eql 5 (ci 133)),
   kO 40 (.mv 41)])
   (.cond 40
   (.seq (.region [
    kO 2 (.mv (ci 1)),
    kO 3 (.mv (ci 0)),
    kO 4 (.mv (ci 2))])
    .ret)
   (.seq (.region [
    kO 43 (.bin .eql 5 (ci 136)),
    kO 42 (.mv 43)])
    (.cond 42
    (.seq (.region [
     kO 2 (.mv (ci 2)),
     kO 3 (.mv (ci 0)),
     kO 4 (.mv (ci 1))])
     .ret)
    .skip)))))))
def y1v3 : CCode :=
  (.seq (.seq (.region [
 kO 34 (.bin .eql 5 (ci 116)),
 kO 33 (.mv 34)])
 (.cond 33
 .skip
 (.seq (.region [
  kO 35 (.bin .eql 5 (ci 145)),
  kO 33 (.mv 35)])
  (.cond 33
  .skip
  (.seq (.region [
   kO 36 (.bin .eql 5 (ci 146)),
   kO 33 (.mv 36)])
   (.cond 33
   .skip
   (.region [
    kO 37 (.bin .eql 5 (ci 147)),
    kO 33 (.mv 37)])))))))
 y1g2)
def y1h6 : CCode :=
  (.cond 31
 (.seq (.region [
  kO 2 (.mv (ci 2)),
  kO 3 (.mv (ci 2)),
  kO 4 (.mv (ci 1))])
  .ret)
 y1v3)
def y1li : CCode :=
  (.seq (.region [
 kO 32 (.bin .eql 5 (ci 148)),
 kO 31 (.mv 32)])
 y1h6)
def y1oe : CCode :=
  (.cond 27
 (.seq (.region [
  kO 2 (.mv (ci 2)),
  kO 3 (.mv (ci 1)),
  kO 4 (.mv (ci 2))])
  .ret)
 y1li)
def y1f3 : CCode :=
  (.seq (.seq (.region [
 kO 28 (.bin .eql 5 (ci 121)),
 kO 27 (.mv 28)])
 (.cond 27
 .skip
 (.seq (.region [
  kO 29 (.bin .eql 5 (ci 123)),
  kO 27 (.mv 29)])
  (.cond 27
  .skip
  (.region [
   kO 30 (.bin .eql 5 (ci 125)),
   kO 27 (.mv 30)])))))
 y1oe)
def y1q5 : CCode :=
  (.cond 18
 (.seq (.region [
  kO 2 (.mv (ci 2)),
  kO 3 (.mv (ci 2)),
  kO 4 (.mv (ci 2))])
  .ret)
 y1f3)
def y1f5 : CCode :=
  (.seq (.seq (.region [
 kO 19 (.bin .eql 5 (ci 97)),
 kO 18 (.mv 19)])
 (.cond 18
 .skip
 (.seq (.region [
  kO 20 (.bin .eql 5 (ci 101)),
  kO 18 (.mv 20)])
  (.cond 18
  .skip
  (.seq (.region [
   kO 21 (.bin .eql 5 (ci 105)),
   kO 18 (.mv 21)])
   (.cond 18
   .skip
   (.seq (.region [
    kO 22 (.bin .eql 5 (ci 109)),
    kO 18 (.mv 22)])
    (.cond 18
    .skip
    (.seq (.region [
     kO 23 (.bin .eql 5 (ci 113)),
     kO 18 (.mv 23)])
     (.cond 18
     .skip
     (.seq (.region [
      kO 24 (.bin .eql 5 (ci 127)),
      kO 18 (.mv 24)])
      (.cond 18
      .skip
      (.seq (.region [
       kO 25 (.bin .eql 5 (ci 129)),
       kO 18 (.mv 25)])
       (.cond 18
       .skip
       (.region [
        kO 26 (.bin .eql 5 (ci 131)),
        kO 18 (.mv 26)])))))))))))))))
 y1q5)
def y16d : CCode :=
  (.cond 6
 (.seq (.region [
  kO 2 (.mv (ci 1)),
  kO 3 (.mv (ci 1)),
  kO 4 (.mv (ci 1))])
  .ret)
 y1f5)
def y12y : CCode :=
  (.seq (.seq (.region [
 kO 7 (.bin .eql 5 (ci 96)),
 kO 6 (.mv 7)])
 (.cond 6
 .skip
 (.seq (.region [
  kO 8 (.bin .eql 5 (ci 100)),
  kO 6 (.mv 8)])
  (.cond 6
  .skip
  (.seq (.region [
   kO 9 (.bin .eql 5 (ci 104)),
   kO 6 (.mv 9)])
   (.cond 6
   .skip
   (.seq (.region [
    kO 10 (.bin .eql 5 (ci 108)),
    kO 6 (.mv 10)])
    (.cond 6
    .skip
    (.seq (.region [
     kO 11 (.bin .eql 5 (ci 112)),
     kO 6 (.mv 11)])
     (.cond 6
     .skip
     (.seq (.region [
      kO 12 (.bin .eql 5 (ci 120)),
      kO 6 (.mv 12)])
      (.cond 6
      .skip
      (.seq (.region [
       kO 13 (.bin .eql 5 (ci 122)),
       kO 6 (.mv 13)])
       (.cond 6
       .skip
       (.seq (.region [
        kO 14 (.bin .eql 5 (ci 124)),
        kO 6 (.mv 14)])
        (.cond 6
        .skip
        (.seq (.region [
         kO 15 (.bin .eql 5 (ci 126)),
         kO 6 (.mv 15)])
         (.cond 6
         .skip
         (.seq (.region [
          kO 16 (.bin .eql 5 (ci 128)),
          kO 6 (.mv 16)])
          (.cond 6
          .skip
          (.region [
           kO 17 (.bin .eql 5 (ci 130)),
           kO 6 (.mv 17)])))))))))))))))))))))
 y16d)
def y113 : CCode :=
  (.block 0 y12y)
def y15s : CCode :=
  (.seq (.region [
 kO 5 (.mv 0)])
 y113)
def y18p : CCode :=
  (.seq y15s
 y1mt)
def y11u : CCode :=
  (.seq (.region [
 kO 2 (.mv (ci 0)),
 kO 3 (.mv (ci 0)),
 kO 4 (.mv (ci 0))])
 y18p)
def y2r3 : CFunc :=
  ⟨1, true, 0, y11u, [.t 2, .t 3, .t 4]⟩
def y2bn : CCode :=
  (.seq (.region [
 kO 2 (.mv (.c (.bool false)))])
 (.seq (.region [
 kO 3 (.mv 0),
 kO 4 (.bin .neq 3 (.c (.str []))),
 kO 5 (.mv 4),
 kG 6 (.mv 0) 5 true,
 kG 7 (.call none true 44 [6]) 5 true,
 kG 8 (.mv 0) 5 true,
 kG 9 (.len 0 8) 5 true,
 kG 10 (.bin .eql 7 9) 5 true,
 kO 11 (.pick 5 10 (.c (.bool false))),
 kO 2 (.mv 11)])
 .ret))
def c_q8 : CFunc :=
  ⟨1, true, 0, y2bn, [.t 2]⟩
def y1zu : CCode :=
  (.seq (.region [
 kO 73 (.build [(.int .i64 0), (.int .i64 0), (.int .i64 0), (.int .i64 0)] []),
 kU (.st 4 2 73),
 kO 3 (.mv (.c (.bool false)))])
 .ret)
def y208 : CCode :=
  (.seq (.draw [
 kO 15 (.mv 4),
 kO 16 (.build [(.int .i64 0), (.int .i64 0), (.int .i64 0), (.int .i64 0)] [(0, 1, (ci (-1))), (1, 1, (ci 3)), (2, 1, 15), (3, 1, (ci (-1)))]),
 kO 17 (.fa 5 1),
 kO 18 (.ld false 1 17),
 kO 19 (.bin .eql 18 (ci 0)),
 kO 20 (.mv 19),
 kG 21 (.fa 5 1) 20 false,
 kG 22 (.ld false 1 21) 20 false,
 kG 23 (.bin .eql 22 (ci 1)) 20 false,
 kO 24 (.pick 20 (.c (.bool true)) 23),
 kU (.st 4 2 16),
 kO 3 (.mv 24)] [(7, 10)])
 .ret)
def y1rx : CCode :=
  (.seq (.seq (.region [
 kO 12 (.fa 3 1),
 kO 13 (.ld false 1 12),
 kO 14 (.bin .neq 13 (ci (-1)))])
 (.cond 14
 (.region [
  kO 4 (.mv (ci 3))])
 .skip))
 y208)
def y1lx : CCode :=
  (.seq (.region [
 kO 4 (.mv (ci (-1)))])
 y1rx)
def y1ps : CCode :=
  (.seq (.region [
 kO 30 (.mv 5),
 kO 31 (.build [(.int .i64 0), (.int .i64 0), (.int .i64 0), (.int .i64 0)] [(0, 1, (ci (-1))), (1, 1, 30), (2, 1, (ci (-1))), (3, 1, (ci (-1)))]),
 kU (.st 4 2 31),
 kO 3 (.mv (.c (.bool true)))])
 .ret)
def y1s7 : CCode :=
  (.seq (.seq (.region [
 kO 27 (.fa 2 1),
 kO 28 (.ld false 1 27),
 kO 29 (.bin .neq 28 (ci (-1)))])
 (.cond 29
 (.region [
  kO 5 (.mv (ci 0))])
 .skip))
 y1ps)
def y1zt : CCode :=
  (.seq (.region [
 kO 5 (.mv (ci (-1)))])
 y1s7)
def y204 : CCode :=
  (.seq (.region [
 kO 40 (.fa 0 1),
 kO 41 (.ld false 1 40),
 kO 42 (.bin .eql 41 (ci 23)),
 kO 43 (.mv 42),
 kG 44 (.fa 0 1) 43 false,
 kG 45 (.ld false 1 44) 43 false,
 kG 46 (.bin .eql 45 (ci 26)) 43 false,
 kO 47 (.pick 43 (.c (.bool true)) 46),
 kO 48 (.mv 47),
 kG 49 (.fa 8 1) 48 false,
 kG 50 (.ld false 1 49) 48 false,
 kG 51 (.len 1 50) 48 false,
 kG 52 (.bin .gtr 51 (ci 0)) 48 false,
 kO 53 (.pick 48 (.c (.bool true)) 52),
 kO 7 (.mv 53)])
 (.seq (.draw [
 kO 54 (.mv 6),
 kO 55 (.build [(.int .i64 0), (.int .i64 0), (.int .i64 0), (.int .i64 0)] [(0, 1, 54), (1, 1, (ci (-1))), (2, 1, (ci (-1))), (3, 1, (ci (-1)))]),
 kO 56 (.mv 7),
 kO 57 (.mv 56),
 kG 58 (.fa 5 1) 57 true,
 kG 59 (.ld false 1 58) 57 true,
 kG 60 (.bin .geq 59 (ci 0)) 57 true,
 kG 61 (.mv 60) 57 true,
 kG 62 (.fa 0 1) 61 false,
 kG 63 (.ld false 1 62) 61 false,
 kG 64 (.bin .eql 63 (ci 25)) 61 false,
 kG 65 (.pick 61 (.c (.bool true)) 64) 57 true,
 kO 66 (.pick 57 65 (.c (.bool false))),
 kO 67 (.mv 66),
 kG 68 (.fa 8 1) 67 true,
 kG 69 (.ld false 1 68) 67 true,
 kG 70 (.len 1 69) 67 true,
 kG 71 (.bin .leq 70 (ci 21)) 67 true,
 kO 72 (.pick 67 71 (.c (.bool false))),
 kU (.st 4 2 55),
 kO 3 (.mv 72)] [(15, 19), (16, 19)])
 .ret))
def y1vk : CCode :=
  (.seq (.seq (.region [
 kO 37 (.fa 1 1),
 kO 38 (.ld false 1 37),
 kO 39 (.bin .neq 38 (ci (-1)))])
 (.cond 39
 (.region [
  kO 6 (.mv (ci 0))])
 .skip))
 y204)
def y18c : CCode :=
  (.seq (.region [
 kO 6 (.mv (ci (-1)))])
 y1vk)
def y14w : CCode :=
  (.cond 32
 y18c
 .skip)
def y15n : CCode :=
  (.seq (.seq (.region [
 kO 33 (.bin .eql 9 (ci 23)),
 kO 32 (.mv 33)])
 (.cond 32
 .skip
 (.seq (.region [
  kO 34 (.bin .eql 9 (ci 24)),
  kO 32 (.mv 34)])
  (.cond 32
  .skip
  (.seq (.region [
   kO 35 (.bin .eql 9 (ci 25)),
   kO 32 (.mv 35)])
   (.cond 32
   .skip
   (.region [
    kO 36 (.bin .eql 9 (ci 26)),
    kO 32 (.mv 36)])))))))
 y14w)
def y14z : CCode :=
  (.cond 25
 y1zt
 y15n)
def y1ab : CCode :=
  (.seq (.region [
 kO 26 (.bin .eql 9 (ci 30)),
 kO 25 (.mv 26)])
 y14z)
def y175 : CCode :=
  (.cond 10
 y1lx
 y1ab)
def y18y : CCode :=
  (.seq (.region [
 kO 11 (.bin .eql 9 (ci 29)),
 kO 10 (.mv 11)])
 y175)
def y143 : CCode :=
  (.block 0 y18y)
def y16y : CCode :=
  (.seq (.region [
 kO 8 (.fa 0 1),
 kO 9 (.ld false 1 8)])
 y143)
def y139 : CCode :=
  (.seq y16y
 y1zu)
def yyu : CCode :=
  (.seq (.region [
 kO 1 (.box (some 0) 0),
 kO 2 (.new (some 1) [(.int .i64 0), (.int .i64 0), (.int .i64 0), (.int .i64 0)]),
 kO 3 (.mv (.c (.bool false)))])
 y139)
def y2r0 : CFunc :=
  ⟨1, true, 2, yyu, [.cell 2 true 4, .t 3]⟩
def y17y : CCode :=
  (.seq (.region [
 kO 24 (.mv 0),
 kO 25 (.bin .neq 24 (.c (.str []))),
 kO 26 (.mv 25),
 kG 27 (.mv 0) 26 true,
 kG 28 (.len 0 27) 26 true,
 kG 29 (.bin .leq 28 (ci 60)) 26 true,
 kO 30 (.pick 26 29 (.c (.bool false))),
 kO 4 (.mv 30)])
 .ret)
def y14q : CCode :=
  (.region [
 kO 14 (.mv 6),
 kO 15 (.bin .add 14 (ci 1)),
 kO 6 (.mv 15)])
def y19s : CCode :=
  (.seq (.block 1 (.seq (.region [
 kO 16 (.mv 5),
 kO 17 (.mv 0),
 kO 18 (.mv 6),
 kO 19 (.mv 6),
 kO 20 (.bin .add 19 (ci 1)),
 kO 21 (.sls 17 (some 18) (some 20)),
 kO 22 (.call none true 53 [16, 21]),
 kO 23 (.un .not 22)])
 (.cond 23
 (.seq (.region [
  kO 4 (.mv (.c (.bool false)))])
  .ret)
 .skip)))
 y14q)
def y136 : CCode :=
  (.seq (.seq (.region [
 kO 10 (.mv 6),
 kO 11 (.mv 0),
 kO 12 (.len 0 11),
 kO 13 (.bin .lss 10 12)])
 (.cond 13
 .skip
 (.exit 0)))
 y19s)
def yjs : CCode :=
  (.loop [0, 5, 6] y136)
def y1af : CCode :=
  (.block 0 yjs)
def y12j : CCode :=
  (.seq (.region [
 kO 6 (.mv (ci 0))])
 y1af)
def y120 : CCode :=
  (.seq y12j
 y17y)
def y19g : CCode :=
  (.seq (.seq (.region [
 kO 7 (.mv 1)])
 (.cond 7
 (.region [
  kO 8 (.mv 5),
  kO 9 (.bin .add 8 (.c (.str [60, 62]))),
  kO 5 (.mv 9)])
 .skip))
 y120)
def yr1 : CCode :=
  (.seq (.region [
 kO 5 (.mv (.c (.str [97, 98, 99, 100, 101, 102, 103, 104, 105, 106, 107, 108, 109, 110, 111, 112, 113, 114, 115, 116, 117, 118, 119, 120, 121, 122, 65, 66, 67, 68, 69, 70, 71, 72, 73, 74, 75, 76, 77, 78, 79, 80, 81, 82, 83, 84, 85, 86, 87, 88, 89, 90, 48, 49, 50, 51, 52, 53, 54, 55, 56, 57, 95, 36, 47])))])
 y19g)
def ysr : CCode :=
  (.seq (.region [
 kO 4 (.mv (.c (.bool false)))])
 yr1)
def y2bm : CFunc :=
  ⟨2, true, 0, ysr, [.t 4]⟩
def y2wl : CFunc :=
  ⟨2, true, 0, (.seq (.region [
    kO 4 (.mv (.c (.int .u32 0))),
    kO 5 (.mv (.c (.int .u32 0)))])
  (.seq (.region [
    kO 7 (.mv 0),
    kO 8 (.cvi .u64 7),
    kO 9 (.mv 1),
    kO 10 (.cvi .u64 9),
    kO 11 (.bin .mul 8 10),
    kO 6 (.mv 11)])
  (.seq (.region [
    kO 12 (.mv 6),
    kO 13 (.bin .shr 12 (.c (.int .u64 32))),
    kO 14 (.cvi .u32 13),
    kO 15 (.mv 6),
    kO 16 (.cvi .u32 15),
    kO 4 (.mv 14),
    kO 5 (.mv 16)])
  .ret))), [.t 4, .t 5]⟩
def y1sf : CCode :=
  (.seq (.region [
 kO 4 (.mv (.c (.int .u64 0))),
 kO 5 (.mv (.c (.int .u64 0)))])
 (.seq (.region [
 kO 14 (.mv 0),
 kO 15 (.bin .and 14 (.c (.int .u64 4294967295))),
 kO 6 (.mv 15)])
 (.seq (.region [
 kO 16 (.mv 0),
 kO 17 (.bin .shr 16 (.c (.int .u64 32))),
 kO 7 (.mv 17)])
 (.seq (.region [
 kO 18 (.mv 1),
 kO 19 (.bin .and 18 (.c (.int .u64 4294967295))),
 kO 8 (.mv 19)])
 (.seq (.region [
 kO 20 (.mv 1),
 kO 21 (.bin .shr 20 (.c (.int .u64 32))),
 kO 9 (.mv 21)])
 (.seq (.region [
 kO 22 (.mv 6),
 kO 23 (.mv 8),
 kO 24 (.bin .mul 22 23),
 kO 10 (.mv 24)])
 (.seq (.region [
 kO 25 (.mv 7),
 kO 26 (.mv 8),
 kO 27 (.bin .mul 25 26),
 kO 28 (.mv 10),
 kO 29 (.bin .shr 28 (.c (.int .u64 32))),
 kO 30 (.bin .add 27 29),
 kO 11 (.mv 30)])
 (.seq (.region [
 kO 31 (.mv 11),
 kO 32 (.bin .and 31 (.c (.int .u64 4294967295))),
 kO 12 (.mv 32)])
 (.seq (.region [
 kO 33 (.mv 11),
 kO 34 (.bin .shr 33 (.c (.int .u64 32))),
 kO 13 (.mv 34)])
 (.seq (.region [
 kO 35 (.mv 12),
 kO 36 (.mv 6),
 kO 37 (.mv 9),
 kO 38 (.bin .mul 36 37),
 kO 39 (.bin .add 35 38),
 kO 12 (.mv 39)])
 (.seq (.region [
 kO 40 (.mv 7),
 kO 41 (.mv 9),
 kO 42 (.bin .mul 40 41),
 kO 43 (.mv 13),
 kO 44 (.bin .add 42 43),
 kO 45 (.mv 12),
 kO 46 (.bin .shr 45 (.c (.int .u64 32))),
 kO 47 (.bin .add 44 46),
 kO 4 (.mv 47)])
 (.seq (.region [
 kO 48 (.mv 0),
 kO 49 (.mv 1),
 kO 50 (.bin .mul 48 49),
 kO 5 (.mv 50)])
 .ret))))))))))))
def y2rs : CFunc :=
  ⟨2, true, 0, y1sf, [.t 4, .t 5]⟩
def y2c3 : CCode :=
  (.seq (.region [
 kO 2 (.mv (ci 0))])
 .ret)
def y2ad : CCode :=
  (.region [
 kO 41 (.mv 4),
 kO 42 (.bin .add 41 (ci 1)),
 kO 4 (.mv 42)])
def y2cr : CCode :=
  (.seq (.region [
 kO 2 (.mv (ci 0))])
 .ret)
def y2ax : CCode :=
  (.seq (.seq (.region [
 kO 47 (.mv 0),
 kO 48 (.mv 3),
 kO 49 (.bin .add 48 (ci 1)),
 kO 50 (.mv 4),
 kO 51 (.sls 47 (some 49) (some 50)),
 kO 52 (.call none true 60 [51, (.c (.bool false))])])
 (.cond 52
 (.seq (.region [
  kO 53 (.mv 4),
  kO 54 (.bin .add 53 (ci 1)),
  kO 2 (.mv 54)])
  .ret)
 .skip))
 y2cr)
def y2ae : CCode :=
  (.cond 46
 y2ax
 .skip)
def y2bc : CCode :=
  (.seq (.region [
 kO 43 (.mv 0),
 kO 44 (.mv 4),
 kO 45 (.ixstr 43 44),
 kO 46 (.bin .eql 45 (.c (.int .u8 59)))])
 y2ae)
def y2d9 : CCode :=
  (.block 4 y2bc)
def y2as : CCode :=
  (.seq y2d9
 y2ad)
def y1gx : CCode :=
  (.seq (.seq (.region [
 kO 37 (.mv 4),
 kO 38 (.mv 0),
 kO 39 (.len 0 38),
 kO 40 (.bin .lss 37 39)])
 (.cond 40
 .skip
 (.exit 3)))
 y2as)
def yye : CCode :=
  (.loop [0, 3, 4] y1gx)
def y1zo : CCode :=
  (.block 3 yye)
def y1qs : CCode :=
  (.seq (.region [
 kO 35 (.mv 3),
 kO 36 (.bin .add 35 (ci 1)),
 kO 4 (.mv 36)])
 y1zo)
def y1fp : CCode :=
  (.cond 33
 y1qs
 .skip)
def y1yf : CCode :=
  (.seq (.region [
 kO 34 (.bin .eql 27 (.c (.int .u8 76))),
 kO 33 (.mv 34)])
 y1fp)
def y1rt : CCode :=
  (.cond 28
 (.seq (.region [
  kO 31 (.mv 3),
  kO 32 (.bin .add 31 (ci 1)),
  kO 2 (.mv 32)])
  .ret)
 y1yf)
def y1ey : CCode :=
  (.seq (.seq (.region [
 kO 29 (.bin .eql 27 (.c (.int .u8 73))),
 kO 28 (.mv 29)])
 (.cond 28
 .skip
 (.region [
  kO 30 (.bin .eql 27 (.c (.int .u8 74))),
  kO 28 (.mv 30)])))
 y1rt)
def y1r7 : CCode :=
  (.block 2 y1ey)
def y1ly : CCode :=
  (.seq (.region [
 kO 25 (.mv 0),
 kO 26 (.mv 3),
 kO 27 (.ixstr 25 26)])
 y1r7)
def y1vt : CCode :=
  (.seq y1ly
 y2c3)
def y1ga : CCode :=
  (.seq (.seq (.region [
 kO 17 (.mv 3),
 kO 18 (.bin .gtr 17 (ci 8)),
 kO 19 (.mv 18),
 kG 20 (.mv 3) 19 false,
 kG 21 (.mv 0) 19 false,
 kG 22 (.len 0 21) 19 false,
 kG 23 (.bin .eql 20 22) 19 false,
 kO 24 (.pick 19 (.c (.bool true)) 23)])
 (.cond 24
 (.seq (.region [
  kO 2 (.mv (ci 0))])
  .ret)
 .skip))
 y1vt)
def y1q4 : CCode :=
  (.block 1 (.region [
 kO 15 (.mv 3),
 kO 16 (.bin .add 15 (ci 1)),
 kO 3 (.mv 16)]))
def y1my : CCode :=
  (.seq (.seq (.region [
 kO 5 (.mv 3),
 kO 6 (.mv 0),
 kO 7 (.len 0 6),
 kO 8 (.bin .lss 5 7),
 kO 9 (.mv 8),
 kG 10 (.mv 0) 9 true,
 kG 11 (.mv 3) 9 true,
 kG 12 (.ixstr 10 11) 9 true,
 kG 13 (.bin .eql 12 (.c (.int .u8 91))) 9 true,
 kO 14 (.pick 9 13 (.c (.bool false)))])
 (.cond 14
 .skip
 (.exit 0)))
 y1q4)
def ypk : CCode :=
  (.loop [0, 3] y1my)
def y1t4 : CCode :=
  (.block 0 ypk)
def y1v8 : CCode :=
  (.seq y1t4
 y1ga)
def y1q9 : CCode :=
  (.seq (.region [
 kO 3 (.mv (ci 0))])
 y1v8)
def y1oj : CCode :=
  (.seq (.region [
 kO 2 (.mv (ci 0))])
 y1q9)
def c_q9 : CFunc :=
  ⟨1, true, 0, y1oj, [.t 2]⟩
def y2cd : CCode :=
  (.seq (.region [
 kO 4 (.mv (.c (.bool true)))])
 .ret)
def y2d1 : CCode :=
  (.region [
 kO 71 (.bin .add 19 (ci 1)),
 kO 19 (.mv 71)])
def y2d0 : CCode :=
  (.seq (.block 1 (.seq (.region [
 kO 21 (.ixs 1 17 19),
 kO 22 (.ld false 1 21),
 kO 6 (.mv 22)])
 (.seq (.region [
 kO 23 (.mv 6),
 kO 24 (.bin .geq 23 (.c (.int .u8 97))),
 kO 25 (.mv 24),
 kG 26 (.mv 6) 25 true,
 kG 27 (.bin .leq 26 (.c (.int .u8 122))) 25 true,
 kO 28 (.pick 25 27 (.c (.bool false))),
 kO 29 (.mv 28),
 kG 30 (.mv 6) 29 false,
 kG 31 (.bin .geq 30 (.c (.int .u8 65))) 29 false,
 kG 32 (.mv 31) 29 false,
 kG 33 (.mv 6) 32 true,
 kG 34 (.bin .leq 33 (.c (.int .u8 90))) 32 true,
 kG 35 (.pick 32 34 (.c (.bool false))) 29 false,
 kO 36 (.pick 29 (.c (.bool true)) 35),
 kO 37 (.mv 36),
 kG 38 (.mv 6) 37 false,
 kG 39 (.bin .geq 38 (.c (.int .u8 48))) 37 false,
 kG 40 (.mv 39) 37 false,
 kG 41 (.mv 6) 40 true,
 kG 42 (.bin .leq 41 (.c (.int .u8 57))) 40 true,
 kG 43 (.pick 40 42 (.c (.bool false))) 37 false,
 kO 44 (.pick 37 (.c (.bool true)) 43),
 kO 45 (.mv 44),
 kG 46 (.mv 6) 45 false,
 kG 47 (.bin .eql 46 (.c (.int .u8 95))) 45 false,
 kO 48 (.pick 45 (.c (.bool true)) 47),
 kO 49 (.mv 48),
 kG 50 (.mv 6) 49 false,
 kG 51 (.bin .eql 50 (.c (.int .u8 36))) 49 false,
 kO 52 (.pick 49 (.c (.bool true)) 51),
 kO 53 (.mv 52),
 kG 54 (.mv 6) 53 false,
 kG 55 (.bin .eql 54 (.c (.int .u8 47))) 53 false,
 kO 56 (.pick 53 (.c (.bool true)) 55),
 kO 7 (.mv 56)])
 (.seq (.region [
 kO 57 (.mv 7),
 kO 58 (.un .not 57),
 kO 59 (.mv 58),
 kG 60 (.mv 1) 59 true,
 kG 61 (.mv 60) 59 true,
 kG 62 (.mv 6) 61 true,
 kG 63 (.bin .eql 62 (.c (.int .u8 60))) 61 true,
 kG 64 (.mv 63) 61 true,
 kG 65 (.mv 6) 64 false,
 kG 66 (.bin .eql 65 (.c (.int .u8 62))) 64 false,
 kG 67 (.pick 64 (.c (.bool true)) 66) 61 true,
 kG 68 (.pick 61 67 (.c (.bool false))) 59 true,
 kG 69 (.un .not 68) 59 true,
 kO 70 (.pick 59 69 (.c (.bool false)))])
 (.cond 70
 (.seq (.region [
  kO 4 (.mv (.c (.bool false)))])
  .ret)
 .skip)))))
 y2d1)
def y2b2 : CCode :=
  (.seq (.cond 20
 .skip
 (.exit 0))
 y2d0)
def y2co : CCode :=
  (.seq (.region [
 kO 20 (.bin .lss 19 18)])
 y2b2)
def ywa : CCode :=
  (.loop [1, 17, 18, 19] y2co)
def y2d2 : CCode :=
  (.block 0 ywa)
def y2ce : CCode :=
  (.seq (.region [
 kO 16 (.mv 0),
 kO 17 (.s2b (some 0) 16),
 kO 18 (.len 1 17),
 kO 19 (.mv (ci 0))])
 y2d2)
def y2ah : CCode :=
  (.seq y2ce
 y2cd)
def y1un : CCode :=
  (.seq (.seq (.region [
 kO 8 (.mv 0),
 kO 9 (.len 0 8),
 kO 10 (.bin .lss 9 (ci 1)),
 kO 11 (.mv 10),
 kG 12 (.mv 0) 11 false,
 kG 13 (.len 0 12) 11 false,
 kG 14 (.bin .gtr 13 (ci 60)) 11 false,
 kO 15 (.pick 11 (.c (.bool true)) 14)])
 (.cond 15
 (.seq (.region [
  kO 4 (.mv (.c (.bool false)))])
  .ret)
 .skip))
 y2ah)
def y1ii : CCode :=
  (.seq (.region [
 kO 4 (.mv (.c (.bool false)))])
 y1un)
def c_q7 : CFunc :=
  ⟨2, true, 1, y1ii, [.t 4]⟩
def tbl : List (Option Nat) := [none, none, none, none, none, none, none, none, none, none, none, none, none, none, some 147, none, some 13, some 14, some 8, none, none, none, none, none, none, none, none, none, none, none, none, none, some 29, some 77, some 148, some 149, some 10, some 9, some 39, some 40, some 41, some 11, some 28, some 24, some 46, some 63, some 22, none, none, none, none, none, none, none, some 79, none, some 81, none, none, none, some 102, none, none, none, none, none, none, none, some 25, some 48, some 42, some 64, some 23, some 49, some 78, some 80, some 150, some 151, some 155, some 156, some 152, some 27, some 17, some 45, some 47, none, none, none, none, none, some 18, none, none, none, none, none, none, none, none, none, none, none, none, none, none, some 38, some 65, some 66, some 67, some 68, some 157, some 153, some 154, some 50, some 37, some 51, none, none, none, none, none, none, none, none, none, none, none, some 69, some 158, some 159, some 44, none, none, none, some 53, some 60]
def fnE : Nat → Option CFunc
  | 8 => some y2oi
  | 9 => some y2q6
  | 10 => some y2pz
  | 11 => some y2cg
  | 13 => some y2t0
  | 14 => some y2bd
  | 17 => some y2qu
  | 18 => some y2ps
  | 22 => some y2ug
  | 23 => some y2aj
  | 24 => some y2r4
  | 25 => some y2ck
  | 27 => some y2rn
  | 28 => some y2b6
  | 29 => some y2ch
  | 37 => some c_q8
  | 38 => some y2d5
  | 39 => some y2aw
  | 40 => some y1zp
  | 41 => some y2ap
  | 42 => some y2bs
  | 44 => some c_q9
  | 45 => some y2cu
  | 46 => some y2ak
  | 47 => some y2tm
  | 48 => some y2cn
  | 49 => some y2at
  | 50 => some y2r3
  | 51 => some y2r0
  | 60 => some c_q7
  | 63 => some y2q3
  | 64 => some y2af
  | 65 => some y2bg
  | 66 => some y2sd
  | 67 => some y2c6
  | 68 => some y2b9
  | 69 => some y2bm
  | 77 => some y2or
  | 78 => some y2bq
  | 79 => some y2po
  | 80 => some y2to
  | 81 => some y2o6
  | 102 => some y2qe
  | 147 => some y2tr
  | 148 => some y2xj
  | 149 => some c_q1
  | 150 => some y2an
  | 151 => some c_q2
  | 152 => some c_q3
  | 153 => some y2bl
  | 154 => some c_q4
  | 155 => some c_q5
  | 156 => some y2b3
  | 157 => some y2qg
  | 158 => some y2wl
  | 159 => some y2rs
  | _ => none
abbrev nm : Nat → Option Nat := nmOf tbl
def E : Env := envX fnE [80, 151, 154] xpC
abbrev T1 (c : CCode) (n : St → OX) (e : Nat → St → OX) (r : List CRes) (k : St → OX) : Prop := ∀ s, W E 0 c s n e (finP r) = k s
abbrev T0 (c : CCode) (r : List CRes) (k : St → OX) : Prop := T1 c (finP r) xN r k
theorem sq {a b : CCode} {n k k' : St → OX} {e : Nat → St → OX} {r : List CRes} (h : T1 b n e r k) (h' : T1 a k e r k') : T1 (.seq a b) n e r k' := fun s => (y8q h).trans (h' s)
theorem ok14 : FnOk Go.Proofs.Try.prog nm fnE 14 147 := .of Go.Proofs.Try.func14 (by kernel_rfl) (by kernel_rfl) rfl (by kernel_rfl)
theorem ok16 : FnOk Go.Proofs.Try.prog nm fnE 16 13 := .of Go.Proofs.Try.func16 (by kernel_rfl) (by kernel_rfl) rfl (by kernel_rfl)
theorem ok17 : FnOk Go.Proofs.Try.prog nm fnE 17 14 := .of Go.Proofs.Try.func17 (by kernel_rfl) (by kernel_rfl) rfl (by kernel_rfl)
theorem ok18 : FnOk Go.Proofs.Try.prog nm fnE 18 8 := .of Go.Proofs.Try.func18 (by kernel_rfl) (by kernel_rfl) rfl (by kernel_rfl)
theorem ok32 : FnOk Go.Proofs.Try.prog nm fnE 32 29 := .of Go.Proofs.Try.func32 (by kernel_rfl) (by kernel_rfl) rfl (by kernel_rfl)
theorem ok33 : FnOk Go.Proofs.Try.prog nm fnE 33 77 := .of Go.Proofs.Try.func33 (by kernel_rfl) (by kernel_rfl) rfl (by kernel_rfl)
theorem ok34 : FnOk Go.Proofs.Try.prog nm fnE 34 148 := .of Go.Proofs.Try.func34 (by kernel_rfl) (by kernel_rfl) rfl (by kernel_rfl)
theorem ok35 : FnOk Go.Proofs.Try.prog nm fnE 35 149 := .of Go.Proofs.Try.func35 (by kernel_rfl) (by kernel_rfl) rfl (by kernel_rfl)
theorem ok36 : FnOk Go.Proofs.Try.prog nm fnE 36 10 := .of Go.Proofs.Try.func36 (by kernel_rfl) (by kernel_rfl) rfl (by kernel_rfl)
theorem ok37 : FnOk Go.Proofs.Try.prog nm fnE 37 9 := .of Go.Proofs.Try.func37 (by kernel_rfl) (by kernel_rfl) rfl (by kernel_rfl)
theorem ok38 : FnOk Go.Proofs.Try.prog nm fnE 38 39 := .of Go.Proofs.Try.func38 (by kernel_rfl) (by kernel_rfl) rfl (by kernel_rfl)
theorem ok39 : FnOk Go.Proofs.Try.prog nm fnE 39 40 := .of Go.Proofs.Try.func39 (by kernel_rfl) (by kernel_rfl) rfl (by kernel_rfl)
theorem ok40 : FnOk Go.Proofs.Try.prog nm fnE 40 41 := .of Go.Proofs.Try.func40 (by kernel_rfl) (by kernel_rfl) rfl (by kernel_rfl)
theorem ok41 : FnOk Go.Proofs.Try.prog nm fnE 41 11 := .of Go.Proofs.Try.func41 (by kernel_rfl) (by kernel_rfl) rfl (by kernel_rfl)
theorem ok42 : FnOk Go.Proofs.Try.prog nm fnE 42 28 := .of Go.Proofs.Try.func42 (by kernel_rfl) (by kernel_rfl) rfl (by kernel_rfl)
theorem ok43 : FnOk Go.Proofs.Try.prog nm fnE 43 24 := .of Go.Proofs.Try.func43 (by kernel_rfl) (by kernel_rfl) rfl (by kernel_rfl)
theorem ok44 : FnOk Go.Proofs.Try.prog nm fnE 44 46 := .of Go.Proofs.Try.func44 (by kernel_rfl) (by kernel_rfl) rfl (by kernel_rfl)
theorem ok45 : FnOk Go.Proofs.Try.prog nm fnE 45 63 := .of Go.Proofs.Try.func45 (by kernel_rfl) (by kernel_rfl) rfl (by kernel_rfl)
theorem ok46 : FnOk Go.Proofs.Try.prog nm fnE 46 22 := .of Go.Proofs.Try.func46 (by kernel_rfl) (by kernel_rfl) rfl (by kernel_rfl)
theorem ok54 : FnOk Go.Proofs.Try.prog nm fnE 54 79 := .of Go.Proofs.Try.func54 (by kernel_rfl) (by kernel_rfl) rfl (by kernel_rfl)
theorem ok56 : FnOk Go.Proofs.Try.prog nm fnE 56 81 := .of Go.Proofs.Try.func56 (by kernel_rfl) (by kernel_rfl) rfl (by kernel_rfl)
theorem ok60 : FnOk Go.Proofs.Try.prog nm fnE 60 102 := .of Go.Proofs.Try.func60 (by kernel_rfl) (by kernel_rfl) rfl (by kernel_rfl)
theorem ok68 : FnOk Go.Proofs.Try.prog nm fnE 68 25 := .of Go.Proofs.Try.func68 (by kernel_rfl) (by kernel_rfl) rfl (by kernel_rfl)
theorem ok69 : FnOk Go.Proofs.Try.prog nm fnE 69 48 := .of Go.Proofs.Try.func69 (by kernel_rfl) (by kernel_rfl) rfl (by kernel_rfl)
theorem ok70 : FnOk Go.Proofs.Try.prog nm fnE 70 42 := .of Go.Proofs.Try.func70 (by kernel_rfl) (by kernel_rfl) rfl (by kernel_rfl)
theorem ok71 : FnOk Go.Proofs.Try.prog nm fnE 71 64 := .of Go.Proofs.Try.func71 (by kernel_rfl) (by kernel_rfl) rfl (by kernel_rfl)
theorem ok72 : FnOk Go.Proofs.Try.prog nm fnE 72 23 := .of Go.Proofs.Try.func72 (by kernel_rfl) (by kernel_rfl) rfl (by kernel_rfl)
theorem ok73 : FnOk Go.Proofs.Try.prog nm fnE 73 49 := .of Go.Proofs.Try.func73 (by kernel_rfl) (by kernel_rfl) rfl (by kernel_rfl)
theorem ok74 : FnOk Go.Proofs.Try.prog nm fnE 74 78 := .of Go.Proofs.Try.func74 (by kernel_rfl) (by kernel_rfl) rfl (by kernel_rfl)
theorem ok75 : FnOk Go.Proofs.Try.prog nm fnE 75 80 := .of Go.Proofs.Try.func75 (by kernel_rfl) (by kernel_rfl) rfl (by kernel_rfl)
theorem ok76 : FnOk Go.Proofs.Try.prog nm fnE 76 150 := .of Go.Proofs.Try.func76 (by kernel_rfl) (by kernel_rfl) rfl (by kernel_rfl)
theorem ok77 : FnOk Go.Proofs.Try.prog nm fnE 77 151 := .of Go.Proofs.Try.func77 (by kernel_rfl) (by kernel_rfl) rfl (by kernel_rfl)
theorem ok78 : FnOk Go.Proofs.Try.prog nm fnE 78 155 := .of Go.Proofs.Try.func78 (by kernel_rfl) (by kernel_rfl) rfl (by kernel_rfl)
theorem ok79 : FnOk Go.Proofs.Try.prog nm fnE 79 156 := .of Go.Proofs.Try.func79 (by kernel_rfl) (by kernel_rfl) rfl (by kernel_rfl)
theorem ok80 : FnOk Go.Proofs.Try.prog nm fnE 80 152 := .of Go.Proofs.Try.func80 (by kernel_rfl) (by kernel_rfl) rfl (by kernel_rfl)
theorem ok81 : FnOk Go.Proofs.Try.prog nm fnE 81 27 := .of Go.Proofs.Try.func81 (by kernel_rfl) (by kernel_rfl) rfl (by kernel_rfl)
theorem ok82 : FnOk Go.Proofs.Try.prog nm fnE 82 17 := .of Go.Proofs.Try.func82 (by kernel_rfl) (by kernel_rfl) rfl (by kernel_rfl)
theorem ok83 : FnOk Go.Proofs.Try.prog nm fnE 83 45 := .of Go.Proofs.Try.func83 (by kernel_rfl) (by kernel_rfl) rfl (by kernel_rfl)
theorem ok84 : FnOk Go.Proofs.Try.prog nm fnE 84 47 := .of Go.Proofs.Try.func84 (by kernel_rfl) (by kernel_rfl) rfl (by kernel_rfl)
theorem ok90 : FnOk Go.Proofs.Try.prog nm fnE 90 18 := .of Go.Proofs.Try.func90 (by kernel_rfl) (by kernel_rfl) rfl (by kernel_rfl)
theorem y2xi : FnOk Go.Proofs.Try.prog nm fnE 105 38 := .of Go.Proofs.Try.func105 (by kernel_rfl) (by kernel_rfl) rfl (by kernel_rfl)
theorem y2y1 : FnOk Go.Proofs.Try.prog nm fnE 106 65 := .of Go.Proofs.Try.func106 (by kernel_rfl) (by kernel_rfl) rfl (by kernel_rfl)
theorem y2y5 : FnOk Go.Proofs.Try.prog nm fnE 107 66 := .of Go.Proofs.Try.func107 (by kernel_rfl) (by kernel_rfl) rfl (by kernel_rfl)
theorem y2vn : FnOk Go.Proofs.Try.prog nm fnE 108 67 := .of Go.Proofs.Try.func108 (by kernel_rfl) (by kernel_rfl) rfl (by kernel_rfl)
theorem y2w7 : FnOk Go.Proofs.Try.prog nm fnE 109 68 := .of Go.Proofs.Try.func109 (by kernel_rfl) (by kernel_rfl) rfl (by kernel_rfl)
theorem y2w3 : FnOk Go.Proofs.Try.prog nm fnE 110 157 := .of Go.Proofs.Try.func110 (by kernel_rfl) (by kernel_rfl) rfl (by kernel_rfl)
theorem y2z0 : FnOk Go.Proofs.Try.prog nm fnE 111 153 := .of Go.Proofs.Try.func111 (by kernel_rfl) (by kernel_rfl) rfl (by kernel_rfl)
theorem y2wd : FnOk Go.Proofs.Try.prog nm fnE 112 154 := .of Go.Proofs.Try.func112 (by kernel_rfl) (by kernel_rfl) rfl (by kernel_rfl)
theorem y2vr : FnOk Go.Proofs.Try.prog nm fnE 113 50 := .of Go.Proofs.Try.func113 (by kernel_rfl) (by kernel_rfl) rfl (by kernel_rfl)
theorem y2yw : FnOk Go.Proofs.Try.prog nm fnE 114 37 := .of Go.Proofs.Try.func114 (by kernel_rfl) (by kernel_rfl) rfl (by kernel_rfl)
theorem y2ya : FnOk Go.Proofs.Try.prog nm fnE 115 51 := .of Go.Proofs.Try.func115 (by kernel_rfl) (by kernel_rfl) rfl (by kernel_rfl)
theorem y2wb : FnOk Go.Proofs.Try.prog nm fnE 127 69 := .of Go.Proofs.Try.func127 (by kernel_rfl) (by kernel_rfl) rfl (by kernel_rfl)
theorem y2x9 : FnOk Go.Proofs.Try.prog nm fnE 128 158 := .of Go.Proofs.Try.func128 (by kernel_rfl) (by kernel_rfl) rfl (by kernel_rfl)
theorem y2yh : FnOk Go.Proofs.Try.prog nm fnE 129 159 := .of Go.Proofs.Try.func129 (by kernel_rfl) (by kernel_rfl) rfl (by kernel_rfl)
theorem y2xs : FnOk Go.Proofs.Try.prog nm fnE 130 44 := .of Go.Proofs.Try.func130 (by kernel_rfl) (by kernel_rfl) rfl (by kernel_rfl)
theorem y2xu : FnOk Go.Proofs.Try.prog nm fnE 134 53 := .ext Go.Proofs.Try.func134 (by kernel_rfl) (by kernel_rfl) rfl
theorem y2wg : FnOk Go.Proofs.Try.prog nm fnE 135 60 := .of Go.Proofs.Try.func135 (by kernel_rfl) (by kernel_rfl) rfl (by kernel_rfl)
theorem y2zf : AllF Go.Proofs.Try.prog nm fnE 0 tbl :=
  ⟨ok14, ok16, ok17, ok18, ok32, ok33, ok34, ok35, ok36, ok37, ok38, ok39, ok40, ok41, ok42, ok43, ok44, ok45, ok46, ok54, ok56, ok60, ok68, ok69, ok70, ok71, ok72, ok73, ok74, ok75, ok76, ok77, ok78, ok79, ok80, ok81, ok82, ok83, ok84, ok90, y2xi, y2y1, y2y5, y2vn, y2w7, y2w3, y2z0, y2wd, y2vr, y2yw, y2ya, y2wb, y2x9, y2yh, y2xs, y2xu, y2wg, trivial⟩
theorem y2xa : EnvOk Go.Proofs.Try.prog nm E := y2h8 (by kernel_rfl) y2zf (.contains (f := 134) (y2en (by kernel_rfl)) Go.Proofs.Try.strings_Contains_one)
end Go.Vm
