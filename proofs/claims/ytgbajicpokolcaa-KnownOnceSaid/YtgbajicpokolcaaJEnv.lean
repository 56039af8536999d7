/- The machine's form of functions, each checked against the translation, and the environment that they make. -/
import Derived.Test.YtgbajicpokolcaaVc
import Derived.Test.YtgbajicpokolcaaProg
import Derived.WalkSpells
import Derived.KernelRfl
set_option linter.unusedSimpArgs false
set_option linter.unusedVariables false
set_option linter.unusedSectionVars false
namespace Go.Vm
def y14o : CCode :=
  (.seq (.region [
 kO 59 (.fa 3 8),
 kO 60 (.ld false 1 59),
 kO 61 (.build [(.int .i64 0), (.int .i64 0), (.int .i64 0), (.int .i64 0), (.int .i64 0), (.int .i64 0), (.int .i64 0), (.str []), .nils] [(0, 1, (ci 30)), (2, 1, (ci (-1)))]),
 kO 62 (.buildS (some 10) 9 1 [(.int .i64 0), (.int .i64 0), (.int .i64 0), (.int .i64 0), (.int .i64 0), (.int .i64 0), (.int .i64 0), (.str []), .nils] [(0, 61)]),
 kO 63 (.app (some 11) 9 96 60 62),
 kO 64 (.fa 3 8),
 kU (.st 1 64 63)])
 (.seq (.region [
 kO 65 (.ld true 5 8),
 kO 66 (.call none true 166 [65]),
 kO 67 (.call none true 100 [66]),
 kO 68 (.fld false 3 1 67),
 kO 69 (.len 1 68),
 kO 70 (.bin .eql 69 (ci 5)),
 kO 6 (.mv 70)])
 .ret))
def y1gv : CCode :=
  (.region [
 kO 58 (.bin .add 50 (ci 1)),
 kO 50 (.mv 58)])
def y1gw : CCode :=
  (.seq (.block 3 (.region [
 kO 52 (.fa 3 8),
 kO 53 (.ld false 1 52),
 kO 54 (.ld true 9 7),
 kO 55 (.buildS (some 8) 9 1 [(.int .i64 0), (.int .i64 0), (.int .i64 0), (.int .i64 0), (.int .i64 0), (.int .i64 0), (.int .i64 0), (.str []), .nils] [(0, 54)]),
 kO 56 (.app (some 9) 9 96 53 55),
 kO 57 (.fa 3 8),
 kU (.st 1 57 56)]))
 y1gv)
def y19z : CCode :=
  (.seq (.cond 51
 .skip
 (.exit 2))
 y1gw)
def y1en : CCode :=
  (.seq (.region [
 kO 51 (.bin .lss 50 49)])
 y19z)
def yjz : CCode :=
  (.loop [7, 8, 49, 50] y1en)
def y16r : CCode :=
  (.block 2 yjz)
def y15s : CCode :=
  (.seq (.region [
 kO 49 (.mv 1),
 kO 50 (.mv (ci 0))])
 y16r)
def y1e9 : CCode :=
  (.seq y15s
 y14o)
def ywf : CCode :=
  (.seq (.region [
 kO 42 (.fa 3 8),
 kO 43 (.ld false 1 42),
 kO 44 (.build [(.int .i64 0), (.int .i64 0), (.int .i64 0), (.int .i64 0), (.int .i64 0), (.int .i64 0), (.int .i64 0), (.str []), .nils] [(0, 1, (ci 18)), (1, 1, (ci 0))]),
 kO 45 (.build [(.int .i64 0), (.int .i64 0), (.int .i64 0), (.int .i64 0), (.int .i64 0), (.int .i64 0), (.int .i64 0), (.str []), .nils] [(0, 1, (ci 18)), (1, 1, (ci 1)), (5, 1, (ci 2))]),
 kO 46 (.buildS (some 6) 9 2 [(.int .i64 0), (.int .i64 0), (.int .i64 0), (.int .i64 0), (.int .i64 0), (.int .i64 0), (.int .i64 0), (.str []), .nils] [(0, 44), (1, 45)]),
 kO 47 (.app (some 7) 9 96 43 46),
 kO 48 (.fa 3 8),
 kU (.st 1 48 47)])
 y1e9)
def yw8 : CCode :=
  (.region [
 kO 41 (.bin .add 33 (ci 1)),
 kO 33 (.mv 41)])
def ypb : CCode :=
  (.seq (.block 1 (.region [
 kO 35 (.fa 3 8),
 kO 36 (.ld false 1 35),
 kO 37 (.ld true 9 7),
 kO 38 (.buildS (some 4) 9 1 [(.int .i64 0), (.int .i64 0), (.int .i64 0), (.int .i64 0), (.int .i64 0), (.int .i64 0), (.int .i64 0), (.str []), .nils] [(0, 37)]),
 kO 39 (.app (some 5) 9 96 36 38),
 kO 40 (.fa 3 8),
 kU (.st 1 40 39)]))
 yw8)
def yph : CCode :=
  (.seq (.cond 34
 .skip
 (.exit 0))
 ypb)
def yuw : CCode :=
  (.seq (.region [
 kO 34 (.bin .lss 33 32)])
 yph)
def ye8 : CCode :=
  (.loop [1, 7, 8, 32, 33] yuw)
def yu1 : CCode :=
  (.block 0 ye8)
def yv1 : CCode :=
  (.seq (.region [
 kO 32 (.mv 0),
 kO 33 (.mv (ci 0))])
 yu1)
def ysi : CCode :=
  (.seq yv1
 ywf)
def yws : CCode :=
  (.seq (.region [
 kO 29 (.buildS (some 1) 1 2 [(.int .i64 0)] [(0, (ci 1)), (1, (ci 3))]),
 kO 30 (.buildS (some 2) 1 2 [(.int .i64 0)] [(0, (ci 0)), (1, (ci 1))]),
 kO 31 (.build [.nils, .nils, (.int .i64 0), .nils, .nils] [(0, 1, 29), (1, 1, 30)]),
 kO 8 (.new (some 3) [.nils, .nils, (.int .i64 0), .nils, .nils]),
 kU (.st 5 8 31)])
 ysi)
def ysj : CCode :=
  (.seq (.region [
 kO 21 (.build [(.int .i64 0), (.int .i64 0), (.int .i64 0), (.int .i64 0), (.int .i64 0), (.int .i64 0), (.int .i64 0), (.str []), .nils] [(0, 1, (ci 8)), (2, 1, (ci 1))]),
 kO 22 (.build [(.int .i64 0), (.int .i64 0), (.int .i64 0), (.int .i64 0), (.int .i64 0), (.int .i64 0), (.int .i64 0), (.str []), .nils] [(0, 1, (ci 9)), (2, 1, (ci 1)), (3, 1, (ci 0))]),
 kO 23 (.build [(.int .i64 0), (.int .i64 0), (.int .i64 0), (.int .i64 0), (.int .i64 0), (.int .i64 0), (.int .i64 0), (.str []), .nils] [(0, 1, (ci 7)), (2, 1, (ci 0))]),
 kO 24 (.build [(.int .i64 0), (.int .i64 0), (.int .i64 0), (.int .i64 0), (.int .i64 0), (.int .i64 0), (.int .i64 0), (.str []), .nils] [(0, 1, (ci 10)), (2, 1, (ci 0))]),
 kO 25 (.build [(.int .i64 0), (.int .i64 0), (.int .i64 0), (.int .i64 0), (.int .i64 0), (.int .i64 0), (.int .i64 0), (.str []), .nils, (.int .i64 0), (.int .i64 0), (.int .i64 0), (.int .i64 0), (.int .i64 0), (.int .i64 0), (.int .i64 0), (.str []), .nils, (.int .i64 0), (.int .i64 0), (.int .i64 0), (.int .i64 0), (.int .i64 0), (.int .i64 0), (.int .i64 0), (.str []), .nils, (.int .i64 0), (.int .i64 0), (.int .i64 0), (.int .i64 0), (.int .i64 0), (.int .i64 0), (.int .i64 0), (.str []), .nils] [(0, 9, 21), (9, 9, 22), (18, 9, 23), (27, 9, 24)]),
 kO 26 (.mv 2),
 kO 27 (.bin .and 26 (ci 3)),
 kO 28 (.ixv true 4 9 25 27),
 kO 7 (.new (some 0) [(.int .i64 0), (.int .i64 0), (.int .i64 0), (.int .i64 0), (.int .i64 0), (.int .i64 0), (.int .i64 0), (.str []), .nils]),
 kU (.st 9 7 28)])
 yws)
def yv7 : CCode :=
  (.seq (.region [
 kO 11 (.mv 0),
 kO 12 (.bin .rem 11 (ci 30)),
 kO 13 (.bin .add 12 (ci 30)),
 kO 14 (.bin .rem 13 (ci 30)),
 kO 15 (.bin .add 14 (ci 1)),
 kO 16 (.mv 1),
 kO 17 (.bin .rem 16 (ci 30)),
 kO 18 (.bin .add 17 (ci 30)),
 kO 19 (.bin .rem 18 (ci 30)),
 kO 20 (.bin .add 19 (ci 1)),
 kO 0 (.mv 15),
 kO 1 (.mv 20)])
 ysj)
def yuo : CCode :=
  (.seq (.seq (.region [
 kO 9 (.call none true 165 []),
 kO 10 (.un .not 9)])
 (.cond 10
 (.seq (.region [
  kO 6 (.mv (.c (.bool false)))])
  .ret)
 .skip))
 yv7)
def yro : CCode :=
  (.seq (.region [
 kO 6 (.mv (.c (.bool false)))])
 yuo)
def y201 : CFunc :=
  ⟨3, true, 12, yro, [.t 6]⟩
def y1b8 : CCode :=
  (.seq (.region [
 kO 39 (.ld true 5 3),
 kU (.st 5 2 39)])
 .ret)
def y1cj : CCode :=
  (.region [
 kO 38 (.bin .add 23 (ci 1)),
 kO 23 (.mv 38)])
def y06 : CCode :=
  (.seq (.block 1 (.seq (.region [
 kO 25 (.mv 23),
 kO 4 (.mv 25)])
 (.draw [
 kO 26 (.fa 3 3),
 kO 27 (.ld false 1 26),
 kO 28 (.mv 4),
 kO 29 (.fa 3 3),
 kO 30 (.ld false 1 29),
 kO 31 (.mv 4),
 kO 32 (.ixs 9 30 31),
 kO 33 (.fa 8 32),
 kO 34 (.ld false 1 33),
 kO 35 (.call none true 39 [34]),
 kO 36 (.ixs 9 27 28),
 kO 37 (.fa 8 36),
 kU (.st 1 37 35)] [(1, 9)])))
 y1cj)
def y157 : CCode :=
  (.seq (.cond 24
 .skip
 (.exit 0))
 y06)
def y1bh : CCode :=
  (.seq (.region [
 kO 24 (.bin .lss 23 22)])
 y157)
def yj9 : CCode :=
  (.loop [2, 3, 22, 23] y1bh)
def y1a3 : CCode :=
  (.block 0 yj9)
def y1eh : CCode :=
  (.seq (.region [
 kO 20 (.fa 3 3),
 kO 21 (.ld false 1 20),
 kO 22 (.len 1 21),
 kO 23 (.mv (ci 0))])
 y1a3)
def y1do : CCode :=
  (.seq y1eh
 y1b8)
def yp9 : CCode :=
  (.seq (.draw [
 kO 5 (.fa 0 1),
 kO 6 (.ld false 1 5),
 kO 7 (.call (some 2) false 39 [6]),
 kO 8 (.fa 1 1),
 kO 9 (.ld false 1 8),
 kO 10 (.call (some 3) false 39 [9]),
 kO 11 (.fa 2 1),
 kO 12 (.ld false 1 11),
 kO 13 (.fa 3 1),
 kO 14 (.ld false 1 13),
 kO 15 (.call (some 4) false 40 [14]),
 kO 16 (.fa 4 1),
 kO 17 (.ld false 1 16),
 kO 18 (.call (some 5) false 41 [17]),
 kO 19 (.build [.nils, .nils, (.int .i64 0), .nils, .nils] [(0, 1, 7), (1, 1, 10), (2, 1, 12), (3, 1, 15), (4, 1, 18)]),
 kO 3 (.new (some 6) [.nils, .nils, (.int .i64 0), .nils, .nils]),
 kU (.st 5 3 19)] [(2, 4), (2, 7), (5, 7), (2, 9), (5, 9), (7, 10), (2, 12), (5, 12), (10, 12), (7, 13), (1, 15), (2, 15), (4, 15), (5, 15), (7, 15), (9, 15), (10, 15), (12, 15), (13, 15)])
 y1do)
def yvs : CCode :=
  (.seq (.region [
 kO 1 (.box (some 0) 0),
 kO 2 (.new (some 1) [.nils, .nils, (.int .i64 0), .nils, .nils])])
 yp9)
def y1zy : CFunc :=
  ⟨1, true, 7, yvs, [.cell 2 true 5]⟩
def y16h : CCode :=
  (.seq (.region [
 kO 2 (.mv (ci 0))])
 .ret)
def y1b3 : CCode :=
  (.region [
 kO 179 (.bin .add 138 (ci 1)),
 kO 138 (.mv 179)])
def y12e : CCode :=
  (.seq (.block 7 (.seq (.region [
 kO 140 (.ixs 4 136 138),
 kO 141 (.ld true 4 140),
 kO 11 (.new (some 2) [(.int .i64 0), (.int .i64 0), (.int .i64 0), (.str [])]),
 kU (.st 4 11 141)])
 (.seq (.region [
 kO 142 (.fa 0 11),
 kO 143 (.ld false 1 142),
 kO 144 (.bin .lss 143 (ci 0)),
 kO 145 (.mv 144),
 kG 146 (.fa 0 11) 145 false,
 kG 147 (.ld false 1 146) 145 false,
 kG 148 (.fa 1 11) 145 false,
 kG 149 (.ld false 1 148) 145 false,
 kG 150 (.bin .geq 147 149) 145 false,
 kO 151 (.pick 145 (.c (.bool true)) 150),
 kO 152 (.mv 151),
 kG 153 (.fa 1 11) 152 false,
 kG 154 (.ld false 1 153) 152 false,
 kG 155 (.mv 3) 152 false,
 kG 156 (.bin .gtr 154 155) 152 false,
 kO 157 (.pick 152 (.c (.bool true)) 156),
 kO 158 (.mv 157),
 kG 159 (.fa 2 11) 158 false,
 kG 160 (.ld false 1 159) 158 false,
 kG 161 (.bin .lss 160 (ci 0)) 158 false,
 kO 162 (.pick 158 (.c (.bool true)) 161),
 kO 163 (.mv 162),
 kG 164 (.fa 2 11) 163 false,
 kG 165 (.ld false 1 164) 163 false,
 kG 166 (.mv 3) 163 false,
 kG 167 (.bin .geq 165 166) 163 false,
 kO 168 (.pick 163 (.c (.bool true)) 167),
 kO 169 (.mv 168),
 kG 170 (.fa 3 1) 169 false,
 kG 171 (.ld false 1 170) 169 false,
 kG 172 (.fa 2 11) 169 false,
 kG 173 (.ld false 1 172) 169 false,
 kG 174 (.ixs 9 171 173) 169 false,
 kG 175 (.fa 0 174) 169 false,
 kG 176 (.ld false 1 175) 169 false,
 kG 177 (.bin .neq 176 (ci 32)) 169 false,
 kO 178 (.pick 169 (.c (.bool true)) 177)])
 (.cond 178
 (.seq (.region [
  kO 2 (.mv (ci 80))])
  .ret)
 .skip))))
 y1b3)
def y12k : CCode :=
  (.seq (.cond 139
 .skip
 (.exit 6))
 y12e)
def y1c3 : CCode :=
  (.seq (.region [
 kO 139 (.bin .lss 138 137)])
 y12k)
def yj5 : CCode :=
  (.loop [1, 3, 136, 137, 138] y1c3)
def y1b2 : CCode :=
  (.block 6 yj5)
def y16f : CCode :=
  (.seq (.region [
 kO 135 (.fa 4 1),
 kO 136 (.ld false 1 135),
 kO 137 (.len 1 136),
 kO 138 (.mv (ci 0))])
 y1b2)
def y0d : CCode :=
  (.seq y16f
 y16h)
def yts : CCode :=
  (.region [
 kO 134 (.bin .add 94 (ci 1)),
 kO 94 (.mv 134)])
def ypk : CCode :=
  (.seq (.region [
 kO 103 (.fa 0 9),
 kO 104 (.ld false 1 103),
 kO 105 (.bin .eql 104 (ci 32)),
 kO 106 (.mv 105),
 kG 107 (.mv 8) 106 true,
 kG 108 (.bin .eql 107 (ci 0)) 106 true,
 kG 109 (.mv 108) 106 true,
 kG 110 (.fa 3 1) 109 false,
 kG 111 (.ld false 1 110) 109 false,
 kG 112 (.mv 8) 109 false,
 kG 113 (.bin .sub 112 (ci 1)) 109 false,
 kG 114 (.ixs 9 111 113) 109 false,
 kG 115 (.ld true 9 114) 109 false,
 kG 116 (.call none true 24 [115]) 109 false,
 kG 117 (.un .not 116) 109 false,
 kG 118 (.pick 109 (.c (.bool true)) 117) 106 true,
 kO 119 (.pick 106 118 (.c (.bool false))),
 kO 120 (.mv 119),
 kG 121 (.ld true 9 9) 120 false,
 kG 122 (.call none true 22 [121]) 120 false,
 kG 123 (.mv 122) 120 false,
 kG 124 (.fa 3 1) 123 true,
 kG 125 (.ld false 1 124) 123 true,
 kG 126 (.fa 6 9) 123 true,
 kG 127 (.ld false 1 126) 123 true,
 kG 128 (.ixs 9 125 127) 123 true,
 kG 129 (.fa 0 128) 123 true,
 kG 130 (.ld false 1 129) 123 true,
 kG 131 (.bin .eql 130 (ci 32)) 123 true,
 kG 132 (.pick 123 131 (.c (.bool false))) 120 false,
 kO 133 (.pick 120 (.c (.bool true)) 132)])
 (.cond 133
 (.seq (.region [
  kO 2 (.mv (ci 80))])
  .ret)
 .skip))
def yrx : CCode :=
  (.seq (.seq (.region [
 kO 99 (.ld true 5 1),
 kO 100 (.ld true 9 9),
 kO 101 (.call none true 63 [99, 100]),
 kO 102 (.un .not 101)])
 (.cond 102
 (.seq (.region [
  kO 2 (.mv (ci 80))])
  .ret)
 .skip))
 ypk)
def yq1 : CCode :=
  (.seq (.region [
 kO 96 (.mv 94),
 kO 97 (.ixs 9 92 94),
 kO 98 (.ld true 9 97),
 kO 9 (.new (some 1) [(.int .i64 0), (.int .i64 0), (.int .i64 0), (.int .i64 0), (.int .i64 0), (.int .i64 0), (.int .i64 0), (.str []), .nils]),
 kO 8 (.mv 96),
 kU (.st 9 9 98)])
 yrx)
def yvh : CCode :=
  (.block 5 yq1)
def ywi : CCode :=
  (.seq yvh
 yts)
def yxl : CCode :=
  (.seq (.cond 95
 .skip
 (.exit 4))
 ywi)
def yqt : CCode :=
  (.seq (.region [
 kO 95 (.bin .lss 94 93)])
 yxl)
def yfn : CCode :=
  (.loop [1, 3, 92, 93, 94] yqt)
def yqf : CCode :=
  (.block 4 yfn)
def yxk : CCode :=
  (.seq (.region [
 kO 91 (.fa 3 1),
 kO 92 (.ld false 1 91),
 kO 93 (.len 1 92),
 kO 94 (.mv (ci 0))])
 yqf)
def yvy : CCode :=
  (.seq yxk
 y0d)
def yqv : CCode :=
  (.region [
 kO 90 (.bin .add 64 (ci 1)),
 kO 64 (.mv 90)])
def ywq : CCode :=
  (.seq (.block 3 (.seq (.region [
 kO 66 (.mv 64),
 kO 67 (.ixs 1 62 64),
 kO 68 (.ld false 1 67),
 kO 6 (.mv 66),
 kO 7 (.mv 68)])
 (.seq (.region [
 kO 69 (.mv 7),
 kO 70 (.bin .lss 69 (ci 0)),
 kO 71 (.mv 70),
 kG 72 (.mv 7) 71 false,
 kG 73 (.fa 0 1) 71 false,
 kG 74 (.ld false 1 73) 71 false,
 kG 75 (.len 1 74) 71 false,
 kG 76 (.bin .geq 72 75) 71 false,
 kO 77 (.pick 71 (.c (.bool true)) 76),
 kO 78 (.mv 77),
 kG 79 (.fa 1 1) 78 false,
 kG 80 (.ld false 1 79) 78 false,
 kG 81 (.mv 6) 78 false,
 kG 82 (.slc 1 80 none (some 81)) 78 false,
 kG 83 (.mv 7) 78 false,
 kG 84 (.call none true 46 [82, 83]) 78 false,
 kO 85 (.pick 78 (.c (.bool true)) 84),
 kO 86 (.mv 85),
 kG 87 (.mv 6) 86 false,
 kG 88 (.bin .gtr 87 (ci 20)) 86 false,
 kO 89 (.pick 86 (.c (.bool true)) 88)])
 (.cond 89
 (.seq (.region [
  kO 2 (.mv (ci 80))])
  .ret)
 .skip))))
 yqv)
def ypz : CCode :=
  (.seq (.cond 65
 .skip
 (.exit 2))
 ywq)
def yu6 : CCode :=
  (.seq (.region [
 kO 65 (.bin .lss 64 63)])
 ypz)
def yfb : CCode :=
  (.loop [1, 3, 62, 63, 64] yu6)
def yt9 : CCode :=
  (.block 2 yfb)
def ytk : CCode :=
  (.seq (.region [
 kO 61 (.fa 1 1),
 kO 62 (.ld false 1 61),
 kO 63 (.len 1 62),
 kO 64 (.mv (ci 0))])
 yt9)
def yw0 : CCode :=
  (.seq ytk
 yvy)
def ysx : CCode :=
  (.region [
 kO 60 (.bin .add 50 (ci 1)),
 kO 50 (.mv 60)])
def ywc : CCode :=
  (.seq (.block 1 (.seq (.region [
 kO 52 (.ixs 1 48 50),
 kO 53 (.ld false 1 52),
 kO 5 (.mv 53)])
 (.seq (.region [
 kO 54 (.mv 5),
 kO 55 (.bin .lss 54 (ci 1)),
 kO 56 (.mv 55),
 kG 57 (.mv 5) 56 false,
 kG 58 (.bin .gtr 57 (ci 3)) 56 false,
 kO 59 (.pick 56 (.c (.bool true)) 58)])
 (.cond 59
 (.seq (.region [
  kO 2 (.mv (ci 80))])
  .ret)
 .skip))))
 ysx)
def yta : CCode :=
  (.seq (.cond 51
 .skip
 (.exit 0))
 ywc)
def ypi : CCode :=
  (.seq (.region [
 kO 51 (.bin .lss 50 49)])
 yta)
def yg6 : CCode :=
  (.loop [1, 3, 48, 49, 50] ypi)
def ysn : CCode :=
  (.block 0 yg6)
def yw7 : CCode :=
  (.seq (.region [
 kO 47 (.fa 0 1),
 kO 48 (.ld false 1 47),
 kO 49 (.len 1 48),
 kO 50 (.mv (ci 0))])
 ysn)
def yu0 : CCode :=
  (.seq yw7
 yw0)
def yrs : CCode :=
  (.seq (.seq (.region [
 kO 15 (.mv 3),
 kO 16 (.bin .lss 15 (ci 1)),
 kO 17 (.mv 16),
 kG 18 (.mv 3) 17 false,
 kG 19 (.bin .gtr 18 (ci 20000)) 17 false,
 kO 20 (.pick 17 (.c (.bool true)) 19),
 kO 21 (.mv 20),
 kG 22 (.fa 0 1) 21 false,
 kG 23 (.ld false 1 22) 21 false,
 kG 24 (.len 1 23) 21 false,
 kG 25 (.bin .gtr 24 (ci 20000)) 21 false,
 kO 26 (.pick 21 (.c (.bool true)) 25),
 kO 27 (.mv 26),
 kG 28 (.fa 2 1) 27 false,
 kG 29 (.ld false 1 28) 27 false,
 kG 30 (.bin .lss 29 (ci 0)) 27 false,
 kO 31 (.pick 27 (.c (.bool true)) 30),
 kO 32 (.mv 31),
 kG 33 (.fa 2 1) 32 false,
 kG 34 (.ld false 1 33) 32 false,
 kG 35 (.bin .gtr 34 (ci 3)) 32 false,
 kO 36 (.pick 32 (.c (.bool true)) 35),
 kO 37 (.mv 36),
 kG 38 (.fa 3 1) 37 false,
 kG 39 (.ld false 1 38) 37 false,
 kG 40 (.mv 3) 37 false,
 kG 41 (.bin .sub 40 (ci 1)) 37 false,
 kG 42 (.ixs 9 39 41) 37 false,
 kG 43 (.ld true 9 42) 37 false,
 kG 44 (.call none true 24 [43]) 37 false,
 kG 45 (.un .not 44) 37 false,
 kO 46 (.pick 37 (.c (.bool true)) 45)])
 (.cond 46
 (.seq (.region [
  kO 2 (.mv (ci 80))])
  .ret)
 .skip))
 yu0)
def yv2 : CCode :=
  (.seq (.region [
 kO 12 (.fa 3 1),
 kO 13 (.ld false 1 12),
 kO 14 (.len 1 13),
 kO 3 (.mv 14)])
 yrs)
def yxf : CCode :=
  (.seq (.region [
 kO 1 (.box (some 0) 0),
 kO 2 (.mv (ci 0))])
 yv2)
def y1zs : CFunc :=
  ⟨1, true, 3, yxf, [.t 2]⟩
def y127 : CCode :=
  (.seq (.region [
 kO 150 (.ld true 5 9),
 kU (.st 5 2 150)])
 .ret)
def y1a7 : CCode :=
  (.region [
 kO 149 (.bin .add 104 (ci 1)),
 kO 104 (.mv 149)])
def y1bu : CCode :=
  (.seq (.block 7 (.seq (.region [
 kO 106 (.ixs 4 102 104),
 kO 107 (.ld true 4 106),
 kO 13 (.new (some 9) [(.int .i64 0), (.int .i64 0), (.int .i64 0), (.str [])]),
 kU (.st 4 13 107)])
 (.seq (.draw [
 kO 108 (.mv 3),
 kO 109 (.fa 2 13),
 kO 110 (.ld false 1 109),
 kO 111 (.ixs 1 108 110),
 kO 112 (.ld false 1 111),
 kO 113 (.mv 112),
 kG 114 (.mv 6) 113 true,
 kG 115 (.fa 0 13) 113 true,
 kG 116 (.ld false 1 115) 113 true,
 kG 117 (.ixs 1 114 116) 113 true,
 kG 118 (.ld false 1 117) 113 true,
 kG 119 (.mv 6) 113 true,
 kG 120 (.fa 1 13) 113 true,
 kG 121 (.ld false 1 120) 113 true,
 kG 122 (.ixs 1 119 121) 113 true,
 kG 123 (.ld false 1 122) 113 true,
 kG 124 (.bin .lss 118 123) 113 true,
 kO 125 (.pick 113 124 (.c (.bool false)))] [])
 (.cond 125
 (.draw [
  kO 126 (.fa 4 9),
  kO 127 (.ld false 1 126),
  kO 128 (.mv 6),
  kO 129 (.fa 0 13),
  kO 130 (.ld false 1 129),
  kO 131 (.ixs 1 128 130),
  kO 132 (.ld false 1 131),
  kO 133 (.mv 6),
  kO 134 (.fa 1 13),
  kO 135 (.ld false 1 134),
  kO 136 (.ixs 1 133 135),
  kO 137 (.ld false 1 136),
  kO 138 (.mv 6),
  kO 139 (.fa 2 13),
  kO 140 (.ld false 1 139),
  kO 141 (.ixs 1 138 140),
  kO 142 (.ld false 1 141),
  kO 143 (.fa 3 13),
  kO 144 (.ld false 1 143),
  kO 145 (.build [(.int .i64 0), (.int .i64 0), (.int .i64 0), (.str [])] [(0, 1, 132), (1, 1, 137), (2, 1, 142), (3, 1, 144)]),
  kO 146 (.buildS (some 10) 4 1 [(.int .i64 0), (.int .i64 0), (.int .i64 0), (.str [])] [(0, 145)]),
  kO 147 (.app (some 11) 4 40 127 146),
  kO 148 (.fa 4 9),
  kU (.st 1 148 147)] [(1, 20)])
 .skip))))
 y1a7)
def y14w : CCode :=
  (.seq (.cond 105
 .skip
 (.exit 6))
 y1bu)
def y1f7 : CCode :=
  (.seq (.region [
 kO 105 (.bin .lss 104 103)])
 y14w)
def yji : CCode :=
  (.loop [2, 3, 6, 9, 102, 103, 104] y1f7)
def y16g : CCode :=
  (.block 6 yji)
def y14p : CCode :=
  (.seq (.region [
 kO 101 (.fa 4 1),
 kO 102 (.ld false 1 101),
 kO 103 (.len 1 102),
 kO 104 (.mv (ci 0))])
 y16g)
def y1as : CCode :=
  (.seq y14p
 y127)
def ytj : CCode :=
  (.region [
 kO 100 (.bin .add 75 (ci 1)),
 kO 75 (.mv 100)])
def yrq : CCode :=
  (.region [
 kO 94 (.fa 3 9),
 kO 95 (.ld false 1 94),
 kO 96 (.ld true 9 11),
 kO 97 (.buildS (some 7) 9 1 [(.int .i64 0), (.int .i64 0), (.int .i64 0), (.int .i64 0), (.int .i64 0), (.int .i64 0), (.int .i64 0), (.str []), .nils] [(0, 96)]),
 kO 98 (.app (some 8) 9 96 95 97),
 kO 99 (.fa 3 9),
 kU (.st 1 99 98)])
def yt8 : CCode :=
  (.seq (.seq (.region [
 kO 85 (.ld true 9 11),
 kO 86 (.call none true 22 [85])])
 (.cond 86
 (.region [
  kO 87 (.mv 6),
  kO 88 (.fa 6 11),
  kO 89 (.ld false 1 88),
  kO 90 (.ixs 1 87 89),
  kO 91 (.ld false 1 90),
  kO 92 (.fa 6 11),
  kU (.st 1 92 91)])
 (.region [
  kO 93 (.fa 6 11),
  kU (.st 1 93 (ci 0))])))
 yrq)
def yxy : CCode :=
  (.seq (.seq (.region [
 kO 80 (.mv 3),
 kO 81 (.mv 10),
 kO 82 (.ixs 1 80 81),
 kO 83 (.ld false 1 82),
 kO 84 (.un .not 83)])
 (.cond 84
 (.exit 5)
 .skip))
 yt8)
def ypt : CCode :=
  (.seq (.region [
 kO 77 (.mv 75),
 kO 78 (.ixs 9 73 75),
 kO 79 (.ld true 9 78),
 kO 11 (.new (some 6) [(.int .i64 0), (.int .i64 0), (.int .i64 0), (.int .i64 0), (.int .i64 0), (.int .i64 0), (.int .i64 0), (.str []), .nils]),
 kO 10 (.mv 77),
 kU (.st 9 11 79)])
 yxy)
def ywg : CCode :=
  (.block 5 ypt)
def yvu : CCode :=
  (.seq ywg
 ytj)
def yv3 : CCode :=
  (.seq (.cond 76
 .skip
 (.exit 4))
 yvu)
def ywe : CCode :=
  (.seq (.region [
 kO 76 (.bin .lss 75 74)])
 yv3)
def ydx : CCode :=
  (.loop [1, 2, 3, 6, 9, 73, 74, 75] ywe)
def yua : CCode :=
  (.block 4 ydx)
def yst : CCode :=
  (.seq (.region [
 kO 72 (.fa 3 1),
 kO 73 (.ld false 1 72),
 kO 74 (.len 1 73),
 kO 75 (.mv (ci 0))])
 yua)
def yoz : CCode :=
  (.seq yst
 y1as)
def yru : CCode :=
  (.seq (.region [
 kO 65 (.fa 0 1),
 kO 66 (.ld false 1 65),
 kO 67 (.fa 1 1),
 kO 68 (.ld false 1 67),
 kO 69 (.fa 2 1),
 kO 70 (.ld false 1 69),
 kO 71 (.build [.nils, .nils, (.int .i64 0), .nils, .nils] [(0, 1, 66), (1, 1, 68), (2, 1, 70)]),
 kO 9 (.new (some 5) [.nils, .nils, (.int .i64 0), .nils, .nils]),
 kU (.st 5 9 71)])
 yoz)
def yuk : CCode :=
  (.seq (.region [
 kO 59 (.mv 6),
 kO 60 (.fa 3 1),
 kO 61 (.ld false 1 60),
 kO 62 (.len 1 61),
 kO 63 (.mv 7),
 kO 64 (.ixs 1 59 62),
 kU (.st 1 64 63)])
 yru)
def ywa : CCode :=
  (.region [
 kO 58 (.bin .add 45 (ci 1)),
 kO 45 (.mv 58)])
def yxa : CCode :=
  (.seq (.block 3 (.seq (.region [
 kO 47 (.mv 45),
 kO 8 (.mv 47)])
 (.seq (.region [
 kO 48 (.mv 6),
 kO 49 (.mv 8),
 kO 50 (.mv 7),
 kO 51 (.ixs 1 48 49),
 kU (.st 1 51 50)])
 (.seq (.region [
 kO 52 (.mv 3),
 kO 53 (.mv 8),
 kO 54 (.ixs 1 52 53),
 kO 55 (.ld false 1 54)])
 (.cond 55
 (.region [
  kO 56 (.mv 7),
  kO 57 (.bin .add 56 (ci 1)),
  kO 7 (.mv 57)])
 .skip)))))
 ywa)
def yw9 : CCode :=
  (.seq (.cond 46
 .skip
 (.exit 2))
 yxa)
def yub : CCode :=
  (.seq (.region [
 kO 46 (.bin .lss 45 44)])
 yw9)
def yfh : CCode :=
  (.loop [1, 2, 3, 6, 7, 44, 45] yub)
def ywm : CCode :=
  (.block 2 yfh)
def yqa : CCode :=
  (.seq (.region [
 kO 42 (.fa 3 1),
 kO 43 (.ld false 1 42),
 kO 44 (.len 1 43),
 kO 45 (.mv (ci 0))])
 ywm)
def yw5 : CCode :=
  (.seq yqa
 yuk)
def yvf : CCode :=
  (.seq (.region [
 kO 7 (.mv (ci 0))])
 yw5)
def yul : CCode :=
  (.seq (.region [
 kO 37 (.fa 3 1),
 kO 38 (.ld false 1 37),
 kO 39 (.len 1 38),
 kO 40 (.bin .add 39 (ci 1)),
 kO 41 (.mkS (some 4) 1 8 [(.int .i64 0)] 40 40),
 kO 6 (.mv 41)])
 yvf)
def yt2 : CCode :=
  (.region [
 kO 36 (.bin .add 25 (ci 1)),
 kO 25 (.mv 36)])
def yv5 : CCode :=
  (.seq (.block 1 (.seq (.region [
 kO 27 (.mv 25),
 kO 28 (.ixs 9 23 25),
 kO 29 (.ld true 9 28),
 kO 5 (.new (some 3) [(.int .i64 0), (.int .i64 0), (.int .i64 0), (.int .i64 0), (.int .i64 0), (.int .i64 0), (.int .i64 0), (.str []), .nils]),
 kO 4 (.mv 27),
 kU (.st 9 5 29)])
 (.seq (.region [
 kO 30 (.fa 0 5),
 kO 31 (.ld false 1 30),
 kO 32 (.bin .eql 31 (ci 33))])
 (.cond 32
 (.region [
  kO 33 (.mv 3),
  kO 34 (.mv 4),
  kO 35 (.ixs 1 33 34),
  kU (.st 1 35 (.c (.bool false)))])
 .skip))))
 yt2)
def yvl : CCode :=
  (.seq (.cond 26
 .skip
 (.exit 0))
 yv5)
def ysa : CCode :=
  (.seq (.region [
 kO 26 (.bin .lss 25 24)])
 yvl)
def ye6 : CCode :=
  (.loop [1, 2, 3, 23, 24, 25] ysa)
def ys7 : CCode :=
  (.block 0 ye6)
def yx2 : CCode :=
  (.seq (.region [
 kO 22 (.fa 3 1),
 kO 23 (.ld false 1 22),
 kO 24 (.len 1 23),
 kO 25 (.mv (ci 0))])
 ys7)
def yt7 : CCode :=
  (.seq yx2
 yul)
def yq2 : CCode :=
  (.seq (.region [
 kO 20 (.ld true 5 1),
 kO 21 (.call (some 2) false 101 [20]),
 kO 3 (.mv 21)])
 yt7)
def yxh : CCode :=
  (.seq (.seq (.region [
 kO 16 (.ld true 5 1),
 kO 17 (.call none true 8 [16]),
 kO 18 (.bin .neq 17 (ci 0))])
 (.cond 18
 (.seq (.region [
  kO 19 (.ld true 5 1),
  kU (.st 5 2 19)])
  .ret)
 .skip))
 yq2)
def yxq : CCode :=
  (.seq (.region [
 kO 14 (.ld true 5 1),
 kO 15 (.call none true 13 [14]),
 kU (.st 5 1 15)])
 yxh)
def yuu : CCode :=
  (.seq (.region [
 kO 1 (.box (some 0) 0),
 kO 2 (.new (some 1) [.nils, .nils, (.int .i64 0), .nils, .nils])])
 yxq)
def y20l : CFunc :=
  ⟨1, true, 12, yuu, [.cell 2 true 5]⟩
def y12s : CCode :=
  (.seq (.region [
 kO 0 (.mv (.c (.bool false)))])
 (.seq (.region [
 kO 2 (.buildS (some 0) 1 2 [(.int .i64 0)] [(0, (ci 1)), (1, (ci 3))]),
 kO 3 (.buildS (some 1) 1 1 [(.int .i64 0)] [(0, (ci 1))]),
 kO 4 (.build [(.int .i64 0), (.int .i64 0), (.int .i64 0), (.int .i64 0), (.int .i64 0), (.int .i64 0), (.int .i64 0), (.str []), .nils] [(0, 1, (ci 8)), (2, 1, (ci 1))]),
 kO 5 (.build [(.int .i64 0), (.int .i64 0), (.int .i64 0), (.int .i64 0), (.int .i64 0), (.int .i64 0), (.int .i64 0), (.str []), .nils] [(0, 1, (ci 15)), (1, 1, (ci 0)), (2, 1, (ci 1))]),
 kO 6 (.build [(.int .i64 0), (.int .i64 0), (.int .i64 0), (.int .i64 0), (.int .i64 0), (.int .i64 0), (.int .i64 0), (.str []), .nils] [(0, 1, (ci 8)), (2, 1, (ci 1))]),
 kO 7 (.build [(.int .i64 0), (.int .i64 0), (.int .i64 0), (.int .i64 0), (.int .i64 0), (.int .i64 0), (.int .i64 0), (.str []), .nils] [(0, 1, (ci 30)), (2, 1, (ci (-1)))]),
 kO 8 (.buildS (some 2) 9 4 [(.int .i64 0), (.int .i64 0), (.int .i64 0), (.int .i64 0), (.int .i64 0), (.int .i64 0), (.int .i64 0), (.str []), .nils] [(0, 4), (1, 5), (2, 6), (3, 7)]),
 kO 9 (.build [.nils, .nils, (.int .i64 0), .nils, .nils] [(0, 1, 2), (1, 1, 3), (3, 1, 8)]),
 kO 10 (.call none true 166 [9]),
 kO 1 (.new (some 3) [.nils, .nils, (.int .i64 0), .nils, .nils]),
 kU (.st 5 1 10)])
 (.seq (.region [
 kO 11 (.fa 3 1),
 kO 12 (.ld false 1 11),
 kO 13 (.len 1 12),
 kO 14 (.bin .eql 13 (ci 4)),
 kO 15 (.mv 14),
 kG 16 (.fa 3 1) 15 true,
 kG 17 (.ld false 1 16) 15 true,
 kG 18 (.ixs 9 17 (ci 0)) 15 true,
 kG 19 (.fa 0 18) 15 true,
 kG 20 (.ld false 1 19) 15 true,
 kG 21 (.bin .eql 20 (ci 8)) 15 true,
 kO 22 (.pick 15 21 (.c (.bool false))),
 kO 23 (.mv 22),
 kG 24 (.fa 3 1) 23 true,
 kG 25 (.ld false 1 24) 23 true,
 kG 26 (.ixs 9 25 (ci 2)) 23 true,
 kG 27 (.fa 0 26) 23 true,
 kG 28 (.ld false 1 27) 23 true,
 kG 29 (.bin .eql 28 (ci 33)) 23 true,
 kO 30 (.pick 23 29 (.c (.bool false))),
 kO 0 (.mv 30)])
 .ret)))
def y217 : CFunc :=
  ⟨0, true, 4, y12s, [.t 0]⟩
def y14g : CCode :=
  (.seq (.region [
 kO 119 (.ld true 5 1),
 kU (.st 5 2 119)])
 .ret)
def y02 : CCode :=
  (.region [
 kO 118 (.bin .add 87 (ci 1)),
 kO 87 (.mv 118)])
def y1fo : CCode :=
  (.seq (.block 7 (.seq (.region [
 kO 89 (.mv 87),
 kO 90 (.ixs 9 85 87),
 kO 91 (.ld true 9 90),
 kO 13 (.new (some 15) [(.int .i64 0), (.int .i64 0), (.int .i64 0), (.int .i64 0), (.int .i64 0), (.int .i64 0), (.int .i64 0), (.str []), .nils]),
 kO 12 (.mv 89),
 kU (.st 9 13 91)])
 (.seq (.region [
 kO 93 (.ld true 9 13),
 kO 94 (.call none true 169 [93]),
 kO 92 (.mv 94),
 kO 95 (.ext 0 92),
 kO 96 (.ext 1 92),
 kO 14 (.new (some 16) [(.int .i64 0), (.int .i64 0), (.int .i64 0)]),
 kU (.st 3 14 95),
 kO 15 (.mv 96)])
 (.seq (.draw [
 kO 97 (.mv 15),
 kO 98 (.mv 97),
 kG 99 (.ld false 1 3) 98 true,
 kG 100 (.mv 12) 98 true,
 kG 101 (.ixs 1 99 100) 98 true,
 kG 102 (.ld false 1 101) 98 true,
 kG 103 (.eqn 2 true 102 (.c .nilm)) 98 true,
 kO 104 (.pick 98 103 (.c (.bool false))),
 kO 105 (.mv 104),
 kG 106 (.ld false 1 3) 105 true,
 kG 107 (.mv 12) 105 true,
 kG 108 (.ixs 1 106 107) 105 true,
 kG 109 (.ld false 1 108) 105 true,
 kG 110 (.ld true 3 14) 105 true,
 kG 111 (.mget true [0, 0, 0] (.bool false) false 109 110) 105 true,
 kO 112 (.pick 105 111 (.c (.bool false)))] [])
 (.cond 112
 (.region [
  kO 113 (.fa 3 1),
  kO 114 (.ld false 1 113),
  kO 115 (.mv 12),
  kO 116 (.build [(.int .i64 0), (.int .i64 0), (.int .i64 0), (.int .i64 0), (.int .i64 0), (.int .i64 0), (.int .i64 0), (.str []), .nils] [(0, 1, (ci 33))]),
  kO 117 (.ixs 9 114 115),
  kU (.st 9 117 116)])
 .skip)))))
 y02)
def y14z : CCode :=
  (.seq (.cond 88
 .skip
 (.exit 6))
 y1fo)
def y142 : CCode :=
  (.seq (.region [
 kO 88 (.bin .lss 87 86)])
 y14z)
def yj8 : CCode :=
  (.loop [1, 2, 3, 85, 86, 87] y142)
def y1ev : CCode :=
  (.block 6 yj8)
def y185 : CCode :=
  (.seq (.region [
 kO 84 (.fa 3 1),
 kO 85 (.ld false 1 84),
 kO 86 (.len 1 85),
 kO 87 (.mv (ci 0))])
 y1ev)
def y17w : CCode :=
  (.seq y185
 y14g)
def yuv : CCode :=
  (.region [
 kO 83 (.bin .add 75 (ci 1)),
 kO 75 (.mv 83)])
def yq5 : CCode :=
  (.seq (.block 5 (.seq (.region [
 kO 77 (.ixs 1 73 75),
 kO 78 (.ld false 1 77),
 kO 11 (.mv 78)])
 (.region [
 kO 79 (.mv 5),
 kO 80 (.mv 11),
 kO 81 (.mv 9),
 kO 82 (.callv none true 79 [80, 81])])))
 yuv)
def ys0 : CCode :=
  (.seq (.cond 76
 .skip
 (.exit 4))
 yq5)
def yq8 : CCode :=
  (.seq (.region [
 kO 76 (.bin .lss 75 74)])
 ys0)
def ydl : CCode :=
  (.loop [1, 2, 3, 4, 5, 9, 73, 74, 75] yq8)
def yrn : CCode :=
  (.block 4 ydl)
def ywb : CCode :=
  (.seq (.region [
 kO 71 (.ld true 5 1),
 kO 72 (.mv 6),
 kO 73 (.call none true 81 [71, 72]),
 kO 74 (.len 1 73),
 kO 75 (.mv (ci 0))])
 yrn)
def yx7 : CCode :=
  (.seq (.draw [
 kO 61 (.ld false 1 3),
 kO 62 (.mv 6),
 kO 63 (.ixs 1 61 62),
 kO 64 (.ld false 1 63),
 kO 65 (.fa 3 1),
 kO 66 (.ld false 1 65),
 kO 67 (.mv 6),
 kO 68 (.ixs 9 66 67),
 kO 69 (.ld true 9 68),
 kO 70 (.call none true 168 [64, 69]),
 kO 9 (.mv 70)] [])
 ywb)
def yrt : CCode :=
  (.region [
 kO 60 (.bin .add 49 (ci 1)),
 kO 49 (.mv 60)])
def yu8 : CCode :=
  (.seq (.block 3 (.seq (.region [
 kO 51 (.ixs 1 47 49),
 kO 52 (.ld false 1 51),
 kO 8 (.mv 52)])
 (.region [
 kO 53 (.mv 5),
 kO 54 (.mv 8),
 kO 55 (.ld false 1 3),
 kO 56 (.mv 6),
 kO 57 (.ixs 1 55 56),
 kO 58 (.ld false 1 57),
 kO 59 (.callv none true 53 [54, 58])])))
 yrt)
def ywk : CCode :=
  (.seq (.cond 50
 .skip
 (.exit 2))
 yu8)
def ysm : CCode :=
  (.seq (.region [
 kO 50 (.bin .lss 49 48)])
 ywk)
def ydq : CCode :=
  (.loop [1, 2, 3, 4, 5, 6, 47, 48, 49] ysm)
def yuf : CCode :=
  (.block 2 ydq)
def yva : CCode :=
  (.seq (.region [
 kO 45 (.ld true 5 1),
 kO 46 (.mv 6),
 kO 47 (.call none true 79 [45, 46]),
 kO 48 (.len 1 47),
 kO 49 (.mv (ci 0))])
 yuf)
def yri : CCode :=
  (.seq yva
 yx7)
def yux : CCode :=
  (.seq (.region [
 kO 40 (.ld false 1 4),
 kO 41 (.ld false 1 4),
 kO 42 (.len 1 41),
 kO 43 (.bin .sub 42 (ci 1)),
 kO 44 (.slc 1 40 none (some 43)),
 kU (.st 1 4 44)])
 yri)
def yss : CCode :=
  (.seq (.region [
 kO 34 (.ld false 1 4),
 kO 35 (.ld false 1 4),
 kO 36 (.len 1 35),
 kO 37 (.bin .sub 36 (ci 1)),
 kO 38 (.ixs 1 34 37),
 kO 39 (.ld false 1 38),
 kO 6 (.mv 39)])
 yux)
def yxx : CCode :=
  (.block 1 yss)
def yxd : CCode :=
  (.seq (.seq (.region [
 kO 31 (.ld false 1 4),
 kO 32 (.len 1 31),
 kO 33 (.bin .gtr 32 (ci 0))])
 (.cond 33
 .skip
 (.exit 0)))
 yxx)
def yeg : CCode :=
  (.loop [1, 2, 3, 4, 5] yxd)
def yqh : CCode :=
  (.block 0 yeg)
def yy0 : CCode :=
  (.seq yqh
 y17w)
def yvt : CCode :=
  (.seq (.region [
 kO 30 (.mkf 167 [3, 4]),
 kO 5 (.mv 30)])
 yy0)
def yqg : CCode :=
  (.seq (.region [
 kO 29 (.buildS (some 13) 1 1 [(.int .i64 0)] [(0, (ci 0))]),
 kO 4 (.new (some 14) [.nils]),
 kU (.st 1 4 29)])
 yvt)
def ytn : CCode :=
  (.seq (.region [
 kO 26 (.ld false 1 3),
 kO 27 (.mkm (some 12)),
 kO 28 (.ixs 1 26 (ci 0)),
 kU (.st 1 28 27)])
 yqg)
def ytq : CCode :=
  (.seq (.region [
 kO 22 (.fa 3 1),
 kO 23 (.ld false 1 22),
 kO 24 (.len 1 23),
 kO 25 (.mkS (some 10) 1 8 [.nilm] 24 24),
 kO 3 (.new (some 11) [.nils]),
 kU (.st 1 3 25)])
 ytn)
def yr5 : CCode :=
  (.seq (.seq (.region [
 kO 18 (.ld true 5 1),
 kO 19 (.call none true 8 [18]),
 kO 20 (.bin .neq 19 (ci 0))])
 (.cond 20
 (.seq (.region [
  kO 21 (.ld true 5 1),
  kU (.st 5 2 21)])
  .ret)
 .skip))
 ytq)
def ywy : CCode :=
  (.seq (.region [
 kO 16 (.ld true 5 1),
 kO 17 (.call (some 2) false 13 [16]),
 kU (.st 5 1 17)])
 yr5)
def yu3 : CCode :=
  (.seq (.region [
 kO 1 (.box (some 0) 0),
 kO 2 (.new (some 1) [.nils, .nils, (.int .i64 0), .nils, .nils])])
 ywy)
def y226 : CFunc :=
  ⟨1, true, 17, yu3, [.cell 2 true 5]⟩
def y0g : CCode :=
  (.seq (.region [
 kO 2 (.mv (ci (-1)))])
 .ret)
def y1gd : CCode :=
  (.seq (.seq (.region [
 kO 22 (.ld true 9 1),
 kO 23 (.call none true 17 [22])])
 (.cond 23
 (.seq (.region [
  kO 24 (.fa 1 1),
  kO 25 (.ld false 1 24),
  kO 2 (.mv 25)])
  .ret)
 .skip))
 y0g)
def y1ei : CCode :=
  (.cond 5
 (.seq (.region [
  kO 20 (.fa 1 1),
  kO 21 (.ld false 1 20),
  kO 2 (.mv 21)])
  .ret)
 .skip)
def y112 : CCode :=
  (.seq (.seq (.region [
 kO 6 (.bin .eql 4 (ci 1)),
 kO 5 (.mv 6)])
 (.cond 5
 .skip
 (.seq (.region [
  kO 7 (.bin .eql 4 (ci 2)),
  kO 5 (.mv 7)])
  (.cond 5
  .skip
  (.seq (.region [
   kO 8 (.bin .eql 4 (ci 3)),
   kO 5 (.mv 8)])
   (.cond 5
   .skip
   (.seq (.region [
    kO 9 (.bin .eql 4 (ci 4)),
    kO 5 (.mv 9)])
    (.cond 5
    .skip
    (.seq (.region [
     kO 10 (.bin .eql 4 (ci 5)),
     kO 5 (.mv 10)])
     (.cond 5
     .skip
     (.seq (.region [
      kO 11 (.bin .eql 4 (ci 6)),
      kO 5 (.mv 11)])
      (.cond 5
      .skip
      (.seq (.region [
       kO 12 (.bin .eql 4 (ci 13)),
       kO 5 (.mv 12)])
       (.cond 5
       .skip
       (.seq (.region [
        kO 13 (.bin .eql 4 (ci 15)),
        kO 5 (.mv 13)])
        (.cond 5
        .skip
        (.seq (.region [
         kO 14 (.bin .eql 4 (ci 16)),
         kO 5 (.mv 14)])
         (.cond 5
         .skip
         (.seq (.region [
          kO 15 (.bin .eql 4 (ci 18)),
          kO 5 (.mv 15)])
          (.cond 5
          .skip
          (.seq (.region [
           kO 16 (.bin .eql 4 (ci 20)),
           kO 5 (.mv 16)])
           (.cond 5
           .skip
           (.seq (.region [
            kO 17 (.bin .eql 4 (ci 21)),
            kO 5 (.mv 17)])
            (.cond 5
            .skip
            (.seq (.region [
             kO 18 (.bin .eql 4 (ci 22)),
             kO 5 (.mv 18)])
             (.cond 5
             .skip
             (.region [
              kO 19 (.bin .eql 4 (ci 32)),
              kO 5 (.mv 19)])))))))))))))))))))))))))))
 y1ei)
def y15c : CCode :=
  (.block 0 y112)
def y158 : CCode :=
  (.seq (.region [
 kO 3 (.fa 0 1),
 kO 4 (.ld false 1 3)])
 y15c)
def y1bz : CCode :=
  (.seq y158
 y1gd)
def y15w : CCode :=
  (.seq (.region [
 kO 1 (.box (some 0) 0),
 kO 2 (.mv (ci 0))])
 y1bz)
def y21h : CFunc :=
  ⟨1, true, 1, y15w, [.t 2]⟩
def ywp : CCode :=
  (.seq (.region [
 kO 5 (.buildS (some 0) 1 0 [(.int .i64 0)] []),
 kO 6 (.mv 0),
 kO 7 (.app (some 1) 1 8 5 6),
 kO 2 (.mv 7)])
 .ret)
def yrr : CCode :=
  (.seq (.seq (.region [
 kO 3 (.mv 0),
 kO 4 (.eqn 1 false 3 (.c .nils))])
 (.cond 4
 (.seq (.region [
  kO 2 (.mv (.c .nils))])
  .ret)
 .skip))
 ywp)
def ys6 : CCode :=
  (.seq (.region [
 kO 2 (.mv (.c .nils))])
 yrr)
def y1q6 : CFunc :=
  ⟨1, true, 2, ys6, [.t 2]⟩
def ypd : CCode :=
  (.seq (.region [
 kO 5 (.buildS (some 0) 9 0 [(.int .i64 0), (.int .i64 0), (.int .i64 0), (.int .i64 0), (.int .i64 0), (.int .i64 0), (.int .i64 0), (.str []), .nils] []),
 kO 6 (.mv 0),
 kO 7 (.app (some 1) 9 96 5 6),
 kO 2 (.mv 7)])
 .ret)
def yq3 : CCode :=
  (.seq (.seq (.region [
 kO 3 (.mv 0),
 kO 4 (.eqn 1 false 3 (.c .nils))])
 (.cond 4
 (.seq (.region [
  kO 2 (.mv (.c .nils))])
  .ret)
 .skip))
 ypd)
def yt3 : CCode :=
  (.seq (.region [
 kO 2 (.mv (.c .nils))])
 yq3)
def y1pj : CFunc :=
  ⟨1, true, 2, yt3, [.t 2]⟩
def ytd : CCode :=
  (.seq (.region [
 kO 5 (.buildS (some 0) 4 0 [(.int .i64 0), (.int .i64 0), (.int .i64 0), (.str [])] []),
 kO 6 (.mv 0),
 kO 7 (.app (some 1) 4 40 5 6),
 kO 2 (.mv 7)])
 .ret)
def ypw : CCode :=
  (.seq (.seq (.region [
 kO 3 (.mv 0),
 kO 4 (.eqn 1 false 3 (.c .nils))])
 (.cond 4
 (.seq (.region [
  kO 2 (.mv (.c .nils))])
  .ret)
 .skip))
 ytd)
def ytu : CCode :=
  (.seq (.region [
 kO 2 (.mv (.c .nils))])
 ypw)
def y1q4 : CFunc :=
  ⟨1, true, 2, ytu, [.t 2]⟩
def y0r : CCode :=
  (.seq (.region [
 kO 1 (.box (some 0) 0),
 kO 2 (.mv (.c (.bool false)))])
 (.seq (.region [
 kO 3 (.fa 0 1),
 kO 4 (.ld false 1 3),
 kO 5 (.bin .eql 4 (ci 27)),
 kO 6 (.mv 5),
 kG 7 (.fa 0 1) 6 false,
 kG 8 (.ld false 1 7) 6 false,
 kG 9 (.bin .eql 8 (ci 30)) 6 false,
 kO 10 (.pick 6 (.c (.bool true)) 9),
 kO 11 (.mv 10),
 kG 12 (.fa 0 1) 11 false,
 kG 13 (.ld false 1 12) 11 false,
 kG 14 (.bin .eql 13 (ci 31)) 11 false,
 kO 15 (.pick 11 (.c (.bool true)) 14),
 kO 2 (.mv 15)])
 .ret))
def y1zg : CFunc :=
  ⟨1, true, 1, y0r, [.t 2]⟩
def yvd : CCode :=
  (.seq (.region [
 kO 4 (.mv (.c (.bool false)))])
 (.seq (.region [
 kO 5 (.mv 0),
 kO 6 (.mv 1),
 kO 7 (.call none true 45 [5, 6]),
 kO 8 (.bin .geq 7 (ci 0)),
 kO 4 (.mv 8)])
 .ret))
def y1pk : CFunc :=
  ⟨2, true, 0, yvd, [.t 4]⟩
def y165 : CCode :=
  (.seq (.region [
 kO 183 (.ld true 9 3),
 kO 184 (.call none true 22 [183]),
 kO 185 (.un .not 184),
 kO 186 (.mv 185),
 kG 187 (.fa 6 3) 186 false,
 kG 188 (.ld false 1 187) 186 false,
 kG 189 (.bin .geq 188 (ci 0)) 186 false,
 kG 190 (.mv 189) 186 false,
 kG 191 (.fa 6 3) 190 true,
 kG 192 (.ld false 1 191) 190 true,
 kG 193 (.fa 3 2) 190 true,
 kG 194 (.ld false 1 193) 190 true,
 kG 195 (.len 1 194) 190 true,
 kG 196 (.bin .lss 192 195) 190 true,
 kG 197 (.pick 190 196 (.c (.bool false))) 186 false,
 kO 198 (.pick 186 (.c (.bool true)) 197),
 kO 4 (.mv 198)])
 .ret)
def y1cx : CCode :=
  (.seq (.seq (.region [
 kO 105 (.fa 0 3),
 kO 106 (.ld false 1 105)])
 (.block 4 (.seq (.region [
 kO 108 (.bin .eql 106 (ci 1)),
 kO 107 (.mv 108)])
 (.cond 107
 (.seq (.region [
  kO 109 (.fa 0 2),
  kO 110 (.ld false 1 109),
  kO 111 (.fa 1 3),
  kO 112 (.ld false 1 111),
  kO 113 (.ixs 1 110 112),
  kO 114 (.ld false 1 113),
  kO 115 (.bin .neq 114 (ci 3)),
  kO 116 (.mv 115),
  kG 117 (.fa 0 2) 116 true,
  kG 118 (.ld false 1 117) 116 true,
  kG 119 (.fa 1 3) 116 true,
  kG 120 (.ld false 1 119) 116 true,
  kG 121 (.ixs 1 118 120) 116 true,
  kG 122 (.ld false 1 121) 116 true,
  kG 123 (.bin .eql 122 (ci 2)) 116 true,
  kG 124 (.mv 123) 116 true,
  kG 125 (.fa 5 3) 124 false,
  kG 126 (.ld false 1 125) 124 false,
  kG 127 (.fa 5 3) 124 false,
  kG 128 (.ld false 1 127) 124 false,
  kG 129 (.cvi .i32 128) 124 false,
  kG 130 (.cvi .i64 129) 124 false,
  kG 131 (.bin .eql 126 130) 124 false,
  kG 132 (.pick 124 (.c (.bool true)) 131) 116 true,
  kO 133 (.pick 116 132 (.c (.bool false))),
  kO 4 (.mv 133)])
  .ret)
 (.seq (.region [
  kO 135 (.bin .eql 106 (ci 4)),
  kO 134 (.mv 135)])
  (.cond 134
  (.seq (.draw [
   kO 136 (.fa 0 2),
   kO 137 (.ld false 1 136),
   kO 138 (.fa 1 3),
   kO 139 (.ld false 1 138),
   kO 140 (.ixs 1 137 139),
   kO 141 (.ld false 1 140),
   kO 142 (.fa 0 2),
   kO 143 (.ld false 1 142),
   kO 144 (.fa 2 3),
   kO 145 (.ld false 1 144),
   kO 146 (.ixs 1 143 145),
   kO 147 (.ld false 1 146),
   kO 148 (.bin .eql 141 147),
   kO 4 (.mv 148)] [])
   .ret)
  (.seq (.region [
   kO 150 (.bin .eql 106 (ci 7)),
   kO 149 (.mv 150)])
   (.cond 149
   (.seq (.region [
    kO 151 (.fa 0 2),
    kO 152 (.ld false 1 151),
    kO 153 (.fa 2 3),
    kO 154 (.ld false 1 153),
    kO 155 (.ixs 1 152 154),
    kO 156 (.ld false 1 155),
    kO 157 (.bin .neq 156 (ci 3)),
    kO 4 (.mv 157)])
    .ret)
   (.seq (.region [
    kO 159 (.bin .eql 106 (ci 30)),
    kO 158 (.mv 159)])
    (.cond 158
    (.seq (.draw [
     kO 160 (.fa 2 3),
     kO 161 (.ld false 1 160),
     kO 162 (.bin .eql 161 (ci (-1))),
     kO 163 (.fa 2 2),
     kO 164 (.ld false 1 163),
     kO 165 (.bin .eql 164 (ci 0)),
     kO 166 (.eqb false 162 165),
     kO 167 (.mv 166),
     kG 168 (.fa 2 3) 167 true,
     kG 169 (.ld false 1 168) 167 true,
     kG 170 (.bin .eql 169 (ci (-1))) 167 true,
     kG 171 (.mv 170) 167 true,
     kG 172 (.fa 0 2) 171 false,
     kG 173 (.ld false 1 172) 171 false,
     kG 174 (.fa 2 3) 171 false,
     kG 175 (.ld false 1 174) 171 false,
     kG 176 (.ixs 1 173 175) 171 false,
     kG 177 (.ld false 1 176) 171 false,
     kG 178 (.fa 2 2) 171 false,
     kG 179 (.ld false 1 178) 171 false,
     kG 180 (.bin .eql 177 179) 171 false,
     kG 181 (.pick 171 (.c (.bool true)) 180) 167 true,
     kO 182 (.pick 167 181 (.c (.bool false))),
     kO 4 (.mv 182)] [])
     .ret)
    .skip))))))))))
 y165)
def y12m : CCode :=
  (.region [
 kO 104 (.bin .add 65 (ci 1)),
 kO 65 (.mv 104)])
def y17u : CCode :=
  (.seq (.region [
 kO 73 (.mv 10),
 kO 74 (.bin .lss 73 (ci 0)),
 kO 75 (.mv 74),
 kG 76 (.mv 10) 75 false,
 kG 77 (.fa 0 2) 75 false,
 kG 78 (.ld false 1 77) 75 false,
 kG 79 (.len 1 78) 75 false,
 kG 80 (.bin .geq 76 79) 75 false,
 kO 81 (.pick 75 (.c (.bool true)) 80),
 kO 82 (.mv 81),
 kG 83 (.mv 9) 82 false,
 kG 84 (.bin .eql 83 (ci 0)) 82 false,
 kG 85 (.mv 84) 82 false,
 kG 86 (.fa 0 3) 85 true,
 kG 87 (.ld false 1 86) 85 true,
 kG 88 (.bin .eql 87 (ci 24)) 85 true,
 kG 89 (.mv 88) 85 true,
 kG 90 (.fa 0 3) 89 false,
 kG 91 (.ld false 1 90) 89 false,
 kG 92 (.bin .eql 91 (ci 25)) 89 false,
 kG 93 (.pick 89 (.c (.bool true)) 92) 85 true,
 kG 94 (.pick 85 93 (.c (.bool false))) 82 false,
 kG 95 (.mv 94) 82 false,
 kG 96 (.fa 0 2) 95 true,
 kG 97 (.ld false 1 96) 95 true,
 kG 98 (.mv 10) 95 true,
 kG 99 (.ixs 1 97 98) 95 true,
 kG 100 (.ld false 1 99) 95 true,
 kG 101 (.bin .neq 100 (ci 3)) 95 true,
 kG 102 (.pick 95 101 (.c (.bool false))) 82 false,
 kO 103 (.pick 82 (.c (.bool true)) 102)])
 (.cond 103
 (.seq (.region [
  kO 4 (.mv (.c (.bool false)))])
  .ret)
 .skip))
def y16b : CCode :=
  (.seq (.seq (.region [
 kO 70 (.ld true 9 3),
 kO 71 (.call none true 17 [70]),
 kO 72 (.un .not 71)])
 (.cond 72
 (.exit 2)
 .skip))
 y17u)
def y17t : CCode :=
  (.seq (.region [
 kO 67 (.mv 65),
 kO 68 (.ixs 1 63 65),
 kO 69 (.ld false 1 68),
 kO 9 (.mv 67),
 kO 10 (.mv 69)])
 y16b)
def y19t : CCode :=
  (.block 3 y17t)
def y114 : CCode :=
  (.seq y19t
 y12m)
def yqx : CCode :=
  (.seq (.cond 66
 .skip
 (.exit 2))
 y114)
def ys1 : CCode :=
  (.seq (.region [
 kO 66 (.bin .lss 65 64)])
 yqx)
def yke : CCode :=
  (.loop [2, 3, 63, 64, 65] ys1)
def yqk : CCode :=
  (.block 2 yke)
def yqj : CCode :=
  (.seq (.region [
 kO 62 (.fa 8 3),
 kO 63 (.ld false 1 62),
 kO 64 (.len 1 63),
 kO 65 (.mv (ci 0))])
 yqk)
def yp0 : CCode :=
  (.seq yqj
 y1cx)
def ys9 : CCode :=
  (.region [
 kO 61 (.bin .add 27 (ci 1)),
 kO 27 (.mv 61)])
def yp3 : CCode :=
  (.seq (.draw [
 kO 35 (.mv 8),
 kO 36 (.bin .lss 35 (ci 0)),
 kO 37 (.mv 36),
 kG 38 (.mv 8) 37 false,
 kG 39 (.fa 0 2) 37 false,
 kG 40 (.ld false 1 39) 37 false,
 kG 41 (.len 1 40) 37 false,
 kG 42 (.bin .geq 38 41) 37 false,
 kO 43 (.pick 37 (.c (.bool true)) 42),
 kO 44 (.mv 43),
 kG 45 (.mv 7) 44 false,
 kG 46 (.ixa 4 1 5 45) 44 false,
 kG 47 (.ld false 1 46) 44 false,
 kG 48 (.bin .gtr 47 (ci 0)) 44 false,
 kG 49 (.mv 48) 44 false,
 kG 50 (.fa 0 2) 49 true,
 kG 51 (.ld false 1 50) 49 true,
 kG 52 (.mv 8) 49 true,
 kG 53 (.ixs 1 51 52) 49 true,
 kG 54 (.ld false 1 53) 49 true,
 kG 55 (.mv 7) 49 true,
 kG 56 (.ixa 4 1 5 55) 49 true,
 kG 57 (.ld false 1 56) 49 true,
 kG 58 (.bin .neq 54 57) 49 true,
 kG 59 (.pick 49 58 (.c (.bool false))) 44 false,
 kO 60 (.pick 44 (.c (.bool true)) 59)] [])
 (.cond 60
 (.seq (.region [
  kO 4 (.mv (.c (.bool false)))])
  .ret)
 .skip))
def ypc : CCode :=
  (.seq (.seq (.region [
 kO 31 (.mv 7),
 kO 32 (.ixa 4 1 5 31),
 kO 33 (.ld false 1 32),
 kO 34 (.bin .lss 33 (ci 0))])
 (.cond 34
 (.exit 1)
 .skip))
 yp3)
def yx4 : CCode :=
  (.seq (.region [
 kO 29 (.mv 27),
 kO 30 (.ixv false 4 1 26 27),
 kO 7 (.mv 29),
 kO 8 (.mv 30)])
 ypc)
def yqq : CCode :=
  (.block 1 yx4)
def yq9 : CCode :=
  (.seq yqq
 ys9)
def ywz : CCode :=
  (.seq (.cond 28
 .skip
 (.exit 0))
 yq9)
def ytv : CCode :=
  (.seq (.region [
 kO 28 (.bin .lss 27 (ci 4))])
 ywz)
def ye2 : CCode :=
  (.loop [2, 3, 5, 26, 27] ytv)
def yuq : CCode :=
  (.block 0 ye2)
def ys3 : CCode :=
  (.seq (.region [
 kO 18 (.fa 1 3),
 kO 19 (.ld false 1 18),
 kO 20 (.fa 2 3),
 kO 21 (.ld false 1 20),
 kO 22 (.fa 3 3),
 kO 23 (.ld false 1 22),
 kO 24 (.fa 4 3),
 kO 25 (.ld false 1 24),
 kO 26 (.build [(.int .i64 0), (.int .i64 0), (.int .i64 0), (.int .i64 0)] [(0, 1, 19), (1, 1, 21), (2, 1, 23), (3, 1, 25)]),
 kO 27 (.mv (ci 0))])
 yuq)
def yp8 : CCode :=
  (.seq ys3
 yp0)
def yqs : CCode :=
  (.seq (.seq (.region [
 kO 16 (.mv 6),
 kO 17 (.un .not 16)])
 (.cond 17
 (.seq (.region [
  kO 4 (.mv (.c (.bool false)))])
  .ret)
 .skip))
 yp8)
def yxg : CCode :=
  (.seq (.region [
 kO 12 (.ld true 9 3),
 kO 13 (.call none true 47 [12]),
 kO 11 (.mv 13),
 kO 14 (.ext 0 11),
 kO 15 (.ext 1 11),
 kO 5 (.new (some 2) [(.int .i64 0), (.int .i64 0), (.int .i64 0), (.int .i64 0)]),
 kU (.st 4 5 14),
 kO 6 (.mv 15)])
 yqs)
def yq7 : CCode :=
  (.seq (.region [
 kO 2 (.box (some 0) 0),
 kO 3 (.box (some 1) 1),
 kO 4 (.mv (.c (.bool false)))])
 yxg)
def y22v : CFunc :=
  ⟨2, true, 3, yq7, [.t 4]⟩
def y1ch : CCode :=
  (.seq (.region [
 kO 1 (.box (some 0) 0),
 kO 2 (.mv (.c (.bool false)))])
 (.seq (.region [
 kO 3 (.fa 0 1),
 kO 4 (.ld false 1 3),
 kO 5 (.bin .eql 4 (ci 27)),
 kO 6 (.mv 5),
 kG 7 (.fa 0 1) 6 false,
 kG 8 (.ld false 1 7) 6 false,
 kG 9 (.bin .eql 8 (ci 28)) 6 false,
 kO 10 (.pick 6 (.c (.bool true)) 9),
 kO 11 (.mv 10),
 kG 12 (.fa 0 1) 11 false,
 kG 13 (.ld false 1 12) 11 false,
 kG 14 (.bin .eql 13 (ci 29)) 11 false,
 kO 15 (.pick 11 (.c (.bool true)) 14),
 kO 2 (.mv 15)])
 .ret))
def y1z6 : CFunc :=
  ⟨1, true, 1, y1ch, [.t 2]⟩
def y1bf : CCode :=
  (.seq (.region [
 kO 52 (.mv 3),
 kO 2 (.mv 52)])
 .ret)
def y12q : CCode :=
  (.seq (.region [
 kO 39 (.mv 3),
 kO 40 (.mv 5),
 kO 41 (.ixs 1 39 40),
 kU (.st 1 41 (.c (.bool true)))])
 (.seq (.region [
 kO 42 (.mv 4),
 kO 43 (.ld true 5 1),
 kO 44 (.mv 5),
 kO 45 (.call none true 81 [43, 44]),
 kO 46 (.app (some 3) 1 8 42 45),
 kO 4 (.mv 46)])
 (.region [
 kO 47 (.mv 4),
 kO 48 (.ld true 5 1),
 kO 49 (.mv 5),
 kO 50 (.call none true 79 [48, 49]),
 kO 51 (.app (some 4) 1 8 47 50),
 kO 4 (.mv 51)])))
def y14t : CCode :=
  (.seq (.seq (.region [
 kO 25 (.mv 5),
 kO 26 (.bin .lss 25 (ci 0)),
 kO 27 (.mv 26),
 kG 28 (.mv 5) 27 false,
 kG 29 (.mv 3) 27 false,
 kG 30 (.len 1 29) 27 false,
 kG 31 (.bin .geq 28 30) 27 false,
 kO 32 (.pick 27 (.c (.bool true)) 31),
 kO 33 (.mv 32),
 kG 34 (.mv 3) 33 false,
 kG 35 (.mv 5) 33 false,
 kG 36 (.ixs 1 34 35) 33 false,
 kG 37 (.ld false 1 36) 33 false,
 kO 38 (.pick 33 (.c (.bool true)) 37)])
 (.cond 38
 (.exit 1)
 .skip))
 y12q)
def y1fz : CCode :=
  (.seq (.region [
 kO 20 (.mv 4),
 kO 21 (.mv 4),
 kO 22 (.len 1 21),
 kO 23 (.bin .sub 22 (ci 1)),
 kO 24 (.slc 1 20 none (some 23)),
 kO 4 (.mv 24)])
 y14t)
def y1da : CCode :=
  (.seq (.region [
 kO 14 (.mv 4),
 kO 15 (.mv 4),
 kO 16 (.len 1 15),
 kO 17 (.bin .sub 16 (ci 1)),
 kO 18 (.ixs 1 14 17),
 kO 19 (.ld false 1 18),
 kO 5 (.mv 19)])
 y1fz)
def y1bm : CCode :=
  (.block 1 y1da)
def y0l : CCode :=
  (.seq (.seq (.region [
 kO 11 (.mv 4),
 kO 12 (.len 1 11),
 kO 13 (.bin .gtr 12 (ci 0))])
 (.cond 13
 .skip
 (.exit 0)))
 y1bm)
def yjt : CCode :=
  (.loop [1, 3, 4] y0l)
def y194 : CCode :=
  (.block 0 yjt)
def yww : CCode :=
  (.seq y194
 y1bf)
def yxm : CCode :=
  (.seq (.region [
 kO 10 (.buildS (some 2) 1 1 [(.int .i64 0)] [(0, (ci 0))]),
 kO 4 (.mv 10)])
 yww)
def yw2 : CCode :=
  (.seq (.region [
 kO 6 (.fa 3 1),
 kO 7 (.ld false 1 6),
 kO 8 (.len 1 7),
 kO 9 (.mkS (some 1) 1 1 [(.bool false)] 8 8),
 kO 3 (.mv 9)])
 yxm)
def yvn : CCode :=
  (.seq (.region [
 kO 1 (.box (some 0) 0),
 kO 2 (.mv (.c .nils))])
 yw2)
def y1zj : CFunc :=
  ⟨1, true, 5, yvn, [.t 2]⟩
def y1eo : CCode :=
  (.region [
 kO 36 (.ld false 1 3),
 kO 37 (.mv 0),
 kO 38 (.buildS (some 0) 1 1 [(.int .i64 0)] [(0, 37)]),
 kO 39 (.app (some 1) 1 8 36 38),
 kU (.st 1 3 39)])
def y1ep : CCode :=
  (.region [
 kO 21 (.ld false 1 2),
 kO 22 (.mv 0),
 kO 23 (.mv 6),
 kO 24 (.ixs 1 21 22),
 kU (.st 1 24 23)])
def y17q : CCode :=
  (.seq (.seq (.draw [
 kO 13 (.mv 6),
 kO 14 (.len 2 13),
 kO 15 (.ld false 1 2),
 kO 16 (.mv 0),
 kO 17 (.ixs 1 15 16),
 kO 18 (.ld false 1 17),
 kO 19 (.len 2 18),
 kO 20 (.bin .eql 14 19)] [])
 (.cond 20
 .ret
 .skip))
 y1ep)
def y18c : CCode :=
  (.seq (.region [
 kO 7 (.ld false 1 2),
 kO 8 (.mv 0),
 kO 9 (.ixs 1 7 8),
 kO 10 (.ld false 1 9),
 kO 11 (.mv 1),
 kO 12 (.call none true 170 [10, 11]),
 kO 6 (.mv 12)])
 y17q)
def y14q : CCode :=
  (.cond 25
 (.draw [
  kO 31 (.ld false 1 2),
  kO 32 (.mv 0),
  kO 33 (.mv 1),
  kO 34 (.call none true 161 [33]),
  kO 35 (.ixs 1 31 32),
  kU (.st 1 35 34)] [(0, 3)])
 y18c)
def y15y : CCode :=
  (.seq (.region [
 kO 26 (.ld false 1 2),
 kO 27 (.mv 0),
 kO 28 (.ixs 1 26 27),
 kO 29 (.ld false 1 28),
 kO 30 (.eqn 2 false 29 (.c .nilm)),
 kO 25 (.mv 30)])
 y14q)
def y172 : CCode :=
  (.block 0 y15y)
def y1dd : CCode :=
  (.seq y172
 y1eo)
def y245 : CFunc :=
  ⟨4, false, 2, y1dd, []⟩
def y1b1 : CCode :=
  (.seq (.region [
 kO 19 (.mv 5),
 kO 4 (.mv 19)])
 .ret)
def y1a8 : CCode :=
  (.seq (.region [
 kO 14 (.mv 1),
 kO 15 (.ld true 3 6),
 kO 16 (.mget true [0, 0, 0] (.bool false) false 14 15)])
 (.cond 16
 (.region [
  kO 17 (.mv 5),
  kO 18 (.ld true 3 6),
  kU (.mput true [0, 0, 0] 17 18 (.c (.bool true)))])
 .skip))
def y0u : CCode :=
  (.mrange [
 kO 8 (.mv 0)] 8 [1, 5] 12 [
 kO 13 (.ext 0 12),
 kO 6 (.new (some 1) [(.int .i64 0), (.int .i64 0), (.int .i64 0)]),
 kU (.st 3 6 13)] (.kill [1] y1a8))
def y1fr : CCode :=
  (.seq y0u
 y1b1)
def y113 : CCode :=
  (.seq (.region [
 kO 7 (.mkm (some 0)),
 kO 5 (.mv 7)])
 y1fr)
def y1cp : CCode :=
  (.seq (.region [
 kO 4 (.mv (.c .nilm))])
 y113)
def y21s : CFunc :=
  ⟨2, true, 2, y1cp, [.t 4]⟩
def y1bv : CCode :=
  (.seq (.region [
 kO 57 (.mv 5),
 kO 4 (.mv 57)])
 .ret)
def y13d : CCode :=
  (.region [
 kO 56 (.bin .add 29 (ci 1)),
 kO 29 (.mv 56)])
def y14j : CCode :=
  (.seq (.region [
 kO 53 (.fa 3 7),
 kO 54 (.ld false 1 53),
 kO 55 (.bin .eql 54 (.c (.str [])))])
 (.cond 55
 (.exit 0)
 .skip))
def y12y : CCode :=
  (.seq (.seq (.region [
 kO 43 (.mv 5),
 kO 44 (.fa 2 7),
 kO 45 (.ld false 1 44),
 kO 46 (.call none true 46 [43, 45]),
 kO 47 (.un .not 46)])
 (.cond 47
 (.region [
  kO 48 (.mv 5),
  kO 49 (.fa 2 7),
  kO 50 (.ld false 1 49),
  kO 51 (.buildS (some 2) 1 1 [(.int .i64 0)] [(0, 50)]),
  kO 52 (.app (some 3) 1 8 48 51),
  kO 5 (.mv 52)])
 .skip))
 y14j)
def y1fq : CCode :=
  (.seq (.seq (.region [
 kO 33 (.mv 1),
 kO 34 (.fa 0 7),
 kO 35 (.ld false 1 34),
 kO 36 (.bin .lss 33 35),
 kO 37 (.mv 36),
 kG 38 (.mv 1) 37 false,
 kG 39 (.fa 1 7) 37 false,
 kG 40 (.ld false 1 39) 37 false,
 kG 41 (.bin .geq 38 40) 37 false,
 kO 42 (.pick 37 (.c (.bool true)) 41)])
 (.cond 42
 (.exit 1)
 .skip))
 y12y)
def y15t : CCode :=
  (.seq (.region [
 kO 31 (.ixs 4 27 29),
 kO 32 (.ld true 4 31),
 kO 7 (.new (some 1) [(.int .i64 0), (.int .i64 0), (.int .i64 0), (.str [])]),
 kU (.st 4 7 32)])
 y1fq)
def y16e : CCode :=
  (.block 1 y15t)
def y14i : CCode :=
  (.seq y16e
 y13d)
def yvz : CCode :=
  (.seq (.cond 30
 .skip
 (.exit 0))
 y14i)
def yxt : CCode :=
  (.seq (.region [
 kO 30 (.bin .lss 29 28)])
 yvz)
def ykc : CCode :=
  (.loop [1, 5, 27, 28, 29] yxt)
def yxs : CCode :=
  (.block 0 ykc)
def yr8 : CCode :=
  (.seq (.region [
 kO 26 (.fa 4 2),
 kO 27 (.ld false 1 26),
 kO 28 (.len 1 27),
 kO 29 (.mv (ci 0))])
 yxs)
def yp2 : CCode :=
  (.seq yr8
 y1bv)
def ywj : CCode :=
  (.seq (.region [
 kO 5 (.mv (.c .nils))])
 yp2)
def ywt : CCode :=
  (.seq (.seq (.region [
 kO 8 (.mv 1),
 kO 9 (.bin .lss 8 (ci 0)),
 kO 10 (.mv 9),
 kG 11 (.mv 1) 10 false,
 kG 12 (.fa 3 2) 10 false,
 kG 13 (.ld false 1 12) 10 false,
 kG 14 (.len 1 13) 10 false,
 kG 15 (.bin .geq 11 14) 10 false,
 kO 16 (.pick 10 (.c (.bool true)) 15),
 kO 17 (.mv 16),
 kG 18 (.fa 3 2) 17 false,
 kG 19 (.ld false 1 18) 17 false,
 kG 20 (.mv 1) 17 false,
 kG 21 (.ixs 9 19 20) 17 false,
 kG 22 (.ld true 9 21) 17 false,
 kG 23 (.call none true 18 [22]) 17 false,
 kG 24 (.un .not 23) 17 false,
 kO 25 (.pick 17 (.c (.bool true)) 24)])
 (.cond 25
 (.seq (.region [
  kO 4 (.mv (.c .nils))])
  .ret)
 .skip))
 ywj)
def yvr : CCode :=
  (.seq (.region [
 kO 2 (.box (some 0) 0),
 kO 4 (.mv (.c .nils))])
 ywt)
def y22o : CFunc :=
  ⟨2, true, 4, yvr, [.t 4]⟩
def y16q : CCode :=
  (.seq (.region [
 kO 87 (.mv 5),
 kO 4 (.mv 87)])
 .ret)
def y11r : CCode :=
  (.seq (.region [
 kO 64 (.fa 1 10),
 kO 65 (.ld false 1 64),
 kO 66 (.fa 2 3),
 kO 67 (.ld false 1 66),
 kO 68 (.bin .eql 65 67),
 kO 69 (.mv 68),
 kG 70 (.fa 2 10) 69 true,
 kG 71 (.ld false 1 70) 69 true,
 kG 72 (.bin .eql 71 (ci (-1))) 69 true,
 kO 73 (.pick 69 72 (.c (.bool false)))])
 (.cond 73
 (.region [
  kO 74 (.mv 5),
  kO 75 (.fa 0 10),
  kO 76 (.ld false 1 75),
  kO 77 (.mv 8),
  kO 78 (.build [(.int .i64 0), (.int .i64 0), (.int .i64 0)] [(0, 1, 76), (1, 1, 77), (2, 1, (ci (-1)))]),
  kU (.mput true [0, 0, 0] 74 78 (.c (.bool true)))])
 .skip))
def y19w : CCode :=
  (.mrange [
 kO 58 (.mv 0)] 58 [3, 5, 8] 62 [
 kO 63 (.ext 0 62),
 kO 10 (.new (some 4) [(.int .i64 0), (.int .i64 0), (.int .i64 0)]),
 kU (.st 3 10 63)] (.kill [4] y11r))
def y15r : CCode :=
  (.cond 79
 (.region [
  kO 84 (.mv 5),
  kO 85 (.mv 8),
  kO 86 (.build [(.int .i64 0), (.int .i64 0), (.int .i64 0)] [(0, 1, (ci 8)), (1, 1, 85), (2, 1, (ci (-1)))]),
  kU (.mput true [0, 0, 0] 84 86 (.c (.bool true)))])
 .skip)
def y143 : CCode :=
  (.seq (.seq (.region [
 kO 80 (.bin .eql 55 (ci 20)),
 kO 79 (.mv 80)])
 (.cond 79
 .skip
 (.seq (.region [
  kO 81 (.bin .eql 55 (ci 21)),
  kO 79 (.mv 81)])
  (.cond 79
  .skip
  (.seq (.region [
   kO 82 (.bin .eql 55 (ci 3)),
   kO 79 (.mv 82)])
   (.cond 79
   .skip
   (.region [
    kO 83 (.bin .eql 55 (ci 32)),
    kO 79 (.mv 83)])))))))
 y15r)
def y1f8 : CCode :=
  (.cond 56
 y19w
 y143)
def y186 : CCode :=
  (.seq (.region [
 kO 57 (.bin .eql 55 (ci 4)),
 kO 56 (.mv 57)])
 y1f8)
def y12r : CCode :=
  (.block 2 y186)
def y1g3 : CCode :=
  (.seq (.region [
 kO 54 (.fa 0 3),
 kO 55 (.ld false 1 54)])
 y12r)
def yt5 : CCode :=
  (.seq y1g3
 y16q)
def ypg : CCode :=
  (.seq (.region [
 kO 42 (.fa 1 9),
 kO 43 (.ld false 1 42),
 kO 44 (.mv 8),
 kO 45 (.bin .eql 43 44),
 kO 46 (.mv 45),
 kG 47 (.fa 2 9) 46 false,
 kG 48 (.ld false 1 47) 46 false,
 kG 49 (.mv 8) 46 false,
 kG 50 (.bin .eql 48 49) 46 false,
 kO 51 (.pick 46 (.c (.bool true)) 50)])
 (.cond 51
 (.region [
  kO 52 (.mv 5),
  kO 53 (.ld true 3 9),
  kU (.mdel true [0, 0, 0] 52 53)])
 .skip))
def yw3 : CCode :=
  (.mrange [
 kO 36 (.mv 0)] 36 [0, 3, 5, 8] 40 [
 kO 41 (.ext 0 40),
 kO 9 (.new (some 3) [(.int .i64 0), (.int .i64 0), (.int .i64 0)]),
 kU (.st 3 9 41)] (.kill [3] ypg))
def yp1 : CCode :=
  (.seq yw3
 yt5)
def yvq : CCode :=
  (.seq (.seq (.region [
 kO 26 (.fa 0 3),
 kO 27 (.ld false 1 26),
 kO 28 (.bin .eql 27 (ci 4)),
 kO 29 (.mv 28),
 kG 30 (.fa 2 3) 29 true,
 kG 31 (.ld false 1 30) 29 true,
 kG 32 (.mv 8) 29 true,
 kG 33 (.bin .eql 31 32) 29 true,
 kO 34 (.pick 29 33 (.c (.bool false)))])
 (.cond 34
 (.seq (.region [
  kO 35 (.mv 5),
  kO 4 (.mv 35)])
  .ret)
 .skip))
 yp1)
def yxi : CCode :=
  (.seq (.seq (.region [
 kO 23 (.mv 8),
 kO 24 (.bin .lss 23 (ci 0))])
 (.cond 24
 (.seq (.region [
  kO 25 (.mv 5),
  kO 4 (.mv 25)])
  .ret)
 .skip))
 yvq)
def yxz : CCode :=
  (.seq (.region [
 kO 21 (.ld true 9 3),
 kO 22 (.call none true 9 [21]),
 kO 8 (.mv 22)])
 yxi)
def yp5 : CCode :=
  (.seq (.seq (.region [
 kO 14 (.ld true 9 3),
 kO 15 (.call none true 169 [14]),
 kO 13 (.mv 15),
 kO 16 (.ext 0 13),
 kO 17 (.ext 1 13),
 kO 6 (.new (some 2) [(.int .i64 0), (.int .i64 0), (.int .i64 0)]),
 kU (.st 3 6 16),
 kO 7 (.mv 17)])
 (.seq (.region [
 kO 18 (.mv 7)])
 (.cond 18
 (.region [
  kO 19 (.mv 5),
  kO 20 (.ld true 3 6),
  kU (.mput true [0, 0, 0] 19 20 (.c (.bool true)))])
 .skip)))
 yxz)
def yqb : CCode :=
  (.seq (.region [
 kO 11 (.mv 0),
 kO 12 (.call (some 1) false 161 [11]),
 kO 5 (.mv 12)])
 yp5)
def yy1 : CCode :=
  (.seq (.region [
 kO 3 (.box (some 0) 1),
 kO 4 (.mv (.c .nilm))])
 yqb)
def y22e : CFunc :=
  ⟨2, true, 5, yy1, [.t 4]⟩
def y12a : CCode :=
  (.seq (.region [
 kO 43 (.mv 6),
 kO 4 (.mv 43)])
 .ret)
def y111 : CCode :=
  (.seq (.seq (.region [
 kO 29 (.ld true 9 5),
 kO 30 (.call none true 22 [29]),
 kO 31 (.mv 30),
 kG 32 (.mv 6) 31 true,
 kG 33 (.fa 6 5) 31 true,
 kG 34 (.ld false 1 33) 31 true,
 kG 35 (.call none true 46 [32, 34]) 31 true,
 kG 36 (.un .not 35) 31 true,
 kO 37 (.pick 31 36 (.c (.bool false)))])
 (.cond 37
 (.region [
  kO 38 (.mv 6),
  kO 39 (.fa 6 5),
  kO 40 (.ld false 1 39),
  kO 41 (.buildS (some 4) 1 1 [(.int .i64 0)] [(0, 40)]),
  kO 42 (.app (some 5) 1 8 38 41),
  kO 6 (.mv 42)])
 .skip))
 y12a)
def y17x : CCode :=
  (.seq (.seq (.region [
 kO 21 (.ld true 9 5),
 kO 22 (.call none true 24 [21]),
 kO 23 (.un .not 22)])
 (.cond 23
 (.region [
  kO 24 (.mv 6),
  kO 25 (.mv 1),
  kO 26 (.bin .add 25 (ci 1)),
  kO 27 (.buildS (some 2) 1 1 [(.int .i64 0)] [(0, 26)]),
  kO 28 (.app (some 3) 1 8 24 27),
  kO 6 (.mv 28)])
 .skip))
 y111)
def y1h6 : CCode :=
  (.seq (.region [
 kO 6 (.mv (.c .nils))])
 y17x)
def y1fe : CCode :=
  (.seq (.region [
 kO 16 (.fa 3 2),
 kO 17 (.ld false 1 16),
 kO 18 (.mv 1),
 kO 19 (.ixs 9 17 18),
 kO 20 (.ld true 9 19),
 kO 5 (.new (some 1) [(.int .i64 0), (.int .i64 0), (.int .i64 0), (.int .i64 0), (.int .i64 0), (.int .i64 0), (.int .i64 0), (.str []), .nils]),
 kU (.st 9 5 20)])
 y1h6)
def y1et : CCode :=
  (.seq (.seq (.region [
 kO 7 (.mv 1),
 kO 8 (.bin .lss 7 (ci 0)),
 kO 9 (.mv 8),
 kG 10 (.mv 1) 9 false,
 kG 11 (.fa 3 2) 9 false,
 kG 12 (.ld false 1 11) 9 false,
 kG 13 (.len 1 12) 9 false,
 kG 14 (.bin .geq 10 13) 9 false,
 kO 15 (.pick 9 (.c (.bool true)) 14)])
 (.cond 15
 (.seq (.region [
  kO 4 (.mv (.c .nils))])
  .ret)
 .skip))
 y1fe)
def y132 : CCode :=
  (.seq (.region [
 kO 2 (.box (some 0) 0),
 kO 4 (.mv (.c .nils))])
 y1et)
def y218 : CFunc :=
  ⟨2, true, 6, y132, [.t 4]⟩
def y1gc : CCode :=
  (.seq (.region [
 kO 24 (.build [(.int .i64 0), (.int .i64 0), (.int .i64 0)] []),
 kU (.st 3 2 24),
 kO 3 (.mv (.c (.bool false)))])
 .ret)
def y18f : CCode :=
  (.cond 6
 (.seq (.region [
  kO 10 (.fa 0 1),
  kO 11 (.ld false 1 10),
  kO 12 (.fa 2 1),
  kO 13 (.ld false 1 12),
  kO 14 (.build [(.int .i64 0), (.int .i64 0), (.int .i64 0)] [(0, 1, 11), (1, 1, 13), (2, 1, (ci (-1)))]),
  kU (.st 3 2 14),
  kO 3 (.mv (.c (.bool true)))])
  .ret)
 (.seq (.region [
  kO 16 (.bin .eql 5 (ci 9)),
  kO 15 (.mv 16)])
  (.cond 15
  (.seq (.region [
   kO 17 (.fa 0 1),
   kO 18 (.ld false 1 17),
   kO 19 (.fa 2 1),
   kO 20 (.ld false 1 19),
   kO 21 (.fa 3 1),
   kO 22 (.ld false 1 21),
   kO 23 (.build [(.int .i64 0), (.int .i64 0), (.int .i64 0)] [(0, 1, 18), (1, 1, 20), (2, 1, 22)]),
   kU (.st 3 2 23),
   kO 3 (.mv (.c (.bool true)))])
   .ret)
  .skip)))
def y12j : CCode :=
  (.seq (.seq (.region [
 kO 7 (.bin .eql 5 (ci 7)),
 kO 6 (.mv 7)])
 (.cond 6
 .skip
 (.seq (.region [
  kO 8 (.bin .eql 5 (ci 8)),
  kO 6 (.mv 8)])
  (.cond 6
  .skip
  (.region [
   kO 9 (.bin .eql 5 (ci 10)),
   kO 6 (.mv 9)])))))
 y18f)
def y19m : CCode :=
  (.block 0 y12j)
def y1aa : CCode :=
  (.seq (.region [
 kO 4 (.fa 0 1),
 kO 5 (.ld false 1 4)])
 y19m)
def y19x : CCode :=
  (.seq y1aa
 y1gc)
def y18w : CCode :=
  (.seq (.region [
 kO 1 (.box (some 0) 0),
 kO 2 (.new (some 1) [(.int .i64 0), (.int .i64 0), (.int .i64 0)]),
 kO 3 (.mv (.c (.bool false)))])
 y19x)
def y22p : CFunc :=
  ⟨1, true, 2, y18w, [.cell 2 true 3, .t 3]⟩
def y1jf : CCode :=
  (.seq (.region [
 kO 105 (.mv 3),
 kO 2 (.mv 105)])
 .ret)
def y1ii : CCode :=
  (.region [
 kO 14 (.mv 4),
 kO 15 (.bin .add 14 (ci 1)),
 kO 4 (.mv 15)])
def y1ku : CCode :=
  (.seq (.region [
 kO 100 (.mv 5)])
 (.cond 100
 (.region [
  kO 101 (.mv 3),
  kO 102 (.mv 4),
  kO 103 (.buildS (some 1) 1 1 [(.int .i64 0)] [(0, 102)]),
  kO 104 (.app (some 2) 1 8 101 103),
  kO 3 (.mv 104)])
 .skip))
def y1ma : CCode :=
  (.region [
 kO 70 (.mv 8),
 kO 71 (.bin .add 70 (ci 1)),
 kO 8 (.mv 71)])
def y1nz : CCode :=
  (.seq (.block 5 (.region [
 kO 72 (.fa 4 1),
 kO 73 (.ld false 1 72),
 kO 74 (.mv 8),
 kO 75 (.ixs 4 73 74),
 kO 76 (.fa 0 75),
 kO 77 (.ld false 1 76),
 kO 78 (.mv 4),
 kO 79 (.bin .eql 77 78),
 kO 80 (.mv 79),
 kG 81 (.fa 4 1) 80 false,
 kG 82 (.ld false 1 81) 80 false,
 kG 83 (.mv 8) 80 false,
 kG 84 (.ixs 4 82 83) 80 false,
 kG 85 (.fa 1 84) 80 false,
 kG 86 (.ld false 1 85) 80 false,
 kG 87 (.mv 4) 80 false,
 kG 88 (.bin .eql 86 87) 80 false,
 kO 89 (.pick 80 (.c (.bool true)) 88),
 kO 90 (.mv 89),
 kG 91 (.fa 4 1) 90 false,
 kG 92 (.ld false 1 91) 90 false,
 kG 93 (.mv 8) 90 false,
 kG 94 (.ixs 4 92 93) 90 false,
 kG 95 (.fa 2 94) 90 false,
 kG 96 (.ld false 1 95) 90 false,
 kG 97 (.mv 4) 90 false,
 kG 98 (.bin .eql 96 97) 90 false,
 kO 99 (.pick 90 (.c (.bool true)) 98),
 kO 5 (.mv 99)]))
 y1ma)
def y1kt : CCode :=
  (.seq (.seq (.region [
 kO 61 (.mv 8),
 kO 62 (.fa 4 1),
 kO 63 (.ld false 1 62),
 kO 64 (.len 1 63),
 kO 65 (.bin .lss 61 64),
 kO 66 (.mv 65),
 kG 67 (.mv 5) 66 true,
 kG 68 (.un .not 67) 66 true,
 kO 69 (.pick 66 68 (.c (.bool false)))])
 (.cond 69
 .skip
 (.exit 4)))
 y1nz)
def y1c4 : CCode :=
  (.loop [1, 3, 4, 5, 8] y1kt)
def y1ip : CCode :=
  (.block 4 y1c4)
def y15i : CCode :=
  (.seq (.region [
 kO 8 (.mv (ci 0))])
 y1ip)
def y1c5 : CCode :=
  (.seq y15i
 y1ku)
def y1h3 : CCode :=
  (.region [
 kO 42 (.mv 7),
 kO 43 (.bin .add 42 (ci 1)),
 kO 7 (.mv 43)])
def y19h : CCode :=
  (.seq (.block 3 (.region [
 kO 44 (.fa 3 1),
 kO 45 (.ld false 1 44),
 kO 46 (.mv 7),
 kO 47 (.ixs 9 45 46),
 kO 48 (.fa 0 47),
 kO 49 (.ld false 1 48),
 kO 50 (.call none true 23 [49]),
 kO 51 (.mv 50),
 kG 52 (.fa 3 1) 51 true,
 kG 53 (.ld false 1 52) 51 true,
 kG 54 (.mv 7) 51 true,
 kG 55 (.ixs 9 53 54) 51 true,
 kG 56 (.fa 6 55) 51 true,
 kG 57 (.ld false 1 56) 51 true,
 kG 58 (.mv 4) 51 true,
 kG 59 (.bin .eql 57 58) 51 true,
 kO 60 (.pick 51 59 (.c (.bool false))),
 kO 5 (.mv 60)]))
 y1h3)
def y1au : CCode :=
  (.seq (.seq (.region [
 kO 33 (.mv 7),
 kO 34 (.fa 3 1),
 kO 35 (.ld false 1 34),
 kO 36 (.len 1 35),
 kO 37 (.bin .lss 33 36),
 kO 38 (.mv 37),
 kG 39 (.mv 5) 38 true,
 kG 40 (.un .not 39) 38 true,
 kO 41 (.pick 38 40 (.c (.bool false)))])
 (.cond 41
 .skip
 (.exit 2)))
 y19h)
def yyn : CCode :=
  (.loop [1, 3, 4, 5, 7] y1au)
def y13j : CCode :=
  (.block 2 yyn)
def y11n : CCode :=
  (.seq (.region [
 kO 7 (.mv (ci 0))])
 y13j)
def y1gr : CCode :=
  (.seq y11n
 y1c5)
def y1ax : CCode :=
  (.seq (.seq (.region [
 kO 18 (.mv 4),
 kO 19 (.bin .gtr 18 (ci 0))])
 (.cond 19
 (.seq (.region [
  kO 20 (.fa 3 1),
  kO 21 (.ld false 1 20),
  kO 22 (.mv 4),
  kO 23 (.bin .sub 22 (ci 1)),
  kO 24 (.ixs 9 21 23),
  kO 25 (.fa 0 24),
  kO 26 (.ld false 1 25),
  kO 6 (.mv 26)])
  (.region [
  kO 27 (.mv 6),
  kO 28 (.call none true 23 [27]),
  kO 29 (.mv 28),
  kG 30 (.mv 6) 29 false,
  kG 31 (.call none true 25 [30]) 29 false,
  kO 32 (.pick 29 (.c (.bool true)) 31),
  kO 5 (.mv 32)]))
 .skip))
 y1gr)
def y1h5 : CCode :=
  (.seq (.region [
 kO 16 (.mv 4),
 kO 17 (.bin .eql 16 (ci 0)),
 kO 5 (.mv 17)])
 y1ax)
def y16z : CCode :=
  (.block 1 y1h5)
def y1aj : CCode :=
  (.seq y16z
 y1ii)
def y1fw : CCode :=
  (.seq (.seq (.region [
 kO 9 (.mv 4),
 kO 10 (.fa 3 1),
 kO 11 (.ld false 1 10),
 kO 12 (.len 1 11),
 kO 13 (.bin .lss 9 12)])
 (.cond 13
 .skip
 (.exit 0)))
 y1aj)
def y1fu : CCode :=
  (.loop [1, 3, 4] y1fw)
def y125 : CCode :=
  (.block 0 y1fu)
def y13h : CCode :=
  (.seq (.region [
 kO 4 (.mv (ci 0))])
 y125)
def y16v : CCode :=
  (.seq y13h
 y1jf)
def y1dm : CCode :=
  (.seq (.region [
 kO 3 (.mv (.c .nils))])
 y16v)
def y1fk : CCode :=
  (.seq (.region [
 kO 1 (.box (some 0) 0),
 kO 2 (.mv (.c .nils))])
 y1dm)
def y1zn : CFunc :=
  ⟨1, true, 3, y1fk, [.t 2]⟩
def y1n2 : CCode :=
  (.seq (.region [
 kO 2 (.mv (.c (.bool false)))])
 (.seq (.region [
 kO 3 (.mv 0),
 kO 4 (.bin .geq 3 (ci 7)),
 kO 5 (.mv 4),
 kG 6 (.mv 0) 5 true,
 kG 7 (.bin .leq 6 (ci 10)) 5 true,
 kO 8 (.pick 5 7 (.c (.bool false))),
 kO 2 (.mv 8)])
 .ret))
def y22i : CFunc :=
  ⟨1, true, 0, y1n2, [.t 2]⟩
def y1n1 : CCode :=
  (.seq (.region [
 kO 6 (.mv (.c (.bool false)))])
 .ret)
def y1hz : CCode :=
  (.region [
 kO 20 (.mv 8),
 kO 21 (.bin .sub 20 (ci 1)),
 kO 8 (.mv 21)])
def y1i7 : CCode :=
  (.seq (.region [
 kO 43 (.ld true 9 10),
 kO 44 (.call none true 16 [43]),
 kO 11 (.mv 44)])
 (.seq (.region [
 kO 45 (.mv 11),
 kO 46 (.bin .geq 45 (ci 0)),
 kO 47 (.mv 46),
 kG 48 (.mv 11) 47 true,
 kG 49 (.fa 2 7) 47 true,
 kG 50 (.ld false 1 49) 47 true,
 kG 51 (.bin .eql 48 50) 47 true,
 kG 52 (.mv 51) 47 true,
 kG 53 (.fa 0 7) 52 false,
 kG 54 (.ld false 1 53) 52 false,
 kG 55 (.bin .eql 54 (ci 9)) 52 false,
 kG 56 (.mv 55) 52 false,
 kG 57 (.mv 11) 56 true,
 kG 58 (.fa 3 7) 56 true,
 kG 59 (.ld false 1 58) 56 true,
 kG 60 (.bin .eql 57 59) 56 true,
 kG 61 (.pick 56 60 (.c (.bool false))) 52 false,
 kG 62 (.pick 52 (.c (.bool true)) 61) 47 true,
 kO 63 (.pick 47 62 (.c (.bool false)))])
 (.cond 63
 (.seq (.region [
  kO 6 (.mv (.c (.bool false)))])
  .ret)
 .skip)))
def y1nu : CCode :=
  (.seq (.seq (.region [
 kO 40 (.ld true 9 7),
 kO 41 (.ld true 9 10),
 kO 42 (.call none true 175 [40, 41])])
 (.cond 42
 (.seq (.region [
  kO 6 (.mv (.c (.bool true)))])
  .ret)
 .skip))
 y1i7)
def y1j1 : CCode :=
  (.seq (.region [
 kO 34 (.fa 3 3),
 kO 35 (.ld false 1 34),
 kO 36 (.mv 8),
 kO 37 (.bin .sub 36 (ci 1)),
 kO 38 (.ixs 9 35 37),
 kO 39 (.ld true 9 38),
 kO 10 (.new (some 2) [(.int .i64 0), (.int .i64 0), (.int .i64 0), (.int .i64 0), (.int .i64 0), (.int .i64 0), (.int .i64 0), (.str []), .nils]),
 kU (.st 9 10 39)])
 y1nu)
def y1jb : CCode :=
  (.region [
 kO 26 (.mv 9),
 kO 27 (.bin .add 26 (ci 1)),
 kO 9 (.mv 27)])
def y1p7 : CCode :=
  (.seq (.block 3 (.seq (.region [
 kO 28 (.mv 1),
 kO 29 (.mv 9),
 kO 30 (.ixs 1 28 29),
 kO 31 (.ld false 1 30),
 kO 32 (.mv 8),
 kO 33 (.bin .eql 31 32)])
 (.cond 33
 (.seq (.region [
  kO 6 (.mv (.c (.bool false)))])
  .ret)
 .skip)))
 y1jb)
def y156 : CCode :=
  (.seq (.seq (.region [
 kO 22 (.mv 9),
 kO 23 (.mv 1),
 kO 24 (.len 1 23),
 kO 25 (.bin .lss 22 24)])
 (.cond 25
 .skip
 (.exit 2)))
 y1p7)
def y1cw : CCode :=
  (.loop [1, 3, 7, 8, 9] y156)
def y1bk : CCode :=
  (.block 2 y1cw)
def y1f3 : CCode :=
  (.seq (.region [
 kO 9 (.mv (ci 0))])
 y1bk)
def y01 : CCode :=
  (.seq y1f3
 y1j1)
def y1d5 : CCode :=
  (.block 1 y01)
def y16p : CCode :=
  (.seq y1d5
 y1hz)
def y18h : CCode :=
  (.seq (.seq (.region [
 kO 18 (.mv 8),
 kO 19 (.bin .gtr 18 (ci 0))])
 (.cond 19
 .skip
 (.exit 0)))
 y16p)
def y1ak : CCode :=
  (.loop [1, 3, 7, 8] y18h)
def y131 : CCode :=
  (.block 0 y1ak)
def y118 : CCode :=
  (.seq (.region [
 kO 17 (.mv 2),
 kO 8 (.mv 17)])
 y131)
def y14a : CCode :=
  (.seq y118
 y1n1)
def y12x : CCode :=
  (.seq (.region [
 kO 12 (.fa 3 3),
 kO 13 (.ld false 1 12),
 kO 14 (.mv 2),
 kO 15 (.ixs 9 13 14),
 kO 16 (.ld true 9 15),
 kO 7 (.new (some 1) [(.int .i64 0), (.int .i64 0), (.int .i64 0), (.int .i64 0), (.int .i64 0), (.int .i64 0), (.int .i64 0), (.str []), .nils]),
 kU (.st 9 7 16)])
 y14a)
def y1dk : CCode :=
  (.seq (.region [
 kO 3 (.box (some 0) 0),
 kO 6 (.mv (.c (.bool false)))])
 y12x)
def y21m : CFunc :=
  ⟨3, true, 3, y1dk, [.t 6]⟩
def ypv : CCode :=
  (.seq (.region [
 kO 2 (.mv (.c (.bool false)))])
 (.seq (.region [
 kO 3 (.mv 0),
 kO 4 (.buildS (some 0) 1 3 [(.int .i64 0)] [(0, (ci 27)), (1, (ci 30)), (2, (ci 31))]),
 kO 5 (.call none true 42 [3, 4]),
 kO 2 (.mv 5)])
 .ret))
def y1qt : CFunc :=
  ⟨1, true, 1, ypv, [.t 2]⟩
def yqu : CCode :=
  (.seq (.region [
 kO 14 (.fa 0 2),
 kO 15 (.ld false 1 14),
 kO 16 (.mv 1),
 kO 17 (.ixs 1 15 16),
 kO 18 (.ld false 1 17),
 kO 4 (.mv 18)])
 .ret)
def yqo : CCode :=
  (.seq (.seq (.region [
 kO 5 (.mv 1),
 kO 6 (.bin .lss 5 (ci 0)),
 kO 7 (.mv 6),
 kG 8 (.mv 1) 7 false,
 kG 9 (.fa 0 2) 7 false,
 kG 10 (.ld false 1 9) 7 false,
 kG 11 (.len 1 10) 7 false,
 kG 12 (.bin .geq 8 11) 7 false,
 kO 13 (.pick 7 (.c (.bool true)) 12)])
 (.cond 13
 (.seq (.region [
  kO 4 (.mv (ci 0))])
  .ret)
 .skip))
 yqu)
def yup : CCode :=
  (.seq (.region [
 kO 2 (.box (some 0) 0),
 kO 4 (.mv (ci 0))])
 yqo)
def y1qr : CFunc :=
  ⟨2, true, 1, yup, [.t 4]⟩
def yuc : CCode :=
  (.seq (.region [
 kO 4 (.mv (.c (.bool false)))])
 .ret)
def yt6 : CCode :=
  (.region [
 kO 10 (.mv 5),
 kO 11 (.bin .add 10 (ci 1)),
 kO 5 (.mv 11)])
def ypu : CCode :=
  (.seq (.block 1 (.seq (.region [
 kO 12 (.mv 1),
 kO 13 (.mv 5),
 kO 14 (.ixs 1 12 13),
 kO 15 (.ld false 1 14),
 kO 16 (.mv 0),
 kO 17 (.bin .eql 15 16)])
 (.cond 17
 (.seq (.region [
  kO 4 (.mv (.c (.bool true)))])
  .ret)
 .skip)))
 yt6)
def yrk : CCode :=
  (.seq (.seq (.region [
 kO 6 (.mv 5),
 kO 7 (.mv 1),
 kO 8 (.len 1 7),
 kO 9 (.bin .lss 6 8)])
 (.cond 9
 .skip
 (.exit 0)))
 ypu)
def yez : CCode :=
  (.loop [0, 1, 5] yrk)
def yx9 : CCode :=
  (.block 0 yez)
def ywn : CCode :=
  (.seq (.region [
 kO 5 (.mv (ci 0))])
 yx9)
def yve : CCode :=
  (.seq ywn
 yuc)
def yq0 : CCode :=
  (.seq (.region [
 kO 4 (.mv (.c (.bool false)))])
 yve)
def y1qd : CFunc :=
  ⟨2, true, 0, yq0, [.t 4]⟩
def yra : CCode :=
  (.seq (.region [
 kO 2 (.mv (.c (.bool false)))])
 (.seq (.region [
 kO 3 (.mv 0),
 kO 4 (.buildS (some 0) 1 3 [(.int .i64 0)] [(0, (ci 27)), (1, (ci 28)), (2, (ci 29))]),
 kO 5 (.call none true 42 [3, 4]),
 kO 2 (.mv 5)])
 .ret))
def y1qs : CFunc :=
  ⟨1, true, 1, yra, [.t 2]⟩
def yrg : CCode :=
  (.seq (.region [
 kO 2 (.box (some 0) 0),
 kO 4 (.mv (.c (.bool false)))])
 (.seq (.region [
 kO 5 (.mv 1),
 kO 6 (.bin .geq 5 (ci 0)),
 kO 7 (.mv 6),
 kG 8 (.mv 1) 7 true,
 kG 9 (.fa 3 2) 7 true,
 kG 10 (.ld false 1 9) 7 true,
 kG 11 (.len 1 10) 7 true,
 kG 12 (.bin .lss 8 11) 7 true,
 kO 13 (.pick 7 12 (.c (.bool false))),
 kO 4 (.mv 13)])
 .ret))
def y1pz : CFunc :=
  ⟨2, true, 1, yrg, [.t 4]⟩
def y175 : CCode :=
  (.seq (.region [
 kO 1 (.box (some 0) 0),
 kO 2 (.mv (.c (.bool false)))])
 (.seq (.region [
 kO 3 (.fa 0 1),
 kO 4 (.ld false 1 3),
 kO 5 (.bin .geq 4 (ci 23)),
 kO 6 (.mv 5),
 kG 7 (.fa 0 1) 6 true,
 kG 8 (.ld false 1 7) 6 true,
 kG 9 (.bin .leq 8 (ci 26)) 6 true,
 kO 10 (.pick 6 9 (.c (.bool false))),
 kO 2 (.mv 10)])
 .ret))
def y24a : CFunc :=
  ⟨1, true, 1, y175, [.t 2]⟩
def ytc : CCode :=
  (.seq (.region [
 kO 4 (.mv (ci (-1)))])
 .ret)
def ywd : CCode :=
  (.region [
 kO 18 (.bin .add 8 (ci 1)),
 kO 8 (.mv 18)])
def yv8 : CCode :=
  (.seq (.block 1 (.seq (.region [
 kO 10 (.mv 8),
 kO 5 (.mv 10)])
 (.seq (.region [
 kO 11 (.mv 1),
 kO 12 (.mv 0),
 kO 13 (.mv 5),
 kO 14 (.ixs 1 12 13),
 kO 15 (.ld false 1 14),
 kO 16 (.bin .eql 11 15)])
 (.cond 16
 (.seq (.region [
  kO 17 (.mv 5),
  kO 4 (.mv 17)])
  .ret)
 .skip))))
 ywd)
def ypx : CCode :=
  (.seq (.cond 9
 .skip
 (.exit 0))
 yv8)
def yx5 : CCode :=
  (.seq (.region [
 kO 9 (.bin .lss 8 7)])
 ypx)
def yg9 : CCode :=
  (.loop [0, 1, 7, 8] yx5)
def ypo : CCode :=
  (.block 0 yg9)
def yuz : CCode :=
  (.seq (.region [
 kO 6 (.mv 0),
 kO 7 (.len 1 6),
 kO 8 (.mv (ci 0))])
 ypo)
def yrd : CCode :=
  (.seq yuz
 ytc)
def ym2 : CCode :=
  (.seq (.region [
 kO 4 (.mv (ci 0))])
 yrd)
def y1pv : CFunc :=
  ⟨2, true, 0, ym2, [.t 4]⟩
def y19k : CCode :=
  (.seq (.region [
 kO 138 (.ld true 9 1),
 kO 139 (.call none true 51 [138]),
 kO 140 (.ext 0 139),
 kO 141 (.ext 1 139),
 kU (.st 4 2 140),
 kO 3 (.mv 141)])
 .ret)
def y1ah : CCode :=
  (.cond 134
 (.seq (.region [
  kO 137 (.build [(.int .i64 0), (.int .i64 0), (.int .i64 0), (.int .i64 0)] [(0, 1, (ci (-1))), (1, 1, (ci (-1))), (2, 1, (ci (-1))), (3, 1, (ci (-1)))]),
  kU (.st 4 2 137),
  kO 3 (.mv (.c (.bool true)))])
  .ret)
 .skip)
def y1gs : CCode :=
  (.seq (.seq (.region [
 kO 135 (.bin .eql 11 (ci 27)),
 kO 134 (.mv 135)])
 (.cond 134
 .skip
 (.region [
  kO 136 (.bin .eql 11 (ci 33)),
  kO 134 (.mv 136)])))
 y1ah)
def y126 : CCode :=
  (.cond 123
 (.seq (.draw [
  kO 125 (.build [(.int .i64 0), (.int .i64 0), (.int .i64 0), (.int .i64 0)] [(0, 1, (ci (-1))), (1, 1, (ci 1)), (2, 1, (ci 1)), (3, 1, (ci (-1)))]),
  kO 126 (.fa 5 1),
  kO 127 (.ld false 1 126),
  kO 128 (.bin .geq 127 (ci 0)),
  kO 129 (.mv 128),
  kG 130 (.fa 5 1) 129 true,
  kG 131 (.ld false 1 130) 129 true,
  kG 132 (.bin .leq 131 (ci 5)) 129 true,
  kO 133 (.pick 129 132 (.c (.bool false))),
  kU (.st 4 2 125),
  kO 3 (.mv 133)] [(6, 9)])
  .ret)
 y1gs)
def y11h : CCode :=
  (.seq (.region [
 kO 124 (.bin .eql 11 (ci 28)),
 kO 123 (.mv 124)])
 y126)
def y1gt : CCode :=
  (.cond 117
 (.seq (.region [
  kO 119 (.build [(.int .i64 0), (.int .i64 0), (.int .i64 0), (.int .i64 0)] [(0, 1, (ci 3)), (1, 1, (ci 1)), (2, 1, (ci (-1))), (3, 1, (ci (-1)))]),
  kO 120 (.fa 7 1),
  kO 121 (.ld false 1 120),
  kO 122 (.call none true 37 [121]),
  kU (.st 4 2 119),
  kO 3 (.mv 122)])
  .ret)
 y11h)
def y18i : CCode :=
  (.seq (.region [
 kO 118 (.bin .eql 11 (ci 21)),
 kO 117 (.mv 118)])
 y1gt)
def y18m : CCode :=
  (.cond 114
 (.seq (.region [
  kO 116 (.build [(.int .i64 0), (.int .i64 0), (.int .i64 0), (.int .i64 0)] [(0, 1, (ci (-1))), (1, 1, (ci 0)), (2, 1, (ci (-1))), (3, 1, (ci (-1)))]),
  kU (.st 4 2 116),
  kO 3 (.mv (.c (.bool true)))])
  .ret)
 y18i)
def y1cb : CCode :=
  (.seq (.region [
 kO 115 (.bin .eql 11 (ci 19)),
 kO 114 (.mv 115)])
 y18m)
def ysy : CCode :=
  (.cond 108
 (.seq (.draw [
  kO 110 (.build [(.int .i64 0), (.int .i64 0), (.int .i64 0), (.int .i64 0)] [(0, 1, (ci (-1))), (1, 1, (ci 3)), (2, 1, (ci 0)), (3, 1, (ci (-1)))]),
  kO 111 (.fa 5 1),
  kO 112 (.ld false 1 111),
  kO 113 (.bin .geq 112 (ci 0)),
  kU (.st 4 2 110),
  kO 3 (.mv 113)] [(2, 4)])
  .ret)
 y1cb)
def ysd : CCode :=
  (.seq (.region [
 kO 109 (.bin .eql 11 (ci 17)),
 kO 108 (.mv 109)])
 ysy)
def ysk : CCode :=
  (.cond 102
 (.seq (.draw [
  kO 104 (.build [(.int .i64 0), (.int .i64 0), (.int .i64 0), (.int .i64 0)] [(0, 1, (ci 0)), (1, 1, (ci 3)), (2, 1, (ci (-1))), (3, 1, (ci (-1)))]),
  kO 105 (.fa 5 1),
  kO 106 (.ld false 1 105),
  kO 107 (.bin .geq 106 (ci 0)),
  kU (.st 4 2 104),
  kO 3 (.mv 107)] [(2, 4)])
  .ret)
 ysd)
def yqd : CCode :=
  (.seq (.region [
 kO 103 (.bin .eql 11 (ci 16)),
 kO 102 (.mv 103)])
 ysk)
def ywu : CCode :=
  (.cond 99
 (.seq (.region [
  kO 101 (.build [(.int .i64 0), (.int .i64 0), (.int .i64 0), (.int .i64 0)] [(0, 1, (ci 1)), (1, 1, (ci 3)), (2, 1, (ci (-1))), (3, 1, (ci (-1)))]),
  kU (.st 4 2 101),
  kO 3 (.mv (.c (.bool true)))])
  .ret)
 yqd)
def yvo : CCode :=
  (.seq (.region [
 kO 100 (.bin .eql 11 (ci 15)),
 kO 99 (.mv 100)])
 ywu)
def yvw : CCode :=
  (.cond 96
 (.seq (.region [
  kO 98 (.build [(.int .i64 0), (.int .i64 0), (.int .i64 0), (.int .i64 0)] [(0, 1, (ci (-1))), (1, 1, (ci 3)), (2, 1, (ci 1)), (3, 1, (ci 0))]),
  kU (.st 4 2 98),
  kO 3 (.mv (.c (.bool true)))])
  .ret)
 yvo)
def ywr : CCode :=
  (.seq (.region [
 kO 97 (.bin .eql 11 (ci 14)),
 kO 96 (.mv 97)])
 yvw)
def ywv : CCode :=
  (.cond 93
 (.seq (.region [
  kO 95 (.build [(.int .i64 0), (.int .i64 0), (.int .i64 0), (.int .i64 0)] [(0, 1, (ci 0)), (1, 1, (ci 3)), (2, 1, (ci 1)), (3, 1, (ci (-1)))]),
  kU (.st 4 2 95),
  kO 3 (.mv (.c (.bool true)))])
  .ret)
 ywr)
def yr9 : CCode :=
  (.seq (.region [
 kO 94 (.bin .eql 11 (ci 13)),
 kO 93 (.mv 94)])
 ywv)
def yud : CCode :=
  (.cond 90
 (.seq (.region [
  kO 92 (.build [(.int .i64 0), (.int .i64 0), (.int .i64 0), (.int .i64 0)] [(0, 1, (ci (-1))), (1, 1, (ci 3)), (2, 1, (ci 3)), (3, 1, (ci (-1)))]),
  kU (.st 4 2 92),
  kO 3 (.mv (.c (.bool true)))])
  .ret)
 yr9)
def yxn : CCode :=
  (.seq (.region [
 kO 91 (.bin .eql 11 (ci 11)),
 kO 90 (.mv 91)])
 yud)
def yxp : CCode :=
  (.cond 87
 (.seq (.region [
  kO 89 (.build [(.int .i64 0), (.int .i64 0), (.int .i64 0), (.int .i64 0)] [(0, 1, (ci (-1))), (1, 1, (ci 1)), (2, 1, (ci (-1))), (3, 1, (ci (-1)))]),
  kU (.st 4 2 89),
  kO 3 (.mv (.c (.bool true)))])
  .ret)
 yxn)
def yrf : CCode :=
  (.seq (.region [
 kO 88 (.bin .eql 11 (ci 10)),
 kO 87 (.mv 88)])
 yxp)
def yr2 : CCode :=
  (.cond 84
 (.seq (.region [
  kO 86 (.build [(.int .i64 0), (.int .i64 0), (.int .i64 0), (.int .i64 0)] [(0, 1, (ci (-1))), (1, 1, (ci 3)), (2, 1, (ci 1)), (3, 1, (ci (-1)))]),
  kU (.st 4 2 86),
  kO 3 (.mv (.c (.bool true)))])
  .ret)
 yrf)
def yry : CCode :=
  (.seq (.region [
 kO 85 (.bin .eql 11 (ci 9)),
 kO 84 (.mv 85)])
 yr2)
def ysw : CCode :=
  (.cond 78
 (.seq (.region [
  kO 80 (.build [(.int .i64 0), (.int .i64 0), (.int .i64 0), (.int .i64 0)] [(0, 1, (ci 1)), (1, 1, (ci 3)), (2, 1, (ci (-1))), (3, 1, (ci (-1)))]),
  kO 81 (.fa 7 1),
  kO 82 (.ld false 1 81),
  kO 83 (.call none true 37 [82]),
  kU (.st 4 2 80),
  kO 3 (.mv 83)])
  .ret)
 yry)
def ytz : CCode :=
  (.seq (.region [
 kO 79 (.bin .eql 11 (ci 22)),
 kO 78 (.mv 79)])
 ysw)
def yp4 : CCode :=
  (.cond 72
 (.seq (.region [
  kO 74 (.build [(.int .i64 0), (.int .i64 0), (.int .i64 0), (.int .i64 0)] [(0, 1, (ci (-1))), (1, 1, (ci 3)), (2, 1, (ci (-1))), (3, 1, (ci (-1)))]),
  kO 75 (.fa 7 1),
  kO 76 (.ld false 1 75),
  kO 77 (.call none true 37 [76]),
  kU (.st 4 2 74),
  kO 3 (.mv 77)])
  .ret)
 ytz)
def yw1 : CCode :=
  (.seq (.region [
 kO 73 (.bin .eql 11 (ci 12)),
 kO 72 (.mv 73)])
 yp4)
def yqe : CCode :=
  (.cond 68
 (.seq (.region [
  kO 71 (.build [(.int .i64 0), (.int .i64 0), (.int .i64 0), (.int .i64 0)] [(0, 1, (ci (-1))), (1, 1, (ci 3)), (2, 1, (ci (-1))), (3, 1, (ci (-1)))]),
  kU (.st 4 2 71),
  kO 3 (.mv (.c (.bool true)))])
  .ret)
 yw1)
def ytb : CCode :=
  (.seq (.seq (.region [
 kO 69 (.bin .eql 11 (ci 8)),
 kO 68 (.mv 69)])
 (.cond 68
 .skip
 (.region [
  kO 70 (.bin .eql 11 (ci 31)),
  kO 68 (.mv 70)])))
 yqe)
def yxb : CCode :=
  (.cond 65
 (.seq (.region [
  kO 67 (.build [(.int .i64 0), (.int .i64 0), (.int .i64 0), (.int .i64 0)] [(0, 1, (ci (-1))), (1, 1, (ci 0)), (2, 1, (ci (-1))), (3, 1, (ci (-1)))]),
  kU (.st 4 2 67),
  kO 3 (.mv (.c (.bool true)))])
  .ret)
 ytb)
def yvg : CCode :=
  (.seq (.region [
 kO 66 (.bin .eql 11 (ci 7)),
 kO 65 (.mv 66)])
 yxb)
def yxv : CCode :=
  (.cond 47
 (.seq (.region [
  kO 50 (.fa 5 1),
  kO 51 (.ld false 1 50),
  kO 52 (.call none true 50 [51]),
  kO 49 (.mv 52),
  kO 53 (.ext 0 49),
  kO 54 (.ext 1 49),
  kO 55 (.ext 2 49),
  kO 7 (.mv 53),
  kO 8 (.mv 54),
  kO 9 (.mv 55)])
  (.seq (.region [
  kO 56 (.mv 9),
  kO 57 (.mv 7),
  kO 58 (.build [(.int .i64 0), (.int .i64 0), (.int .i64 0), (.int .i64 0)] [(0, 1, 56), (1, 1, 57), (2, 1, (ci (-1))), (3, 1, (ci (-1)))]),
  kO 59 (.mv 7),
  kO 60 (.bin .neq 59 (ci 0)),
  kO 61 (.mv 60),
  kG 62 (.mv 8) 61 true,
  kG 63 (.bin .eql 62 (ci 0)) 61 true,
  kO 64 (.pick 61 63 (.c (.bool false))),
  kU (.st 4 2 58),
  kO 3 (.mv 64)])
  .ret))
 yvg)
def yvx : CCode :=
  (.seq (.region [
 kO 48 (.bin .eql 11 (ci 6)),
 kO 47 (.mv 48)])
 yxv)
def yqn : CCode :=
  (.cond 25
 (.seq (.region [
  kO 28 (.fa 5 1),
  kO 29 (.ld false 1 28),
  kO 30 (.call none true 50 [29]),
  kO 27 (.mv 30),
  kO 31 (.ext 0 27),
  kO 32 (.ext 1 27),
  kO 33 (.ext 2 27),
  kO 4 (.mv 31),
  kO 5 (.mv 32),
  kO 6 (.mv 33)])
  (.seq (.region [
  kO 34 (.mv 6),
  kO 35 (.mv 4),
  kO 36 (.mv 5),
  kO 37 (.build [(.int .i64 0), (.int .i64 0), (.int .i64 0), (.int .i64 0)] [(0, 1, 34), (1, 1, 35), (2, 1, 36), (3, 1, (ci (-1)))]),
  kO 38 (.fa 5 1),
  kO 39 (.ld false 1 38),
  kO 40 (.fa 5 1),
  kO 41 (.ld false 1 40),
  kO 42 (.bin .eql 39 41),
  kO 43 (.mv 42),
  kG 44 (.mv 5) 43 true,
  kG 45 (.bin .neq 44 (ci 0)) 43 true,
  kO 46 (.pick 43 45 (.c (.bool false))),
  kU (.st 4 2 37),
  kO 3 (.mv 46)])
  .ret))
 yvx)
def ytx : CCode :=
  (.seq (.region [
 kO 26 (.bin .eql 11 (ci 5)),
 kO 25 (.mv 26)])
 yqn)
def ytt : CCode :=
  (.cond 22
 (.seq (.region [
  kO 24 (.build [(.int .i64 0), (.int .i64 0), (.int .i64 0), (.int .i64 0)] [(0, 1, (ci 0)), (1, 1, (ci 0)), (2, 1, (ci (-1))), (3, 1, (ci (-1)))]),
  kU (.st 4 2 24),
  kO 3 (.mv (.c (.bool true)))])
  .ret)
 ytx)
def ypj : CCode :=
  (.seq (.region [
 kO 23 (.bin .eql 11 (ci 4)),
 kO 22 (.mv 23)])
 ytt)
def yte : CCode :=
  (.cond 16
 (.seq (.region [
  kO 21 (.build [(.int .i64 0), (.int .i64 0), (.int .i64 0), (.int .i64 0)] [(0, 1, (ci 3)), (1, 1, (ci (-1))), (2, 1, (ci (-1))), (3, 1, (ci (-1)))]),
  kU (.st 4 2 21),
  kO 3 (.mv (.c (.bool true)))])
  .ret)
 ypj)
def yv6 : CCode :=
  (.seq (.seq (.region [
 kO 17 (.bin .eql 11 (ci 2)),
 kO 16 (.mv 17)])
 (.cond 16
 .skip
 (.seq (.region [
  kO 18 (.bin .eql 11 (ci 3)),
  kO 16 (.mv 18)])
  (.cond 16
  .skip
  (.seq (.region [
   kO 19 (.bin .eql 11 (ci 20)),
   kO 16 (.mv 19)])
   (.cond 16
   .skip
   (.region [
    kO 20 (.bin .eql 11 (ci 32)),
    kO 16 (.mv 20)])))))))
 yte)
def ytp : CCode :=
  (.cond 12
 (.seq (.region [
  kO 15 (.build [(.int .i64 0), (.int .i64 0), (.int .i64 0), (.int .i64 0)] [(0, 1, (ci 0)), (1, 1, (ci (-1))), (2, 1, (ci (-1))), (3, 1, (ci (-1)))]),
  kU (.st 4 2 15),
  kO 3 (.mv (.c (.bool true)))])
  .ret)
 yv6)
def ypl : CCode :=
  (.seq (.seq (.region [
 kO 13 (.bin .eql 11 (ci 1)),
 kO 12 (.mv 13)])
 (.cond 12
 .skip
 (.region [
  kO 14 (.bin .eql 11 (ci 18)),
  kO 12 (.mv 14)])))
 ytp)
def yvj : CCode :=
  (.block 0 ypl)
def ywo : CCode :=
  (.seq (.region [
 kO 10 (.fa 0 1),
 kO 11 (.ld false 1 10)])
 yvj)
def ysh : CCode :=
  (.seq ywo
 y19k)
def ywx : CCode :=
  (.seq (.region [
 kO 1 (.box (some 0) 0),
 kO 2 (.new (some 1) [(.int .i64 0), (.int .i64 0), (.int .i64 0), (.int .i64 0)]),
 kO 3 (.mv (.c (.bool false)))])
 ysh)
def y1zb : CFunc :=
  ⟨1, true, 2, ywx, [.cell 2 true 4, .t 3]⟩
def y18e : CCode :=
  (.seq (.region [
 kO 1 (.box (some 0) 0),
 kO 2 (.mv (.c (.bool false)))])
 (.seq (.region [
 kO 3 (.fa 0 1),
 kO 4 (.ld false 1 3),
 kO 5 (.bin .geq 4 (ci 7)),
 kO 6 (.mv 5),
 kG 7 (.fa 0 1) 6 true,
 kG 8 (.ld false 1 7) 6 true,
 kG 9 (.bin .leq 8 (ci 12)) 6 true,
 kO 10 (.pick 6 9 (.c (.bool false))),
 kO 11 (.mv 10),
 kG 12 (.fa 0 1) 11 false,
 kG 13 (.ld false 1 12) 11 false,
 kG 14 (.bin .eql 13 (ci 20)) 11 false,
 kO 15 (.pick 11 (.c (.bool true)) 14),
 kO 16 (.mv 15),
 kG 17 (.fa 0 1) 16 false,
 kG 18 (.ld false 1 17) 16 false,
 kG 19 (.bin .eql 18 (ci 21)) 16 false,
 kO 20 (.pick 16 (.c (.bool true)) 19),
 kO 21 (.mv 20),
 kG 22 (.fa 0 1) 21 false,
 kG 23 (.ld false 1 22) 21 false,
 kG 24 (.bin .eql 23 (ci 31)) 21 false,
 kO 25 (.pick 21 (.c (.bool true)) 24),
 kO 26 (.mv 25),
 kG 27 (.ld true 9 1) 26 false,
 kG 28 (.call none true 17 [27]) 26 false,
 kO 29 (.pick 26 (.c (.bool true)) 28),
 kO 2 (.mv 29)])
 .ret))
def y21y : CFunc :=
  ⟨1, true, 1, y18e, [.t 2]⟩
def y1l6 : CCode :=
  (.seq (.region [
 kO 2 (.box (some 0) 0),
 kO 3 (.box (some 1) 1),
 kO 4 (.mv (.c (.bool false)))])
 (.seq (.region [
 kO 5 (.fa 0 2),
 kO 6 (.ld false 1 5),
 kO 7 (.fa 0 3),
 kO 8 (.ld false 1 7),
 kO 9 (.bin .eql 6 8),
 kO 10 (.mv 9),
 kG 11 (.fa 2 2) 10 true,
 kG 12 (.ld false 1 11) 10 true,
 kG 13 (.fa 2 3) 10 true,
 kG 14 (.ld false 1 13) 10 true,
 kG 15 (.bin .eql 12 14) 10 true,
 kO 16 (.pick 10 15 (.c (.bool false))),
 kO 17 (.mv 16),
 kG 18 (.fa 0 2) 17 true,
 kG 19 (.ld false 1 18) 17 true,
 kG 20 (.bin .neq 19 (ci 9)) 17 true,
 kG 21 (.mv 20) 17 true,
 kG 22 (.fa 3 2) 21 false,
 kG 23 (.ld false 1 22) 21 false,
 kG 24 (.fa 3 3) 21 false,
 kG 25 (.ld false 1 24) 21 false,
 kG 26 (.bin .eql 23 25) 21 false,
 kG 27 (.pick 21 (.c (.bool true)) 26) 17 true,
 kO 28 (.pick 17 27 (.c (.bool false))),
 kO 4 (.mv 28)])
 .ret))
def y23u : CFunc :=
  ⟨2, true, 2, y1l6, [.t 4]⟩
def y1if : CCode :=
  (.seq (.region [
 kO 14 (.fa 1 1),
 kO 15 (.ld false 1 14),
 kO 2 (.mv 15)])
 .ret)
def y1lc : CCode :=
  (.seq (.seq (.region [
 kO 7 (.mv 3),
 kO 8 (.bin .eql 7 (.c (.str []))),
 kO 9 (.mv 8),
 kG 10 (.mv 3) 9 false,
 kG 11 (.ixstr 10 (ci 0)) 9 false,
 kG 12 (.bin .eql 11 (.c (.int .u8 45))) 9 false,
 kO 13 (.pick 9 (.c (.bool true)) 12)])
 (.cond 13
 (.seq (.region [
  kO 2 (.mv (ci (-1)))])
  .ret)
 .skip))
 y1if)
def y1io : CCode :=
  (.seq (.region [
 kO 4 (.fa 0 1),
 kO 5 (.ld false 1 4),
 kO 6 (.call none true 38 [5]),
 kO 3 (.mv 6)])
 y1lc)
def y1lz : CCode :=
  (.seq (.region [
 kO 1 (.box (some 0) 0),
 kO 2 (.mv (ci 0))])
 y1io)
def y20r : CFunc :=
  ⟨1, true, 1, y1lz, [.t 2]⟩
def y1jv : CCode :=
  (.seq (.region [
 kO 13 (.mv 3),
 kO 14 (.mv 0),
 kO 15 (.ixs 1 13 14),
 kO 16 (.ld false 1 15),
 kO 2 (.mv 16)])
 .ret)
def y1md : CCode :=
  (.seq (.seq (.region [
 kO 5 (.mv 0),
 kO 6 (.bin .lss 5 (ci 1)),
 kO 7 (.mv 6),
 kG 8 (.mv 0) 7 false,
 kG 9 (.mv 3) 7 false,
 kG 10 (.len 1 9) 7 false,
 kG 11 (.bin .geq 8 10) 7 false,
 kO 12 (.pick 7 (.c (.bool true)) 11)])
 (.cond 12
 (.seq (.region [
  kO 2 (.mv (.c (.str [])))])
  .ret)
 .skip))
 y1jv)
def y1l1 : CCode :=
  (.seq (.region [
 kO 4 (.buildS (some 0) 1 34 [(.str [])] [(0, (.c (.str []))), (1, (.c (.str [110, 45, 45, 45]))), (2, (.c (.str [51, 45, 45, 45]))), (3, (.c (.str [51, 45, 45, 45]))), (4, (.c (.str [42, 61, 45, 45]))), (5, (.c (.str [63, 63, 63, 63]))), (6, (.c (.str [63, 63, 63, 63]))), (7, (.c (.str [45, 110, 45, 45]))), (8, (.c (.str [45, 51, 45, 45]))), (9, (.c (.str [45, 51, 49, 45]))), (10, (.c (.str [45, 49, 45, 45]))), (11, (.c (.str [45, 51, 51, 45]))), (12, (.c (.str [45, 51, 45, 45]))), (13, (.c (.str [42, 51, 49, 45]))), (14, (.c (.str [45, 51, 49, 42]))), (15, (.c (.str [49, 51, 45, 45]))), (16, (.c (.str [42, 51, 45, 45]))), (17, (.c (.str [45, 51, 42, 45]))), (18, (.c (.str [42, 45, 45, 45]))), (19, (.c (.str [45, 42, 45, 45]))), (20, (.c (.str [51, 45, 45, 45]))), (21, (.c (.str [51, 49, 45, 45]))), (22, (.c (.str [49, 51, 45, 45]))), (23, (.c (.str [63, 63, 63, 63]))), (24, (.c (.str [63, 63, 63, 63]))), (25, (.c (.str [63, 63, 63, 63]))), (26, (.c (.str [63, 63, 63, 63]))), (27, (.c (.str [45, 45, 45, 45]))), (28, (.c (.str [45, 49, 49, 45]))), (29, (.c (.str [45, 51, 63, 45]))), (30, (.c (.str [45, 63, 45, 45]))), (31, (.c (.str [45, 51, 45, 45]))), (32, (.c (.str [51, 45, 45, 45]))), (33, (.c (.str [45, 45, 45, 45])))]),
 kO 3 (.mv 4)])
 y1md)
def y1j9 : CCode :=
  (.seq (.region [
 kO 2 (.mv (.c (.str [])))])
 y1l1)
def y232 : CFunc :=
  ⟨1, true, 1, y1j9, [.t 2]⟩
def y1hl : CCode :=
  (.seq (.region [
 kO 28 (.mv 7),
 kO 29 (.mv 2),
 kO 30 (.bin .sub 29 (.c (.int .u8 48))),
 kO 31 (.cvi .i64 30),
 kO 32 (.bin .eql 28 31),
 kO 6 (.mv 32)])
 .ret)
def y1li : CCode :=
  (.cond 15
 (.seq (.region [
  kO 18 (.mv 7),
  kO 19 (.bin .gtr 18 (ci 0)),
  kO 6 (.mv 19)])
  .ret)
 (.seq (.region [
  kO 21 (.bin .eql 11 (.c (.int .u8 110))),
  kO 20 (.mv 21)])
  (.cond 20
  (.seq (.region [
   kO 22 (.mv 7),
   kO 23 (.bin .eql 22 (ci 1)),
   kO 24 (.mv 23),
   kG 25 (.mv 7) 24 false,
   kG 26 (.bin .eql 25 (ci 2)) 24 false,
   kO 27 (.pick 24 (.c (.bool true)) 26),
   kO 6 (.mv 27)])
   .ret)
  .skip)))
def y1mq : CCode :=
  (.seq (.seq (.region [
 kO 16 (.bin .eql 11 (.c (.int .u8 42))),
 kO 15 (.mv 16)])
 (.cond 15
 .skip
 (.region [
  kO 17 (.bin .eql 11 (.c (.int .u8 61))),
  kO 15 (.mv 17)])))
 y1li)
def y1ni : CCode :=
  (.cond 12
 (.seq (.region [
  kO 6 (.mv (.c (.bool true)))])
  .ret)
 y1mq)
def y1hm : CCode :=
  (.seq (.seq (.region [
 kO 13 (.bin .eql 11 (.c (.int .u8 45))),
 kO 12 (.mv 13)])
 (.cond 12
 .skip
 (.region [
  kO 14 (.bin .eql 11 (.c (.int .u8 63))),
  kO 12 (.mv 14)])))
 y1ni)
def y1i6 : CCode :=
  (.block 0 y1hm)
def y1ov : CCode :=
  (.seq (.region [
 kO 11 (.mv 2)])
 y1i6)
def y1ny : CCode :=
  (.seq y1ov
 y1hl)
def y1mn : CCode :=
  (.seq (.region [
 kO 8 (.ld true 5 3),
 kO 9 (.mv 1),
 kO 10 (.call none true 48 [8, 9]),
 kO 7 (.mv 10)])
 y1ny)
def y17b : CCode :=
  (.seq (.region [
 kO 3 (.box (some 0) 0),
 kO 6 (.mv (.c (.bool false)))])
 y1mn)
def y1zu : CFunc :=
  ⟨3, true, 1, y17b, [.t 6]⟩
def y1cu : CCode :=
  (.seq (.region [
 kO 2 (.mv (ci 0)),
 kO 3 (.mv (ci 0)),
 kO 4 (.mv (ci 0))])
 .ret)
def y1gn : CCode :=
  (.cond 33
 (.seq (.region [
  kO 2 (.mv (ci 1)),
  kO 3 (.mv (ci 0)),
  kO 4 (.mv (ci 1))])
  .ret)
 (.seq (.region [
  kO 39 (.bin .eql 5 (ci 117)),
  kO 38 (.mv 39)])
  (.cond 38
  (.seq (.region [
   kO 2 (.mv (ci 2)),
   kO 3 (.mv (ci 0)),
   kO 4 (.mv (ci 2))])
   .ret)
  (.seq (.region [
   kO 41 (.bin .eql 5 (ci 133)),
   kO 40 (.mv 41)])
   (.cond 40
   (.seq (.region [
    kO 2 (.mv (ci 1)),
    kO 3 (.mv (ci 0)),
    kO 4 (.mv (ci 2))])
    .ret)
   (.seq (.region [
    kO 43 (.bin .eql 5 (ci 136)),
    kO 42 (.mv 43)])
    (.cond 42
    (.seq (.region [
     kO 2 (.mv (ci 2)),
     kO 3 (.mv (ci 0)),
     kO 4 (.mv (ci 1))])
     .ret)
    .skip)))))))
def y17l : CCode :=
  (.seq (.seq (.region [
 kO 34 (.bin .eql 5 (ci 116)),
 kO 33 (.mv 34)])
 (.cond 33
 .skip
 (.seq (.region [
  kO 35 (.bin .eql 5 (ci 145)),
  kO 33 (.mv 35)])
  (.cond 33
  .skip
  (.seq (.region [
   kO 36 (.bin .eql 5 (ci 146)),
   kO 33 (.mv 36)])
   (.cond 33
   .skip
   (.region [
    kO 37 (.bin .eql 5 (ci 147)),
    kO 33 (.mv 37)])))))))
 y1gn)
def y19f : CCode :=
  (.cond 31
 (.seq (.region [
  kO 2 (.mv (ci 2)),
  kO 3 (.mv (ci 2)),
  kO 4 (.mv (ci 1))])
  .ret)
 y17l)
def y1ex : CCode :=
  (.seq (.region [
 kO 32 (.bin .eql 5 (ci 148)),
 kO 31 (.mv 32)])
 y19f)
def y11u : CCode :=
  (.cond 27
 (.seq (.region [
  kO 2 (.mv (ci 2)),
  kO 3 (.mv (ci 1)),
  kO 4 (.mv (ci 2))])
  .ret)
 y1ex)
def y18q : CCode :=
  (.seq (.seq (.region [
 kO 28 (.bin .eql 5 (ci 121)),
 kO 27 (.mv 28)])
 (.cond 27
 .skip
 (.seq (.region [
  kO 29 (.bin .eql 5 (ci 123)),
  kO 27 (.mv 29)])
  (.cond 27
  .skip
  (.region [
   kO 30 (.bin .eql 5 (ci 125)),
   kO 27 (.mv 30)])))))
 y11u)
def y1fv : CCode :=
  (.cond 18
 (.seq (.region [
  kO 2 (.mv (ci 2)),
  kO 3 (.mv (ci 2)),
  kO 4 (.mv (ci 2))])
  .ret)
 y18q)
def y18u : CCode :=
  (.seq (.seq (.region [
 kO 19 (.bin .eql 5 (ci 97)),
 kO 18 (.mv 19)])
 (.cond 18
 .skip
 (.seq (.region [
  kO 20 (.bin .eql 5 (ci 101)),
  kO 18 (.mv 20)])
  (.cond 18
  .skip
  (.seq (.region [
   kO 21 (.bin .eql 5 (ci 105)),
   kO 18 (.mv 21)])
   (.cond 18
   .skip
   (.seq (.region [
    kO 22 (.bin .eql 5 (ci 109)),
    kO 18 (.mv 22)])
    (.cond 18
    .skip
    (.seq (.region [
     kO 23 (.bin .eql 5 (ci 113)),
     kO 18 (.mv 23)])
     (.cond 18
     .skip
     (.seq (.region [
      kO 24 (.bin .eql 5 (ci 127)),
      kO 18 (.mv 24)])
      (.cond 18
      .skip
      (.seq (.region [
       kO 25 (.bin .eql 5 (ci 129)),
       kO 18 (.mv 25)])
       (.cond 18
       .skip
       (.region [
        kO 26 (.bin .eql 5 (ci 131)),
        kO 18 (.mv 26)])))))))))))))))
 y1fv)
def yto : CCode :=
  (.cond 6
 (.seq (.region [
  kO 2 (.mv (ci 1)),
  kO 3 (.mv (ci 1)),
  kO 4 (.mv (ci 1))])
  .ret)
 y18u)
def ytg : CCode :=
  (.seq (.seq (.region [
 kO 7 (.bin .eql 5 (ci 96)),
 kO 6 (.mv 7)])
 (.cond 6
 .skip
 (.seq (.region [
  kO 8 (.bin .eql 5 (ci 100)),
  kO 6 (.mv 8)])
  (.cond 6
  .skip
  (.seq (.region [
   kO 9 (.bin .eql 5 (ci 104)),
   kO 6 (.mv 9)])
   (.cond 6
   .skip
   (.seq (.region [
    kO 10 (.bin .eql 5 (ci 108)),
    kO 6 (.mv 10)])
    (.cond 6
    .skip
    (.seq (.region [
     kO 11 (.bin .eql 5 (ci 112)),
     kO 6 (.mv 11)])
     (.cond 6
     .skip
     (.seq (.region [
      kO 12 (.bin .eql 5 (ci 120)),
      kO 6 (.mv 12)])
      (.cond 6
      .skip
      (.seq (.region [
       kO 13 (.bin .eql 5 (ci 122)),
       kO 6 (.mv 13)])
       (.cond 6
       .skip
       (.seq (.region [
        kO 14 (.bin .eql 5 (ci 124)),
        kO 6 (.mv 14)])
        (.cond 6
        .skip
        (.seq (.region [
         kO 15 (.bin .eql 5 (ci 126)),
         kO 6 (.mv 15)])
         (.cond 6
         .skip
         (.seq (.region [
          kO 16 (.bin .eql 5 (ci 128)),
          kO 6 (.mv 16)])
          (.cond 6
          .skip
          (.region [
           kO 17 (.bin .eql 5 (ci 130)),
           kO 6 (.mv 17)])))))))))))))))))))))
 yto)
def yu5 : CCode :=
  (.block 0 ytg)
def yx8 : CCode :=
  (.seq (.region [
 kO 5 (.mv 0)])
 yu5)
def yr6 : CCode :=
  (.seq yx8
 y1cu)
def yrb : CCode :=
  (.seq (.region [
 kO 2 (.mv (ci 0)),
 kO 3 (.mv (ci 0)),
 kO 4 (.mv (ci 0))])
 yr6)
def y22x : CFunc :=
  ⟨1, true, 0, yrb, [.t 2, .t 3, .t 4]⟩
def y1qb : CCode :=
  (.seq (.region [
 kO 2 (.mv (.c (.bool false)))])
 (.seq (.region [
 kO 3 (.mv 0),
 kO 4 (.bin .neq 3 (.c (.str []))),
 kO 5 (.mv 4),
 kG 6 (.mv 0) 5 true,
 kG 7 (.call none true 44 [6]) 5 true,
 kG 8 (.mv 0) 5 true,
 kG 9 (.len 0 8) 5 true,
 kG 10 (.bin .eql 7 9) 5 true,
 kO 11 (.pick 5 10 (.c (.bool false))),
 kO 2 (.mv 11)])
 .ret))
def c_q8 : CFunc :=
  ⟨1, true, 0, y1qb, [.t 2]⟩
def y199 : CCode :=
  (.seq (.region [
 kO 73 (.build [(.int .i64 0), (.int .i64 0), (.int .i64 0), (.int .i64 0)] []),
 kU (.st 4 2 73),
 kO 3 (.mv (.c (.bool false)))])
 .ret)
def y16a : CCode :=
  (.seq (.draw [
 kO 15 (.mv 4),
 kO 16 (.build [(.int .i64 0), (.int .i64 0), (.int .i64 0), (.int .i64 0)] [(0, 1, (ci (-1))), (1, 1, (ci 3)), (2, 1, 15), (3, 1, (ci (-1)))]),
 kO 17 (.fa 5 1),
 kO 18 (.ld false 1 17),
 kO 19 (.bin .eql 18 (ci 0)),
 kO 20 (.mv 19),
 kG 21 (.fa 5 1) 20 false,
 kG 22 (.ld false 1 21) 20 false,
 kG 23 (.bin .eql 22 (ci 1)) 20 false,
 kO 24 (.pick 20 (.c (.bool true)) 23),
 kU (.st 4 2 16),
 kO 3 (.mv 24)] [(7, 10)])
 .ret)
def y1fg : CCode :=
  (.seq (.seq (.region [
 kO 12 (.fa 3 1),
 kO 13 (.ld false 1 12),
 kO 14 (.bin .neq 13 (ci (-1)))])
 (.cond 14
 (.region [
  kO 4 (.mv (ci 3))])
 .skip))
 y16a)
def y1bo : CCode :=
  (.seq (.region [
 kO 4 (.mv (ci (-1)))])
 y1fg)
def y167 : CCode :=
  (.seq (.region [
 kO 30 (.mv 5),
 kO 31 (.build [(.int .i64 0), (.int .i64 0), (.int .i64 0), (.int .i64 0)] [(0, 1, (ci (-1))), (1, 1, 30), (2, 1, (ci (-1))), (3, 1, (ci (-1)))]),
 kU (.st 4 2 31),
 kO 3 (.mv (.c (.bool true)))])
 .ret)
def y1cf : CCode :=
  (.seq (.seq (.region [
 kO 27 (.fa 2 1),
 kO 28 (.ld false 1 27),
 kO 29 (.bin .neq 28 (ci (-1)))])
 (.cond 29
 (.region [
  kO 5 (.mv (ci 0))])
 .skip))
 y167)
def y1f9 : CCode :=
  (.seq (.region [
 kO 5 (.mv (ci (-1)))])
 y1cf)
def y148 : CCode :=
  (.seq (.region [
 kO 40 (.fa 0 1),
 kO 41 (.ld false 1 40),
 kO 42 (.bin .eql 41 (ci 23)),
 kO 43 (.mv 42),
 kG 44 (.fa 0 1) 43 false,
 kG 45 (.ld false 1 44) 43 false,
 kG 46 (.bin .eql 45 (ci 26)) 43 false,
 kO 47 (.pick 43 (.c (.bool true)) 46),
 kO 48 (.mv 47),
 kG 49 (.fa 8 1) 48 false,
 kG 50 (.ld false 1 49) 48 false,
 kG 51 (.len 1 50) 48 false,
 kG 52 (.bin .gtr 51 (ci 0)) 48 false,
 kO 53 (.pick 48 (.c (.bool true)) 52),
 kO 7 (.mv 53)])
 (.seq (.draw [
 kO 54 (.mv 6),
 kO 55 (.build [(.int .i64 0), (.int .i64 0), (.int .i64 0), (.int .i64 0)] [(0, 1, 54), (1, 1, (ci (-1))), (2, 1, (ci (-1))), (3, 1, (ci (-1)))]),
 kO 56 (.mv 7),
 kO 57 (.mv 56),
 kG 58 (.fa 5 1) 57 true,
 kG 59 (.ld false 1 58) 57 true,
 kG 60 (.bin .geq 59 (ci 0)) 57 true,
 kG 61 (.mv 60) 57 true,
 kG 62 (.fa 0 1) 61 false,
 kG 63 (.ld false 1 62) 61 false,
 kG 64 (.bin .eql 63 (ci 25)) 61 false,
 kG 65 (.pick 61 (.c (.bool true)) 64) 57 true,
 kO 66 (.pick 57 65 (.c (.bool false))),
 kO 67 (.mv 66),
 kG 68 (.fa 8 1) 67 true,
 kG 69 (.ld false 1 68) 67 true,
 kG 70 (.len 1 69) 67 true,
 kG 71 (.bin .leq 70 (ci 21)) 67 true,
 kO 72 (.pick 67 71 (.c (.bool false))),
 kU (.st 4 2 55),
 kO 3 (.mv 72)] [(15, 19), (16, 19)])
 .ret))
def y12v : CCode :=
  (.seq (.seq (.region [
 kO 37 (.fa 1 1),
 kO 38 (.ld false 1 37),
 kO 39 (.bin .neq 38 (ci (-1)))])
 (.cond 39
 (.region [
  kO 6 (.mv (ci 0))])
 .skip))
 y148)
def yty : CCode :=
  (.seq (.region [
 kO 6 (.mv (ci (-1)))])
 y12v)
def yp7 : CCode :=
  (.cond 32
 yty
 .skip)
def yqz : CCode :=
  (.seq (.seq (.region [
 kO 33 (.bin .eql 9 (ci 23)),
 kO 32 (.mv 33)])
 (.cond 32
 .skip
 (.seq (.region [
  kO 34 (.bin .eql 9 (ci 24)),
  kO 32 (.mv 34)])
  (.cond 32
  .skip
  (.seq (.region [
   kO 35 (.bin .eql 9 (ci 25)),
   kO 32 (.mv 35)])
   (.cond 32
   .skip
   (.region [
    kO 36 (.bin .eql 9 (ci 26)),
    kO 32 (.mv 36)])))))))
 yp7)
def yxe : CCode :=
  (.cond 25
 y1f9
 yqz)
def yse : CCode :=
  (.seq (.region [
 kO 26 (.bin .eql 9 (ci 30)),
 kO 25 (.mv 26)])
 yxe)
def yu7 : CCode :=
  (.cond 10
 y1bo
 yse)
def yqi : CCode :=
  (.seq (.region [
 kO 11 (.bin .eql 9 (ci 29)),
 kO 10 (.mv 11)])
 yu7)
def ys8 : CCode :=
  (.block 0 yqi)
def ys4 : CCode :=
  (.seq (.region [
 kO 8 (.fa 0 1),
 kO 9 (.ld false 1 8)])
 ys8)
def yun : CCode :=
  (.seq ys4
 y199)
def yrv : CCode :=
  (.seq (.region [
 kO 1 (.box (some 0) 0),
 kO 2 (.new (some 1) [(.int .i64 0), (.int .i64 0), (.int .i64 0), (.int .i64 0)]),
 kO 3 (.mv (.c (.bool false)))])
 yun)
def y23q : CFunc :=
  ⟨1, true, 2, yrv, [.cell 2 true 4, .t 3]⟩
def y1r1 : CCode :=
  (.seq (.region [
 kO 2 (.mv (ci 0))])
 .ret)
def y1q0 : CCode :=
  (.region [
 kO 41 (.mv 4),
 kO 42 (.bin .add 41 (ci 1)),
 kO 4 (.mv 42)])
def y1q5 : CCode :=
  (.seq (.region [
 kO 2 (.mv (ci 0))])
 .ret)
def y1qw : CCode :=
  (.seq (.seq (.region [
 kO 47 (.mv 0),
 kO 48 (.mv 3),
 kO 49 (.bin .add 48 (ci 1)),
 kO 50 (.mv 4),
 kO 51 (.sls 47 (some 49) (some 50)),
 kO 52 (.call none true 60 [51, (.c (.bool false))])])
 (.cond 52
 (.seq (.region [
  kO 53 (.mv 4),
  kO 54 (.bin .add 53 (ci 1)),
  kO 2 (.mv 54)])
  .ret)
 .skip))
 y1q5)
def y1px : CCode :=
  (.cond 46
 y1qw
 .skip)
def y1pf : CCode :=
  (.seq (.region [
 kO 43 (.mv 0),
 kO 44 (.mv 4),
 kO 45 (.ixstr 43 44),
 kO 46 (.bin .eql 45 (.c (.int .u8 59)))])
 y1px)
def y1qg : CCode :=
  (.block 4 y1pf)
def y1pg : CCode :=
  (.seq y1qg
 y1q0)
def y18n : CCode :=
  (.seq (.seq (.region [
 kO 37 (.mv 4),
 kO 38 (.mv 0),
 kO 39 (.len 0 38),
 kO 40 (.bin .lss 37 39)])
 (.cond 40
 .skip
 (.exit 3)))
 y1pg)
def yom : CCode :=
  (.loop [0, 3, 4] y18n)
def y1hk : CCode :=
  (.block 3 yom)
def y1ct : CCode :=
  (.seq (.region [
 kO 35 (.mv 3),
 kO 36 (.bin .add 35 (ci 1)),
 kO 4 (.mv 36)])
 y1hk)
def y14h : CCode :=
  (.cond 33
 y1ct
 .skip)
def y16t : CCode :=
  (.seq (.region [
 kO 34 (.bin .eql 27 (.c (.int .u8 76))),
 kO 33 (.mv 34)])
 y14h)
def y11l : CCode :=
  (.cond 28
 (.seq (.region [
  kO 31 (.mv 3),
  kO 32 (.bin .add 31 (ci 1)),
  kO 2 (.mv 32)])
  .ret)
 y16t)
def y180 : CCode :=
  (.seq (.seq (.region [
 kO 29 (.bin .eql 27 (.c (.int .u8 73))),
 kO 28 (.mv 29)])
 (.cond 28
 .skip
 (.region [
  kO 30 (.bin .eql 27 (.c (.int .u8 74))),
  kO 28 (.mv 30)])))
 y11l)
def y18t : CCode :=
  (.block 2 y180)
def y11i : CCode :=
  (.seq (.region [
 kO 25 (.mv 0),
 kO 26 (.mv 3),
 kO 27 (.ixstr 25 26)])
 y18t)
def y1cz : CCode :=
  (.seq y11i
 y1r1)
def y1hi : CCode :=
  (.seq (.seq (.region [
 kO 17 (.mv 3),
 kO 18 (.bin .gtr 17 (ci 8)),
 kO 19 (.mv 18),
 kG 20 (.mv 3) 19 false,
 kG 21 (.mv 0) 19 false,
 kG 22 (.len 0 21) 19 false,
 kG 23 (.bin .eql 20 22) 19 false,
 kO 24 (.pick 19 (.c (.bool true)) 23)])
 (.cond 24
 (.seq (.region [
  kO 2 (.mv (ci 0))])
  .ret)
 .skip))
 y1cz)
def y1dz : CCode :=
  (.block 1 (.region [
 kO 15 (.mv 3),
 kO 16 (.bin .add 15 (ci 1)),
 kO 3 (.mv 16)]))
def y155 : CCode :=
  (.seq (.seq (.region [
 kO 5 (.mv 3),
 kO 6 (.mv 0),
 kO 7 (.len 0 6),
 kO 8 (.bin .lss 5 7),
 kO 9 (.mv 8),
 kG 10 (.mv 0) 9 true,
 kG 11 (.mv 3) 9 true,
 kG 12 (.ixstr 10 11) 9 true,
 kG 13 (.bin .eql 12 (.c (.int .u8 91))) 9 true,
 kO 14 (.pick 9 13 (.c (.bool false)))])
 (.cond 14
 .skip
 (.exit 0)))
 y1dz)
def yjr : CCode :=
  (.loop [0, 3] y155)
def y14x : CCode :=
  (.block 0 yjr)
def y1ce : CCode :=
  (.seq y14x
 y1hi)
def y12p : CCode :=
  (.seq (.region [
 kO 3 (.mv (ci 0))])
 y1ce)
def y128 : CCode :=
  (.seq (.region [
 kO 2 (.mv (ci 0))])
 y12p)
def c_q9 : CFunc :=
  ⟨1, true, 0, y128, [.t 2]⟩
def yqw : CCode :=
  (.seq (.region [
 kO 2 (.mv (.c (.bool false)))])
 (.seq (.region [
 kO 3 (.mv 0),
 kO 4 (.bin .geq 3 (ci 23)),
 kO 5 (.mv 4),
 kG 6 (.mv 0) 5 true,
 kG 7 (.bin .leq 6 (ci 26)) 5 true,
 kO 8 (.pick 5 7 (.c (.bool false))),
 kO 2 (.mv 8)])
 .ret))
def y1q2 : CFunc :=
  ⟨1, true, 0, yqw, [.t 2]⟩
def y1pi : CCode :=
  (.seq (.region [
 kO 4 (.mv (.c (.bool true)))])
 .ret)
def y1r0 : CCode :=
  (.region [
 kO 71 (.bin .add 19 (ci 1)),
 kO 19 (.mv 71)])
def y1qx : CCode :=
  (.seq (.block 1 (.seq (.region [
 kO 21 (.ixs 1 17 19),
 kO 22 (.ld false 1 21),
 kO 6 (.mv 22)])
 (.seq (.region [
 kO 23 (.mv 6),
 kO 24 (.bin .geq 23 (.c (.int .u8 97))),
 kO 25 (.mv 24),
 kG 26 (.mv 6) 25 true,
 kG 27 (.bin .leq 26 (.c (.int .u8 122))) 25 true,
 kO 28 (.pick 25 27 (.c (.bool false))),
 kO 29 (.mv 28),
 kG 30 (.mv 6) 29 false,
 kG 31 (.bin .geq 30 (.c (.int .u8 65))) 29 false,
 kG 32 (.mv 31) 29 false,
 kG 33 (.mv 6) 32 true,
 kG 34 (.bin .leq 33 (.c (.int .u8 90))) 32 true,
 kG 35 (.pick 32 34 (.c (.bool false))) 29 false,
 kO 36 (.pick 29 (.c (.bool true)) 35),
 kO 37 (.mv 36),
 kG 38 (.mv 6) 37 false,
 kG 39 (.bin .geq 38 (.c (.int .u8 48))) 37 false,
 kG 40 (.mv 39) 37 false,
 kG 41 (.mv 6) 40 true,
 kG 42 (.bin .leq 41 (.c (.int .u8 57))) 40 true,
 kG 43 (.pick 40 42 (.c (.bool false))) 37 false,
 kO 44 (.pick 37 (.c (.bool true)) 43),
 kO 45 (.mv 44),
 kG 46 (.mv 6) 45 false,
 kG 47 (.bin .eql 46 (.c (.int .u8 95))) 45 false,
 kO 48 (.pick 45 (.c (.bool true)) 47),
 kO 49 (.mv 48),
 kG 50 (.mv 6) 49 false,
 kG 51 (.bin .eql 50 (.c (.int .u8 36))) 49 false,
 kO 52 (.pick 49 (.c (.bool true)) 51),
 kO 53 (.mv 52),
 kG 54 (.mv 6) 53 false,
 kG 55 (.bin .eql 54 (.c (.int .u8 47))) 53 false,
 kO 56 (.pick 53 (.c (.bool true)) 55),
 kO 7 (.mv 56)])
 (.seq (.region [
 kO 57 (.mv 7),
 kO 58 (.un .not 57),
 kO 59 (.mv 58),
 kG 60 (.mv 1) 59 true,
 kG 61 (.mv 60) 59 true,
 kG 62 (.mv 6) 61 true,
 kG 63 (.bin .eql 62 (.c (.int .u8 60))) 61 true,
 kG 64 (.mv 63) 61 true,
 kG 65 (.mv 6) 64 false,
 kG 66 (.bin .eql 65 (.c (.int .u8 62))) 64 false,
 kG 67 (.pick 64 (.c (.bool true)) 66) 61 true,
 kG 68 (.pick 61 67 (.c (.bool false))) 59 true,
 kG 69 (.un .not 68) 59 true,
 kO 70 (.pick 59 69 (.c (.bool false)))])
 (.cond 70
 (.seq (.region [
  kO 4 (.mv (.c (.bool false)))])
  .ret)
 .skip)))))
 y1r0)
def y1q3 : CCode :=
  (.seq (.cond 20
 .skip
 (.exit 0))
 y1qx)
def y1q7 : CCode :=
  (.seq (.region [
 kO 20 (.bin .lss 19 18)])
 y1q3)
def yoy : CCode :=
  (.loop [1, 17, 18, 19] y1q7)
def y1ql : CCode :=
  (.block 0 yoy)
def y1qo : CCode :=
  (.seq (.region [
 kO 16 (.mv 0),
 kO 17 (.s2b (some 0) 16),
 kO 18 (.len 1 17),
 kO 19 (.mv (ci 0))])
 y1ql)
def y1q8 : CCode :=
  (.seq y1qo
 y1pi)
def y13o : CCode :=
  (.seq (.seq (.region [
 kO 8 (.mv 0),
 kO 9 (.len 0 8),
 kO 10 (.bin .lss 9 (ci 1)),
 kO 11 (.mv 10),
 kG 12 (.mv 0) 11 false,
 kG 13 (.len 0 12) 11 false,
 kG 14 (.bin .gtr 13 (ci 60)) 11 false,
 kO 15 (.pick 11 (.c (.bool true)) 14)])
 (.cond 15
 (.seq (.region [
  kO 4 (.mv (.c (.bool false)))])
  .ret)
 .skip))
 y1q8)
def y1h2 : CCode :=
  (.seq (.region [
 kO 4 (.mv (.c (.bool false)))])
 y13o)
def c_q7 : CFunc :=
  ⟨2, true, 1, y1h2, [.t 4]⟩
def tbl : List (Option Nat) := [none, none, none, none, none, some 164, none, none, none, none, none, none, none, none, none, none, some 13, none, some 8, none, some 100, none, some 165, some 166, none, none, none, none, none, none, none, none, none, none, none, none, none, some 9, some 39, some 40, some 41, none, none, some 24, some 46, some 63, some 22, some 101, none, none, none, some 167, some 161, some 170, some 79, some 168, some 81, some 169, none, none, none, none, none, none, some 106, none, some 173, some 174, some 25, some 48, some 42, none, some 23, some 49, none, none, none, none, none, none, none, none, some 17, some 45, some 47, none, none, none, none, none, some 18, none, none, none, none, none, none, none, none, none, none, none, none, some 175, some 16, some 38, some 65, none, none, none, none, none, none, some 50, some 37, some 51, none, none, none, none, none, none, none, none, none, none, none, none, none, none, some 44, none, some 7, none, none, some 60]
def fnE : Nat → Option CFunc
  | 7 => some y1q2
  | 8 => some y1zs
  | 9 => some y21h
  | 13 => some y1zy
  | 16 => some y20r
  | 17 => some y24a
  | 18 => some y21y
  | 22 => some y1z6
  | 23 => some y1qs
  | 24 => some y1zg
  | 25 => some y1qt
  | 37 => some c_q8
  | 38 => some y232
  | 39 => some y1q6
  | 40 => some y1pj
  | 41 => some y1q4
  | 42 => some y1qd
  | 44 => some c_q9
  | 45 => some y1pv
  | 46 => some y1pk
  | 47 => some y1zb
  | 48 => some y1qr
  | 49 => some y1pz
  | 50 => some y22x
  | 51 => some y23q
  | 60 => some c_q7
  | 63 => some y22v
  | 65 => some y1zu
  | 79 => some y22o
  | 81 => some y218
  | 100 => some y20l
  | 101 => some y1zj
  | 106 => some y1zn
  | 164 => some y201
  | 165 => some y217
  | 166 => some y226
  | 167 => some y245
  | 168 => some y22e
  | 169 => some y22p
  | 170 => some y21s
  | 173 => some y22i
  | 174 => some y21m
  | 175 => some y23u
  | _ => none
abbrev nm : Nat → Option Nat := nmOf tbl
def E : Env := envX fnE [167] (xpM 161)
abbrev T1 (c : CCode) (n : St → OX) (e : Nat → St → OX) (r : List CRes) (k : St → OX) : Prop := ∀ s, W E 0 c s n e (finP r) = k s
abbrev T0 (c : CCode) (r : List CRes) (k : St → OX) : Prop := T1 c (finP r) xN r k
theorem sq {a b : CCode} {n k k' : St → OX} {e : Nat → St → OX} {r : List CRes} (h : T1 b n e r k) (h' : T1 a k e r k') : T1 (.seq a b) n e r k' := fun s => (y1g8 h).trans (h' s)
theorem ok5 : FnOk Go.Proofs.Try.prog nm fnE 5 164 := .of Go.Proofs.Try.func5 (by kernel_rfl) (by kernel_rfl) rfl (by kernel_rfl)
theorem ok16 : FnOk Go.Proofs.Try.prog nm fnE 16 13 := .of Go.Proofs.Try.func16 (by kernel_rfl) (by kernel_rfl) rfl (by kernel_rfl)
theorem ok18 : FnOk Go.Proofs.Try.prog nm fnE 18 8 := .of Go.Proofs.Try.func18 (by kernel_rfl) (by kernel_rfl) rfl (by kernel_rfl)
theorem ok20 : FnOk Go.Proofs.Try.prog nm fnE 20 100 := .of Go.Proofs.Try.func20 (by kernel_rfl) (by kernel_rfl) rfl (by kernel_rfl)
theorem ok22 : FnOk Go.Proofs.Try.prog nm fnE 22 165 := .of Go.Proofs.Try.func22 (by kernel_rfl) (by kernel_rfl) rfl (by kernel_rfl)
theorem ok23 : FnOk Go.Proofs.Try.prog nm fnE 23 166 := .of Go.Proofs.Try.func23 (by kernel_rfl) (by kernel_rfl) rfl (by kernel_rfl)
theorem ok37 : FnOk Go.Proofs.Try.prog nm fnE 37 9 := .of Go.Proofs.Try.func37 (by kernel_rfl) (by kernel_rfl) rfl (by kernel_rfl)
theorem ok38 : FnOk Go.Proofs.Try.prog nm fnE 38 39 := .of Go.Proofs.Try.func38 (by kernel_rfl) (by kernel_rfl) rfl (by kernel_rfl)
theorem ok39 : FnOk Go.Proofs.Try.prog nm fnE 39 40 := .of Go.Proofs.Try.func39 (by kernel_rfl) (by kernel_rfl) rfl (by kernel_rfl)
theorem ok40 : FnOk Go.Proofs.Try.prog nm fnE 40 41 := .of Go.Proofs.Try.func40 (by kernel_rfl) (by kernel_rfl) rfl (by kernel_rfl)
theorem ok43 : FnOk Go.Proofs.Try.prog nm fnE 43 24 := .of Go.Proofs.Try.func43 (by kernel_rfl) (by kernel_rfl) rfl (by kernel_rfl)
theorem ok44 : FnOk Go.Proofs.Try.prog nm fnE 44 46 := .of Go.Proofs.Try.func44 (by kernel_rfl) (by kernel_rfl) rfl (by kernel_rfl)
theorem ok45 : FnOk Go.Proofs.Try.prog nm fnE 45 63 := .of Go.Proofs.Try.func45 (by kernel_rfl) (by kernel_rfl) rfl (by kernel_rfl)
theorem ok46 : FnOk Go.Proofs.Try.prog nm fnE 46 22 := .of Go.Proofs.Try.func46 (by kernel_rfl) (by kernel_rfl) rfl (by kernel_rfl)
theorem ok47 : FnOk Go.Proofs.Try.prog nm fnE 47 101 := .of Go.Proofs.Try.func47 (by kernel_rfl) (by kernel_rfl) rfl (by kernel_rfl)
theorem ok51 : FnOk Go.Proofs.Try.prog nm fnE 51 167 := .of Go.Proofs.Try.func51 (by kernel_rfl) (by kernel_rfl) rfl (by kernel_rfl)
theorem ok52 : FnOk Go.Proofs.Try.prog nm fnE 52 161 := .ext Go.Proofs.Try.func52 (by kernel_rfl) (by kernel_rfl) rfl
theorem ok53 : FnOk Go.Proofs.Try.prog nm fnE 53 170 := .of Go.Proofs.Try.func53 (by kernel_rfl) (by kernel_rfl) rfl (by kernel_rfl)
theorem ok54 : FnOk Go.Proofs.Try.prog nm fnE 54 79 := .of Go.Proofs.Try.func54 (by kernel_rfl) (by kernel_rfl) rfl (by kernel_rfl)
theorem ok55 : FnOk Go.Proofs.Try.prog nm fnE 55 168 := .of Go.Proofs.Try.func55 (by kernel_rfl) (by kernel_rfl) rfl (by kernel_rfl)
theorem ok56 : FnOk Go.Proofs.Try.prog nm fnE 56 81 := .of Go.Proofs.Try.func56 (by kernel_rfl) (by kernel_rfl) rfl (by kernel_rfl)
theorem ok57 : FnOk Go.Proofs.Try.prog nm fnE 57 169 := .of Go.Proofs.Try.func57 (by kernel_rfl) (by kernel_rfl) rfl (by kernel_rfl)
theorem ok64 : FnOk Go.Proofs.Try.prog nm fnE 64 106 := .of Go.Proofs.Try.func64 (by kernel_rfl) (by kernel_rfl) rfl (by kernel_rfl)
theorem ok66 : FnOk Go.Proofs.Try.prog nm fnE 66 173 := .of Go.Proofs.Try.func66 (by kernel_rfl) (by kernel_rfl) rfl (by kernel_rfl)
theorem ok67 : FnOk Go.Proofs.Try.prog nm fnE 67 174 := .of Go.Proofs.Try.func67 (by kernel_rfl) (by kernel_rfl) rfl (by kernel_rfl)
theorem ok68 : FnOk Go.Proofs.Try.prog nm fnE 68 25 := .of Go.Proofs.Try.func68 (by kernel_rfl) (by kernel_rfl) rfl (by kernel_rfl)
theorem ok69 : FnOk Go.Proofs.Try.prog nm fnE 69 48 := .of Go.Proofs.Try.func69 (by kernel_rfl) (by kernel_rfl) rfl (by kernel_rfl)
theorem ok70 : FnOk Go.Proofs.Try.prog nm fnE 70 42 := .of Go.Proofs.Try.func70 (by kernel_rfl) (by kernel_rfl) rfl (by kernel_rfl)
theorem ok72 : FnOk Go.Proofs.Try.prog nm fnE 72 23 := .of Go.Proofs.Try.func72 (by kernel_rfl) (by kernel_rfl) rfl (by kernel_rfl)
theorem ok73 : FnOk Go.Proofs.Try.prog nm fnE 73 49 := .of Go.Proofs.Try.func73 (by kernel_rfl) (by kernel_rfl) rfl (by kernel_rfl)
theorem ok82 : FnOk Go.Proofs.Try.prog nm fnE 82 17 := .of Go.Proofs.Try.func82 (by kernel_rfl) (by kernel_rfl) rfl (by kernel_rfl)
theorem ok83 : FnOk Go.Proofs.Try.prog nm fnE 83 45 := .of Go.Proofs.Try.func83 (by kernel_rfl) (by kernel_rfl) rfl (by kernel_rfl)
theorem ok84 : FnOk Go.Proofs.Try.prog nm fnE 84 47 := .of Go.Proofs.Try.func84 (by kernel_rfl) (by kernel_rfl) rfl (by kernel_rfl)
theorem ok90 : FnOk Go.Proofs.Try.prog nm fnE 90 18 := .of Go.Proofs.Try.func90 (by kernel_rfl) (by kernel_rfl) rfl (by kernel_rfl)
theorem y27q : FnOk Go.Proofs.Try.prog nm fnE 103 175 := .of Go.Proofs.Try.func103 (by kernel_rfl) (by kernel_rfl) rfl (by kernel_rfl)
theorem y27h : FnOk Go.Proofs.Try.prog nm fnE 104 16 := .of Go.Proofs.Try.func104 (by kernel_rfl) (by kernel_rfl) rfl (by kernel_rfl)
theorem y275 : FnOk Go.Proofs.Try.prog nm fnE 105 38 := .of Go.Proofs.Try.func105 (by kernel_rfl) (by kernel_rfl) rfl (by kernel_rfl)
theorem y27e : FnOk Go.Proofs.Try.prog nm fnE 106 65 := .of Go.Proofs.Try.func106 (by kernel_rfl) (by kernel_rfl) rfl (by kernel_rfl)
theorem y279 : FnOk Go.Proofs.Try.prog nm fnE 113 50 := .of Go.Proofs.Try.func113 (by kernel_rfl) (by kernel_rfl) rfl (by kernel_rfl)
theorem y25y : FnOk Go.Proofs.Try.prog nm fnE 114 37 := .of Go.Proofs.Try.func114 (by kernel_rfl) (by kernel_rfl) rfl (by kernel_rfl)
theorem y26j : FnOk Go.Proofs.Try.prog nm fnE 115 51 := .of Go.Proofs.Try.func115 (by kernel_rfl) (by kernel_rfl) rfl (by kernel_rfl)
theorem y27y : FnOk Go.Proofs.Try.prog nm fnE 130 44 := .of Go.Proofs.Try.func130 (by kernel_rfl) (by kernel_rfl) rfl (by kernel_rfl)
theorem y26m : FnOk Go.Proofs.Try.prog nm fnE 132 7 := .of Go.Proofs.Try.func132 (by kernel_rfl) (by kernel_rfl) rfl (by kernel_rfl)
theorem y25e : FnOk Go.Proofs.Try.prog nm fnE 135 60 := .of Go.Proofs.Try.func135 (by kernel_rfl) (by kernel_rfl) rfl (by kernel_rfl)
theorem y27j : AllF Go.Proofs.Try.prog nm fnE 0 tbl :=
  ⟨ok5, ok16, ok18, ok20, ok22, ok23, ok37, ok38, ok39, ok40, ok43, ok44, ok45, ok46, ok47, ok51, ok52, ok53, ok54, ok55, ok56, ok57, ok64, ok66, ok67, ok68, ok69, ok70, ok72, ok73, ok82, ok83, ok84, ok90, y27q, y27h, y275, y27e, y279, y25y, y26j, y27y, y26m, y25e, trivial⟩
section
open Go.Proofs Go.RowKit
theorem y1hj {P : Program} {w : World} {r : Nat} {es : Array MapEntry} {clock : Nat} (t : TypeId) (hb : w.heap[r]? = some (.map es clock)) :
    (Extern.MapsClone.clone #[.iface t (.map (some r))]).run P w = .ok (.iface t (.map (some w.heap.size))) (w.alloc (.map es clock)) := by
  have e : Extern.MapsClone.clone #[.iface t (.map (some r))] = (getObj r >>= fun o => match o with
      | .map entries clock => (newObj (.map entries clock) >>= fun n => pure (.iface t (.map (some n))))
      | _ => stuck "maps.clone: a map expected") := rfl
  rw [e]
  simp [MapKept.run_getObj_map hb, Result.andThen, go_sem]
theorem yo3 {P : Program} {w : World} (t xT k e : TypeId) (v : Value) (h : P.underlying t = some (.map k e)) : (Instr.typeAssert (.iface t v) xT t false).run P w = .ok v w := by
  simp [Instr.typeAssert, y7 h, go_sem, Result.andThen]
set_option maxRecDepth 100000 in
set_option maxHeartbeats 2000000 in
theorem ykq (b : Nat) (es : Array MapEntry) (clock : Nat) (w : World) (hb : w.heap[b]? = some (.map es clock)) : Calls Go.Proofs.Try.prog 52 #[.map (some b)] w fun e w' => e = .returned (.map (some w.heap.size)) ∧ w' = w.alloc (.map es clock) := by
  have hq := fun w => run_eql_map_nil (P := Go.Proofs.Try.prog) w 65 _ _ (some b) Go.Proofs.Try.underlying65
  go_enter Go.Proofs.Try.func52, Go.Proofs.Try.ntmps52
  go_wp2
  rw [run_callFunc_extern Go.Proofs.Try.func89 (by kernel_rfl) (by kernel_rfl) (by kernel_rfl) (e := Extern.MapsClone.clone) (by kernel_rfl), y1hj 65 hb]
  simp only [Result.andThen]
  rw [Oper.upon_value]
  go_wp2
  rw [yo3 65 20 _ _ _ Go.Proofs.Try.underlying65]
  simp only [Result.andThen]
  rw [Oper.upon_value]
  go_wp2
  go_ret
  exact ⟨rfl, rfl⟩
set_option maxRecDepth 100000 in
set_option maxHeartbeats 2000000 in
theorem ymd (w : World) : Calls Go.Proofs.Try.prog 52 #[.map none] w fun e w' => e = .returned (.map none) ∧ w' = w := by
  have hq := fun w => run_eql_map_nil (P := Go.Proofs.Try.prog) w 65 _ _ none Go.Proofs.Try.underlying65
  go_enter Go.Proofs.Try.func52, Go.Proofs.Try.ntmps52
  go_wp2
  go_ret
  exact ⟨rfl, rfl⟩
end
theorem y25b : EnvOk Go.Proofs.Try.prog nm E := y1y3 (by kernel_rfl) y27j (.clone (f := 52) (y1v9 (by kernel_rfl)) ykq ymd)
end Go.Vm
