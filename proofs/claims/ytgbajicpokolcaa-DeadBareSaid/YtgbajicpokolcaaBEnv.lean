/- The machine's form of functions, each checked against the translation, and the environment that they make. -/
import Derived.Test.YtgbajicpokolcaaVc
import Derived.Test.YtgbajicpokolcaaProg
import Derived.Test.YtgbajicpokolcaaSd
import Derived.KernelRfl
set_option linter.unusedSimpArgs false
set_option linter.unusedVariables false
set_option linter.unusedSectionVars false
namespace Go.Vm
def y1wg : CCode :=
  (.seq (.draw [
 kO 5 (.ld true 5 1),
 kO 6 (.call none true 119 [5]),
 kO 7 (.un .not 6),
 kO 8 (.mv 7),
 kG 9 (.ld true 5 1) 8 false,
 kG 10 (.ld true 5 1) 8 false,
 kG 11 (.call none true 118 [10]) 8 false,
 kG 12 (.call none true 120 [9, 11]) 8 false,
 kO 13 (.pick 8 (.c (.bool true)) 12),
 kO 2 (.mv 13)] [(4, 6)])
 .ret)
def y1ja : CCode :=
  (.seq (.seq (.region [
 kO 3 (.call none true 117 []),
 kO 4 (.un .not 3)])
 (.cond 4
 (.seq (.region [
  kO 2 (.mv (.c (.bool false)))])
  .ret)
 .skip))
 y1wg)
def y1rf : CCode :=
  (.seq (.region [
 kO 1 (.box (some 0) 0),
 kO 2 (.mv (.c (.bool false)))])
 y1ja)
def y2o0 : CFunc :=
  ⟨1, true, 1, y1rf, [.t 2]⟩
def y1h6 : CCode :=
  (.seq (.region [
 kO 39 (.ld true 5 3),
 kU (.st 5 2 39)])
 .ret)
def y1hh : CCode :=
  (.region [
 kO 38 (.bin .add 23 (ci 1)),
 kO 23 (.mv 38)])
def y1qp : CCode :=
  (.seq (.block 1 (.seq (.region [
 kO 25 (.mv 23),
 kO 4 (.mv 25)])
 (.draw [
 kO 26 (.fa 3 3),
 kO 27 (.ld false 1 26),
 kO 28 (.mv 4),
 kO 29 (.fa 3 3),
 kO 30 (.ld false 1 29),
 kO 31 (.mv 4),
 kO 32 (.ixs 9 30 31),
 kO 33 (.fa 8 32),
 kO 34 (.ld false 1 33),
 kO 35 (.call none true 39 [34]),
 kO 36 (.ixs 9 27 28),
 kO 37 (.fa 8 36),
 kU (.st 1 37 35)] [(1, 9)])))
 y1hh)
def y1v6 : CCode :=
  (.seq (.cond 24
 .skip
 (.exit 0))
 y1qp)
def y1fl : CCode :=
  (.seq (.region [
 kO 24 (.bin .lss 23 22)])
 y1v6)
def yon : CCode :=
  (.loop [2, 3, 22, 23] y1fl)
def y1wr : CCode :=
  (.block 0 yon)
def y1w9 : CCode :=
  (.seq (.region [
 kO 20 (.fa 3 3),
 kO 21 (.ld false 1 20),
 kO 22 (.len 1 21),
 kO 23 (.mv (ci 0))])
 y1wr)
def y1my : CCode :=
  (.seq y1w9
 y1h6)
def y15n : CCode :=
  (.seq (.draw [
 kO 5 (.fa 0 1),
 kO 6 (.ld false 1 5),
 kO 7 (.call (some 2) false 39 [6]),
 kO 8 (.fa 1 1),
 kO 9 (.ld false 1 8),
 kO 10 (.call (some 3) false 39 [9]),
 kO 11 (.fa 2 1),
 kO 12 (.ld false 1 11),
 kO 13 (.fa 3 1),
 kO 14 (.ld false 1 13),
 kO 15 (.call (some 4) false 40 [14]),
 kO 16 (.fa 4 1),
 kO 17 (.ld false 1 16),
 kO 18 (.call (some 5) false 41 [17]),
 kO 19 (.build [.nils, .nils, (.int .i64 0), .nils, .nils] [(0, 1, 7), (1, 1, 10), (2, 1, 12), (3, 1, 15), (4, 1, 18)]),
 kO 3 (.new (some 6) [.nils, .nils, (.int .i64 0), .nils, .nils]),
 kU (.st 5 3 19)] [(2, 4), (2, 7), (5, 7), (2, 9), (5, 9), (7, 10), (2, 12), (5, 12), (10, 12), (7, 13), (1, 15), (2, 15), (4, 15), (5, 15), (7, 15), (9, 15), (10, 15), (12, 15), (13, 15)])
 y1my)
def y153 : CCode :=
  (.seq (.region [
 kO 1 (.box (some 0) 0),
 kO 2 (.new (some 1) [.nils, .nils, (.int .i64 0), .nils, .nils])])
 y15n)
def y2ms : CFunc :=
  ⟨1, true, 7, y153, [.cell 2 true 5]⟩
def y0h : CCode :=
  (.seq (.region [
 kO 4 (.mv (.c (.bool true)))])
 .ret)
def y13w : CCode :=
  (.region [
 kO 70 (.mv 6),
 kO 71 (.bin .add 70 (ci 1)),
 kO 6 (.mv 71)])
def y17h : CCode :=
  (.seq (.block 3 (.seq (.draw [
 kO 72 (.fa 4 2),
 kO 73 (.ld false 1 72),
 kO 74 (.mv 6),
 kO 75 (.ixs 4 73 74),
 kO 76 (.ld true 4 75),
 kO 77 (.fa 4 3),
 kO 78 (.ld false 1 77),
 kO 79 (.mv 6),
 kO 80 (.ixs 4 78 79),
 kO 81 (.ld true 4 80),
 kO 82 (.eqa true [0, 0, 0, 2] 76 81)] [])
 (.cond 82
 (.seq (.region [
  kO 4 (.mv (.c (.bool false)))])
  .ret)
 .skip)))
 y13w)
def y0d : CCode :=
  (.seq (.seq (.region [
 kO 65 (.mv 6),
 kO 66 (.fa 4 2),
 kO 67 (.ld false 1 66),
 kO 68 (.len 1 67),
 kO 69 (.bin .lss 65 68)])
 (.cond 69
 .skip
 (.exit 2)))
 y17h)
def yk8 : CCode :=
  (.loop [2, 3, 6] y0d)
def y13x : CCode :=
  (.block 2 yk8)
def y11n : CCode :=
  (.seq (.region [
 kO 6 (.mv (ci 0))])
 y13x)
def y12h : CCode :=
  (.seq y11n
 y0h)
def yuy : CCode :=
  (.region [
 kO 51 (.mv 5),
 kO 52 (.bin .add 51 (ci 1)),
 kO 5 (.mv 52)])
def yuk : CCode :=
  (.seq (.block 1 (.seq (.draw [
 kO 53 (.fa 3 2),
 kO 54 (.ld false 1 53),
 kO 55 (.mv 5),
 kO 56 (.ixs 9 54 55),
 kO 57 (.ld true 9 56),
 kO 58 (.fa 3 3),
 kO 59 (.ld false 1 58),
 kO 60 (.mv 5),
 kO 61 (.ixs 9 59 60),
 kO 62 (.ld true 9 61),
 kO 63 (.call none true 28 [57, 62]),
 kO 64 (.un .not 63)] [])
 (.cond 64
 (.seq (.region [
  kO 4 (.mv (.c (.bool false)))])
  .ret)
 .skip)))
 yuy)
def yrv : CCode :=
  (.seq (.seq (.region [
 kO 46 (.mv 5),
 kO 47 (.fa 3 2),
 kO 48 (.ld false 1 47),
 kO 49 (.len 1 48),
 kO 50 (.bin .lss 46 49)])
 (.cond 50
 .skip
 (.exit 0)))
 yuk)
def yhx : CCode :=
  (.loop [2, 3, 5] yrv)
def yte : CCode :=
  (.block 0 yhx)
def yva : CCode :=
  (.seq (.region [
 kO 5 (.mv (ci 0))])
 yte)
def yun : CCode :=
  (.seq yva
 y12h)
def yv6 : CCode :=
  (.seq (.seq (.region [
 kO 7 (.fa 0 2),
 kO 8 (.ld false 1 7),
 kO 9 (.fa 0 3),
 kO 10 (.ld false 1 9),
 kO 11 (.call none true 11 [8, 10]),
 kO 12 (.un .not 11),
 kO 13 (.mv 12),
 kG 14 (.fa 1 2) 13 false,
 kG 15 (.ld false 1 14) 13 false,
 kG 16 (.fa 1 3) 13 false,
 kG 17 (.ld false 1 16) 13 false,
 kG 18 (.call none true 11 [15, 17]) 13 false,
 kG 19 (.un .not 18) 13 false,
 kO 20 (.pick 13 (.c (.bool true)) 19),
 kO 21 (.mv 20),
 kG 22 (.fa 2 2) 21 false,
 kG 23 (.ld false 1 22) 21 false,
 kG 24 (.fa 2 3) 21 false,
 kG 25 (.ld false 1 24) 21 false,
 kG 26 (.bin .neq 23 25) 21 false,
 kO 27 (.pick 21 (.c (.bool true)) 26),
 kO 28 (.mv 27),
 kG 29 (.fa 3 2) 28 false,
 kG 30 (.ld false 1 29) 28 false,
 kG 31 (.len 1 30) 28 false,
 kG 32 (.fa 3 3) 28 false,
 kG 33 (.ld false 1 32) 28 false,
 kG 34 (.len 1 33) 28 false,
 kG 35 (.bin .neq 31 34) 28 false,
 kO 36 (.pick 28 (.c (.bool true)) 35),
 kO 37 (.mv 36),
 kG 38 (.fa 4 2) 37 false,
 kG 39 (.ld false 1 38) 37 false,
 kG 40 (.len 1 39) 37 false,
 kG 41 (.fa 4 3) 37 false,
 kG 42 (.ld false 1 41) 37 false,
 kG 43 (.len 1 42) 37 false,
 kG 44 (.bin .neq 40 43) 37 false,
 kO 45 (.pick 37 (.c (.bool true)) 44)])
 (.cond 45
 (.seq (.region [
  kO 4 (.mv (.c (.bool false)))])
  .ret)
 .skip))
 yun)
def yv1 : CCode :=
  (.seq (.region [
 kO 2 (.box (some 0) 0),
 kO 3 (.box (some 1) 1),
 kO 4 (.mv (.c (.bool false)))])
 yv6)
def y26r : CFunc :=
  ⟨2, true, 2, yv1, [.t 4]⟩
def y1ip : CCode :=
  (.seq (.region [
 kO 2 (.mv (ci 0))])
 .ret)
def y1er : CCode :=
  (.region [
 kO 179 (.bin .add 138 (ci 1)),
 kO 138 (.mv 179)])
def y1tt : CCode :=
  (.seq (.block 7 (.seq (.region [
 kO 140 (.ixs 4 136 138),
 kO 141 (.ld true 4 140),
 kO 11 (.new (some 2) [(.int .i64 0), (.int .i64 0), (.int .i64 0), (.str [])]),
 kU (.st 4 11 141)])
 (.seq (.region [
 kO 142 (.fa 0 11),
 kO 143 (.ld false 1 142),
 kO 144 (.bin .lss 143 (ci 0)),
 kO 145 (.mv 144),
 kG 146 (.fa 0 11) 145 false,
 kG 147 (.ld false 1 146) 145 false,
 kG 148 (.fa 1 11) 145 false,
 kG 149 (.ld false 1 148) 145 false,
 kG 150 (.bin .geq 147 149) 145 false,
 kO 151 (.pick 145 (.c (.bool true)) 150),
 kO 152 (.mv 151),
 kG 153 (.fa 1 11) 152 false,
 kG 154 (.ld false 1 153) 152 false,
 kG 155 (.mv 3) 152 false,
 kG 156 (.bin .gtr 154 155) 152 false,
 kO 157 (.pick 152 (.c (.bool true)) 156),
 kO 158 (.mv 157),
 kG 159 (.fa 2 11) 158 false,
 kG 160 (.ld false 1 159) 158 false,
 kG 161 (.bin .lss 160 (ci 0)) 158 false,
 kO 162 (.pick 158 (.c (.bool true)) 161),
 kO 163 (.mv 162),
 kG 164 (.fa 2 11) 163 false,
 kG 165 (.ld false 1 164) 163 false,
 kG 166 (.mv 3) 163 false,
 kG 167 (.bin .geq 165 166) 163 false,
 kO 168 (.pick 163 (.c (.bool true)) 167),
 kO 169 (.mv 168),
 kG 170 (.fa 3 1) 169 false,
 kG 171 (.ld false 1 170) 169 false,
 kG 172 (.fa 2 11) 169 false,
 kG 173 (.ld false 1 172) 169 false,
 kG 174 (.ixs 9 171 173) 169 false,
 kG 175 (.fa 0 174) 169 false,
 kG 176 (.ld false 1 175) 169 false,
 kG 177 (.bin .neq 176 (ci 32)) 169 false,
 kO 178 (.pick 169 (.c (.bool true)) 177)])
 (.cond 178
 (.seq (.region [
  kO 2 (.mv (ci 80))])
  .ret)
 .skip))))
 y1er)
def y1gv : CCode :=
  (.seq (.cond 139
 .skip
 (.exit 6))
 y1tt)
def y1q1 : CCode :=
  (.seq (.region [
 kO 139 (.bin .lss 138 137)])
 y1gv)
def yow : CCode :=
  (.loop [1, 3, 136, 137, 138] y1q1)
def y1ia : CCode :=
  (.block 6 yow)
def y1gn : CCode :=
  (.seq (.region [
 kO 135 (.fa 4 1),
 kO 136 (.ld false 1 135),
 kO 137 (.len 1 136),
 kO 138 (.mv (ci 0))])
 y1ia)
def y1xe : CCode :=
  (.seq y1gn
 y1ip)
def yzj : CCode :=
  (.region [
 kO 134 (.bin .add 94 (ci 1)),
 kO 94 (.mv 134)])
def y16v : CCode :=
  (.seq (.region [
 kO 103 (.fa 0 9),
 kO 104 (.ld false 1 103),
 kO 105 (.bin .eql 104 (ci 32)),
 kO 106 (.mv 105),
 kG 107 (.mv 8) 106 true,
 kG 108 (.bin .eql 107 (ci 0)) 106 true,
 kG 109 (.mv 108) 106 true,
 kG 110 (.fa 3 1) 109 false,
 kG 111 (.ld false 1 110) 109 false,
 kG 112 (.mv 8) 109 false,
 kG 113 (.bin .sub 112 (ci 1)) 109 false,
 kG 114 (.ixs 9 111 113) 109 false,
 kG 115 (.ld true 9 114) 109 false,
 kG 116 (.call none true 24 [115]) 109 false,
 kG 117 (.un .not 116) 109 false,
 kG 118 (.pick 109 (.c (.bool true)) 117) 106 true,
 kO 119 (.pick 106 118 (.c (.bool false))),
 kO 120 (.mv 119),
 kG 121 (.ld true 9 9) 120 false,
 kG 122 (.call none true 22 [121]) 120 false,
 kG 123 (.mv 122) 120 false,
 kG 124 (.fa 3 1) 123 true,
 kG 125 (.ld false 1 124) 123 true,
 kG 126 (.fa 6 9) 123 true,
 kG 127 (.ld false 1 126) 123 true,
 kG 128 (.ixs 9 125 127) 123 true,
 kG 129 (.fa 0 128) 123 true,
 kG 130 (.ld false 1 129) 123 true,
 kG 131 (.bin .eql 130 (ci 32)) 123 true,
 kG 132 (.pick 123 131 (.c (.bool false))) 120 false,
 kO 133 (.pick 120 (.c (.bool true)) 132)])
 (.cond 133
 (.seq (.region [
  kO 2 (.mv (ci 80))])
  .ret)
 .skip))
def y169 : CCode :=
  (.seq (.seq (.region [
 kO 99 (.ld true 5 1),
 kO 100 (.ld true 9 9),
 kO 101 (.call none true 63 [99, 100]),
 kO 102 (.un .not 101)])
 (.cond 102
 (.seq (.region [
  kO 2 (.mv (ci 80))])
  .ret)
 .skip))
 y16v)
def y16q : CCode :=
  (.seq (.region [
 kO 96 (.mv 94),
 kO 97 (.ixs 9 92 94),
 kO 98 (.ld true 9 97),
 kO 9 (.new (some 1) [(.int .i64 0), (.int .i64 0), (.int .i64 0), (.int .i64 0), (.int .i64 0), (.int .i64 0), (.int .i64 0), (.str []), .nils]),
 kO 8 (.mv 96),
 kU (.st 9 9 98)])
 y169)
def y18f : CCode :=
  (.block 5 y16q)
def y12f : CCode :=
  (.seq y18f
 yzj)
def y192 : CCode :=
  (.seq (.cond 95
 .skip
 (.exit 4))
 y12f)
def y13a : CCode :=
  (.seq (.region [
 kO 95 (.bin .lss 94 93)])
 y192)
def yhg : CCode :=
  (.loop [1, 3, 92, 93, 94] y13a)
def y167 : CCode :=
  (.block 4 yhg)
def yzp : CCode :=
  (.seq (.region [
 kO 91 (.fa 3 1),
 kO 92 (.ld false 1 91),
 kO 93 (.len 1 92),
 kO 94 (.mv (ci 0))])
 y167)
def y13u : CCode :=
  (.seq yzp
 y1xe)
def y14w : CCode :=
  (.region [
 kO 90 (.bin .add 64 (ci 1)),
 kO 64 (.mv 90)])
def y185 : CCode :=
  (.seq (.block 3 (.seq (.region [
 kO 66 (.mv 64),
 kO 67 (.ixs 1 62 64),
 kO 68 (.ld false 1 67),
 kO 6 (.mv 66),
 kO 7 (.mv 68)])
 (.seq (.region [
 kO 69 (.mv 7),
 kO 70 (.bin .lss 69 (ci 0)),
 kO 71 (.mv 70),
 kG 72 (.mv 7) 71 false,
 kG 73 (.fa 0 1) 71 false,
 kG 74 (.ld false 1 73) 71 false,
 kG 75 (.len 1 74) 71 false,
 kG 76 (.bin .geq 72 75) 71 false,
 kO 77 (.pick 71 (.c (.bool true)) 76),
 kO 78 (.mv 77),
 kG 79 (.fa 1 1) 78 false,
 kG 80 (.ld false 1 79) 78 false,
 kG 81 (.mv 6) 78 false,
 kG 82 (.slc 1 80 none (some 81)) 78 false,
 kG 83 (.mv 7) 78 false,
 kG 84 (.call none true 46 [82, 83]) 78 false,
 kO 85 (.pick 78 (.c (.bool true)) 84),
 kO 86 (.mv 85),
 kG 87 (.mv 6) 86 false,
 kG 88 (.bin .gtr 87 (ci 20)) 86 false,
 kO 89 (.pick 86 (.c (.bool true)) 88)])
 (.cond 89
 (.seq (.region [
  kO 2 (.mv (ci 80))])
  .ret)
 .skip))))
 y14w)
def yz8 : CCode :=
  (.seq (.cond 65
 .skip
 (.exit 2))
 y185)
def y174 : CCode :=
  (.seq (.region [
 kO 65 (.bin .lss 64 63)])
 yz8)
def yj4 : CCode :=
  (.loop [1, 3, 62, 63, 64] y174)
def y12u : CCode :=
  (.block 2 yj4)
def y16u : CCode :=
  (.seq (.region [
 kO 61 (.fa 1 1),
 kO 62 (.ld false 1 61),
 kO 63 (.len 1 62),
 kO 64 (.mv (ci 0))])
 y12u)
def y13e : CCode :=
  (.seq y16u
 y13u)
def yya : CCode :=
  (.region [
 kO 60 (.bin .add 50 (ci 1)),
 kO 50 (.mv 60)])
def y19p : CCode :=
  (.seq (.block 1 (.seq (.region [
 kO 52 (.ixs 1 48 50),
 kO 53 (.ld false 1 52),
 kO 5 (.mv 53)])
 (.seq (.region [
 kO 54 (.mv 5),
 kO 55 (.bin .lss 54 (ci 1)),
 kO 56 (.mv 55),
 kG 57 (.mv 5) 56 false,
 kG 58 (.bin .gtr 57 (ci 3)) 56 false,
 kO 59 (.pick 56 (.c (.bool true)) 58)])
 (.cond 59
 (.seq (.region [
  kO 2 (.mv (ci 80))])
  .ret)
 .skip))))
 yya)
def y15a : CCode :=
  (.seq (.cond 51
 .skip
 (.exit 0))
 y19p)
def y16c : CCode :=
  (.seq (.region [
 kO 51 (.bin .lss 50 49)])
 y15a)
def yjf : CCode :=
  (.loop [1, 3, 48, 49, 50] y16c)
def y16j : CCode :=
  (.block 0 yjf)
def y198 : CCode :=
  (.seq (.region [
 kO 47 (.fa 0 1),
 kO 48 (.ld false 1 47),
 kO 49 (.len 1 48),
 kO 50 (.mv (ci 0))])
 y16j)
def y14p : CCode :=
  (.seq y198
 y13e)
def y12x : CCode :=
  (.seq (.seq (.region [
 kO 15 (.mv 3),
 kO 16 (.bin .lss 15 (ci 1)),
 kO 17 (.mv 16),
 kG 18 (.mv 3) 17 false,
 kG 19 (.bin .gtr 18 (ci 20000)) 17 false,
 kO 20 (.pick 17 (.c (.bool true)) 19),
 kO 21 (.mv 20),
 kG 22 (.fa 0 1) 21 false,
 kG 23 (.ld false 1 22) 21 false,
 kG 24 (.len 1 23) 21 false,
 kG 25 (.bin .gtr 24 (ci 20000)) 21 false,
 kO 26 (.pick 21 (.c (.bool true)) 25),
 kO 27 (.mv 26),
 kG 28 (.fa 2 1) 27 false,
 kG 29 (.ld false 1 28) 27 false,
 kG 30 (.bin .lss 29 (ci 0)) 27 false,
 kO 31 (.pick 27 (.c (.bool true)) 30),
 kO 32 (.mv 31),
 kG 33 (.fa 2 1) 32 false,
 kG 34 (.ld false 1 33) 32 false,
 kG 35 (.bin .gtr 34 (ci 3)) 32 false,
 kO 36 (.pick 32 (.c (.bool true)) 35),
 kO 37 (.mv 36),
 kG 38 (.fa 3 1) 37 false,
 kG 39 (.ld false 1 38) 37 false,
 kG 40 (.mv 3) 37 false,
 kG 41 (.bin .sub 40 (ci 1)) 37 false,
 kG 42 (.ixs 9 39 41) 37 false,
 kG 43 (.ld true 9 42) 37 false,
 kG 44 (.call none true 24 [43]) 37 false,
 kG 45 (.un .not 44) 37 false,
 kO 46 (.pick 37 (.c (.bool true)) 45)])
 (.cond 46
 (.seq (.region [
  kO 2 (.mv (ci 80))])
  .ret)
 .skip))
 y14p)
def y186 : CCode :=
  (.seq (.region [
 kO 12 (.fa 3 1),
 kO 13 (.ld false 1 12),
 kO 14 (.len 1 13),
 kO 3 (.mv 14)])
 y12x)
def y18h : CCode :=
  (.seq (.region [
 kO 1 (.box (some 0) 0),
 kO 2 (.mv (ci 0))])
 y186)
def y2j5 : CFunc :=
  ⟨1, true, 3, y18h, [.t 2]⟩
def y2rp : CFunc :=
  ⟨0, true, 3, (.seq (.region [
    kO 0 (.mv (.c (.bool false)))])
  (.seq (.region [
    kO 2 (.buildS (some 0) 1 2 [(.int .i64 0)] [(0, (ci 1)), (1, (ci 1))]),
    kO 3 (.build [(.int .i64 0), (.int .i64 0), (.int .i64 0), (.int .i64 0), (.int .i64 0), (.int .i64 0), (.int .i64 0), (.str []), .nils] [(0, 1, (ci 1)), (1, 1, (ci 0)), (5, 1, (ci 2))]),
    kO 4 (.build [(.int .i64 0), (.int .i64 0), (.int .i64 0), (.int .i64 0), (.int .i64 0), (.int .i64 0), (.int .i64 0), (.str []), .nils] [(0, 1, (ci 4)), (1, 1, (ci 1)), (2, 1, (ci 0))]),
    kO 5 (.build [(.int .i64 0), (.int .i64 0), (.int .i64 0), (.int .i64 0), (.int .i64 0), (.int .i64 0), (.int .i64 0), (.str []), .nils] [(0, 1, (ci 30)), (2, 1, (ci (-1)))]),
    kO 6 (.buildS (some 1) 9 3 [(.int .i64 0), (.int .i64 0), (.int .i64 0), (.int .i64 0), (.int .i64 0), (.int .i64 0), (.int .i64 0), (.str []), .nils] [(0, 3), (1, 4), (2, 5)]),
    kO 7 (.build [.nils, .nils, (.int .i64 0), .nils, .nils] [(0, 1, 2), (3, 1, 6)]),
    kO 8 (.call none true 118 [7]),
    kO 1 (.new (some 2) [.nils, .nils, (.int .i64 0), .nils, .nils]),
    kU (.st 5 1 8)])
  (.seq (.region [
    kO 9 (.fa 3 1),
    kO 10 (.ld false 1 9),
    kO 11 (.len 1 10),
    kO 12 (.bin .eql 11 (ci 3)),
    kO 13 (.mv 12),
    kG 14 (.fa 3 1) 13 true,
    kG 15 (.ld false 1 14) 13 true,
    kG 16 (.ixs 9 15 (ci 0)) 13 true,
    kG 17 (.fa 0 16) 13 true,
    kG 18 (.ld false 1 17) 13 true,
    kG 19 (.bin .eql 18 (ci 33)) 13 true,
    kO 20 (.pick 13 19 (.c (.bool false))),
    kO 21 (.mv 20),
    kG 22 (.fa 3 1) 21 true,
    kG 23 (.ld false 1 22) 21 true,
    kG 24 (.ixs 9 23 (ci 1)) 21 true,
    kG 25 (.fa 0 24) 21 true,
    kG 26 (.ld false 1 25) 21 true,
    kG 27 (.bin .eql 26 (ci 33)) 21 true,
    kO 28 (.pick 21 27 (.c (.bool false))),
    kO 29 (.mv 28),
    kG 30 (.fa 3 1) 29 true,
    kG 31 (.ld false 1 30) 29 true,
    kG 32 (.ixs 9 31 (ci 2)) 29 true,
    kG 33 (.fa 0 32) 29 true,
    kG 34 (.ld false 1 33) 29 true,
    kG 35 (.bin .eql 34 (ci 30)) 29 true,
    kO 36 (.pick 29 35 (.c (.bool false))),
    kO 0 (.mv 36)])
  .ret))), [.t 0]⟩
def y268 : CCode :=
  (.seq (.region [
 kO 40 (.ld true 5 1),
 kU (.st 5 2 40)])
 .ret)
def y26u : CCode :=
  (.region [
 kO 39 (.bin .add 19 (ci 1)),
 kO 19 (.mv 39)])
def y26d : CCode :=
  (.seq (.block 3 (.seq (.region [
 kO 21 (.mv 19),
 kO 22 (.ixs 9 17 19),
 kO 23 (.ld true 9 22),
 kO 6 (.new (some 10) [(.int .i64 0), (.int .i64 0), (.int .i64 0), (.int .i64 0), (.int .i64 0), (.int .i64 0), (.int .i64 0), (.str []), .nils]),
 kO 5 (.mv 21),
 kU (.st 9 6 23)])
 (.seq (.region [
 kO 24 (.ld true 9 6),
 kO 25 (.call none true 20 [24]),
 kO 26 (.mv 25),
 kG 27 (.mv 4) 26 true,
 kG 28 (.mv 5) 26 true,
 kG 29 (.fa 1 6) 26 true,
 kG 30 (.ld false 1 29) 26 true,
 kG 31 (.call none true 87 [27, 28, 30]) 26 true,
 kG 32 (.un .not 31) 26 true,
 kO 33 (.pick 26 32 (.c (.bool false)))])
 (.cond 33
 (.seq (.region [
  kO 34 (.fa 3 1),
  kO 35 (.ld false 1 34),
  kO 36 (.mv 5),
  kO 37 (.build [(.int .i64 0), (.int .i64 0), (.int .i64 0), (.int .i64 0), (.int .i64 0), (.int .i64 0), (.int .i64 0), (.str []), .nils] [(0, 1, (ci 33))]),
  kO 38 (.ixs 9 35 36),
  kU (.st 9 38 37)])
  (.region [
  kO 3 (.mv (.c (.bool true)))]))
 .skip))))
 y26u)
def y28c : CCode :=
  (.seq (.cond 20
 .skip
 (.exit 2))
 y26d)
def y27c : CCode :=
  (.seq (.region [
 kO 20 (.bin .lss 19 18)])
 y28c)
def yw1 : CCode :=
  (.loop [1, 2, 3, 4, 17, 18, 19] y27c)
def y26m : CCode :=
  (.block 2 yw1)
def y27n : CCode :=
  (.seq (.region [
 kO 16 (.fa 3 1),
 kO 17 (.ld false 1 16),
 kO 18 (.len 1 17),
 kO 19 (.mv (ci 0))])
 y26m)
def y1s4 : CCode :=
  (.seq (.region [
 kO 14 (.ld true 5 1),
 kO 15 (.call none true 75 [14]),
 kO 4 (.mv 15)])
 y27n)
def y1j3 : CCode :=
  (.seq (.region [
 kO 3 (.mv (.c (.bool false)))])
 y1s4)
def y1wf : CCode :=
  (.block 1 y1j3)
def y1st : CCode :=
  (.seq (.seq (.region [
 kO 13 (.mv 3)])
 (.cond 13
 .skip
 (.exit 0)))
 y1wf)
def yvu : CCode :=
  (.loop [1, 2, 3] y1st)
def y1ne : CCode :=
  (.block 0 yvu)
def y1vx : CCode :=
  (.seq (.region [
 kO 3 (.mv (.c (.bool true)))])
 y1ne)
def y1pz : CCode :=
  (.seq y1vx
 y268)
def y1nz : CCode :=
  (.seq (.seq (.region [
 kO 9 (.ld true 5 1),
 kO 10 (.call none true 8 [9]),
 kO 11 (.bin .neq 10 (ci 0))])
 (.cond 11
 (.seq (.region [
  kO 12 (.ld true 5 1),
  kU (.st 5 2 12)])
  .ret)
 .skip))
 y1pz)
def y1n8 : CCode :=
  (.seq (.region [
 kO 7 (.ld true 5 1),
 kO 8 (.call (some 2) false 13 [7]),
 kU (.st 5 1 8)])
 y1nz)
def y1hm : CCode :=
  (.seq (.region [
 kO 1 (.box (some 0) 0),
 kO 2 (.new (some 1) [.nils, .nils, (.int .i64 0), .nils, .nils])])
 y1n8)
def c_q6 : CFunc :=
  ⟨1, true, 11, y1hm, [.cell 2 true 5]⟩
def y1u7 : CCode :=
  (.seq (.region [
 kO 1 (.box (some 0) 0),
 kO 2 (.mv (.c (.bool false)))])
 (.seq (.region [
 kO 3 (.fa 3 1),
 kO 4 (.ld false 1 3),
 kO 5 (.len 1 4),
 kO 6 (.bin .leq 5 (ci 90)),
 kO 7 (.mv 6),
 kG 8 (.fa 0 1) 7 true,
 kG 9 (.ld false 1 8) 7 true,
 kG 10 (.len 1 9) 7 true,
 kG 11 (.bin .leq 10 (ci 20)) 7 true,
 kO 12 (.pick 7 11 (.c (.bool false))),
 kO 13 (.mv 12),
 kG 14 (.fa 4 1) 13 true,
 kG 15 (.ld false 1 14) 13 true,
 kG 16 (.len 1 15) 13 true,
 kG 17 (.bin .leq 16 (ci 12)) 13 true,
 kO 18 (.pick 13 17 (.c (.bool false))),
 kO 19 (.mv 18),
 kG 20 (.ld true 5 1) 19 true,
 kG 21 (.call none true 29 [20]) 19 true,
 kG 22 (.bin .eql 21 (ci 0)) 19 true,
 kO 23 (.pick 19 22 (.c (.bool false))),
 kO 2 (.mv 23)])
 .ret))
def y2nt : CFunc :=
  ⟨1, true, 1, y1u7, [.t 2]⟩
def yy6 : CCode :=
  (.seq (.region [
 kO 70 (.ld true 5 2),
 kO 71 (.ld true 5 5),
 kO 72 (.call none true 14 [70, 71]),
 kO 4 (.mv 72)])
 .ret)
def y18a : CCode :=
  (.region [
 kO 26 (.mv 6),
 kO 27 (.bin .add 26 (ci 1)),
 kO 6 (.mv 27)])
def y152 : CCode :=
  (.seq (.region [
 kO 51 (.fa 0 7),
 kO 52 (.ld false 1 51),
 kO 53 (.call none true 21 [52]),
 kO 54 (.mv 53),
 kG 55 (.ld true 5 2) 54 true,
 kG 56 (.mv 6) 54 true,
 kG 57 (.fa 1 7) 54 true,
 kG 58 (.ld false 1 57) 54 true,
 kG 59 (.call none true 90 [55, 56, 58]) 54 true,
 kG 60 (.un .not 59) 54 true,
 kG 61 (.mv 60) 54 true,
 kG 62 (.ld true 5 3) 61 false,
 kG 63 (.mv 6) 61 false,
 kG 64 (.fa 1 7) 61 false,
 kG 65 (.ld false 1 64) 61 false,
 kG 66 (.call none true 90 [62, 63, 65]) 61 false,
 kG 67 (.un .not 66) 61 false,
 kG 68 (.pick 61 (.c (.bool true)) 67) 54 true,
 kO 69 (.pick 54 68 (.c (.bool false)))])
 (.cond 69
 (.seq (.region [
  kO 4 (.mv (.c (.bool false)))])
  .ret)
 .skip))
def y14o : CCode :=
  (.seq (.seq (.region [
 kO 38 (.fa 0 8),
 kO 39 (.ld false 1 38),
 kO 40 (.bin .eql 39 (ci 33)),
 kO 41 (.mv 40),
 kG 42 (.fa 0 7) 41 true,
 kG 43 (.ld false 1 42) 41 true,
 kG 44 (.call none true 21 [43]) 41 true,
 kO 45 (.pick 41 44 (.c (.bool false)))])
 (.cond 45
 (.seq (.region [
  kO 46 (.fa 3 5),
  kO 47 (.ld false 1 46),
  kO 48 (.mv 6),
  kO 49 (.ld true 9 7),
  kO 50 (.ixs 9 47 48),
  kU (.st 9 50 49)])
  (.exit 1))
 .skip))
 y152)
def y19g : CCode :=
  (.seq (.region [
 kO 33 (.fa 3 3),
 kO 34 (.ld false 1 33),
 kO 35 (.mv 6),
 kO 36 (.ixs 9 34 35),
 kO 37 (.ld true 9 36),
 kO 8 (.new (some 5) [(.int .i64 0), (.int .i64 0), (.int .i64 0), (.int .i64 0), (.int .i64 0), (.int .i64 0), (.int .i64 0), (.str []), .nils]),
 kU (.st 9 8 37)])
 y14o)
def y17e : CCode :=
  (.seq (.region [
 kO 28 (.fa 3 2),
 kO 29 (.ld false 1 28),
 kO 30 (.mv 6),
 kO 31 (.ixs 9 29 30),
 kO 32 (.ld true 9 31),
 kO 7 (.new (some 4) [(.int .i64 0), (.int .i64 0), (.int .i64 0), (.int .i64 0), (.int .i64 0), (.int .i64 0), (.int .i64 0), (.str []), .nils]),
 kU (.st 9 7 32)])
 y19g)
def y11g : CCode :=
  (.block 1 y17e)
def y13k : CCode :=
  (.seq y11g
 y18a)
def ys6 : CCode :=
  (.seq (.seq (.region [
 kO 21 (.mv 6),
 kO 22 (.fa 3 2),
 kO 23 (.ld false 1 22),
 kO 24 (.len 1 23),
 kO 25 (.bin .lss 21 24)])
 (.cond 25
 .skip
 (.exit 0)))
 y13k)
def ykq : CCode :=
  (.loop [2, 3, 5, 6] ys6)
def yul : CCode :=
  (.block 0 ykq)
def yv0 : CCode :=
  (.seq (.region [
 kO 6 (.mv (ci 0))])
 yul)
def yqy : CCode :=
  (.seq yv0
 yy6)
def ysp : CCode :=
  (.seq (.region [
 kO 17 (.fa 3 3),
 kO 18 (.ld false 1 17),
 kO 19 (.app (some 3) 9 96 (.c .nils) 18),
 kO 20 (.fa 3 5),
 kU (.st 1 20 19)])
 yqy)
def yuv : CCode :=
  (.seq (.region [
 kO 16 (.ld true 5 3),
 kO 5 (.new (some 2) [.nils, .nils, (.int .i64 0), .nils, .nils]),
 kU (.st 5 5 16)])
 ysp)
def yss : CCode :=
  (.seq (.seq (.region [
 kO 9 (.fa 3 2),
 kO 10 (.ld false 1 9),
 kO 11 (.len 1 10),
 kO 12 (.fa 3 3),
 kO 13 (.ld false 1 12),
 kO 14 (.len 1 13),
 kO 15 (.bin .neq 11 14)])
 (.cond 15
 (.seq (.region [
  kO 4 (.mv (.c (.bool false)))])
  .ret)
 .skip))
 yuv)
def ys1 : CCode :=
  (.seq (.region [
 kO 2 (.box (some 0) 0),
 kO 3 (.box (some 1) 1),
 kO 4 (.mv (.c (.bool false)))])
 yss)
def y28b : CFunc :=
  ⟨2, true, 6, ys1, [.t 4]⟩
def y19h : CCode :=
  (.seq (.region [
 kO 2 (.mv (ci 0))])
 .ret)
def y195 : CCode :=
  (.region [
 kO 154 (.mv 8),
 kO 155 (.bin .add 154 (ci 1)),
 kO 8 (.mv 155)])
def y19y : CCode :=
  (.seq (.block 7 (.seq (.region [
 kO 156 (.fa 4 1),
 kO 157 (.ld false 1 156),
 kO 158 (.mv 8),
 kO 159 (.ixs 4 157 158),
 kO 160 (.ld true 4 159),
 kO 9 (.new (some 2) [(.int .i64 0), (.int .i64 0), (.int .i64 0), (.str [])]),
 kU (.st 4 9 160)])
 (.seq (.region [
 kO 161 (.fa 0 9),
 kO 162 (.ld false 1 161),
 kO 163 (.bin .lss 162 (ci 0)),
 kO 164 (.mv 163),
 kG 165 (.fa 0 9) 164 false,
 kG 166 (.ld false 1 165) 164 false,
 kG 167 (.fa 1 9) 164 false,
 kG 168 (.ld false 1 167) 164 false,
 kG 169 (.bin .geq 166 168) 164 false,
 kO 170 (.pick 164 (.c (.bool true)) 169),
 kO 171 (.mv 170),
 kG 172 (.fa 1 9) 171 false,
 kG 173 (.ld false 1 172) 171 false,
 kG 174 (.mv 3) 171 false,
 kG 175 (.bin .gtr 173 174) 171 false,
 kO 176 (.pick 171 (.c (.bool true)) 175),
 kO 177 (.mv 176),
 kG 178 (.ld true 5 1) 177 false,
 kG 179 (.fa 2 9) 177 false,
 kG 180 (.ld false 1 179) 177 false,
 kG 181 (.call none true 49 [178, 180]) 177 false,
 kG 182 (.un .not 181) 177 false,
 kO 183 (.pick 177 (.c (.bool true)) 182),
 kO 184 (.mv 183),
 kG 185 (.fa 3 1) 184 false,
 kG 186 (.ld false 1 185) 184 false,
 kG 187 (.fa 2 9) 184 false,
 kG 188 (.ld false 1 187) 184 false,
 kG 189 (.ixs 9 186 188) 184 false,
 kG 190 (.fa 0 189) 184 false,
 kG 191 (.ld false 1 190) 184 false,
 kG 192 (.bin .neq 191 (ci 32)) 184 false,
 kO 193 (.pick 184 (.c (.bool true)) 192)])
 (.cond 193
 (.seq (.region [
  kO 2 (.mv (ci 80))])
  .ret)
 .skip))))
 y195)
def y03 : CCode :=
  (.seq (.seq (.region [
 kO 149 (.mv 8),
 kO 150 (.fa 4 1),
 kO 151 (.ld false 1 150),
 kO 152 (.len 1 151),
 kO 153 (.bin .lss 149 152)])
 (.cond 153
 .skip
 (.exit 6)))
 y19y)
def yjg : CCode :=
  (.loop [1, 3, 8] y03)
def yyf : CCode :=
  (.block 6 yjg)
def y02 : CCode :=
  (.seq (.region [
 kO 8 (.mv (ci 0))])
 yyf)
def yzh : CCode :=
  (.seq y02
 y19h)
def yt9 : CCode :=
  (.region [
 kO 103 (.mv 6),
 kO 104 (.bin .add 103 (ci 1)),
 kO 6 (.mv 104)])
def yst : CCode :=
  (.seq (.block 5 (.seq (.region [
 kO 105 (.fa 3 1),
 kO 106 (.ld false 1 105),
 kO 107 (.mv 6),
 kO 108 (.ixs 9 106 107),
 kO 109 (.ld true 9 108),
 kO 7 (.new (some 1) [(.int .i64 0), (.int .i64 0), (.int .i64 0), (.int .i64 0), (.int .i64 0), (.int .i64 0), (.int .i64 0), (.str []), .nils]),
 kU (.st 9 7 109)])
 (.seq (.region [
 kO 110 (.ld true 5 1),
 kO 111 (.ld true 9 7),
 kO 112 (.call none true 64 [110, 111]),
 kO 113 (.un .not 112),
 kO 114 (.mv 113),
 kG 115 (.fa 0 7) 114 false,
 kG 116 (.ld false 1 115) 114 false,
 kG 117 (.bin .eql 116 (ci 32)) 114 false,
 kG 118 (.mv 117) 114 false,
 kG 119 (.mv 6) 118 true,
 kG 120 (.bin .eql 119 (ci 0)) 118 true,
 kG 121 (.mv 120) 118 true,
 kG 122 (.fa 3 1) 121 false,
 kG 123 (.ld false 1 122) 121 false,
 kG 124 (.mv 6) 121 false,
 kG 125 (.bin .sub 124 (ci 1)) 121 false,
 kG 126 (.ixs 9 123 125) 121 false,
 kG 127 (.fa 0 126) 121 false,
 kG 128 (.ld false 1 127) 121 false,
 kG 129 (.call none true 25 [128]) 121 false,
 kG 130 (.un .not 129) 121 false,
 kG 131 (.pick 121 (.c (.bool true)) 130) 118 true,
 kG 132 (.pick 118 131 (.c (.bool false))) 114 false,
 kO 133 (.pick 114 (.c (.bool true)) 132),
 kO 134 (.mv 133),
 kG 135 (.fa 0 7) 134 false,
 kG 136 (.ld false 1 135) 134 false,
 kG 137 (.call none true 23 [136]) 134 false,
 kG 138 (.mv 137) 134 false,
 kG 139 (.fa 3 1) 138 true,
 kG 140 (.ld false 1 139) 138 true,
 kG 141 (.fa 6 7) 138 true,
 kG 142 (.ld false 1 141) 138 true,
 kG 143 (.ixs 9 140 142) 138 true,
 kG 144 (.fa 0 143) 138 true,
 kG 145 (.ld false 1 144) 138 true,
 kG 146 (.bin .eql 145 (ci 32)) 138 true,
 kG 147 (.pick 138 146 (.c (.bool false))) 134 false,
 kO 148 (.pick 134 (.c (.bool true)) 147)])
 (.cond 148
 (.seq (.region [
  kO 2 (.mv (ci 80))])
  .ret)
 .skip))))
 yt9)
def yre : CCode :=
  (.seq (.seq (.region [
 kO 100 (.mv 6),
 kO 101 (.mv 3),
 kO 102 (.bin .lss 100 101)])
 (.cond 102
 .skip
 (.exit 4)))
 yst)
def yik : CCode :=
  (.loop [1, 3, 6] yre)
def yqk : CCode :=
  (.block 4 yik)
def yvf : CCode :=
  (.seq (.region [
 kO 6 (.mv (ci 0))])
 yqk)
def yv4 : CCode :=
  (.seq yvf
 yzh)
def yts : CCode :=
  (.region [
 kO 78 (.mv 5),
 kO 79 (.bin .add 78 (ci 1)),
 kO 5 (.mv 79)])
def yu7 : CCode :=
  (.seq (.block 3 (.seq (.draw [
 kO 80 (.ld true 5 1),
 kO 81 (.fa 1 1),
 kO 82 (.ld false 1 81),
 kO 83 (.mv 5),
 kO 84 (.ixs 1 82 83),
 kO 85 (.ld false 1 84),
 kO 86 (.call none true 48 [80, 85]),
 kO 87 (.bin .eql 86 (ci 0)),
 kO 88 (.mv 87),
 kG 89 (.fa 1 1) 88 false,
 kG 90 (.ld false 1 89) 88 false,
 kG 91 (.mv 5) 88 false,
 kG 92 (.ixs 1 90 91) 88 false,
 kG 93 (.ld false 1 92) 88 false,
 kG 94 (.fa 1 1) 88 false,
 kG 95 (.ld false 1 94) 88 false,
 kG 96 (.mv 5) 88 false,
 kG 97 (.slc 1 95 none (some 96)) 88 false,
 kG 98 (.call none true 42 [93, 97]) 88 false,
 kO 99 (.pick 88 (.c (.bool true)) 98)] [])
 (.cond 99
 (.seq (.region [
  kO 2 (.mv (ci 80))])
  .ret)
 .skip)))
 yts)
def yq8 : CCode :=
  (.seq (.seq (.region [
 kO 73 (.mv 5),
 kO 74 (.fa 1 1),
 kO 75 (.ld false 1 74),
 kO 76 (.len 1 75),
 kO 77 (.bin .lss 73 76)])
 (.cond 77
 .skip
 (.exit 2)))
 yu7)
def yfh : CCode :=
  (.loop [1, 3, 5] yq8)
def yu1 : CCode :=
  (.block 2 yfh)
def yu9 : CCode :=
  (.seq (.region [
 kO 5 (.mv (ci 0))])
 yu1)
def ys0 : CCode :=
  (.seq yu9
 yv4)
def yse : CCode :=
  (.region [
 kO 57 (.mv 4),
 kO 58 (.bin .add 57 (ci 1)),
 kO 4 (.mv 58)])
def yti : CCode :=
  (.seq (.block 1 (.seq (.region [
 kO 59 (.fa 0 1),
 kO 60 (.ld false 1 59),
 kO 61 (.mv 4),
 kO 62 (.ixs 1 60 61),
 kO 63 (.ld false 1 62),
 kO 64 (.bin .lss 63 (ci 1)),
 kO 65 (.mv 64),
 kG 66 (.fa 0 1) 65 false,
 kG 67 (.ld false 1 66) 65 false,
 kG 68 (.mv 4) 65 false,
 kG 69 (.ixs 1 67 68) 65 false,
 kG 70 (.ld false 1 69) 65 false,
 kG 71 (.bin .gtr 70 (ci 3)) 65 false,
 kO 72 (.pick 65 (.c (.bool true)) 71)])
 (.cond 72
 (.seq (.region [
  kO 2 (.mv (ci 80))])
  .ret)
 .skip)))
 yse)
def ytn : CCode :=
  (.seq (.seq (.region [
 kO 52 (.mv 4),
 kO 53 (.fa 0 1),
 kO 54 (.ld false 1 53),
 kO 55 (.len 1 54),
 kO 56 (.bin .lss 52 55)])
 (.cond 56
 .skip
 (.exit 0)))
 yti)
def yf2 : CCode :=
  (.loop [1, 3, 4] ytn)
def yrm : CCode :=
  (.block 0 yf2)
def ytu : CCode :=
  (.seq (.region [
 kO 4 (.mv (ci 0))])
 yrm)
def ysc : CCode :=
  (.seq ytu
 ys0)
def ysh : CCode :=
  (.seq (.seq (.region [
 kO 13 (.mv 3),
 kO 14 (.bin .eql 13 (ci 0)),
 kO 15 (.mv 14),
 kG 16 (.mv 3) 15 false,
 kG 17 (.bin .gtr 16 (ci 20000)) 15 false,
 kO 18 (.pick 15 (.c (.bool true)) 17),
 kO 19 (.mv 18),
 kG 20 (.fa 0 1) 19 false,
 kG 21 (.ld false 1 20) 19 false,
 kG 22 (.len 1 21) 19 false,
 kG 23 (.bin .gtr 22 (ci 20000)) 19 false,
 kO 24 (.pick 19 (.c (.bool true)) 23),
 kO 25 (.mv 24),
 kG 26 (.fa 1 1) 25 false,
 kG 27 (.ld false 1 26) 25 false,
 kG 28 (.len 1 27) 25 false,
 kG 29 (.bin .gtr 28 (ci 21)) 25 false,
 kO 30 (.pick 25 (.c (.bool true)) 29),
 kO 31 (.mv 30),
 kG 32 (.fa 2 1) 31 false,
 kG 33 (.ld false 1 32) 31 false,
 kG 34 (.bin .lss 33 (ci 0)) 31 false,
 kO 35 (.pick 31 (.c (.bool true)) 34),
 kO 36 (.mv 35),
 kG 37 (.fa 2 1) 36 false,
 kG 38 (.ld false 1 37) 36 false,
 kG 39 (.bin .gtr 38 (ci 3)) 36 false,
 kO 40 (.pick 36 (.c (.bool true)) 39),
 kO 41 (.mv 40),
 kG 42 (.fa 3 1) 41 false,
 kG 43 (.ld false 1 42) 41 false,
 kG 44 (.mv 3) 41 false,
 kG 45 (.bin .sub 44 (ci 1)) 41 false,
 kG 46 (.ixs 9 43 45) 41 false,
 kG 47 (.fa 0 46) 41 false,
 kG 48 (.ld false 1 47) 41 false,
 kG 49 (.call none true 25 [48]) 41 false,
 kG 50 (.un .not 49) 41 false,
 kO 51 (.pick 41 (.c (.bool true)) 50)])
 (.cond 51
 (.seq (.region [
  kO 2 (.mv (ci 80))])
  .ret)
 .skip))
 ysc)
def yr9 : CCode :=
  (.seq (.region [
 kO 10 (.fa 3 1),
 kO 11 (.ld false 1 10),
 kO 12 (.len 1 11),
 kO 3 (.mv 12)])
 ysh)
def ysu : CCode :=
  (.seq (.region [
 kO 1 (.box (some 0) 0),
 kO 2 (.mv (ci 0))])
 yr9)
def y26l : CFunc :=
  ⟨1, true, 3, ysu, [.t 2]⟩
def y1ir : CCode :=
  (.seq (.region [
 kO 2 (.mv (.c .nils))])
 .ret)
def y1uh : CCode :=
  (.seq (.region [
 kO 58 (.fa 2 1),
 kO 59 (.ld false 1 58),
 kO 60 (.fa 3 1),
 kO 61 (.ld false 1 60),
 kO 62 (.buildS (some 6) 1 2 [(.int .i64 0)] [(0, 59), (1, 61)]),
 kO 2 (.mv 62)])
 .ret)
def y1wh : CCode :=
  (.seq (.seq (.region [
 kO 52 (.fa 3 1),
 kO 53 (.ld false 1 52),
 kO 54 (.bin .lss 53 (ci 0))])
 (.cond 54
 (.seq (.region [
  kO 55 (.fa 2 1),
  kO 56 (.ld false 1 55),
  kO 57 (.buildS (some 5) 1 1 [(.int .i64 0)] [(0, 56)]),
  kO 2 (.mv 57)])
  .ret)
 .skip))
 y1uh)
def y1hs : CCode :=
  (.cond 50
 y1wh
 (.seq (.region [
  kO 64 (.bin .eql 4 (ci 30)),
  kO 63 (.mv 64)])
  (.cond 63
  (.seq (.region [
   kO 65 (.fa 2 1),
   kO 66 (.ld false 1 65),
   kO 67 (.bin .geq 66 (ci 0))])
   (.cond 67
   (.seq (.region [
    kO 68 (.fa 2 1),
    kO 69 (.ld false 1 68),
    kO 70 (.buildS (some 7) 1 1 [(.int .i64 0)] [(0, 69)]),
    kO 2 (.mv 70)])
    .ret)
   .skip))
  .skip)))
def y1o1 : CCode :=
  (.seq (.region [
 kO 51 (.bin .eql 4 (ci 29)),
 kO 50 (.mv 51)])
 y1hs)
def y1up : CCode :=
  (.cond 42
 (.seq (.region [
  kO 47 (.fa 8 1),
  kO 48 (.ld false 1 47),
  kO 49 (.call (some 4) false 39 [48]),
  kO 2 (.mv 49)])
  .ret)
 y1o1)
def y1g0 : CCode :=
  (.seq (.seq (.region [
 kO 43 (.bin .eql 4 (ci 23)),
 kO 42 (.mv 43)])
 (.cond 42
 .skip
 (.seq (.region [
  kO 44 (.bin .eql 4 (ci 24)),
  kO 42 (.mv 44)])
  (.cond 42
  .skip
  (.seq (.region [
   kO 45 (.bin .eql 4 (ci 25)),
   kO 42 (.mv 45)])
   (.cond 42
   .skip
   (.region [
    kO 46 (.bin .eql 4 (ci 26)),
    kO 42 (.mv 46)])))))))
 y1up)
def y1vs : CCode :=
  (.cond 33
 (.seq (.region [
  kO 35 (.fa 2 1),
  kO 36 (.ld false 1 35),
  kO 37 (.fa 3 1),
  kO 38 (.ld false 1 37),
  kO 39 (.fa 4 1),
  kO 40 (.ld false 1 39),
  kO 41 (.buildS (some 3) 1 3 [(.int .i64 0)] [(0, 36), (1, 38), (2, 40)]),
  kO 2 (.mv 41)])
  .ret)
 y1g0)
def y1kh : CCode :=
  (.seq (.region [
 kO 34 (.bin .eql 4 (ci 14)),
 kO 33 (.mv 34)])
 y1vs)
def yyk : CCode :=
  (.cond 21
 (.seq (.region [
  kO 28 (.fa 2 1),
  kO 29 (.ld false 1 28),
  kO 30 (.fa 3 1),
  kO 31 (.ld false 1 30),
  kO 32 (.buildS (some 2) 1 2 [(.int .i64 0)] [(0, 29), (1, 31)]),
  kO 2 (.mv 32)])
  .ret)
 y1kh)
def y19f : CCode :=
  (.seq (.seq (.region [
 kO 22 (.bin .eql 4 (ci 5)),
 kO 21 (.mv 22)])
 (.cond 21
 .skip
 (.seq (.region [
  kO 23 (.bin .eql 4 (ci 9)),
  kO 21 (.mv 23)])
  (.cond 21
  .skip
  (.seq (.region [
   kO 24 (.bin .eql 4 (ci 11)),
   kO 21 (.mv 24)])
   (.cond 21
   .skip
   (.seq (.region [
    kO 25 (.bin .eql 4 (ci 13)),
    kO 21 (.mv 25)])
    (.cond 21
    .skip
    (.seq (.region [
     kO 26 (.bin .eql 4 (ci 17)),
     kO 21 (.mv 26)])
     (.cond 21
     .skip
     (.region [
      kO 27 (.bin .eql 4 (ci 28)),
      kO 21 (.mv 27)])))))))))))
 yyk)
def yza : CCode :=
  (.cond 5
 (.seq (.region [
  kO 18 (.fa 2 1),
  kO 19 (.ld false 1 18),
  kO 20 (.buildS (some 1) 1 1 [(.int .i64 0)] [(0, 19)]),
  kO 2 (.mv 20)])
  .ret)
 y19f)
def y17j : CCode :=
  (.seq (.seq (.region [
 kO 6 (.bin .eql 4 (ci 4)),
 kO 5 (.mv 6)])
 (.cond 5
 .skip
 (.seq (.region [
  kO 7 (.bin .eql 4 (ci 6)),
  kO 5 (.mv 7)])
  (.cond 5
  .skip
  (.seq (.region [
   kO 8 (.bin .eql 4 (ci 7)),
   kO 5 (.mv 8)])
   (.cond 5
   .skip
   (.seq (.region [
    kO 9 (.bin .eql 4 (ci 8)),
    kO 5 (.mv 9)])
    (.cond 5
    .skip
    (.seq (.region [
     kO 10 (.bin .eql 4 (ci 10)),
     kO 5 (.mv 10)])
     (.cond 5
     .skip
     (.seq (.region [
      kO 11 (.bin .eql 4 (ci 12)),
      kO 5 (.mv 11)])
      (.cond 5
      .skip
      (.seq (.region [
       kO 12 (.bin .eql 4 (ci 15)),
       kO 5 (.mv 12)])
       (.cond 5
       .skip
       (.seq (.region [
        kO 13 (.bin .eql 4 (ci 16)),
        kO 5 (.mv 13)])
        (.cond 5
        .skip
        (.seq (.region [
         kO 14 (.bin .eql 4 (ci 19)),
         kO 5 (.mv 14)])
         (.cond 5
         .skip
         (.seq (.region [
          kO 15 (.bin .eql 4 (ci 21)),
          kO 5 (.mv 15)])
          (.cond 5
          .skip
          (.seq (.region [
           kO 16 (.bin .eql 4 (ci 22)),
           kO 5 (.mv 16)])
           (.cond 5
           .skip
           (.region [
            kO 17 (.bin .eql 4 (ci 31)),
            kO 5 (.mv 17)])))))))))))))))))))))))
 yza)
def y110 : CCode :=
  (.block 0 y17j)
def y15k : CCode :=
  (.seq (.region [
 kO 3 (.fa 0 1),
 kO 4 (.ld false 1 3)])
 y110)
def y13d : CCode :=
  (.seq y15k
 y1ir)
def y11i : CCode :=
  (.seq (.region [
 kO 1 (.box (some 0) 0),
 kO 2 (.mv (.c .nils))])
 y13d)
def y2no : CFunc :=
  ⟨1, true, 8, y11i, [.t 2]⟩
def y1lb : CCode :=
  (.seq (.region [
 kO 2 (.mv (ci (-1)))])
 .ret)
def y1hd : CCode :=
  (.seq (.seq (.region [
 kO 22 (.ld true 9 1),
 kO 23 (.call none true 17 [22])])
 (.cond 23
 (.seq (.region [
  kO 24 (.fa 1 1),
  kO 25 (.ld false 1 24),
  kO 2 (.mv 25)])
  .ret)
 .skip))
 y1lb)
def y1g3 : CCode :=
  (.cond 5
 (.seq (.region [
  kO 20 (.fa 1 1),
  kO 21 (.ld false 1 20),
  kO 2 (.mv 21)])
  .ret)
 .skip)
def y1r4 : CCode :=
  (.seq (.seq (.region [
 kO 6 (.bin .eql 4 (ci 1)),
 kO 5 (.mv 6)])
 (.cond 5
 .skip
 (.seq (.region [
  kO 7 (.bin .eql 4 (ci 2)),
  kO 5 (.mv 7)])
  (.cond 5
  .skip
  (.seq (.region [
   kO 8 (.bin .eql 4 (ci 3)),
   kO 5 (.mv 8)])
   (.cond 5
   .skip
   (.seq (.region [
    kO 9 (.bin .eql 4 (ci 4)),
    kO 5 (.mv 9)])
    (.cond 5
    .skip
    (.seq (.region [
     kO 10 (.bin .eql 4 (ci 5)),
     kO 5 (.mv 10)])
     (.cond 5
     .skip
     (.seq (.region [
      kO 11 (.bin .eql 4 (ci 6)),
      kO 5 (.mv 11)])
      (.cond 5
      .skip
      (.seq (.region [
       kO 12 (.bin .eql 4 (ci 13)),
       kO 5 (.mv 12)])
       (.cond 5
       .skip
       (.seq (.region [
        kO 13 (.bin .eql 4 (ci 15)),
        kO 5 (.mv 13)])
        (.cond 5
        .skip
        (.seq (.region [
         kO 14 (.bin .eql 4 (ci 16)),
         kO 5 (.mv 14)])
         (.cond 5
         .skip
         (.seq (.region [
          kO 15 (.bin .eql 4 (ci 18)),
          kO 5 (.mv 15)])
          (.cond 5
          .skip
          (.seq (.region [
           kO 16 (.bin .eql 4 (ci 20)),
           kO 5 (.mv 16)])
           (.cond 5
           .skip
           (.seq (.region [
            kO 17 (.bin .eql 4 (ci 21)),
            kO 5 (.mv 17)])
            (.cond 5
            .skip
            (.seq (.region [
             kO 18 (.bin .eql 4 (ci 22)),
             kO 5 (.mv 18)])
             (.cond 5
             .skip
             (.region [
              kO 19 (.bin .eql 4 (ci 32)),
              kO 5 (.mv 19)])))))))))))))))))))))))))))
 y1g3)
def y1fw : CCode :=
  (.block 0 y1r4)
def y1ny : CCode :=
  (.seq (.region [
 kO 3 (.fa 0 1),
 kO 4 (.ld false 1 3)])
 y1fw)
def y1v1 : CCode :=
  (.seq y1ny
 y1hd)
def y1iy : CCode :=
  (.seq (.region [
 kO 1 (.box (some 0) 0),
 kO 2 (.mv (ci 0))])
 y1v1)
def y2ko : CFunc :=
  ⟨1, true, 1, y1iy, [.t 2]⟩
def y0f : CCode :=
  (.seq (.region [
 kO 5 (.buildS (some 0) 1 0 [(.int .i64 0)] []),
 kO 6 (.mv 0),
 kO 7 (.app (some 1) 1 8 5 6),
 kO 2 (.mv 7)])
 .ret)
def y17q : CCode :=
  (.seq (.seq (.region [
 kO 3 (.mv 0),
 kO 4 (.eqn 1 false 3 (.c .nils))])
 (.cond 4
 (.seq (.region [
  kO 2 (.mv (.c .nils))])
  .ret)
 .skip))
 y0f)
def yyt : CCode :=
  (.seq (.region [
 kO 2 (.mv (.c .nils))])
 y17q)
def y26y : CFunc :=
  ⟨1, true, 2, yyt, [.t 2]⟩
def y11h : CCode :=
  (.seq (.region [
 kO 5 (.buildS (some 0) 9 0 [(.int .i64 0), (.int .i64 0), (.int .i64 0), (.int .i64 0), (.int .i64 0), (.int .i64 0), (.int .i64 0), (.str []), .nils] []),
 kO 6 (.mv 0),
 kO 7 (.app (some 1) 9 96 5 6),
 kO 2 (.mv 7)])
 .ret)
def y154 : CCode :=
  (.seq (.seq (.region [
 kO 3 (.mv 0),
 kO 4 (.eqn 1 false 3 (.c .nils))])
 (.cond 4
 (.seq (.region [
  kO 2 (.mv (.c .nils))])
  .ret)
 .skip))
 y11h)
def y155 : CCode :=
  (.seq (.region [
 kO 2 (.mv (.c .nils))])
 y154)
def y26z : CFunc :=
  ⟨1, true, 2, y155, [.t 2]⟩
def y19v : CCode :=
  (.seq (.region [
 kO 5 (.buildS (some 0) 4 0 [(.int .i64 0), (.int .i64 0), (.int .i64 0), (.str [])] []),
 kO 6 (.mv 0),
 kO 7 (.app (some 1) 4 40 5 6),
 kO 2 (.mv 7)])
 .ret)
def y13b : CCode :=
  (.seq (.seq (.region [
 kO 3 (.mv 0),
 kO 4 (.eqn 1 false 3 (.c .nils))])
 (.cond 4
 (.seq (.region [
  kO 2 (.mv (.c .nils))])
  .ret)
 .skip))
 y19v)
def y12c : CCode :=
  (.seq (.region [
 kO 2 (.mv (.c .nils))])
 y13b)
def y26e : CFunc :=
  ⟨1, true, 2, y12c, [.t 2]⟩
def y116 : CCode :=
  (.seq (.region [
 kO 4 (.mv (.c (.bool true)))])
 .ret)
def y18q : CCode :=
  (.region [
 kO 15 (.mv 5),
 kO 16 (.bin .add 15 (ci 1)),
 kO 5 (.mv 16)])
def y17r : CCode :=
  (.seq (.block 1 (.seq (.draw [
 kO 17 (.mv 0),
 kO 18 (.mv 5),
 kO 19 (.ixs 1 17 18),
 kO 20 (.ld false 1 19),
 kO 21 (.mv 1),
 kO 22 (.mv 5),
 kO 23 (.ixs 1 21 22),
 kO 24 (.ld false 1 23),
 kO 25 (.bin .neq 20 24)] [])
 (.cond 25
 (.seq (.region [
  kO 4 (.mv (.c (.bool false)))])
  .ret)
 .skip)))
 y18q)
def y14j : CCode :=
  (.seq (.seq (.region [
 kO 11 (.mv 5),
 kO 12 (.mv 0),
 kO 13 (.len 1 12),
 kO 14 (.bin .lss 11 13)])
 (.cond 14
 .skip
 (.exit 0)))
 y17r)
def yhu : CCode :=
  (.loop [0, 1, 5] y14j)
def y123 : CCode :=
  (.block 0 yhu)
def y18t : CCode :=
  (.seq (.region [
 kO 5 (.mv (ci 0))])
 y123)
def y12r : CCode :=
  (.seq y18t
 y116)
def y141 : CCode :=
  (.seq (.seq (.region [
 kO 6 (.mv 0),
 kO 7 (.len 1 6),
 kO 8 (.mv 1),
 kO 9 (.len 1 8),
 kO 10 (.bin .neq 7 9)])
 (.cond 10
 (.seq (.region [
  kO 4 (.mv (.c (.bool false)))])
  .ret)
 .skip))
 y12r)
def yr5 : CCode :=
  (.seq (.region [
 kO 4 (.mv (.c (.bool false)))])
 y141)
def y26a : CFunc :=
  ⟨2, true, 0, yr5, [.t 4]⟩
def yzu : CCode :=
  (.seq (.region [
 kO 2 (.box (some 0) 0),
 kO 3 (.box (some 1) 1),
 kO 4 (.mv (.c (.bool false)))])
 (.seq (.region [
 kO 5 (.fa 0 2),
 kO 6 (.ld false 1 5),
 kO 7 (.fa 0 3),
 kO 8 (.ld false 1 7),
 kO 9 (.bin .eql 6 8),
 kO 10 (.mv 9),
 kG 11 (.fa 1 2) 10 true,
 kG 12 (.ld false 1 11) 10 true,
 kG 13 (.fa 1 3) 10 true,
 kG 14 (.ld false 1 13) 10 true,
 kG 15 (.bin .eql 12 14) 10 true,
 kO 16 (.pick 10 15 (.c (.bool false))),
 kO 17 (.mv 16),
 kG 18 (.fa 2 2) 17 true,
 kG 19 (.ld false 1 18) 17 true,
 kG 20 (.fa 2 3) 17 true,
 kG 21 (.ld false 1 20) 17 true,
 kG 22 (.bin .eql 19 21) 17 true,
 kO 23 (.pick 17 22 (.c (.bool false))),
 kO 24 (.mv 23),
 kG 25 (.fa 3 2) 24 true,
 kG 26 (.ld false 1 25) 24 true,
 kG 27 (.fa 3 3) 24 true,
 kG 28 (.ld false 1 27) 24 true,
 kG 29 (.bin .eql 26 28) 24 true,
 kO 30 (.pick 24 29 (.c (.bool false))),
 kO 31 (.mv 30),
 kG 32 (.fa 4 2) 31 true,
 kG 33 (.ld false 1 32) 31 true,
 kG 34 (.fa 4 3) 31 true,
 kG 35 (.ld false 1 34) 31 true,
 kG 36 (.bin .eql 33 35) 31 true,
 kO 37 (.pick 31 36 (.c (.bool false))),
 kO 38 (.mv 37),
 kG 39 (.fa 5 2) 38 true,
 kG 40 (.ld false 1 39) 38 true,
 kG 41 (.fa 5 3) 38 true,
 kG 42 (.ld false 1 41) 38 true,
 kG 43 (.bin .eql 40 42) 38 true,
 kO 44 (.pick 38 43 (.c (.bool false))),
 kO 45 (.mv 44),
 kG 46 (.fa 6 2) 45 true,
 kG 47 (.ld false 1 46) 45 true,
 kG 48 (.fa 6 3) 45 true,
 kG 49 (.ld false 1 48) 45 true,
 kG 50 (.bin .eql 47 49) 45 true,
 kO 51 (.pick 45 50 (.c (.bool false))),
 kO 52 (.mv 51),
 kG 53 (.fa 7 2) 52 true,
 kG 54 (.ld false 1 53) 52 true,
 kG 55 (.fa 7 3) 52 true,
 kG 56 (.ld false 1 55) 52 true,
 kG 57 (.bin .eql 54 56) 52 true,
 kO 58 (.pick 52 57 (.c (.bool false))),
 kO 59 (.mv 58),
 kG 60 (.fa 8 2) 59 true,
 kG 61 (.ld false 1 60) 59 true,
 kG 62 (.fa 8 3) 59 true,
 kG 63 (.ld false 1 62) 59 true,
 kG 64 (.call none true 11 [61, 63]) 59 true,
 kO 65 (.pick 59 64 (.c (.bool false))),
 kO 4 (.mv 65)])
 .ret))
def y27v : CFunc :=
  ⟨2, true, 2, yzu, [.t 4]⟩
def y1xa : CCode :=
  (.seq (.region [
 kO 1 (.box (some 0) 0),
 kO 2 (.mv (.c (.bool false)))])
 (.seq (.region [
 kO 3 (.fa 0 1),
 kO 4 (.ld false 1 3),
 kO 5 (.bin .eql 4 (ci 27)),
 kO 6 (.mv 5),
 kG 7 (.fa 0 1) 6 false,
 kG 8 (.ld false 1 7) 6 false,
 kG 9 (.bin .eql 8 (ci 30)) 6 false,
 kO 10 (.pick 6 (.c (.bool true)) 9),
 kO 11 (.mv 10),
 kG 12 (.fa 0 1) 11 false,
 kG 13 (.ld false 1 12) 11 false,
 kG 14 (.bin .eql 13 (ci 31)) 11 false,
 kO 15 (.pick 11 (.c (.bool true)) 14),
 kO 2 (.mv 15)])
 .ret))
def y2ml : CFunc :=
  ⟨1, true, 1, y1xa, [.t 2]⟩
def y18x : CCode :=
  (.seq (.region [
 kO 4 (.mv (.c (.bool false)))])
 (.seq (.region [
 kO 5 (.mv 0),
 kO 6 (.mv 1),
 kO 7 (.call none true 45 [5, 6]),
 kO 8 (.bin .geq 7 (ci 0)),
 kO 4 (.mv 8)])
 .ret))
def y27a : CFunc :=
  ⟨2, true, 0, y18x, [.t 4]⟩
def y1te : CCode :=
  (.seq (.region [
 kO 183 (.ld true 9 3),
 kO 184 (.call none true 22 [183]),
 kO 185 (.un .not 184),
 kO 186 (.mv 185),
 kG 187 (.fa 6 3) 186 false,
 kG 188 (.ld false 1 187) 186 false,
 kG 189 (.bin .geq 188 (ci 0)) 186 false,
 kG 190 (.mv 189) 186 false,
 kG 191 (.fa 6 3) 190 true,
 kG 192 (.ld false 1 191) 190 true,
 kG 193 (.fa 3 2) 190 true,
 kG 194 (.ld false 1 193) 190 true,
 kG 195 (.len 1 194) 190 true,
 kG 196 (.bin .lss 192 195) 190 true,
 kG 197 (.pick 190 196 (.c (.bool false))) 186 false,
 kO 198 (.pick 186 (.c (.bool true)) 197),
 kO 4 (.mv 198)])
 .ret)
def y1g1 : CCode :=
  (.seq (.seq (.region [
 kO 105 (.fa 0 3),
 kO 106 (.ld false 1 105)])
 (.block 4 (.seq (.region [
 kO 108 (.bin .eql 106 (ci 1)),
 kO 107 (.mv 108)])
 (.cond 107
 (.seq (.region [
  kO 109 (.fa 0 2),
  kO 110 (.ld false 1 109),
  kO 111 (.fa 1 3),
  kO 112 (.ld false 1 111),
  kO 113 (.ixs 1 110 112),
  kO 114 (.ld false 1 113),
  kO 115 (.bin .neq 114 (ci 3)),
  kO 116 (.mv 115),
  kG 117 (.fa 0 2) 116 true,
  kG 118 (.ld false 1 117) 116 true,
  kG 119 (.fa 1 3) 116 true,
  kG 120 (.ld false 1 119) 116 true,
  kG 121 (.ixs 1 118 120) 116 true,
  kG 122 (.ld false 1 121) 116 true,
  kG 123 (.bin .eql 122 (ci 2)) 116 true,
  kG 124 (.mv 123) 116 true,
  kG 125 (.fa 5 3) 124 false,
  kG 126 (.ld false 1 125) 124 false,
  kG 127 (.fa 5 3) 124 false,
  kG 128 (.ld false 1 127) 124 false,
  kG 129 (.cvi .i32 128) 124 false,
  kG 130 (.cvi .i64 129) 124 false,
  kG 131 (.bin .eql 126 130) 124 false,
  kG 132 (.pick 124 (.c (.bool true)) 131) 116 true,
  kO 133 (.pick 116 132 (.c (.bool false))),
  kO 4 (.mv 133)])
  .ret)
 (.seq (.region [
  kO 135 (.bin .eql 106 (ci 4)),
  kO 134 (.mv 135)])
  (.cond 134
  (.seq (.draw [
   kO 136 (.fa 0 2),
   kO 137 (.ld false 1 136),
   kO 138 (.fa 1 3),
   kO 139 (.ld false 1 138),
   kO 140 (.ixs 1 137 139),
   kO 141 (.ld false 1 140),
   kO 142 (.fa 0 2),
   kO 143 (.ld false 1 142),
   kO 144 (.fa 2 3),
   kO 145 (.ld false 1 144),
   kO 146 (.ixs 1 143 145),
   kO 147 (.ld false 1 146),
   kO 148 (.bin .eql 141 147),
   kO 4 (.mv 148)] [])
   .ret)
  (.seq (.region [
   kO 150 (.bin .eql 106 (ci 7)),
   kO 149 (.mv 150)])
   (.cond 149
   (.seq (.region [
    kO 151 (.fa 0 2),
    kO 152 (.ld false 1 151),
    kO 153 (.fa 2 3),
    kO 154 (.ld false 1 153),
    kO 155 (.ixs 1 152 154),
    kO 156 (.ld false 1 155),
    kO 157 (.bin .neq 156 (ci 3)),
    kO 4 (.mv 157)])
    .ret)
   (.seq (.region [
    kO 159 (.bin .eql 106 (ci 30)),
    kO 158 (.mv 159)])
    (.cond 158
    (.seq (.draw [
     kO 160 (.fa 2 3),
     kO 161 (.ld false 1 160),
     kO 162 (.bin .eql 161 (ci (-1))),
     kO 163 (.fa 2 2),
     kO 164 (.ld false 1 163),
     kO 165 (.bin .eql 164 (ci 0)),
     kO 166 (.eqb false 162 165),
     kO 167 (.mv 166),
     kG 168 (.fa 2 3) 167 true,
     kG 169 (.ld false 1 168) 167 true,
     kG 170 (.bin .eql 169 (ci (-1))) 167 true,
     kG 171 (.mv 170) 167 true,
     kG 172 (.fa 0 2) 171 false,
     kG 173 (.ld false 1 172) 171 false,
     kG 174 (.fa 2 3) 171 false,
     kG 175 (.ld false 1 174) 171 false,
     kG 176 (.ixs 1 173 175) 171 false,
     kG 177 (.ld false 1 176) 171 false,
     kG 178 (.fa 2 2) 171 false,
     kG 179 (.ld false 1 178) 171 false,
     kG 180 (.bin .eql 177 179) 171 false,
     kG 181 (.pick 171 (.c (.bool true)) 180) 167 true,
     kO 182 (.pick 167 181 (.c (.bool false))),
     kO 4 (.mv 182)] [])
     .ret)
    .skip))))))))))
 y1te)
def y1qg : CCode :=
  (.region [
 kO 104 (.bin .add 65 (ci 1)),
 kO 65 (.mv 104)])
def y1x7 : CCode :=
  (.seq (.region [
 kO 73 (.mv 10),
 kO 74 (.bin .lss 73 (ci 0)),
 kO 75 (.mv 74),
 kG 76 (.mv 10) 75 false,
 kG 77 (.fa 0 2) 75 false,
 kG 78 (.ld false 1 77) 75 false,
 kG 79 (.len 1 78) 75 false,
 kG 80 (.bin .geq 76 79) 75 false,
 kO 81 (.pick 75 (.c (.bool true)) 80),
 kO 82 (.mv 81),
 kG 83 (.mv 9) 82 false,
 kG 84 (.bin .eql 83 (ci 0)) 82 false,
 kG 85 (.mv 84) 82 false,
 kG 86 (.fa 0 3) 85 true,
 kG 87 (.ld false 1 86) 85 true,
 kG 88 (.bin .eql 87 (ci 24)) 85 true,
 kG 89 (.mv 88) 85 true,
 kG 90 (.fa 0 3) 89 false,
 kG 91 (.ld false 1 90) 89 false,
 kG 92 (.bin .eql 91 (ci 25)) 89 false,
 kG 93 (.pick 89 (.c (.bool true)) 92) 85 true,
 kG 94 (.pick 85 93 (.c (.bool false))) 82 false,
 kG 95 (.mv 94) 82 false,
 kG 96 (.fa 0 2) 95 true,
 kG 97 (.ld false 1 96) 95 true,
 kG 98 (.mv 10) 95 true,
 kG 99 (.ixs 1 97 98) 95 true,
 kG 100 (.ld false 1 99) 95 true,
 kG 101 (.bin .neq 100 (ci 3)) 95 true,
 kG 102 (.pick 95 101 (.c (.bool false))) 82 false,
 kO 103 (.pick 82 (.c (.bool true)) 102)])
 (.cond 103
 (.seq (.region [
  kO 4 (.mv (.c (.bool false)))])
  .ret)
 .skip))
def y1ly : CCode :=
  (.seq (.seq (.region [
 kO 70 (.ld true 9 3),
 kO 71 (.call none true 17 [70]),
 kO 72 (.un .not 71)])
 (.cond 72
 (.exit 2)
 .skip))
 y1x7)
def y1u0 : CCode :=
  (.seq (.region [
 kO 67 (.mv 65),
 kO 68 (.ixs 1 63 65),
 kO 69 (.ld false 1 68),
 kO 9 (.mv 67),
 kO 10 (.mv 69)])
 y1ly)
def y1kc : CCode :=
  (.block 3 y1u0)
def y1t2 : CCode :=
  (.seq y1kc
 y1qg)
def yyi : CCode :=
  (.seq (.cond 66
 .skip
 (.exit 2))
 y1t2)
def y08 : CCode :=
  (.seq (.region [
 kO 66 (.bin .lss 65 64)])
 yyi)
def yov : CCode :=
  (.loop [2, 3, 63, 64, 65] y08)
def y0y : CCode :=
  (.block 2 yov)
def yyg : CCode :=
  (.seq (.region [
 kO 62 (.fa 8 3),
 kO 63 (.ld false 1 62),
 kO 64 (.len 1 63),
 kO 65 (.mv (ci 0))])
 y0y)
def y0k : CCode :=
  (.seq yyg
 y1g1)
def y14r : CCode :=
  (.region [
 kO 61 (.bin .add 27 (ci 1)),
 kO 27 (.mv 61)])
def y17k : CCode :=
  (.seq (.draw [
 kO 35 (.mv 8),
 kO 36 (.bin .lss 35 (ci 0)),
 kO 37 (.mv 36),
 kG 38 (.mv 8) 37 false,
 kG 39 (.fa 0 2) 37 false,
 kG 40 (.ld false 1 39) 37 false,
 kG 41 (.len 1 40) 37 false,
 kG 42 (.bin .geq 38 41) 37 false,
 kO 43 (.pick 37 (.c (.bool true)) 42),
 kO 44 (.mv 43),
 kG 45 (.mv 7) 44 false,
 kG 46 (.ixa 4 1 5 45) 44 false,
 kG 47 (.ld false 1 46) 44 false,
 kG 48 (.bin .gtr 47 (ci 0)) 44 false,
 kG 49 (.mv 48) 44 false,
 kG 50 (.fa 0 2) 49 true,
 kG 51 (.ld false 1 50) 49 true,
 kG 52 (.mv 8) 49 true,
 kG 53 (.ixs 1 51 52) 49 true,
 kG 54 (.ld false 1 53) 49 true,
 kG 55 (.mv 7) 49 true,
 kG 56 (.ixa 4 1 5 55) 49 true,
 kG 57 (.ld false 1 56) 49 true,
 kG 58 (.bin .neq 54 57) 49 true,
 kG 59 (.pick 49 58 (.c (.bool false))) 44 false,
 kO 60 (.pick 44 (.c (.bool true)) 59)] [])
 (.cond 60
 (.seq (.region [
  kO 4 (.mv (.c (.bool false)))])
  .ret)
 .skip))
def y0b : CCode :=
  (.seq (.seq (.region [
 kO 31 (.mv 7),
 kO 32 (.ixa 4 1 5 31),
 kO 33 (.ld false 1 32),
 kO 34 (.bin .lss 33 (ci 0))])
 (.cond 34
 (.exit 1)
 .skip))
 y17k)
def yyr : CCode :=
  (.seq (.region [
 kO 29 (.mv 27),
 kO 30 (.ixv false 4 1 26 27),
 kO 7 (.mv 29),
 kO 8 (.mv 30)])
 y0b)
def yz1 : CCode :=
  (.block 1 yyr)
def yzn : CCode :=
  (.seq yz1
 y14r)
def y17g : CCode :=
  (.seq (.cond 28
 .skip
 (.exit 0))
 yzn)
def y13c : CCode :=
  (.seq (.region [
 kO 28 (.bin .lss 27 (ci 4))])
 y17g)
def yiq : CCode :=
  (.loop [2, 3, 5, 26, 27] y13c)
def y17i : CCode :=
  (.block 0 yiq)
def yzq : CCode :=
  (.seq (.region [
 kO 18 (.fa 1 3),
 kO 19 (.ld false 1 18),
 kO 20 (.fa 2 3),
 kO 21 (.ld false 1 20),
 kO 22 (.fa 3 3),
 kO 23 (.ld false 1 22),
 kO 24 (.fa 4 3),
 kO 25 (.ld false 1 24),
 kO 26 (.build [(.int .i64 0), (.int .i64 0), (.int .i64 0), (.int .i64 0)] [(0, 1, 19), (1, 1, 21), (2, 1, 23), (3, 1, 25)]),
 kO 27 (.mv (ci 0))])
 y17i)
def y16t : CCode :=
  (.seq yzq
 y0k)
def y197 : CCode :=
  (.seq (.seq (.region [
 kO 16 (.mv 6),
 kO 17 (.un .not 16)])
 (.cond 17
 (.seq (.region [
  kO 4 (.mv (.c (.bool false)))])
  .ret)
 .skip))
 y16t)
def y0r : CCode :=
  (.seq (.region [
 kO 12 (.ld true 9 3),
 kO 13 (.call none true 47 [12]),
 kO 11 (.mv 13),
 kO 14 (.ext 0 11),
 kO 15 (.ext 1 11),
 kO 5 (.new (some 2) [(.int .i64 0), (.int .i64 0), (.int .i64 0), (.int .i64 0)]),
 kU (.st 4 5 14),
 kO 6 (.mv 15)])
 y197)
def y140 : CCode :=
  (.seq (.region [
 kO 2 (.box (some 0) 0),
 kO 3 (.box (some 1) 1),
 kO 4 (.mv (.c (.bool false)))])
 y0r)
def y2m9 : CFunc :=
  ⟨2, true, 3, y140, [.t 4]⟩
def y1kg : CCode :=
  (.seq (.region [
 kO 1 (.box (some 0) 0),
 kO 2 (.mv (.c (.bool false)))])
 (.seq (.region [
 kO 3 (.fa 0 1),
 kO 4 (.ld false 1 3),
 kO 5 (.bin .eql 4 (ci 27)),
 kO 6 (.mv 5),
 kG 7 (.fa 0 1) 6 false,
 kG 8 (.ld false 1 7) 6 false,
 kG 9 (.bin .eql 8 (ci 28)) 6 false,
 kO 10 (.pick 6 (.c (.bool true)) 9),
 kO 11 (.mv 10),
 kG 12 (.fa 0 1) 11 false,
 kG 13 (.ld false 1 12) 11 false,
 kG 14 (.bin .eql 13 (ci 29)) 11 false,
 kO 15 (.pick 11 (.c (.bool true)) 14),
 kO 2 (.mv 15)])
 .ret))
def y2nj : CFunc :=
  ⟨1, true, 1, y1kg, [.t 2]⟩
def y1x6 : CCode :=
  (.seq (.region [
 kO 179 (.mv 5),
 kO 2 (.mv 179)])
 .ret)
def y1w2 : CCode :=
  (.region [
 kO 74 (.mv 7),
 kO 75 (.bin .sub 74 (ci 1)),
 kO 7 (.mv 75)])
def y1fa : CCode :=
  (.region [
 kO 167 (.mv 5),
 kO 168 (.nilchk 167),
 kO 169 (.fa 0 168),
 kO 170 (.ld false 1 169),
 kO 171 (.mv 7),
 kO 172 (.ixs 1 170 171),
 kO 173 (.ld false 1 172),
 kO 174 (.mv 12),
 kO 175 (.call none false 84 [173, 174]),
 kO 176 (.mv 175),
 kG 177 (.mv 6) 176 false,
 kO 178 (.pick 176 (.c (.bool true)) 177),
 kO 6 (.mv 178)])
def y1ie : CCode :=
  (.region [
 kO 166 (.bin .add 159 (ci 1)),
 kO 159 (.mv 166)])
def y1hr : CCode :=
  (.seq (.block 11 (.seq (.region [
 kO 161 (.ixs 1 157 159),
 kO 162 (.ld false 1 161),
 kO 15 (.mv 162)])
 (.region [
 kO 163 (.mv 12),
 kO 164 (.mv 15),
 kO 165 (.call none false 86 [163, 164])])))
 y1ie)
def y1gz : CCode :=
  (.seq (.cond 160
 .skip
 (.exit 10))
 y1hr)
def yyp : CCode :=
  (.seq (.region [
 kO 160 (.bin .lss 159 158)])
 y1gz)
def yq6 : CCode :=
  (.loop [1, 3, 5, 6, 7, 12, 157, 158, 159] yyp)
def y147 : CCode :=
  (.block 10 yq6)
def y17c : CCode :=
  (.seq (.region [
 kO 152 (.fa 3 1),
 kO 153 (.ld false 1 152),
 kO 154 (.mv 7),
 kO 155 (.ixs 9 153 154),
 kO 156 (.ld true 9 155),
 kO 157 (.call none true 10 [156]),
 kO 158 (.len 1 157),
 kO 159 (.mv (ci 0))])
 y147)
def yyd : CCode :=
  (.seq y17c
 y1fa)
def y16b : CCode :=
  (.seq (.region [
 kO 143 (.mv 12),
 kO 144 (.mv 5),
 kO 145 (.nilchk 144),
 kO 146 (.fa 2 145),
 kO 147 (.ld false 1 146),
 kO 148 (.mv 7),
 kO 149 (.ixs 1 147 148),
 kO 150 (.ld false 1 149),
 kO 151 (.call none false 84 [143, 150])])
 yyd)
def y17x : CCode :=
  (.seq (.seq (.region [
 kO 132 (.fa 3 1),
 kO 133 (.ld false 1 132),
 kO 134 (.mv 7),
 kO 135 (.ixs 9 133 134),
 kO 136 (.ld true 9 135),
 kO 137 (.call none true 9 [136]),
 kO 13 (.mv 137)])
 (.seq (.region [
 kO 138 (.mv 13),
 kO 139 (.bin .geq 138 (ci 0))])
 (.cond 139
 (.region [
  kO 140 (.mv 12),
  kO 141 (.mv 13),
  kO 142 (.call none false 85 [140, 141])])
 .skip)))
 y16b)
def yy5 : CCode :=
  (.seq (.region [
 kO 124 (.mv 5),
 kO 125 (.nilchk 124),
 kO 126 (.fa 1 125),
 kO 127 (.ld false 1 126),
 kO 128 (.mv 7),
 kO 129 (.ixs 1 127 128),
 kO 130 (.ld false 1 129),
 kO 131 (.app (some 2) 1 8 (.c .nils) 130),
 kO 12 (.mv 131)])
 y17x)
def yz3 : CCode :=
  (.region [
 kO 123 (.bin .add 104 (ci 1)),
 kO 104 (.mv 123)])
def y19l : CCode :=
  (.seq (.block 9 (.seq (.region [
 kO 106 (.ixs 1 102 104),
 kO 107 (.ld false 1 106),
 kO 11 (.mv 107)])
 (.draw [
 kO 108 (.mv 5),
 kO 109 (.nilchk 108),
 kO 110 (.fa 2 109),
 kO 111 (.ld false 1 110),
 kO 112 (.mv 7),
 kO 113 (.ixs 1 111 112),
 kO 114 (.ld false 1 113),
 kO 115 (.mv 5),
 kO 116 (.nilchk 115),
 kO 117 (.fa 0 116),
 kO 118 (.ld false 1 117),
 kO 119 (.mv 11),
 kO 120 (.ixs 1 118 119),
 kO 121 (.ld false 1 120),
 kO 122 (.call none false 84 [114, 121])] [])))
 yz3)
def y16m : CCode :=
  (.seq (.cond 105
 .skip
 (.exit 8))
 y19l)
def y194 : CCode :=
  (.seq (.region [
 kO 105 (.bin .lss 104 103)])
 y16m)
def yhv : CCode :=
  (.loop [1, 3, 5, 6, 7, 102, 103, 104] y194)
def y17w : CCode :=
  (.block 8 yhv)
def yzz : CCode :=
  (.seq (.region [
 kO 100 (.ld true 5 1),
 kO 101 (.mv 7),
 kO 102 (.call none true 79 [100, 101]),
 kO 103 (.len 1 102),
 kO 104 (.mv (ci 0))])
 y17w)
def y14z : CCode :=
  (.seq yzz
 yy5)
def y15x : CCode :=
  (.region [
 kO 99 (.bin .add 80 (ci 1)),
 kO 80 (.mv 99)])
def y18p : CCode :=
  (.seq (.block 7 (.seq (.region [
 kO 82 (.ixs 1 78 80),
 kO 83 (.ld false 1 82),
 kO 9 (.mv 83)])
 (.draw [
 kO 84 (.mv 5),
 kO 85 (.nilchk 84),
 kO 86 (.fa 1 85),
 kO 87 (.ld false 1 86),
 kO 88 (.mv 7),
 kO 89 (.ixs 1 87 88),
 kO 90 (.ld false 1 89),
 kO 91 (.mv 5),
 kO 92 (.nilchk 91),
 kO 93 (.fa 0 92),
 kO 94 (.ld false 1 93),
 kO 95 (.mv 9),
 kO 96 (.ixs 1 94 95),
 kO 97 (.ld false 1 96),
 kO 98 (.call none false 84 [90, 97])] [])))
 y15x)
def y17v : CCode :=
  (.seq (.cond 81
 .skip
 (.exit 6))
 y18p)
def y175 : CCode :=
  (.seq (.region [
 kO 81 (.bin .lss 80 79)])
 y17v)
def yha : CCode :=
  (.loop [1, 3, 5, 6, 7, 78, 79, 80] y175)
def y17o : CCode :=
  (.block 6 yha)
def y164 : CCode :=
  (.seq (.region [
 kO 76 (.ld true 5 1),
 kO 77 (.mv 7),
 kO 78 (.call none true 81 [76, 77]),
 kO 79 (.len 1 78),
 kO 80 (.mv (ci 0))])
 y17o)
def y17l : CCode :=
  (.seq y164
 y14z)
def yye : CCode :=
  (.block 5 y17l)
def y11u : CCode :=
  (.seq yye
 y1w2)
def y17s : CCode :=
  (.seq (.seq (.region [
 kO 72 (.mv 7),
 kO 73 (.bin .geq 72 (ci 0))])
 (.cond 73
 .skip
 (.exit 4)))
 y11u)
def yp8 : CCode :=
  (.loop [1, 3, 5, 6, 7] y17s)
def y163 : CCode :=
  (.block 4 yp8)
def y139 : CCode :=
  (.seq (.region [
 kO 70 (.mv 3),
 kO 71 (.bin .sub 70 (ci 1)),
 kO 7 (.mv 71)])
 y163)
def y19i : CCode :=
  (.seq (.region [
 kO 6 (.mv (.c (.bool false)))])
 y139)
def y183 : CCode :=
  (.block 3 y19i)
def y13s : CCode :=
  (.seq (.seq (.region [
 kO 69 (.mv 6)])
 (.cond 69
 .skip
 (.exit 2)))
 y183)
def yoy : CCode :=
  (.loop [1, 3, 5, 6] y13s)
def y18y : CCode :=
  (.block 2 yoy)
def y17f : CCode :=
  (.seq (.region [
 kO 6 (.mv (.c (.bool true)))])
 y18y)
def y12j : CCode :=
  (.seq y17f
 y1x6)
def y0l : CCode :=
  (.region [
 kO 68 (.bin .add 33 (ci 1)),
 kO 33 (.mv 68)])
def y13h : CCode :=
  (.seq (.block 1 (.drawN 9 [
 kO 35 (.mv 5),
 kO 36 (.mv 5),
 kO 37 (.mv 5),
 kO 38 (.mv 5),
 kO 39 (.nilchk 38),
 kO 40 (.fa 0 39),
 kO 41 (.ld false 1 40),
 kO 42 (.mv 4),
 kO 43 (.mkS (some 0) 1 8 [(.int .u64 0)] 42 42),
 kO 44 (.buildS (some 1) 1 1 [.nils] [(0, 43)]),
 kO 45 (.app (some 2) 1 24 41 44),
 kO 46 (.mv 5),
 kO 47 (.nilchk 46),
 kO 48 (.fa 1 47),
 kO 49 (.ld false 1 48),
 kO 50 (.mv 4),
 kO 51 (.mkS (some 3) 1 8 [(.int .u64 0)] 50 50),
 kO 52 (.buildS (some 4) 1 1 [.nils] [(0, 51)]),
 kO 53 (.app (some 5) 1 24 49 52),
 kO 54 (.mv 5),
 kO 55 (.nilchk 54),
 kO 56 (.fa 2 55),
 kO 57 (.ld false 1 56),
 kO 58 (.mv 4),
 kO 59 (.mkS (some 6) 1 8 [(.int .u64 0)] 58 58),
 kO 60 (.buildS (some 7) 1 1 [.nils] [(0, 59)]),
 kO 61 (.app (some 8) 1 24 57 60),
 kO 62 (.nilchk 35),
 kO 63 (.fa 0 62),
 kU (.st 1 63 45),
 kO 64 (.nilchk 36),
 kO 65 (.fa 1 64),
 kU (.st 1 65 53),
 kO 66 (.nilchk 37),
 kO 67 (.fa 2 66),
 kU (.st 1 67 61)] [(6, 8), (6, 9), (8, 14), (9, 14), (10, 14), (6, 16), (8, 16), (9, 16), (10, 16), (14, 16), (6, 17), (8, 17), (9, 17), (10, 17), (14, 17), (8, 22), (9, 22), (10, 22), (16, 22), (17, 22), (18, 22), (6, 24), (8, 24), (9, 24), (10, 24), (14, 24), (16, 24), (17, 24), (18, 24), (22, 24), (6, 25), (8, 25), (9, 25), (10, 25), (14, 25), (16, 25), (17, 25), (18, 25), (22, 25)]))
 y0l)
def yzt : CCode :=
  (.seq (.cond 34
 .skip
 (.exit 0))
 y13h)
def yyq : CCode :=
  (.seq (.region [
 kO 34 (.bin .lss 33 32)])
 yzt)
def yie : CCode :=
  (.loop [1, 3, 4, 5, 32, 33] yyq)
def y127 : CCode :=
  (.block 0 yie)
def y12i : CCode :=
  (.seq (.region [
 kO 32 (.mv 3),
 kO 33 (.mv (ci 0))])
 y127)
def y17n : CCode :=
  (.seq y12i
 y12j)
def yy8 : CCode :=
  (.seq (.region [
 kO 27 (.fa 0 1),
 kO 28 (.ld false 1 27),
 kO 29 (.len 1 28),
 kO 30 (.build [.nils, .nils, .nils, (.int .i64 0)] [(3, 1, 29)]),
 kO 31 (.box (some 1) 30),
 kO 5 (.mv 31)])
 y17n)
def y15f : CCode :=
  (.seq (.draw [
 kO 19 (.fa 3 1),
 kO 20 (.ld false 1 19),
 kO 21 (.len 1 20),
 kO 22 (.fa 0 1),
 kO 23 (.ld false 1 22),
 kO 24 (.len 1 23),
 kO 25 (.bin .quo 24 (ci 64)),
 kO 26 (.bin .add 25 (ci 1)),
 kO 3 (.mv 21),
 kO 4 (.mv 26)] [])
 yy8)
def yyv : CCode :=
  (.seq (.seq (.region [
 kO 16 (.ld true 5 1),
 kO 17 (.call none true 8 [16]),
 kO 18 (.bin .neq 17 (ci 0))])
 (.cond 18
 (.seq (.region [
  kO 2 (.mv (.c .nilp))])
  .ret)
 .skip))
 y15f)
def y11v : CCode :=
  (.seq (.region [
 kO 1 (.box (some 0) 0),
 kO 2 (.mv (.c .nilp))])
 yyv)
def y2nw : CFunc :=
  ⟨1, true, 3, y11v, [.t 2]⟩
def y1ul : CCode :=
  (.seq (.region [
 kO 2 (.mv (.c (.bool false)))])
 .ret)
def y1kt : CCode :=
  (.cond 5
 (.seq (.region [
  kO 2 (.mv (.c (.bool true)))])
  .ret)
 .skip)
def y1k8 : CCode :=
  (.seq (.seq (.region [
 kO 6 (.bin .eql 4 (ci 1)),
 kO 5 (.mv 6)])
 (.cond 5
 .skip
 (.seq (.region [
  kO 7 (.bin .eql 4 (ci 2)),
  kO 5 (.mv 7)])
  (.cond 5
  .skip
  (.seq (.region [
   kO 8 (.bin .eql 4 (ci 3)),
   kO 5 (.mv 8)])
   (.cond 5
   .skip
   (.seq (.region [
    kO 9 (.bin .eql 4 (ci 4)),
    kO 5 (.mv 9)])
    (.cond 5
    .skip
    (.seq (.region [
     kO 10 (.bin .eql 4 (ci 5)),
     kO 5 (.mv 10)])
     (.cond 5
     .skip
     (.seq (.region [
      kO 11 (.bin .eql 4 (ci 6)),
      kO 5 (.mv 11)])
      (.cond 5
      .skip
      (.seq (.region [
       kO 12 (.bin .eql 4 (ci 13)),
       kO 5 (.mv 12)])
       (.cond 5
       .skip
       (.seq (.region [
        kO 13 (.bin .eql 4 (ci 15)),
        kO 5 (.mv 13)])
        (.cond 5
        .skip
        (.seq (.region [
         kO 14 (.bin .eql 4 (ci 16)),
         kO 5 (.mv 14)])
         (.cond 5
         .skip
         (.seq (.region [
          kO 15 (.bin .eql 4 (ci 18)),
          kO 5 (.mv 15)])
          (.cond 5
          .skip
          (.region [
           kO 16 (.bin .eql 4 (ci 22)),
           kO 5 (.mv 16)])))))))))))))))))))))
 y1kt)
def y1o2 : CCode :=
  (.block 0 y1k8)
def y1mq : CCode :=
  (.seq (.region [
 kO 3 (.fa 0 1),
 kO 4 (.ld false 1 3)])
 y1o2)
def y1sk : CCode :=
  (.seq y1mq
 y1ul)
def y1v4 : CCode :=
  (.seq (.region [
 kO 1 (.box (some 0) 0),
 kO 2 (.mv (.c (.bool false)))])
 y1sk)
def y2li : CFunc :=
  ⟨1, true, 1, y1v4, [.t 2]⟩
def y1ga : CCode :=
  (.seq (.region [
 kO 6 (.mv (.c (.bool false)))])
 (.seq (.region [
 kO 7 (.mv 0),
 kO 8 (.eqn 0 true 7 (.c .nilp)),
 kO 9 (.mv 8),
 kG 10 (.mv 0) 9 true,
 kG 11 (.mv 0) 9 true,
 kG 12 (.nilchk 11) 9 true,
 kG 13 (.fa 1 12) 9 true,
 kG 14 (.ld false 1 13) 9 true,
 kG 15 (.mv 1) 9 true,
 kG 16 (.mv 2) 9 true,
 kG 17 (.call none true 82 [10, 14, 15, 16]) 9 true,
 kO 18 (.pick 9 17 (.c (.bool false))),
 kO 6 (.mv 18)])
 .ret))
def y2kq : CFunc :=
  ⟨3, true, 0, y1ga, [.t 6]⟩
def y1l2 : CCode :=
  (.seq (.region [
 kO 57 (.mv 5),
 kO 4 (.mv 57)])
 .ret)
def y1g4 : CCode :=
  (.region [
 kO 56 (.bin .add 29 (ci 1)),
 kO 29 (.mv 56)])
def y1p6 : CCode :=
  (.seq (.region [
 kO 53 (.fa 3 7),
 kO 54 (.ld false 1 53),
 kO 55 (.bin .eql 54 (.c (.str [])))])
 (.cond 55
 (.exit 0)
 .skip))
def y1ww : CCode :=
  (.seq (.seq (.region [
 kO 43 (.mv 5),
 kO 44 (.fa 2 7),
 kO 45 (.ld false 1 44),
 kO 46 (.call none true 46 [43, 45]),
 kO 47 (.un .not 46)])
 (.cond 47
 (.region [
  kO 48 (.mv 5),
  kO 49 (.fa 2 7),
  kO 50 (.ld false 1 49),
  kO 51 (.buildS (some 2) 1 1 [(.int .i64 0)] [(0, 50)]),
  kO 52 (.app (some 3) 1 8 48 51),
  kO 5 (.mv 52)])
 .skip))
 y1p6)
def y1t3 : CCode :=
  (.seq (.seq (.region [
 kO 33 (.mv 1),
 kO 34 (.fa 0 7),
 kO 35 (.ld false 1 34),
 kO 36 (.bin .lss 33 35),
 kO 37 (.mv 36),
 kG 38 (.mv 1) 37 false,
 kG 39 (.fa 1 7) 37 false,
 kG 40 (.ld false 1 39) 37 false,
 kG 41 (.bin .geq 38 40) 37 false,
 kO 42 (.pick 37 (.c (.bool true)) 41)])
 (.cond 42
 (.exit 1)
 .skip))
 y1ww)
def y1pq : CCode :=
  (.seq (.region [
 kO 31 (.ixs 4 27 29),
 kO 32 (.ld true 4 31),
 kO 7 (.new (some 1) [(.int .i64 0), (.int .i64 0), (.int .i64 0), (.str [])]),
 kU (.st 4 7 32)])
 y1t3)
def y1iv : CCode :=
  (.block 1 y1pq)
def y1uf : CCode :=
  (.seq y1iv
 y1g4)
def y12e : CCode :=
  (.seq (.cond 30
 .skip
 (.exit 0))
 y1uf)
def yzy : CCode :=
  (.seq (.region [
 kO 30 (.bin .lss 29 28)])
 y12e)
def yq3 : CCode :=
  (.loop [1, 5, 27, 28, 29] yzy)
def y17d : CCode :=
  (.block 0 yq3)
def y14d : CCode :=
  (.seq (.region [
 kO 26 (.fa 4 2),
 kO 27 (.ld false 1 26),
 kO 28 (.len 1 27),
 kO 29 (.mv (ci 0))])
 y17d)
def yyo : CCode :=
  (.seq y14d
 y1l2)
def y114 : CCode :=
  (.seq (.region [
 kO 5 (.mv (.c .nils))])
 yyo)
def y159 : CCode :=
  (.seq (.seq (.region [
 kO 8 (.mv 1),
 kO 9 (.bin .lss 8 (ci 0)),
 kO 10 (.mv 9),
 kG 11 (.mv 1) 10 false,
 kG 12 (.fa 3 2) 10 false,
 kG 13 (.ld false 1 12) 10 false,
 kG 14 (.len 1 13) 10 false,
 kG 15 (.bin .geq 11 14) 10 false,
 kO 16 (.pick 10 (.c (.bool true)) 15),
 kO 17 (.mv 16),
 kG 18 (.fa 3 2) 17 false,
 kG 19 (.ld false 1 18) 17 false,
 kG 20 (.mv 1) 17 false,
 kG 21 (.ixs 9 19 20) 17 false,
 kG 22 (.ld true 9 21) 17 false,
 kG 23 (.call none true 18 [22]) 17 false,
 kG 24 (.un .not 23) 17 false,
 kO 25 (.pick 17 (.c (.bool true)) 24)])
 (.cond 25
 (.seq (.region [
  kO 4 (.mv (.c .nils))])
  .ret)
 .skip))
 y114)
def y18s : CCode :=
  (.seq (.region [
 kO 2 (.box (some 0) 0),
 kO 4 (.mv (.c .nils))])
 y159)
def y2km : CFunc :=
  ⟨2, true, 4, y18s, [.t 4]⟩
def y1f7 : CCode :=
  (.seq (.region [
 kO 43 (.mv 6),
 kO 4 (.mv 43)])
 .ret)
def y1xj : CCode :=
  (.seq (.seq (.region [
 kO 29 (.ld true 9 5),
 kO 30 (.call none true 22 [29]),
 kO 31 (.mv 30),
 kG 32 (.mv 6) 31 true,
 kG 33 (.fa 6 5) 31 true,
 kG 34 (.ld false 1 33) 31 true,
 kG 35 (.call none true 46 [32, 34]) 31 true,
 kG 36 (.un .not 35) 31 true,
 kO 37 (.pick 31 36 (.c (.bool false)))])
 (.cond 37
 (.region [
  kO 38 (.mv 6),
  kO 39 (.fa 6 5),
  kO 40 (.ld false 1 39),
  kO 41 (.buildS (some 4) 1 1 [(.int .i64 0)] [(0, 40)]),
  kO 42 (.app (some 5) 1 8 38 41),
  kO 6 (.mv 42)])
 .skip))
 y1f7)
def y1hx : CCode :=
  (.seq (.seq (.region [
 kO 21 (.ld true 9 5),
 kO 22 (.call none true 24 [21]),
 kO 23 (.un .not 22)])
 (.cond 23
 (.region [
  kO 24 (.mv 6),
  kO 25 (.mv 1),
  kO 26 (.bin .add 25 (ci 1)),
  kO 27 (.buildS (some 2) 1 1 [(.int .i64 0)] [(0, 26)]),
  kO 28 (.app (some 3) 1 8 24 27),
  kO 6 (.mv 28)])
 .skip))
 y1xj)
def y1p8 : CCode :=
  (.seq (.region [
 kO 6 (.mv (.c .nils))])
 y1hx)
def y1li : CCode :=
  (.seq (.region [
 kO 16 (.fa 3 2),
 kO 17 (.ld false 1 16),
 kO 18 (.mv 1),
 kO 19 (.ixs 9 17 18),
 kO 20 (.ld true 9 19),
 kO 5 (.new (some 1) [(.int .i64 0), (.int .i64 0), (.int .i64 0), (.int .i64 0), (.int .i64 0), (.int .i64 0), (.int .i64 0), (.str []), .nils]),
 kU (.st 9 5 20)])
 y1p8)
def y1m8 : CCode :=
  (.seq (.seq (.region [
 kO 7 (.mv 1),
 kO 8 (.bin .lss 7 (ci 0)),
 kO 9 (.mv 8),
 kG 10 (.mv 1) 9 false,
 kG 11 (.fa 3 2) 9 false,
 kG 12 (.ld false 1 11) 9 false,
 kG 13 (.len 1 12) 9 false,
 kG 14 (.bin .geq 10 13) 9 false,
 kO 15 (.pick 9 (.c (.bool true)) 14)])
 (.cond 15
 (.seq (.region [
  kO 4 (.mv (.c .nils))])
  .ret)
 .skip))
 y1li)
def y1lk : CCode :=
  (.seq (.region [
 kO 2 (.box (some 0) 0),
 kO 4 (.mv (.c .nils))])
 y1m8)
def y2is : CFunc :=
  ⟨2, true, 6, y1lk, [.t 4]⟩
def yzw : CCode :=
  (.seq (.region [
 kO 2 (.mv (.c (.bool false)))])
 (.seq (.region [
 kO 3 (.mv 0),
 kO 4 (.buildS (some 0) 1 11 [(.int .i64 0)] [(0, (ci 1)), (1, (ci 2)), (2, (ci 3)), (3, (ci 4)), (4, (ci 5)), (5, (ci 6)), (6, (ci 13)), (7, (ci 15)), (8, (ci 16)), (9, (ci 18)), (10, (ci 22))]),
 kO 5 (.call none true 42 [3, 4]),
 kO 2 (.mv 5)])
 .ret))
def y27u : CFunc :=
  ⟨1, true, 1, yzw, [.t 2]⟩
def y12v : CCode :=
  (.seq (.region [
 kO 3 (.box (some 0) 0),
 kO 6 (.mv (.c (.bool false)))])
 (.seq (.draw [
 kO 7 (.mv 1),
 kO 8 (.bin .geq 7 (ci 0)),
 kO 9 (.mv 8),
 kG 10 (.mv 1) 9 true,
 kG 11 (.fa 3 3) 9 true,
 kG 12 (.ld false 1 11) 9 true,
 kG 13 (.len 1 12) 9 true,
 kG 14 (.bin .lss 10 13) 9 true,
 kO 15 (.pick 9 14 (.c (.bool false))),
 kO 16 (.mv 15),
 kG 17 (.mv 2) 16 true,
 kG 18 (.bin .geq 17 (ci 0)) 16 true,
 kO 19 (.pick 16 18 (.c (.bool false))),
 kO 20 (.mv 19),
 kG 21 (.mv 2) 20 true,
 kG 22 (.fa 0 3) 20 true,
 kG 23 (.ld false 1 22) 20 true,
 kG 24 (.len 1 23) 20 true,
 kG 25 (.bin .lss 21 24) 20 true,
 kO 26 (.pick 20 25 (.c (.bool false))),
 kO 27 (.mv 26),
 kG 28 (.ld true 5 3) 27 true,
 kG 29 (.ld true 5 3) 27 true,
 kG 30 (.mv 1) 27 true,
 kG 31 (.call (some 1) false 95 [29, 30]) 27 true,
 kG 32 (.mv 2) 27 true,
 kG 33 (.call none false 93 [28, 31, 32]) 27 true,
 kO 34 (.pick 27 33 (.c (.bool false))),
 kO 6 (.mv 34)] [(21, 24)])
 .ret))
def y286 : CFunc :=
  ⟨3, true, 2, y12v, [.t 6]⟩
def y131 : CCode :=
  (.seq (.region [
 kO 2 (.mv (.c (.bool false)))])
 (.seq (.region [
 kO 3 (.mv 0),
 kO 4 (.buildS (some 0) 1 3 [(.int .i64 0)] [(0, (ci 27)), (1, (ci 30)), (2, (ci 31))]),
 kO 5 (.call none true 42 [3, 4]),
 kO 2 (.mv 5)])
 .ret))
def y272 : CFunc :=
  ⟨1, true, 1, y131, [.t 2]⟩
def y01 : CCode :=
  (.seq (.region [
 kO 14 (.fa 0 2),
 kO 15 (.ld false 1 14),
 kO 16 (.mv 1),
 kO 17 (.ixs 1 15 16),
 kO 18 (.ld false 1 17),
 kO 4 (.mv 18)])
 .ret)
def yyb : CCode :=
  (.seq (.seq (.region [
 kO 5 (.mv 1),
 kO 6 (.bin .lss 5 (ci 0)),
 kO 7 (.mv 6),
 kG 8 (.mv 1) 7 false,
 kG 9 (.fa 0 2) 7 false,
 kG 10 (.ld false 1 9) 7 false,
 kG 11 (.len 1 10) 7 false,
 kG 12 (.bin .geq 8 11) 7 false,
 kO 13 (.pick 7 (.c (.bool true)) 12)])
 (.cond 13
 (.seq (.region [
  kO 4 (.mv (ci 0))])
  .ret)
 .skip))
 y01)
def yxz : CCode :=
  (.seq (.region [
 kO 2 (.box (some 0) 0),
 kO 4 (.mv (ci 0))])
 yyb)
def y264 : CFunc :=
  ⟨2, true, 1, yxz, [.t 4]⟩
def y14h : CCode :=
  (.seq (.region [
 kO 4 (.mv (.c (.bool false)))])
 .ret)
def y18w : CCode :=
  (.region [
 kO 10 (.mv 5),
 kO 11 (.bin .add 10 (ci 1)),
 kO 5 (.mv 11)])
def yz6 : CCode :=
  (.seq (.block 1 (.seq (.region [
 kO 12 (.mv 1),
 kO 13 (.mv 5),
 kO 14 (.ixs 1 12 13),
 kO 15 (.ld false 1 14),
 kO 16 (.mv 0),
 kO 17 (.bin .eql 15 16)])
 (.cond 17
 (.seq (.region [
  kO 4 (.mv (.c (.bool true)))])
  .ret)
 .skip)))
 y18w)
def y193 : CCode :=
  (.seq (.seq (.region [
 kO 6 (.mv 5),
 kO 7 (.mv 1),
 kO 8 (.len 1 7),
 kO 9 (.bin .lss 6 8)])
 (.cond 9
 .skip
 (.exit 0)))
 yz6)
def yin : CCode :=
  (.loop [0, 1, 5] y193)
def y156 : CCode :=
  (.block 0 yin)
def y12y : CCode :=
  (.seq (.region [
 kO 5 (.mv (ci 0))])
 y156)
def y171 : CCode :=
  (.seq y12y
 y14h)
def y11e : CCode :=
  (.seq (.region [
 kO 4 (.mv (.c (.bool false)))])
 y171)
def y27x : CFunc :=
  ⟨2, true, 0, y11e, [.t 4]⟩
def y15q : CCode :=
  (.seq (.region [
 kO 4 (.mv (.c (.bool true)))])
 .ret)
def y126 : CCode :=
  (.seq (.draw [
 kO 215 (.fa 2 3),
 kO 216 (.ld false 1 215),
 kO 217 (.bin .neq 216 (ci (-1))),
 kO 218 (.mv 217),
 kG 219 (.ld true 5 2) 218 true,
 kG 220 (.fa 2 3) 218 true,
 kG 221 (.ld false 1 220) 218 true,
 kG 222 (.call none true 48 [219, 221]) 218 true,
 kG 223 (.fa 2 2) 218 true,
 kG 224 (.ld false 1 223) 218 true,
 kG 225 (.bin .eql 222 224) 218 true,
 kO 226 (.pick 218 225 (.c (.bool false))),
 kO 4 (.mv 226)] [(7, 9)])
 .ret)
def y113 : CCode :=
  (.seq (.seq (.region [
 kO 209 (.fa 2 2),
 kO 210 (.ld false 1 209),
 kO 211 (.bin .eql 210 (ci 0))])
 (.cond 211
 (.seq (.region [
  kO 212 (.fa 2 3),
  kO 213 (.ld false 1 212),
  kO 214 (.bin .eql 213 (ci (-1))),
  kO 4 (.mv 214)])
  .ret)
 .skip))
 y126)
def yyu : CCode :=
  (.cond 207
 y113
 .skip)
def y16o : CCode :=
  (.seq (.region [
 kO 208 (.bin .eql 55 (ci 30)),
 kO 207 (.mv 208)])
 yyu)
def y180 : CCode :=
  (.cond 179
 (.seq (.region [
  kO 181 (.fa 5 3),
  kO 182 (.ld false 1 181),
  kO 183 (.bin .eql 182 (ci 0)),
  kO 184 (.mv 183),
  kG 185 (.fa 5 3) 184 false,
  kG 186 (.ld false 1 185) 184 false,
  kG 187 (.bin .eql 186 (ci 1)) 184 false,
  kO 188 (.pick 184 (.c (.bool true)) 187),
  kO 189 (.mv 188),
  kG 190 (.fa 3 3) 189 true,
  kG 191 (.ld false 1 190) 189 true,
  kG 192 (.bin .eql 191 (ci (-1))) 189 true,
  kG 193 (.mv 192) 189 true,
  kG 194 (.ld true 5 2) 193 false,
  kG 195 (.fa 3 3) 193 false,
  kG 196 (.ld false 1 195) 193 false,
  kG 197 (.call none true 48 [194, 196]) 193 false,
  kG 198 (.bin .eql 197 (ci 3)) 193 false,
  kG 199 (.pick 193 (.c (.bool true)) 198) 189 true,
  kO 200 (.pick 189 199 (.c (.bool false))),
  kO 201 (.mv 200),
  kG 202 (.ld true 5 2) 201 true,
  kG 203 (.fa 6 3) 201 true,
  kG 204 (.ld false 1 203) 201 true,
  kG 205 (.call none true 49 [202, 204]) 201 true,
  kO 206 (.pick 201 205 (.c (.bool false))),
  kO 4 (.mv 206)])
  .ret)
 y16o)
def yyy : CCode :=
  (.seq (.region [
 kO 180 (.bin .eql 55 (ci 29)),
 kO 179 (.mv 180)])
 y180)
def y0t : CCode :=
  (.cond 173
 (.seq (.region [
  kO 175 (.ld true 5 2),
  kO 176 (.fa 6 3),
  kO 177 (.ld false 1 176),
  kO 178 (.call none true 49 [175, 177]),
  kO 4 (.mv 178)])
  .ret)
 yyy)
def y19u : CCode :=
  (.seq (.region [
 kO 174 (.bin .eql 55 (ci 27)),
 kO 173 (.mv 174)])
 y0t)
def ysq : CCode :=
  (.cond 157
 (.seq (.region [
  kO 159 (.fa 5 3),
  kO 160 (.ld false 1 159),
  kO 161 (.bin .geq 160 (ci 0)),
  kO 162 (.mv 161),
  kG 163 (.fa 5 3) 162 true,
  kG 164 (.ld false 1 163) 162 true,
  kG 165 (.bin .leq 164 (ci 5)) 162 true,
  kO 166 (.pick 162 165 (.c (.bool false))),
  kO 167 (.mv 166),
  kG 168 (.ld true 5 2) 167 true,
  kG 169 (.fa 6 3) 167 true,
  kG 170 (.ld false 1 169) 167 true,
  kG 171 (.call none true 49 [168, 170]) 167 true,
  kO 172 (.pick 167 171 (.c (.bool false))),
  kO 4 (.mv 172)])
  .ret)
 y19u)
def yum : CCode :=
  (.seq (.region [
 kO 158 (.bin .eql 55 (ci 28)),
 kO 157 (.mv 158)])
 ysq)
def ys2 : CCode :=
  (.cond 149
 (.seq (.region [
  kO 154 (.ld true 5 2),
  kO 155 (.ld true 9 3),
  kO 156 (.call none true 68 [154, 155]),
  kO 4 (.mv 156)])
  .ret)
 yum)
def yqt : CCode :=
  (.seq (.seq (.region [
 kO 150 (.bin .eql 55 (ci 23)),
 kO 149 (.mv 150)])
 (.cond 149
 .skip
 (.seq (.region [
  kO 151 (.bin .eql 55 (ci 24)),
  kO 149 (.mv 151)])
  (.cond 149
  .skip
  (.seq (.region [
   kO 152 (.bin .eql 55 (ci 25)),
   kO 149 (.mv 152)])
   (.cond 149
   .skip
   (.region [
    kO 153 (.bin .eql 55 (ci 26)),
    kO 149 (.mv 153)])))))))
 ys2)
def ytl : CCode :=
  (.cond 143
 (.seq (.region [
  kO 146 (.fa 5 3),
  kO 147 (.ld false 1 146),
  kO 148 (.bin .geq 147 (ci 0)),
  kO 4 (.mv 148)])
  .ret)
 yqt)
def ytg : CCode :=
  (.seq (.seq (.region [
 kO 144 (.bin .eql 55 (ci 16)),
 kO 143 (.mv 144)])
 (.cond 143
 .skip
 (.region [
  kO 145 (.bin .eql 55 (ci 17)),
  kO 143 (.mv 145)])))
 ytl)
def yrk : CCode :=
  (.cond 136
 (.seq (.region [
  kO 140 (.fa 7 3),
  kO 141 (.ld false 1 140),
  kO 142 (.call none true 67 [141]),
  kO 4 (.mv 142)])
  .ret)
 ytg)
def ytq : CCode :=
  (.seq (.seq (.region [
 kO 137 (.bin .eql 55 (ci 12)),
 kO 136 (.mv 137)])
 (.cond 136
 .skip
 (.seq (.region [
  kO 138 (.bin .eql 55 (ci 21)),
  kO 136 (.mv 138)])
  (.cond 136
  .skip
  (.region [
   kO 139 (.bin .eql 55 (ci 22)),
   kO 136 (.mv 139)])))))
 yrk)
def yrs : CCode :=
  (.cond 112
 (.seq (.region [
  kO 114 (.mv 8),
  kO 115 (.bin .gtr 114 (ci 0)),
  kO 116 (.mv 115),
  kG 117 (.mv 9) 116 true,
  kG 118 (.bin .eql 117 (ci 0)) 116 true,
  kO 119 (.pick 116 118 (.c (.bool false))),
  kO 120 (.mv 119),
  kG 121 (.ld true 5 2) 120 true,
  kG 122 (.fa 1 3) 120 true,
  kG 123 (.ld false 1 122) 120 true,
  kG 124 (.call none true 48 [121, 123]) 120 true,
  kG 125 (.mv 10) 120 true,
  kG 126 (.bin .eql 124 125) 120 true,
  kO 127 (.pick 120 126 (.c (.bool false))),
  kO 128 (.mv 127),
  kG 129 (.ld true 5 2) 128 true,
  kG 130 (.fa 2 3) 128 true,
  kG 131 (.ld false 1 130) 128 true,
  kG 132 (.call none true 48 [129, 131]) 128 true,
  kG 133 (.mv 8) 128 true,
  kG 134 (.bin .eql 132 133) 128 true,
  kO 135 (.pick 128 134 (.c (.bool false))),
  kO 4 (.mv 135)])
  .ret)
 ytq)
def yru : CCode :=
  (.seq (.region [
 kO 113 (.bin .eql 55 (ci 6)),
 kO 112 (.mv 113)])
 yrs)
def yv5 : CCode :=
  (.cond 84
 (.seq (.region [
  kO 86 (.mv 9),
  kO 87 (.bin .gtr 86 (ci 0)),
  kO 88 (.mv 87),
  kG 89 (.ld true 5 2) 88 true,
  kG 90 (.fa 1 3) 88 true,
  kG 91 (.ld false 1 90) 88 true,
  kG 92 (.call none true 48 [89, 91]) 88 true,
  kG 93 (.mv 10) 88 true,
  kG 94 (.bin .eql 92 93) 88 true,
  kO 95 (.pick 88 94 (.c (.bool false))),
  kO 96 (.mv 95),
  kG 97 (.ld true 5 2) 96 true,
  kG 98 (.fa 2 3) 96 true,
  kG 99 (.ld false 1 98) 96 true,
  kG 100 (.call none true 48 [97, 99]) 96 true,
  kG 101 (.mv 8) 96 true,
  kG 102 (.bin .eql 100 101) 96 true,
  kO 103 (.pick 96 102 (.c (.bool false))),
  kO 104 (.mv 103),
  kG 105 (.ld true 5 2) 104 true,
  kG 106 (.fa 3 3) 104 true,
  kG 107 (.ld false 1 106) 104 true,
  kG 108 (.call none true 48 [105, 107]) 104 true,
  kG 109 (.mv 9) 104 true,
  kG 110 (.bin .eql 108 109) 104 true,
  kO 111 (.pick 104 110 (.c (.bool false))),
  kO 4 (.mv 111)])
  .ret)
 yru)
def yu4 : CCode :=
  (.seq (.region [
 kO 85 (.bin .eql 55 (ci 5)),
 kO 84 (.mv 85)])
 yv5)
def yux : CCode :=
  (.cond 73
 (.seq (.draw [
  kO 75 (.ld true 5 2),
  kO 76 (.fa 1 3),
  kO 77 (.ld false 1 76),
  kO 78 (.call none true 48 [75, 77]),
  kO 79 (.ld true 5 2),
  kO 80 (.fa 2 3),
  kO 81 (.ld false 1 80),
  kO 82 (.call none true 48 [79, 81]),
  kO 83 (.bin .eql 78 82),
  kO 4 (.mv 83)] [(3, 4), (3, 6)])
  .ret)
 yu4)
def yqu : CCode :=
  (.seq (.region [
 kO 74 (.bin .eql 55 (ci 4)),
 kO 73 (.mv 74)])
 yux)
def yqg : CCode :=
  (.cond 56
 (.seq (.region [
  kO 58 (.ld true 5 2),
  kO 59 (.fa 1 3),
  kO 60 (.ld false 1 59),
  kO 61 (.call none true 48 [58, 60]),
  kO 62 (.bin .eql 61 (ci 2)),
  kO 63 (.mv 62),
  kG 64 (.fa 5 3) 63 false,
  kG 65 (.ld false 1 64) 63 false,
  kG 66 (.bin .geq 65 (ci (-2147483648))) 63 false,
  kG 67 (.mv 66) 63 false,
  kG 68 (.fa 5 3) 67 true,
  kG 69 (.ld false 1 68) 67 true,
  kG 70 (.bin .lss 69 (ci 2147483648)) 67 true,
  kG 71 (.pick 67 70 (.c (.bool false))) 63 false,
  kO 72 (.pick 63 (.c (.bool true)) 71),
  kO 4 (.mv 72)])
  .ret)
 yqu)
def yr2 : CCode :=
  (.seq (.region [
 kO 57 (.bin .eql 55 (ci 1)),
 kO 56 (.mv 57)])
 yqg)
def ysb : CCode :=
  (.block 2 yr2)
def yqo : CCode :=
  (.seq (.region [
 kO 54 (.fa 0 3),
 kO 55 (.ld false 1 54)])
 ysb)
def ysi : CCode :=
  (.seq yqo
 y15q)
def ysg : CCode :=
  (.seq (.seq (.region [
 kO 39 (.fa 5 3),
 kO 40 (.ld false 1 39),
 kO 41 (.bin .geq 40 (ci 0)),
 kO 42 (.mv 41),
 kG 43 (.fa 5 3) 42 true,
 kG 44 (.ld false 1 43) 42 true,
 kG 45 (.bin .lss 44 (ci 1000)) 42 true,
 kO 46 (.pick 42 45 (.c (.bool false)))])
 (.cond 46
 (.region [
  kO 48 (.fa 5 3),
  kO 49 (.ld false 1 48),
  kO 50 (.call none true 66 [49]),
  kO 47 (.mv 50),
  kO 51 (.ext 0 47),
  kO 52 (.ext 1 47),
  kO 53 (.ext 2 47),
  kO 8 (.mv 51),
  kO 9 (.mv 52),
  kO 10 (.mv 53)])
 .skip))
 ysi)
def yr7 : CCode :=
  (.seq (.region [
 kO 8 (.mv (ci 0)),
 kO 9 (.mv (ci 0)),
 kO 10 (.mv (ci 0))])
 ysg)
def yqr : CCode :=
  (.region [
 kO 27 (.mv 7),
 kO 28 (.bin .add 27 (ci 1)),
 kO 7 (.mv 28)])
def yu0 : CCode :=
  (.seq (.block 1 (.seq (.draw [
 kO 29 (.ld true 5 2),
 kO 30 (.mv 6),
 kO 31 (.mv 7),
 kO 32 (.ixs 1 30 31),
 kO 33 (.ld false 1 32),
 kO 34 (.mv 5),
 kO 35 (.mv 7),
 kO 36 (.ixstr 34 35),
 kO 37 (.call none true 65 [29, 33, 36]),
 kO 38 (.un .not 37)] [])
 (.cond 38
 (.seq (.region [
  kO 4 (.mv (.c (.bool false)))])
  .ret)
 .skip)))
 yqr)
def ysn : CCode :=
  (.seq (.seq (.region [
 kO 25 (.mv 7),
 kO 26 (.bin .lss 25 (ci 4))])
 (.cond 26
 .skip
 (.exit 0)))
 yu0)
def yer : CCode :=
  (.loop [2, 3, 5, 6, 7] ysn)
def ytb : CCode :=
  (.block 0 yer)
def yro : CCode :=
  (.seq (.region [
 kO 7 (.mv (ci 0))])
 ytb)
def yrp : CCode :=
  (.seq yro
 yr7)
def ytv : CCode :=
  (.seq (.region [
 kO 16 (.fa 1 3),
 kO 17 (.ld false 1 16),
 kO 18 (.fa 2 3),
 kO 19 (.ld false 1 18),
 kO 20 (.fa 3 3),
 kO 21 (.ld false 1 20),
 kO 22 (.fa 4 3),
 kO 23 (.ld false 1 22),
 kO 24 (.buildS (some 2) 1 4 [(.int .i64 0)] [(0, 17), (1, 19), (2, 21), (3, 23)]),
 kO 6 (.mv 24)])
 yrp)
def yrn : CCode :=
  (.seq (.seq (.region [
 kO 14 (.mv 5),
 kO 15 (.bin .eql 14 (.c (.str [])))])
 (.cond 15
 (.seq (.region [
  kO 4 (.mv (.c (.bool false)))])
  .ret)
 .skip))
 ytv)
def ysa : CCode :=
  (.seq (.region [
 kO 11 (.fa 0 3),
 kO 12 (.ld false 1 11),
 kO 13 (.call none true 38 [12]),
 kO 5 (.mv 13)])
 yrn)
def yu6 : CCode :=
  (.seq (.region [
 kO 2 (.box (some 0) 0),
 kO 3 (.box (some 1) 1),
 kO 4 (.mv (.c (.bool false)))])
 ysa)
def y27h : CFunc :=
  ⟨2, true, 3, yu6, [.t 4]⟩
def y19x : CCode :=
  (.seq (.region [
 kO 2 (.mv (.c (.bool false)))])
 (.seq (.region [
 kO 3 (.mv 0),
 kO 4 (.buildS (some 0) 1 3 [(.int .i64 0)] [(0, (ci 27)), (1, (ci 28)), (2, (ci 29))]),
 kO 5 (.call none true 42 [3, 4]),
 kO 2 (.mv 5)])
 .ret))
def y27t : CFunc :=
  ⟨1, true, 1, y19x, [.t 2]⟩
def y196 : CCode :=
  (.seq (.region [
 kO 2 (.box (some 0) 0),
 kO 4 (.mv (.c (.bool false)))])
 (.seq (.region [
 kO 5 (.mv 1),
 kO 6 (.bin .geq 5 (ci 0)),
 kO 7 (.mv 6),
 kG 8 (.mv 1) 7 true,
 kG 9 (.fa 3 2) 7 true,
 kG 10 (.ld false 1 9) 7 true,
 kG 11 (.len 1 10) 7 true,
 kG 12 (.bin .lss 8 11) 7 true,
 kO 13 (.pick 7 12 (.c (.bool false))),
 kO 4 (.mv 13)])
 .ret))
def y274 : CFunc :=
  ⟨2, true, 1, y196, [.t 4]⟩
def y1k2 : CCode :=
  (.seq (.region [
 kO 1 (.box (some 0) 0),
 kO 2 (.mv (.c (.bool false)))])
 (.seq (.region [
 kO 3 (.fa 0 1),
 kO 4 (.ld false 1 3),
 kO 5 (.bin .geq 4 (ci 23)),
 kO 6 (.mv 5),
 kG 7 (.fa 0 1) 6 true,
 kG 8 (.ld false 1 7) 6 true,
 kG 9 (.bin .leq 8 (ci 26)) 6 true,
 kO 10 (.pick 6 9 (.c (.bool false))),
 kO 2 (.mv 10)])
 .ret))
def y2l2 : CFunc :=
  ⟨1, true, 1, y1k2, [.t 2]⟩
def y19m : CCode :=
  (.seq (.region [
 kO 4 (.mv (ci (-1)))])
 .ret)
def y19s : CCode :=
  (.region [
 kO 18 (.bin .add 8 (ci 1)),
 kO 8 (.mv 18)])
def y184 : CCode :=
  (.seq (.block 1 (.seq (.region [
 kO 10 (.mv 8),
 kO 5 (.mv 10)])
 (.seq (.region [
 kO 11 (.mv 1),
 kO 12 (.mv 0),
 kO 13 (.mv 5),
 kO 14 (.ixs 1 12 13),
 kO 15 (.ld false 1 14),
 kO 16 (.bin .eql 11 15)])
 (.cond 16
 (.seq (.region [
  kO 17 (.mv 5),
  kO 4 (.mv 17)])
  .ret)
 .skip))))
 y19s)
def y19k : CCode :=
  (.seq (.cond 9
 .skip
 (.exit 0))
 y184)
def yzc : CCode :=
  (.seq (.region [
 kO 9 (.bin .lss 8 7)])
 y19k)
def yjw : CCode :=
  (.loop [0, 1, 7, 8] yzc)
def y142 : CCode :=
  (.block 0 yjw)
def y11m : CCode :=
  (.seq (.region [
 kO 6 (.mv 0),
 kO 7 (.len 1 6),
 kO 8 (.mv (ci 0))])
 y142)
def yz5 : CCode :=
  (.seq y11m
 y19m)
def yuf : CCode :=
  (.seq (.region [
 kO 4 (.mv (ci 0))])
 yz5)
def y273 : CFunc :=
  ⟨2, true, 0, yuf, [.t 4]⟩
def y1xc : CCode :=
  (.seq (.region [
 kO 138 (.ld true 9 1),
 kO 139 (.call none true 51 [138]),
 kO 140 (.ext 0 139),
 kO 141 (.ext 1 139),
 kU (.st 4 2 140),
 kO 3 (.mv 141)])
 .ret)
def y1hw : CCode :=
  (.cond 134
 (.seq (.region [
  kO 137 (.build [(.int .i64 0), (.int .i64 0), (.int .i64 0), (.int .i64 0)] [(0, 1, (ci (-1))), (1, 1, (ci (-1))), (2, 1, (ci (-1))), (3, 1, (ci (-1)))]),
  kU (.st 4 2 137),
  kO 3 (.mv (.c (.bool true)))])
  .ret)
 .skip)
def y1kx : CCode :=
  (.seq (.seq (.region [
 kO 135 (.bin .eql 11 (ci 27)),
 kO 134 (.mv 135)])
 (.cond 134
 .skip
 (.region [
  kO 136 (.bin .eql 11 (ci 33)),
  kO 134 (.mv 136)])))
 y1hw)
def y1pi : CCode :=
  (.cond 123
 (.seq (.draw [
  kO 125 (.build [(.int .i64 0), (.int .i64 0), (.int .i64 0), (.int .i64 0)] [(0, 1, (ci (-1))), (1, 1, (ci 1)), (2, 1, (ci 1)), (3, 1, (ci (-1)))]),
  kO 126 (.fa 5 1),
  kO 127 (.ld false 1 126),
  kO 128 (.bin .geq 127 (ci 0)),
  kO 129 (.mv 128),
  kG 130 (.fa 5 1) 129 true,
  kG 131 (.ld false 1 130) 129 true,
  kG 132 (.bin .leq 131 (ci 5)) 129 true,
  kO 133 (.pick 129 132 (.c (.bool false))),
  kU (.st 4 2 125),
  kO 3 (.mv 133)] [(6, 9)])
  .ret)
 y1kx)
def y1p1 : CCode :=
  (.seq (.region [
 kO 124 (.bin .eql 11 (ci 28)),
 kO 123 (.mv 124)])
 y1pi)
def y1t7 : CCode :=
  (.cond 117
 (.seq (.region [
  kO 119 (.build [(.int .i64 0), (.int .i64 0), (.int .i64 0), (.int .i64 0)] [(0, 1, (ci 3)), (1, 1, (ci 1)), (2, 1, (ci (-1))), (3, 1, (ci (-1)))]),
  kO 120 (.fa 7 1),
  kO 121 (.ld false 1 120),
  kO 122 (.call none true 37 [121]),
  kU (.st 4 2 119),
  kO 3 (.mv 122)])
  .ret)
 y1p1)
def y1pl : CCode :=
  (.seq (.region [
 kO 118 (.bin .eql 11 (ci 21)),
 kO 117 (.mv 118)])
 y1t7)
def y1qf : CCode :=
  (.cond 114
 (.seq (.region [
  kO 116 (.build [(.int .i64 0), (.int .i64 0), (.int .i64 0), (.int .i64 0)] [(0, 1, (ci (-1))), (1, 1, (ci 0)), (2, 1, (ci (-1))), (3, 1, (ci (-1)))]),
  kU (.st 4 2 116),
  kO 3 (.mv (.c (.bool true)))])
  .ret)
 y1pl)
def y1kr : CCode :=
  (.seq (.region [
 kO 115 (.bin .eql 11 (ci 19)),
 kO 114 (.mv 115)])
 y1qf)
def yy4 : CCode :=
  (.cond 108
 (.seq (.draw [
  kO 110 (.build [(.int .i64 0), (.int .i64 0), (.int .i64 0), (.int .i64 0)] [(0, 1, (ci (-1))), (1, 1, (ci 3)), (2, 1, (ci 0)), (3, 1, (ci (-1)))]),
  kO 111 (.fa 5 1),
  kO 112 (.ld false 1 111),
  kO 113 (.bin .geq 112 (ci 0)),
  kU (.st 4 2 110),
  kO 3 (.mv 113)] [(2, 4)])
  .ret)
 y1kr)
def y11z : CCode :=
  (.seq (.region [
 kO 109 (.bin .eql 11 (ci 17)),
 kO 108 (.mv 109)])
 yy4)
def y17y : CCode :=
  (.cond 102
 (.seq (.draw [
  kO 104 (.build [(.int .i64 0), (.int .i64 0), (.int .i64 0), (.int .i64 0)] [(0, 1, (ci 0)), (1, 1, (ci 3)), (2, 1, (ci (-1))), (3, 1, (ci (-1)))]),
  kO 105 (.fa 5 1),
  kO 106 (.ld false 1 105),
  kO 107 (.bin .geq 106 (ci 0)),
  kU (.st 4 2 104),
  kO 3 (.mv 107)] [(2, 4)])
  .ret)
 y11z)
def y16k : CCode :=
  (.seq (.region [
 kO 103 (.bin .eql 11 (ci 16)),
 kO 102 (.mv 103)])
 y17y)
def yym : CCode :=
  (.cond 99
 (.seq (.region [
  kO 101 (.build [(.int .i64 0), (.int .i64 0), (.int .i64 0), (.int .i64 0)] [(0, 1, (ci 1)), (1, 1, (ci 3)), (2, 1, (ci (-1))), (3, 1, (ci (-1)))]),
  kU (.st 4 2 101),
  kO 3 (.mv (.c (.bool true)))])
  .ret)
 y16k)
def y15p : CCode :=
  (.seq (.region [
 kO 100 (.bin .eql 11 (ci 15)),
 kO 99 (.mv 100)])
 yym)
def y18c : CCode :=
  (.cond 96
 (.seq (.region [
  kO 98 (.build [(.int .i64 0), (.int .i64 0), (.int .i64 0), (.int .i64 0)] [(0, 1, (ci (-1))), (1, 1, (ci 3)), (2, 1, (ci 1)), (3, 1, (ci 0))]),
  kU (.st 4 2 98),
  kO 3 (.mv (.c (.bool true)))])
  .ret)
 y15p)
def y13q : CCode :=
  (.seq (.region [
 kO 97 (.bin .eql 11 (ci 14)),
 kO 96 (.mv 97)])
 y18c)
def y0i : CCode :=
  (.cond 93
 (.seq (.region [
  kO 95 (.build [(.int .i64 0), (.int .i64 0), (.int .i64 0), (.int .i64 0)] [(0, 1, (ci 0)), (1, 1, (ci 3)), (2, 1, (ci 1)), (3, 1, (ci (-1)))]),
  kU (.st 4 2 95),
  kO 3 (.mv (.c (.bool true)))])
  .ret)
 y13q)
def yzb : CCode :=
  (.seq (.region [
 kO 94 (.bin .eql 11 (ci 13)),
 kO 93 (.mv 94)])
 y0i)
def y18n : CCode :=
  (.cond 90
 (.seq (.region [
  kO 92 (.build [(.int .i64 0), (.int .i64 0), (.int .i64 0), (.int .i64 0)] [(0, 1, (ci (-1))), (1, 1, (ci 3)), (2, 1, (ci 3)), (3, 1, (ci (-1)))]),
  kU (.st 4 2 92),
  kO 3 (.mv (.c (.bool true)))])
  .ret)
 yzb)
def y12q : CCode :=
  (.seq (.region [
 kO 91 (.bin .eql 11 (ci 11)),
 kO 90 (.mv 91)])
 y18n)
def y11y : CCode :=
  (.cond 87
 (.seq (.region [
  kO 89 (.build [(.int .i64 0), (.int .i64 0), (.int .i64 0), (.int .i64 0)] [(0, 1, (ci (-1))), (1, 1, (ci 1)), (2, 1, (ci (-1))), (3, 1, (ci (-1)))]),
  kU (.st 4 2 89),
  kO 3 (.mv (.c (.bool true)))])
  .ret)
 y12q)
def yy0 : CCode :=
  (.seq (.region [
 kO 88 (.bin .eql 11 (ci 10)),
 kO 87 (.mv 88)])
 y11y)
def y144 : CCode :=
  (.cond 84
 (.seq (.region [
  kO 86 (.build [(.int .i64 0), (.int .i64 0), (.int .i64 0), (.int .i64 0)] [(0, 1, (ci (-1))), (1, 1, (ci 3)), (2, 1, (ci 1)), (3, 1, (ci (-1)))]),
  kU (.st 4 2 86),
  kO 3 (.mv (.c (.bool true)))])
  .ret)
 yy0)
def y16y : CCode :=
  (.seq (.region [
 kO 85 (.bin .eql 11 (ci 9)),
 kO 84 (.mv 85)])
 y144)
def y0o : CCode :=
  (.cond 78
 (.seq (.region [
  kO 80 (.build [(.int .i64 0), (.int .i64 0), (.int .i64 0), (.int .i64 0)] [(0, 1, (ci 1)), (1, 1, (ci 3)), (2, 1, (ci (-1))), (3, 1, (ci (-1)))]),
  kO 81 (.fa 7 1),
  kO 82 (.ld false 1 81),
  kO 83 (.call none true 37 [82]),
  kU (.st 4 2 80),
  kO 3 (.mv 83)])
  .ret)
 y16y)
def y151 : CCode :=
  (.seq (.region [
 kO 79 (.bin .eql 11 (ci 22)),
 kO 78 (.mv 79)])
 y0o)
def y124 : CCode :=
  (.cond 72
 (.seq (.region [
  kO 74 (.build [(.int .i64 0), (.int .i64 0), (.int .i64 0), (.int .i64 0)] [(0, 1, (ci (-1))), (1, 1, (ci 3)), (2, 1, (ci (-1))), (3, 1, (ci (-1)))]),
  kO 75 (.fa 7 1),
  kO 76 (.ld false 1 75),
  kO 77 (.call none true 37 [76]),
  kU (.st 4 2 74),
  kO 3 (.mv 77)])
  .ret)
 y151)
def y11b : CCode :=
  (.seq (.region [
 kO 73 (.bin .eql 11 (ci 12)),
 kO 72 (.mv 73)])
 y124)
def y117 : CCode :=
  (.cond 68
 (.seq (.region [
  kO 71 (.build [(.int .i64 0), (.int .i64 0), (.int .i64 0), (.int .i64 0)] [(0, 1, (ci (-1))), (1, 1, (ci 3)), (2, 1, (ci (-1))), (3, 1, (ci (-1)))]),
  kU (.st 4 2 71),
  kO 3 (.mv (.c (.bool true)))])
  .ret)
 y11b)
def y15y : CCode :=
  (.seq (.seq (.region [
 kO 69 (.bin .eql 11 (ci 8)),
 kO 68 (.mv 69)])
 (.cond 68
 .skip
 (.region [
  kO 70 (.bin .eql 11 (ci 31)),
  kO 68 (.mv 70)])))
 y117)
def y189 : CCode :=
  (.cond 65
 (.seq (.region [
  kO 67 (.build [(.int .i64 0), (.int .i64 0), (.int .i64 0), (.int .i64 0)] [(0, 1, (ci (-1))), (1, 1, (ci 0)), (2, 1, (ci (-1))), (3, 1, (ci (-1)))]),
  kU (.st 4 2 67),
  kO 3 (.mv (.c (.bool true)))])
  .ret)
 y15y)
def y12b : CCode :=
  (.seq (.region [
 kO 66 (.bin .eql 11 (ci 7)),
 kO 65 (.mv 66)])
 y189)
def y16r : CCode :=
  (.cond 47
 (.seq (.region [
  kO 50 (.fa 5 1),
  kO 51 (.ld false 1 50),
  kO 52 (.call none true 50 [51]),
  kO 49 (.mv 52),
  kO 53 (.ext 0 49),
  kO 54 (.ext 1 49),
  kO 55 (.ext 2 49),
  kO 7 (.mv 53),
  kO 8 (.mv 54),
  kO 9 (.mv 55)])
  (.seq (.region [
  kO 56 (.mv 9),
  kO 57 (.mv 7),
  kO 58 (.build [(.int .i64 0), (.int .i64 0), (.int .i64 0), (.int .i64 0)] [(0, 1, 56), (1, 1, 57), (2, 1, (ci (-1))), (3, 1, (ci (-1)))]),
  kO 59 (.mv 7),
  kO 60 (.bin .neq 59 (ci 0)),
  kO 61 (.mv 60),
  kG 62 (.mv 8) 61 true,
  kG 63 (.bin .eql 62 (ci 0)) 61 true,
  kO 64 (.pick 61 63 (.c (.bool false))),
  kU (.st 4 2 58),
  kO 3 (.mv 64)])
  .ret))
 y12b)
def yzi : CCode :=
  (.seq (.region [
 kO 48 (.bin .eql 11 (ci 6)),
 kO 47 (.mv 48)])
 y16r)
def y11t : CCode :=
  (.cond 25
 (.seq (.region [
  kO 28 (.fa 5 1),
  kO 29 (.ld false 1 28),
  kO 30 (.call none true 50 [29]),
  kO 27 (.mv 30),
  kO 31 (.ext 0 27),
  kO 32 (.ext 1 27),
  kO 33 (.ext 2 27),
  kO 4 (.mv 31),
  kO 5 (.mv 32),
  kO 6 (.mv 33)])
  (.seq (.region [
  kO 34 (.mv 6),
  kO 35 (.mv 4),
  kO 36 (.mv 5),
  kO 37 (.build [(.int .i64 0), (.int .i64 0), (.int .i64 0), (.int .i64 0)] [(0, 1, 34), (1, 1, 35), (2, 1, 36), (3, 1, (ci (-1)))]),
  kO 38 (.fa 5 1),
  kO 39 (.ld false 1 38),
  kO 40 (.fa 5 1),
  kO 41 (.ld false 1 40),
  kO 42 (.bin .eql 39 41),
  kO 43 (.mv 42),
  kG 44 (.mv 5) 43 true,
  kG 45 (.bin .neq 44 (ci 0)) 43 true,
  kO 46 (.pick 43 45 (.c (.bool false))),
  kU (.st 4 2 37),
  kO 3 (.mv 46)])
  .ret))
 yzi)
def y190 : CCode :=
  (.seq (.region [
 kO 26 (.bin .eql 11 (ci 5)),
 kO 25 (.mv 26)])
 y11t)
def y18r : CCode :=
  (.cond 22
 (.seq (.region [
  kO 24 (.build [(.int .i64 0), (.int .i64 0), (.int .i64 0), (.int .i64 0)] [(0, 1, (ci 0)), (1, 1, (ci 0)), (2, 1, (ci (-1))), (3, 1, (ci (-1)))]),
  kU (.st 4 2 24),
  kO 3 (.mv (.c (.bool true)))])
  .ret)
 y190)
def y14f : CCode :=
  (.seq (.region [
 kO 23 (.bin .eql 11 (ci 4)),
 kO 22 (.mv 23)])
 y18r)
def y11a : CCode :=
  (.cond 16
 (.seq (.region [
  kO 21 (.build [(.int .i64 0), (.int .i64 0), (.int .i64 0), (.int .i64 0)] [(0, 1, (ci 3)), (1, 1, (ci (-1))), (2, 1, (ci (-1))), (3, 1, (ci (-1)))]),
  kU (.st 4 2 21),
  kO 3 (.mv (.c (.bool true)))])
  .ret)
 y14f)
def yzm : CCode :=
  (.seq (.seq (.region [
 kO 17 (.bin .eql 11 (ci 2)),
 kO 16 (.mv 17)])
 (.cond 16
 .skip
 (.seq (.region [
  kO 18 (.bin .eql 11 (ci 3)),
  kO 16 (.mv 18)])
  (.cond 16
  .skip
  (.seq (.region [
   kO 19 (.bin .eql 11 (ci 20)),
   kO 16 (.mv 19)])
   (.cond 16
   .skip
   (.region [
    kO 20 (.bin .eql 11 (ci 32)),
    kO 16 (.mv 20)])))))))
 y11a)
def y19a : CCode :=
  (.cond 12
 (.seq (.region [
  kO 15 (.build [(.int .i64 0), (.int .i64 0), (.int .i64 0), (.int .i64 0)] [(0, 1, (ci 0)), (1, 1, (ci (-1))), (2, 1, (ci (-1))), (3, 1, (ci (-1)))]),
  kU (.st 4 2 15),
  kO 3 (.mv (.c (.bool true)))])
  .ret)
 yzm)
def yzs : CCode :=
  (.seq (.seq (.region [
 kO 13 (.bin .eql 11 (ci 1)),
 kO 12 (.mv 13)])
 (.cond 12
 .skip
 (.region [
  kO 14 (.bin .eql 11 (ci 18)),
  kO 12 (.mv 14)])))
 y19a)
def y128 : CCode :=
  (.block 0 yzs)
def y14t : CCode :=
  (.seq (.region [
 kO 10 (.fa 0 1),
 kO 11 (.ld false 1 10)])
 y128)
def y09 : CCode :=
  (.seq y14t
 y1xc)
def y121 : CCode :=
  (.seq (.region [
 kO 1 (.box (some 0) 0),
 kO 2 (.new (some 1) [(.int .i64 0), (.int .i64 0), (.int .i64 0), (.int .i64 0)]),
 kO 3 (.mv (.c (.bool false)))])
 y09)
def y2lk : CFunc :=
  ⟨1, true, 2, y121, [.cell 2 true 4, .t 3]⟩
def y1mf : CCode :=
  (.seq (.region [
 kO 33 (.mv 5),
 kO 4 (.mv 33)])
 .ret)
def y1sr : CCode :=
  (.region [
 kO 32 (.bin .add 10 (ci 1)),
 kO 10 (.mv 32)])
def y1hz : CCode :=
  (.seq (.block 1 (.seq (.region [
 kO 12 (.mv 10),
 kO 13 (.ixs 1 8 10),
 kO 14 (.ld false 1 13),
 kO 6 (.mv 12),
 kO 7 (.mv 14)])
 (.seq (.region [
 kO 15 (.mv 5),
 kO 16 (.mv 15),
 kG 17 (.mv 7) 16 false,
 kG 18 (.mv 0) 16 false,
 kG 19 (.mv 6) 16 false,
 kG 20 (.ixs 1 18 19) 16 false,
 kG 21 (.ld false 1 20) 16 false,
 kG 22 (.bin .andNot 17 21) 16 false,
 kG 23 (.bin .neq 22 (.c (.int .u64 0))) 16 false,
 kO 24 (.pick 16 (.c (.bool true)) 23),
 kO 5 (.mv 24)])
 (.region [
 kO 25 (.mv 0),
 kO 26 (.mv 6),
 kO 27 (.ixs 1 25 26),
 kO 28 (.ld false 1 27),
 kO 29 (.mv 7),
 kO 30 (.bin .or 28 29),
 kO 31 (.ixs 1 25 26),
 kU (.st 1 31 30)]))))
 y1sr)
def y1eh : CCode :=
  (.seq (.cond 11
 .skip
 (.exit 0))
 y1hz)
def y1l4 : CCode :=
  (.seq (.region [
 kO 11 (.bin .lss 10 9)])
 y1eh)
def yq0 : CCode :=
  (.loop [0, 5, 8, 9, 10] y1l4)
def y1ju : CCode :=
  (.block 0 yq0)
def y1uy : CCode :=
  (.seq (.region [
 kO 8 (.mv 1),
 kO 9 (.len 1 8),
 kO 10 (.mv (ci 0))])
 y1ju)
def y1y2 : CCode :=
  (.seq y1uy
 y1mf)
def y178 : CCode :=
  (.seq (.region [
 kO 5 (.mv (.c (.bool false)))])
 y1y2)
def y12o : CCode :=
  (.seq (.region [
 kO 4 (.mv (.c (.bool false)))])
 y178)
def y2l6 : CFunc :=
  ⟨2, false, 0, y12o, [.t 4]⟩
def y1oi : CCode :=
  (.draw [
 kO 4 (.mv 0),
 kO 5 (.mv 1),
 kO 6 (.bin .quo 5 (ci 64)),
 kO 7 (.ixs 1 4 6),
 kO 8 (.ld false 1 7),
 kO 9 (.mv 1),
 kO 10 (.bin .rem 9 (ci 64)),
 kO 11 (.bin .shl (.c (.int .u64 1)) 10),
 kO 12 (.bin .andNot 8 11),
 kO 13 (.ixs 1 4 6),
 kU (.st 1 13 12)] [])
def y2kh : CFunc :=
  ⟨2, false, 0, y1oi, []⟩
def y1mc : CCode :=
  (.draw [
 kO 4 (.mv 0),
 kO 5 (.mv 1),
 kO 6 (.bin .quo 5 (ci 64)),
 kO 7 (.ixs 1 4 6),
 kO 8 (.ld false 1 7),
 kO 9 (.mv 1),
 kO 10 (.bin .rem 9 (ci 64)),
 kO 11 (.bin .shl (.c (.int .u64 1)) 10),
 kO 12 (.bin .or 8 11),
 kO 13 (.ixs 1 4 6),
 kU (.st 1 13 12)] [])
def y2nh : CFunc :=
  ⟨2, false, 0, y1mc, []⟩
def y1wi : CCode :=
  (.seq (.region [
 kO 8 (.mv (.c (.bool false)))])
 (.seq (.region [
 kO 9 (.mv 0),
 kO 10 (.eqn 0 true 9 (.c .nilp)),
 kO 11 (.mv 10),
 kG 12 (.mv 2) 11 true,
 kG 13 (.bin .geq 12 (ci 0)) 11 true,
 kO 14 (.pick 11 13 (.c (.bool false))),
 kO 15 (.mv 14),
 kG 16 (.mv 2) 15 true,
 kG 17 (.mv 1) 15 true,
 kG 18 (.len 1 17) 15 true,
 kG 19 (.bin .lss 16 18) 15 true,
 kO 20 (.pick 15 19 (.c (.bool false))),
 kO 21 (.mv 20),
 kG 22 (.mv 3) 21 true,
 kG 23 (.bin .geq 22 (ci 0)) 21 true,
 kO 24 (.pick 21 23 (.c (.bool false))),
 kO 25 (.mv 24),
 kG 26 (.mv 3) 25 true,
 kG 27 (.mv 0) 25 true,
 kG 28 (.nilchk 27) 25 true,
 kG 29 (.fa 3 28) 25 true,
 kG 30 (.ld false 1 29) 25 true,
 kG 31 (.bin .lss 26 30) 25 true,
 kO 32 (.pick 25 31 (.c (.bool false))),
 kO 33 (.mv 32),
 kG 34 (.mv 1) 33 true,
 kG 35 (.mv 2) 33 true,
 kG 36 (.ixs 1 34 35) 33 true,
 kG 37 (.ld false 1 36) 33 true,
 kG 38 (.mv 3) 33 true,
 kG 39 (.call none true 83 [37, 38]) 33 true,
 kO 40 (.pick 33 39 (.c (.bool false))),
 kO 8 (.mv 40)])
 .ret))
def y2nx : CFunc :=
  ⟨4, true, 0, y1wi, [.t 8]⟩
def y1gc : CCode :=
  (.seq (.region [
 kO 1 (.box (some 0) 0),
 kO 2 (.mv (.c (.bool false)))])
 (.seq (.region [
 kO 3 (.fa 0 1),
 kO 4 (.ld false 1 3),
 kO 5 (.bin .geq 4 (ci 7)),
 kO 6 (.mv 5),
 kG 7 (.fa 0 1) 6 true,
 kG 8 (.ld false 1 7) 6 true,
 kG 9 (.bin .leq 8 (ci 12)) 6 true,
 kO 10 (.pick 6 9 (.c (.bool false))),
 kO 11 (.mv 10),
 kG 12 (.fa 0 1) 11 false,
 kG 13 (.ld false 1 12) 11 false,
 kG 14 (.bin .eql 13 (ci 20)) 11 false,
 kO 15 (.pick 11 (.c (.bool true)) 14),
 kO 16 (.mv 15),
 kG 17 (.fa 0 1) 16 false,
 kG 18 (.ld false 1 17) 16 false,
 kG 19 (.bin .eql 18 (ci 21)) 16 false,
 kO 20 (.pick 16 (.c (.bool true)) 19),
 kO 21 (.mv 20),
 kG 22 (.fa 0 1) 21 false,
 kG 23 (.ld false 1 22) 21 false,
 kG 24 (.bin .eql 23 (ci 31)) 21 false,
 kO 25 (.pick 21 (.c (.bool true)) 24),
 kO 26 (.mv 25),
 kG 27 (.ld true 9 1) 26 false,
 kG 28 (.call none true 17 [27]) 26 false,
 kO 29 (.pick 26 (.c (.bool true)) 28),
 kO 2 (.mv 29)])
 .ret))
def y2je : CFunc :=
  ⟨1, true, 1, y1gc, [.t 2]⟩
def y137 : CCode :=
  (.seq (.region [
 kO 6 (.mv (.c (.bool false)))])
 .ret)
def y18m : CCode :=
  (.seq (.region [
 kO 52 (.mv 1),
 kO 53 (.ld true 5 3),
 kO 54 (.mv 8),
 kO 55 (.call none true 92 [53, 54]),
 kO 56 (.app (some 2) 1 8 52 55),
 kO 1 (.mv 56)])
 (.seq (.region [
 kO 57 (.fa 3 3),
 kO 58 (.ld false 1 57),
 kO 59 (.mv 8),
 kO 60 (.ixs 9 58 59),
 kO 61 (.ld true 9 60),
 kO 62 (.call none true 16 [61]),
 kO 63 (.mv 2),
 kO 64 (.bin .neq 62 63)])
 (.cond 64
 (.region [
  kO 65 (.mv 1),
  kO 66 (.ld true 5 3),
  kO 67 (.mv 8),
  kO 68 (.call none true 95 [66, 67]),
  kO 69 (.app (some 3) 1 8 65 68),
  kO 1 (.mv 69)])
 .skip)))
def y173 : CCode :=
  (.seq (.seq (.region [
 kO 44 (.fa 3 3),
 kO 45 (.ld false 1 44),
 kO 46 (.mv 8),
 kO 47 (.ixs 9 45 46),
 kO 48 (.ld true 9 47),
 kO 49 (.call none true 15 [48]),
 kO 50 (.mv 2),
 kO 51 (.call none true 94 [49, 50])])
 (.cond 51
 (.seq (.region [
  kO 6 (.mv (.c (.bool true)))])
  .ret)
 .skip))
 y18m)
def yyh : CCode :=
  (.seq (.region [
 kO 41 (.mv 7),
 kO 42 (.mv 8),
 kO 43 (.ixs 1 41 42),
 kU (.st 1 43 (.c (.bool true)))])
 y173)
def y15j : CCode :=
  (.seq (.seq (.region [
 kO 27 (.mv 8),
 kO 28 (.bin .lss 27 (ci 0)),
 kO 29 (.mv 28),
 kG 30 (.mv 8) 29 false,
 kG 31 (.mv 7) 29 false,
 kG 32 (.len 1 31) 29 false,
 kG 33 (.bin .geq 30 32) 29 false,
 kO 34 (.pick 29 (.c (.bool true)) 33),
 kO 35 (.mv 34),
 kG 36 (.mv 7) 35 false,
 kG 37 (.mv 8) 35 false,
 kG 38 (.ixs 1 36 37) 35 false,
 kG 39 (.ld false 1 38) 35 false,
 kO 40 (.pick 35 (.c (.bool true)) 39)])
 (.cond 40
 (.exit 1)
 .skip))
 yyh)
def y18e : CCode :=
  (.seq (.region [
 kO 22 (.mv 1),
 kO 23 (.mv 1),
 kO 24 (.len 1 23),
 kO 25 (.bin .sub 24 (ci 1)),
 kO 26 (.slc 1 22 none (some 25)),
 kO 1 (.mv 26)])
 y15j)
def y11d : CCode :=
  (.seq (.region [
 kO 16 (.mv 1),
 kO 17 (.mv 1),
 kO 18 (.len 1 17),
 kO 19 (.bin .sub 18 (ci 1)),
 kO 20 (.ixs 1 16 19),
 kO 21 (.ld false 1 20),
 kO 8 (.mv 21)])
 y18e)
def y13v : CCode :=
  (.block 1 y11d)
def yqi : CCode :=
  (.seq (.seq (.region [
 kO 13 (.mv 1),
 kO 14 (.len 1 13),
 kO 15 (.bin .gtr 14 (ci 0))])
 (.cond 15
 .skip
 (.exit 0)))
 y13v)
def yhs : CCode :=
  (.loop [1, 2, 3, 7] yqi)
def yt6 : CCode :=
  (.block 0 yhs)
def ys9 : CCode :=
  (.seq yt6
 y137)
def yrh : CCode :=
  (.seq (.region [
 kO 9 (.fa 3 3),
 kO 10 (.ld false 1 9),
 kO 11 (.len 1 10),
 kO 12 (.mkS (some 1) 1 1 [(.bool false)] 11 11),
 kO 7 (.mv 12)])
 ys9)
def yqa : CCode :=
  (.seq (.region [
 kO 3 (.box (some 0) 0),
 kO 6 (.mv (.c (.bool false)))])
 yrh)
def y27m : CFunc :=
  ⟨3, false, 4, yqa, [.t 6]⟩
def y15r : CCode :=
  (.seq (.region [
 kO 43 (.mv 6),
 kO 4 (.mv 43)])
 .ret)
def y0x : CCode :=
  (.seq (.seq (.region [
 kO 28 (.fa 0 5),
 kO 29 (.ld false 1 28),
 kO 30 (.call none true 23 [29]),
 kO 31 (.mv 30),
 kG 32 (.mv 6) 31 true,
 kG 33 (.fa 6 5) 31 true,
 kG 34 (.ld false 1 33) 31 true,
 kG 35 (.call none true 96 [32, 34]) 31 true,
 kG 36 (.un .not 35) 31 true,
 kO 37 (.pick 31 36 (.c (.bool false)))])
 (.cond 37
 (.region [
  kO 38 (.mv 6),
  kO 39 (.fa 6 5),
  kO 40 (.ld false 1 39),
  kO 41 (.buildS (some 3) 1 1 [(.int .i64 0)] [(0, 40)]),
  kO 42 (.app (some 4) 1 8 38 41),
  kO 6 (.mv 42)])
 .skip))
 y15r)
def y05 : CCode :=
  (.seq (.seq (.region [
 kO 21 (.fa 0 5),
 kO 22 (.ld false 1 21),
 kO 23 (.call none true 25 [22]),
 kO 24 (.un .not 23)])
 (.cond 24
 (.region [
  kO 25 (.mv 1),
  kO 26 (.bin .add 25 (ci 1)),
  kO 27 (.buildS (some 2) 1 1 [(.int .i64 0)] [(0, 26)]),
  kO 6 (.mv 27)])
 .skip))
 y0x)
def y0v : CCode :=
  (.seq (.region [
 kO 6 (.mv (.c .nils))])
 y05)
def y14s : CCode :=
  (.seq (.region [
 kO 16 (.fa 3 2),
 kO 17 (.ld false 1 16),
 kO 18 (.mv 1),
 kO 19 (.ixs 9 17 18),
 kO 20 (.ld true 9 19),
 kO 5 (.new (some 1) [(.int .i64 0), (.int .i64 0), (.int .i64 0), (.int .i64 0), (.int .i64 0), (.int .i64 0), (.int .i64 0), (.str []), .nils]),
 kU (.st 9 5 20)])
 y0v)
def y170 : CCode :=
  (.seq (.seq (.region [
 kO 7 (.mv 1),
 kO 8 (.bin .lss 7 (ci 0)),
 kO 9 (.mv 8),
 kG 10 (.mv 1) 9 false,
 kG 11 (.fa 3 2) 9 false,
 kG 12 (.ld false 1 11) 9 false,
 kG 13 (.len 1 12) 9 false,
 kG 14 (.bin .geq 10 13) 9 false,
 kO 15 (.pick 9 (.c (.bool true)) 14)])
 (.cond 15
 (.seq (.region [
  kO 4 (.mv (.c .nils))])
  .ret)
 .skip))
 y14s)
def y187 : CCode :=
  (.seq (.region [
 kO 2 (.box (some 0) 0),
 kO 4 (.mv (.c .nils))])
 y170)
def y270 : CFunc :=
  ⟨2, true, 5, y187, [.t 4]⟩
def y115 : CCode :=
  (.seq (.region [
 kO 14 (.fa 1 1),
 kO 15 (.ld false 1 14),
 kO 2 (.mv 15)])
 .ret)
def y17a : CCode :=
  (.seq (.seq (.region [
 kO 7 (.mv 3),
 kO 8 (.bin .eql 7 (.c (.str []))),
 kO 9 (.mv 8),
 kG 10 (.mv 3) 9 false,
 kG 11 (.ixstr 10 (ci 0)) 9 false,
 kG 12 (.bin .eql 11 (.c (.int .u8 45))) 9 false,
 kO 13 (.pick 9 (.c (.bool true)) 12)])
 (.cond 13
 (.seq (.region [
  kO 2 (.mv (ci (-1)))])
  .ret)
 .skip))
 y115)
def y11x : CCode :=
  (.seq (.region [
 kO 4 (.fa 0 1),
 kO 5 (.ld false 1 4),
 kO 6 (.call none true 38 [5]),
 kO 3 (.mv 6)])
 y17a)
def y14c : CCode :=
  (.seq (.region [
 kO 1 (.box (some 0) 0),
 kO 2 (.mv (ci 0))])
 y11x)
def y267 : CFunc :=
  ⟨1, true, 1, y14c, [.t 2]⟩
def yyl : CCode :=
  (.seq (.region [
 kO 13 (.mv 3),
 kO 14 (.mv 0),
 kO 15 (.ixs 1 13 14),
 kO 16 (.ld false 1 15),
 kO 2 (.mv 16)])
 .ret)
def y168 : CCode :=
  (.seq (.seq (.region [
 kO 5 (.mv 0),
 kO 6 (.bin .lss 5 (ci 1)),
 kO 7 (.mv 6),
 kG 8 (.mv 0) 7 false,
 kG 9 (.mv 3) 7 false,
 kG 10 (.len 1 9) 7 false,
 kG 11 (.bin .geq 8 10) 7 false,
 kO 12 (.pick 7 (.c (.bool true)) 11)])
 (.cond 12
 (.seq (.region [
  kO 2 (.mv (.c (.str [])))])
  .ret)
 .skip))
 yyl)
def y14g : CCode :=
  (.seq (.region [
 kO 4 (.buildS (some 0) 1 34 [(.str [])] [(0, (.c (.str []))), (1, (.c (.str [110, 45, 45, 45]))), (2, (.c (.str [51, 45, 45, 45]))), (3, (.c (.str [51, 45, 45, 45]))), (4, (.c (.str [42, 61, 45, 45]))), (5, (.c (.str [63, 63, 63, 63]))), (6, (.c (.str [63, 63, 63, 63]))), (7, (.c (.str [45, 110, 45, 45]))), (8, (.c (.str [45, 51, 45, 45]))), (9, (.c (.str [45, 51, 49, 45]))), (10, (.c (.str [45, 49, 45, 45]))), (11, (.c (.str [45, 51, 51, 45]))), (12, (.c (.str [45, 51, 45, 45]))), (13, (.c (.str [42, 51, 49, 45]))), (14, (.c (.str [45, 51, 49, 42]))), (15, (.c (.str [49, 51, 45, 45]))), (16, (.c (.str [42, 51, 45, 45]))), (17, (.c (.str [45, 51, 42, 45]))), (18, (.c (.str [42, 45, 45, 45]))), (19, (.c (.str [45, 42, 45, 45]))), (20, (.c (.str [51, 45, 45, 45]))), (21, (.c (.str [51, 49, 45, 45]))), (22, (.c (.str [49, 51, 45, 45]))), (23, (.c (.str [63, 63, 63, 63]))), (24, (.c (.str [63, 63, 63, 63]))), (25, (.c (.str [63, 63, 63, 63]))), (26, (.c (.str [63, 63, 63, 63]))), (27, (.c (.str [45, 45, 45, 45]))), (28, (.c (.str [45, 49, 49, 45]))), (29, (.c (.str [45, 51, 63, 45]))), (30, (.c (.str [45, 63, 45, 45]))), (31, (.c (.str [45, 51, 45, 45]))), (32, (.c (.str [51, 45, 45, 45]))), (33, (.c (.str [45, 45, 45, 45])))]),
 kO 3 (.mv 4)])
 y168)
def y18d : CCode :=
  (.seq (.region [
 kO 2 (.mv (.c (.str [])))])
 y14g)
def y289 : CFunc :=
  ⟨1, true, 1, y18d, [.t 2]⟩
def yz9 : CCode :=
  (.seq (.region [
 kO 28 (.mv 7),
 kO 29 (.mv 2),
 kO 30 (.bin .sub 29 (.c (.int .u8 48))),
 kO 31 (.cvi .i64 30),
 kO 32 (.bin .eql 28 31),
 kO 6 (.mv 32)])
 .ret)
def y0s : CCode :=
  (.cond 15
 (.seq (.region [
  kO 18 (.mv 7),
  kO 19 (.bin .gtr 18 (ci 0)),
  kO 6 (.mv 19)])
  .ret)
 (.seq (.region [
  kO 21 (.bin .eql 11 (.c (.int .u8 110))),
  kO 20 (.mv 21)])
  (.cond 20
  (.seq (.region [
   kO 22 (.mv 7),
   kO 23 (.bin .eql 22 (ci 1)),
   kO 24 (.mv 23),
   kG 25 (.mv 7) 24 false,
   kG 26 (.bin .eql 25 (ci 2)) 24 false,
   kO 27 (.pick 24 (.c (.bool true)) 26),
   kO 6 (.mv 27)])
   .ret)
  .skip)))
def yzl : CCode :=
  (.seq (.seq (.region [
 kO 16 (.bin .eql 11 (.c (.int .u8 42))),
 kO 15 (.mv 16)])
 (.cond 15
 .skip
 (.region [
  kO 17 (.bin .eql 11 (.c (.int .u8 61))),
  kO 15 (.mv 17)])))
 y0s)
def y160 : CCode :=
  (.cond 12
 (.seq (.region [
  kO 6 (.mv (.c (.bool true)))])
  .ret)
 yzl)
def y11p : CCode :=
  (.seq (.seq (.region [
 kO 13 (.bin .eql 11 (.c (.int .u8 45))),
 kO 12 (.mv 13)])
 (.cond 12
 .skip
 (.region [
  kO 14 (.bin .eql 11 (.c (.int .u8 63))),
  kO 12 (.mv 14)])))
 y160)
def y17u : CCode :=
  (.block 0 y11p)
def y15w : CCode :=
  (.seq (.region [
 kO 11 (.mv 2)])
 y17u)
def y11c : CCode :=
  (.seq y15w
 yz9)
def y18j : CCode :=
  (.seq (.region [
 kO 8 (.ld true 5 3),
 kO 9 (.mv 1),
 kO 10 (.call none true 48 [8, 9]),
 kO 7 (.mv 10)])
 y11c)
def yub : CCode :=
  (.seq (.region [
 kO 3 (.box (some 0) 0),
 kO 6 (.mv (.c (.bool false)))])
 y18j)
def y27w : CFunc :=
  ⟨3, true, 1, yub, [.t 6]⟩
def y1og : CCode :=
  (.seq (.region [
 kO 2 (.mv (ci 0)),
 kO 3 (.mv (ci 0)),
 kO 4 (.mv (ci 0))])
 .ret)
def y1tl : CCode :=
  (.seq (.block 0 (.seq (.region [
 kO 26 (.mv 5),
 kO 27 (.mv 26),
 kG 28 (.mv 0) 27 true,
 kG 29 (.bin .rem 28 (ci 2)) 27 true,
 kG 30 (.bin .eql 29 (ci 0)) 27 true,
 kO 31 (.pick 27 30 (.c (.bool false))),
 kO 25 (.mv 31)])
 (.cond 25
 (.seq (.region [
  kO 2 (.mv (ci 1)),
  kO 3 (.mv (ci 1)),
  kO 4 (.mv (ci 1))])
  .ret)
 (.seq (.region [
  kO 33 (.mv 0),
  kO 34 (.bin .eql 33 (ci 121)),
  kO 35 (.mv 34),
  kG 36 (.mv 0) 35 false,
  kG 37 (.bin .eql 36 (ci 123)) 35 false,
  kO 38 (.pick 35 (.c (.bool true)) 37),
  kO 39 (.mv 38),
  kG 40 (.mv 0) 39 false,
  kG 41 (.bin .eql 40 (ci 125)) 39 false,
  kO 42 (.pick 39 (.c (.bool true)) 41),
  kO 32 (.mv 42)])
  (.cond 32
  (.seq (.region [
   kO 2 (.mv (ci 2)),
   kO 3 (.mv (ci 1)),
   kO 4 (.mv (ci 2))])
   .ret)
  (.seq (.region [
   kO 44 (.mv 5),
   kO 43 (.mv 44)])
   (.cond 43
   (.seq (.region [
    kO 2 (.mv (ci 2)),
    kO 3 (.mv (ci 2)),
    kO 4 (.mv (ci 2))])
    .ret)
   (.seq (.region [
    kO 46 (.mv 0),
    kO 47 (.bin .eql 46 (ci 148)),
    kO 45 (.mv 47)])
    (.cond 45
    (.seq (.region [
     kO 2 (.mv (ci 2)),
     kO 3 (.mv (ci 2)),
     kO 4 (.mv (ci 1))])
     .ret)
    (.seq (.region [
     kO 49 (.mv 0),
     kO 50 (.bin .eql 49 (ci 116)),
     kO 51 (.mv 50),
     kG 52 (.mv 0) 51 false,
     kG 53 (.bin .geq 52 (ci 145)) 51 false,
     kG 54 (.mv 53) 51 false,
     kG 55 (.mv 0) 54 true,
     kG 56 (.bin .leq 55 (ci 147)) 54 true,
     kG 57 (.pick 54 56 (.c (.bool false))) 51 false,
     kO 58 (.pick 51 (.c (.bool true)) 57),
     kO 48 (.mv 58)])
     (.cond 48
     (.seq (.region [
      kO 2 (.mv (ci 1)),
      kO 3 (.mv (ci 0)),
      kO 4 (.mv (ci 1))])
      .ret)
     (.seq (.region [
      kO 60 (.mv 0),
      kO 61 (.bin .eql 60 (ci 117)),
      kO 59 (.mv 61)])
      (.cond 59
      (.seq (.region [
       kO 2 (.mv (ci 2)),
       kO 3 (.mv (ci 0)),
       kO 4 (.mv (ci 2))])
       .ret)
      (.seq (.region [
       kO 63 (.mv 0),
       kO 64 (.bin .eql 63 (ci 133)),
       kO 62 (.mv 64)])
       (.cond 62
       (.seq (.region [
        kO 2 (.mv (ci 1)),
        kO 3 (.mv (ci 0)),
        kO 4 (.mv (ci 2))])
        .ret)
       (.seq (.region [
        kO 66 (.mv 0),
        kO 67 (.bin .eql 66 (ci 136)),
        kO 65 (.mv 67)])
        (.cond 65
        (.seq (.region [
         kO 2 (.mv (ci 2)),
         kO 3 (.mv (ci 0)),
         kO 4 (.mv (ci 1))])
         .ret)
        .skip)))))))))))))))))
 y1og)
def y1ek : CCode :=
  (.seq (.region [
 kO 6 (.mv 0),
 kO 7 (.bin .geq 6 (ci 96)),
 kO 8 (.mv 7),
 kG 9 (.mv 0) 8 true,
 kG 10 (.bin .leq 9 (ci 113)) 8 true,
 kO 11 (.pick 8 10 (.c (.bool false))),
 kO 12 (.mv 11),
 kG 13 (.mv 0) 12 true,
 kG 14 (.bin .rem 13 (ci 4)) 12 true,
 kG 15 (.bin .lss 14 (ci 2)) 12 true,
 kO 16 (.pick 12 15 (.c (.bool false))),
 kO 17 (.mv 16),
 kG 18 (.mv 0) 17 false,
 kG 19 (.bin .geq 18 (ci 120)) 17 false,
 kG 20 (.mv 19) 17 false,
 kG 21 (.mv 0) 20 true,
 kG 22 (.bin .leq 21 (ci 131)) 20 true,
 kG 23 (.pick 20 22 (.c (.bool false))) 17 false,
 kO 24 (.pick 17 (.c (.bool true)) 23),
 kO 5 (.mv 24)])
 y1tl)
def y1xg : CCode :=
  (.seq (.region [
 kO 2 (.mv (ci 0)),
 kO 3 (.mv (ci 0)),
 kO 4 (.mv (ci 0))])
 y1ek)
def y2o7 : CFunc :=
  ⟨1, true, 0, y1xg, [.t 2, .t 3, .t 4]⟩
def y157 : CCode :=
  (.seq (.region [
 kO 27 (.mv 0),
 kO 28 (.len 0 27),
 kO 29 (.bin .gtr 28 (ci 2)),
 kO 30 (.mv 29),
 kG 31 (.mv 0) 30 true,
 kG 32 (.ixstr 31 (ci 0)) 30 true,
 kG 33 (.bin .eql 32 (.c (.int .u8 76))) 30 true,
 kO 34 (.pick 30 33 (.c (.bool false))),
 kO 35 (.mv 34),
 kG 36 (.mv 0) 35 true,
 kG 37 (.mv 0) 35 true,
 kG 38 (.len 0 37) 35 true,
 kG 39 (.bin .sub 38 (ci 1)) 35 true,
 kG 40 (.ixstr 36 39) 35 true,
 kG 41 (.bin .eql 40 (.c (.int .u8 59))) 35 true,
 kO 42 (.pick 35 41 (.c (.bool false))),
 kO 43 (.mv 42),
 kG 44 (.mv 0) 43 true,
 kG 45 (.mv 0) 43 true,
 kG 46 (.len 0 45) 43 true,
 kG 47 (.bin .sub 46 (ci 1)) 43 true,
 kG 48 (.sls 44 (some (ci 1)) (some 47)) 43 true,
 kG 49 (.call none true 69 [48, (.c (.bool false))]) 43 true,
 kO 50 (.pick 43 49 (.c (.bool false))),
 kO 2 (.mv 50)])
 .ret)
def y11f : CCode :=
  (.seq (.seq (.region [
 kO 21 (.mv 0),
 kO 22 (.bin .eql 21 (.c (.str [73]))),
 kO 23 (.mv 22),
 kG 24 (.mv 0) 23 false,
 kG 25 (.bin .eql 24 (.c (.str [74]))) 23 false,
 kO 26 (.pick 23 (.c (.bool true)) 25)])
 (.cond 26
 (.seq (.region [
  kO 2 (.mv (.c (.bool true)))])
  .ret)
 .skip))
 y157)
def y19j : CCode :=
  (.seq (.seq (.region [
 kO 19 (.mv 3),
 kO 20 (.bin .gtr 19 (ci 8))])
 (.cond 20
 (.seq (.region [
  kO 2 (.mv (.c (.bool false)))])
  .ret)
 .skip))
 y11f)
def y13n : CCode :=
  (.seq (.region [
 kO 16 (.mv 0),
 kO 17 (.mv 3),
 kO 18 (.sls 16 (some 17) none),
 kO 0 (.mv 18)])
 y19j)
def y19t : CCode :=
  (.block 1 (.region [
 kO 14 (.mv 3),
 kO 15 (.bin .add 14 (ci 1)),
 kO 3 (.mv 15)]))
def y0q : CCode :=
  (.seq (.seq (.region [
 kO 4 (.mv 3),
 kO 5 (.mv 0),
 kO 6 (.len 0 5),
 kO 7 (.bin .lss 4 6),
 kO 8 (.mv 7),
 kG 9 (.mv 0) 8 true,
 kG 10 (.mv 3) 8 true,
 kG 11 (.ixstr 9 10) 8 true,
 kG 12 (.bin .eql 11 (.c (.int .u8 91))) 8 true,
 kO 13 (.pick 8 12 (.c (.bool false)))])
 (.cond 13
 .skip
 (.exit 0)))
 y19t)
def yih : CCode :=
  (.loop [0, 3] y0q)
def y14v : CCode :=
  (.block 0 yih)
def y138 : CCode :=
  (.seq y14v
 y13n)
def yt5 : CCode :=
  (.seq (.region [
 kO 3 (.mv (ci 0))])
 y138)
def ytf : CCode :=
  (.seq (.region [
 kO 2 (.mv (.c (.bool false)))])
 yt5)
def y27l : CFunc :=
  ⟨1, true, 0, ytf, [.t 2]⟩
def y16n : CCode :=
  (.seq (.draw [
 kO 47 (.fa 0 3),
 kO 48 (.ld false 1 47),
 kO 49 (.bin .neq 48 (ci 24)),
 kO 50 (.mv 49),
 kG 51 (.fa 0 3) 50 true,
 kG 52 (.ld false 1 51) 50 true,
 kG 53 (.bin .neq 52 (ci 25)) 50 true,
 kO 54 (.pick 50 53 (.c (.bool false))),
 kO 55 (.mv 54),
 kG 56 (.fa 8 3) 55 false,
 kG 57 (.ld false 1 56) 55 false,
 kG 58 (.len 1 57) 55 false,
 kG 59 (.bin .gtr 58 (ci 0)) 55 false,
 kG 60 (.mv 59) 55 false,
 kG 61 (.ld true 5 2) 60 true,
 kG 62 (.fa 8 3) 60 true,
 kG 63 (.ld false 1 62) 60 true,
 kG 64 (.ixs 1 63 (ci 0)) 60 true,
 kG 65 (.ld false 1 64) 60 true,
 kG 66 (.call none true 48 [61, 65]) 60 true,
 kG 67 (.bin .eql 66 (ci 3)) 60 true,
 kG 68 (.pick 60 67 (.c (.bool false))) 55 false,
 kO 69 (.pick 55 (.c (.bool true)) 68),
 kO 4 (.mv 69)] [])
 .ret)
def y19b : CCode :=
  (.region [
 kO 37 (.mv 5),
 kO 38 (.bin .add 37 (ci 1)),
 kO 5 (.mv 38)])
def y11k : CCode :=
  (.seq (.block 1 (.seq (.draw [
 kO 39 (.ld true 5 2),
 kO 40 (.fa 8 3),
 kO 41 (.ld false 1 40),
 kO 42 (.mv 5),
 kO 43 (.ixs 1 41 42),
 kO 44 (.ld false 1 43),
 kO 45 (.call none true 48 [39, 44]),
 kO 46 (.bin .eql 45 (ci 0))] [])
 (.cond 46
 (.seq (.region [
  kO 4 (.mv (.c (.bool false)))])
  .ret)
 .skip)))
 y19b)
def y16p : CCode :=
  (.seq (.seq (.region [
 kO 32 (.mv 5),
 kO 33 (.fa 8 3),
 kO 34 (.ld false 1 33),
 kO 35 (.len 1 34),
 kO 36 (.bin .lss 32 35)])
 (.cond 36
 .skip
 (.exit 0)))
 y11k)
def ykh : CCode :=
  (.loop [2, 3, 5] y16p)
def y0z : CCode :=
  (.block 0 ykh)
def y17m : CCode :=
  (.seq (.region [
 kO 5 (.mv (ci 0))])
 y0z)
def y14e : CCode :=
  (.seq y17m
 y16n)
def y118 : CCode :=
  (.seq (.seq (.region [
 kO 6 (.fa 5 3),
 kO 7 (.ld false 1 6),
 kO 8 (.bin .lss 7 (ci 0)),
 kO 9 (.mv 8),
 kG 10 (.fa 0 3) 9 true,
 kG 11 (.ld false 1 10) 9 true,
 kG 12 (.bin .neq 11 (ci 25)) 9 true,
 kO 13 (.pick 9 12 (.c (.bool false))),
 kO 14 (.mv 13),
 kG 15 (.fa 8 3) 14 false,
 kG 16 (.ld false 1 15) 14 false,
 kG 17 (.len 1 16) 14 false,
 kG 18 (.bin .gtr 17 (ci 21)) 14 false,
 kO 19 (.pick 14 (.c (.bool true)) 18),
 kO 20 (.mv 19),
 kG 21 (.fa 1 3) 20 false,
 kG 22 (.ld false 1 21) 20 false,
 kG 23 (.bin .neq 22 (ci (-1))) 20 false,
 kG 24 (.mv 23) 20 false,
 kG 25 (.ld true 5 2) 24 true,
 kG 26 (.fa 1 3) 24 true,
 kG 27 (.ld false 1 26) 24 true,
 kG 28 (.call none true 48 [25, 27]) 24 true,
 kG 29 (.bin .eql 28 (ci 0)) 24 true,
 kG 30 (.pick 24 29 (.c (.bool false))) 20 false,
 kO 31 (.pick 20 (.c (.bool true)) 30)])
 (.cond 31
 (.seq (.region [
  kO 4 (.mv (.c (.bool false)))])
  .ret)
 .skip))
 y14e)
def yvi : CCode :=
  (.seq (.region [
 kO 2 (.box (some 0) 0),
 kO 3 (.box (some 1) 1),
 kO 4 (.mv (.c (.bool false)))])
 y118)
def y27r : CFunc :=
  ⟨2, true, 2, yvi, [.t 4]⟩
def y1xy : CCode :=
  (.seq (.region [
 kO 2 (.mv (ci 0)),
 kO 3 (.mv (ci 0)),
 kO 4 (.mv (ci 0))])
 .ret)
def y1so : CCode :=
  (.cond 33
 (.seq (.region [
  kO 2 (.mv (ci 1)),
  kO 3 (.mv (ci 0)),
  kO 4 (.mv (ci 1))])
  .ret)
 (.seq (.region [
  kO 39 (.bin .eql 5 (ci 117)),
  kO 38 (.mv 39)])
  (.cond 38
  (.seq (.region [
   kO 2 (.mv (ci 2)),
   kO 3 (.mv (ci 0)),
   kO 4 (.mv (ci 2))])
   .ret)
  (.seq (.region [
   kO 41 (.bin .eql 5 (ci 133)),
   kO 40 (.mv 41)])
   (.cond 40
   (.seq (.region [
    kO 2 (.mv (ci 1)),
    kO 3 (.mv (ci 0)),
    kO 4 (.mv (ci 2))])
    .ret)
   (.seq (.region [
    kO 43 (.bin .eql 5 (ci 136)),
    kO 42 (.mv 43)])
    (.cond 42
    (.seq (.region [
     kO 2 (.mv (ci 2)),
     kO 3 (.mv (ci 0)),
     kO 4 (.mv (ci 1))])
     .ret)
    .skip)))))))
def y1gw : CCode :=
  (.seq (.seq (.region [
 kO 34 (.bin .eql 5 (ci 116)),
 kO 33 (.mv 34)])
 (.cond 33
 .skip
 (.seq (.region [
  kO 35 (.bin .eql 5 (ci 145)),
  kO 33 (.mv 35)])
  (.cond 33
  .skip
  (.seq (.region [
   kO 36 (.bin .eql 5 (ci 146)),
   kO 33 (.mv 36)])
   (.cond 33
   .skip
   (.region [
    kO 37 (.bin .eql 5 (ci 147)),
    kO 33 (.mv 37)])))))))
 y1so)
def y1sq : CCode :=
  (.cond 31
 (.seq (.region [
  kO 2 (.mv (ci 2)),
  kO 3 (.mv (ci 2)),
  kO 4 (.mv (ci 1))])
  .ret)
 y1gw)
def y1kv : CCode :=
  (.seq (.region [
 kO 32 (.bin .eql 5 (ci 148)),
 kO 31 (.mv 32)])
 y1sq)
def y1xp : CCode :=
  (.cond 27
 (.seq (.region [
  kO 2 (.mv (ci 2)),
  kO 3 (.mv (ci 1)),
  kO 4 (.mv (ci 2))])
  .ret)
 y1kv)
def y1pt : CCode :=
  (.seq (.seq (.region [
 kO 28 (.bin .eql 5 (ci 121)),
 kO 27 (.mv 28)])
 (.cond 27
 .skip
 (.seq (.region [
  kO 29 (.bin .eql 5 (ci 123)),
  kO 27 (.mv 29)])
  (.cond 27
  .skip
  (.region [
   kO 30 (.bin .eql 5 (ci 125)),
   kO 27 (.mv 30)])))))
 y1xp)
def y1ib : CCode :=
  (.cond 18
 (.seq (.region [
  kO 2 (.mv (ci 2)),
  kO 3 (.mv (ci 2)),
  kO 4 (.mv (ci 2))])
  .ret)
 y1pt)
def y1p7 : CCode :=
  (.seq (.seq (.region [
 kO 19 (.bin .eql 5 (ci 97)),
 kO 18 (.mv 19)])
 (.cond 18
 .skip
 (.seq (.region [
  kO 20 (.bin .eql 5 (ci 101)),
  kO 18 (.mv 20)])
  (.cond 18
  .skip
  (.seq (.region [
   kO 21 (.bin .eql 5 (ci 105)),
   kO 18 (.mv 21)])
   (.cond 18
   .skip
   (.seq (.region [
    kO 22 (.bin .eql 5 (ci 109)),
    kO 18 (.mv 22)])
    (.cond 18
    .skip
    (.seq (.region [
     kO 23 (.bin .eql 5 (ci 113)),
     kO 18 (.mv 23)])
     (.cond 18
     .skip
     (.seq (.region [
      kO 24 (.bin .eql 5 (ci 127)),
      kO 18 (.mv 24)])
      (.cond 18
      .skip
      (.seq (.region [
       kO 25 (.bin .eql 5 (ci 129)),
       kO 18 (.mv 25)])
       (.cond 18
       .skip
       (.region [
        kO 26 (.bin .eql 5 (ci 131)),
        kO 18 (.mv 26)])))))))))))))))
 y1ib)
def yz4 : CCode :=
  (.cond 6
 (.seq (.region [
  kO 2 (.mv (ci 1)),
  kO 3 (.mv (ci 1)),
  kO 4 (.mv (ci 1))])
  .ret)
 y1p7)
def y16h : CCode :=
  (.seq (.seq (.region [
 kO 7 (.bin .eql 5 (ci 96)),
 kO 6 (.mv 7)])
 (.cond 6
 .skip
 (.seq (.region [
  kO 8 (.bin .eql 5 (ci 100)),
  kO 6 (.mv 8)])
  (.cond 6
  .skip
  (.seq (.region [
   kO 9 (.bin .eql 5 (ci 104)),
   kO 6 (.mv 9)])
   (.cond 6
   .skip
   (.seq (.region [
    kO 10 (.bin .eql 5 (ci 108)),
    kO 6 (.mv 10)])
    (.cond 6
    .skip
    (.seq (.region [
     kO 11 (.bin .eql 5 (ci 112)),
     kO 6 (.mv 11)])
     (.cond 6
     .skip
     (.seq (.region [
      kO 12 (.bin .eql 5 (ci 120)),
      kO 6 (.mv 12)])
      (.cond 6
      .skip
      (.seq (.region [
       kO 13 (.bin .eql 5 (ci 122)),
       kO 6 (.mv 13)])
       (.cond 6
       .skip
       (.seq (.region [
        kO 14 (.bin .eql 5 (ci 124)),
        kO 6 (.mv 14)])
        (.cond 6
        .skip
        (.seq (.region [
         kO 15 (.bin .eql 5 (ci 126)),
         kO 6 (.mv 15)])
         (.cond 6
         .skip
         (.seq (.region [
          kO 16 (.bin .eql 5 (ci 128)),
          kO 6 (.mv 16)])
          (.cond 6
          .skip
          (.region [
           kO 17 (.bin .eql 5 (ci 130)),
           kO 6 (.mv 17)])))))))))))))))))))))
 yz4)
def y16x : CCode :=
  (.block 0 y16h)
def y12n : CCode :=
  (.seq (.region [
 kO 5 (.mv 0)])
 y16x)
def yy1 : CCode :=
  (.seq y12n
 y1xy)
def y16z : CCode :=
  (.seq (.region [
 kO 2 (.mv (ci 0)),
 kO 3 (.mv (ci 0)),
 kO 4 (.mv (ci 0))])
 yy1)
def y2jo : CFunc :=
  ⟨1, true, 0, y16z, [.t 2, .t 3, .t 4]⟩
def y26w : CCode :=
  (.seq (.region [
 kO 2 (.mv (.c (.bool false)))])
 (.seq (.region [
 kO 3 (.mv 0),
 kO 4 (.bin .neq 3 (.c (.str []))),
 kO 5 (.mv 4),
 kG 6 (.mv 0) 5 true,
 kG 7 (.call none true 44 [6]) 5 true,
 kG 8 (.mv 0) 5 true,
 kG 9 (.len 0 8) 5 true,
 kG 10 (.bin .eql 7 9) 5 true,
 kO 11 (.pick 5 10 (.c (.bool false))),
 kO 2 (.mv 11)])
 .ret))
def c_q8 : CFunc :=
  ⟨1, true, 0, y26w, [.t 2]⟩
def y1o6 : CCode :=
  (.seq (.region [
 kO 73 (.build [(.int .i64 0), (.int .i64 0), (.int .i64 0), (.int .i64 0)] []),
 kU (.st 4 2 73),
 kO 3 (.mv (.c (.bool false)))])
 .ret)
def y1of : CCode :=
  (.seq (.draw [
 kO 15 (.mv 4),
 kO 16 (.build [(.int .i64 0), (.int .i64 0), (.int .i64 0), (.int .i64 0)] [(0, 1, (ci (-1))), (1, 1, (ci 3)), (2, 1, 15), (3, 1, (ci (-1)))]),
 kO 17 (.fa 5 1),
 kO 18 (.ld false 1 17),
 kO 19 (.bin .eql 18 (ci 0)),
 kO 20 (.mv 19),
 kG 21 (.fa 5 1) 20 false,
 kG 22 (.ld false 1 21) 20 false,
 kG 23 (.bin .eql 22 (ci 1)) 20 false,
 kO 24 (.pick 20 (.c (.bool true)) 23),
 kU (.st 4 2 16),
 kO 3 (.mv 24)] [(7, 10)])
 .ret)
def y1o3 : CCode :=
  (.seq (.seq (.region [
 kO 12 (.fa 3 1),
 kO 13 (.ld false 1 12),
 kO 14 (.bin .neq 13 (ci (-1)))])
 (.cond 14
 (.region [
  kO 4 (.mv (ci 3))])
 .skip))
 y1of)
def y1rk : CCode :=
  (.seq (.region [
 kO 4 (.mv (ci (-1)))])
 y1o3)
def y1nb : CCode :=
  (.seq (.region [
 kO 30 (.mv 5),
 kO 31 (.build [(.int .i64 0), (.int .i64 0), (.int .i64 0), (.int .i64 0)] [(0, 1, (ci (-1))), (1, 1, 30), (2, 1, (ci (-1))), (3, 1, (ci (-1)))]),
 kU (.st 4 2 31),
 kO 3 (.mv (.c (.bool true)))])
 .ret)
def y1ps : CCode :=
  (.seq (.seq (.region [
 kO 27 (.fa 2 1),
 kO 28 (.ld false 1 27),
 kO 29 (.bin .neq 28 (ci (-1)))])
 (.cond 29
 (.region [
  kO 5 (.mv (ci 0))])
 .skip))
 y1nb)
def y1w5 : CCode :=
  (.seq (.region [
 kO 5 (.mv (ci (-1)))])
 y1ps)
def y1ou : CCode :=
  (.seq (.region [
 kO 40 (.fa 0 1),
 kO 41 (.ld false 1 40),
 kO 42 (.bin .eql 41 (ci 23)),
 kO 43 (.mv 42),
 kG 44 (.fa 0 1) 43 false,
 kG 45 (.ld false 1 44) 43 false,
 kG 46 (.bin .eql 45 (ci 26)) 43 false,
 kO 47 (.pick 43 (.c (.bool true)) 46),
 kO 48 (.mv 47),
 kG 49 (.fa 8 1) 48 false,
 kG 50 (.ld false 1 49) 48 false,
 kG 51 (.len 1 50) 48 false,
 kG 52 (.bin .gtr 51 (ci 0)) 48 false,
 kO 53 (.pick 48 (.c (.bool true)) 52),
 kO 7 (.mv 53)])
 (.seq (.draw [
 kO 54 (.mv 6),
 kO 55 (.build [(.int .i64 0), (.int .i64 0), (.int .i64 0), (.int .i64 0)] [(0, 1, 54), (1, 1, (ci (-1))), (2, 1, (ci (-1))), (3, 1, (ci (-1)))]),
 kO 56 (.mv 7),
 kO 57 (.mv 56),
 kG 58 (.fa 5 1) 57 true,
 kG 59 (.ld false 1 58) 57 true,
 kG 60 (.bin .geq 59 (ci 0)) 57 true,
 kG 61 (.mv 60) 57 true,
 kG 62 (.fa 0 1) 61 false,
 kG 63 (.ld false 1 62) 61 false,
 kG 64 (.bin .eql 63 (ci 25)) 61 false,
 kG 65 (.pick 61 (.c (.bool true)) 64) 57 true,
 kO 66 (.pick 57 65 (.c (.bool false))),
 kO 67 (.mv 66),
 kG 68 (.fa 8 1) 67 true,
 kG 69 (.ld false 1 68) 67 true,
 kG 70 (.len 1 69) 67 true,
 kG 71 (.bin .leq 70 (ci 21)) 67 true,
 kO 72 (.pick 67 71 (.c (.bool false))),
 kU (.st 4 2 55),
 kO 3 (.mv 72)] [(15, 19), (16, 19)])
 .ret))
def y1oe : CCode :=
  (.seq (.seq (.region [
 kO 37 (.fa 1 1),
 kO 38 (.ld false 1 37),
 kO 39 (.bin .neq 38 (ci (-1)))])
 (.cond 39
 (.region [
  kO 6 (.mv (ci 0))])
 .skip))
 y1ou)
def y15s : CCode :=
  (.seq (.region [
 kO 6 (.mv (ci (-1)))])
 y1oe)
def y15h : CCode :=
  (.cond 32
 y15s
 .skip)
def y12p : CCode :=
  (.seq (.seq (.region [
 kO 33 (.bin .eql 9 (ci 23)),
 kO 32 (.mv 33)])
 (.cond 32
 .skip
 (.seq (.region [
  kO 34 (.bin .eql 9 (ci 24)),
  kO 32 (.mv 34)])
  (.cond 32
  .skip
  (.seq (.region [
   kO 35 (.bin .eql 9 (ci 25)),
   kO 32 (.mv 35)])
   (.cond 32
   .skip
   (.region [
    kO 36 (.bin .eql 9 (ci 26)),
    kO 32 (.mv 36)])))))))
 y15h)
def y172 : CCode :=
  (.cond 25
 y1w5
 y12p)
def y18u : CCode :=
  (.seq (.region [
 kO 26 (.bin .eql 9 (ci 30)),
 kO 25 (.mv 26)])
 y172)
def y18g : CCode :=
  (.cond 10
 y1rk
 y18u)
def y14l : CCode :=
  (.seq (.region [
 kO 11 (.bin .eql 9 (ci 29)),
 kO 10 (.mv 11)])
 y18g)
def y12z : CCode :=
  (.block 0 y14l)
def y04 : CCode :=
  (.seq (.region [
 kO 8 (.fa 0 1),
 kO 9 (.ld false 1 8)])
 y12z)
def y15u : CCode :=
  (.seq y04
 y1o6)
def y0c : CCode :=
  (.seq (.region [
 kO 1 (.box (some 0) 0),
 kO 2 (.new (some 1) [(.int .i64 0), (.int .i64 0), (.int .i64 0), (.int .i64 0)]),
 kO 3 (.mv (.c (.bool false)))])
 y15u)
def y2jw : CFunc :=
  ⟨1, true, 2, y0c, [.cell 2 true 4, .t 3]⟩
def y1jm : CCode :=
  (.seq (.region [
 kO 4 (.mv (.c (.bool false)))])
 (.seq (.region [
 kO 5 (.mv 0),
 kO 6 (.mv 1),
 kO 7 (.bin .quo 6 (ci 64)),
 kO 8 (.ixs 1 5 7),
 kO 9 (.ld false 1 8),
 kO 10 (.mv 1),
 kO 11 (.bin .rem 10 (ci 64)),
 kO 12 (.bin .shr 9 11),
 kO 13 (.bin .and 12 (.c (.int .u64 1))),
 kO 14 (.bin .eql 13 (.c (.int .u64 1))),
 kO 4 (.mv 14)])
 .ret))
def y2j2 : CFunc :=
  ⟨2, true, 0, y1jm, [.t 4]⟩
def yys : CCode :=
  (.seq (.region [
 kO 4 (.mv (.c (.bool false)))])
 .ret)
def y15i : CCode :=
  (.region [
 kO 10 (.mv 5),
 kO 11 (.bin .add 10 (ci 1)),
 kO 5 (.mv 11)])
def y13y : CCode :=
  (.seq (.block 1 (.seq (.region [
 kO 12 (.mv 0),
 kO 13 (.mv 5),
 kO 14 (.ixs 1 12 13),
 kO 15 (.ld false 1 14),
 kO 16 (.mv 1),
 kO 17 (.bin .eql 15 16)])
 (.cond 17
 (.seq (.region [
  kO 4 (.mv (.c (.bool true)))])
  .ret)
 .skip)))
 y15i)
def y162 : CCode :=
  (.seq (.seq (.region [
 kO 6 (.mv 5),
 kO 7 (.mv 0),
 kO 8 (.len 1 7),
 kO 9 (.bin .lss 6 8)])
 (.cond 9
 .skip
 (.exit 0)))
 y13y)
def yis : CCode :=
  (.loop [0, 1, 5] y162)
def y161 : CCode :=
  (.block 0 yis)
def y181 : CCode :=
  (.seq (.region [
 kO 5 (.mv (ci 0))])
 y161)
def y0m : CCode :=
  (.seq y181
 yys)
def y18l : CCode :=
  (.seq (.region [
 kO 4 (.mv (.c (.bool false)))])
 y0m)
def y27d : CFunc :=
  ⟨2, true, 0, y18l, [.t 4]⟩
def y145 : CCode :=
  (.seq (.region [
 kO 61 (.mv 3),
 kO 2 (.mv 61)])
 .ret)
def y12s : CCode :=
  (.region [
 kO 35 (.mv 6),
 kO 36 (.bin .add 35 (ci 1)),
 kO 6 (.mv 36)])
def y143 : CCode :=
  (.seq (.block 1 (.seq (.region [
 kO 37 (.mv 4),
 kO 38 (.mv 6),
 kO 39 (.ixstr 37 38),
 kO 40 (.bin .neq 39 (.c (.int .u8 45))),
 kO 41 (.mv 40),
 kG 42 (.mv 4) 41 true,
 kG 43 (.mv 6) 41 true,
 kG 44 (.ixstr 42 43) 41 true,
 kG 45 (.bin .neq 44 (.c (.int .u8 63))) 41 true,
 kG 46 (.mv 45) 41 true,
 kG 47 (.mv 5) 46 false,
 kG 48 (.mv 6) 46 false,
 kG 49 (.ixs 1 47 48) 46 false,
 kG 50 (.ld false 1 49) 46 false,
 kG 51 (.bin .geq 50 (ci 0)) 46 false,
 kG 52 (.pick 46 (.c (.bool true)) 51) 41 true,
 kO 53 (.pick 41 52 (.c (.bool false)))])
 (.cond 53
 (.region [
  kO 54 (.mv 3),
  kO 55 (.mv 5),
  kO 56 (.mv 6),
  kO 57 (.ixs 1 55 56),
  kO 58 (.ld false 1 57),
  kO 59 (.buildS (some 3) 1 1 [(.int .i64 0)] [(0, 58)]),
  kO 60 (.app (some 4) 1 8 54 59),
  kO 3 (.mv 60)])
 .skip)))
 y12s)
def y136 : CCode :=
  (.seq (.seq (.region [
 kO 31 (.mv 6),
 kO 32 (.mv 4),
 kO 33 (.len 0 32),
 kO 34 (.bin .lss 31 33)])
 (.cond 34
 .skip
 (.exit 0)))
 y143)
def yjz : CCode :=
  (.loop [3, 4, 5, 6] y136)
def y15v : CCode :=
  (.block 0 yjz)
def y0w : CCode :=
  (.seq (.region [
 kO 6 (.mv (ci 1))])
 y15v)
def y19d : CCode :=
  (.seq y0w
 y145)
def y149 : CCode :=
  (.seq (.region [
 kO 22 (.fa 1 1),
 kO 23 (.ld false 1 22),
 kO 24 (.fa 2 1),
 kO 25 (.ld false 1 24),
 kO 26 (.fa 3 1),
 kO 27 (.ld false 1 26),
 kO 28 (.fa 4 1),
 kO 29 (.ld false 1 28),
 kO 30 (.buildS (some 2) 1 4 [(.int .i64 0)] [(0, 23), (1, 25), (2, 27), (3, 29)]),
 kO 5 (.mv 30)])
 y19d)
def yr4 : CCode :=
  (.seq (.seq (.region [
 kO 19 (.fa 0 1),
 kO 20 (.ld false 1 19),
 kO 21 (.bin .eql 20 (ci 6))])
 (.cond 21
 (.region [
  kO 4 (.mv (.c (.str [45, 42, 45, 45])))])
 .skip))
 y149)
def yr6 : CCode :=
  (.seq (.seq (.region [
 kO 16 (.fa 0 1),
 kO 17 (.ld false 1 16),
 kO 18 (.bin .eql 17 (ci 5))])
 (.cond 18
 (.region [
  kO 4 (.mv (.c (.str [45, 42, 42, 45])))])
 .skip))
 yr4)
def yt2 : CCode :=
  (.seq (.region [
 kO 13 (.fa 0 1),
 kO 14 (.ld false 1 13),
 kO 15 (.call none true 38 [14]),
 kO 4 (.mv 15)])
 yr6)
def yua : CCode :=
  (.seq (.region [
 kO 3 (.mv (.c .nils))])
 yt2)
def ytk : CCode :=
  (.seq (.seq (.region [
 kO 7 (.fa 0 1),
 kO 8 (.ld false 1 7),
 kO 9 (.call none true 7 [8])])
 (.cond 9
 (.seq (.region [
  kO 10 (.fa 8 1),
  kO 11 (.ld false 1 10),
  kO 12 (.app (some 1) 1 8 (.c .nils) 11),
  kO 2 (.mv 12)])
  .ret)
 .skip))
 yua)
def yrc : CCode :=
  (.seq (.region [
 kO 1 (.box (some 0) 0),
 kO 2 (.mv (.c .nils))])
 ytk)
def y288 : CFunc :=
  ⟨1, true, 5, yrc, [.t 2]⟩
def y18v : CCode :=
  (.seq (.region [
 kO 63 (.mv 5),
 kO 4 (.mv 63)])
 .ret)
def y119 : CCode :=
  (.region [
 kO 32 (.mv 6),
 kO 33 (.bin .add 32 (ci 1)),
 kO 6 (.mv 33)])
def y13i : CCode :=
  (.seq (.region [
 kO 59 (.fa 3 7),
 kO 60 (.ld false 1 59),
 kO 61 (.bin .eql 60 (.c (.str [])))])
 (.cond 61
 (.seq (.region [
  kO 62 (.mv 5),
  kO 4 (.mv 62)])
  .ret)
 .skip))
def y16l : CCode :=
  (.seq (.seq (.region [
 kO 49 (.mv 5),
 kO 50 (.fa 2 7),
 kO 51 (.ld false 1 50),
 kO 52 (.call none true 96 [49, 51]),
 kO 53 (.un .not 52)])
 (.cond 53
 (.region [
  kO 54 (.mv 5),
  kO 55 (.fa 2 7),
  kO 56 (.ld false 1 55),
  kO 57 (.buildS (some 2) 1 1 [(.int .i64 0)] [(0, 56)]),
  kO 58 (.app (some 3) 1 8 54 57),
  kO 5 (.mv 58)])
 .skip))
 y13i)
def y11s : CCode :=
  (.cond 48
 y16l
 .skip)
def yy2 : CCode :=
  (.seq (.region [
 kO 39 (.fa 0 7),
 kO 40 (.ld false 1 39),
 kO 41 (.mv 1),
 kO 42 (.bin .leq 40 41),
 kO 43 (.mv 42),
 kG 44 (.mv 1) 43 true,
 kG 45 (.fa 1 7) 43 true,
 kG 46 (.ld false 1 45) 43 true,
 kG 47 (.bin .lss 44 46) 43 true,
 kO 48 (.pick 43 47 (.c (.bool false)))])
 y11s)
def y14a : CCode :=
  (.seq (.region [
 kO 34 (.fa 4 2),
 kO 35 (.ld false 1 34),
 kO 36 (.mv 6),
 kO 37 (.ixs 4 35 36),
 kO 38 (.ld true 4 37),
 kO 7 (.new (some 1) [(.int .i64 0), (.int .i64 0), (.int .i64 0), (.str [])]),
 kU (.st 4 7 38)])
 yy2)
def yy3 : CCode :=
  (.block 1 y14a)
def yuj : CCode :=
  (.seq yy3
 y119)
def yqw : CCode :=
  (.seq (.seq (.region [
 kO 27 (.mv 6),
 kO 28 (.fa 4 2),
 kO 29 (.ld false 1 28),
 kO 30 (.len 1 29),
 kO 31 (.bin .lss 27 30)])
 (.cond 31
 .skip
 (.exit 0)))
 yuj)
def yhy : CCode :=
  (.loop [1, 2, 5, 6] yqw)
def yrb : CCode :=
  (.block 0 yhy)
def yu3 : CCode :=
  (.seq (.region [
 kO 6 (.mv (ci 0))])
 yrb)
def ys7 : CCode :=
  (.seq yu3
 y18v)
def yrz : CCode :=
  (.seq (.seq (.region [
 kO 8 (.mv 1),
 kO 9 (.bin .lss 8 (ci 0)),
 kO 10 (.mv 9),
 kG 11 (.mv 1) 10 false,
 kG 12 (.fa 3 2) 10 false,
 kG 13 (.ld false 1 12) 10 false,
 kG 14 (.len 1 13) 10 false,
 kG 15 (.bin .geq 11 14) 10 false,
 kO 16 (.pick 10 (.c (.bool true)) 15),
 kO 17 (.mv 16),
 kG 18 (.fa 3 2) 17 false,
 kG 19 (.ld false 1 18) 17 false,
 kG 20 (.mv 1) 17 false,
 kG 21 (.ixs 9 19 20) 17 false,
 kG 22 (.fa 0 21) 17 false,
 kG 23 (.ld false 1 22) 17 false,
 kG 24 (.call none true 19 [23]) 17 false,
 kG 25 (.un .not 24) 17 false,
 kO 26 (.pick 17 (.c (.bool true)) 25)])
 (.cond 26
 (.seq (.region [
  kO 4 (.mv (.c .nils))])
  .ret)
 .skip))
 ys7)
def ysr : CCode :=
  (.seq (.region [
 kO 5 (.mv (.c .nils))])
 yrz)
def yrr : CCode :=
  (.seq (.region [
 kO 2 (.box (some 0) 0),
 kO 4 (.mv (.c .nils))])
 ysr)
def y276 : CFunc :=
  ⟨2, true, 4, yrr, [.t 4]⟩
def y130 : CCode :=
  (.seq (.region [
 kO 4 (.mv (.c (.bool false)))])
 .ret)
def y16f : CCode :=
  (.region [
 kO 10 (.mv 5),
 kO 11 (.bin .add 10 (ci 1)),
 kO 5 (.mv 11)])
def yzr : CCode :=
  (.seq (.block 1 (.seq (.region [
 kO 12 (.mv 0),
 kO 13 (.mv 5),
 kO 14 (.ixs 1 12 13),
 kO 15 (.ld false 1 14),
 kO 16 (.mv 1),
 kO 17 (.bin .eql 15 16)])
 (.cond 17
 (.seq (.region [
  kO 4 (.mv (.c (.bool true)))])
  .ret)
 .skip)))
 y16f)
def yzo : CCode :=
  (.seq (.seq (.region [
 kO 6 (.mv 5),
 kO 7 (.mv 0),
 kO 8 (.len 1 7),
 kO 9 (.bin .lss 6 8)])
 (.cond 9
 .skip
 (.exit 0)))
 yzr)
def yjb : CCode :=
  (.loop [0, 1, 5] yzo)
def y13f : CCode :=
  (.block 0 yjb)
def y17t : CCode :=
  (.seq (.region [
 kO 5 (.mv (ci 0))])
 y13f)
def y19n : CCode :=
  (.seq y17t
 y130)
def y14i : CCode :=
  (.seq (.region [
 kO 4 (.mv (.c (.bool false)))])
 y19n)
def y28d : CFunc :=
  ⟨2, true, 0, y14i, [.t 4]⟩
def yyx : CCode :=
  (.seq (.region [
 kO 24 (.mv 0),
 kO 25 (.bin .neq 24 (.c (.str []))),
 kO 26 (.mv 25),
 kG 27 (.mv 0) 26 true,
 kG 28 (.len 0 27) 26 true,
 kG 29 (.bin .leq 28 (ci 60)) 26 true,
 kO 30 (.pick 26 29 (.c (.bool false))),
 kO 4 (.mv 30)])
 .ret)
def y15b : CCode :=
  (.region [
 kO 14 (.mv 6),
 kO 15 (.bin .add 14 (ci 1)),
 kO 6 (.mv 15)])
def y13z : CCode :=
  (.seq (.block 1 (.seq (.region [
 kO 16 (.mv 5),
 kO 17 (.mv 0),
 kO 18 (.mv 6),
 kO 19 (.mv 6),
 kO 20 (.bin .add 19 (ci 1)),
 kO 21 (.sls 17 (some 18) (some 20)),
 kO 22 (.call none true 53 [16, 21]),
 kO 23 (.un .not 22)])
 (.cond 23
 (.seq (.region [
  kO 4 (.mv (.c (.bool false)))])
  .ret)
 .skip)))
 y15b)
def y17b : CCode :=
  (.seq (.seq (.region [
 kO 10 (.mv 6),
 kO 11 (.mv 0),
 kO 12 (.len 0 11),
 kO 13 (.bin .lss 10 12)])
 (.cond 13
 .skip
 (.exit 0)))
 y13z)
def yj5 : CCode :=
  (.loop [0, 5, 6] y17b)
def y18o : CCode :=
  (.block 0 yj5)
def y14m : CCode :=
  (.seq (.region [
 kO 6 (.mv (ci 0))])
 y18o)
def y13j : CCode :=
  (.seq y14m
 yyx)
def y13m : CCode :=
  (.seq (.seq (.region [
 kO 7 (.mv 1)])
 (.cond 7
 (.region [
  kO 8 (.mv 5),
  kO 9 (.bin .add 8 (.c (.str [60, 62]))),
  kO 5 (.mv 9)])
 .skip))
 y13j)
def yuw : CCode :=
  (.seq (.region [
 kO 5 (.mv (.c (.str [97, 98, 99, 100, 101, 102, 103, 104, 105, 106, 107, 108, 109, 110, 111, 112, 113, 114, 115, 116, 117, 118, 119, 120, 121, 122, 65, 66, 67, 68, 69, 70, 71, 72, 73, 74, 75, 76, 77, 78, 79, 80, 81, 82, 83, 84, 85, 86, 87, 88, 89, 90, 48, 49, 50, 51, 52, 53, 54, 55, 56, 57, 95, 36, 47])))])
 y13m)
def yrg : CCode :=
  (.seq (.region [
 kO 4 (.mv (.c (.bool false)))])
 yuw)
def y265 : CFunc :=
  ⟨2, true, 0, yrg, [.t 4]⟩
def y275 : CCode :=
  (.seq (.region [
 kO 2 (.mv (ci 0))])
 .ret)
def y27f : CCode :=
  (.region [
 kO 41 (.mv 4),
 kO 42 (.bin .add 41 (ci 1)),
 kO 4 (.mv 42)])
def y27g : CCode :=
  (.seq (.region [
 kO 2 (.mv (ci 0))])
 .ret)
def y27y : CCode :=
  (.seq (.seq (.region [
 kO 47 (.mv 0),
 kO 48 (.mv 3),
 kO 49 (.bin .add 48 (ci 1)),
 kO 50 (.mv 4),
 kO 51 (.sls 47 (some 49) (some 50)),
 kO 52 (.call none true 60 [51, (.c (.bool false))])])
 (.cond 52
 (.seq (.region [
  kO 53 (.mv 4),
  kO 54 (.bin .add 53 (ci 1)),
  kO 2 (.mv 54)])
  .ret)
 .skip))
 y27g)
def y26o : CCode :=
  (.cond 46
 y27y
 .skip)
def y26c : CCode :=
  (.seq (.region [
 kO 43 (.mv 0),
 kO 44 (.mv 4),
 kO 45 (.ixstr 43 44),
 kO 46 (.bin .eql 45 (.c (.int .u8 59)))])
 y26o)
def y26s : CCode :=
  (.block 4 y26c)
def y278 : CCode :=
  (.seq y26s
 y27f)
def y1qb : CCode :=
  (.seq (.seq (.region [
 kO 37 (.mv 4),
 kO 38 (.mv 0),
 kO 39 (.len 0 38),
 kO 40 (.bin .lss 37 39)])
 (.cond 40
 .skip
 (.exit 3)))
 y278)
def yws : CCode :=
  (.loop [0, 3, 4] y1qb)
def y1ol : CCode :=
  (.block 3 yws)
def y1ot : CCode :=
  (.seq (.region [
 kO 35 (.mv 3),
 kO 36 (.bin .add 35 (ci 1)),
 kO 4 (.mv 36)])
 y1ol)
def y1h5 : CCode :=
  (.cond 33
 y1ot
 .skip)
def y1hn : CCode :=
  (.seq (.region [
 kO 34 (.bin .eql 27 (.c (.int .u8 76))),
 kO 33 (.mv 34)])
 y1h5)
def y1jl : CCode :=
  (.cond 28
 (.seq (.region [
  kO 31 (.mv 3),
  kO 32 (.bin .add 31 (ci 1)),
  kO 2 (.mv 32)])
  .ret)
 y1hn)
def y1pb : CCode :=
  (.seq (.seq (.region [
 kO 29 (.bin .eql 27 (.c (.int .u8 73))),
 kO 28 (.mv 29)])
 (.cond 28
 .skip
 (.region [
  kO 30 (.bin .eql 27 (.c (.int .u8 74))),
  kO 28 (.mv 30)])))
 y1jl)
def y1jd : CCode :=
  (.block 2 y1pb)
def y1wb : CCode :=
  (.seq (.region [
 kO 25 (.mv 0),
 kO 26 (.mv 3),
 kO 27 (.ixstr 25 26)])
 y1jd)
def y1qj : CCode :=
  (.seq y1wb
 y275)
def y1kd : CCode :=
  (.seq (.seq (.region [
 kO 17 (.mv 3),
 kO 18 (.bin .gtr 17 (ci 8)),
 kO 19 (.mv 18),
 kG 20 (.mv 3) 19 false,
 kG 21 (.mv 0) 19 false,
 kG 22 (.len 0 21) 19 false,
 kG 23 (.bin .eql 20 22) 19 false,
 kO 24 (.pick 19 (.c (.bool true)) 23)])
 (.cond 24
 (.seq (.region [
  kO 2 (.mv (ci 0))])
  .ret)
 .skip))
 y1qj)
def y1ox : CCode :=
  (.block 1 (.region [
 kO 15 (.mv 3),
 kO 16 (.bin .add 15 (ci 1)),
 kO 3 (.mv 16)]))
def y1wy : CCode :=
  (.seq (.seq (.region [
 kO 5 (.mv 3),
 kO 6 (.mv 0),
 kO 7 (.len 0 6),
 kO 8 (.bin .lss 5 7),
 kO 9 (.mv 8),
 kG 10 (.mv 0) 9 true,
 kG 11 (.mv 3) 9 true,
 kG 12 (.ixstr 10 11) 9 true,
 kG 13 (.bin .eql 12 (.c (.int .u8 91))) 9 true,
 kO 14 (.pick 9 13 (.c (.bool false)))])
 (.cond 14
 .skip
 (.exit 0)))
 y1ox)
def ypx : CCode :=
  (.loop [0, 3] y1wy)
def y1ob : CCode :=
  (.block 0 ypx)
def y1sm : CCode :=
  (.seq y1ob
 y1kd)
def y1rz : CCode :=
  (.seq (.region [
 kO 3 (.mv (ci 0))])
 y1sm)
def y1ur : CCode :=
  (.seq (.region [
 kO 2 (.mv (ci 0))])
 y1rz)
def c_q9 : CFunc :=
  ⟨1, true, 0, y1ur, [.t 2]⟩
def y15z : CCode :=
  (.seq (.region [
 kO 2 (.mv (.c (.bool false)))])
 (.seq (.region [
 kO 3 (.mv 0),
 kO 4 (.bin .geq 3 (ci 23)),
 kO 5 (.mv 4),
 kG 6 (.mv 0) 5 true,
 kG 7 (.bin .leq 6 (ci 26)) 5 true,
 kO 8 (.pick 5 7 (.c (.bool false))),
 kO 2 (.mv 8)])
 .ret))
def y283 : CFunc :=
  ⟨1, true, 0, y15z, [.t 2]⟩
def yz0 : CCode :=
  (.seq (.region [
 kO 2 (.mv (.c (.bool false)))])
 (.seq (.region [
 kO 3 (.mv 0),
 kO 4 (.bin .geq 3 (ci 7)),
 kO 5 (.mv 4),
 kG 6 (.mv 0) 5 true,
 kG 7 (.bin .leq 6 (ci 12)) 5 true,
 kO 8 (.pick 5 7 (.c (.bool false))),
 kO 9 (.mv 8),
 kG 10 (.mv 0) 9 false,
 kG 11 (.buildS (some 0) 1 3 [(.int .i64 0)] [(0, (ci 20)), (1, (ci 21)), (2, (ci 31))]) 9 false,
 kG 12 (.call none true 42 [10, 11]) 9 false,
 kO 13 (.pick 9 (.c (.bool true)) 12),
 kO 14 (.mv 13),
 kG 15 (.mv 0) 14 false,
 kG 16 (.call none true 7 [15]) 14 false,
 kO 17 (.pick 14 (.c (.bool true)) 16),
 kO 2 (.mv 17)])
 .ret))
def y282 : CFunc :=
  ⟨1, true, 1, yz0, [.t 2]⟩
def y27b : CCode :=
  (.seq (.region [
 kO 4 (.mv (.c (.bool true)))])
 .ret)
def y27z : CCode :=
  (.region [
 kO 71 (.bin .add 19 (ci 1)),
 kO 19 (.mv 71)])
def y26k : CCode :=
  (.seq (.block 1 (.seq (.region [
 kO 21 (.ixs 1 17 19),
 kO 22 (.ld false 1 21),
 kO 6 (.mv 22)])
 (.seq (.region [
 kO 23 (.mv 6),
 kO 24 (.bin .geq 23 (.c (.int .u8 97))),
 kO 25 (.mv 24),
 kG 26 (.mv 6) 25 true,
 kG 27 (.bin .leq 26 (.c (.int .u8 122))) 25 true,
 kO 28 (.pick 25 27 (.c (.bool false))),
 kO 29 (.mv 28),
 kG 30 (.mv 6) 29 false,
 kG 31 (.bin .geq 30 (.c (.int .u8 65))) 29 false,
 kG 32 (.mv 31) 29 false,
 kG 33 (.mv 6) 32 true,
 kG 34 (.bin .leq 33 (.c (.int .u8 90))) 32 true,
 kG 35 (.pick 32 34 (.c (.bool false))) 29 false,
 kO 36 (.pick 29 (.c (.bool true)) 35),
 kO 37 (.mv 36),
 kG 38 (.mv 6) 37 false,
 kG 39 (.bin .geq 38 (.c (.int .u8 48))) 37 false,
 kG 40 (.mv 39) 37 false,
 kG 41 (.mv 6) 40 true,
 kG 42 (.bin .leq 41 (.c (.int .u8 57))) 40 true,
 kG 43 (.pick 40 42 (.c (.bool false))) 37 false,
 kO 44 (.pick 37 (.c (.bool true)) 43),
 kO 45 (.mv 44),
 kG 46 (.mv 6) 45 false,
 kG 47 (.bin .eql 46 (.c (.int .u8 95))) 45 false,
 kO 48 (.pick 45 (.c (.bool true)) 47),
 kO 49 (.mv 48),
 kG 50 (.mv 6) 49 false,
 kG 51 (.bin .eql 50 (.c (.int .u8 36))) 49 false,
 kO 52 (.pick 49 (.c (.bool true)) 51),
 kO 53 (.mv 52),
 kG 54 (.mv 6) 53 false,
 kG 55 (.bin .eql 54 (.c (.int .u8 47))) 53 false,
 kO 56 (.pick 53 (.c (.bool true)) 55),
 kO 7 (.mv 56)])
 (.seq (.region [
 kO 57 (.mv 7),
 kO 58 (.un .not 57),
 kO 59 (.mv 58),
 kG 60 (.mv 1) 59 true,
 kG 61 (.mv 60) 59 true,
 kG 62 (.mv 6) 61 true,
 kG 63 (.bin .eql 62 (.c (.int .u8 60))) 61 true,
 kG 64 (.mv 63) 61 true,
 kG 65 (.mv 6) 64 false,
 kG 66 (.bin .eql 65 (.c (.int .u8 62))) 64 false,
 kG 67 (.pick 64 (.c (.bool true)) 66) 61 true,
 kG 68 (.pick 61 67 (.c (.bool false))) 59 true,
 kG 69 (.un .not 68) 59 true,
 kO 70 (.pick 59 69 (.c (.bool false)))])
 (.cond 70
 (.seq (.region [
  kO 4 (.mv (.c (.bool false)))])
  .ret)
 .skip)))))
 y27z)
def y28a : CCode :=
  (.seq (.cond 20
 .skip
 (.exit 0))
 y26k)
def y27k : CCode :=
  (.seq (.region [
 kO 20 (.bin .lss 19 18)])
 y28a)
def yvm : CCode :=
  (.loop [1, 17, 18, 19] y27k)
def y285 : CCode :=
  (.block 0 yvm)
def y284 : CCode :=
  (.seq (.region [
 kO 16 (.mv 0),
 kO 17 (.s2b (some 0) 16),
 kO 18 (.len 1 17),
 kO 19 (.mv (ci 0))])
 y285)
def y279 : CCode :=
  (.seq y284
 y27b)
def y1rq : CCode :=
  (.seq (.seq (.region [
 kO 8 (.mv 0),
 kO 9 (.len 0 8),
 kO 10 (.bin .lss 9 (ci 1)),
 kO 11 (.mv 10),
 kG 12 (.mv 0) 11 false,
 kG 13 (.len 0 12) 11 false,
 kG 14 (.bin .gtr 13 (ci 60)) 11 false,
 kO 15 (.pick 11 (.c (.bool true)) 14)])
 (.cond 15
 (.seq (.region [
  kO 4 (.mv (.c (.bool false)))])
  .ret)
 .skip))
 y279)
def y1rb : CCode :=
  (.seq (.region [
 kO 4 (.mv (.c (.bool false)))])
 y1rq)
def c_q7 : CFunc :=
  ⟨2, true, 1, y1rb, [.t 4]⟩
def tbl : List (Option Nat) := [none, none, none, none, none, none, none, some 115, none, none, none, none, none, none, none, none, some 13, some 14, some 8, some 117, none, some 118, none, none, none, none, none, none, some 119, some 120, none, none, some 29, none, none, none, some 10, some 9, some 39, some 40, some 41, some 11, some 28, some 24, some 46, some 63, some 22, none, some 75, some 20, some 87, none, none, none, some 79, none, some 81, none, none, none, none, none, some 21, some 90, none, none, none, none, some 25, some 48, some 42, some 64, some 23, some 49, none, none, none, none, none, none, none, none, some 17, some 45, some 47, some 84, some 85, some 86, some 82, none, some 18, none, none, none, none, none, none, none, none, none, some 93, some 95, none, none, some 16, some 38, some 65, some 66, some 67, some 68, none, none, none, some 50, some 37, some 51, some 83, none, none, none, none, none, none, some 94, some 15, some 92, some 96, some 69, none, none, some 44, none, some 7, some 19, some 53, some 60]
def fnE : Nat → Option CFunc
  | 7 => some y283
  | 8 => some y2j5
  | 9 => some y2ko
  | 10 => some y2no
  | 11 => some y26a
  | 13 => some y2ms
  | 14 => some y26r
  | 15 => some y288
  | 16 => some y267
  | 17 => some y2l2
  | 18 => some y2je
  | 19 => some y282
  | 20 => some y2li
  | 21 => some y27u
  | 22 => some y2nj
  | 23 => some y27t
  | 24 => some y2ml
  | 25 => some y272
  | 28 => some y27v
  | 29 => some y26l
  | 37 => some c_q8
  | 38 => some y289
  | 39 => some y26y
  | 40 => some y26z
  | 41 => some y26e
  | 42 => some y27x
  | 44 => some c_q9
  | 45 => some y273
  | 46 => some y27a
  | 47 => some y2lk
  | 48 => some y264
  | 49 => some y274
  | 50 => some y2jo
  | 51 => some y2jw
  | 60 => some c_q7
  | 63 => some y2m9
  | 64 => some y27h
  | 65 => some y27w
  | 66 => some y2o7
  | 67 => some y27l
  | 68 => some y27r
  | 69 => some y265
  | 75 => some y2nw
  | 79 => some y2km
  | 81 => some y2is
  | 82 => some y2nx
  | 83 => some y2j2
  | 84 => some y2l6
  | 85 => some y2kh
  | 86 => some y2nh
  | 87 => some y2kq
  | 90 => some y286
  | 92 => some y276
  | 93 => some y27m
  | 94 => some y27d
  | 95 => some y270
  | 96 => some y28d
  | 115 => some y2o0
  | 117 => some y2rp
  | 118 => some c_q6
  | 119 => some y2nt
  | 120 => some y28b
  | _ => none
abbrev nm : Nat → Option Nat := nmOf tbl
def E : Env := envX fnE [84, 85, 86, 93] xpC
abbrev T1 (c : CCode) (n : St → OX) (e : Nat → St → OX) (r : List CRes) (k : St → OX) : Prop := ∀ s, W E 0 c s n e (finP r) = k s
abbrev T0 (c : CCode) (r : List CRes) (k : St → OX) : Prop := T1 c (finP r) xN r k
theorem sq {a b : CCode} {n k k' : St → OX} {e : Nat → St → OX} {r : List CRes} (h : T1 b n e r k) (h' : T1 a k e r k') : T1 (.seq a b) n e r k' := fun s => (yab h).trans (h' s)
theorem ok7 : FnOk Go.Proofs.Try.prog nm fnE 7 115 := .of Go.Proofs.Try.func7 (by kernel_rfl) (by kernel_rfl) rfl (by kernel_rfl)
theorem ok16 : FnOk Go.Proofs.Try.prog nm fnE 16 13 := .of Go.Proofs.Try.func16 (by kernel_rfl) (by kernel_rfl) rfl (by kernel_rfl)
theorem ok17 : FnOk Go.Proofs.Try.prog nm fnE 17 14 := .of Go.Proofs.Try.func17 (by kernel_rfl) (by kernel_rfl) rfl (by kernel_rfl)
theorem ok18 : FnOk Go.Proofs.Try.prog nm fnE 18 8 := .of Go.Proofs.Try.func18 (by kernel_rfl) (by kernel_rfl) rfl (by kernel_rfl)
theorem ok19 : FnOk Go.Proofs.Try.prog nm fnE 19 117 := .of Go.Proofs.Try.func19 (by kernel_rfl) (by kernel_rfl) rfl (by kernel_rfl)
theorem ok21 : FnOk Go.Proofs.Try.prog nm fnE 21 118 := .of Go.Proofs.Try.func21 (by kernel_rfl) (by kernel_rfl) rfl (by kernel_rfl)
theorem ok28 : FnOk Go.Proofs.Try.prog nm fnE 28 119 := .of Go.Proofs.Try.func28 (by kernel_rfl) (by kernel_rfl) rfl (by kernel_rfl)
theorem ok29 : FnOk Go.Proofs.Try.prog nm fnE 29 120 := .of Go.Proofs.Try.func29 (by kernel_rfl) (by kernel_rfl) rfl (by kernel_rfl)
theorem ok32 : FnOk Go.Proofs.Try.prog nm fnE 32 29 := .of Go.Proofs.Try.func32 (by kernel_rfl) (by kernel_rfl) rfl (by kernel_rfl)
theorem ok36 : FnOk Go.Proofs.Try.prog nm fnE 36 10 := .of Go.Proofs.Try.func36 (by kernel_rfl) (by kernel_rfl) rfl (by kernel_rfl)
theorem ok37 : FnOk Go.Proofs.Try.prog nm fnE 37 9 := .of Go.Proofs.Try.func37 (by kernel_rfl) (by kernel_rfl) rfl (by kernel_rfl)
theorem ok38 : FnOk Go.Proofs.Try.prog nm fnE 38 39 := .of Go.Proofs.Try.func38 (by kernel_rfl) (by kernel_rfl) rfl (by kernel_rfl)
theorem ok39 : FnOk Go.Proofs.Try.prog nm fnE 39 40 := .of Go.Proofs.Try.func39 (by kernel_rfl) (by kernel_rfl) rfl (by kernel_rfl)
theorem ok40 : FnOk Go.Proofs.Try.prog nm fnE 40 41 := .of Go.Proofs.Try.func40 (by kernel_rfl) (by kernel_rfl) rfl (by kernel_rfl)
theorem ok41 : FnOk Go.Proofs.Try.prog nm fnE 41 11 := .of Go.Proofs.Try.func41 (by kernel_rfl) (by kernel_rfl) rfl (by kernel_rfl)
theorem ok42 : FnOk Go.Proofs.Try.prog nm fnE 42 28 := .of Go.Proofs.Try.func42 (by kernel_rfl) (by kernel_rfl) rfl (by kernel_rfl)
theorem ok43 : FnOk Go.Proofs.Try.prog nm fnE 43 24 := .of Go.Proofs.Try.func43 (by kernel_rfl) (by kernel_rfl) rfl (by kernel_rfl)
theorem ok44 : FnOk Go.Proofs.Try.prog nm fnE 44 46 := .of Go.Proofs.Try.func44 (by kernel_rfl) (by kernel_rfl) rfl (by kernel_rfl)
theorem ok45 : FnOk Go.Proofs.Try.prog nm fnE 45 63 := .of Go.Proofs.Try.func45 (by kernel_rfl) (by kernel_rfl) rfl (by kernel_rfl)
theorem ok46 : FnOk Go.Proofs.Try.prog nm fnE 46 22 := .of Go.Proofs.Try.func46 (by kernel_rfl) (by kernel_rfl) rfl (by kernel_rfl)
theorem ok48 : FnOk Go.Proofs.Try.prog nm fnE 48 75 := .of Go.Proofs.Try.func48 (by kernel_rfl) (by kernel_rfl) rfl (by kernel_rfl)
theorem ok49 : FnOk Go.Proofs.Try.prog nm fnE 49 20 := .of Go.Proofs.Try.func49 (by kernel_rfl) (by kernel_rfl) rfl (by kernel_rfl)
theorem ok50 : FnOk Go.Proofs.Try.prog nm fnE 50 87 := .of Go.Proofs.Try.func50 (by kernel_rfl) (by kernel_rfl) rfl (by kernel_rfl)
theorem ok54 : FnOk Go.Proofs.Try.prog nm fnE 54 79 := .of Go.Proofs.Try.func54 (by kernel_rfl) (by kernel_rfl) rfl (by kernel_rfl)
theorem ok56 : FnOk Go.Proofs.Try.prog nm fnE 56 81 := .of Go.Proofs.Try.func56 (by kernel_rfl) (by kernel_rfl) rfl (by kernel_rfl)
theorem ok62 : FnOk Go.Proofs.Try.prog nm fnE 62 21 := .of Go.Proofs.Try.func62 (by kernel_rfl) (by kernel_rfl) rfl (by kernel_rfl)
theorem ok63 : FnOk Go.Proofs.Try.prog nm fnE 63 90 := .of Go.Proofs.Try.func63 (by kernel_rfl) (by kernel_rfl) rfl (by kernel_rfl)
theorem ok68 : FnOk Go.Proofs.Try.prog nm fnE 68 25 := .of Go.Proofs.Try.func68 (by kernel_rfl) (by kernel_rfl) rfl (by kernel_rfl)
theorem ok69 : FnOk Go.Proofs.Try.prog nm fnE 69 48 := .of Go.Proofs.Try.func69 (by kernel_rfl) (by kernel_rfl) rfl (by kernel_rfl)
theorem ok70 : FnOk Go.Proofs.Try.prog nm fnE 70 42 := .of Go.Proofs.Try.func70 (by kernel_rfl) (by kernel_rfl) rfl (by kernel_rfl)
theorem ok71 : FnOk Go.Proofs.Try.prog nm fnE 71 64 := .of Go.Proofs.Try.func71 (by kernel_rfl) (by kernel_rfl) rfl (by kernel_rfl)
theorem ok72 : FnOk Go.Proofs.Try.prog nm fnE 72 23 := .of Go.Proofs.Try.func72 (by kernel_rfl) (by kernel_rfl) rfl (by kernel_rfl)
theorem ok73 : FnOk Go.Proofs.Try.prog nm fnE 73 49 := .of Go.Proofs.Try.func73 (by kernel_rfl) (by kernel_rfl) rfl (by kernel_rfl)
theorem ok82 : FnOk Go.Proofs.Try.prog nm fnE 82 17 := .of Go.Proofs.Try.func82 (by kernel_rfl) (by kernel_rfl) rfl (by kernel_rfl)
theorem ok83 : FnOk Go.Proofs.Try.prog nm fnE 83 45 := .of Go.Proofs.Try.func83 (by kernel_rfl) (by kernel_rfl) rfl (by kernel_rfl)
theorem ok84 : FnOk Go.Proofs.Try.prog nm fnE 84 47 := .of Go.Proofs.Try.func84 (by kernel_rfl) (by kernel_rfl) rfl (by kernel_rfl)
theorem ok85 : FnOk Go.Proofs.Try.prog nm fnE 85 84 := .of Go.Proofs.Try.func85 (by kernel_rfl) (by kernel_rfl) rfl (by kernel_rfl)
theorem ok86 : FnOk Go.Proofs.Try.prog nm fnE 86 85 := .of Go.Proofs.Try.func86 (by kernel_rfl) (by kernel_rfl) rfl (by kernel_rfl)
theorem ok87 : FnOk Go.Proofs.Try.prog nm fnE 87 86 := .of Go.Proofs.Try.func87 (by kernel_rfl) (by kernel_rfl) rfl (by kernel_rfl)
theorem ok88 : FnOk Go.Proofs.Try.prog nm fnE 88 82 := .of Go.Proofs.Try.func88 (by kernel_rfl) (by kernel_rfl) rfl (by kernel_rfl)
theorem ok90 : FnOk Go.Proofs.Try.prog nm fnE 90 18 := .of Go.Proofs.Try.func90 (by kernel_rfl) (by kernel_rfl) rfl (by kernel_rfl)
theorem y2pl : FnOk Go.Proofs.Try.prog nm fnE 100 93 := .of Go.Proofs.Try.func100 (by kernel_rfl) (by kernel_rfl) rfl (by kernel_rfl)
theorem y2qr : FnOk Go.Proofs.Try.prog nm fnE 101 95 := .of Go.Proofs.Try.func101 (by kernel_rfl) (by kernel_rfl) rfl (by kernel_rfl)
theorem y2t2 : FnOk Go.Proofs.Try.prog nm fnE 104 16 := .of Go.Proofs.Try.func104 (by kernel_rfl) (by kernel_rfl) rfl (by kernel_rfl)
theorem y2sd : FnOk Go.Proofs.Try.prog nm fnE 105 38 := .of Go.Proofs.Try.func105 (by kernel_rfl) (by kernel_rfl) rfl (by kernel_rfl)
theorem y2sm : FnOk Go.Proofs.Try.prog nm fnE 106 65 := .of Go.Proofs.Try.func106 (by kernel_rfl) (by kernel_rfl) rfl (by kernel_rfl)
theorem y2pn : FnOk Go.Proofs.Try.prog nm fnE 107 66 := .of Go.Proofs.Try.func107 (by kernel_rfl) (by kernel_rfl) rfl (by kernel_rfl)
theorem y2sz : FnOk Go.Proofs.Try.prog nm fnE 108 67 := .of Go.Proofs.Try.func108 (by kernel_rfl) (by kernel_rfl) rfl (by kernel_rfl)
theorem y2rf : FnOk Go.Proofs.Try.prog nm fnE 109 68 := .of Go.Proofs.Try.func109 (by kernel_rfl) (by kernel_rfl) rfl (by kernel_rfl)
theorem y2pz : FnOk Go.Proofs.Try.prog nm fnE 113 50 := .of Go.Proofs.Try.func113 (by kernel_rfl) (by kernel_rfl) rfl (by kernel_rfl)
theorem y2rg : FnOk Go.Proofs.Try.prog nm fnE 114 37 := .of Go.Proofs.Try.func114 (by kernel_rfl) (by kernel_rfl) rfl (by kernel_rfl)
theorem y2rj : FnOk Go.Proofs.Try.prog nm fnE 115 51 := .of Go.Proofs.Try.func115 (by kernel_rfl) (by kernel_rfl) rfl (by kernel_rfl)
theorem y2p1 : FnOk Go.Proofs.Try.prog nm fnE 116 83 := .of Go.Proofs.Try.func116 (by kernel_rfl) (by kernel_rfl) rfl (by kernel_rfl)
theorem y2s3 : FnOk Go.Proofs.Try.prog nm fnE 123 94 := .of Go.Proofs.Try.func123 (by kernel_rfl) (by kernel_rfl) rfl (by kernel_rfl)
theorem y2pm : FnOk Go.Proofs.Try.prog nm fnE 124 15 := .of Go.Proofs.Try.func124 (by kernel_rfl) (by kernel_rfl) rfl (by kernel_rfl)
theorem y2so : FnOk Go.Proofs.Try.prog nm fnE 125 92 := .of Go.Proofs.Try.func125 (by kernel_rfl) (by kernel_rfl) rfl (by kernel_rfl)
theorem y2q1 : FnOk Go.Proofs.Try.prog nm fnE 126 96 := .of Go.Proofs.Try.func126 (by kernel_rfl) (by kernel_rfl) rfl (by kernel_rfl)
theorem y2t8 : FnOk Go.Proofs.Try.prog nm fnE 127 69 := .of Go.Proofs.Try.func127 (by kernel_rfl) (by kernel_rfl) rfl (by kernel_rfl)
theorem y2ss : FnOk Go.Proofs.Try.prog nm fnE 130 44 := .of Go.Proofs.Try.func130 (by kernel_rfl) (by kernel_rfl) rfl (by kernel_rfl)
theorem y2pi : FnOk Go.Proofs.Try.prog nm fnE 132 7 := .of Go.Proofs.Try.func132 (by kernel_rfl) (by kernel_rfl) rfl (by kernel_rfl)
theorem y2qp : FnOk Go.Proofs.Try.prog nm fnE 133 19 := .of Go.Proofs.Try.func133 (by kernel_rfl) (by kernel_rfl) rfl (by kernel_rfl)
theorem y2rh : FnOk Go.Proofs.Try.prog nm fnE 134 53 := .ext Go.Proofs.Try.func134 (by kernel_rfl) (by kernel_rfl) rfl
theorem y2sh : FnOk Go.Proofs.Try.prog nm fnE 135 60 := .of Go.Proofs.Try.func135 (by kernel_rfl) (by kernel_rfl) rfl (by kernel_rfl)
theorem y2pg : AllF Go.Proofs.Try.prog nm fnE 0 tbl :=
  ⟨ok7, ok16, ok17, ok18, ok19, ok21, ok28, ok29, ok32, ok36, ok37, ok38, ok39, ok40, ok41, ok42, ok43, ok44, ok45, ok46, ok48, ok49, ok50, ok54, ok56, ok62, ok63, ok68, ok69, ok70, ok71, ok72, ok73, ok82, ok83, ok84, ok85, ok86, ok87, ok88, ok90, y2pl, y2qr, y2t2, y2sd, y2sm, y2pn, y2sz, y2rf, y2pz, y2rg, y2rj, y2p1, y2s3, y2pm, y2so, y2q1, y2t8, y2ss, y2pi, y2qp, y2rh, y2sh, trivial⟩
theorem y2qd : EnvOk Go.Proofs.Try.prog nm E := y29k (by kernel_rfl) y2pg (.contains (f := 134) (y2e6 (by kernel_rfl)) Go.Proofs.Try.strings_Contains_one)
end Go.Vm
