/- The machine's form of functions, each checked against the translation, and the environment that they make. -/
import Derived.Test.YtgbajicpokolcaaVc
import Derived.Test.YtgbajicpokolcaaProg
import Derived.Test.YtgbajicpokolcaaSd
import Derived.KernelRfl
set_option linter.unusedSimpArgs false
set_option linter.unusedVariables false
set_option linter.unusedSectionVars false
namespace Go.Vm
def y1et : CCode :=
  (.seq (.region [
 kO 45 (.fa 3 7),
 kO 46 (.ld false 1 45),
 kO 47 (.len 1 46),
 kO 48 (.bin .eql 47 (ci 1)),
 kO 4 (.mv 48)])
 .ret)
def y1de : CCode :=
  (.seq (.seq (.region [
 kO 40 (.mv 1)])
 (.cond 40
 (.seq (.region [
  kO 41 (.fa 3 7),
  kO 42 (.ld false 1 41),
  kO 43 (.len 1 42),
  kO 44 (.bin .eql 43 (ci 3)),
  kO 4 (.mv 44)])
  .ret)
 .skip))
 y1et)
def y12a : CCode :=
  (.seq (.region [
 kO 37 (.ld true 5 5),
 kO 38 (.call none true 118 [37]),
 kO 39 (.call none true 100 [38]),
 kO 7 (.new (some 7) [.nils, .nils, (.int .i64 0), .nils, .nils]),
 kU (.st 5 7 39)])
 y1de)
def y16g : CCode :=
  (.seq (.region [
 kO 30 (.fa 3 5),
 kO 31 (.ld false 1 30),
 kO 32 (.mv 6),
 kO 33 (.build [(.int .i64 0), (.int .i64 0), (.int .i64 0), (.int .i64 0), (.int .i64 0), (.int .i64 0), (.int .i64 0), (.str []), .nils] [(0, 1, (ci 30)), (2, 1, 32)]),
 kO 34 (.buildS (some 5) 9 1 [(.int .i64 0), (.int .i64 0), (.int .i64 0), (.int .i64 0), (.int .i64 0), (.int .i64 0), (.int .i64 0), (.str []), .nils] [(0, 33)]),
 kO 35 (.app (some 6) 9 96 31 34),
 kO 36 (.fa 3 5),
 kU (.st 1 36 35)])
 y12a)
def y12n : CCode :=
  (.seq (.seq (.region [
 kO 29 (.mv 1)])
 (.cond 29
 (.region [
  kO 6 (.mv (ci 1))])
 .skip))
 y16g)
def y1ji : CCode :=
  (.seq (.region [
 kO 6 (.mv (ci 0))])
 y12n)
def y16z : CCode :=
  (.region [
 kO 28 (.bin .add 19 (ci 1)),
 kO 19 (.mv 28)])
def y1lq : CCode :=
  (.seq (.block 1 (.region [
 kO 21 (.fa 3 5),
 kO 22 (.ld false 1 21),
 kO 23 (.build [(.int .i64 0), (.int .i64 0), (.int .i64 0), (.int .i64 0), (.int .i64 0), (.int .i64 0), (.int .i64 0), (.str []), .nils] [(0, 1, (ci 5)), (5, 1, (ci 96)), (1, 1, (ci 1)), (2, 1, (ci 0)), (3, 1, (ci 0))]),
 kO 24 (.build [(.int .i64 0), (.int .i64 0), (.int .i64 0), (.int .i64 0), (.int .i64 0), (.int .i64 0), (.int .i64 0), (.str []), .nils] [(0, 1, (ci 5)), (5, 1, (ci 104)), (1, 1, (ci 1)), (2, 1, (ci 1)), (3, 1, (ci 1))]),
 kO 25 (.buildS (some 3) 9 2 [(.int .i64 0), (.int .i64 0), (.int .i64 0), (.int .i64 0), (.int .i64 0), (.int .i64 0), (.int .i64 0), (.str []), .nils] [(0, 23), (1, 24)]),
 kO 26 (.app (some 4) 9 96 22 25),
 kO 27 (.fa 3 5),
 kU (.st 1 27 26)]))
 y16z)
def ys4 : CCode :=
  (.seq (.cond 20
 .skip
 (.exit 0))
 y1lq)
def yt9 : CCode :=
  (.seq (.region [
 kO 20 (.bin .lss 19 18)])
 ys4)
def yjj : CCode :=
  (.loop [1, 5, 18, 19] yt9)
def yyo : CCode :=
  (.block 0 yjj)
def yvj : CCode :=
  (.seq (.region [
 kO 18 (.mv 0),
 kO 19 (.mv (ci 0))])
 yyo)
def yut : CCode :=
  (.seq yvj
 y1ji)
def yst : CCode :=
  (.seq (.region [
 kO 15 (.buildS (some 0) 1 2 [(.int .i64 0)] [(0, (ci 1)), (1, (ci 1))]),
 kO 16 (.buildS (some 1) 1 1 [(.int .i64 0)] [(0, (ci 0))]),
 kO 17 (.build [.nils, .nils, (.int .i64 0), .nils, .nils] [(0, 1, 15), (1, 1, 16), (2, 1, (ci 1))]),
 kO 5 (.new (some 2) [.nils, .nils, (.int .i64 0), .nils, .nils]),
 kU (.st 5 5 17)])
 yut)
def yq6 : CCode :=
  (.seq (.region [
 kO 10 (.mv 0),
 kO 11 (.bin .rem 10 (ci 60)),
 kO 12 (.bin .add 11 (ci 60)),
 kO 13 (.bin .rem 12 (ci 60)),
 kO 14 (.bin .add 13 (ci 1)),
 kO 0 (.mv 14)])
 yst)
def yua : CCode :=
  (.seq (.seq (.region [
 kO 8 (.call none true 117 []),
 kO 9 (.un .not 8)])
 (.cond 9
 (.seq (.region [
  kO 4 (.mv (.c (.bool false)))])
  .ret)
 .skip))
 yq6)
def yv3 : CCode :=
  (.seq (.region [
 kO 4 (.mv (.c (.bool false)))])
 yua)
def y25j : CFunc :=
  ⟨2, true, 8, yv3, [.t 4]⟩
def y1au : CCode :=
  (.seq (.region [
 kO 39 (.ld true 5 3),
 kU (.st 5 2 39)])
 .ret)
def y1gj : CCode :=
  (.region [
 kO 38 (.bin .add 23 (ci 1)),
 kO 23 (.mv 38)])
def y1el : CCode :=
  (.seq (.block 1 (.seq (.region [
 kO 25 (.mv 23),
 kO 4 (.mv 25)])
 (.draw [
 kO 26 (.fa 3 3),
 kO 27 (.ld false 1 26),
 kO 28 (.mv 4),
 kO 29 (.fa 3 3),
 kO 30 (.ld false 1 29),
 kO 31 (.mv 4),
 kO 32 (.ixs 9 30 31),
 kO 33 (.fa 8 32),
 kO 34 (.ld false 1 33),
 kO 35 (.call none true 39 [34]),
 kO 36 (.ixs 9 27 28),
 kO 37 (.fa 8 36),
 kU (.st 1 37 35)] [(1, 9)])))
 y1gj)
def y15f : CCode :=
  (.seq (.cond 24
 .skip
 (.exit 0))
 y1el)
def y161 : CCode :=
  (.seq (.region [
 kO 24 (.bin .lss 23 22)])
 y15f)
def ykq : CCode :=
  (.loop [2, 3, 22, 23] y161)
def y1a6 : CCode :=
  (.block 0 ykq)
def y1g8 : CCode :=
  (.seq (.region [
 kO 20 (.fa 3 3),
 kO 21 (.ld false 1 20),
 kO 22 (.len 1 21),
 kO 23 (.mv (ci 0))])
 y1a6)
def y17x : CCode :=
  (.seq y1g8
 y1au)
def yx0 : CCode :=
  (.seq (.draw [
 kO 5 (.fa 0 1),
 kO 6 (.ld false 1 5),
 kO 7 (.call (some 2) false 39 [6]),
 kO 8 (.fa 1 1),
 kO 9 (.ld false 1 8),
 kO 10 (.call (some 3) false 39 [9]),
 kO 11 (.fa 2 1),
 kO 12 (.ld false 1 11),
 kO 13 (.fa 3 1),
 kO 14 (.ld false 1 13),
 kO 15 (.call (some 4) false 40 [14]),
 kO 16 (.fa 4 1),
 kO 17 (.ld false 1 16),
 kO 18 (.call (some 5) false 41 [17]),
 kO 19 (.build [.nils, .nils, (.int .i64 0), .nils, .nils] [(0, 1, 7), (1, 1, 10), (2, 1, 12), (3, 1, 15), (4, 1, 18)]),
 kO 3 (.new (some 6) [.nils, .nils, (.int .i64 0), .nils, .nils]),
 kU (.st 5 3 19)] [(2, 4), (2, 7), (5, 7), (2, 9), (5, 9), (7, 10), (2, 12), (5, 12), (10, 12), (7, 13), (1, 15), (2, 15), (4, 15), (5, 15), (7, 15), (9, 15), (10, 15), (12, 15), (13, 15)])
 y17x)
def yxt : CCode :=
  (.seq (.region [
 kO 1 (.box (some 0) 0),
 kO 2 (.new (some 1) [.nils, .nils, (.int .i64 0), .nils, .nils])])
 yx0)
def y27p : CFunc :=
  ⟨1, true, 7, yxt, [.cell 2 true 5]⟩
def y1pn : CCode :=
  (.seq (.region [
 kO 4 (.mv (.c (.bool true)))])
 .ret)
def y1ox : CCode :=
  (.region [
 kO 70 (.mv 6),
 kO 71 (.bin .add 70 (ci 1)),
 kO 6 (.mv 71)])
def y1t2 : CCode :=
  (.seq (.block 3 (.seq (.draw [
 kO 72 (.fa 4 2),
 kO 73 (.ld false 1 72),
 kO 74 (.mv 6),
 kO 75 (.ixs 4 73 74),
 kO 76 (.ld true 4 75),
 kO 77 (.fa 4 3),
 kO 78 (.ld false 1 77),
 kO 79 (.mv 6),
 kO 80 (.ixs 4 78 79),
 kO 81 (.ld true 4 80),
 kO 82 (.eqa true [0, 0, 0, 2] 76 81)] [])
 (.cond 82
 (.seq (.region [
  kO 4 (.mv (.c (.bool false)))])
  .ret)
 .skip)))
 y1ox)
def y1ps : CCode :=
  (.seq (.seq (.region [
 kO 65 (.mv 6),
 kO 66 (.fa 4 2),
 kO 67 (.ld false 1 66),
 kO 68 (.len 1 67),
 kO 69 (.bin .lss 65 68)])
 (.cond 69
 .skip
 (.exit 2)))
 y1t2)
def y19b : CCode :=
  (.loop [2, 3, 6] y1ps)
def y1sv : CCode :=
  (.block 2 y19b)
def y1mi : CCode :=
  (.seq (.region [
 kO 6 (.mv (ci 0))])
 y1sv)
def y1nf : CCode :=
  (.seq y1mi
 y1pn)
def y193 : CCode :=
  (.region [
 kO 51 (.mv 5),
 kO 52 (.bin .add 51 (ci 1)),
 kO 5 (.mv 52)])
def y182 : CCode :=
  (.seq (.block 1 (.seq (.draw [
 kO 53 (.fa 3 2),
 kO 54 (.ld false 1 53),
 kO 55 (.mv 5),
 kO 56 (.ixs 9 54 55),
 kO 57 (.ld true 9 56),
 kO 58 (.fa 3 3),
 kO 59 (.ld false 1 58),
 kO 60 (.mv 5),
 kO 61 (.ixs 9 59 60),
 kO 62 (.ld true 9 61),
 kO 63 (.call none true 28 [57, 62]),
 kO 64 (.un .not 63)] [])
 (.cond 64
 (.seq (.region [
  kO 4 (.mv (.c (.bool false)))])
  .ret)
 .skip)))
 y193)
def y1f0 : CCode :=
  (.seq (.seq (.region [
 kO 46 (.mv 5),
 kO 47 (.fa 3 2),
 kO 48 (.ld false 1 47),
 kO 49 (.len 1 48),
 kO 50 (.bin .lss 46 49)])
 (.cond 50
 .skip
 (.exit 0)))
 y182)
def y1gq : CCode :=
  (.loop [2, 3, 5] y1f0)
def y1jd : CCode :=
  (.block 0 y1gq)
def y1db : CCode :=
  (.seq (.region [
 kO 5 (.mv (ci 0))])
 y1jd)
def y1fl : CCode :=
  (.seq y1db
 y1nf)
def y1cs : CCode :=
  (.seq (.seq (.region [
 kO 7 (.fa 0 2),
 kO 8 (.ld false 1 7),
 kO 9 (.fa 0 3),
 kO 10 (.ld false 1 9),
 kO 11 (.call none true 11 [8, 10]),
 kO 12 (.un .not 11),
 kO 13 (.mv 12),
 kG 14 (.fa 1 2) 13 false,
 kG 15 (.ld false 1 14) 13 false,
 kG 16 (.fa 1 3) 13 false,
 kG 17 (.ld false 1 16) 13 false,
 kG 18 (.call none true 11 [15, 17]) 13 false,
 kG 19 (.un .not 18) 13 false,
 kO 20 (.pick 13 (.c (.bool true)) 19),
 kO 21 (.mv 20),
 kG 22 (.fa 2 2) 21 false,
 kG 23 (.ld false 1 22) 21 false,
 kG 24 (.fa 2 3) 21 false,
 kG 25 (.ld false 1 24) 21 false,
 kG 26 (.bin .neq 23 25) 21 false,
 kO 27 (.pick 21 (.c (.bool true)) 26),
 kO 28 (.mv 27),
 kG 29 (.fa 3 2) 28 false,
 kG 30 (.ld false 1 29) 28 false,
 kG 31 (.len 1 30) 28 false,
 kG 32 (.fa 3 3) 28 false,
 kG 33 (.ld false 1 32) 28 false,
 kG 34 (.len 1 33) 28 false,
 kG 35 (.bin .neq 31 34) 28 false,
 kO 36 (.pick 28 (.c (.bool true)) 35),
 kO 37 (.mv 36),
 kG 38 (.fa 4 2) 37 false,
 kG 39 (.ld false 1 38) 37 false,
 kG 40 (.len 1 39) 37 false,
 kG 41 (.fa 4 3) 37 false,
 kG 42 (.ld false 1 41) 37 false,
 kG 43 (.len 1 42) 37 false,
 kG 44 (.bin .neq 40 43) 37 false,
 kO 45 (.pick 37 (.c (.bool true)) 44)])
 (.cond 45
 (.seq (.region [
  kO 4 (.mv (.c (.bool false)))])
  .ret)
 .skip))
 y1fl)
def y1g1 : CCode :=
  (.seq (.region [
 kO 2 (.box (some 0) 0),
 kO 3 (.box (some 1) 1),
 kO 4 (.mv (.c (.bool false)))])
 y1cs)
def y26s : CFunc :=
  ⟨2, true, 2, y1g1, [.t 4]⟩
def y17q : CCode :=
  (.seq (.region [
 kO 2 (.mv (ci 0))])
 .ret)
def y120 : CCode :=
  (.region [
 kO 179 (.bin .add 138 (ci 1)),
 kO 138 (.mv 179)])
def y15q : CCode :=
  (.seq (.block 7 (.seq (.region [
 kO 140 (.ixs 4 136 138),
 kO 141 (.ld true 4 140),
 kO 11 (.new (some 2) [(.int .i64 0), (.int .i64 0), (.int .i64 0), (.str [])]),
 kU (.st 4 11 141)])
 (.seq (.region [
 kO 142 (.fa 0 11),
 kO 143 (.ld false 1 142),
 kO 144 (.bin .lss 143 (ci 0)),
 kO 145 (.mv 144),
 kG 146 (.fa 0 11) 145 false,
 kG 147 (.ld false 1 146) 145 false,
 kG 148 (.fa 1 11) 145 false,
 kG 149 (.ld false 1 148) 145 false,
 kG 150 (.bin .geq 147 149) 145 false,
 kO 151 (.pick 145 (.c (.bool true)) 150),
 kO 152 (.mv 151),
 kG 153 (.fa 1 11) 152 false,
 kG 154 (.ld false 1 153) 152 false,
 kG 155 (.mv 3) 152 false,
 kG 156 (.bin .gtr 154 155) 152 false,
 kO 157 (.pick 152 (.c (.bool true)) 156),
 kO 158 (.mv 157),
 kG 159 (.fa 2 11) 158 false,
 kG 160 (.ld false 1 159) 158 false,
 kG 161 (.bin .lss 160 (ci 0)) 158 false,
 kO 162 (.pick 158 (.c (.bool true)) 161),
 kO 163 (.mv 162),
 kG 164 (.fa 2 11) 163 false,
 kG 165 (.ld false 1 164) 163 false,
 kG 166 (.mv 3) 163 false,
 kG 167 (.bin .geq 165 166) 163 false,
 kO 168 (.pick 163 (.c (.bool true)) 167),
 kO 169 (.mv 168),
 kG 170 (.fa 3 1) 169 false,
 kG 171 (.ld false 1 170) 169 false,
 kG 172 (.fa 2 11) 169 false,
 kG 173 (.ld false 1 172) 169 false,
 kG 174 (.ixs 9 171 173) 169 false,
 kG 175 (.fa 0 174) 169 false,
 kG 176 (.ld false 1 175) 169 false,
 kG 177 (.bin .neq 176 (ci 32)) 169 false,
 kO 178 (.pick 169 (.c (.bool true)) 177)])
 (.cond 178
 (.seq (.region [
  kO 2 (.mv (ci 80))])
  .ret)
 .skip))))
 y120)
def y17u : CCode :=
  (.seq (.cond 139
 .skip
 (.exit 6))
 y15q)
def y1kf : CCode :=
  (.seq (.region [
 kO 139 (.bin .lss 138 137)])
 y17u)
def ykp : CCode :=
  (.loop [1, 3, 136, 137, 138] y1kf)
def y18r : CCode :=
  (.block 6 ykp)
def y1e7 : CCode :=
  (.seq (.region [
 kO 135 (.fa 4 1),
 kO 136 (.ld false 1 135),
 kO 137 (.len 1 136),
 kO 138 (.mv (ci 0))])
 y18r)
def y1hg : CCode :=
  (.seq y1e7
 y17q)
def yzg : CCode :=
  (.region [
 kO 134 (.bin .add 94 (ci 1)),
 kO 94 (.mv 134)])
def yro : CCode :=
  (.seq (.region [
 kO 103 (.fa 0 9),
 kO 104 (.ld false 1 103),
 kO 105 (.bin .eql 104 (ci 32)),
 kO 106 (.mv 105),
 kG 107 (.mv 8) 106 true,
 kG 108 (.bin .eql 107 (ci 0)) 106 true,
 kG 109 (.mv 108) 106 true,
 kG 110 (.fa 3 1) 109 false,
 kG 111 (.ld false 1 110) 109 false,
 kG 112 (.mv 8) 109 false,
 kG 113 (.bin .sub 112 (ci 1)) 109 false,
 kG 114 (.ixs 9 111 113) 109 false,
 kG 115 (.ld true 9 114) 109 false,
 kG 116 (.call none true 24 [115]) 109 false,
 kG 117 (.un .not 116) 109 false,
 kG 118 (.pick 109 (.c (.bool true)) 117) 106 true,
 kO 119 (.pick 106 118 (.c (.bool false))),
 kO 120 (.mv 119),
 kG 121 (.ld true 9 9) 120 false,
 kG 122 (.call none true 22 [121]) 120 false,
 kG 123 (.mv 122) 120 false,
 kG 124 (.fa 3 1) 123 true,
 kG 125 (.ld false 1 124) 123 true,
 kG 126 (.fa 6 9) 123 true,
 kG 127 (.ld false 1 126) 123 true,
 kG 128 (.ixs 9 125 127) 123 true,
 kG 129 (.fa 0 128) 123 true,
 kG 130 (.ld false 1 129) 123 true,
 kG 131 (.bin .eql 130 (ci 32)) 123 true,
 kG 132 (.pick 123 131 (.c (.bool false))) 120 false,
 kO 133 (.pick 120 (.c (.bool true)) 132)])
 (.cond 133
 (.seq (.region [
  kO 2 (.mv (ci 80))])
  .ret)
 .skip))
def yxq : CCode :=
  (.seq (.seq (.region [
 kO 99 (.ld true 5 1),
 kO 100 (.ld true 9 9),
 kO 101 (.call none true 63 [99, 100]),
 kO 102 (.un .not 101)])
 (.cond 102
 (.seq (.region [
  kO 2 (.mv (ci 80))])
  .ret)
 .skip))
 yro)
def yw1 : CCode :=
  (.seq (.region [
 kO 96 (.mv 94),
 kO 97 (.ixs 9 92 94),
 kO 98 (.ld true 9 97),
 kO 9 (.new (some 1) [(.int .i64 0), (.int .i64 0), (.int .i64 0), (.int .i64 0), (.int .i64 0), (.int .i64 0), (.int .i64 0), (.str []), .nils]),
 kO 8 (.mv 96),
 kU (.st 9 9 98)])
 yxq)
def yqg : CCode :=
  (.block 5 yw1)
def ysu : CCode :=
  (.seq yqg
 yzg)
def yv8 : CCode :=
  (.seq (.cond 95
 .skip
 (.exit 4))
 ysu)
def yr2 : CCode :=
  (.seq (.region [
 kO 95 (.bin .lss 94 93)])
 yv8)
def yf8 : CCode :=
  (.loop [1, 3, 92, 93, 94] yr2)
def yxw : CCode :=
  (.block 4 yf8)
def yqn : CCode :=
  (.seq (.region [
 kO 91 (.fa 3 1),
 kO 92 (.ld false 1 91),
 kO 93 (.len 1 92),
 kO 94 (.mv (ci 0))])
 yxw)
def yvd : CCode :=
  (.seq yqn
 y1hg)
def yxi : CCode :=
  (.region [
 kO 90 (.bin .add 64 (ci 1)),
 kO 64 (.mv 90)])
def ytt : CCode :=
  (.seq (.block 3 (.seq (.region [
 kO 66 (.mv 64),
 kO 67 (.ixs 1 62 64),
 kO 68 (.ld false 1 67),
 kO 6 (.mv 66),
 kO 7 (.mv 68)])
 (.seq (.region [
 kO 69 (.mv 7),
 kO 70 (.bin .lss 69 (ci 0)),
 kO 71 (.mv 70),
 kG 72 (.mv 7) 71 false,
 kG 73 (.fa 0 1) 71 false,
 kG 74 (.ld false 1 73) 71 false,
 kG 75 (.len 1 74) 71 false,
 kG 76 (.bin .geq 72 75) 71 false,
 kO 77 (.pick 71 (.c (.bool true)) 76),
 kO 78 (.mv 77),
 kG 79 (.fa 1 1) 78 false,
 kG 80 (.ld false 1 79) 78 false,
 kG 81 (.mv 6) 78 false,
 kG 82 (.slc 1 80 none (some 81)) 78 false,
 kG 83 (.mv 7) 78 false,
 kG 84 (.call none true 46 [82, 83]) 78 false,
 kO 85 (.pick 78 (.c (.bool true)) 84),
 kO 86 (.mv 85),
 kG 87 (.mv 6) 86 false,
 kG 88 (.bin .gtr 87 (ci 20)) 86 false,
 kO 89 (.pick 86 (.c (.bool true)) 88)])
 (.cond 89
 (.seq (.region [
  kO 2 (.mv (ci 80))])
  .ret)
 .skip))))
 yxi)
def yyp : CCode :=
  (.seq (.cond 65
 .skip
 (.exit 2))
 ytt)
def yz5 : CCode :=
  (.seq (.region [
 kO 65 (.bin .lss 64 63)])
 yyp)
def yfe : CCode :=
  (.loop [1, 3, 62, 63, 64] yz5)
def ys0 : CCode :=
  (.block 2 yfe)
def ytf : CCode :=
  (.seq (.region [
 kO 61 (.fa 1 1),
 kO 62 (.ld false 1 61),
 kO 63 (.len 1 62),
 kO 64 (.mv (ci 0))])
 ys0)
def yz0 : CCode :=
  (.seq ytf
 yvd)
def yy1 : CCode :=
  (.region [
 kO 60 (.bin .add 50 (ci 1)),
 kO 50 (.mv 60)])
def yxz : CCode :=
  (.seq (.block 1 (.seq (.region [
 kO 52 (.ixs 1 48 50),
 kO 53 (.ld false 1 52),
 kO 5 (.mv 53)])
 (.seq (.region [
 kO 54 (.mv 5),
 kO 55 (.bin .lss 54 (ci 1)),
 kO 56 (.mv 55),
 kG 57 (.mv 5) 56 false,
 kG 58 (.bin .gtr 57 (ci 3)) 56 false,
 kO 59 (.pick 56 (.c (.bool true)) 58)])
 (.cond 59
 (.seq (.region [
  kO 2 (.mv (ci 80))])
  .ret)
 .skip))))
 yy1)
def yuf : CCode :=
  (.seq (.cond 51
 .skip
 (.exit 0))
 yxz)
def yyi : CCode :=
  (.seq (.region [
 kO 51 (.bin .lss 50 49)])
 yuf)
def yfl : CCode :=
  (.loop [1, 3, 48, 49, 50] yyi)
def ys7 : CCode :=
  (.block 0 yfl)
def yyy : CCode :=
  (.seq (.region [
 kO 47 (.fa 0 1),
 kO 48 (.ld false 1 47),
 kO 49 (.len 1 48),
 kO 50 (.mv (ci 0))])
 ys7)
def ysg : CCode :=
  (.seq yyy
 yz0)
def ytv : CCode :=
  (.seq (.seq (.region [
 kO 15 (.mv 3),
 kO 16 (.bin .lss 15 (ci 1)),
 kO 17 (.mv 16),
 kG 18 (.mv 3) 17 false,
 kG 19 (.bin .gtr 18 (ci 20000)) 17 false,
 kO 20 (.pick 17 (.c (.bool true)) 19),
 kO 21 (.mv 20),
 kG 22 (.fa 0 1) 21 false,
 kG 23 (.ld false 1 22) 21 false,
 kG 24 (.len 1 23) 21 false,
 kG 25 (.bin .gtr 24 (ci 20000)) 21 false,
 kO 26 (.pick 21 (.c (.bool true)) 25),
 kO 27 (.mv 26),
 kG 28 (.fa 2 1) 27 false,
 kG 29 (.ld false 1 28) 27 false,
 kG 30 (.bin .lss 29 (ci 0)) 27 false,
 kO 31 (.pick 27 (.c (.bool true)) 30),
 kO 32 (.mv 31),
 kG 33 (.fa 2 1) 32 false,
 kG 34 (.ld false 1 33) 32 false,
 kG 35 (.bin .gtr 34 (ci 3)) 32 false,
 kO 36 (.pick 32 (.c (.bool true)) 35),
 kO 37 (.mv 36),
 kG 38 (.fa 3 1) 37 false,
 kG 39 (.ld false 1 38) 37 false,
 kG 40 (.mv 3) 37 false,
 kG 41 (.bin .sub 40 (ci 1)) 37 false,
 kG 42 (.ixs 9 39 41) 37 false,
 kG 43 (.ld true 9 42) 37 false,
 kG 44 (.call none true 24 [43]) 37 false,
 kG 45 (.un .not 44) 37 false,
 kO 46 (.pick 37 (.c (.bool true)) 45)])
 (.cond 46
 (.seq (.region [
  kO 2 (.mv (ci 80))])
  .ret)
 .skip))
 ysg)
def yy0 : CCode :=
  (.seq (.region [
 kO 12 (.fa 3 1),
 kO 13 (.ld false 1 12),
 kO 14 (.len 1 13),
 kO 3 (.mv 14)])
 ytv)
def yxm : CCode :=
  (.seq (.region [
 kO 1 (.box (some 0) 0),
 kO 2 (.mv (ci 0))])
 yy0)
def y24z : CFunc :=
  ⟨1, true, 3, yxm, [.t 2]⟩
def y2bi : CFunc :=
  ⟨0, true, 3, (.seq (.region [
    kO 0 (.mv (.c (.bool false)))])
  (.seq (.region [
    kO 2 (.buildS (some 0) 1 2 [(.int .i64 0)] [(0, (ci 1)), (1, (ci 1))]),
    kO 3 (.build [(.int .i64 0), (.int .i64 0), (.int .i64 0), (.int .i64 0), (.int .i64 0), (.int .i64 0), (.int .i64 0), (.str []), .nils] [(0, 1, (ci 1)), (1, 1, (ci 0)), (5, 1, (ci 2))]),
    kO 4 (.build [(.int .i64 0), (.int .i64 0), (.int .i64 0), (.int .i64 0), (.int .i64 0), (.int .i64 0), (.int .i64 0), (.str []), .nils] [(0, 1, (ci 4)), (1, 1, (ci 1)), (2, 1, (ci 0))]),
    kO 5 (.build [(.int .i64 0), (.int .i64 0), (.int .i64 0), (.int .i64 0), (.int .i64 0), (.int .i64 0), (.int .i64 0), (.str []), .nils] [(0, 1, (ci 30)), (2, 1, (ci (-1)))]),
    kO 6 (.buildS (some 1) 9 3 [(.int .i64 0), (.int .i64 0), (.int .i64 0), (.int .i64 0), (.int .i64 0), (.int .i64 0), (.int .i64 0), (.str []), .nils] [(0, 3), (1, 4), (2, 5)]),
    kO 7 (.build [.nils, .nils, (.int .i64 0), .nils, .nils] [(0, 1, 2), (3, 1, 6)]),
    kO 8 (.call none true 118 [7]),
    kO 1 (.new (some 2) [.nils, .nils, (.int .i64 0), .nils, .nils]),
    kU (.st 5 1 8)])
  (.seq (.region [
    kO 9 (.fa 3 1),
    kO 10 (.ld false 1 9),
    kO 11 (.len 1 10),
    kO 12 (.bin .eql 11 (ci 3)),
    kO 13 (.mv 12),
    kG 14 (.fa 3 1) 13 true,
    kG 15 (.ld false 1 14) 13 true,
    kG 16 (.ixs 9 15 (ci 0)) 13 true,
    kG 17 (.fa 0 16) 13 true,
    kG 18 (.ld false 1 17) 13 true,
    kG 19 (.bin .eql 18 (ci 33)) 13 true,
    kO 20 (.pick 13 19 (.c (.bool false))),
    kO 21 (.mv 20),
    kG 22 (.fa 3 1) 21 true,
    kG 23 (.ld false 1 22) 21 true,
    kG 24 (.ixs 9 23 (ci 1)) 21 true,
    kG 25 (.fa 0 24) 21 true,
    kG 26 (.ld false 1 25) 21 true,
    kG 27 (.bin .eql 26 (ci 33)) 21 true,
    kO 28 (.pick 21 27 (.c (.bool false))),
    kO 29 (.mv 28),
    kG 30 (.fa 3 1) 29 true,
    kG 31 (.ld false 1 30) 29 true,
    kG 32 (.ixs 9 31 (ci 2)) 29 true,
    kG 33 (.fa 0 32) 29 true,
    kG 34 (.ld false 1 33) 29 true,
    kG 35 (.bin .eql 34 (ci 30)) 29 true,
    kO 36 (.pick 29 35 (.c (.bool false))),
    kO 0 (.mv 36)])
  .ret))), [.t 0]⟩
def y1d5 : CCode :=
  (.seq (.region [
 kO 150 (.ld true 5 9),
 kU (.st 5 2 150)])
 .ret)
def y1jv : CCode :=
  (.region [
 kO 149 (.bin .add 104 (ci 1)),
 kO 104 (.mv 149)])
def y1jz : CCode :=
  (.seq (.block 7 (.seq (.region [
 kO 106 (.ixs 4 102 104),
 kO 107 (.ld true 4 106),
 kO 13 (.new (some 9) [(.int .i64 0), (.int .i64 0), (.int .i64 0), (.str [])]),
 kU (.st 4 13 107)])
 (.seq (.draw [
 kO 108 (.mv 3),
 kO 109 (.fa 2 13),
 kO 110 (.ld false 1 109),
 kO 111 (.ixs 1 108 110),
 kO 112 (.ld false 1 111),
 kO 113 (.mv 112),
 kG 114 (.mv 6) 113 true,
 kG 115 (.fa 0 13) 113 true,
 kG 116 (.ld false 1 115) 113 true,
 kG 117 (.ixs 1 114 116) 113 true,
 kG 118 (.ld false 1 117) 113 true,
 kG 119 (.mv 6) 113 true,
 kG 120 (.fa 1 13) 113 true,
 kG 121 (.ld false 1 120) 113 true,
 kG 122 (.ixs 1 119 121) 113 true,
 kG 123 (.ld false 1 122) 113 true,
 kG 124 (.bin .lss 118 123) 113 true,
 kO 125 (.pick 113 124 (.c (.bool false)))] [])
 (.cond 125
 (.draw [
  kO 126 (.fa 4 9),
  kO 127 (.ld false 1 126),
  kO 128 (.mv 6),
  kO 129 (.fa 0 13),
  kO 130 (.ld false 1 129),
  kO 131 (.ixs 1 128 130),
  kO 132 (.ld false 1 131),
  kO 133 (.mv 6),
  kO 134 (.fa 1 13),
  kO 135 (.ld false 1 134),
  kO 136 (.ixs 1 133 135),
  kO 137 (.ld false 1 136),
  kO 138 (.mv 6),
  kO 139 (.fa 2 13),
  kO 140 (.ld false 1 139),
  kO 141 (.ixs 1 138 140),
  kO 142 (.ld false 1 141),
  kO 143 (.fa 3 13),
  kO 144 (.ld false 1 143),
  kO 145 (.build [(.int .i64 0), (.int .i64 0), (.int .i64 0), (.str [])] [(0, 1, 132), (1, 1, 137), (2, 1, 142), (3, 1, 144)]),
  kO 146 (.buildS (some 10) 4 1 [(.int .i64 0), (.int .i64 0), (.int .i64 0), (.str [])] [(0, 145)]),
  kO 147 (.app (some 11) 4 40 127 146),
  kO 148 (.fa 4 9),
  kU (.st 1 148 147)] [(1, 20)])
 .skip))))
 y1jv)
def y1io : CCode :=
  (.seq (.cond 105
 .skip
 (.exit 6))
 y1jz)
def y1ae : CCode :=
  (.seq (.region [
 kO 105 (.bin .lss 104 103)])
 y1io)
def ykc : CCode :=
  (.loop [2, 3, 6, 9, 102, 103, 104] y1ae)
def y1fu : CCode :=
  (.block 6 ykc)
def y1lk : CCode :=
  (.seq (.region [
 kO 101 (.fa 4 1),
 kO 102 (.ld false 1 101),
 kO 103 (.len 1 102),
 kO 104 (.mv (ci 0))])
 y1fu)
def y1b4 : CCode :=
  (.seq y1lk
 y1d5)
def yuh : CCode :=
  (.region [
 kO 100 (.bin .add 75 (ci 1)),
 kO 75 (.mv 100)])
def yvy : CCode :=
  (.region [
 kO 94 (.fa 3 9),
 kO 95 (.ld false 1 94),
 kO 96 (.ld true 9 11),
 kO 97 (.buildS (some 7) 9 1 [(.int .i64 0), (.int .i64 0), (.int .i64 0), (.int .i64 0), (.int .i64 0), (.int .i64 0), (.int .i64 0), (.str []), .nils] [(0, 96)]),
 kO 98 (.app (some 8) 9 96 95 97),
 kO 99 (.fa 3 9),
 kU (.st 1 99 98)])
def yrp : CCode :=
  (.seq (.seq (.region [
 kO 85 (.ld true 9 11),
 kO 86 (.call none true 22 [85])])
 (.cond 86
 (.region [
  kO 87 (.mv 6),
  kO 88 (.fa 6 11),
  kO 89 (.ld false 1 88),
  kO 90 (.ixs 1 87 89),
  kO 91 (.ld false 1 90),
  kO 92 (.fa 6 11),
  kU (.st 1 92 91)])
 (.region [
  kO 93 (.fa 6 11),
  kU (.st 1 93 (ci 0))])))
 yvy)
def ytz : CCode :=
  (.seq (.seq (.region [
 kO 80 (.mv 3),
 kO 81 (.mv 10),
 kO 82 (.ixs 1 80 81),
 kO 83 (.ld false 1 82),
 kO 84 (.un .not 83)])
 (.cond 84
 (.exit 5)
 .skip))
 yrp)
def yyw : CCode :=
  (.seq (.region [
 kO 77 (.mv 75),
 kO 78 (.ixs 9 73 75),
 kO 79 (.ld true 9 78),
 kO 11 (.new (some 6) [(.int .i64 0), (.int .i64 0), (.int .i64 0), (.int .i64 0), (.int .i64 0), (.int .i64 0), (.int .i64 0), (.str []), .nils]),
 kO 10 (.mv 77),
 kU (.st 9 11 79)])
 ytz)
def yw3 : CCode :=
  (.block 5 yyw)
def yq4 : CCode :=
  (.seq yw3
 yuh)
def ys8 : CCode :=
  (.seq (.cond 76
 .skip
 (.exit 4))
 yq4)
def ywd : CCode :=
  (.seq (.region [
 kO 76 (.bin .lss 75 74)])
 ys8)
def yg3 : CCode :=
  (.loop [1, 2, 3, 6, 9, 73, 74, 75] ywd)
def yxx : CCode :=
  (.block 4 yg3)
def yxp : CCode :=
  (.seq (.region [
 kO 72 (.fa 3 1),
 kO 73 (.ld false 1 72),
 kO 74 (.len 1 73),
 kO 75 (.mv (ci 0))])
 yxx)
def ywb : CCode :=
  (.seq yxp
 y1b4)
def ys3 : CCode :=
  (.seq (.region [
 kO 65 (.fa 0 1),
 kO 66 (.ld false 1 65),
 kO 67 (.fa 1 1),
 kO 68 (.ld false 1 67),
 kO 69 (.fa 2 1),
 kO 70 (.ld false 1 69),
 kO 71 (.build [.nils, .nils, (.int .i64 0), .nils, .nils] [(0, 1, 66), (1, 1, 68), (2, 1, 70)]),
 kO 9 (.new (some 5) [.nils, .nils, (.int .i64 0), .nils, .nils]),
 kU (.st 5 9 71)])
 ywb)
def yv7 : CCode :=
  (.seq (.region [
 kO 59 (.mv 6),
 kO 60 (.fa 3 1),
 kO 61 (.ld false 1 60),
 kO 62 (.len 1 61),
 kO 63 (.mv 7),
 kO 64 (.ixs 1 59 62),
 kU (.st 1 64 63)])
 ys3)
def yyt : CCode :=
  (.region [
 kO 58 (.bin .add 45 (ci 1)),
 kO 45 (.mv 58)])
def yyn : CCode :=
  (.seq (.block 3 (.seq (.region [
 kO 47 (.mv 45),
 kO 8 (.mv 47)])
 (.seq (.region [
 kO 48 (.mv 6),
 kO 49 (.mv 8),
 kO 50 (.mv 7),
 kO 51 (.ixs 1 48 49),
 kU (.st 1 51 50)])
 (.seq (.region [
 kO 52 (.mv 3),
 kO 53 (.mv 8),
 kO 54 (.ixs 1 52 53),
 kO 55 (.ld false 1 54)])
 (.cond 55
 (.region [
  kO 56 (.mv 7),
  kO 57 (.bin .add 56 (ci 1)),
  kO 7 (.mv 57)])
 .skip)))))
 yyt)
def yrr : CCode :=
  (.seq (.cond 46
 .skip
 (.exit 2))
 yyn)
def yyu : CCode :=
  (.seq (.region [
 kO 46 (.bin .lss 45 44)])
 yrr)
def yf6 : CCode :=
  (.loop [1, 2, 3, 6, 7, 44, 45] yyu)
def yyk : CCode :=
  (.block 2 yf6)
def ysj : CCode :=
  (.seq (.region [
 kO 42 (.fa 3 1),
 kO 43 (.ld false 1 42),
 kO 44 (.len 1 43),
 kO 45 (.mv (ci 0))])
 yyk)
def yrk : CCode :=
  (.seq ysj
 yv7)
def yvl : CCode :=
  (.seq (.region [
 kO 7 (.mv (ci 0))])
 yrk)
def yyj : CCode :=
  (.seq (.region [
 kO 37 (.fa 3 1),
 kO 38 (.ld false 1 37),
 kO 39 (.len 1 38),
 kO 40 (.bin .add 39 (ci 1)),
 kO 41 (.mkS (some 4) 1 8 [(.int .i64 0)] 40 40),
 kO 6 (.mv 41)])
 yvl)
def yvr : CCode :=
  (.region [
 kO 36 (.bin .add 25 (ci 1)),
 kO 25 (.mv 36)])
def yt3 : CCode :=
  (.seq (.block 1 (.seq (.region [
 kO 27 (.mv 25),
 kO 28 (.ixs 9 23 25),
 kO 29 (.ld true 9 28),
 kO 5 (.new (some 3) [(.int .i64 0), (.int .i64 0), (.int .i64 0), (.int .i64 0), (.int .i64 0), (.int .i64 0), (.int .i64 0), (.str []), .nils]),
 kO 4 (.mv 27),
 kU (.st 9 5 29)])
 (.seq (.region [
 kO 30 (.fa 0 5),
 kO 31 (.ld false 1 30),
 kO 32 (.bin .eql 31 (ci 33))])
 (.cond 32
 (.region [
  kO 33 (.mv 3),
  kO 34 (.mv 4),
  kO 35 (.ixs 1 33 34),
  kU (.st 1 35 (.c (.bool false)))])
 .skip))))
 yvr)
def yzl : CCode :=
  (.seq (.cond 26
 .skip
 (.exit 0))
 yt3)
def yx3 : CCode :=
  (.seq (.region [
 kO 26 (.bin .lss 25 24)])
 yzl)
def yf1 : CCode :=
  (.loop [1, 2, 3, 23, 24, 25] yx3)
def yw7 : CCode :=
  (.block 0 yf1)
def yu6 : CCode :=
  (.seq (.region [
 kO 22 (.fa 3 1),
 kO 23 (.ld false 1 22),
 kO 24 (.len 1 23),
 kO 25 (.mv (ci 0))])
 yw7)
def yup : CCode :=
  (.seq yu6
 yyj)
def yqu : CCode :=
  (.seq (.region [
 kO 20 (.ld true 5 1),
 kO 21 (.call (some 2) false 101 [20]),
 kO 3 (.mv 21)])
 yup)
def yuz : CCode :=
  (.seq (.seq (.region [
 kO 16 (.ld true 5 1),
 kO 17 (.call none true 8 [16]),
 kO 18 (.bin .neq 17 (ci 0))])
 (.cond 18
 (.seq (.region [
  kO 19 (.ld true 5 1),
  kU (.st 5 2 19)])
  .ret)
 .skip))
 yqu)
def yrw : CCode :=
  (.seq (.region [
 kO 14 (.ld true 5 1),
 kO 15 (.call none true 13 [14]),
 kU (.st 5 1 15)])
 yuz)
def yuy : CCode :=
  (.seq (.region [
 kO 1 (.box (some 0) 0),
 kO 2 (.new (some 1) [.nils, .nils, (.int .i64 0), .nils, .nils])])
 yrw)
def y26i : CFunc :=
  ⟨1, true, 12, yuy, [.cell 2 true 5]⟩
def y1up : CCode :=
  (.seq (.region [
 kO 40 (.ld true 5 1),
 kU (.st 5 2 40)])
 .ret)
def y1u4 : CCode :=
  (.region [
 kO 39 (.bin .add 19 (ci 1)),
 kO 19 (.mv 39)])
def y1ud : CCode :=
  (.seq (.block 3 (.seq (.region [
 kO 21 (.mv 19),
 kO 22 (.ixs 9 17 19),
 kO 23 (.ld true 9 22),
 kO 6 (.new (some 10) [(.int .i64 0), (.int .i64 0), (.int .i64 0), (.int .i64 0), (.int .i64 0), (.int .i64 0), (.int .i64 0), (.str []), .nils]),
 kO 5 (.mv 21),
 kU (.st 9 6 23)])
 (.seq (.region [
 kO 24 (.ld true 9 6),
 kO 25 (.call none true 20 [24]),
 kO 26 (.mv 25),
 kG 27 (.mv 4) 26 true,
 kG 28 (.mv 5) 26 true,
 kG 29 (.fa 1 6) 26 true,
 kG 30 (.ld false 1 29) 26 true,
 kG 31 (.call none true 87 [27, 28, 30]) 26 true,
 kG 32 (.un .not 31) 26 true,
 kO 33 (.pick 26 32 (.c (.bool false)))])
 (.cond 33
 (.seq (.region [
  kO 34 (.fa 3 1),
  kO 35 (.ld false 1 34),
  kO 36 (.mv 5),
  kO 37 (.build [(.int .i64 0), (.int .i64 0), (.int .i64 0), (.int .i64 0), (.int .i64 0), (.int .i64 0), (.int .i64 0), (.str []), .nils] [(0, 1, (ci 33))]),
  kO 38 (.ixs 9 35 36),
  kU (.st 9 38 37)])
  (.region [
  kO 3 (.mv (.c (.bool true)))]))
 .skip))))
 y1u4)
def y1uy : CCode :=
  (.seq (.cond 20
 .skip
 (.exit 2))
 y1ud)
def y1v0 : CCode :=
  (.seq (.region [
 kO 20 (.bin .lss 19 18)])
 y1uy)
def yp0 : CCode :=
  (.loop [1, 2, 3, 4, 17, 18, 19] y1v0)
def y1v4 : CCode :=
  (.block 2 yp0)
def y1ux : CCode :=
  (.seq (.region [
 kO 16 (.fa 3 1),
 kO 17 (.ld false 1 16),
 kO 18 (.len 1 17),
 kO 19 (.mv (ci 0))])
 y1v4)
def y13i : CCode :=
  (.seq (.region [
 kO 14 (.ld true 5 1),
 kO 15 (.call none true 75 [14]),
 kO 4 (.mv 15)])
 y1ux)
def y1bu : CCode :=
  (.seq (.region [
 kO 3 (.mv (.c (.bool false)))])
 y13i)
def y14k : CCode :=
  (.block 1 y1bu)
def y11y : CCode :=
  (.seq (.seq (.region [
 kO 13 (.mv 3)])
 (.cond 13
 .skip
 (.exit 0)))
 y14k)
def ypx : CCode :=
  (.loop [1, 2, 3] y11y)
def y17s : CCode :=
  (.block 0 ypx)
def y13n : CCode :=
  (.seq (.region [
 kO 3 (.mv (.c (.bool true)))])
 y17s)
def y14b : CCode :=
  (.seq y13n
 y1up)
def y1gc : CCode :=
  (.seq (.seq (.region [
 kO 9 (.ld true 5 1),
 kO 10 (.call none true 8 [9]),
 kO 11 (.bin .neq 10 (ci 0))])
 (.cond 11
 (.seq (.region [
  kO 12 (.ld true 5 1),
  kU (.st 5 2 12)])
  .ret)
 .skip))
 y14b)
def y18l : CCode :=
  (.seq (.region [
 kO 7 (.ld true 5 1),
 kO 8 (.call (some 2) false 13 [7]),
 kU (.st 5 1 8)])
 y1gc)
def y1l5 : CCode :=
  (.seq (.region [
 kO 1 (.box (some 0) 0),
 kO 2 (.new (some 1) [.nils, .nils, (.int .i64 0), .nils, .nils])])
 y18l)
def c_q6 : CFunc :=
  ⟨1, true, 11, y1l5, [.cell 2 true 5]⟩
def y1p8 : CCode :=
  (.seq (.region [
 kO 2 (.mv (ci 0))])
 .ret)
def y1td : CCode :=
  (.region [
 kO 154 (.mv 8),
 kO 155 (.bin .add 154 (ci 1)),
 kO 8 (.mv 155)])
def y1op : CCode :=
  (.seq (.block 7 (.seq (.region [
 kO 156 (.fa 4 1),
 kO 157 (.ld false 1 156),
 kO 158 (.mv 8),
 kO 159 (.ixs 4 157 158),
 kO 160 (.ld true 4 159),
 kO 9 (.new (some 2) [(.int .i64 0), (.int .i64 0), (.int .i64 0), (.str [])]),
 kU (.st 4 9 160)])
 (.seq (.region [
 kO 161 (.fa 0 9),
 kO 162 (.ld false 1 161),
 kO 163 (.bin .lss 162 (ci 0)),
 kO 164 (.mv 163),
 kG 165 (.fa 0 9) 164 false,
 kG 166 (.ld false 1 165) 164 false,
 kG 167 (.fa 1 9) 164 false,
 kG 168 (.ld false 1 167) 164 false,
 kG 169 (.bin .geq 166 168) 164 false,
 kO 170 (.pick 164 (.c (.bool true)) 169),
 kO 171 (.mv 170),
 kG 172 (.fa 1 9) 171 false,
 kG 173 (.ld false 1 172) 171 false,
 kG 174 (.mv 3) 171 false,
 kG 175 (.bin .gtr 173 174) 171 false,
 kO 176 (.pick 171 (.c (.bool true)) 175),
 kO 177 (.mv 176),
 kG 178 (.ld true 5 1) 177 false,
 kG 179 (.fa 2 9) 177 false,
 kG 180 (.ld false 1 179) 177 false,
 kG 181 (.call none true 49 [178, 180]) 177 false,
 kG 182 (.un .not 181) 177 false,
 kO 183 (.pick 177 (.c (.bool true)) 182),
 kO 184 (.mv 183),
 kG 185 (.fa 3 1) 184 false,
 kG 186 (.ld false 1 185) 184 false,
 kG 187 (.fa 2 9) 184 false,
 kG 188 (.ld false 1 187) 184 false,
 kG 189 (.ixs 9 186 188) 184 false,
 kG 190 (.fa 0 189) 184 false,
 kG 191 (.ld false 1 190) 184 false,
 kG 192 (.bin .neq 191 (ci 32)) 184 false,
 kO 193 (.pick 184 (.c (.bool true)) 192)])
 (.cond 193
 (.seq (.region [
  kO 2 (.mv (ci 80))])
  .ret)
 .skip))))
 y1td)
def y1nr : CCode :=
  (.seq (.seq (.region [
 kO 149 (.mv 8),
 kO 150 (.fa 4 1),
 kO 151 (.ld false 1 150),
 kO 152 (.len 1 151),
 kO 153 (.bin .lss 149 152)])
 (.cond 153
 .skip
 (.exit 6)))
 y1op)
def y137 : CCode :=
  (.loop [1, 3, 8] y1nr)
def y1qh : CCode :=
  (.block 6 y137)
def y1ml : CCode :=
  (.seq (.region [
 kO 8 (.mv (ci 0))])
 y1qh)
def y1ra : CCode :=
  (.seq y1ml
 y1p8)
def y19d : CCode :=
  (.region [
 kO 103 (.mv 6),
 kO 104 (.bin .add 103 (ci 1)),
 kO 6 (.mv 104)])
def y1j0 : CCode :=
  (.seq (.block 5 (.seq (.region [
 kO 105 (.fa 3 1),
 kO 106 (.ld false 1 105),
 kO 107 (.mv 6),
 kO 108 (.ixs 9 106 107),
 kO 109 (.ld true 9 108),
 kO 7 (.new (some 1) [(.int .i64 0), (.int .i64 0), (.int .i64 0), (.int .i64 0), (.int .i64 0), (.int .i64 0), (.int .i64 0), (.str []), .nils]),
 kU (.st 9 7 109)])
 (.seq (.region [
 kO 110 (.ld true 5 1),
 kO 111 (.ld true 9 7),
 kO 112 (.call none true 64 [110, 111]),
 kO 113 (.un .not 112),
 kO 114 (.mv 113),
 kG 115 (.fa 0 7) 114 false,
 kG 116 (.ld false 1 115) 114 false,
 kG 117 (.bin .eql 116 (ci 32)) 114 false,
 kG 118 (.mv 117) 114 false,
 kG 119 (.mv 6) 118 true,
 kG 120 (.bin .eql 119 (ci 0)) 118 true,
 kG 121 (.mv 120) 118 true,
 kG 122 (.fa 3 1) 121 false,
 kG 123 (.ld false 1 122) 121 false,
 kG 124 (.mv 6) 121 false,
 kG 125 (.bin .sub 124 (ci 1)) 121 false,
 kG 126 (.ixs 9 123 125) 121 false,
 kG 127 (.fa 0 126) 121 false,
 kG 128 (.ld false 1 127) 121 false,
 kG 129 (.call none true 25 [128]) 121 false,
 kG 130 (.un .not 129) 121 false,
 kG 131 (.pick 121 (.c (.bool true)) 130) 118 true,
 kG 132 (.pick 118 131 (.c (.bool false))) 114 false,
 kO 133 (.pick 114 (.c (.bool true)) 132),
 kO 134 (.mv 133),
 kG 135 (.fa 0 7) 134 false,
 kG 136 (.ld false 1 135) 134 false,
 kG 137 (.call none true 23 [136]) 134 false,
 kG 138 (.mv 137) 134 false,
 kG 139 (.fa 3 1) 138 true,
 kG 140 (.ld false 1 139) 138 true,
 kG 141 (.fa 6 7) 138 true,
 kG 142 (.ld false 1 141) 138 true,
 kG 143 (.ixs 9 140 142) 138 true,
 kG 144 (.fa 0 143) 138 true,
 kG 145 (.ld false 1 144) 138 true,
 kG 146 (.bin .eql 145 (ci 32)) 138 true,
 kG 147 (.pick 138 146 (.c (.bool false))) 134 false,
 kO 148 (.pick 134 (.c (.bool true)) 147)])
 (.cond 148
 (.seq (.region [
  kO 2 (.mv (ci 80))])
  .ret)
 .skip))))
 y19d)
def y1g5 : CCode :=
  (.seq (.seq (.region [
 kO 100 (.mv 6),
 kO 101 (.mv 3),
 kO 102 (.bin .lss 100 101)])
 (.cond 102
 .skip
 (.exit 4)))
 y1j0)
def y1bb : CCode :=
  (.loop [1, 3, 6] y1g5)
def y18c : CCode :=
  (.block 4 y1bb)
def y1af : CCode :=
  (.seq (.region [
 kO 6 (.mv (ci 0))])
 y18c)
def y1fy : CCode :=
  (.seq y1af
 y1ra)
def y199 : CCode :=
  (.region [
 kO 78 (.mv 5),
 kO 79 (.bin .add 78 (ci 1)),
 kO 5 (.mv 79)])
def y1in : CCode :=
  (.seq (.block 3 (.seq (.draw [
 kO 80 (.ld true 5 1),
 kO 81 (.fa 1 1),
 kO 82 (.ld false 1 81),
 kO 83 (.mv 5),
 kO 84 (.ixs 1 82 83),
 kO 85 (.ld false 1 84),
 kO 86 (.call none true 48 [80, 85]),
 kO 87 (.bin .eql 86 (ci 0)),
 kO 88 (.mv 87),
 kG 89 (.fa 1 1) 88 false,
 kG 90 (.ld false 1 89) 88 false,
 kG 91 (.mv 5) 88 false,
 kG 92 (.ixs 1 90 91) 88 false,
 kG 93 (.ld false 1 92) 88 false,
 kG 94 (.fa 1 1) 88 false,
 kG 95 (.ld false 1 94) 88 false,
 kG 96 (.mv 5) 88 false,
 kG 97 (.slc 1 95 none (some 96)) 88 false,
 kG 98 (.call none true 42 [93, 97]) 88 false,
 kO 99 (.pick 88 (.c (.bool true)) 98)] [])
 (.cond 99
 (.seq (.region [
  kO 2 (.mv (ci 80))])
  .ret)
 .skip)))
 y199)
def y1a5 : CCode :=
  (.seq (.seq (.region [
 kO 73 (.mv 5),
 kO 74 (.fa 1 1),
 kO 75 (.ld false 1 74),
 kO 76 (.len 1 75),
 kO 77 (.bin .lss 73 76)])
 (.cond 77
 .skip
 (.exit 2)))
 y1in)
def y0g : CCode :=
  (.loop [1, 3, 5] y1a5)
def y158 : CCode :=
  (.block 2 y0g)
def y1lf : CCode :=
  (.seq (.region [
 kO 5 (.mv (ci 0))])
 y158)
def y1do : CCode :=
  (.seq y1lf
 y1fy)
def y1iv : CCode :=
  (.region [
 kO 57 (.mv 4),
 kO 58 (.bin .add 57 (ci 1)),
 kO 4 (.mv 58)])
def y1ez : CCode :=
  (.seq (.block 1 (.seq (.region [
 kO 59 (.fa 0 1),
 kO 60 (.ld false 1 59),
 kO 61 (.mv 4),
 kO 62 (.ixs 1 60 61),
 kO 63 (.ld false 1 62),
 kO 64 (.bin .lss 63 (ci 1)),
 kO 65 (.mv 64),
 kG 66 (.fa 0 1) 65 false,
 kG 67 (.ld false 1 66) 65 false,
 kG 68 (.mv 4) 65 false,
 kG 69 (.ixs 1 67 68) 65 false,
 kG 70 (.ld false 1 69) 65 false,
 kG 71 (.bin .gtr 70 (ci 3)) 65 false,
 kO 72 (.pick 65 (.c (.bool true)) 71)])
 (.cond 72
 (.seq (.region [
  kO 2 (.mv (ci 80))])
  .ret)
 .skip)))
 y1iv)
def y14s : CCode :=
  (.seq (.seq (.region [
 kO 52 (.mv 4),
 kO 53 (.fa 0 1),
 kO 54 (.ld false 1 53),
 kO 55 (.len 1 54),
 kO 56 (.bin .lss 52 55)])
 (.cond 56
 .skip
 (.exit 0)))
 y1ez)
def y0p : CCode :=
  (.loop [1, 3, 4] y14s)
def y14g : CCode :=
  (.block 0 y0p)
def y1e5 : CCode :=
  (.seq (.region [
 kO 4 (.mv (ci 0))])
 y14g)
def y12t : CCode :=
  (.seq y1e5
 y1do)
def y143 : CCode :=
  (.seq (.seq (.region [
 kO 13 (.mv 3),
 kO 14 (.bin .eql 13 (ci 0)),
 kO 15 (.mv 14),
 kG 16 (.mv 3) 15 false,
 kG 17 (.bin .gtr 16 (ci 20000)) 15 false,
 kO 18 (.pick 15 (.c (.bool true)) 17),
 kO 19 (.mv 18),
 kG 20 (.fa 0 1) 19 false,
 kG 21 (.ld false 1 20) 19 false,
 kG 22 (.len 1 21) 19 false,
 kG 23 (.bin .gtr 22 (ci 20000)) 19 false,
 kO 24 (.pick 19 (.c (.bool true)) 23),
 kO 25 (.mv 24),
 kG 26 (.fa 1 1) 25 false,
 kG 27 (.ld false 1 26) 25 false,
 kG 28 (.len 1 27) 25 false,
 kG 29 (.bin .gtr 28 (ci 21)) 25 false,
 kO 30 (.pick 25 (.c (.bool true)) 29),
 kO 31 (.mv 30),
 kG 32 (.fa 2 1) 31 false,
 kG 33 (.ld false 1 32) 31 false,
 kG 34 (.bin .lss 33 (ci 0)) 31 false,
 kO 35 (.pick 31 (.c (.bool true)) 34),
 kO 36 (.mv 35),
 kG 37 (.fa 2 1) 36 false,
 kG 38 (.ld false 1 37) 36 false,
 kG 39 (.bin .gtr 38 (ci 3)) 36 false,
 kO 40 (.pick 36 (.c (.bool true)) 39),
 kO 41 (.mv 40),
 kG 42 (.fa 3 1) 41 false,
 kG 43 (.ld false 1 42) 41 false,
 kG 44 (.mv 3) 41 false,
 kG 45 (.bin .sub 44 (ci 1)) 41 false,
 kG 46 (.ixs 9 43 45) 41 false,
 kG 47 (.fa 0 46) 41 false,
 kG 48 (.ld false 1 47) 41 false,
 kG 49 (.call none true 25 [48]) 41 false,
 kG 50 (.un .not 49) 41 false,
 kO 51 (.pick 41 (.c (.bool true)) 50)])
 (.cond 51
 (.seq (.region [
  kO 2 (.mv (ci 80))])
  .ret)
 .skip))
 y12t)
def y1i9 : CCode :=
  (.seq (.region [
 kO 10 (.fa 3 1),
 kO 11 (.ld false 1 10),
 kO 12 (.len 1 11),
 kO 3 (.mv 12)])
 y143)
def y1kx : CCode :=
  (.seq (.region [
 kO 1 (.box (some 0) 0),
 kO 2 (.mv (ci 0))])
 y1i9)
def y25k : CFunc :=
  ⟨1, true, 3, y1kx, [.t 2]⟩
def y1hw : CCode :=
  (.seq (.region [
 kO 2 (.mv (.c .nils))])
 .ret)
def y1b1 : CCode :=
  (.seq (.region [
 kO 58 (.fa 2 1),
 kO 59 (.ld false 1 58),
 kO 60 (.fa 3 1),
 kO 61 (.ld false 1 60),
 kO 62 (.buildS (some 6) 1 2 [(.int .i64 0)] [(0, 59), (1, 61)]),
 kO 2 (.mv 62)])
 .ret)
def y1d7 : CCode :=
  (.seq (.seq (.region [
 kO 52 (.fa 3 1),
 kO 53 (.ld false 1 52),
 kO 54 (.bin .lss 53 (ci 0))])
 (.cond 54
 (.seq (.region [
  kO 55 (.fa 2 1),
  kO 56 (.ld false 1 55),
  kO 57 (.buildS (some 5) 1 1 [(.int .i64 0)] [(0, 56)]),
  kO 2 (.mv 57)])
  .ret)
 .skip))
 y1b1)
def y1ca : CCode :=
  (.cond 50
 y1d7
 (.seq (.region [
  kO 64 (.bin .eql 4 (ci 30)),
  kO 63 (.mv 64)])
  (.cond 63
  (.seq (.region [
   kO 65 (.fa 2 1),
   kO 66 (.ld false 1 65),
   kO 67 (.bin .geq 66 (ci 0))])
   (.cond 67
   (.seq (.region [
    kO 68 (.fa 2 1),
    kO 69 (.ld false 1 68),
    kO 70 (.buildS (some 7) 1 1 [(.int .i64 0)] [(0, 69)]),
    kO 2 (.mv 70)])
    .ret)
   .skip))
  .skip)))
def y1hs : CCode :=
  (.seq (.region [
 kO 51 (.bin .eql 4 (ci 29)),
 kO 50 (.mv 51)])
 y1ca)
def y13w : CCode :=
  (.cond 42
 (.seq (.region [
  kO 47 (.fa 8 1),
  kO 48 (.ld false 1 47),
  kO 49 (.call (some 4) false 39 [48]),
  kO 2 (.mv 49)])
  .ret)
 y1hs)
def y18j : CCode :=
  (.seq (.seq (.region [
 kO 43 (.bin .eql 4 (ci 23)),
 kO 42 (.mv 43)])
 (.cond 42
 .skip
 (.seq (.region [
  kO 44 (.bin .eql 4 (ci 24)),
  kO 42 (.mv 44)])
  (.cond 42
  .skip
  (.seq (.region [
   kO 45 (.bin .eql 4 (ci 25)),
   kO 42 (.mv 45)])
   (.cond 42
   .skip
   (.region [
    kO 46 (.bin .eql 4 (ci 26)),
    kO 42 (.mv 46)])))))))
 y13w)
def y1f4 : CCode :=
  (.cond 33
 (.seq (.region [
  kO 35 (.fa 2 1),
  kO 36 (.ld false 1 35),
  kO 37 (.fa 3 1),
  kO 38 (.ld false 1 37),
  kO 39 (.fa 4 1),
  kO 40 (.ld false 1 39),
  kO 41 (.buildS (some 3) 1 3 [(.int .i64 0)] [(0, 36), (1, 38), (2, 40)]),
  kO 2 (.mv 41)])
  .ret)
 y18j)
def y1bc : CCode :=
  (.seq (.region [
 kO 34 (.bin .eql 4 (ci 14)),
 kO 33 (.mv 34)])
 y1f4)
def ytm : CCode :=
  (.cond 21
 (.seq (.region [
  kO 28 (.fa 2 1),
  kO 29 (.ld false 1 28),
  kO 30 (.fa 3 1),
  kO 31 (.ld false 1 30),
  kO 32 (.buildS (some 2) 1 2 [(.int .i64 0)] [(0, 29), (1, 31)]),
  kO 2 (.mv 32)])
  .ret)
 y1bc)
def yq5 : CCode :=
  (.seq (.seq (.region [
 kO 22 (.bin .eql 4 (ci 5)),
 kO 21 (.mv 22)])
 (.cond 21
 .skip
 (.seq (.region [
  kO 23 (.bin .eql 4 (ci 9)),
  kO 21 (.mv 23)])
  (.cond 21
  .skip
  (.seq (.region [
   kO 24 (.bin .eql 4 (ci 11)),
   kO 21 (.mv 24)])
   (.cond 21
   .skip
   (.seq (.region [
    kO 25 (.bin .eql 4 (ci 13)),
    kO 21 (.mv 25)])
    (.cond 21
    .skip
    (.seq (.region [
     kO 26 (.bin .eql 4 (ci 17)),
     kO 21 (.mv 26)])
     (.cond 21
     .skip
     (.region [
      kO 27 (.bin .eql 4 (ci 28)),
      kO 21 (.mv 27)])))))))))))
 ytm)
def ysm : CCode :=
  (.cond 5
 (.seq (.region [
  kO 18 (.fa 2 1),
  kO 19 (.ld false 1 18),
  kO 20 (.buildS (some 1) 1 1 [(.int .i64 0)] [(0, 19)]),
  kO 2 (.mv 20)])
  .ret)
 yq5)
def ysx : CCode :=
  (.seq (.seq (.region [
 kO 6 (.bin .eql 4 (ci 4)),
 kO 5 (.mv 6)])
 (.cond 5
 .skip
 (.seq (.region [
  kO 7 (.bin .eql 4 (ci 6)),
  kO 5 (.mv 7)])
  (.cond 5
  .skip
  (.seq (.region [
   kO 8 (.bin .eql 4 (ci 7)),
   kO 5 (.mv 8)])
   (.cond 5
   .skip
   (.seq (.region [
    kO 9 (.bin .eql 4 (ci 8)),
    kO 5 (.mv 9)])
    (.cond 5
    .skip
    (.seq (.region [
     kO 10 (.bin .eql 4 (ci 10)),
     kO 5 (.mv 10)])
     (.cond 5
     .skip
     (.seq (.region [
      kO 11 (.bin .eql 4 (ci 12)),
      kO 5 (.mv 11)])
      (.cond 5
      .skip
      (.seq (.region [
       kO 12 (.bin .eql 4 (ci 15)),
       kO 5 (.mv 12)])
       (.cond 5
       .skip
       (.seq (.region [
        kO 13 (.bin .eql 4 (ci 16)),
        kO 5 (.mv 13)])
        (.cond 5
        .skip
        (.seq (.region [
         kO 14 (.bin .eql 4 (ci 19)),
         kO 5 (.mv 14)])
         (.cond 5
         .skip
         (.seq (.region [
          kO 15 (.bin .eql 4 (ci 21)),
          kO 5 (.mv 15)])
          (.cond 5
          .skip
          (.seq (.region [
           kO 16 (.bin .eql 4 (ci 22)),
           kO 5 (.mv 16)])
           (.cond 5
           .skip
           (.region [
            kO 17 (.bin .eql 4 (ci 31)),
            kO 5 (.mv 17)])))))))))))))))))))))))
 ysm)
def yuw : CCode :=
  (.block 0 ysx)
def yz6 : CCode :=
  (.seq (.region [
 kO 3 (.fa 0 1),
 kO 4 (.ld false 1 3)])
 yuw)
def yu7 : CCode :=
  (.seq yz6
 y1hw)
def ytc : CCode :=
  (.seq (.region [
 kO 1 (.box (some 0) 0),
 kO 2 (.mv (.c .nils))])
 yu7)
def y26y : CFunc :=
  ⟨1, true, 8, ytc, [.t 2]⟩
def y1fx : CCode :=
  (.seq (.region [
 kO 2 (.mv (ci (-1)))])
 .ret)
def y1gi : CCode :=
  (.seq (.seq (.region [
 kO 22 (.ld true 9 1),
 kO 23 (.call none true 17 [22])])
 (.cond 23
 (.seq (.region [
  kO 24 (.fa 1 1),
  kO 25 (.ld false 1 24),
  kO 2 (.mv 25)])
  .ret)
 .skip))
 y1fx)
def y1gh : CCode :=
  (.cond 5
 (.seq (.region [
  kO 20 (.fa 1 1),
  kO 21 (.ld false 1 20),
  kO 2 (.mv 21)])
  .ret)
 .skip)
def y13s : CCode :=
  (.seq (.seq (.region [
 kO 6 (.bin .eql 4 (ci 1)),
 kO 5 (.mv 6)])
 (.cond 5
 .skip
 (.seq (.region [
  kO 7 (.bin .eql 4 (ci 2)),
  kO 5 (.mv 7)])
  (.cond 5
  .skip
  (.seq (.region [
   kO 8 (.bin .eql 4 (ci 3)),
   kO 5 (.mv 8)])
   (.cond 5
   .skip
   (.seq (.region [
    kO 9 (.bin .eql 4 (ci 4)),
    kO 5 (.mv 9)])
    (.cond 5
    .skip
    (.seq (.region [
     kO 10 (.bin .eql 4 (ci 5)),
     kO 5 (.mv 10)])
     (.cond 5
     .skip
     (.seq (.region [
      kO 11 (.bin .eql 4 (ci 6)),
      kO 5 (.mv 11)])
      (.cond 5
      .skip
      (.seq (.region [
       kO 12 (.bin .eql 4 (ci 13)),
       kO 5 (.mv 12)])
       (.cond 5
       .skip
       (.seq (.region [
        kO 13 (.bin .eql 4 (ci 15)),
        kO 5 (.mv 13)])
        (.cond 5
        .skip
        (.seq (.region [
         kO 14 (.bin .eql 4 (ci 16)),
         kO 5 (.mv 14)])
         (.cond 5
         .skip
         (.seq (.region [
          kO 15 (.bin .eql 4 (ci 18)),
          kO 5 (.mv 15)])
          (.cond 5
          .skip
          (.seq (.region [
           kO 16 (.bin .eql 4 (ci 20)),
           kO 5 (.mv 16)])
           (.cond 5
           .skip
           (.seq (.region [
            kO 17 (.bin .eql 4 (ci 21)),
            kO 5 (.mv 17)])
            (.cond 5
            .skip
            (.seq (.region [
             kO 18 (.bin .eql 4 (ci 22)),
             kO 5 (.mv 18)])
             (.cond 5
             .skip
             (.region [
              kO 19 (.bin .eql 4 (ci 32)),
              kO 5 (.mv 19)])))))))))))))))))))))))))))
 y1gh)
def y14o : CCode :=
  (.block 0 y13s)
def y1ga : CCode :=
  (.seq (.region [
 kO 3 (.fa 0 1),
 kO 4 (.ld false 1 3)])
 y14o)
def y12k : CCode :=
  (.seq y1ga
 y1gi)
def y16b : CCode :=
  (.seq (.region [
 kO 1 (.box (some 0) 0),
 kO 2 (.mv (ci 0))])
 y12k)
def y25i : CFunc :=
  ⟨1, true, 1, y16b, [.t 2]⟩
def yvh : CCode :=
  (.seq (.region [
 kO 5 (.buildS (some 0) 1 0 [(.int .i64 0)] []),
 kO 6 (.mv 0),
 kO 7 (.app (some 1) 1 8 5 6),
 kO 2 (.mv 7)])
 .ret)
def yyl : CCode :=
  (.seq (.seq (.region [
 kO 3 (.mv 0),
 kO 4 (.eqn 1 false 3 (.c .nils))])
 (.cond 4
 (.seq (.region [
  kO 2 (.mv (.c .nils))])
  .ret)
 .skip))
 yvh)
def yy3 : CCode :=
  (.seq (.region [
 kO 2 (.mv (.c .nils))])
 yyl)
def y1tv : CFunc :=
  ⟨1, true, 2, yy3, [.t 2]⟩
def yvb : CCode :=
  (.seq (.region [
 kO 5 (.buildS (some 0) 9 0 [(.int .i64 0), (.int .i64 0), (.int .i64 0), (.int .i64 0), (.int .i64 0), (.int .i64 0), (.int .i64 0), (.str []), .nils] []),
 kO 6 (.mv 0),
 kO 7 (.app (some 1) 9 96 5 6),
 kO 2 (.mv 7)])
 .ret)
def ysn : CCode :=
  (.seq (.seq (.region [
 kO 3 (.mv 0),
 kO 4 (.eqn 1 false 3 (.c .nils))])
 (.cond 4
 (.seq (.region [
  kO 2 (.mv (.c .nils))])
  .ret)
 .skip))
 yvb)
def yzf : CCode :=
  (.seq (.region [
 kO 2 (.mv (.c .nils))])
 ysn)
def y1ub : CFunc :=
  ⟨1, true, 2, yzf, [.t 2]⟩
def yyq : CCode :=
  (.seq (.region [
 kO 5 (.buildS (some 0) 4 0 [(.int .i64 0), (.int .i64 0), (.int .i64 0), (.str [])] []),
 kO 6 (.mv 0),
 kO 7 (.app (some 1) 4 40 5 6),
 kO 2 (.mv 7)])
 .ret)
def yra : CCode :=
  (.seq (.seq (.region [
 kO 3 (.mv 0),
 kO 4 (.eqn 1 false 3 (.c .nils))])
 (.cond 4
 (.seq (.region [
  kO 2 (.mv (.c .nils))])
  .ret)
 .skip))
 yyq)
def yy6 : CCode :=
  (.seq (.region [
 kO 2 (.mv (.c .nils))])
 yra)
def y1uh : CFunc :=
  ⟨1, true, 2, yy6, [.t 2]⟩
def yqc : CCode :=
  (.seq (.region [
 kO 4 (.mv (.c (.bool true)))])
 .ret)
def yr6 : CCode :=
  (.region [
 kO 15 (.mv 5),
 kO 16 (.bin .add 15 (ci 1)),
 kO 5 (.mv 16)])
def yw8 : CCode :=
  (.seq (.block 1 (.seq (.draw [
 kO 17 (.mv 0),
 kO 18 (.mv 5),
 kO 19 (.ixs 1 17 18),
 kO 20 (.ld false 1 19),
 kO 21 (.mv 1),
 kO 22 (.mv 5),
 kO 23 (.ixs 1 21 22),
 kO 24 (.ld false 1 23),
 kO 25 (.bin .neq 20 24)] [])
 (.cond 25
 (.seq (.region [
  kO 4 (.mv (.c (.bool false)))])
  .ret)
 .skip)))
 yr6)
def yqp : CCode :=
  (.seq (.seq (.region [
 kO 11 (.mv 5),
 kO 12 (.mv 0),
 kO 13 (.len 1 12),
 kO 14 (.bin .lss 11 13)])
 (.cond 14
 .skip
 (.exit 0)))
 yw8)
def yfs : CCode :=
  (.loop [0, 1, 5] yqp)
def yqt : CCode :=
  (.block 0 yfs)
def yqr : CCode :=
  (.seq (.region [
 kO 5 (.mv (ci 0))])
 yqt)
def yx4 : CCode :=
  (.seq yqr
 yqc)
def yvq : CCode :=
  (.seq (.seq (.region [
 kO 6 (.mv 0),
 kO 7 (.len 1 6),
 kO 8 (.mv 1),
 kO 9 (.len 1 8),
 kO 10 (.bin .neq 7 9)])
 (.cond 10
 (.seq (.region [
  kO 4 (.mv (.c (.bool false)))])
  .ret)
 .skip))
 yx4)
def yn0 : CCode :=
  (.seq (.region [
 kO 4 (.mv (.c (.bool false)))])
 yvq)
def y1tz : CFunc :=
  ⟨2, true, 0, yn0, [.t 4]⟩
def ysw : CCode :=
  (.seq (.region [
 kO 2 (.box (some 0) 0),
 kO 3 (.box (some 1) 1),
 kO 4 (.mv (.c (.bool false)))])
 (.seq (.region [
 kO 5 (.fa 0 2),
 kO 6 (.ld false 1 5),
 kO 7 (.fa 0 3),
 kO 8 (.ld false 1 7),
 kO 9 (.bin .eql 6 8),
 kO 10 (.mv 9),
 kG 11 (.fa 1 2) 10 true,
 kG 12 (.ld false 1 11) 10 true,
 kG 13 (.fa 1 3) 10 true,
 kG 14 (.ld false 1 13) 10 true,
 kG 15 (.bin .eql 12 14) 10 true,
 kO 16 (.pick 10 15 (.c (.bool false))),
 kO 17 (.mv 16),
 kG 18 (.fa 2 2) 17 true,
 kG 19 (.ld false 1 18) 17 true,
 kG 20 (.fa 2 3) 17 true,
 kG 21 (.ld false 1 20) 17 true,
 kG 22 (.bin .eql 19 21) 17 true,
 kO 23 (.pick 17 22 (.c (.bool false))),
 kO 24 (.mv 23),
 kG 25 (.fa 3 2) 24 true,
 kG 26 (.ld false 1 25) 24 true,
 kG 27 (.fa 3 3) 24 true,
 kG 28 (.ld false 1 27) 24 true,
 kG 29 (.bin .eql 26 28) 24 true,
 kO 30 (.pick 24 29 (.c (.bool false))),
 kO 31 (.mv 30),
 kG 32 (.fa 4 2) 31 true,
 kG 33 (.ld false 1 32) 31 true,
 kG 34 (.fa 4 3) 31 true,
 kG 35 (.ld false 1 34) 31 true,
 kG 36 (.bin .eql 33 35) 31 true,
 kO 37 (.pick 31 36 (.c (.bool false))),
 kO 38 (.mv 37),
 kG 39 (.fa 5 2) 38 true,
 kG 40 (.ld false 1 39) 38 true,
 kG 41 (.fa 5 3) 38 true,
 kG 42 (.ld false 1 41) 38 true,
 kG 43 (.bin .eql 40 42) 38 true,
 kO 44 (.pick 38 43 (.c (.bool false))),
 kO 45 (.mv 44),
 kG 46 (.fa 6 2) 45 true,
 kG 47 (.ld false 1 46) 45 true,
 kG 48 (.fa 6 3) 45 true,
 kG 49 (.ld false 1 48) 45 true,
 kG 50 (.bin .eql 47 49) 45 true,
 kO 51 (.pick 45 50 (.c (.bool false))),
 kO 52 (.mv 51),
 kG 53 (.fa 7 2) 52 true,
 kG 54 (.ld false 1 53) 52 true,
 kG 55 (.fa 7 3) 52 true,
 kG 56 (.ld false 1 55) 52 true,
 kG 57 (.bin .eql 54 56) 52 true,
 kO 58 (.pick 52 57 (.c (.bool false))),
 kO 59 (.mv 58),
 kG 60 (.fa 8 2) 59 true,
 kG 61 (.ld false 1 60) 59 true,
 kG 62 (.fa 8 3) 59 true,
 kG 63 (.ld false 1 62) 59 true,
 kG 64 (.call none true 11 [61, 63]) 59 true,
 kO 65 (.pick 59 64 (.c (.bool false))),
 kO 4 (.mv 65)])
 .ret))
def y1uq : CFunc :=
  ⟨2, true, 2, ysw, [.t 4]⟩
def y16u : CCode :=
  (.seq (.region [
 kO 1 (.box (some 0) 0),
 kO 2 (.mv (.c (.bool false)))])
 (.seq (.region [
 kO 3 (.fa 0 1),
 kO 4 (.ld false 1 3),
 kO 5 (.bin .eql 4 (ci 27)),
 kO 6 (.mv 5),
 kG 7 (.fa 0 1) 6 false,
 kG 8 (.ld false 1 7) 6 false,
 kG 9 (.bin .eql 8 (ci 30)) 6 false,
 kO 10 (.pick 6 (.c (.bool true)) 9),
 kO 11 (.mv 10),
 kG 12 (.fa 0 1) 11 false,
 kG 13 (.ld false 1 12) 11 false,
 kG 14 (.bin .eql 13 (ci 31)) 11 false,
 kO 15 (.pick 11 (.c (.bool true)) 14),
 kO 2 (.mv 15)])
 .ret))
def y283 : CFunc :=
  ⟨1, true, 1, y16u, [.t 2]⟩
def ywe : CCode :=
  (.seq (.region [
 kO 4 (.mv (.c (.bool false)))])
 (.seq (.region [
 kO 5 (.mv 0),
 kO 6 (.mv 1),
 kO 7 (.call none true 45 [5, 6]),
 kO 8 (.bin .geq 7 (ci 0)),
 kO 4 (.mv 8)])
 .ret))
def y1u3 : CFunc :=
  ⟨2, true, 0, ywe, [.t 4]⟩
def y1gz : CCode :=
  (.seq (.region [
 kO 183 (.ld true 9 3),
 kO 184 (.call none true 22 [183]),
 kO 185 (.un .not 184),
 kO 186 (.mv 185),
 kG 187 (.fa 6 3) 186 false,
 kG 188 (.ld false 1 187) 186 false,
 kG 189 (.bin .geq 188 (ci 0)) 186 false,
 kG 190 (.mv 189) 186 false,
 kG 191 (.fa 6 3) 190 true,
 kG 192 (.ld false 1 191) 190 true,
 kG 193 (.fa 3 2) 190 true,
 kG 194 (.ld false 1 193) 190 true,
 kG 195 (.len 1 194) 190 true,
 kG 196 (.bin .lss 192 195) 190 true,
 kG 197 (.pick 190 196 (.c (.bool false))) 186 false,
 kO 198 (.pick 186 (.c (.bool true)) 197),
 kO 4 (.mv 198)])
 .ret)
def y14w : CCode :=
  (.seq (.seq (.region [
 kO 105 (.fa 0 3),
 kO 106 (.ld false 1 105)])
 (.block 4 (.seq (.region [
 kO 108 (.bin .eql 106 (ci 1)),
 kO 107 (.mv 108)])
 (.cond 107
 (.seq (.region [
  kO 109 (.fa 0 2),
  kO 110 (.ld false 1 109),
  kO 111 (.fa 1 3),
  kO 112 (.ld false 1 111),
  kO 113 (.ixs 1 110 112),
  kO 114 (.ld false 1 113),
  kO 115 (.bin .neq 114 (ci 3)),
  kO 116 (.mv 115),
  kG 117 (.fa 0 2) 116 true,
  kG 118 (.ld false 1 117) 116 true,
  kG 119 (.fa 1 3) 116 true,
  kG 120 (.ld false 1 119) 116 true,
  kG 121 (.ixs 1 118 120) 116 true,
  kG 122 (.ld false 1 121) 116 true,
  kG 123 (.bin .eql 122 (ci 2)) 116 true,
  kG 124 (.mv 123) 116 true,
  kG 125 (.fa 5 3) 124 false,
  kG 126 (.ld false 1 125) 124 false,
  kG 127 (.fa 5 3) 124 false,
  kG 128 (.ld false 1 127) 124 false,
  kG 129 (.cvi .i32 128) 124 false,
  kG 130 (.cvi .i64 129) 124 false,
  kG 131 (.bin .eql 126 130) 124 false,
  kG 132 (.pick 124 (.c (.bool true)) 131) 116 true,
  kO 133 (.pick 116 132 (.c (.bool false))),
  kO 4 (.mv 133)])
  .ret)
 (.seq (.region [
  kO 135 (.bin .eql 106 (ci 4)),
  kO 134 (.mv 135)])
  (.cond 134
  (.seq (.draw [
   kO 136 (.fa 0 2),
   kO 137 (.ld false 1 136),
   kO 138 (.fa 1 3),
   kO 139 (.ld false 1 138),
   kO 140 (.ixs 1 137 139),
   kO 141 (.ld false 1 140),
   kO 142 (.fa 0 2),
   kO 143 (.ld false 1 142),
   kO 144 (.fa 2 3),
   kO 145 (.ld false 1 144),
   kO 146 (.ixs 1 143 145),
   kO 147 (.ld false 1 146),
   kO 148 (.bin .eql 141 147),
   kO 4 (.mv 148)] [])
   .ret)
  (.seq (.region [
   kO 150 (.bin .eql 106 (ci 7)),
   kO 149 (.mv 150)])
   (.cond 149
   (.seq (.region [
    kO 151 (.fa 0 2),
    kO 152 (.ld false 1 151),
    kO 153 (.fa 2 3),
    kO 154 (.ld false 1 153),
    kO 155 (.ixs 1 152 154),
    kO 156 (.ld false 1 155),
    kO 157 (.bin .neq 156 (ci 3)),
    kO 4 (.mv 157)])
    .ret)
   (.seq (.region [
    kO 159 (.bin .eql 106 (ci 30)),
    kO 158 (.mv 159)])
    (.cond 158
    (.seq (.draw [
     kO 160 (.fa 2 3),
     kO 161 (.ld false 1 160),
     kO 162 (.bin .eql 161 (ci (-1))),
     kO 163 (.fa 2 2),
     kO 164 (.ld false 1 163),
     kO 165 (.bin .eql 164 (ci 0)),
     kO 166 (.eqb false 162 165),
     kO 167 (.mv 166),
     kG 168 (.fa 2 3) 167 true,
     kG 169 (.ld false 1 168) 167 true,
     kG 170 (.bin .eql 169 (ci (-1))) 167 true,
     kG 171 (.mv 170) 167 true,
     kG 172 (.fa 0 2) 171 false,
     kG 173 (.ld false 1 172) 171 false,
     kG 174 (.fa 2 3) 171 false,
     kG 175 (.ld false 1 174) 171 false,
     kG 176 (.ixs 1 173 175) 171 false,
     kG 177 (.ld false 1 176) 171 false,
     kG 178 (.fa 2 2) 171 false,
     kG 179 (.ld false 1 178) 171 false,
     kG 180 (.bin .eql 177 179) 171 false,
     kG 181 (.pick 171 (.c (.bool true)) 180) 167 true,
     kO 182 (.pick 167 181 (.c (.bool false))),
     kO 4 (.mv 182)] [])
     .ret)
    .skip))))))))))
 y1gz)
def y1dw : CCode :=
  (.region [
 kO 104 (.bin .add 65 (ci 1)),
 kO 65 (.mv 104)])
def y1ab : CCode :=
  (.seq (.region [
 kO 73 (.mv 10),
 kO 74 (.bin .lss 73 (ci 0)),
 kO 75 (.mv 74),
 kG 76 (.mv 10) 75 false,
 kG 77 (.fa 0 2) 75 false,
 kG 78 (.ld false 1 77) 75 false,
 kG 79 (.len 1 78) 75 false,
 kG 80 (.bin .geq 76 79) 75 false,
 kO 81 (.pick 75 (.c (.bool true)) 80),
 kO 82 (.mv 81),
 kG 83 (.mv 9) 82 false,
 kG 84 (.bin .eql 83 (ci 0)) 82 false,
 kG 85 (.mv 84) 82 false,
 kG 86 (.fa 0 3) 85 true,
 kG 87 (.ld false 1 86) 85 true,
 kG 88 (.bin .eql 87 (ci 24)) 85 true,
 kG 89 (.mv 88) 85 true,
 kG 90 (.fa 0 3) 89 false,
 kG 91 (.ld false 1 90) 89 false,
 kG 92 (.bin .eql 91 (ci 25)) 89 false,
 kG 93 (.pick 89 (.c (.bool true)) 92) 85 true,
 kG 94 (.pick 85 93 (.c (.bool false))) 82 false,
 kG 95 (.mv 94) 82 false,
 kG 96 (.fa 0 2) 95 true,
 kG 97 (.ld false 1 96) 95 true,
 kG 98 (.mv 10) 95 true,
 kG 99 (.ixs 1 97 98) 95 true,
 kG 100 (.ld false 1 99) 95 true,
 kG 101 (.bin .neq 100 (ci 3)) 95 true,
 kG 102 (.pick 95 101 (.c (.bool false))) 82 false,
 kO 103 (.pick 82 (.c (.bool true)) 102)])
 (.cond 103
 (.seq (.region [
  kO 4 (.mv (.c (.bool false)))])
  .ret)
 .skip))
def y19h : CCode :=
  (.seq (.seq (.region [
 kO 70 (.ld true 9 3),
 kO 71 (.call none true 17 [70]),
 kO 72 (.un .not 71)])
 (.cond 72
 (.exit 2)
 .skip))
 y1ab)
def y17d : CCode :=
  (.seq (.region [
 kO 67 (.mv 65),
 kO 68 (.ixs 1 63 65),
 kO 69 (.ld false 1 68),
 kO 9 (.mv 67),
 kO 10 (.mv 69)])
 y19h)
def y1is : CCode :=
  (.block 3 y17d)
def y12y : CCode :=
  (.seq y1is
 y1dw)
def yzp : CCode :=
  (.seq (.cond 66
 .skip
 (.exit 2))
 y12y)
def ywt : CCode :=
  (.seq (.region [
 kO 66 (.bin .lss 65 64)])
 yzp)
def yku : CCode :=
  (.loop [2, 3, 63, 64, 65] ywt)
def yv1 : CCode :=
  (.block 2 yku)
def yu1 : CCode :=
  (.seq (.region [
 kO 62 (.fa 8 3),
 kO 63 (.ld false 1 62),
 kO 64 (.len 1 63),
 kO 65 (.mv (ci 0))])
 yv1)
def yqa : CCode :=
  (.seq yu1
 y14w)
def yqv : CCode :=
  (.region [
 kO 61 (.bin .add 27 (ci 1)),
 kO 27 (.mv 61)])
def yr1 : CCode :=
  (.seq (.draw [
 kO 35 (.mv 8),
 kO 36 (.bin .lss 35 (ci 0)),
 kO 37 (.mv 36),
 kG 38 (.mv 8) 37 false,
 kG 39 (.fa 0 2) 37 false,
 kG 40 (.ld false 1 39) 37 false,
 kG 41 (.len 1 40) 37 false,
 kG 42 (.bin .geq 38 41) 37 false,
 kO 43 (.pick 37 (.c (.bool true)) 42),
 kO 44 (.mv 43),
 kG 45 (.mv 7) 44 false,
 kG 46 (.ixa 4 1 5 45) 44 false,
 kG 47 (.ld false 1 46) 44 false,
 kG 48 (.bin .gtr 47 (ci 0)) 44 false,
 kG 49 (.mv 48) 44 false,
 kG 50 (.fa 0 2) 49 true,
 kG 51 (.ld false 1 50) 49 true,
 kG 52 (.mv 8) 49 true,
 kG 53 (.ixs 1 51 52) 49 true,
 kG 54 (.ld false 1 53) 49 true,
 kG 55 (.mv 7) 49 true,
 kG 56 (.ixa 4 1 5 55) 49 true,
 kG 57 (.ld false 1 56) 49 true,
 kG 58 (.bin .neq 54 57) 49 true,
 kG 59 (.pick 49 58 (.c (.bool false))) 44 false,
 kO 60 (.pick 44 (.c (.bool true)) 59)] [])
 (.cond 60
 (.seq (.region [
  kO 4 (.mv (.c (.bool false)))])
  .ret)
 .skip))
def ys9 : CCode :=
  (.seq (.seq (.region [
 kO 31 (.mv 7),
 kO 32 (.ixa 4 1 5 31),
 kO 33 (.ld false 1 32),
 kO 34 (.bin .lss 33 (ci 0))])
 (.cond 34
 (.exit 1)
 .skip))
 yr1)
def yxj : CCode :=
  (.seq (.region [
 kO 29 (.mv 27),
 kO 30 (.ixv false 4 1 26 27),
 kO 7 (.mv 29),
 kO 8 (.mv 30)])
 ys9)
def yye : CCode :=
  (.block 1 yxj)
def yxc : CCode :=
  (.seq yye
 yqv)
def yym : CCode :=
  (.seq (.cond 28
 .skip
 (.exit 0))
 yxc)
def yum : CCode :=
  (.seq (.region [
 kO 28 (.bin .lss 27 (ci 4))])
 yym)
def yer : CCode :=
  (.loop [2, 3, 5, 26, 27] yum)
def yvv : CCode :=
  (.block 0 yer)
def yti : CCode :=
  (.seq (.region [
 kO 18 (.fa 1 3),
 kO 19 (.ld false 1 18),
 kO 20 (.fa 2 3),
 kO 21 (.ld false 1 20),
 kO 22 (.fa 3 3),
 kO 23 (.ld false 1 22),
 kO 24 (.fa 4 3),
 kO 25 (.ld false 1 24),
 kO 26 (.build [(.int .i64 0), (.int .i64 0), (.int .i64 0), (.int .i64 0)] [(0, 1, 19), (1, 1, 21), (2, 1, 23), (3, 1, 25)]),
 kO 27 (.mv (ci 0))])
 yvv)
def yr5 : CCode :=
  (.seq yti
 yqa)
def yt6 : CCode :=
  (.seq (.seq (.region [
 kO 16 (.mv 6),
 kO 17 (.un .not 16)])
 (.cond 17
 (.seq (.region [
  kO 4 (.mv (.c (.bool false)))])
  .ret)
 .skip))
 yr5)
def ywp : CCode :=
  (.seq (.region [
 kO 12 (.ld true 9 3),
 kO 13 (.call none true 47 [12]),
 kO 11 (.mv 13),
 kO 14 (.ext 0 11),
 kO 15 (.ext 1 11),
 kO 5 (.new (some 2) [(.int .i64 0), (.int .i64 0), (.int .i64 0), (.int .i64 0)]),
 kU (.st 4 5 14),
 kO 6 (.mv 15)])
 yt6)
def yw4 : CCode :=
  (.seq (.region [
 kO 2 (.box (some 0) 0),
 kO 3 (.box (some 1) 1),
 kO 4 (.mv (.c (.bool false)))])
 ywp)
def y254 : CFunc :=
  ⟨2, true, 3, yw4, [.t 4]⟩
def y1c8 : CCode :=
  (.seq (.region [
 kO 1 (.box (some 0) 0),
 kO 2 (.mv (.c (.bool false)))])
 (.seq (.region [
 kO 3 (.fa 0 1),
 kO 4 (.ld false 1 3),
 kO 5 (.bin .eql 4 (ci 27)),
 kO 6 (.mv 5),
 kG 7 (.fa 0 1) 6 false,
 kG 8 (.ld false 1 7) 6 false,
 kG 9 (.bin .eql 8 (ci 28)) 6 false,
 kO 10 (.pick 6 (.c (.bool true)) 9),
 kO 11 (.mv 10),
 kG 12 (.fa 0 1) 11 false,
 kG 13 (.ld false 1 12) 11 false,
 kG 14 (.bin .eql 13 (ci 29)) 11 false,
 kO 15 (.pick 11 (.c (.bool true)) 14),
 kO 2 (.mv 15)])
 .ret))
def y28p : CFunc :=
  ⟨1, true, 1, y1c8, [.t 2]⟩
def y1cz : CCode :=
  (.seq (.region [
 kO 52 (.mv 3),
 kO 2 (.mv 52)])
 .ret)
def y136 : CCode :=
  (.seq (.region [
 kO 39 (.mv 3),
 kO 40 (.mv 5),
 kO 41 (.ixs 1 39 40),
 kU (.st 1 41 (.c (.bool true)))])
 (.seq (.region [
 kO 42 (.mv 4),
 kO 43 (.ld true 5 1),
 kO 44 (.mv 5),
 kO 45 (.call none true 81 [43, 44]),
 kO 46 (.app (some 3) 1 8 42 45),
 kO 4 (.mv 46)])
 (.region [
 kO 47 (.mv 4),
 kO 48 (.ld true 5 1),
 kO 49 (.mv 5),
 kO 50 (.call none true 79 [48, 49]),
 kO 51 (.app (some 4) 1 8 47 50),
 kO 4 (.mv 51)])))
def y1at : CCode :=
  (.seq (.seq (.region [
 kO 25 (.mv 5),
 kO 26 (.bin .lss 25 (ci 0)),
 kO 27 (.mv 26),
 kG 28 (.mv 5) 27 false,
 kG 29 (.mv 3) 27 false,
 kG 30 (.len 1 29) 27 false,
 kG 31 (.bin .geq 28 30) 27 false,
 kO 32 (.pick 27 (.c (.bool true)) 31),
 kO 33 (.mv 32),
 kG 34 (.mv 3) 33 false,
 kG 35 (.mv 5) 33 false,
 kG 36 (.ixs 1 34 35) 33 false,
 kG 37 (.ld false 1 36) 33 false,
 kO 38 (.pick 33 (.c (.bool true)) 37)])
 (.cond 38
 (.exit 1)
 .skip))
 y136)
def y1a3 : CCode :=
  (.seq (.region [
 kO 20 (.mv 4),
 kO 21 (.mv 4),
 kO 22 (.len 1 21),
 kO 23 (.bin .sub 22 (ci 1)),
 kO 24 (.slc 1 20 none (some 23)),
 kO 4 (.mv 24)])
 y1at)
def y14a : CCode :=
  (.seq (.region [
 kO 14 (.mv 4),
 kO 15 (.mv 4),
 kO 16 (.len 1 15),
 kO 17 (.bin .sub 16 (ci 1)),
 kO 18 (.ixs 1 14 17),
 kO 19 (.ld false 1 18),
 kO 5 (.mv 19)])
 y1a3)
def y1cb : CCode :=
  (.block 1 y14a)
def y1d6 : CCode :=
  (.seq (.seq (.region [
 kO 11 (.mv 4),
 kO 12 (.len 1 11),
 kO 13 (.bin .gtr 12 (ci 0))])
 (.cond 13
 .skip
 (.exit 0)))
 y1cb)
def ykm : CCode :=
  (.loop [1, 3, 4] y1d6)
def y1kb : CCode :=
  (.block 0 ykm)
def yzs : CCode :=
  (.seq y1kb
 y1cz)
def yv6 : CCode :=
  (.seq (.region [
 kO 10 (.buildS (some 2) 1 1 [(.int .i64 0)] [(0, (ci 0))]),
 kO 4 (.mv 10)])
 yzs)
def yx1 : CCode :=
  (.seq (.region [
 kO 6 (.fa 3 1),
 kO 7 (.ld false 1 6),
 kO 8 (.len 1 7),
 kO 9 (.mkS (some 1) 1 1 [(.bool false)] 8 8),
 kO 3 (.mv 9)])
 yv6)
def ywo : CCode :=
  (.seq (.region [
 kO 1 (.box (some 0) 0),
 kO 2 (.mv (.c .nils))])
 yx1)
def y28s : CFunc :=
  ⟨1, true, 5, ywo, [.t 2]⟩
def y13t : CCode :=
  (.seq (.region [
 kO 179 (.mv 5),
 kO 2 (.mv 179)])
 .ret)
def y1kw : CCode :=
  (.region [
 kO 74 (.mv 7),
 kO 75 (.bin .sub 74 (ci 1)),
 kO 7 (.mv 75)])
def y1hf : CCode :=
  (.region [
 kO 167 (.mv 5),
 kO 168 (.nilchk 167),
 kO 169 (.fa 0 168),
 kO 170 (.ld false 1 169),
 kO 171 (.mv 7),
 kO 172 (.ixs 1 170 171),
 kO 173 (.ld false 1 172),
 kO 174 (.mv 12),
 kO 175 (.call none false 84 [173, 174]),
 kO 176 (.mv 175),
 kG 177 (.mv 6) 176 false,
 kO 178 (.pick 176 (.c (.bool true)) 177),
 kO 6 (.mv 178)])
def y16l : CCode :=
  (.region [
 kO 166 (.bin .add 159 (ci 1)),
 kO 159 (.mv 166)])
def y14r : CCode :=
  (.seq (.block 11 (.seq (.region [
 kO 161 (.ixs 1 157 159),
 kO 162 (.ld false 1 161),
 kO 15 (.mv 162)])
 (.region [
 kO 163 (.mv 12),
 kO 164 (.mv 15),
 kO 165 (.call none false 86 [163, 164])])))
 y16l)
def y12l : CCode :=
  (.seq (.cond 160
 .skip
 (.exit 10))
 y14r)
def yxo : CCode :=
  (.seq (.region [
 kO 160 (.bin .lss 159 158)])
 y12l)
def yjo : CCode :=
  (.loop [1, 3, 5, 6, 7, 12, 157, 158, 159] yxo)
def yrz : CCode :=
  (.block 10 yjo)
def yqz : CCode :=
  (.seq (.region [
 kO 152 (.fa 3 1),
 kO 153 (.ld false 1 152),
 kO 154 (.mv 7),
 kO 155 (.ixs 9 153 154),
 kO 156 (.ld true 9 155),
 kO 157 (.call none true 10 [156]),
 kO 158 (.len 1 157),
 kO 159 (.mv (ci 0))])
 yrz)
def ytd : CCode :=
  (.seq yqz
 y1hf)
def ywc : CCode :=
  (.seq (.region [
 kO 143 (.mv 12),
 kO 144 (.mv 5),
 kO 145 (.nilchk 144),
 kO 146 (.fa 2 145),
 kO 147 (.ld false 1 146),
 kO 148 (.mv 7),
 kO 149 (.ixs 1 147 148),
 kO 150 (.ld false 1 149),
 kO 151 (.call none false 84 [143, 150])])
 ytd)
def yx7 : CCode :=
  (.seq (.seq (.region [
 kO 132 (.fa 3 1),
 kO 133 (.ld false 1 132),
 kO 134 (.mv 7),
 kO 135 (.ixs 9 133 134),
 kO 136 (.ld true 9 135),
 kO 137 (.call none true 9 [136]),
 kO 13 (.mv 137)])
 (.seq (.region [
 kO 138 (.mv 13),
 kO 139 (.bin .geq 138 (ci 0))])
 (.cond 139
 (.region [
  kO 140 (.mv 12),
  kO 141 (.mv 13),
  kO 142 (.call none false 85 [140, 141])])
 .skip)))
 ywc)
def ywg : CCode :=
  (.seq (.region [
 kO 124 (.mv 5),
 kO 125 (.nilchk 124),
 kO 126 (.fa 1 125),
 kO 127 (.ld false 1 126),
 kO 128 (.mv 7),
 kO 129 (.ixs 1 127 128),
 kO 130 (.ld false 1 129),
 kO 131 (.app (some 2) 1 8 (.c .nils) 130),
 kO 12 (.mv 131)])
 yx7)
def ys2 : CCode :=
  (.region [
 kO 123 (.bin .add 104 (ci 1)),
 kO 104 (.mv 123)])
def yu4 : CCode :=
  (.seq (.block 9 (.seq (.region [
 kO 106 (.ixs 1 102 104),
 kO 107 (.ld false 1 106),
 kO 11 (.mv 107)])
 (.draw [
 kO 108 (.mv 5),
 kO 109 (.nilchk 108),
 kO 110 (.fa 2 109),
 kO 111 (.ld false 1 110),
 kO 112 (.mv 7),
 kO 113 (.ixs 1 111 112),
 kO 114 (.ld false 1 113),
 kO 115 (.mv 5),
 kO 116 (.nilchk 115),
 kO 117 (.fa 0 116),
 kO 118 (.ld false 1 117),
 kO 119 (.mv 11),
 kO 120 (.ixs 1 118 119),
 kO 121 (.ld false 1 120),
 kO 122 (.call none false 84 [114, 121])] [])))
 ys2)
def yr9 : CCode :=
  (.seq (.cond 105
 .skip
 (.exit 8))
 yu4)
def yrl : CCode :=
  (.seq (.region [
 kO 105 (.bin .lss 104 103)])
 yr9)
def ygc : CCode :=
  (.loop [1, 3, 5, 6, 7, 102, 103, 104] yrl)
def yqx : CCode :=
  (.block 8 ygc)
def ytg : CCode :=
  (.seq (.region [
 kO 100 (.ld true 5 1),
 kO 101 (.mv 7),
 kO 102 (.call none true 79 [100, 101]),
 kO 103 (.len 1 102),
 kO 104 (.mv (ci 0))])
 yqx)
def yya : CCode :=
  (.seq ytg
 ywg)
def yto : CCode :=
  (.region [
 kO 99 (.bin .add 80 (ci 1)),
 kO 80 (.mv 99)])
def yw5 : CCode :=
  (.seq (.block 7 (.seq (.region [
 kO 82 (.ixs 1 78 80),
 kO 83 (.ld false 1 82),
 kO 9 (.mv 83)])
 (.draw [
 kO 84 (.mv 5),
 kO 85 (.nilchk 84),
 kO 86 (.fa 1 85),
 kO 87 (.ld false 1 86),
 kO 88 (.mv 7),
 kO 89 (.ixs 1 87 88),
 kO 90 (.ld false 1 89),
 kO 91 (.mv 5),
 kO 92 (.nilchk 91),
 kO 93 (.fa 0 92),
 kO 94 (.ld false 1 93),
 kO 95 (.mv 9),
 kO 96 (.ixs 1 94 95),
 kO 97 (.ld false 1 96),
 kO 98 (.call none false 84 [90, 97])] [])))
 yto)
def yrn : CCode :=
  (.seq (.cond 81
 .skip
 (.exit 6))
 yw5)
def yqe : CCode :=
  (.seq (.region [
 kO 81 (.bin .lss 80 79)])
 yrn)
def yep : CCode :=
  (.loop [1, 3, 5, 6, 7, 78, 79, 80] yqe)
def ysi : CCode :=
  (.block 6 yep)
def ysr : CCode :=
  (.seq (.region [
 kO 76 (.ld true 5 1),
 kO 77 (.mv 7),
 kO 78 (.call none true 81 [76, 77]),
 kO 79 (.len 1 78),
 kO 80 (.mv (ci 0))])
 ysi)
def yrb : CCode :=
  (.seq ysr
 yya)
def ys5 : CCode :=
  (.block 5 yrb)
def yyd : CCode :=
  (.seq ys5
 y1kw)
def yrh : CCode :=
  (.seq (.seq (.region [
 kO 72 (.mv 7),
 kO 73 (.bin .geq 72 (ci 0))])
 (.cond 73
 .skip
 (.exit 4)))
 yyd)
def ykb : CCode :=
  (.loop [1, 3, 5, 6, 7] yrh)
def ysp : CCode :=
  (.block 4 ykb)
def yq3 : CCode :=
  (.seq (.region [
 kO 70 (.mv 3),
 kO 71 (.bin .sub 70 (ci 1)),
 kO 7 (.mv 71)])
 ysp)
def yvc : CCode :=
  (.seq (.region [
 kO 6 (.mv (.c (.bool false)))])
 yq3)
def yqb : CCode :=
  (.block 3 yvc)
def yxs : CCode :=
  (.seq (.seq (.region [
 kO 69 (.mv 6)])
 (.cond 69
 .skip
 (.exit 2)))
 yqb)
def yjs : CCode :=
  (.loop [1, 3, 5, 6] yxs)
def yur : CCode :=
  (.block 2 yjs)
def yxy : CCode :=
  (.seq (.region [
 kO 6 (.mv (.c (.bool true)))])
 yur)
def yw0 : CCode :=
  (.seq yxy
 y13t)
def yta : CCode :=
  (.region [
 kO 68 (.bin .add 33 (ci 1)),
 kO 33 (.mv 68)])
def yqy : CCode :=
  (.seq (.block 1 (.drawN 9 [
 kO 35 (.mv 5),
 kO 36 (.mv 5),
 kO 37 (.mv 5),
 kO 38 (.mv 5),
 kO 39 (.nilchk 38),
 kO 40 (.fa 0 39),
 kO 41 (.ld false 1 40),
 kO 42 (.mv 4),
 kO 43 (.mkS (some 0) 1 8 [(.int .u64 0)] 42 42),
 kO 44 (.buildS (some 1) 1 1 [.nils] [(0, 43)]),
 kO 45 (.app (some 2) 1 24 41 44),
 kO 46 (.mv 5),
 kO 47 (.nilchk 46),
 kO 48 (.fa 1 47),
 kO 49 (.ld false 1 48),
 kO 50 (.mv 4),
 kO 51 (.mkS (some 3) 1 8 [(.int .u64 0)] 50 50),
 kO 52 (.buildS (some 4) 1 1 [.nils] [(0, 51)]),
 kO 53 (.app (some 5) 1 24 49 52),
 kO 54 (.mv 5),
 kO 55 (.nilchk 54),
 kO 56 (.fa 2 55),
 kO 57 (.ld false 1 56),
 kO 58 (.mv 4),
 kO 59 (.mkS (some 6) 1 8 [(.int .u64 0)] 58 58),
 kO 60 (.buildS (some 7) 1 1 [.nils] [(0, 59)]),
 kO 61 (.app (some 8) 1 24 57 60),
 kO 62 (.nilchk 35),
 kO 63 (.fa 0 62),
 kU (.st 1 63 45),
 kO 64 (.nilchk 36),
 kO 65 (.fa 1 64),
 kU (.st 1 65 53),
 kO 66 (.nilchk 37),
 kO 67 (.fa 2 66),
 kU (.st 1 67 61)] [(6, 8), (6, 9), (8, 14), (9, 14), (10, 14), (6, 16), (8, 16), (9, 16), (10, 16), (14, 16), (6, 17), (8, 17), (9, 17), (10, 17), (14, 17), (8, 22), (9, 22), (10, 22), (16, 22), (17, 22), (18, 22), (6, 24), (8, 24), (9, 24), (10, 24), (14, 24), (16, 24), (17, 24), (18, 24), (22, 24), (6, 25), (8, 25), (9, 25), (10, 25), (14, 25), (16, 25), (17, 25), (18, 25), (22, 25)]))
 yta)
def yrq : CCode :=
  (.seq (.cond 34
 .skip
 (.exit 0))
 yqy)
def yu5 : CCode :=
  (.seq (.region [
 kO 34 (.bin .lss 33 32)])
 yrq)
def yf9 : CCode :=
  (.loop [1, 3, 4, 5, 32, 33] yu5)
def ywr : CCode :=
  (.block 0 yf9)
def yyh : CCode :=
  (.seq (.region [
 kO 32 (.mv 3),
 kO 33 (.mv (ci 0))])
 ywr)
def yre : CCode :=
  (.seq yyh
 yw0)
def yr3 : CCode :=
  (.seq (.region [
 kO 27 (.fa 0 1),
 kO 28 (.ld false 1 27),
 kO 29 (.len 1 28),
 kO 30 (.build [.nils, .nils, .nils, (.int .i64 0)] [(3, 1, 29)]),
 kO 31 (.box (some 1) 30),
 kO 5 (.mv 31)])
 yre)
def yrv : CCode :=
  (.seq (.draw [
 kO 19 (.fa 3 1),
 kO 20 (.ld false 1 19),
 kO 21 (.len 1 20),
 kO 22 (.fa 0 1),
 kO 23 (.ld false 1 22),
 kO 24 (.len 1 23),
 kO 25 (.bin .quo 24 (ci 64)),
 kO 26 (.bin .add 25 (ci 1)),
 kO 3 (.mv 21),
 kO 4 (.mv 26)] [])
 yr3)
def ytx : CCode :=
  (.seq (.seq (.region [
 kO 16 (.ld true 5 1),
 kO 17 (.call none true 8 [16]),
 kO 18 (.bin .neq 17 (ci 0))])
 (.cond 18
 (.seq (.region [
  kO 2 (.mv (.c .nilp))])
  .ret)
 .skip))
 yrv)
def yvz : CCode :=
  (.seq (.region [
 kO 1 (.box (some 0) 0),
 kO 2 (.mv (.c .nilp))])
 ytx)
def y25z : CFunc :=
  ⟨1, true, 3, yvz, [.t 2]⟩
def y13b : CCode :=
  (.seq (.region [
 kO 2 (.mv (.c (.bool false)))])
 .ret)
def y126 : CCode :=
  (.cond 5
 (.seq (.region [
  kO 2 (.mv (.c (.bool true)))])
  .ret)
 .skip)
def y1cx : CCode :=
  (.seq (.seq (.region [
 kO 6 (.bin .eql 4 (ci 1)),
 kO 5 (.mv 6)])
 (.cond 5
 .skip
 (.seq (.region [
  kO 7 (.bin .eql 4 (ci 2)),
  kO 5 (.mv 7)])
  (.cond 5
  .skip
  (.seq (.region [
   kO 8 (.bin .eql 4 (ci 3)),
   kO 5 (.mv 8)])
   (.cond 5
   .skip
   (.seq (.region [
    kO 9 (.bin .eql 4 (ci 4)),
    kO 5 (.mv 9)])
    (.cond 5
    .skip
    (.seq (.region [
     kO 10 (.bin .eql 4 (ci 5)),
     kO 5 (.mv 10)])
     (.cond 5
     .skip
     (.seq (.region [
      kO 11 (.bin .eql 4 (ci 6)),
      kO 5 (.mv 11)])
      (.cond 5
      .skip
      (.seq (.region [
       kO 12 (.bin .eql 4 (ci 13)),
       kO 5 (.mv 12)])
       (.cond 5
       .skip
       (.seq (.region [
        kO 13 (.bin .eql 4 (ci 15)),
        kO 5 (.mv 13)])
        (.cond 5
        .skip
        (.seq (.region [
         kO 14 (.bin .eql 4 (ci 16)),
         kO 5 (.mv 14)])
         (.cond 5
         .skip
         (.seq (.region [
          kO 15 (.bin .eql 4 (ci 18)),
          kO 5 (.mv 15)])
          (.cond 5
          .skip
          (.region [
           kO 16 (.bin .eql 4 (ci 22)),
           kO 5 (.mv 16)])))))))))))))))))))))
 y126)
def y151 : CCode :=
  (.block 0 y1cx)
def y1i8 : CCode :=
  (.seq (.region [
 kO 3 (.fa 0 1),
 kO 4 (.ld false 1 3)])
 y151)
def y154 : CCode :=
  (.seq y1i8
 y13b)
def y1d9 : CCode :=
  (.seq (.region [
 kO 1 (.box (some 0) 0),
 kO 2 (.mv (.c (.bool false)))])
 y154)
def y27a : CFunc :=
  ⟨1, true, 1, y1d9, [.t 2]⟩
def y12q : CCode :=
  (.seq (.region [
 kO 6 (.mv (.c (.bool false)))])
 (.seq (.region [
 kO 7 (.mv 0),
 kO 8 (.eqn 0 true 7 (.c .nilp)),
 kO 9 (.mv 8),
 kG 10 (.mv 0) 9 true,
 kG 11 (.mv 0) 9 true,
 kG 12 (.nilchk 11) 9 true,
 kG 13 (.fa 1 12) 9 true,
 kG 14 (.ld false 1 13) 9 true,
 kG 15 (.mv 1) 9 true,
 kG 16 (.mv 2) 9 true,
 kG 17 (.call none true 82 [10, 14, 15, 16]) 9 true,
 kO 18 (.pick 9 17 (.c (.bool false))),
 kO 6 (.mv 18)])
 .ret))
def y277 : CFunc :=
  ⟨3, true, 0, y12q, [.t 6]⟩
def y19z : CCode :=
  (.seq (.region [
 kO 57 (.mv 5),
 kO 4 (.mv 57)])
 .ret)
def y1jm : CCode :=
  (.region [
 kO 56 (.bin .add 29 (ci 1)),
 kO 29 (.mv 56)])
def y1bh : CCode :=
  (.seq (.region [
 kO 53 (.fa 3 7),
 kO 54 (.ld false 1 53),
 kO 55 (.bin .eql 54 (.c (.str [])))])
 (.cond 55
 (.exit 0)
 .skip))
def y1dq : CCode :=
  (.seq (.seq (.region [
 kO 43 (.mv 5),
 kO 44 (.fa 2 7),
 kO 45 (.ld false 1 44),
 kO 46 (.call none true 46 [43, 45]),
 kO 47 (.un .not 46)])
 (.cond 47
 (.region [
  kO 48 (.mv 5),
  kO 49 (.fa 2 7),
  kO 50 (.ld false 1 49),
  kO 51 (.buildS (some 2) 1 1 [(.int .i64 0)] [(0, 50)]),
  kO 52 (.app (some 3) 1 8 48 51),
  kO 5 (.mv 52)])
 .skip))
 y1bh)
def y177 : CCode :=
  (.seq (.seq (.region [
 kO 33 (.mv 1),
 kO 34 (.fa 0 7),
 kO 35 (.ld false 1 34),
 kO 36 (.bin .lss 33 35),
 kO 37 (.mv 36),
 kG 38 (.mv 1) 37 false,
 kG 39 (.fa 1 7) 37 false,
 kG 40 (.ld false 1 39) 37 false,
 kG 41 (.bin .geq 38 40) 37 false,
 kO 42 (.pick 37 (.c (.bool true)) 41)])
 (.cond 42
 (.exit 1)
 .skip))
 y1dq)
def y19j : CCode :=
  (.seq (.region [
 kO 31 (.ixs 4 27 29),
 kO 32 (.ld true 4 31),
 kO 7 (.new (some 1) [(.int .i64 0), (.int .i64 0), (.int .i64 0), (.str [])]),
 kU (.st 4 7 32)])
 y177)
def y144 : CCode :=
  (.block 1 y19j)
def y1j9 : CCode :=
  (.seq y144
 y1jm)
def yul : CCode :=
  (.seq (.cond 30
 .skip
 (.exit 0))
 y1j9)
def yr4 : CCode :=
  (.seq (.region [
 kO 30 (.bin .lss 29 28)])
 yul)
def yjw : CCode :=
  (.loop [1, 5, 27, 28, 29] yr4)
def yrx : CCode :=
  (.block 0 yjw)
def yqj : CCode :=
  (.seq (.region [
 kO 26 (.fa 4 2),
 kO 27 (.ld false 1 26),
 kO 28 (.len 1 27),
 kO 29 (.mv (ci 0))])
 yrx)
def yry : CCode :=
  (.seq yqj
 y19z)
def ysv : CCode :=
  (.seq (.region [
 kO 5 (.mv (.c .nils))])
 yry)
def yw6 : CCode :=
  (.seq (.seq (.region [
 kO 8 (.mv 1),
 kO 9 (.bin .lss 8 (ci 0)),
 kO 10 (.mv 9),
 kG 11 (.mv 1) 10 false,
 kG 12 (.fa 3 2) 10 false,
 kG 13 (.ld false 1 12) 10 false,
 kG 14 (.len 1 13) 10 false,
 kG 15 (.bin .geq 11 14) 10 false,
 kO 16 (.pick 10 (.c (.bool true)) 15),
 kO 17 (.mv 16),
 kG 18 (.fa 3 2) 17 false,
 kG 19 (.ld false 1 18) 17 false,
 kG 20 (.mv 1) 17 false,
 kG 21 (.ixs 9 19 20) 17 false,
 kG 22 (.ld true 9 21) 17 false,
 kG 23 (.call none true 18 [22]) 17 false,
 kG 24 (.un .not 23) 17 false,
 kO 25 (.pick 17 (.c (.bool true)) 24)])
 (.cond 25
 (.seq (.region [
  kO 4 (.mv (.c .nils))])
  .ret)
 .skip))
 ysv)
def yq8 : CCode :=
  (.seq (.region [
 kO 2 (.box (some 0) 0),
 kO 4 (.mv (.c .nils))])
 yw6)
def y28o : CFunc :=
  ⟨2, true, 4, yq8, [.t 4]⟩
def y18u : CCode :=
  (.seq (.region [
 kO 43 (.mv 6),
 kO 4 (.mv 43)])
 .ret)
def y196 : CCode :=
  (.seq (.seq (.region [
 kO 29 (.ld true 9 5),
 kO 30 (.call none true 22 [29]),
 kO 31 (.mv 30),
 kG 32 (.mv 6) 31 true,
 kG 33 (.fa 6 5) 31 true,
 kG 34 (.ld false 1 33) 31 true,
 kG 35 (.call none true 46 [32, 34]) 31 true,
 kG 36 (.un .not 35) 31 true,
 kO 37 (.pick 31 36 (.c (.bool false)))])
 (.cond 37
 (.region [
  kO 38 (.mv 6),
  kO 39 (.fa 6 5),
  kO 40 (.ld false 1 39),
  kO 41 (.buildS (some 4) 1 1 [(.int .i64 0)] [(0, 40)]),
  kO 42 (.app (some 5) 1 8 38 41),
  kO 6 (.mv 42)])
 .skip))
 y18u)
def y128 : CCode :=
  (.seq (.seq (.region [
 kO 21 (.ld true 9 5),
 kO 22 (.call none true 24 [21]),
 kO 23 (.un .not 22)])
 (.cond 23
 (.region [
  kO 24 (.mv 6),
  kO 25 (.mv 1),
  kO 26 (.bin .add 25 (ci 1)),
  kO 27 (.buildS (some 2) 1 1 [(.int .i64 0)] [(0, 26)]),
  kO 28 (.app (some 3) 1 8 24 27),
  kO 6 (.mv 28)])
 .skip))
 y196)
def y12j : CCode :=
  (.seq (.region [
 kO 6 (.mv (.c .nils))])
 y128)
def y12w : CCode :=
  (.seq (.region [
 kO 16 (.fa 3 2),
 kO 17 (.ld false 1 16),
 kO 18 (.mv 1),
 kO 19 (.ixs 9 17 18),
 kO 20 (.ld true 9 19),
 kO 5 (.new (some 1) [(.int .i64 0), (.int .i64 0), (.int .i64 0), (.int .i64 0), (.int .i64 0), (.int .i64 0), (.int .i64 0), (.str []), .nils]),
 kU (.st 9 5 20)])
 y12j)
def y15z : CCode :=
  (.seq (.seq (.region [
 kO 7 (.mv 1),
 kO 8 (.bin .lss 7 (ci 0)),
 kO 9 (.mv 8),
 kG 10 (.mv 1) 9 false,
 kG 11 (.fa 3 2) 9 false,
 kG 12 (.ld false 1 11) 9 false,
 kG 13 (.len 1 12) 9 false,
 kG 14 (.bin .geq 10 13) 9 false,
 kO 15 (.pick 9 (.c (.bool true)) 14)])
 (.cond 15
 (.seq (.region [
  kO 4 (.mv (.c .nils))])
  .ret)
 .skip))
 y12w)
def y1kp : CCode :=
  (.seq (.region [
 kO 2 (.box (some 0) 0),
 kO 4 (.mv (.c .nils))])
 y15z)
def y294 : CFunc :=
  ⟨2, true, 6, y1kp, [.t 4]⟩
def yqk : CCode :=
  (.seq (.region [
 kO 2 (.mv (.c (.bool false)))])
 (.seq (.region [
 kO 3 (.mv 0),
 kO 4 (.buildS (some 0) 1 3 [(.int .i64 0)] [(0, (ci 27)), (1, (ci 30)), (2, (ci 31))]),
 kO 5 (.call none true 42 [3, 4]),
 kO 2 (.mv 5)])
 .ret))
def y1v3 : CFunc :=
  ⟨1, true, 1, yqk, [.t 2]⟩
def ytu : CCode :=
  (.seq (.region [
 kO 14 (.fa 0 2),
 kO 15 (.ld false 1 14),
 kO 16 (.mv 1),
 kO 17 (.ixs 1 15 16),
 kO 18 (.ld false 1 17),
 kO 4 (.mv 18)])
 .ret)
def yxk : CCode :=
  (.seq (.seq (.region [
 kO 5 (.mv 1),
 kO 6 (.bin .lss 5 (ci 0)),
 kO 7 (.mv 6),
 kG 8 (.mv 1) 7 false,
 kG 9 (.fa 0 2) 7 false,
 kG 10 (.ld false 1 9) 7 false,
 kG 11 (.len 1 10) 7 false,
 kG 12 (.bin .geq 8 11) 7 false,
 kO 13 (.pick 7 (.c (.bool true)) 12)])
 (.cond 13
 (.seq (.region [
  kO 4 (.mv (ci 0))])
  .ret)
 .skip))
 ytu)
def ywq : CCode :=
  (.seq (.region [
 kO 2 (.box (some 0) 0),
 kO 4 (.mv (ci 0))])
 yxk)
def y1vc : CFunc :=
  ⟨2, true, 1, ywq, [.t 4]⟩
def ysl : CCode :=
  (.seq (.region [
 kO 4 (.mv (.c (.bool false)))])
 .ret)
def yvo : CCode :=
  (.region [
 kO 10 (.mv 5),
 kO 11 (.bin .add 10 (ci 1)),
 kO 5 (.mv 11)])
def yzk : CCode :=
  (.seq (.block 1 (.seq (.region [
 kO 12 (.mv 1),
 kO 13 (.mv 5),
 kO 14 (.ixs 1 12 13),
 kO 15 (.ld false 1 14),
 kO 16 (.mv 0),
 kO 17 (.bin .eql 15 16)])
 (.cond 17
 (.seq (.region [
  kO 4 (.mv (.c (.bool true)))])
  .ret)
 .skip)))
 yvo)
def yx5 : CCode :=
  (.seq (.seq (.region [
 kO 6 (.mv 5),
 kO 7 (.mv 1),
 kO 8 (.len 1 7),
 kO 9 (.bin .lss 6 8)])
 (.cond 9
 .skip
 (.exit 0)))
 yzk)
def yg0 : CCode :=
  (.loop [0, 1, 5] yx5)
def yx9 : CCode :=
  (.block 0 yg0)
def yuo : CCode :=
  (.seq (.region [
 kO 5 (.mv (ci 0))])
 yx9)
def yx6 : CCode :=
  (.seq yuo
 ysl)
def ywu : CCode :=
  (.seq (.region [
 kO 4 (.mv (.c (.bool false)))])
 yx6)
def y1to : CFunc :=
  ⟨2, true, 0, ywu, [.t 4]⟩
def y1qu : CCode :=
  (.seq (.region [
 kO 4 (.mv (.c (.bool true)))])
 .ret)
def y1od : CCode :=
  (.seq (.draw [
 kO 215 (.fa 2 3),
 kO 216 (.ld false 1 215),
 kO 217 (.bin .neq 216 (ci (-1))),
 kO 218 (.mv 217),
 kG 219 (.ld true 5 2) 218 true,
 kG 220 (.fa 2 3) 218 true,
 kG 221 (.ld false 1 220) 218 true,
 kG 222 (.call none true 48 [219, 221]) 218 true,
 kG 223 (.fa 2 2) 218 true,
 kG 224 (.ld false 1 223) 218 true,
 kG 225 (.bin .eql 222 224) 218 true,
 kO 226 (.pick 218 225 (.c (.bool false))),
 kO 4 (.mv 226)] [(7, 9)])
 .ret)
def y1qs : CCode :=
  (.seq (.seq (.region [
 kO 209 (.fa 2 2),
 kO 210 (.ld false 1 209),
 kO 211 (.bin .eql 210 (ci 0))])
 (.cond 211
 (.seq (.region [
  kO 212 (.fa 2 3),
  kO 213 (.ld false 1 212),
  kO 214 (.bin .eql 213 (ci (-1))),
  kO 4 (.mv 214)])
  .ret)
 .skip))
 y1od)
def y1sp : CCode :=
  (.cond 207
 y1qs
 .skip)
def y1m8 : CCode :=
  (.seq (.region [
 kO 208 (.bin .eql 55 (ci 30)),
 kO 207 (.mv 208)])
 y1sp)
def y1o8 : CCode :=
  (.cond 179
 (.seq (.region [
  kO 181 (.fa 5 3),
  kO 182 (.ld false 1 181),
  kO 183 (.bin .eql 182 (ci 0)),
  kO 184 (.mv 183),
  kG 185 (.fa 5 3) 184 false,
  kG 186 (.ld false 1 185) 184 false,
  kG 187 (.bin .eql 186 (ci 1)) 184 false,
  kO 188 (.pick 184 (.c (.bool true)) 187),
  kO 189 (.mv 188),
  kG 190 (.fa 3 3) 189 true,
  kG 191 (.ld false 1 190) 189 true,
  kG 192 (.bin .eql 191 (ci (-1))) 189 true,
  kG 193 (.mv 192) 189 true,
  kG 194 (.ld true 5 2) 193 false,
  kG 195 (.fa 3 3) 193 false,
  kG 196 (.ld false 1 195) 193 false,
  kG 197 (.call none true 48 [194, 196]) 193 false,
  kG 198 (.bin .eql 197 (ci 3)) 193 false,
  kG 199 (.pick 193 (.c (.bool true)) 198) 189 true,
  kO 200 (.pick 189 199 (.c (.bool false))),
  kO 201 (.mv 200),
  kG 202 (.ld true 5 2) 201 true,
  kG 203 (.fa 6 3) 201 true,
  kG 204 (.ld false 1 203) 201 true,
  kG 205 (.call none true 49 [202, 204]) 201 true,
  kO 206 (.pick 201 205 (.c (.bool false))),
  kO 4 (.mv 206)])
  .ret)
 y1m8)
def y1rk : CCode :=
  (.seq (.region [
 kO 180 (.bin .eql 55 (ci 29)),
 kO 179 (.mv 180)])
 y1o8)
def y1sr : CCode :=
  (.cond 173
 (.seq (.region [
  kO 175 (.ld true 5 2),
  kO 176 (.fa 6 3),
  kO 177 (.ld false 1 176),
  kO 178 (.call none true 49 [175, 177]),
  kO 4 (.mv 178)])
  .ret)
 y1rk)
def y1mr : CCode :=
  (.seq (.region [
 kO 174 (.bin .eql 55 (ci 27)),
 kO 173 (.mv 174)])
 y1sr)
def y1g9 : CCode :=
  (.cond 157
 (.seq (.region [
  kO 159 (.fa 5 3),
  kO 160 (.ld false 1 159),
  kO 161 (.bin .geq 160 (ci 0)),
  kO 162 (.mv 161),
  kG 163 (.fa 5 3) 162 true,
  kG 164 (.ld false 1 163) 162 true,
  kG 165 (.bin .leq 164 (ci 5)) 162 true,
  kO 166 (.pick 162 165 (.c (.bool false))),
  kO 167 (.mv 166),
  kG 168 (.ld true 5 2) 167 true,
  kG 169 (.fa 6 3) 167 true,
  kG 170 (.ld false 1 169) 167 true,
  kG 171 (.call none true 49 [168, 170]) 167 true,
  kO 172 (.pick 167 171 (.c (.bool false))),
  kO 4 (.mv 172)])
  .ret)
 y1mr)
def y1h5 : CCode :=
  (.seq (.region [
 kO 158 (.bin .eql 55 (ci 28)),
 kO 157 (.mv 158)])
 y1g9)
def y1lh : CCode :=
  (.cond 149
 (.seq (.region [
  kO 154 (.ld true 5 2),
  kO 155 (.ld true 9 3),
  kO 156 (.call none true 68 [154, 155]),
  kO 4 (.mv 156)])
  .ret)
 y1h5)
def y1lo : CCode :=
  (.seq (.seq (.region [
 kO 150 (.bin .eql 55 (ci 23)),
 kO 149 (.mv 150)])
 (.cond 149
 .skip
 (.seq (.region [
  kO 151 (.bin .eql 55 (ci 24)),
  kO 149 (.mv 151)])
  (.cond 149
  .skip
  (.seq (.region [
   kO 152 (.bin .eql 55 (ci 25)),
   kO 149 (.mv 152)])
   (.cond 149
   .skip
   (.region [
    kO 153 (.bin .eql 55 (ci 26)),
    kO 149 (.mv 153)])))))))
 y1lh)
def y18f : CCode :=
  (.cond 143
 (.seq (.region [
  kO 146 (.fa 5 3),
  kO 147 (.ld false 1 146),
  kO 148 (.bin .geq 147 (ci 0)),
  kO 4 (.mv 148)])
  .ret)
 y1lo)
def y15h : CCode :=
  (.seq (.seq (.region [
 kO 144 (.bin .eql 55 (ci 16)),
 kO 143 (.mv 144)])
 (.cond 143
 .skip
 (.region [
  kO 145 (.bin .eql 55 (ci 17)),
  kO 143 (.mv 145)])))
 y18f)
def y12z : CCode :=
  (.cond 136
 (.seq (.region [
  kO 140 (.fa 7 3),
  kO 141 (.ld false 1 140),
  kO 142 (.call none true 67 [141]),
  kO 4 (.mv 142)])
  .ret)
 y15h)
def y1bi : CCode :=
  (.seq (.seq (.region [
 kO 137 (.bin .eql 55 (ci 12)),
 kO 136 (.mv 137)])
 (.cond 136
 .skip
 (.seq (.region [
  kO 138 (.bin .eql 55 (ci 21)),
  kO 136 (.mv 138)])
  (.cond 136
  .skip
  (.region [
   kO 139 (.bin .eql 55 (ci 22)),
   kO 136 (.mv 139)])))))
 y12z)
def y15l : CCode :=
  (.cond 112
 (.seq (.region [
  kO 114 (.mv 8),
  kO 115 (.bin .gtr 114 (ci 0)),
  kO 116 (.mv 115),
  kG 117 (.mv 9) 116 true,
  kG 118 (.bin .eql 117 (ci 0)) 116 true,
  kO 119 (.pick 116 118 (.c (.bool false))),
  kO 120 (.mv 119),
  kG 121 (.ld true 5 2) 120 true,
  kG 122 (.fa 1 3) 120 true,
  kG 123 (.ld false 1 122) 120 true,
  kG 124 (.call none true 48 [121, 123]) 120 true,
  kG 125 (.mv 10) 120 true,
  kG 126 (.bin .eql 124 125) 120 true,
  kO 127 (.pick 120 126 (.c (.bool false))),
  kO 128 (.mv 127),
  kG 129 (.ld true 5 2) 128 true,
  kG 130 (.fa 2 3) 128 true,
  kG 131 (.ld false 1 130) 128 true,
  kG 132 (.call none true 48 [129, 131]) 128 true,
  kG 133 (.mv 8) 128 true,
  kG 134 (.bin .eql 132 133) 128 true,
  kO 135 (.pick 128 134 (.c (.bool false))),
  kO 4 (.mv 135)])
  .ret)
 y1bi)
def y13m : CCode :=
  (.seq (.region [
 kO 113 (.bin .eql 55 (ci 6)),
 kO 112 (.mv 113)])
 y15l)
def y1lj : CCode :=
  (.cond 84
 (.seq (.region [
  kO 86 (.mv 9),
  kO 87 (.bin .gtr 86 (ci 0)),
  kO 88 (.mv 87),
  kG 89 (.ld true 5 2) 88 true,
  kG 90 (.fa 1 3) 88 true,
  kG 91 (.ld false 1 90) 88 true,
  kG 92 (.call none true 48 [89, 91]) 88 true,
  kG 93 (.mv 10) 88 true,
  kG 94 (.bin .eql 92 93) 88 true,
  kO 95 (.pick 88 94 (.c (.bool false))),
  kO 96 (.mv 95),
  kG 97 (.ld true 5 2) 96 true,
  kG 98 (.fa 2 3) 96 true,
  kG 99 (.ld false 1 98) 96 true,
  kG 100 (.call none true 48 [97, 99]) 96 true,
  kG 101 (.mv 8) 96 true,
  kG 102 (.bin .eql 100 101) 96 true,
  kO 103 (.pick 96 102 (.c (.bool false))),
  kO 104 (.mv 103),
  kG 105 (.ld true 5 2) 104 true,
  kG 106 (.fa 3 3) 104 true,
  kG 107 (.ld false 1 106) 104 true,
  kG 108 (.call none true 48 [105, 107]) 104 true,
  kG 109 (.mv 9) 104 true,
  kG 110 (.bin .eql 108 109) 104 true,
  kO 111 (.pick 104 110 (.c (.bool false))),
  kO 4 (.mv 111)])
  .ret)
 y13m)
def y12r : CCode :=
  (.seq (.region [
 kO 85 (.bin .eql 55 (ci 5)),
 kO 84 (.mv 85)])
 y1lj)
def y15k : CCode :=
  (.cond 73
 (.seq (.draw [
  kO 75 (.ld true 5 2),
  kO 76 (.fa 1 3),
  kO 77 (.ld false 1 76),
  kO 78 (.call none true 48 [75, 77]),
  kO 79 (.ld true 5 2),
  kO 80 (.fa 2 3),
  kO 81 (.ld false 1 80),
  kO 82 (.call none true 48 [79, 81]),
  kO 83 (.bin .eql 78 82),
  kO 4 (.mv 83)] [(3, 4), (3, 6)])
  .ret)
 y12r)
def y16h : CCode :=
  (.seq (.region [
 kO 74 (.bin .eql 55 (ci 4)),
 kO 73 (.mv 74)])
 y15k)
def y19a : CCode :=
  (.cond 56
 (.seq (.region [
  kO 58 (.ld true 5 2),
  kO 59 (.fa 1 3),
  kO 60 (.ld false 1 59),
  kO 61 (.call none true 48 [58, 60]),
  kO 62 (.bin .eql 61 (ci 2)),
  kO 63 (.mv 62),
  kG 64 (.fa 5 3) 63 false,
  kG 65 (.ld false 1 64) 63 false,
  kG 66 (.bin .geq 65 (ci (-2147483648))) 63 false,
  kG 67 (.mv 66) 63 false,
  kG 68 (.fa 5 3) 67 true,
  kG 69 (.ld false 1 68) 67 true,
  kG 70 (.bin .lss 69 (ci 2147483648)) 67 true,
  kG 71 (.pick 67 70 (.c (.bool false))) 63 false,
  kO 72 (.pick 63 (.c (.bool true)) 71),
  kO 4 (.mv 72)])
  .ret)
 y16h)
def y1fi : CCode :=
  (.seq (.region [
 kO 57 (.bin .eql 55 (ci 1)),
 kO 56 (.mv 57)])
 y19a)
def y181 : CCode :=
  (.block 2 y1fi)
def y1am : CCode :=
  (.seq (.region [
 kO 54 (.fa 0 3),
 kO 55 (.ld false 1 54)])
 y181)
def y1f9 : CCode :=
  (.seq y1am
 y1qu)
def y13o : CCode :=
  (.seq (.seq (.region [
 kO 39 (.fa 5 3),
 kO 40 (.ld false 1 39),
 kO 41 (.bin .geq 40 (ci 0)),
 kO 42 (.mv 41),
 kG 43 (.fa 5 3) 42 true,
 kG 44 (.ld false 1 43) 42 true,
 kG 45 (.bin .lss 44 (ci 1000)) 42 true,
 kO 46 (.pick 42 45 (.c (.bool false)))])
 (.cond 46
 (.region [
  kO 48 (.fa 5 3),
  kO 49 (.ld false 1 48),
  kO 50 (.call none true 66 [49]),
  kO 47 (.mv 50),
  kO 51 (.ext 0 47),
  kO 52 (.ext 1 47),
  kO 53 (.ext 2 47),
  kO 8 (.mv 51),
  kO 9 (.mv 52),
  kO 10 (.mv 53)])
 .skip))
 y1f9)
def y1g3 : CCode :=
  (.seq (.region [
 kO 8 (.mv (ci 0)),
 kO 9 (.mv (ci 0)),
 kO 10 (.mv (ci 0))])
 y13o)
def y1ln : CCode :=
  (.region [
 kO 27 (.mv 7),
 kO 28 (.bin .add 27 (ci 1)),
 kO 7 (.mv 28)])
def y15x : CCode :=
  (.seq (.block 1 (.seq (.draw [
 kO 29 (.ld true 5 2),
 kO 30 (.mv 6),
 kO 31 (.mv 7),
 kO 32 (.ixs 1 30 31),
 kO 33 (.ld false 1 32),
 kO 34 (.mv 5),
 kO 35 (.mv 7),
 kO 36 (.ixstr 34 35),
 kO 37 (.call none true 65 [29, 33, 36]),
 kO 38 (.un .not 37)] [])
 (.cond 38
 (.seq (.region [
  kO 4 (.mv (.c (.bool false)))])
  .ret)
 .skip)))
 y1ln)
def y18v : CCode :=
  (.seq (.seq (.region [
 kO 25 (.mv 7),
 kO 26 (.bin .lss 25 (ci 4))])
 (.cond 26
 .skip
 (.exit 0)))
 y15x)
def yzz : CCode :=
  (.loop [2, 3, 5, 6, 7] y18v)
def y12d : CCode :=
  (.block 0 yzz)
def y13e : CCode :=
  (.seq (.region [
 kO 7 (.mv (ci 0))])
 y12d)
def y1gk : CCode :=
  (.seq y13e
 y1g3)
def y1da : CCode :=
  (.seq (.region [
 kO 16 (.fa 1 3),
 kO 17 (.ld false 1 16),
 kO 18 (.fa 2 3),
 kO 19 (.ld false 1 18),
 kO 20 (.fa 3 3),
 kO 21 (.ld false 1 20),
 kO 22 (.fa 4 3),
 kO 23 (.ld false 1 22),
 kO 24 (.buildS (some 2) 1 4 [(.int .i64 0)] [(0, 17), (1, 19), (2, 21), (3, 23)]),
 kO 6 (.mv 24)])
 y1gk)
def y1e4 : CCode :=
  (.seq (.seq (.region [
 kO 14 (.mv 5),
 kO 15 (.bin .eql 14 (.c (.str [])))])
 (.cond 15
 (.seq (.region [
  kO 4 (.mv (.c (.bool false)))])
  .ret)
 .skip))
 y1da)
def y1er : CCode :=
  (.seq (.region [
 kO 11 (.fa 0 3),
 kO 12 (.ld false 1 11),
 kO 13 (.call none true 38 [12]),
 kO 5 (.mv 13)])
 y1e4)
def y1be : CCode :=
  (.seq (.region [
 kO 2 (.box (some 0) 0),
 kO 3 (.box (some 1) 1),
 kO 4 (.mv (.c (.bool false)))])
 y1er)
def y29f : CFunc :=
  ⟨2, true, 3, y1be, [.t 4]⟩
def yu0 : CCode :=
  (.seq (.region [
 kO 2 (.mv (.c (.bool false)))])
 (.seq (.region [
 kO 3 (.mv 0),
 kO 4 (.buildS (some 0) 1 3 [(.int .i64 0)] [(0, (ci 27)), (1, (ci 28)), (2, (ci 29))]),
 kO 5 (.call none true 42 [3, 4]),
 kO 2 (.mv 5)])
 .ret))
def y1ui : CFunc :=
  ⟨1, true, 1, yu0, [.t 2]⟩
def yrj : CCode :=
  (.seq (.region [
 kO 2 (.box (some 0) 0),
 kO 4 (.mv (.c (.bool false)))])
 (.seq (.region [
 kO 5 (.mv 1),
 kO 6 (.bin .geq 5 (ci 0)),
 kO 7 (.mv 6),
 kG 8 (.mv 1) 7 true,
 kG 9 (.fa 3 2) 7 true,
 kG 10 (.ld false 1 9) 7 true,
 kG 11 (.len 1 10) 7 true,
 kG 12 (.bin .lss 8 11) 7 true,
 kO 13 (.pick 7 12 (.c (.bool false))),
 kO 4 (.mv 13)])
 .ret))
def y1uu : CFunc :=
  ⟨2, true, 1, yrj, [.t 4]⟩
def y1kv : CCode :=
  (.seq (.region [
 kO 1 (.box (some 0) 0),
 kO 2 (.mv (.c (.bool false)))])
 (.seq (.region [
 kO 3 (.fa 0 1),
 kO 4 (.ld false 1 3),
 kO 5 (.bin .geq 4 (ci 23)),
 kO 6 (.mv 5),
 kG 7 (.fa 0 1) 6 true,
 kG 8 (.ld false 1 7) 6 true,
 kG 9 (.bin .leq 8 (ci 26)) 6 true,
 kO 10 (.pick 6 9 (.c (.bool false))),
 kO 2 (.mv 10)])
 .ret))
def y29m : CFunc :=
  ⟨1, true, 1, y1kv, [.t 2]⟩
def yt1 : CCode :=
  (.seq (.region [
 kO 4 (.mv (ci (-1)))])
 .ret)
def ysk : CCode :=
  (.region [
 kO 18 (.bin .add 8 (ci 1)),
 kO 8 (.mv 18)])
def yuq : CCode :=
  (.seq (.block 1 (.seq (.region [
 kO 10 (.mv 8),
 kO 5 (.mv 10)])
 (.seq (.region [
 kO 11 (.mv 1),
 kO 12 (.mv 0),
 kO 13 (.mv 5),
 kO 14 (.ixs 1 12 13),
 kO 15 (.ld false 1 14),
 kO 16 (.bin .eql 11 15)])
 (.cond 16
 (.seq (.region [
  kO 17 (.mv 5),
  kO 4 (.mv 17)])
  .ret)
 .skip))))
 ysk)
def yt5 : CCode :=
  (.seq (.cond 9
 .skip
 (.exit 0))
 yuq)
def yts : CCode :=
  (.seq (.region [
 kO 9 (.bin .lss 8 7)])
 yt5)
def yf4 : CCode :=
  (.loop [0, 1, 7, 8] yts)
def yw9 : CCode :=
  (.block 0 yf4)
def yru : CCode :=
  (.seq (.region [
 kO 6 (.mv 0),
 kO 7 (.len 1 6),
 kO 8 (.mv (ci 0))])
 yw9)
def yrs : CCode :=
  (.seq yru
 yt1)
def yla : CCode :=
  (.seq (.region [
 kO 4 (.mv (ci 0))])
 yrs)
def y1u0 : CFunc :=
  ⟨2, true, 0, yla, [.t 4]⟩
def y195 : CCode :=
  (.seq (.region [
 kO 138 (.ld true 9 1),
 kO 139 (.call none true 51 [138]),
 kO 140 (.ext 0 139),
 kO 141 (.ext 1 139),
 kU (.st 4 2 140),
 kO 3 (.mv 141)])
 .ret)
def y1l4 : CCode :=
  (.cond 134
 (.seq (.region [
  kO 137 (.build [(.int .i64 0), (.int .i64 0), (.int .i64 0), (.int .i64 0)] [(0, 1, (ci (-1))), (1, 1, (ci (-1))), (2, 1, (ci (-1))), (3, 1, (ci (-1)))]),
  kU (.st 4 2 137),
  kO 3 (.mv (.c (.bool true)))])
  .ret)
 .skip)
def y1il : CCode :=
  (.seq (.seq (.region [
 kO 135 (.bin .eql 11 (ci 27)),
 kO 134 (.mv 135)])
 (.cond 134
 .skip
 (.region [
  kO 136 (.bin .eql 11 (ci 33)),
  kO 134 (.mv 136)])))
 y1l4)
def y1k9 : CCode :=
  (.cond 123
 (.seq (.draw [
  kO 125 (.build [(.int .i64 0), (.int .i64 0), (.int .i64 0), (.int .i64 0)] [(0, 1, (ci (-1))), (1, 1, (ci 1)), (2, 1, (ci 1)), (3, 1, (ci (-1)))]),
  kO 126 (.fa 5 1),
  kO 127 (.ld false 1 126),
  kO 128 (.bin .geq 127 (ci 0)),
  kO 129 (.mv 128),
  kG 130 (.fa 5 1) 129 true,
  kG 131 (.ld false 1 130) 129 true,
  kG 132 (.bin .leq 131 (ci 5)) 129 true,
  kO 133 (.pick 129 132 (.c (.bool false))),
  kU (.st 4 2 125),
  kO 3 (.mv 133)] [(6, 9)])
  .ret)
 y1il)
def y1ix : CCode :=
  (.seq (.region [
 kO 124 (.bin .eql 11 (ci 28)),
 kO 123 (.mv 124)])
 y1k9)
def y1a1 : CCode :=
  (.cond 117
 (.seq (.region [
  kO 119 (.build [(.int .i64 0), (.int .i64 0), (.int .i64 0), (.int .i64 0)] [(0, 1, (ci 3)), (1, 1, (ci 1)), (2, 1, (ci (-1))), (3, 1, (ci (-1)))]),
  kO 120 (.fa 7 1),
  kO 121 (.ld false 1 120),
  kO 122 (.call none true 37 [121]),
  kU (.st 4 2 119),
  kO 3 (.mv 122)])
  .ret)
 y1ix)
def y191 : CCode :=
  (.seq (.region [
 kO 118 (.bin .eql 11 (ci 21)),
 kO 117 (.mv 118)])
 y1a1)
def y1i5 : CCode :=
  (.cond 114
 (.seq (.region [
  kO 116 (.build [(.int .i64 0), (.int .i64 0), (.int .i64 0), (.int .i64 0)] [(0, 1, (ci (-1))), (1, 1, (ci 0)), (2, 1, (ci (-1))), (3, 1, (ci (-1)))]),
  kU (.st 4 2 116),
  kO 3 (.mv (.c (.bool true)))])
  .ret)
 y191)
def y1l2 : CCode :=
  (.seq (.region [
 kO 115 (.bin .eql 11 (ci 19)),
 kO 114 (.mv 115)])
 y1i5)
def yud : CCode :=
  (.cond 108
 (.seq (.draw [
  kO 110 (.build [(.int .i64 0), (.int .i64 0), (.int .i64 0), (.int .i64 0)] [(0, 1, (ci (-1))), (1, 1, (ci 3)), (2, 1, (ci 0)), (3, 1, (ci (-1)))]),
  kO 111 (.fa 5 1),
  kO 112 (.ld false 1 111),
  kO 113 (.bin .geq 112 (ci 0)),
  kU (.st 4 2 110),
  kO 3 (.mv 113)] [(2, 4)])
  .ret)
 y1l2)
def ywm : CCode :=
  (.seq (.region [
 kO 109 (.bin .eql 11 (ci 17)),
 kO 108 (.mv 109)])
 yud)
def yyg : CCode :=
  (.cond 102
 (.seq (.draw [
  kO 104 (.build [(.int .i64 0), (.int .i64 0), (.int .i64 0), (.int .i64 0)] [(0, 1, (ci 0)), (1, 1, (ci 3)), (2, 1, (ci (-1))), (3, 1, (ci (-1)))]),
  kO 105 (.fa 5 1),
  kO 106 (.ld false 1 105),
  kO 107 (.bin .geq 106 (ci 0)),
  kU (.st 4 2 104),
  kO 3 (.mv 107)] [(2, 4)])
  .ret)
 ywm)
def yz2 : CCode :=
  (.seq (.region [
 kO 103 (.bin .eql 11 (ci 16)),
 kO 102 (.mv 103)])
 yyg)
def yww : CCode :=
  (.cond 99
 (.seq (.region [
  kO 101 (.build [(.int .i64 0), (.int .i64 0), (.int .i64 0), (.int .i64 0)] [(0, 1, (ci 1)), (1, 1, (ci 3)), (2, 1, (ci (-1))), (3, 1, (ci (-1)))]),
  kU (.st 4 2 101),
  kO 3 (.mv (.c (.bool true)))])
  .ret)
 yz2)
def yv0 : CCode :=
  (.seq (.region [
 kO 100 (.bin .eql 11 (ci 15)),
 kO 99 (.mv 100)])
 yww)
def yuk : CCode :=
  (.cond 96
 (.seq (.region [
  kO 98 (.build [(.int .i64 0), (.int .i64 0), (.int .i64 0), (.int .i64 0)] [(0, 1, (ci (-1))), (1, 1, (ci 3)), (2, 1, (ci 1)), (3, 1, (ci 0))]),
  kU (.st 4 2 98),
  kO 3 (.mv (.c (.bool true)))])
  .ret)
 yv0)
def yse : CCode :=
  (.seq (.region [
 kO 97 (.bin .eql 11 (ci 14)),
 kO 96 (.mv 97)])
 yuk)
def yzj : CCode :=
  (.cond 93
 (.seq (.region [
  kO 95 (.build [(.int .i64 0), (.int .i64 0), (.int .i64 0), (.int .i64 0)] [(0, 1, (ci 0)), (1, 1, (ci 3)), (2, 1, (ci 1)), (3, 1, (ci (-1)))]),
  kU (.st 4 2 95),
  kO 3 (.mv (.c (.bool true)))])
  .ret)
 yse)
def yug : CCode :=
  (.seq (.region [
 kO 94 (.bin .eql 11 (ci 13)),
 kO 93 (.mv 94)])
 yzj)
def ys6 : CCode :=
  (.cond 90
 (.seq (.region [
  kO 92 (.build [(.int .i64 0), (.int .i64 0), (.int .i64 0), (.int .i64 0)] [(0, 1, (ci (-1))), (1, 1, (ci 3)), (2, 1, (ci 3)), (3, 1, (ci (-1)))]),
  kU (.st 4 2 92),
  kO 3 (.mv (.c (.bool true)))])
  .ret)
 yug)
def ywf : CCode :=
  (.seq (.region [
 kO 91 (.bin .eql 11 (ci 11)),
 kO 90 (.mv 91)])
 ys6)
def yub : CCode :=
  (.cond 87
 (.seq (.region [
  kO 89 (.build [(.int .i64 0), (.int .i64 0), (.int .i64 0), (.int .i64 0)] [(0, 1, (ci (-1))), (1, 1, (ci 1)), (2, 1, (ci (-1))), (3, 1, (ci (-1)))]),
  kU (.st 4 2 89),
  kO 3 (.mv (.c (.bool true)))])
  .ret)
 ywf)
def yv5 : CCode :=
  (.seq (.region [
 kO 88 (.bin .eql 11 (ci 10)),
 kO 87 (.mv 88)])
 yub)
def yun : CCode :=
  (.cond 84
 (.seq (.region [
  kO 86 (.build [(.int .i64 0), (.int .i64 0), (.int .i64 0), (.int .i64 0)] [(0, 1, (ci (-1))), (1, 1, (ci 3)), (2, 1, (ci 1)), (3, 1, (ci (-1)))]),
  kU (.st 4 2 86),
  kO 3 (.mv (.c (.bool true)))])
  .ret)
 yv5)
def yqo : CCode :=
  (.seq (.region [
 kO 85 (.bin .eql 11 (ci 9)),
 kO 84 (.mv 85)])
 yun)
def yyv : CCode :=
  (.cond 78
 (.seq (.region [
  kO 80 (.build [(.int .i64 0), (.int .i64 0), (.int .i64 0), (.int .i64 0)] [(0, 1, (ci 1)), (1, 1, (ci 3)), (2, 1, (ci (-1))), (3, 1, (ci (-1)))]),
  kO 81 (.fa 7 1),
  kO 82 (.ld false 1 81),
  kO 83 (.call none true 37 [82]),
  kU (.st 4 2 80),
  kO 3 (.mv 83)])
  .ret)
 yqo)
def yq7 : CCode :=
  (.seq (.region [
 kO 79 (.bin .eql 11 (ci 22)),
 kO 78 (.mv 79)])
 yyv)
def ytj : CCode :=
  (.cond 72
 (.seq (.region [
  kO 74 (.build [(.int .i64 0), (.int .i64 0), (.int .i64 0), (.int .i64 0)] [(0, 1, (ci (-1))), (1, 1, (ci 3)), (2, 1, (ci (-1))), (3, 1, (ci (-1)))]),
  kO 75 (.fa 7 1),
  kO 76 (.ld false 1 75),
  kO 77 (.call none true 37 [76]),
  kU (.st 4 2 74),
  kO 3 (.mv 77)])
  .ret)
 yq7)
def yve : CCode :=
  (.seq (.region [
 kO 73 (.bin .eql 11 (ci 12)),
 kO 72 (.mv 73)])
 ytj)
def yxe : CCode :=
  (.cond 68
 (.seq (.region [
  kO 71 (.build [(.int .i64 0), (.int .i64 0), (.int .i64 0), (.int .i64 0)] [(0, 1, (ci (-1))), (1, 1, (ci 3)), (2, 1, (ci (-1))), (3, 1, (ci (-1)))]),
  kU (.st 4 2 71),
  kO 3 (.mv (.c (.bool true)))])
  .ret)
 yve)
def yxd : CCode :=
  (.seq (.seq (.region [
 kO 69 (.bin .eql 11 (ci 8)),
 kO 68 (.mv 69)])
 (.cond 68
 .skip
 (.region [
  kO 70 (.bin .eql 11 (ci 31)),
  kO 68 (.mv 70)])))
 yxe)
def ytb : CCode :=
  (.cond 65
 (.seq (.region [
  kO 67 (.build [(.int .i64 0), (.int .i64 0), (.int .i64 0), (.int .i64 0)] [(0, 1, (ci (-1))), (1, 1, (ci 0)), (2, 1, (ci (-1))), (3, 1, (ci (-1)))]),
  kU (.st 4 2 67),
  kO 3 (.mv (.c (.bool true)))])
  .ret)
 yxd)
def yvi : CCode :=
  (.seq (.region [
 kO 66 (.bin .eql 11 (ci 7)),
 kO 65 (.mv 66)])
 ytb)
def yqq : CCode :=
  (.cond 47
 (.seq (.region [
  kO 50 (.fa 5 1),
  kO 51 (.ld false 1 50),
  kO 52 (.call none true 50 [51]),
  kO 49 (.mv 52),
  kO 53 (.ext 0 49),
  kO 54 (.ext 1 49),
  kO 55 (.ext 2 49),
  kO 7 (.mv 53),
  kO 8 (.mv 54),
  kO 9 (.mv 55)])
  (.seq (.region [
  kO 56 (.mv 9),
  kO 57 (.mv 7),
  kO 58 (.build [(.int .i64 0), (.int .i64 0), (.int .i64 0), (.int .i64 0)] [(0, 1, 56), (1, 1, 57), (2, 1, (ci (-1))), (3, 1, (ci (-1)))]),
  kO 59 (.mv 7),
  kO 60 (.bin .neq 59 (ci 0)),
  kO 61 (.mv 60),
  kG 62 (.mv 8) 61 true,
  kG 63 (.bin .eql 62 (ci 0)) 61 true,
  kO 64 (.pick 61 63 (.c (.bool false))),
  kU (.st 4 2 58),
  kO 3 (.mv 64)])
  .ret))
 yvi)
def yw2 : CCode :=
  (.seq (.region [
 kO 48 (.bin .eql 11 (ci 6)),
 kO 47 (.mv 48)])
 yqq)
def yxv : CCode :=
  (.cond 25
 (.seq (.region [
  kO 28 (.fa 5 1),
  kO 29 (.ld false 1 28),
  kO 30 (.call none true 50 [29]),
  kO 27 (.mv 30),
  kO 31 (.ext 0 27),
  kO 32 (.ext 1 27),
  kO 33 (.ext 2 27),
  kO 4 (.mv 31),
  kO 5 (.mv 32),
  kO 6 (.mv 33)])
  (.seq (.region [
  kO 34 (.mv 6),
  kO 35 (.mv 4),
  kO 36 (.mv 5),
  kO 37 (.build [(.int .i64 0), (.int .i64 0), (.int .i64 0), (.int .i64 0)] [(0, 1, 34), (1, 1, 35), (2, 1, 36), (3, 1, (ci (-1)))]),
  kO 38 (.fa 5 1),
  kO 39 (.ld false 1 38),
  kO 40 (.fa 5 1),
  kO 41 (.ld false 1 40),
  kO 42 (.bin .eql 39 41),
  kO 43 (.mv 42),
  kG 44 (.mv 5) 43 true,
  kG 45 (.bin .neq 44 (ci 0)) 43 true,
  kO 46 (.pick 43 45 (.c (.bool false))),
  kU (.st 4 2 37),
  kO 3 (.mv 46)])
  .ret))
 yw2)
def yq9 : CCode :=
  (.seq (.region [
 kO 26 (.bin .eql 11 (ci 5)),
 kO 25 (.mv 26)])
 yxv)
def yt8 : CCode :=
  (.cond 22
 (.seq (.region [
  kO 24 (.build [(.int .i64 0), (.int .i64 0), (.int .i64 0), (.int .i64 0)] [(0, 1, (ci 0)), (1, 1, (ci 0)), (2, 1, (ci (-1))), (3, 1, (ci (-1)))]),
  kU (.st 4 2 24),
  kO 3 (.mv (.c (.bool true)))])
  .ret)
 yq9)
def ytk : CCode :=
  (.seq (.region [
 kO 23 (.bin .eql 11 (ci 4)),
 kO 22 (.mv 23)])
 yt8)
def yzq : CCode :=
  (.cond 16
 (.seq (.region [
  kO 21 (.build [(.int .i64 0), (.int .i64 0), (.int .i64 0), (.int .i64 0)] [(0, 1, (ci 3)), (1, 1, (ci (-1))), (2, 1, (ci (-1))), (3, 1, (ci (-1)))]),
  kU (.st 4 2 21),
  kO 3 (.mv (.c (.bool true)))])
  .ret)
 ytk)
def yze : CCode :=
  (.seq (.seq (.region [
 kO 17 (.bin .eql 11 (ci 2)),
 kO 16 (.mv 17)])
 (.cond 16
 .skip
 (.seq (.region [
  kO 18 (.bin .eql 11 (ci 3)),
  kO 16 (.mv 18)])
  (.cond 16
  .skip
  (.seq (.region [
   kO 19 (.bin .eql 11 (ci 20)),
   kO 16 (.mv 19)])
   (.cond 16
   .skip
   (.region [
    kO 20 (.bin .eql 11 (ci 32)),
    kO 16 (.mv 20)])))))))
 yzq)
def yyc : CCode :=
  (.cond 12
 (.seq (.region [
  kO 15 (.build [(.int .i64 0), (.int .i64 0), (.int .i64 0), (.int .i64 0)] [(0, 1, (ci 0)), (1, 1, (ci (-1))), (2, 1, (ci (-1))), (3, 1, (ci (-1)))]),
  kU (.st 4 2 15),
  kO 3 (.mv (.c (.bool true)))])
  .ret)
 yze)
def yz4 : CCode :=
  (.seq (.seq (.region [
 kO 13 (.bin .eql 11 (ci 1)),
 kO 12 (.mv 13)])
 (.cond 12
 .skip
 (.region [
  kO 14 (.bin .eql 11 (ci 18)),
  kO 12 (.mv 14)])))
 yyc)
def yq2 : CCode :=
  (.block 0 yz4)
def ywa : CCode :=
  (.seq (.region [
 kO 10 (.fa 0 1),
 kO 11 (.ld false 1 10)])
 yq2)
def ysd : CCode :=
  (.seq ywa
 y195)
def yzm : CCode :=
  (.seq (.region [
 kO 1 (.box (some 0) 0),
 kO 2 (.new (some 1) [(.int .i64 0), (.int .i64 0), (.int .i64 0), (.int .i64 0)]),
 kO 3 (.mv (.c (.bool false)))])
 ysd)
def y25x : CFunc :=
  ⟨1, true, 2, yzm, [.cell 2 true 4, .t 3]⟩
def y17c : CCode :=
  (.seq (.region [
 kO 33 (.mv 5),
 kO 4 (.mv 33)])
 .ret)
def y162 : CCode :=
  (.region [
 kO 32 (.bin .add 10 (ci 1)),
 kO 10 (.mv 32)])
def y1fp : CCode :=
  (.seq (.block 1 (.seq (.region [
 kO 12 (.mv 10),
 kO 13 (.ixs 1 8 10),
 kO 14 (.ld false 1 13),
 kO 6 (.mv 12),
 kO 7 (.mv 14)])
 (.seq (.region [
 kO 15 (.mv 5),
 kO 16 (.mv 15),
 kG 17 (.mv 7) 16 false,
 kG 18 (.mv 0) 16 false,
 kG 19 (.mv 6) 16 false,
 kG 20 (.ixs 1 18 19) 16 false,
 kG 21 (.ld false 1 20) 16 false,
 kG 22 (.bin .andNot 17 21) 16 false,
 kG 23 (.bin .neq 22 (.c (.int .u64 0))) 16 false,
 kO 24 (.pick 16 (.c (.bool true)) 23),
 kO 5 (.mv 24)])
 (.region [
 kO 25 (.mv 0),
 kO 26 (.mv 6),
 kO 27 (.ixs 1 25 26),
 kO 28 (.ld false 1 27),
 kO 29 (.mv 7),
 kO 30 (.bin .or 28 29),
 kO 31 (.ixs 1 25 26),
 kU (.st 1 31 30)]))))
 y162)
def y1c0 : CCode :=
  (.seq (.cond 11
 .skip
 (.exit 0))
 y1fp)
def y1hk : CCode :=
  (.seq (.region [
 kO 11 (.bin .lss 10 9)])
 y1c0)
def yjt : CCode :=
  (.loop [0, 5, 8, 9, 10] y1hk)
def y1ki : CCode :=
  (.block 0 yjt)
def y1km : CCode :=
  (.seq (.region [
 kO 8 (.mv 1),
 kO 9 (.len 1 8),
 kO 10 (.mv (ci 0))])
 y1ki)
def y1kq : CCode :=
  (.seq y1km
 y17c)
def yvs : CCode :=
  (.seq (.region [
 kO 5 (.mv (.c (.bool false)))])
 y1kq)
def yql : CCode :=
  (.seq (.region [
 kO 4 (.mv (.c (.bool false)))])
 yvs)
def y269 : CFunc :=
  ⟨2, false, 0, yql, [.t 4]⟩
def y1b9 : CCode :=
  (.draw [
 kO 4 (.mv 0),
 kO 5 (.mv 1),
 kO 6 (.bin .quo 5 (ci 64)),
 kO 7 (.ixs 1 4 6),
 kO 8 (.ld false 1 7),
 kO 9 (.mv 1),
 kO 10 (.bin .rem 9 (ci 64)),
 kO 11 (.bin .shl (.c (.int .u64 1)) 10),
 kO 12 (.bin .andNot 8 11),
 kO 13 (.ixs 1 4 6),
 kU (.st 1 13 12)] [])
def y28a : CFunc :=
  ⟨2, false, 0, y1b9, []⟩
def y1eo : CCode :=
  (.draw [
 kO 4 (.mv 0),
 kO 5 (.mv 1),
 kO 6 (.bin .quo 5 (ci 64)),
 kO 7 (.ixs 1 4 6),
 kO 8 (.ld false 1 7),
 kO 9 (.mv 1),
 kO 10 (.bin .rem 9 (ci 64)),
 kO 11 (.bin .shl (.c (.int .u64 1)) 10),
 kO 12 (.bin .or 8 11),
 kO 13 (.ixs 1 4 6),
 kU (.st 1 13 12)] [])
def y26z : CFunc :=
  ⟨2, false, 0, y1eo, []⟩
def y183 : CCode :=
  (.seq (.region [
 kO 8 (.mv (.c (.bool false)))])
 (.seq (.region [
 kO 9 (.mv 0),
 kO 10 (.eqn 0 true 9 (.c .nilp)),
 kO 11 (.mv 10),
 kG 12 (.mv 2) 11 true,
 kG 13 (.bin .geq 12 (ci 0)) 11 true,
 kO 14 (.pick 11 13 (.c (.bool false))),
 kO 15 (.mv 14),
 kG 16 (.mv 2) 15 true,
 kG 17 (.mv 1) 15 true,
 kG 18 (.len 1 17) 15 true,
 kG 19 (.bin .lss 16 18) 15 true,
 kO 20 (.pick 15 19 (.c (.bool false))),
 kO 21 (.mv 20),
 kG 22 (.mv 3) 21 true,
 kG 23 (.bin .geq 22 (ci 0)) 21 true,
 kO 24 (.pick 21 23 (.c (.bool false))),
 kO 25 (.mv 24),
 kG 26 (.mv 3) 25 true,
 kG 27 (.mv 0) 25 true,
 kG 28 (.nilchk 27) 25 true,
 kG 29 (.fa 3 28) 25 true,
 kG 30 (.ld false 1 29) 25 true,
 kG 31 (.bin .lss 26 30) 25 true,
 kO 32 (.pick 25 31 (.c (.bool false))),
 kO 33 (.mv 32),
 kG 34 (.mv 1) 33 true,
 kG 35 (.mv 2) 33 true,
 kG 36 (.ixs 1 34 35) 33 true,
 kG 37 (.ld false 1 36) 33 true,
 kG 38 (.mv 3) 33 true,
 kG 39 (.call none true 83 [37, 38]) 33 true,
 kO 40 (.pick 33 39 (.c (.bool false))),
 kO 8 (.mv 40)])
 .ret))
def y249 : CFunc :=
  ⟨4, true, 0, y183, [.t 8]⟩
def y16c : CCode :=
  (.seq (.region [
 kO 1 (.box (some 0) 0),
 kO 2 (.mv (.c (.bool false)))])
 (.seq (.region [
 kO 3 (.fa 0 1),
 kO 4 (.ld false 1 3),
 kO 5 (.bin .geq 4 (ci 7)),
 kO 6 (.mv 5),
 kG 7 (.fa 0 1) 6 true,
 kG 8 (.ld false 1 7) 6 true,
 kG 9 (.bin .leq 8 (ci 12)) 6 true,
 kO 10 (.pick 6 9 (.c (.bool false))),
 kO 11 (.mv 10),
 kG 12 (.fa 0 1) 11 false,
 kG 13 (.ld false 1 12) 11 false,
 kG 14 (.bin .eql 13 (ci 20)) 11 false,
 kO 15 (.pick 11 (.c (.bool true)) 14),
 kO 16 (.mv 15),
 kG 17 (.fa 0 1) 16 false,
 kG 18 (.ld false 1 17) 16 false,
 kG 19 (.bin .eql 18 (ci 21)) 16 false,
 kO 20 (.pick 16 (.c (.bool true)) 19),
 kO 21 (.mv 20),
 kG 22 (.fa 0 1) 21 false,
 kG 23 (.ld false 1 22) 21 false,
 kG 24 (.bin .eql 23 (ci 31)) 21 false,
 kO 25 (.pick 21 (.c (.bool true)) 24),
 kO 26 (.mv 25),
 kG 27 (.ld true 9 1) 26 false,
 kG 28 (.call none true 17 [27]) 26 false,
 kO 29 (.pick 26 (.c (.bool true)) 28),
 kO 2 (.mv 29)])
 .ret))
def y28h : CFunc :=
  ⟨1, true, 1, y16c, [.t 2]⟩
def y1tg : CCode :=
  (.seq (.region [
 kO 13 (.mv 3),
 kO 14 (.mv 0),
 kO 15 (.ixs 1 13 14),
 kO 16 (.ld false 1 15),
 kO 2 (.mv 16)])
 .ret)
def y1ol : CCode :=
  (.seq (.seq (.region [
 kO 5 (.mv 0),
 kO 6 (.bin .lss 5 (ci 1)),
 kO 7 (.mv 6),
 kG 8 (.mv 0) 7 false,
 kG 9 (.mv 3) 7 false,
 kG 10 (.len 1 9) 7 false,
 kG 11 (.bin .geq 8 10) 7 false,
 kO 12 (.pick 7 (.c (.bool true)) 11)])
 (.cond 12
 (.seq (.region [
  kO 2 (.mv (.c (.str [])))])
  .ret)
 .skip))
 y1tg)
def y1og : CCode :=
  (.seq (.region [
 kO 4 (.buildS (some 0) 1 34 [(.str [])] [(0, (.c (.str []))), (1, (.c (.str [110, 45, 45, 45]))), (2, (.c (.str [51, 45, 45, 45]))), (3, (.c (.str [51, 45, 45, 45]))), (4, (.c (.str [42, 61, 45, 45]))), (5, (.c (.str [63, 63, 63, 63]))), (6, (.c (.str [63, 63, 63, 63]))), (7, (.c (.str [45, 110, 45, 45]))), (8, (.c (.str [45, 51, 45, 45]))), (9, (.c (.str [45, 51, 49, 45]))), (10, (.c (.str [45, 49, 45, 45]))), (11, (.c (.str [45, 51, 51, 45]))), (12, (.c (.str [45, 51, 45, 45]))), (13, (.c (.str [42, 51, 49, 45]))), (14, (.c (.str [45, 51, 49, 42]))), (15, (.c (.str [49, 51, 45, 45]))), (16, (.c (.str [42, 51, 45, 45]))), (17, (.c (.str [45, 51, 42, 45]))), (18, (.c (.str [42, 45, 45, 45]))), (19, (.c (.str [45, 42, 45, 45]))), (20, (.c (.str [51, 45, 45, 45]))), (21, (.c (.str [51, 49, 45, 45]))), (22, (.c (.str [49, 51, 45, 45]))), (23, (.c (.str [63, 63, 63, 63]))), (24, (.c (.str [63, 63, 63, 63]))), (25, (.c (.str [63, 63, 63, 63]))), (26, (.c (.str [63, 63, 63, 63]))), (27, (.c (.str [45, 45, 45, 45]))), (28, (.c (.str [45, 49, 49, 45]))), (29, (.c (.str [45, 51, 63, 45]))), (30, (.c (.str [45, 63, 45, 45]))), (31, (.c (.str [45, 51, 45, 45]))), (32, (.c (.str [51, 45, 45, 45]))), (33, (.c (.str [45, 45, 45, 45])))]),
 kO 3 (.mv 4)])
 y1ol)
def y1mz : CCode :=
  (.seq (.region [
 kO 2 (.mv (.c (.str [])))])
 y1og)
def y24f : CFunc :=
  ⟨1, true, 1, y1mz, [.t 2]⟩
def y1mx : CCode :=
  (.seq (.region [
 kO 28 (.mv 7),
 kO 29 (.mv 2),
 kO 30 (.bin .sub 29 (.c (.int .u8 48))),
 kO 31 (.cvi .i64 30),
 kO 32 (.bin .eql 28 31),
 kO 6 (.mv 32)])
 .ret)
def y1rt : CCode :=
  (.cond 15
 (.seq (.region [
  kO 18 (.mv 7),
  kO 19 (.bin .gtr 18 (ci 0)),
  kO 6 (.mv 19)])
  .ret)
 (.seq (.region [
  kO 21 (.bin .eql 11 (.c (.int .u8 110))),
  kO 20 (.mv 21)])
  (.cond 20
  (.seq (.region [
   kO 22 (.mv 7),
   kO 23 (.bin .eql 22 (ci 1)),
   kO 24 (.mv 23),
   kG 25 (.mv 7) 24 false,
   kG 26 (.bin .eql 25 (ci 2)) 24 false,
   kO 27 (.pick 24 (.c (.bool true)) 26),
   kO 6 (.mv 27)])
   .ret)
  .skip)))
def y1nn : CCode :=
  (.seq (.seq (.region [
 kO 16 (.bin .eql 11 (.c (.int .u8 42))),
 kO 15 (.mv 16)])
 (.cond 15
 .skip
 (.region [
  kO 17 (.bin .eql 11 (.c (.int .u8 61))),
  kO 15 (.mv 17)])))
 y1rt)
def y1sf : CCode :=
  (.cond 12
 (.seq (.region [
  kO 6 (.mv (.c (.bool true)))])
  .ret)
 y1nn)
def y1ss : CCode :=
  (.seq (.seq (.region [
 kO 13 (.bin .eql 11 (.c (.int .u8 45))),
 kO 12 (.mv 13)])
 (.cond 12
 .skip
 (.region [
  kO 14 (.bin .eql 11 (.c (.int .u8 63))),
  kO 12 (.mv 14)])))
 y1sf)
def y1os : CCode :=
  (.block 0 y1ss)
def y1qi : CCode :=
  (.seq (.region [
 kO 11 (.mv 2)])
 y1os)
def y1rm : CCode :=
  (.seq y1qi
 y1mx)
def y1n1 : CCode :=
  (.seq (.region [
 kO 8 (.ld true 5 3),
 kO 9 (.mv 1),
 kO 10 (.call none true 48 [8, 9]),
 kO 7 (.mv 10)])
 y1rm)
def y19y : CCode :=
  (.seq (.region [
 kO 3 (.box (some 0) 0),
 kO 6 (.mv (.c (.bool false)))])
 y1n1)
def y248 : CFunc :=
  ⟨3, true, 1, y19y, [.t 6]⟩
def y224 : CCode :=
  (.seq (.region [
 kO 2 (.mv (ci 0)),
 kO 3 (.mv (ci 0)),
 kO 4 (.mv (ci 0))])
 .ret)
def y20t : CCode :=
  (.seq (.block 0 (.seq (.region [
 kO 26 (.mv 5),
 kO 27 (.mv 26),
 kG 28 (.mv 0) 27 true,
 kG 29 (.bin .rem 28 (ci 2)) 27 true,
 kG 30 (.bin .eql 29 (ci 0)) 27 true,
 kO 31 (.pick 27 30 (.c (.bool false))),
 kO 25 (.mv 31)])
 (.cond 25
 (.seq (.region [
  kO 2 (.mv (ci 1)),
  kO 3 (.mv (ci 1)),
  kO 4 (.mv (ci 1))])
  .ret)
 (.seq (.region [
  kO 33 (.mv 0),
  kO 34 (.bin .eql 33 (ci 121)),
  kO 35 (.mv 34),
  kG 36 (.mv 0) 35 false,
  kG 37 (.bin .eql 36 (ci 123)) 35 false,
  kO 38 (.pick 35 (.c (.bool true)) 37),
  kO 39 (.mv 38),
  kG 40 (.mv 0) 39 false,
  kG 41 (.bin .eql 40 (ci 125)) 39 false,
  kO 42 (.pick 39 (.c (.bool true)) 41),
  kO 32 (.mv 42)])
  (.cond 32
  (.seq (.region [
   kO 2 (.mv (ci 2)),
   kO 3 (.mv (ci 1)),
   kO 4 (.mv (ci 2))])
   .ret)
  (.seq (.region [
   kO 44 (.mv 5),
   kO 43 (.mv 44)])
   (.cond 43
   (.seq (.region [
    kO 2 (.mv (ci 2)),
    kO 3 (.mv (ci 2)),
    kO 4 (.mv (ci 2))])
    .ret)
   (.seq (.region [
    kO 46 (.mv 0),
    kO 47 (.bin .eql 46 (ci 148)),
    kO 45 (.mv 47)])
    (.cond 45
    (.seq (.region [
     kO 2 (.mv (ci 2)),
     kO 3 (.mv (ci 2)),
     kO 4 (.mv (ci 1))])
     .ret)
    (.seq (.region [
     kO 49 (.mv 0),
     kO 50 (.bin .eql 49 (ci 116)),
     kO 51 (.mv 50),
     kG 52 (.mv 0) 51 false,
     kG 53 (.bin .geq 52 (ci 145)) 51 false,
     kG 54 (.mv 53) 51 false,
     kG 55 (.mv 0) 54 true,
     kG 56 (.bin .leq 55 (ci 147)) 54 true,
     kG 57 (.pick 54 56 (.c (.bool false))) 51 false,
     kO 58 (.pick 51 (.c (.bool true)) 57),
     kO 48 (.mv 58)])
     (.cond 48
     (.seq (.region [
      kO 2 (.mv (ci 1)),
      kO 3 (.mv (ci 0)),
      kO 4 (.mv (ci 1))])
      .ret)
     (.seq (.region [
      kO 60 (.mv 0),
      kO 61 (.bin .eql 60 (ci 117)),
      kO 59 (.mv 61)])
      (.cond 59
      (.seq (.region [
       kO 2 (.mv (ci 2)),
       kO 3 (.mv (ci 0)),
       kO 4 (.mv (ci 2))])
       .ret)
      (.seq (.region [
       kO 63 (.mv 0),
       kO 64 (.bin .eql 63 (ci 133)),
       kO 62 (.mv 64)])
       (.cond 62
       (.seq (.region [
        kO 2 (.mv (ci 1)),
        kO 3 (.mv (ci 0)),
        kO 4 (.mv (ci 2))])
        .ret)
       (.seq (.region [
        kO 66 (.mv 0),
        kO 67 (.bin .eql 66 (ci 136)),
        kO 65 (.mv 67)])
        (.cond 65
        (.seq (.region [
         kO 2 (.mv (ci 2)),
         kO 3 (.mv (ci 0)),
         kO 4 (.mv (ci 1))])
         .ret)
        .skip)))))))))))))))))
 y224)
def y1wl : CCode :=
  (.seq (.region [
 kO 6 (.mv 0),
 kO 7 (.bin .geq 6 (ci 96)),
 kO 8 (.mv 7),
 kG 9 (.mv 0) 8 true,
 kG 10 (.bin .leq 9 (ci 113)) 8 true,
 kO 11 (.pick 8 10 (.c (.bool false))),
 kO 12 (.mv 11),
 kG 13 (.mv 0) 12 true,
 kG 14 (.bin .rem 13 (ci 4)) 12 true,
 kG 15 (.bin .lss 14 (ci 2)) 12 true,
 kO 16 (.pick 12 15 (.c (.bool false))),
 kO 17 (.mv 16),
 kG 18 (.mv 0) 17 false,
 kG 19 (.bin .geq 18 (ci 120)) 17 false,
 kG 20 (.mv 19) 17 false,
 kG 21 (.mv 0) 20 true,
 kG 22 (.bin .leq 21 (ci 131)) 20 true,
 kG 23 (.pick 20 22 (.c (.bool false))) 17 false,
 kO 24 (.pick 17 (.c (.bool true)) 23),
 kO 5 (.mv 24)])
 y20t)
def y1z4 : CCode :=
  (.seq (.region [
 kO 2 (.mv (ci 0)),
 kO 3 (.mv (ci 0)),
 kO 4 (.mv (ci 0))])
 y1wl)
def y2be : CFunc :=
  ⟨1, true, 0, y1z4, [.t 2, .t 3, .t 4]⟩
def y1ql : CCode :=
  (.seq (.region [
 kO 27 (.mv 0),
 kO 28 (.len 0 27),
 kO 29 (.bin .gtr 28 (ci 2)),
 kO 30 (.mv 29),
 kG 31 (.mv 0) 30 true,
 kG 32 (.ixstr 31 (ci 0)) 30 true,
 kG 33 (.bin .eql 32 (.c (.int .u8 76))) 30 true,
 kO 34 (.pick 30 33 (.c (.bool false))),
 kO 35 (.mv 34),
 kG 36 (.mv 0) 35 true,
 kG 37 (.mv 0) 35 true,
 kG 38 (.len 0 37) 35 true,
 kG 39 (.bin .sub 38 (ci 1)) 35 true,
 kG 40 (.ixstr 36 39) 35 true,
 kG 41 (.bin .eql 40 (.c (.int .u8 59))) 35 true,
 kO 42 (.pick 35 41 (.c (.bool false))),
 kO 43 (.mv 42),
 kG 44 (.mv 0) 43 true,
 kG 45 (.mv 0) 43 true,
 kG 46 (.len 0 45) 43 true,
 kG 47 (.bin .sub 46 (ci 1)) 43 true,
 kG 48 (.sls 44 (some (ci 1)) (some 47)) 43 true,
 kG 49 (.call none true 69 [48, (.c (.bool false))]) 43 true,
 kO 50 (.pick 43 49 (.c (.bool false))),
 kO 2 (.mv 50)])
 .ret)
def y1rl : CCode :=
  (.seq (.seq (.region [
 kO 21 (.mv 0),
 kO 22 (.bin .eql 21 (.c (.str [73]))),
 kO 23 (.mv 22),
 kG 24 (.mv 0) 23 false,
 kG 25 (.bin .eql 24 (.c (.str [74]))) 23 false,
 kO 26 (.pick 23 (.c (.bool true)) 25)])
 (.cond 26
 (.seq (.region [
  kO 2 (.mv (.c (.bool true)))])
  .ret)
 .skip))
 y1ql)
def y1pp : CCode :=
  (.seq (.seq (.region [
 kO 19 (.mv 3),
 kO 20 (.bin .gtr 19 (ci 8))])
 (.cond 20
 (.seq (.region [
  kO 2 (.mv (.c (.bool false)))])
  .ret)
 .skip))
 y1rl)
def y1m9 : CCode :=
  (.seq (.region [
 kO 16 (.mv 0),
 kO 17 (.mv 3),
 kO 18 (.sls 16 (some 17) none),
 kO 0 (.mv 18)])
 y1pp)
def y1p9 : CCode :=
  (.block 1 (.region [
 kO 14 (.mv 3),
 kO 15 (.bin .add 14 (ci 1)),
 kO 3 (.mv 15)]))
def y1p3 : CCode :=
  (.seq (.seq (.region [
 kO 4 (.mv 3),
 kO 5 (.mv 0),
 kO 6 (.len 0 5),
 kO 7 (.bin .lss 4 6),
 kO 8 (.mv 7),
 kG 9 (.mv 0) 8 true,
 kG 10 (.mv 3) 8 true,
 kG 11 (.ixstr 9 10) 8 true,
 kG 12 (.bin .eql 11 (.c (.int .u8 91))) 8 true,
 kO 13 (.pick 8 12 (.c (.bool false)))])
 (.cond 13
 .skip
 (.exit 0)))
 y1p9)
def y1c6 : CCode :=
  (.loop [0, 3] y1p3)
def y1oi : CCode :=
  (.block 0 y1c6)
def y1q0 : CCode :=
  (.seq y1oi
 y1m9)
def y1ig : CCode :=
  (.seq (.region [
 kO 3 (.mv (ci 0))])
 y1q0)
def y121 : CCode :=
  (.seq (.region [
 kO 2 (.mv (.c (.bool false)))])
 y1ig)
def y24x : CFunc :=
  ⟨1, true, 0, y121, [.t 2]⟩
def y1p6 : CCode :=
  (.seq (.draw [
 kO 47 (.fa 0 3),
 kO 48 (.ld false 1 47),
 kO 49 (.bin .neq 48 (ci 24)),
 kO 50 (.mv 49),
 kG 51 (.fa 0 3) 50 true,
 kG 52 (.ld false 1 51) 50 true,
 kG 53 (.bin .neq 52 (ci 25)) 50 true,
 kO 54 (.pick 50 53 (.c (.bool false))),
 kO 55 (.mv 54),
 kG 56 (.fa 8 3) 55 false,
 kG 57 (.ld false 1 56) 55 false,
 kG 58 (.len 1 57) 55 false,
 kG 59 (.bin .gtr 58 (ci 0)) 55 false,
 kG 60 (.mv 59) 55 false,
 kG 61 (.ld true 5 2) 60 true,
 kG 62 (.fa 8 3) 60 true,
 kG 63 (.ld false 1 62) 60 true,
 kG 64 (.ixs 1 63 (ci 0)) 60 true,
 kG 65 (.ld false 1 64) 60 true,
 kG 66 (.call none true 48 [61, 65]) 60 true,
 kG 67 (.bin .eql 66 (ci 3)) 60 true,
 kG 68 (.pick 60 67 (.c (.bool false))) 55 false,
 kO 69 (.pick 55 (.c (.bool true)) 68),
 kO 4 (.mv 69)] [])
 .ret)
def y1np : CCode :=
  (.region [
 kO 37 (.mv 5),
 kO 38 (.bin .add 37 (ci 1)),
 kO 5 (.mv 38)])
def y1pf : CCode :=
  (.seq (.block 1 (.seq (.draw [
 kO 39 (.ld true 5 2),
 kO 40 (.fa 8 3),
 kO 41 (.ld false 1 40),
 kO 42 (.mv 5),
 kO 43 (.ixs 1 41 42),
 kO 44 (.ld false 1 43),
 kO 45 (.call none true 48 [39, 44]),
 kO 46 (.bin .eql 45 (ci 0))] [])
 (.cond 46
 (.seq (.region [
  kO 4 (.mv (.c (.bool false)))])
  .ret)
 .skip)))
 y1np)
def y1na : CCode :=
  (.seq (.seq (.region [
 kO 32 (.mv 5),
 kO 33 (.fa 8 3),
 kO 34 (.ld false 1 33),
 kO 35 (.len 1 34),
 kO 36 (.bin .lss 32 35)])
 (.cond 36
 .skip
 (.exit 0)))
 y1pf)
def y11x : CCode :=
  (.loop [2, 3, 5] y1na)
def y1r2 : CCode :=
  (.block 0 y11x)
def y1pu : CCode :=
  (.seq (.region [
 kO 5 (.mv (ci 0))])
 y1r2)
def y1nm : CCode :=
  (.seq y1pu
 y1p6)
def y1tl : CCode :=
  (.seq (.seq (.region [
 kO 6 (.fa 5 3),
 kO 7 (.ld false 1 6),
 kO 8 (.bin .lss 7 (ci 0)),
 kO 9 (.mv 8),
 kG 10 (.fa 0 3) 9 true,
 kG 11 (.ld false 1 10) 9 true,
 kG 12 (.bin .neq 11 (ci 25)) 9 true,
 kO 13 (.pick 9 12 (.c (.bool false))),
 kO 14 (.mv 13),
 kG 15 (.fa 8 3) 14 false,
 kG 16 (.ld false 1 15) 14 false,
 kG 17 (.len 1 16) 14 false,
 kG 18 (.bin .gtr 17 (ci 21)) 14 false,
 kO 19 (.pick 14 (.c (.bool true)) 18),
 kO 20 (.mv 19),
 kG 21 (.fa 1 3) 20 false,
 kG 22 (.ld false 1 21) 20 false,
 kG 23 (.bin .neq 22 (ci (-1))) 20 false,
 kG 24 (.mv 23) 20 false,
 kG 25 (.ld true 5 2) 24 true,
 kG 26 (.fa 1 3) 24 true,
 kG 27 (.ld false 1 26) 24 true,
 kG 28 (.call none true 48 [25, 27]) 24 true,
 kG 29 (.bin .eql 28 (ci 0)) 24 true,
 kG 30 (.pick 24 29 (.c (.bool false))) 20 false,
 kO 31 (.pick 20 (.c (.bool true)) 30)])
 (.cond 31
 (.seq (.region [
  kO 4 (.mv (.c (.bool false)))])
  .ret)
 .skip))
 y1nm)
def y184 : CCode :=
  (.seq (.region [
 kO 2 (.box (some 0) 0),
 kO 3 (.box (some 1) 1),
 kO 4 (.mv (.c (.bool false)))])
 y1tl)
def y26g : CFunc :=
  ⟨2, true, 2, y184, [.t 4]⟩
def y1c1 : CCode :=
  (.seq (.region [
 kO 2 (.mv (ci 0)),
 kO 3 (.mv (ci 0)),
 kO 4 (.mv (ci 0))])
 .ret)
def y13v : CCode :=
  (.cond 33
 (.seq (.region [
  kO 2 (.mv (ci 1)),
  kO 3 (.mv (ci 0)),
  kO 4 (.mv (ci 1))])
  .ret)
 (.seq (.region [
  kO 39 (.bin .eql 5 (ci 117)),
  kO 38 (.mv 39)])
  (.cond 38
  (.seq (.region [
   kO 2 (.mv (ci 2)),
   kO 3 (.mv (ci 0)),
   kO 4 (.mv (ci 2))])
   .ret)
  (.seq (.region [
   kO 41 (.bin .eql 5 (ci 133)),
   kO 40 (.mv 41)])
   (.cond 40
   (.seq (.region [
    kO 2 (.mv (ci 1)),
    kO 3 (.mv (ci 0)),
    kO 4 (.mv (ci 2))])
    .ret)
   (.seq (.region [
    kO 43 (.bin .eql 5 (ci 136)),
    kO 42 (.mv 43)])
    (.cond 42
    (.seq (.region [
     kO 2 (.mv (ci 2)),
     kO 3 (.mv (ci 0)),
     kO 4 (.mv (ci 1))])
     .ret)
    .skip)))))))
def y1kr : CCode :=
  (.seq (.seq (.region [
 kO 34 (.bin .eql 5 (ci 116)),
 kO 33 (.mv 34)])
 (.cond 33
 .skip
 (.seq (.region [
  kO 35 (.bin .eql 5 (ci 145)),
  kO 33 (.mv 35)])
  (.cond 33
  .skip
  (.seq (.region [
   kO 36 (.bin .eql 5 (ci 146)),
   kO 33 (.mv 36)])
   (.cond 33
   .skip
   (.region [
    kO 37 (.bin .eql 5 (ci 147)),
    kO 33 (.mv 37)])))))))
 y13v)
def y1ci : CCode :=
  (.cond 31
 (.seq (.region [
  kO 2 (.mv (ci 2)),
  kO 3 (.mv (ci 2)),
  kO 4 (.mv (ci 1))])
  .ret)
 y1kr)
def y13u : CCode :=
  (.seq (.region [
 kO 32 (.bin .eql 5 (ci 148)),
 kO 31 (.mv 32)])
 y1ci)
def y13g : CCode :=
  (.cond 27
 (.seq (.region [
  kO 2 (.mv (ci 2)),
  kO 3 (.mv (ci 1)),
  kO 4 (.mv (ci 2))])
  .ret)
 y13u)
def y13a : CCode :=
  (.seq (.seq (.region [
 kO 28 (.bin .eql 5 (ci 121)),
 kO 27 (.mv 28)])
 (.cond 27
 .skip
 (.seq (.region [
  kO 29 (.bin .eql 5 (ci 123)),
  kO 27 (.mv 29)])
  (.cond 27
  .skip
  (.region [
   kO 30 (.bin .eql 5 (ci 125)),
   kO 27 (.mv 30)])))))
 y13g)
def y147 : CCode :=
  (.cond 18
 (.seq (.region [
  kO 2 (.mv (ci 2)),
  kO 3 (.mv (ci 2)),
  kO 4 (.mv (ci 2))])
  .ret)
 y13a)
def y1cf : CCode :=
  (.seq (.seq (.region [
 kO 19 (.bin .eql 5 (ci 97)),
 kO 18 (.mv 19)])
 (.cond 18
 .skip
 (.seq (.region [
  kO 20 (.bin .eql 5 (ci 101)),
  kO 18 (.mv 20)])
  (.cond 18
  .skip
  (.seq (.region [
   kO 21 (.bin .eql 5 (ci 105)),
   kO 18 (.mv 21)])
   (.cond 18
   .skip
   (.seq (.region [
    kO 22 (.bin .eql 5 (ci 109)),
    kO 18 (.mv 22)])
    (.cond 18
    .skip
    (.seq (.region [
     kO 23 (.bin .eql 5 (ci 113)),
     kO 18 (.mv 23)])
     (.cond 18
     .skip
     (.seq (.region [
      kO 24 (.bin .eql 5 (ci 127)),
      kO 18 (.mv 24)])
      (.cond 18
      .skip
      (.seq (.region [
       kO 25 (.bin .eql 5 (ci 129)),
       kO 18 (.mv 25)])
       (.cond 18
       .skip
       (.region [
        kO 26 (.bin .eql 5 (ci 131)),
        kO 18 (.mv 26)])))))))))))))))
 y147)
def yuj : CCode :=
  (.cond 6
 (.seq (.region [
  kO 2 (.mv (ci 1)),
  kO 3 (.mv (ci 1)),
  kO 4 (.mv (ci 1))])
  .ret)
 y1cf)
def yue : CCode :=
  (.seq (.seq (.region [
 kO 7 (.bin .eql 5 (ci 96)),
 kO 6 (.mv 7)])
 (.cond 6
 .skip
 (.seq (.region [
  kO 8 (.bin .eql 5 (ci 100)),
  kO 6 (.mv 8)])
  (.cond 6
  .skip
  (.seq (.region [
   kO 9 (.bin .eql 5 (ci 104)),
   kO 6 (.mv 9)])
   (.cond 6
   .skip
   (.seq (.region [
    kO 10 (.bin .eql 5 (ci 108)),
    kO 6 (.mv 10)])
    (.cond 6
    .skip
    (.seq (.region [
     kO 11 (.bin .eql 5 (ci 112)),
     kO 6 (.mv 11)])
     (.cond 6
     .skip
     (.seq (.region [
      kO 12 (.bin .eql 5 (ci 120)),
      kO 6 (.mv 12)])
      (.cond 6
      .skip
      (.seq (.region [
       kO 13 (.bin .eql 5 (ci 122)),
       kO 6 (.mv 13)])
       (.cond 6
       .skip
       (.seq (.region [
        kO 14 (.bin .eql 5 (ci 124)),
        kO 6 (.mv 14)])
        (.cond 6
        .skip
        (.seq (.region [
         kO 15 (.bin .eql 5 (ci 126)),
         kO 6 (.mv 15)])
         (.cond 6
         .skip
         (.seq (.region [
          kO 16 (.bin .eql 5 (ci 128)),
          kO 6 (.mv 16)])
          (.cond 6
          .skip
          (.region [
           kO 17 (.bin .eql 5 (ci 130)),
           kO 6 (.mv 17)])))))))))))))))))))))
 yuj)
def yvf : CCode :=
  (.block 0 yue)
def yxa : CCode :=
  (.seq (.region [
 kO 5 (.mv 0)])
 yvf)
def ywv : CCode :=
  (.seq yxa
 y1c1)
def yyb : CCode :=
  (.seq (.region [
 kO 2 (.mv (ci 0)),
 kO 3 (.mv (ci 0)),
 kO 4 (.mv (ci 0))])
 ywv)
def y26l : CFunc :=
  ⟨1, true, 0, yyb, [.t 2, .t 3, .t 4]⟩
def y1tp : CCode :=
  (.seq (.region [
 kO 2 (.mv (.c (.bool false)))])
 (.seq (.region [
 kO 3 (.mv 0),
 kO 4 (.bin .neq 3 (.c (.str []))),
 kO 5 (.mv 4),
 kG 6 (.mv 0) 5 true,
 kG 7 (.call none true 44 [6]) 5 true,
 kG 8 (.mv 0) 5 true,
 kG 9 (.len 0 8) 5 true,
 kG 10 (.bin .eql 7 9) 5 true,
 kO 11 (.pick 5 10 (.c (.bool false))),
 kO 2 (.mv 11)])
 .ret))
def c_q8 : CFunc :=
  ⟨1, true, 0, y1tp, [.t 2]⟩
def y1c7 : CCode :=
  (.seq (.region [
 kO 73 (.build [(.int .i64 0), (.int .i64 0), (.int .i64 0), (.int .i64 0)] []),
 kU (.st 4 2 73),
 kO 3 (.mv (.c (.bool false)))])
 .ret)
def y1gg : CCode :=
  (.seq (.draw [
 kO 15 (.mv 4),
 kO 16 (.build [(.int .i64 0), (.int .i64 0), (.int .i64 0), (.int .i64 0)] [(0, 1, (ci (-1))), (1, 1, (ci 3)), (2, 1, 15), (3, 1, (ci (-1)))]),
 kO 17 (.fa 5 1),
 kO 18 (.ld false 1 17),
 kO 19 (.bin .eql 18 (ci 0)),
 kO 20 (.mv 19),
 kG 21 (.fa 5 1) 20 false,
 kG 22 (.ld false 1 21) 20 false,
 kG 23 (.bin .eql 22 (ci 1)) 20 false,
 kO 24 (.pick 20 (.c (.bool true)) 23),
 kU (.st 4 2 16),
 kO 3 (.mv 24)] [(7, 10)])
 .ret)
def y1h1 : CCode :=
  (.seq (.seq (.region [
 kO 12 (.fa 3 1),
 kO 13 (.ld false 1 12),
 kO 14 (.bin .neq 13 (ci (-1)))])
 (.cond 14
 (.region [
  kO 4 (.mv (ci 3))])
 .skip))
 y1gg)
def y1l1 : CCode :=
  (.seq (.region [
 kO 4 (.mv (ci (-1)))])
 y1h1)
def y1jn : CCode :=
  (.seq (.region [
 kO 30 (.mv 5),
 kO 31 (.build [(.int .i64 0), (.int .i64 0), (.int .i64 0), (.int .i64 0)] [(0, 1, (ci (-1))), (1, 1, 30), (2, 1, (ci (-1))), (3, 1, (ci (-1)))]),
 kU (.st 4 2 31),
 kO 3 (.mv (.c (.bool true)))])
 .ret)
def y18e : CCode :=
  (.seq (.seq (.region [
 kO 27 (.fa 2 1),
 kO 28 (.ld false 1 27),
 kO 29 (.bin .neq 28 (ci (-1)))])
 (.cond 29
 (.region [
  kO 5 (.mv (ci 0))])
 .skip))
 y1jn)
def y19v : CCode :=
  (.seq (.region [
 kO 5 (.mv (ci (-1)))])
 y18e)
def y1gs : CCode :=
  (.seq (.region [
 kO 40 (.fa 0 1),
 kO 41 (.ld false 1 40),
 kO 42 (.bin .eql 41 (ci 23)),
 kO 43 (.mv 42),
 kG 44 (.fa 0 1) 43 false,
 kG 45 (.ld false 1 44) 43 false,
 kG 46 (.bin .eql 45 (ci 26)) 43 false,
 kO 47 (.pick 43 (.c (.bool true)) 46),
 kO 48 (.mv 47),
 kG 49 (.fa 8 1) 48 false,
 kG 50 (.ld false 1 49) 48 false,
 kG 51 (.len 1 50) 48 false,
 kG 52 (.bin .gtr 51 (ci 0)) 48 false,
 kO 53 (.pick 48 (.c (.bool true)) 52),
 kO 7 (.mv 53)])
 (.seq (.draw [
 kO 54 (.mv 6),
 kO 55 (.build [(.int .i64 0), (.int .i64 0), (.int .i64 0), (.int .i64 0)] [(0, 1, 54), (1, 1, (ci (-1))), (2, 1, (ci (-1))), (3, 1, (ci (-1)))]),
 kO 56 (.mv 7),
 kO 57 (.mv 56),
 kG 58 (.fa 5 1) 57 true,
 kG 59 (.ld false 1 58) 57 true,
 kG 60 (.bin .geq 59 (ci 0)) 57 true,
 kG 61 (.mv 60) 57 true,
 kG 62 (.fa 0 1) 61 false,
 kG 63 (.ld false 1 62) 61 false,
 kG 64 (.bin .eql 63 (ci 25)) 61 false,
 kG 65 (.pick 61 (.c (.bool true)) 64) 57 true,
 kO 66 (.pick 57 65 (.c (.bool false))),
 kO 67 (.mv 66),
 kG 68 (.fa 8 1) 67 true,
 kG 69 (.ld false 1 68) 67 true,
 kG 70 (.len 1 69) 67 true,
 kG 71 (.bin .leq 70 (ci 21)) 67 true,
 kO 72 (.pick 67 71 (.c (.bool false))),
 kU (.st 4 2 55),
 kO 3 (.mv 72)] [(15, 19), (16, 19)])
 .ret))
def y1kz : CCode :=
  (.seq (.seq (.region [
 kO 37 (.fa 1 1),
 kO 38 (.ld false 1 37),
 kO 39 (.bin .neq 38 (ci (-1)))])
 (.cond 39
 (.region [
  kO 6 (.mv (ci 0))])
 .skip))
 y1gs)
def ysc : CCode :=
  (.seq (.region [
 kO 6 (.mv (ci (-1)))])
 y1kz)
def yth : CCode :=
  (.cond 32
 ysc
 .skip)
def yvg : CCode :=
  (.seq (.seq (.region [
 kO 33 (.bin .eql 9 (ci 23)),
 kO 32 (.mv 33)])
 (.cond 32
 .skip
 (.seq (.region [
  kO 34 (.bin .eql 9 (ci 24)),
  kO 32 (.mv 34)])
  (.cond 32
  .skip
  (.seq (.region [
   kO 35 (.bin .eql 9 (ci 25)),
   kO 32 (.mv 35)])
   (.cond 32
   .skip
   (.region [
    kO 36 (.bin .eql 9 (ci 26)),
    kO 32 (.mv 36)])))))))
 yth)
def yqw : CCode :=
  (.cond 25
 y19v
 yvg)
def yu9 : CCode :=
  (.seq (.region [
 kO 26 (.bin .eql 9 (ci 30)),
 kO 25 (.mv 26)])
 yqw)
def yt4 : CCode :=
  (.cond 10
 y1l1
 yu9)
def yr7 : CCode :=
  (.seq (.region [
 kO 11 (.bin .eql 9 (ci 29)),
 kO 10 (.mv 11)])
 yt4)
def yu2 : CCode :=
  (.block 0 yr7)
def yrm : CCode :=
  (.seq (.region [
 kO 8 (.fa 0 1),
 kO 9 (.ld false 1 8)])
 yu2)
def yxh : CCode :=
  (.seq yrm
 y1c7)
def yso : CCode :=
  (.seq (.region [
 kO 1 (.box (some 0) 0),
 kO 2 (.new (some 1) [(.int .i64 0), (.int .i64 0), (.int .i64 0), (.int .i64 0)]),
 kO 3 (.mv (.c (.bool false)))])
 yxh)
def y27k : CFunc :=
  ⟨1, true, 2, yso, [.cell 2 true 4, .t 3]⟩
def y1ht : CCode :=
  (.seq (.region [
 kO 4 (.mv (.c (.bool false)))])
 (.seq (.region [
 kO 5 (.mv 0),
 kO 6 (.mv 1),
 kO 7 (.bin .quo 6 (ci 64)),
 kO 8 (.ixs 1 5 7),
 kO 9 (.ld false 1 8),
 kO 10 (.mv 1),
 kO 11 (.bin .rem 10 (ci 64)),
 kO 12 (.bin .shr 9 11),
 kO 13 (.bin .and 12 (.c (.int .u64 1))),
 kO 14 (.bin .eql 13 (.c (.int .u64 1))),
 kO 4 (.mv 14)])
 .ret))
def y23w : CFunc :=
  ⟨2, true, 0, y1ht, [.t 4]⟩
def yvw : CCode :=
  (.seq (.region [
 kO 24 (.mv 0),
 kO 25 (.bin .neq 24 (.c (.str []))),
 kO 26 (.mv 25),
 kG 27 (.mv 0) 26 true,
 kG 28 (.len 0 27) 26 true,
 kG 29 (.bin .leq 28 (ci 60)) 26 true,
 kO 30 (.pick 26 29 (.c (.bool false))),
 kO 4 (.mv 30)])
 .ret)
def ywi : CCode :=
  (.region [
 kO 14 (.mv 6),
 kO 15 (.bin .add 14 (ci 1)),
 kO 6 (.mv 15)])
def ywx : CCode :=
  (.seq (.block 1 (.seq (.region [
 kO 16 (.mv 5),
 kO 17 (.mv 0),
 kO 18 (.mv 6),
 kO 19 (.mv 6),
 kO 20 (.bin .add 19 (ci 1)),
 kO 21 (.sls 17 (some 18) (some 20)),
 kO 22 (.call none true 53 [16, 21]),
 kO 23 (.un .not 22)])
 (.cond 23
 (.seq (.region [
  kO 4 (.mv (.c (.bool false)))])
  .ret)
 .skip)))
 ywi)
def yvk : CCode :=
  (.seq (.seq (.region [
 kO 10 (.mv 6),
 kO 11 (.mv 0),
 kO 12 (.len 0 11),
 kO 13 (.bin .lss 10 12)])
 (.cond 13
 .skip
 (.exit 0)))
 ywx)
def yew : CCode :=
  (.loop [0, 5, 6] yvk)
def yxf : CCode :=
  (.block 0 yew)
def yy5 : CCode :=
  (.seq (.region [
 kO 6 (.mv (ci 0))])
 yxf)
def yyx : CCode :=
  (.seq yy5
 yvw)
def yys : CCode :=
  (.seq (.seq (.region [
 kO 7 (.mv 1)])
 (.cond 7
 (.region [
  kO 8 (.mv 5),
  kO 9 (.bin .add 8 (.c (.str [60, 62]))),
  kO 5 (.mv 9)])
 .skip))
 yyx)
def ym3 : CCode :=
  (.seq (.region [
 kO 5 (.mv (.c (.str [97, 98, 99, 100, 101, 102, 103, 104, 105, 106, 107, 108, 109, 110, 111, 112, 113, 114, 115, 116, 117, 118, 119, 120, 121, 122, 65, 66, 67, 68, 69, 70, 71, 72, 73, 74, 75, 76, 77, 78, 79, 80, 81, 82, 83, 84, 85, 86, 87, 88, 89, 90, 48, 49, 50, 51, 52, 53, 54, 55, 56, 57, 95, 36, 47])))])
 yys)
def ynk : CCode :=
  (.seq (.region [
 kO 4 (.mv (.c (.bool false)))])
 ym3)
def y1ut : CFunc :=
  ⟨2, true, 0, ynk, [.t 4]⟩
def y1u1 : CCode :=
  (.seq (.region [
 kO 2 (.mv (ci 0))])
 .ret)
def y1u5 : CCode :=
  (.region [
 kO 41 (.mv 4),
 kO 42 (.bin .add 41 (ci 1)),
 kO 4 (.mv 42)])
def y1tr : CCode :=
  (.seq (.region [
 kO 2 (.mv (ci 0))])
 .ret)
def y1v1 : CCode :=
  (.seq (.seq (.region [
 kO 47 (.mv 0),
 kO 48 (.mv 3),
 kO 49 (.bin .add 48 (ci 1)),
 kO 50 (.mv 4),
 kO 51 (.sls 47 (some 49) (some 50)),
 kO 52 (.call none true 60 [51, (.c (.bool false))])])
 (.cond 52
 (.seq (.region [
  kO 53 (.mv 4),
  kO 54 (.bin .add 53 (ci 1)),
  kO 2 (.mv 54)])
  .ret)
 .skip))
 y1tr)
def y1u7 : CCode :=
  (.cond 46
 y1v1
 .skip)
def y1ur : CCode :=
  (.seq (.region [
 kO 43 (.mv 0),
 kO 44 (.mv 4),
 kO 45 (.ixstr 43 44),
 kO 46 (.bin .eql 45 (.c (.int .u8 59)))])
 y1u7)
def y1uz : CCode :=
  (.block 4 y1ur)
def y1uw : CCode :=
  (.seq y1uz
 y1u5)
def y1gu : CCode :=
  (.seq (.seq (.region [
 kO 37 (.mv 4),
 kO 38 (.mv 0),
 kO 39 (.len 0 38),
 kO 40 (.bin .lss 37 39)])
 (.cond 40
 .skip
 (.exit 3)))
 y1uw)
def ypd : CCode :=
  (.loop [0, 3, 4] y1gu)
def y18g : CCode :=
  (.block 3 ypd)
def y163 : CCode :=
  (.seq (.region [
 kO 35 (.mv 3),
 kO 36 (.bin .add 35 (ci 1)),
 kO 4 (.mv 36)])
 y18g)
def y131 : CCode :=
  (.cond 33
 y163
 .skip)
def y157 : CCode :=
  (.seq (.region [
 kO 34 (.bin .eql 27 (.c (.int .u8 76))),
 kO 33 (.mv 34)])
 y131)
def y124 : CCode :=
  (.cond 28
 (.seq (.region [
  kO 31 (.mv 3),
  kO 32 (.bin .add 31 (ci 1)),
  kO 2 (.mv 32)])
  .ret)
 y157)
def y1kh : CCode :=
  (.seq (.seq (.region [
 kO 29 (.bin .eql 27 (.c (.int .u8 73))),
 kO 28 (.mv 29)])
 (.cond 28
 .skip
 (.region [
  kO 30 (.bin .eql 27 (.c (.int .u8 74))),
  kO 28 (.mv 30)])))
 y124)
def y135 : CCode :=
  (.block 2 y1kh)
def y17o : CCode :=
  (.seq (.region [
 kO 25 (.mv 0),
 kO 26 (.mv 3),
 kO 27 (.ixstr 25 26)])
 y135)
def y141 : CCode :=
  (.seq y17o
 y1u1)
def y17i : CCode :=
  (.seq (.seq (.region [
 kO 17 (.mv 3),
 kO 18 (.bin .gtr 17 (ci 8)),
 kO 19 (.mv 18),
 kG 20 (.mv 3) 19 false,
 kG 21 (.mv 0) 19 false,
 kG 22 (.len 0 21) 19 false,
 kG 23 (.bin .eql 20 22) 19 false,
 kO 24 (.pick 19 (.c (.bool true)) 23)])
 (.cond 24
 (.seq (.region [
  kO 2 (.mv (ci 0))])
  .ret)
 .skip))
 y141)
def y12b : CCode :=
  (.block 1 (.region [
 kO 15 (.mv 3),
 kO 16 (.bin .add 15 (ci 1)),
 kO 3 (.mv 16)]))
def y1d2 : CCode :=
  (.seq (.seq (.region [
 kO 5 (.mv 3),
 kO 6 (.mv 0),
 kO 7 (.len 0 6),
 kO 8 (.bin .lss 5 7),
 kO 9 (.mv 8),
 kG 10 (.mv 0) 9 true,
 kG 11 (.mv 3) 9 true,
 kG 12 (.ixstr 10 11) 9 true,
 kG 13 (.bin .eql 12 (.c (.int .u8 91))) 9 true,
 kO 14 (.pick 9 13 (.c (.bool false)))])
 (.cond 14
 .skip
 (.exit 0)))
 y12b)
def ykd : CCode :=
  (.loop [0, 3] y1d2)
def y19k : CCode :=
  (.block 0 ykd)
def y1a2 : CCode :=
  (.seq y19k
 y17i)
def y188 : CCode :=
  (.seq (.region [
 kO 3 (.mv (ci 0))])
 y1a2)
def y1h0 : CCode :=
  (.seq (.region [
 kO 2 (.mv (ci 0))])
 y188)
def c_q9 : CFunc :=
  ⟨1, true, 0, y1h0, [.t 2]⟩
def y1vd : CCode :=
  (.seq (.region [
 kO 4 (.mv (.c (.bool true)))])
 .ret)
def y1ug : CCode :=
  (.region [
 kO 71 (.bin .add 19 (ci 1)),
 kO 19 (.mv 71)])
def y1vb : CCode :=
  (.seq (.block 1 (.seq (.region [
 kO 21 (.ixs 1 17 19),
 kO 22 (.ld false 1 21),
 kO 6 (.mv 22)])
 (.seq (.region [
 kO 23 (.mv 6),
 kO 24 (.bin .geq 23 (.c (.int .u8 97))),
 kO 25 (.mv 24),
 kG 26 (.mv 6) 25 true,
 kG 27 (.bin .leq 26 (.c (.int .u8 122))) 25 true,
 kO 28 (.pick 25 27 (.c (.bool false))),
 kO 29 (.mv 28),
 kG 30 (.mv 6) 29 false,
 kG 31 (.bin .geq 30 (.c (.int .u8 65))) 29 false,
 kG 32 (.mv 31) 29 false,
 kG 33 (.mv 6) 32 true,
 kG 34 (.bin .leq 33 (.c (.int .u8 90))) 32 true,
 kG 35 (.pick 32 34 (.c (.bool false))) 29 false,
 kO 36 (.pick 29 (.c (.bool true)) 35),
 kO 37 (.mv 36),
 kG 38 (.mv 6) 37 false,
 kG 39 (.bin .geq 38 (.c (.int .u8 48))) 37 false,
 kG 40 (.mv 39) 37 false,
 kG 41 (.mv 6) 40 true,
 kG 42 (.bin .leq 41 (.c (.int .u8 57))) 40 true,
 kG 43 (.pick 40 42 (.c (.bool false))) 37 false,
 kO 44 (.pick 37 (.c (.bool true)) 43),
 kO 45 (.mv 44),
 kG 46 (.mv 6) 45 false,
 kG 47 (.bin .eql 46 (.c (.int .u8 95))) 45 false,
 kO 48 (.pick 45 (.c (.bool true)) 47),
 kO 49 (.mv 48),
 kG 50 (.mv 6) 49 false,
 kG 51 (.bin .eql 50 (.c (.int .u8 36))) 49 false,
 kO 52 (.pick 49 (.c (.bool true)) 51),
 kO 53 (.mv 52),
 kG 54 (.mv 6) 53 false,
 kG 55 (.bin .eql 54 (.c (.int .u8 47))) 53 false,
 kO 56 (.pick 53 (.c (.bool true)) 55),
 kO 7 (.mv 56)])
 (.seq (.region [
 kO 57 (.mv 7),
 kO 58 (.un .not 57),
 kO 59 (.mv 58),
 kG 60 (.mv 1) 59 true,
 kG 61 (.mv 60) 59 true,
 kG 62 (.mv 6) 61 true,
 kG 63 (.bin .eql 62 (.c (.int .u8 60))) 61 true,
 kG 64 (.mv 63) 61 true,
 kG 65 (.mv 6) 64 false,
 kG 66 (.bin .eql 65 (.c (.int .u8 62))) 64 false,
 kG 67 (.pick 64 (.c (.bool true)) 66) 61 true,
 kG 68 (.pick 61 67 (.c (.bool false))) 59 true,
 kG 69 (.un .not 68) 59 true,
 kO 70 (.pick 59 69 (.c (.bool false)))])
 (.cond 70
 (.seq (.region [
  kO 4 (.mv (.c (.bool false)))])
  .ret)
 .skip)))))
 y1ug)
def y1tq : CCode :=
  (.seq (.cond 20
 .skip
 (.exit 0))
 y1vb)
def y1uf : CCode :=
  (.seq (.region [
 kO 20 (.bin .lss 19 18)])
 y1tq)
def ypf : CCode :=
  (.loop [1, 17, 18, 19] y1uf)
def y1uc : CCode :=
  (.block 0 ypf)
def y1ve : CCode :=
  (.seq (.region [
 kO 16 (.mv 0),
 kO 17 (.s2b (some 0) 16),
 kO 18 (.len 1 17),
 kO 19 (.mv (ci 0))])
 y1uc)
def y1uk : CCode :=
  (.seq y1ve
 y1vd)
def y17a : CCode :=
  (.seq (.seq (.region [
 kO 8 (.mv 0),
 kO 9 (.len 0 8),
 kO 10 (.bin .lss 9 (ci 1)),
 kO 11 (.mv 10),
 kG 12 (.mv 0) 11 false,
 kG 13 (.len 0 12) 11 false,
 kG 14 (.bin .gtr 13 (ci 60)) 11 false,
 kO 15 (.pick 11 (.c (.bool true)) 14)])
 (.cond 15
 (.seq (.region [
  kO 4 (.mv (.c (.bool false)))])
  .ret)
 .skip))
 y1uk)
def y12m : CCode :=
  (.seq (.region [
 kO 4 (.mv (.c (.bool false)))])
 y17a)
def c_q7 : CFunc :=
  ⟨2, true, 1, y12m, [.t 4]⟩
def tbl : List (Option Nat) := [none, none, none, none, some 114, none, none, none, none, none, none, none, none, none, none, none, some 13, some 14, some 8, some 117, some 100, some 118, none, none, none, none, none, none, none, none, none, none, some 29, none, none, none, some 10, some 9, some 39, some 40, some 41, some 11, some 28, some 24, some 46, some 63, some 22, some 101, some 75, some 20, some 87, none, none, none, some 79, none, some 81, none, none, none, none, none, none, none, none, none, none, none, some 25, some 48, some 42, some 64, some 23, some 49, none, none, none, none, none, none, none, none, some 17, some 45, some 47, some 84, some 85, some 86, some 82, none, some 18, none, none, none, none, none, none, none, none, none, none, none, none, none, none, some 38, some 65, some 66, some 67, some 68, none, none, none, some 50, some 37, some 51, some 83, none, none, none, none, none, none, none, none, none, none, some 69, none, none, some 44, none, none, none, some 53, some 60]
def fnE : Nat → Option CFunc
  | 8 => some y24z
  | 9 => some y25i
  | 10 => some y26y
  | 11 => some y1tz
  | 13 => some y27p
  | 14 => some y26s
  | 17 => some y29m
  | 18 => some y28h
  | 20 => some y27a
  | 22 => some y28p
  | 23 => some y1ui
  | 24 => some y283
  | 25 => some y1v3
  | 28 => some y1uq
  | 29 => some y25k
  | 37 => some c_q8
  | 38 => some y24f
  | 39 => some y1tv
  | 40 => some y1ub
  | 41 => some y1uh
  | 42 => some y1to
  | 44 => some c_q9
  | 45 => some y1u0
  | 46 => some y1u3
  | 47 => some y25x
  | 48 => some y1vc
  | 49 => some y1uu
  | 50 => some y26l
  | 51 => some y27k
  | 60 => some c_q7
  | 63 => some y254
  | 64 => some y29f
  | 65 => some y248
  | 66 => some y2be
  | 67 => some y24x
  | 68 => some y26g
  | 69 => some y1ut
  | 75 => some y25z
  | 79 => some y28o
  | 81 => some y294
  | 82 => some y249
  | 83 => some y23w
  | 84 => some y269
  | 85 => some y28a
  | 86 => some y26z
  | 87 => some y277
  | 100 => some y26i
  | 101 => some y28s
  | 114 => some y25j
  | 117 => some y2bi
  | 118 => some c_q6
  | _ => none
abbrev nm : Nat → Option Nat := nmOf tbl
def E : Env := envX fnE [84, 85, 86] xpC
abbrev T1 (c : CCode) (n : St → OX) (e : Nat → St → OX) (r : List CRes) (k : St → OX) : Prop := ∀ s, W E 0 c s n e (finP r) = k s
abbrev T0 (c : CCode) (r : List CRes) (k : St → OX) : Prop := T1 c (finP r) xN r k
theorem sq {a b : CCode} {n k k' : St → OX} {e : Nat → St → OX} {r : List CRes} (h : T1 b n e r k) (h' : T1 a k e r k') : T1 (.seq a b) n e r k' := fun s => (yld h).trans (h' s)
theorem ok4 : FnOk Go.Proofs.Try.prog nm fnE 4 114 := .of Go.Proofs.Try.func4 (by kernel_rfl) (by kernel_rfl) rfl (by kernel_rfl)
theorem ok16 : FnOk Go.Proofs.Try.prog nm fnE 16 13 := .of Go.Proofs.Try.func16 (by kernel_rfl) (by kernel_rfl) rfl (by kernel_rfl)
theorem ok17 : FnOk Go.Proofs.Try.prog nm fnE 17 14 := .of Go.Proofs.Try.func17 (by kernel_rfl) (by kernel_rfl) rfl (by kernel_rfl)
theorem ok18 : FnOk Go.Proofs.Try.prog nm fnE 18 8 := .of Go.Proofs.Try.func18 (by kernel_rfl) (by kernel_rfl) rfl (by kernel_rfl)
theorem ok19 : FnOk Go.Proofs.Try.prog nm fnE 19 117 := .of Go.Proofs.Try.func19 (by kernel_rfl) (by kernel_rfl) rfl (by kernel_rfl)
theorem ok20 : FnOk Go.Proofs.Try.prog nm fnE 20 100 := .of Go.Proofs.Try.func20 (by kernel_rfl) (by kernel_rfl) rfl (by kernel_rfl)
theorem ok21 : FnOk Go.Proofs.Try.prog nm fnE 21 118 := .of Go.Proofs.Try.func21 (by kernel_rfl) (by kernel_rfl) rfl (by kernel_rfl)
theorem ok32 : FnOk Go.Proofs.Try.prog nm fnE 32 29 := .of Go.Proofs.Try.func32 (by kernel_rfl) (by kernel_rfl) rfl (by kernel_rfl)
theorem ok36 : FnOk Go.Proofs.Try.prog nm fnE 36 10 := .of Go.Proofs.Try.func36 (by kernel_rfl) (by kernel_rfl) rfl (by kernel_rfl)
theorem ok37 : FnOk Go.Proofs.Try.prog nm fnE 37 9 := .of Go.Proofs.Try.func37 (by kernel_rfl) (by kernel_rfl) rfl (by kernel_rfl)
theorem ok38 : FnOk Go.Proofs.Try.prog nm fnE 38 39 := .of Go.Proofs.Try.func38 (by kernel_rfl) (by kernel_rfl) rfl (by kernel_rfl)
theorem ok39 : FnOk Go.Proofs.Try.prog nm fnE 39 40 := .of Go.Proofs.Try.func39 (by kernel_rfl) (by kernel_rfl) rfl (by kernel_rfl)
theorem ok40 : FnOk Go.Proofs.Try.prog nm fnE 40 41 := .of Go.Proofs.Try.func40 (by kernel_rfl) (by kernel_rfl) rfl (by kernel_rfl)
theorem ok41 : FnOk Go.Proofs.Try.prog nm fnE 41 11 := .of Go.Proofs.Try.func41 (by kernel_rfl) (by kernel_rfl) rfl (by kernel_rfl)
theorem ok42 : FnOk Go.Proofs.Try.prog nm fnE 42 28 := .of Go.Proofs.Try.func42 (by kernel_rfl) (by kernel_rfl) rfl (by kernel_rfl)
theorem ok43 : FnOk Go.Proofs.Try.prog nm fnE 43 24 := .of Go.Proofs.Try.func43 (by kernel_rfl) (by kernel_rfl) rfl (by kernel_rfl)
theorem ok44 : FnOk Go.Proofs.Try.prog nm fnE 44 46 := .of Go.Proofs.Try.func44 (by kernel_rfl) (by kernel_rfl) rfl (by kernel_rfl)
theorem ok45 : FnOk Go.Proofs.Try.prog nm fnE 45 63 := .of Go.Proofs.Try.func45 (by kernel_rfl) (by kernel_rfl) rfl (by kernel_rfl)
theorem ok46 : FnOk Go.Proofs.Try.prog nm fnE 46 22 := .of Go.Proofs.Try.func46 (by kernel_rfl) (by kernel_rfl) rfl (by kernel_rfl)
theorem ok47 : FnOk Go.Proofs.Try.prog nm fnE 47 101 := .of Go.Proofs.Try.func47 (by kernel_rfl) (by kernel_rfl) rfl (by kernel_rfl)
theorem ok48 : FnOk Go.Proofs.Try.prog nm fnE 48 75 := .of Go.Proofs.Try.func48 (by kernel_rfl) (by kernel_rfl) rfl (by kernel_rfl)
theorem ok49 : FnOk Go.Proofs.Try.prog nm fnE 49 20 := .of Go.Proofs.Try.func49 (by kernel_rfl) (by kernel_rfl) rfl (by kernel_rfl)
theorem ok50 : FnOk Go.Proofs.Try.prog nm fnE 50 87 := .of Go.Proofs.Try.func50 (by kernel_rfl) (by kernel_rfl) rfl (by kernel_rfl)
theorem ok54 : FnOk Go.Proofs.Try.prog nm fnE 54 79 := .of Go.Proofs.Try.func54 (by kernel_rfl) (by kernel_rfl) rfl (by kernel_rfl)
theorem ok56 : FnOk Go.Proofs.Try.prog nm fnE 56 81 := .of Go.Proofs.Try.func56 (by kernel_rfl) (by kernel_rfl) rfl (by kernel_rfl)
theorem ok68 : FnOk Go.Proofs.Try.prog nm fnE 68 25 := .of Go.Proofs.Try.func68 (by kernel_rfl) (by kernel_rfl) rfl (by kernel_rfl)
theorem ok69 : FnOk Go.Proofs.Try.prog nm fnE 69 48 := .of Go.Proofs.Try.func69 (by kernel_rfl) (by kernel_rfl) rfl (by kernel_rfl)
theorem ok70 : FnOk Go.Proofs.Try.prog nm fnE 70 42 := .of Go.Proofs.Try.func70 (by kernel_rfl) (by kernel_rfl) rfl (by kernel_rfl)
theorem ok71 : FnOk Go.Proofs.Try.prog nm fnE 71 64 := .of Go.Proofs.Try.func71 (by kernel_rfl) (by kernel_rfl) rfl (by kernel_rfl)
theorem ok72 : FnOk Go.Proofs.Try.prog nm fnE 72 23 := .of Go.Proofs.Try.func72 (by kernel_rfl) (by kernel_rfl) rfl (by kernel_rfl)
theorem ok73 : FnOk Go.Proofs.Try.prog nm fnE 73 49 := .of Go.Proofs.Try.func73 (by kernel_rfl) (by kernel_rfl) rfl (by kernel_rfl)
theorem ok82 : FnOk Go.Proofs.Try.prog nm fnE 82 17 := .of Go.Proofs.Try.func82 (by kernel_rfl) (by kernel_rfl) rfl (by kernel_rfl)
theorem ok83 : FnOk Go.Proofs.Try.prog nm fnE 83 45 := .of Go.Proofs.Try.func83 (by kernel_rfl) (by kernel_rfl) rfl (by kernel_rfl)
theorem ok84 : FnOk Go.Proofs.Try.prog nm fnE 84 47 := .of Go.Proofs.Try.func84 (by kernel_rfl) (by kernel_rfl) rfl (by kernel_rfl)
theorem ok85 : FnOk Go.Proofs.Try.prog nm fnE 85 84 := .of Go.Proofs.Try.func85 (by kernel_rfl) (by kernel_rfl) rfl (by kernel_rfl)
theorem ok86 : FnOk Go.Proofs.Try.prog nm fnE 86 85 := .of Go.Proofs.Try.func86 (by kernel_rfl) (by kernel_rfl) rfl (by kernel_rfl)
theorem ok87 : FnOk Go.Proofs.Try.prog nm fnE 87 86 := .of Go.Proofs.Try.func87 (by kernel_rfl) (by kernel_rfl) rfl (by kernel_rfl)
theorem ok88 : FnOk Go.Proofs.Try.prog nm fnE 88 82 := .of Go.Proofs.Try.func88 (by kernel_rfl) (by kernel_rfl) rfl (by kernel_rfl)
theorem ok90 : FnOk Go.Proofs.Try.prog nm fnE 90 18 := .of Go.Proofs.Try.func90 (by kernel_rfl) (by kernel_rfl) rfl (by kernel_rfl)
theorem y2bj : FnOk Go.Proofs.Try.prog nm fnE 105 38 := .of Go.Proofs.Try.func105 (by kernel_rfl) (by kernel_rfl) rfl (by kernel_rfl)
theorem y2dv : FnOk Go.Proofs.Try.prog nm fnE 106 65 := .of Go.Proofs.Try.func106 (by kernel_rfl) (by kernel_rfl) rfl (by kernel_rfl)
theorem y2db : FnOk Go.Proofs.Try.prog nm fnE 107 66 := .of Go.Proofs.Try.func107 (by kernel_rfl) (by kernel_rfl) rfl (by kernel_rfl)
theorem y2aq : FnOk Go.Proofs.Try.prog nm fnE 108 67 := .of Go.Proofs.Try.func108 (by kernel_rfl) (by kernel_rfl) rfl (by kernel_rfl)
theorem y2b5 : FnOk Go.Proofs.Try.prog nm fnE 109 68 := .of Go.Proofs.Try.func109 (by kernel_rfl) (by kernel_rfl) rfl (by kernel_rfl)
theorem y2cl : FnOk Go.Proofs.Try.prog nm fnE 113 50 := .of Go.Proofs.Try.func113 (by kernel_rfl) (by kernel_rfl) rfl (by kernel_rfl)
theorem y2cf : FnOk Go.Proofs.Try.prog nm fnE 114 37 := .of Go.Proofs.Try.func114 (by kernel_rfl) (by kernel_rfl) rfl (by kernel_rfl)
theorem y2ag : FnOk Go.Proofs.Try.prog nm fnE 115 51 := .of Go.Proofs.Try.func115 (by kernel_rfl) (by kernel_rfl) rfl (by kernel_rfl)
theorem y2dl : FnOk Go.Proofs.Try.prog nm fnE 116 83 := .of Go.Proofs.Try.func116 (by kernel_rfl) (by kernel_rfl) rfl (by kernel_rfl)
theorem y2bg : FnOk Go.Proofs.Try.prog nm fnE 127 69 := .of Go.Proofs.Try.func127 (by kernel_rfl) (by kernel_rfl) rfl (by kernel_rfl)
theorem y2at : FnOk Go.Proofs.Try.prog nm fnE 130 44 := .of Go.Proofs.Try.func130 (by kernel_rfl) (by kernel_rfl) rfl (by kernel_rfl)
theorem y2aj : FnOk Go.Proofs.Try.prog nm fnE 134 53 := .ext Go.Proofs.Try.func134 (by kernel_rfl) (by kernel_rfl) rfl
theorem y2c3 : FnOk Go.Proofs.Try.prog nm fnE 135 60 := .of Go.Proofs.Try.func135 (by kernel_rfl) (by kernel_rfl) rfl (by kernel_rfl)
theorem y2br : AllF Go.Proofs.Try.prog nm fnE 0 tbl :=
  ⟨ok4, ok16, ok17, ok18, ok19, ok20, ok21, ok32, ok36, ok37, ok38, ok39, ok40, ok41, ok42, ok43, ok44, ok45, ok46, ok47, ok48, ok49, ok50, ok54, ok56, ok68, ok69, ok70, ok71, ok72, ok73, ok82, ok83, ok84, ok85, ok86, ok87, ok88, ok90, y2bj, y2dv, y2db, y2aq, y2b5, y2cl, y2cf, y2ag, y2dl, y2bg, y2at, y2aj, y2c3, trivial⟩
theorem y2e6 : EnvOk Go.Proofs.Try.prog nm E := y20u (by kernel_rfl) y2br (.contains (f := 134) (y1zr (by kernel_rfl)) Go.Proofs.Try.strings_Contains_one)
end Go.Vm
