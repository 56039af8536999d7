/- The machine's form of functions, each checked against the translation, and the environment that they make. -/
import Derived.Test.YtgbajicpokolcaaVc
import Derived.Test.YtgbajicpokolcaaProg
import Derived.KernelRfl
set_option linter.unusedSimpArgs false
set_option linter.unusedVariables false
set_option linter.unusedSectionVars false
namespace Go.Vm
def y1dh : CCode :=
  (.seq (.region [
 kO 90 (.fa 3 8),
 kO 91 (.ld false 1 90),
 kO 92 (.ixs 9 91 (ci 4)),
 kO 93 (.fa 0 92),
 kO 94 (.ld false 1 93),
 kO 95 (.bin .eql 94 (ci 33)),
 kO 96 (.mv 95),
 kG 97 (.ld true 5 8) 96 true,
 kG 98 (.call none true 100 [97]) 96 true,
 kG 99 (.fld false 3 1 98) 96 true,
 kG 100 (.len 1 99) 96 true,
 kG 101 (.bin .eql 100 (ci 5)) 96 true,
 kO 102 (.pick 96 101 (.c (.bool false))),
 kO 6 (.mv 102)])
 .ret)
def y11z : CCode :=
  (.seq (.seq (.region [
 kO 68 (.mv 9)])
 (.cond 68
 (.seq (.region [
  kO 69 (.fa 3 8),
  kO 70 (.ld false 1 69),
  kO 71 (.ixs 9 70 (ci 4)),
  kO 72 (.fa 0 71),
  kO 73 (.ld false 1 72),
  kO 74 (.bin .eql 73 (ci 27)),
  kO 75 (.mv 74),
  kG 76 (.fa 3 8) 75 true,
  kG 77 (.ld false 1 76) 75 true,
  kG 78 (.ixs 9 77 (ci 4)) 75 true,
  kG 79 (.fa 6 78) 75 true,
  kG 80 (.ld false 1 79) 75 true,
  kG 81 (.bin .eql 80 (ci 6)) 75 true,
  kO 82 (.pick 75 81 (.c (.bool false))),
  kO 83 (.mv 82),
  kG 84 (.ld true 5 8) 83 true,
  kG 85 (.call none true 100 [84]) 83 true,
  kG 86 (.fld false 3 1 85) 83 true,
  kG 87 (.len 1 86) 83 true,
  kG 88 (.bin .eql 87 (ci 6)) 83 true,
  kO 89 (.pick 83 88 (.c (.bool false))),
  kO 6 (.mv 89)])
  .ret)
 .skip))
 y1dh)
def y1ao : CCode :=
  (.seq (.seq (.region [
 kO 54 (.fa 3 8),
 kO 55 (.ld false 1 54),
 kO 56 (.ixs 9 55 (ci 2)),
 kO 57 (.fa 0 56),
 kO 58 (.ld false 1 57),
 kO 59 (.bin .neq 58 (ci 7)),
 kO 60 (.mv 59),
 kG 61 (.fa 3 8) 60 false,
 kG 62 (.ld false 1 61) 60 false,
 kG 63 (.ixs 9 62 (ci 3)) 60 false,
 kG 64 (.fa 0 63) 60 false,
 kG 65 (.ld false 1 64) 60 false,
 kG 66 (.bin .neq 65 (ci 10)) 60 false,
 kO 67 (.pick 60 (.c (.bool true)) 66)])
 (.cond 67
 (.seq (.region [
  kO 6 (.mv (.c (.bool false)))])
  .ret)
 .skip))
 y11z)
def y1bq : CCode :=
  (.seq (.region [
 kO 33 (.mv 1),
 kO 34 (.mv 2),
 kO 35 (.bin .eql 33 34),
 kO 36 (.mv 1),
 kO 37 (.mv 2),
 kO 38 (.bin .neq 36 37),
 kO 39 (.mv 1),
 kO 40 (.mv 2),
 kO 41 (.bin .lss 39 40),
 kO 42 (.mv 1),
 kO 43 (.mv 2),
 kO 44 (.bin .geq 42 43),
 kO 45 (.mv 1),
 kO 46 (.mv 2),
 kO 47 (.bin .gtr 45 46),
 kO 48 (.mv 1),
 kO 49 (.mv 2),
 kO 50 (.bin .leq 48 49),
 kO 51 (.build [(.bool false), (.bool false), (.bool false), (.bool false), (.bool false), (.bool false)] [(0, 1, 35), (1, 1, 38), (2, 1, 41), (3, 1, 44), (4, 1, 47), (5, 1, 50)]),
 kO 52 (.mv 0),
 kO 53 (.ixv false 6 1 51 52),
 kO 9 (.mv 53)])
 y1ao)
def y19r : CCode :=
  (.seq (.region [
 kO 31 (.ld true 5 7),
 kO 32 (.call none true 125 [31]),
 kO 8 (.new (some 3) [.nils, .nils, (.int .i64 0), .nils, .nils]),
 kU (.st 5 8 32)])
 y1bq)
def y12o : CCode :=
  (.seq (.region [
 kO 16 (.buildS (some 0) 1 2 [(.int .i64 0)] [(0, (ci 1)), (1, (ci 1))]),
 kO 17 (.mv 1),
 kO 18 (.cvi .i64 17),
 kO 19 (.build [(.int .i64 0), (.int .i64 0), (.int .i64 0), (.int .i64 0), (.int .i64 0), (.int .i64 0), (.int .i64 0), (.str []), .nils] [(0, 1, (ci 1)), (1, 1, (ci 0)), (5, 1, 18)]),
 kO 20 (.mv 2),
 kO 21 (.cvi .i64 20),
 kO 22 (.build [(.int .i64 0), (.int .i64 0), (.int .i64 0), (.int .i64 0), (.int .i64 0), (.int .i64 0), (.int .i64 0), (.str []), .nils] [(0, 1, (ci 1)), (1, 1, (ci 1)), (5, 1, 21)]),
 kO 23 (.build [(.int .i64 0), (.int .i64 0), (.int .i64 0), (.int .i64 0), (.int .i64 0), (.int .i64 0), (.int .i64 0), (.str []), .nils] [(0, 1, (ci 7)), (2, 1, (ci 0))]),
 kO 24 (.build [(.int .i64 0), (.int .i64 0), (.int .i64 0), (.int .i64 0), (.int .i64 0), (.int .i64 0), (.int .i64 0), (.str []), .nils] [(0, 1, (ci 10)), (2, 1, (ci 1))]),
 kO 25 (.mv 0),
 kO 26 (.build [(.int .i64 0), (.int .i64 0), (.int .i64 0), (.int .i64 0), (.int .i64 0), (.int .i64 0), (.int .i64 0), (.str []), .nils] [(0, 1, (ci 28)), (5, 1, 25), (2, 1, (ci 0)), (3, 1, (ci 1)), (6, 1, (ci 6))]),
 kO 27 (.build [(.int .i64 0), (.int .i64 0), (.int .i64 0), (.int .i64 0), (.int .i64 0), (.int .i64 0), (.int .i64 0), (.str []), .nils] [(0, 1, (ci 30)), (2, 1, (ci 0))]),
 kO 28 (.build [(.int .i64 0), (.int .i64 0), (.int .i64 0), (.int .i64 0), (.int .i64 0), (.int .i64 0), (.int .i64 0), (.str []), .nils] [(0, 1, (ci 30)), (2, 1, (ci 1))]),
 kO 29 (.buildS (some 1) 9 7 [(.int .i64 0), (.int .i64 0), (.int .i64 0), (.int .i64 0), (.int .i64 0), (.int .i64 0), (.int .i64 0), (.str []), .nils] [(0, 19), (1, 22), (2, 23), (3, 24), (4, 26), (5, 27), (6, 28)]),
 kO 30 (.build [.nils, .nils, (.int .i64 0), .nils, .nils] [(0, 1, 16), (2, 1, (ci 1)), (3, 1, 29)]),
 kO 7 (.new (some 2) [.nils, .nils, (.int .i64 0), .nils, .nils]),
 kU (.st 5 7 30)])
 y19r)
def y13z : CCode :=
  (.seq (.region [
 kO 12 (.mv 0),
 kO 13 (.bin .rem 12 (ci 6)),
 kO 14 (.bin .add 13 (ci 6)),
 kO 15 (.bin .rem 14 (ci 6)),
 kO 0 (.mv 15)])
 y12o)
def y17h : CCode :=
  (.seq (.seq (.region [
 kO 10 (.call none true 124 []),
 kO 11 (.un .not 10)])
 (.cond 11
 (.seq (.region [
  kO 6 (.mv (.c (.bool false)))])
  .ret)
 .skip))
 y13z)
def y19i : CCode :=
  (.seq (.region [
 kO 6 (.mv (.c (.bool false)))])
 y17h)
def y212 : CFunc :=
  ⟨3, true, 4, y19i, [.t 6]⟩
def y14b : CCode :=
  (.seq (.region [
 kO 39 (.ld true 5 3),
 kU (.st 5 2 39)])
 .ret)
def y1ga : CCode :=
  (.region [
 kO 38 (.bin .add 23 (ci 1)),
 kO 23 (.mv 38)])
def y11y : CCode :=
  (.seq (.block 1 (.seq (.region [
 kO 25 (.mv 23),
 kO 4 (.mv 25)])
 (.draw [
 kO 26 (.fa 3 3),
 kO 27 (.ld false 1 26),
 kO 28 (.mv 4),
 kO 29 (.fa 3 3),
 kO 30 (.ld false 1 29),
 kO 31 (.mv 4),
 kO 32 (.ixs 9 30 31),
 kO 33 (.fa 8 32),
 kO 34 (.ld false 1 33),
 kO 35 (.call none true 39 [34]),
 kO 36 (.ixs 9 27 28),
 kO 37 (.fa 8 36),
 kU (.st 1 37 35)] [(1, 9)])))
 y1ga)
def y1be : CCode :=
  (.seq (.cond 24
 .skip
 (.exit 0))
 y11y)
def y18l : CCode :=
  (.seq (.region [
 kO 24 (.bin .lss 23 22)])
 y1be)
def yjh : CCode :=
  (.loop [2, 3, 22, 23] y18l)
def y19e : CCode :=
  (.block 0 yjh)
def y120 : CCode :=
  (.seq (.region [
 kO 20 (.fa 3 3),
 kO 21 (.ld false 1 20),
 kO 22 (.len 1 21),
 kO 23 (.mv (ci 0))])
 y19e)
def y127 : CCode :=
  (.seq y120
 y14b)
def yuj : CCode :=
  (.seq (.draw [
 kO 5 (.fa 0 1),
 kO 6 (.ld false 1 5),
 kO 7 (.call (some 2) false 39 [6]),
 kO 8 (.fa 1 1),
 kO 9 (.ld false 1 8),
 kO 10 (.call (some 3) false 39 [9]),
 kO 11 (.fa 2 1),
 kO 12 (.ld false 1 11),
 kO 13 (.fa 3 1),
 kO 14 (.ld false 1 13),
 kO 15 (.call (some 4) false 40 [14]),
 kO 16 (.fa 4 1),
 kO 17 (.ld false 1 16),
 kO 18 (.call (some 5) false 41 [17]),
 kO 19 (.build [.nils, .nils, (.int .i64 0), .nils, .nils] [(0, 1, 7), (1, 1, 10), (2, 1, 12), (3, 1, 15), (4, 1, 18)]),
 kO 3 (.new (some 6) [.nils, .nils, (.int .i64 0), .nils, .nils]),
 kU (.st 5 3 19)] [(2, 4), (2, 7), (5, 7), (2, 9), (5, 9), (7, 10), (2, 12), (5, 12), (10, 12), (7, 13), (1, 15), (2, 15), (4, 15), (5, 15), (7, 15), (9, 15), (10, 15), (12, 15), (13, 15)])
 y127)
def ysy : CCode :=
  (.seq (.region [
 kO 1 (.box (some 0) 0),
 kO 2 (.new (some 1) [.nils, .nils, (.int .i64 0), .nils, .nils])])
 yuj)
def y20w : CFunc :=
  ⟨1, true, 7, ysy, [.cell 2 true 5]⟩
def y0t : CCode :=
  (.seq (.region [
 kO 2 (.mv (ci 0))])
 .ret)
def y14y : CCode :=
  (.region [
 kO 179 (.bin .add 138 (ci 1)),
 kO 138 (.mv 179)])
def y146 : CCode :=
  (.seq (.block 7 (.seq (.region [
 kO 140 (.ixs 4 136 138),
 kO 141 (.ld true 4 140),
 kO 11 (.new (some 2) [(.int .i64 0), (.int .i64 0), (.int .i64 0), (.str [])]),
 kU (.st 4 11 141)])
 (.seq (.region [
 kO 142 (.fa 0 11),
 kO 143 (.ld false 1 142),
 kO 144 (.bin .lss 143 (ci 0)),
 kO 145 (.mv 144),
 kG 146 (.fa 0 11) 145 false,
 kG 147 (.ld false 1 146) 145 false,
 kG 148 (.fa 1 11) 145 false,
 kG 149 (.ld false 1 148) 145 false,
 kG 150 (.bin .geq 147 149) 145 false,
 kO 151 (.pick 145 (.c (.bool true)) 150),
 kO 152 (.mv 151),
 kG 153 (.fa 1 11) 152 false,
 kG 154 (.ld false 1 153) 152 false,
 kG 155 (.mv 3) 152 false,
 kG 156 (.bin .gtr 154 155) 152 false,
 kO 157 (.pick 152 (.c (.bool true)) 156),
 kO 158 (.mv 157),
 kG 159 (.fa 2 11) 158 false,
 kG 160 (.ld false 1 159) 158 false,
 kG 161 (.bin .lss 160 (ci 0)) 158 false,
 kO 162 (.pick 158 (.c (.bool true)) 161),
 kO 163 (.mv 162),
 kG 164 (.fa 2 11) 163 false,
 kG 165 (.ld false 1 164) 163 false,
 kG 166 (.mv 3) 163 false,
 kG 167 (.bin .geq 165 166) 163 false,
 kO 168 (.pick 163 (.c (.bool true)) 167),
 kO 169 (.mv 168),
 kG 170 (.fa 3 1) 169 false,
 kG 171 (.ld false 1 170) 169 false,
 kG 172 (.fa 2 11) 169 false,
 kG 173 (.ld false 1 172) 169 false,
 kG 174 (.ixs 9 171 173) 169 false,
 kG 175 (.fa 0 174) 169 false,
 kG 176 (.ld false 1 175) 169 false,
 kG 177 (.bin .neq 176 (ci 32)) 169 false,
 kO 178 (.pick 169 (.c (.bool true)) 177)])
 (.cond 178
 (.seq (.region [
  kO 2 (.mv (ci 80))])
  .ret)
 .skip))))
 y14y)
def y117 : CCode :=
  (.seq (.cond 139
 .skip
 (.exit 6))
 y146)
def y1cv : CCode :=
  (.seq (.region [
 kO 139 (.bin .lss 138 137)])
 y117)
def yip : CCode :=
  (.loop [1, 3, 136, 137, 138] y1cv)
def y19z : CCode :=
  (.block 6 yip)
def y1bn : CCode :=
  (.seq (.region [
 kO 135 (.fa 4 1),
 kO 136 (.ld false 1 135),
 kO 137 (.len 1 136),
 kO 138 (.mv (ci 0))])
 y19z)
def yzi : CCode :=
  (.seq y1bn
 y0t)
def ys7 : CCode :=
  (.region [
 kO 134 (.bin .add 94 (ci 1)),
 kO 94 (.mv 134)])
def yq6 : CCode :=
  (.seq (.region [
 kO 103 (.fa 0 9),
 kO 104 (.ld false 1 103),
 kO 105 (.bin .eql 104 (ci 32)),
 kO 106 (.mv 105),
 kG 107 (.mv 8) 106 true,
 kG 108 (.bin .eql 107 (ci 0)) 106 true,
 kG 109 (.mv 108) 106 true,
 kG 110 (.fa 3 1) 109 false,
 kG 111 (.ld false 1 110) 109 false,
 kG 112 (.mv 8) 109 false,
 kG 113 (.bin .sub 112 (ci 1)) 109 false,
 kG 114 (.ixs 9 111 113) 109 false,
 kG 115 (.ld true 9 114) 109 false,
 kG 116 (.call none true 24 [115]) 109 false,
 kG 117 (.un .not 116) 109 false,
 kG 118 (.pick 109 (.c (.bool true)) 117) 106 true,
 kO 119 (.pick 106 118 (.c (.bool false))),
 kO 120 (.mv 119),
 kG 121 (.ld true 9 9) 120 false,
 kG 122 (.call none true 22 [121]) 120 false,
 kG 123 (.mv 122) 120 false,
 kG 124 (.fa 3 1) 123 true,
 kG 125 (.ld false 1 124) 123 true,
 kG 126 (.fa 6 9) 123 true,
 kG 127 (.ld false 1 126) 123 true,
 kG 128 (.ixs 9 125 127) 123 true,
 kG 129 (.fa 0 128) 123 true,
 kG 130 (.ld false 1 129) 123 true,
 kG 131 (.bin .eql 130 (ci 32)) 123 true,
 kG 132 (.pick 123 131 (.c (.bool false))) 120 false,
 kO 133 (.pick 120 (.c (.bool true)) 132)])
 (.cond 133
 (.seq (.region [
  kO 2 (.mv (ci 80))])
  .ret)
 .skip))
def yuv : CCode :=
  (.seq (.seq (.region [
 kO 99 (.ld true 5 1),
 kO 100 (.ld true 9 9),
 kO 101 (.call none true 63 [99, 100]),
 kO 102 (.un .not 101)])
 (.cond 102
 (.seq (.region [
  kO 2 (.mv (ci 80))])
  .ret)
 .skip))
 yq6)
def yw1 : CCode :=
  (.seq (.region [
 kO 96 (.mv 94),
 kO 97 (.ixs 9 92 94),
 kO 98 (.ld true 9 97),
 kO 9 (.new (some 1) [(.int .i64 0), (.int .i64 0), (.int .i64 0), (.int .i64 0), (.int .i64 0), (.int .i64 0), (.int .i64 0), (.str []), .nils]),
 kO 8 (.mv 96),
 kU (.st 9 9 98)])
 yuv)
def yvq : CCode :=
  (.block 5 yw1)
def yvf : CCode :=
  (.seq yvq
 ys7)
def yta : CCode :=
  (.seq (.cond 95
 .skip
 (.exit 4))
 yvf)
def ysg : CCode :=
  (.seq (.region [
 kO 95 (.bin .lss 94 93)])
 yta)
def ye7 : CCode :=
  (.loop [1, 3, 92, 93, 94] ysg)
def yrc : CCode :=
  (.block 4 ye7)
def yu6 : CCode :=
  (.seq (.region [
 kO 91 (.fa 3 1),
 kO 92 (.ld false 1 91),
 kO 93 (.len 1 92),
 kO 94 (.mv (ci 0))])
 yrc)
def yvl : CCode :=
  (.seq yu6
 yzi)
def yx3 : CCode :=
  (.region [
 kO 90 (.bin .add 64 (ci 1)),
 kO 64 (.mv 90)])
def ypt : CCode :=
  (.seq (.block 3 (.seq (.region [
 kO 66 (.mv 64),
 kO 67 (.ixs 1 62 64),
 kO 68 (.ld false 1 67),
 kO 6 (.mv 66),
 kO 7 (.mv 68)])
 (.seq (.region [
 kO 69 (.mv 7),
 kO 70 (.bin .lss 69 (ci 0)),
 kO 71 (.mv 70),
 kG 72 (.mv 7) 71 false,
 kG 73 (.fa 0 1) 71 false,
 kG 74 (.ld false 1 73) 71 false,
 kG 75 (.len 1 74) 71 false,
 kG 76 (.bin .geq 72 75) 71 false,
 kO 77 (.pick 71 (.c (.bool true)) 76),
 kO 78 (.mv 77),
 kG 79 (.fa 1 1) 78 false,
 kG 80 (.ld false 1 79) 78 false,
 kG 81 (.mv 6) 78 false,
 kG 82 (.slc 1 80 none (some 81)) 78 false,
 kG 83 (.mv 7) 78 false,
 kG 84 (.call none true 46 [82, 83]) 78 false,
 kO 85 (.pick 78 (.c (.bool true)) 84),
 kO 86 (.mv 85),
 kG 87 (.mv 6) 86 false,
 kG 88 (.bin .gtr 87 (ci 20)) 86 false,
 kO 89 (.pick 86 (.c (.bool true)) 88)])
 (.cond 89
 (.seq (.region [
  kO 2 (.mv (ci 80))])
  .ret)
 .skip))))
 yx3)
def yt5 : CCode :=
  (.seq (.cond 65
 .skip
 (.exit 2))
 ypt)
def ysk : CCode :=
  (.seq (.region [
 kO 65 (.bin .lss 64 63)])
 yt5)
def yew : CCode :=
  (.loop [1, 3, 62, 63, 64] ysk)
def ypx : CCode :=
  (.block 2 yew)
def yr7 : CCode :=
  (.seq (.region [
 kO 61 (.fa 1 1),
 kO 62 (.ld false 1 61),
 kO 63 (.len 1 62),
 kO 64 (.mv (ci 0))])
 ypx)
def ypd : CCode :=
  (.seq yr7
 yvl)
def yqh : CCode :=
  (.region [
 kO 60 (.bin .add 50 (ci 1)),
 kO 50 (.mv 60)])
def yqp : CCode :=
  (.seq (.block 1 (.seq (.region [
 kO 52 (.ixs 1 48 50),
 kO 53 (.ld false 1 52),
 kO 5 (.mv 53)])
 (.seq (.region [
 kO 54 (.mv 5),
 kO 55 (.bin .lss 54 (ci 1)),
 kO 56 (.mv 55),
 kG 57 (.mv 5) 56 false,
 kG 58 (.bin .gtr 57 (ci 3)) 56 false,
 kO 59 (.pick 56 (.c (.bool true)) 58)])
 (.cond 59
 (.seq (.region [
  kO 2 (.mv (ci 80))])
  .ret)
 .skip))))
 yqh)
def yv3 : CCode :=
  (.seq (.cond 51
 .skip
 (.exit 0))
 yqp)
def yvh : CCode :=
  (.seq (.region [
 kO 51 (.bin .lss 50 49)])
 yv3)
def yek : CCode :=
  (.loop [1, 3, 48, 49, 50] yvh)
def yuk : CCode :=
  (.block 0 yek)
def yq3 : CCode :=
  (.seq (.region [
 kO 47 (.fa 0 1),
 kO 48 (.ld false 1 47),
 kO 49 (.len 1 48),
 kO 50 (.mv (ci 0))])
 yuk)
def yto : CCode :=
  (.seq yq3
 ypd)
def yv1 : CCode :=
  (.seq (.seq (.region [
 kO 15 (.mv 3),
 kO 16 (.bin .lss 15 (ci 1)),
 kO 17 (.mv 16),
 kG 18 (.mv 3) 17 false,
 kG 19 (.bin .gtr 18 (ci 20000)) 17 false,
 kO 20 (.pick 17 (.c (.bool true)) 19),
 kO 21 (.mv 20),
 kG 22 (.fa 0 1) 21 false,
 kG 23 (.ld false 1 22) 21 false,
 kG 24 (.len 1 23) 21 false,
 kG 25 (.bin .gtr 24 (ci 20000)) 21 false,
 kO 26 (.pick 21 (.c (.bool true)) 25),
 kO 27 (.mv 26),
 kG 28 (.fa 2 1) 27 false,
 kG 29 (.ld false 1 28) 27 false,
 kG 30 (.bin .lss 29 (ci 0)) 27 false,
 kO 31 (.pick 27 (.c (.bool true)) 30),
 kO 32 (.mv 31),
 kG 33 (.fa 2 1) 32 false,
 kG 34 (.ld false 1 33) 32 false,
 kG 35 (.bin .gtr 34 (ci 3)) 32 false,
 kO 36 (.pick 32 (.c (.bool true)) 35),
 kO 37 (.mv 36),
 kG 38 (.fa 3 1) 37 false,
 kG 39 (.ld false 1 38) 37 false,
 kG 40 (.mv 3) 37 false,
 kG 41 (.bin .sub 40 (ci 1)) 37 false,
 kG 42 (.ixs 9 39 41) 37 false,
 kG 43 (.ld true 9 42) 37 false,
 kG 44 (.call none true 24 [43]) 37 false,
 kG 45 (.un .not 44) 37 false,
 kO 46 (.pick 37 (.c (.bool true)) 45)])
 (.cond 46
 (.seq (.region [
  kO 2 (.mv (ci 80))])
  .ret)
 .skip))
 yto)
def yw2 : CCode :=
  (.seq (.region [
 kO 12 (.fa 3 1),
 kO 13 (.ld false 1 12),
 kO 14 (.len 1 13),
 kO 3 (.mv 14)])
 yv1)
def yud : CCode :=
  (.seq (.region [
 kO 1 (.box (some 0) 0),
 kO 2 (.mv (ci 0))])
 yw2)
def y1xf : CFunc :=
  ⟨1, true, 3, yud, [.t 2]⟩
def y15r : CCode :=
  (.seq (.region [
 kO 150 (.ld true 5 9),
 kU (.st 5 2 150)])
 .ret)
def y1ct : CCode :=
  (.region [
 kO 149 (.bin .add 104 (ci 1)),
 kO 104 (.mv 149)])
def y0f : CCode :=
  (.seq (.block 7 (.seq (.region [
 kO 106 (.ixs 4 102 104),
 kO 107 (.ld true 4 106),
 kO 13 (.new (some 9) [(.int .i64 0), (.int .i64 0), (.int .i64 0), (.str [])]),
 kU (.st 4 13 107)])
 (.seq (.draw [
 kO 108 (.mv 3),
 kO 109 (.fa 2 13),
 kO 110 (.ld false 1 109),
 kO 111 (.ixs 1 108 110),
 kO 112 (.ld false 1 111),
 kO 113 (.mv 112),
 kG 114 (.mv 6) 113 true,
 kG 115 (.fa 0 13) 113 true,
 kG 116 (.ld false 1 115) 113 true,
 kG 117 (.ixs 1 114 116) 113 true,
 kG 118 (.ld false 1 117) 113 true,
 kG 119 (.mv 6) 113 true,
 kG 120 (.fa 1 13) 113 true,
 kG 121 (.ld false 1 120) 113 true,
 kG 122 (.ixs 1 119 121) 113 true,
 kG 123 (.ld false 1 122) 113 true,
 kG 124 (.bin .lss 118 123) 113 true,
 kO 125 (.pick 113 124 (.c (.bool false)))] [])
 (.cond 125
 (.draw [
  kO 126 (.fa 4 9),
  kO 127 (.ld false 1 126),
  kO 128 (.mv 6),
  kO 129 (.fa 0 13),
  kO 130 (.ld false 1 129),
  kO 131 (.ixs 1 128 130),
  kO 132 (.ld false 1 131),
  kO 133 (.mv 6),
  kO 134 (.fa 1 13),
  kO 135 (.ld false 1 134),
  kO 136 (.ixs 1 133 135),
  kO 137 (.ld false 1 136),
  kO 138 (.mv 6),
  kO 139 (.fa 2 13),
  kO 140 (.ld false 1 139),
  kO 141 (.ixs 1 138 140),
  kO 142 (.ld false 1 141),
  kO 143 (.fa 3 13),
  kO 144 (.ld false 1 143),
  kO 145 (.build [(.int .i64 0), (.int .i64 0), (.int .i64 0), (.str [])] [(0, 1, 132), (1, 1, 137), (2, 1, 142), (3, 1, 144)]),
  kO 146 (.buildS (some 10) 4 1 [(.int .i64 0), (.int .i64 0), (.int .i64 0), (.str [])] [(0, 145)]),
  kO 147 (.app (some 11) 4 40 127 146),
  kO 148 (.fa 4 9),
  kU (.st 1 148 147)] [(1, 20)])
 .skip))))
 y1ct)
def y1ca : CCode :=
  (.seq (.cond 105
 .skip
 (.exit 6))
 y0f)
def y1fu : CCode :=
  (.seq (.region [
 kO 105 (.bin .lss 104 103)])
 y1ca)
def yjf : CCode :=
  (.loop [2, 3, 6, 9, 102, 103, 104] y1fu)
def y19d : CCode :=
  (.block 6 yjf)
def y1ag : CCode :=
  (.seq (.region [
 kO 101 (.fa 4 1),
 kO 102 (.ld false 1 101),
 kO 103 (.len 1 102),
 kO 104 (.mv (ci 0))])
 y19d)
def y15c : CCode :=
  (.seq y1ag
 y15r)
def ywc : CCode :=
  (.region [
 kO 100 (.bin .add 75 (ci 1)),
 kO 75 (.mv 100)])
def yqu : CCode :=
  (.region [
 kO 94 (.fa 3 9),
 kO 95 (.ld false 1 94),
 kO 96 (.ld true 9 11),
 kO 97 (.buildS (some 7) 9 1 [(.int .i64 0), (.int .i64 0), (.int .i64 0), (.int .i64 0), (.int .i64 0), (.int .i64 0), (.int .i64 0), (.str []), .nils] [(0, 96)]),
 kO 98 (.app (some 8) 9 96 95 97),
 kO 99 (.fa 3 9),
 kU (.st 1 99 98)])
def yq8 : CCode :=
  (.seq (.seq (.region [
 kO 85 (.ld true 9 11),
 kO 86 (.call none true 22 [85])])
 (.cond 86
 (.region [
  kO 87 (.mv 6),
  kO 88 (.fa 6 11),
  kO 89 (.ld false 1 88),
  kO 90 (.ixs 1 87 89),
  kO 91 (.ld false 1 90),
  kO 92 (.fa 6 11),
  kU (.st 1 92 91)])
 (.region [
  kO 93 (.fa 6 11),
  kU (.st 1 93 (ci 0))])))
 yqu)
def ytv : CCode :=
  (.seq (.seq (.region [
 kO 80 (.mv 3),
 kO 81 (.mv 10),
 kO 82 (.ixs 1 80 81),
 kO 83 (.ld false 1 82),
 kO 84 (.un .not 83)])
 (.cond 84
 (.exit 5)
 .skip))
 yq8)
def yux : CCode :=
  (.seq (.region [
 kO 77 (.mv 75),
 kO 78 (.ixs 9 73 75),
 kO 79 (.ld true 9 78),
 kO 11 (.new (some 6) [(.int .i64 0), (.int .i64 0), (.int .i64 0), (.int .i64 0), (.int .i64 0), (.int .i64 0), (.int .i64 0), (.str []), .nils]),
 kO 10 (.mv 77),
 kU (.st 9 11 79)])
 ytv)
def yq0 : CCode :=
  (.block 5 yux)
def yu4 : CCode :=
  (.seq yq0
 ywc)
def yss : CCode :=
  (.seq (.cond 76
 .skip
 (.exit 4))
 yu4)
def yoy : CCode :=
  (.seq (.region [
 kO 76 (.bin .lss 75 74)])
 yss)
def yev : CCode :=
  (.loop [1, 2, 3, 6, 9, 73, 74, 75] yoy)
def yu5 : CCode :=
  (.block 4 yev)
def ypp : CCode :=
  (.seq (.region [
 kO 72 (.fa 3 1),
 kO 73 (.ld false 1 72),
 kO 74 (.len 1 73),
 kO 75 (.mv (ci 0))])
 yu5)
def yre : CCode :=
  (.seq ypp
 y15c)
def yv2 : CCode :=
  (.seq (.region [
 kO 65 (.fa 0 1),
 kO 66 (.ld false 1 65),
 kO 67 (.fa 1 1),
 kO 68 (.ld false 1 67),
 kO 69 (.fa 2 1),
 kO 70 (.ld false 1 69),
 kO 71 (.build [.nils, .nils, (.int .i64 0), .nils, .nils] [(0, 1, 66), (1, 1, 68), (2, 1, 70)]),
 kO 9 (.new (some 5) [.nils, .nils, (.int .i64 0), .nils, .nils]),
 kU (.st 5 9 71)])
 yre)
def yvk : CCode :=
  (.seq (.region [
 kO 59 (.mv 6),
 kO 60 (.fa 3 1),
 kO 61 (.ld false 1 60),
 kO 62 (.len 1 61),
 kO 63 (.mv 7),
 kO 64 (.ixs 1 59 62),
 kU (.st 1 64 63)])
 yv2)
def yt2 : CCode :=
  (.region [
 kO 58 (.bin .add 45 (ci 1)),
 kO 45 (.mv 58)])
def yqs : CCode :=
  (.seq (.block 3 (.seq (.region [
 kO 47 (.mv 45),
 kO 8 (.mv 47)])
 (.seq (.region [
 kO 48 (.mv 6),
 kO 49 (.mv 8),
 kO 50 (.mv 7),
 kO 51 (.ixs 1 48 49),
 kU (.st 1 51 50)])
 (.seq (.region [
 kO 52 (.mv 3),
 kO 53 (.mv 8),
 kO 54 (.ixs 1 52 53),
 kO 55 (.ld false 1 54)])
 (.cond 55
 (.region [
  kO 56 (.mv 7),
  kO 57 (.bin .add 56 (ci 1)),
  kO 7 (.mv 57)])
 .skip)))))
 yt2)
def ywb : CCode :=
  (.seq (.cond 46
 .skip
 (.exit 2))
 yqs)
def yp4 : CCode :=
  (.seq (.region [
 kO 46 (.bin .lss 45 44)])
 ywb)
def yen : CCode :=
  (.loop [1, 2, 3, 6, 7, 44, 45] yp4)
def ytq : CCode :=
  (.block 2 yen)
def yrp : CCode :=
  (.seq (.region [
 kO 42 (.fa 3 1),
 kO 43 (.ld false 1 42),
 kO 44 (.len 1 43),
 kO 45 (.mv (ci 0))])
 ytq)
def yp0 : CCode :=
  (.seq yrp
 yvk)
def yvn : CCode :=
  (.seq (.region [
 kO 7 (.mv (ci 0))])
 yp0)
def yvr : CCode :=
  (.seq (.region [
 kO 37 (.fa 3 1),
 kO 38 (.ld false 1 37),
 kO 39 (.len 1 38),
 kO 40 (.bin .add 39 (ci 1)),
 kO 41 (.mkS (some 4) 1 8 [(.int .i64 0)] 40 40),
 kO 6 (.mv 41)])
 yvn)
def yrj : CCode :=
  (.region [
 kO 36 (.bin .add 25 (ci 1)),
 kO 25 (.mv 36)])
def yw3 : CCode :=
  (.seq (.block 1 (.seq (.region [
 kO 27 (.mv 25),
 kO 28 (.ixs 9 23 25),
 kO 29 (.ld true 9 28),
 kO 5 (.new (some 3) [(.int .i64 0), (.int .i64 0), (.int .i64 0), (.int .i64 0), (.int .i64 0), (.int .i64 0), (.int .i64 0), (.str []), .nils]),
 kO 4 (.mv 27),
 kU (.st 9 5 29)])
 (.seq (.region [
 kO 30 (.fa 0 5),
 kO 31 (.ld false 1 30),
 kO 32 (.bin .eql 31 (ci 33))])
 (.cond 32
 (.region [
  kO 33 (.mv 3),
  kO 34 (.mv 4),
  kO 35 (.ixs 1 33 34),
  kU (.st 1 35 (.c (.bool false)))])
 .skip))))
 yrj)
def yqj : CCode :=
  (.seq (.cond 26
 .skip
 (.exit 0))
 yw3)
def yps : CCode :=
  (.seq (.region [
 kO 26 (.bin .lss 25 24)])
 yqj)
def ydz : CCode :=
  (.loop [1, 2, 3, 23, 24, 25] yps)
def yqc : CCode :=
  (.block 0 ydz)
def ywa : CCode :=
  (.seq (.region [
 kO 22 (.fa 3 1),
 kO 23 (.ld false 1 22),
 kO 24 (.len 1 23),
 kO 25 (.mv (ci 0))])
 yqc)
def yrf : CCode :=
  (.seq ywa
 yvr)
def yw7 : CCode :=
  (.seq (.region [
 kO 20 (.ld true 5 1),
 kO 21 (.call (some 2) false 101 [20]),
 kO 3 (.mv 21)])
 yrf)
def yun : CCode :=
  (.seq (.seq (.region [
 kO 16 (.ld true 5 1),
 kO 17 (.call none true 8 [16]),
 kO 18 (.bin .neq 17 (ci 0))])
 (.cond 18
 (.seq (.region [
  kO 19 (.ld true 5 1),
  kU (.st 5 2 19)])
  .ret)
 .skip))
 yw7)
def ytp : CCode :=
  (.seq (.region [
 kO 14 (.ld true 5 1),
 kO 15 (.call none true 13 [14]),
 kU (.st 5 1 15)])
 yun)
def yx1 : CCode :=
  (.seq (.region [
 kO 1 (.box (some 0) 0),
 kO 2 (.new (some 1) [.nils, .nils, (.int .i64 0), .nils, .nils])])
 ytp)
def y1yj : CFunc :=
  ⟨1, true, 12, yx1, [.cell 2 true 5]⟩
def y242 : CFunc :=
  ⟨0, true, 3, (.seq (.region [
    kO 0 (.mv (.c (.bool false)))])
  (.seq (.region [
    kO 2 (.buildS (some 0) 1 3 [(.int .i64 0)] [(0, (ci 1)), (1, (ci 1)), (2, (ci 1))]),
    kO 3 (.build [(.int .i64 0), (.int .i64 0), (.int .i64 0), (.int .i64 0), (.int .i64 0), (.int .i64 0), (.int .i64 0), (.str []), .nils] [(0, 1, (ci 1)), (1, 1, (ci 0)), (5, 1, (ci 2))]),
    kO 4 (.build [(.int .i64 0), (.int .i64 0), (.int .i64 0), (.int .i64 0), (.int .i64 0), (.int .i64 0), (.int .i64 0), (.str []), .nils] [(0, 1, (ci 1)), (1, 1, (ci 1)), (5, 1, (ci 3))]),
    kO 5 (.build [(.int .i64 0), (.int .i64 0), (.int .i64 0), (.int .i64 0), (.int .i64 0), (.int .i64 0), (.int .i64 0), (.str []), .nils] [(0, 1, (ci 5)), (5, 1, (ci 104)), (1, 1, (ci 2)), (2, 1, (ci 0)), (3, 1, (ci 1))]),
    kO 6 (.build [(.int .i64 0), (.int .i64 0), (.int .i64 0), (.int .i64 0), (.int .i64 0), (.int .i64 0), (.int .i64 0), (.str []), .nils] [(0, 1, (ci 30)), (2, 1, (ci 2))]),
    kO 7 (.buildS (some 1) 9 4 [(.int .i64 0), (.int .i64 0), (.int .i64 0), (.int .i64 0), (.int .i64 0), (.int .i64 0), (.int .i64 0), (.str []), .nils] [(0, 3), (1, 4), (2, 5), (3, 6)]),
    kO 8 (.build [.nils, .nils, (.int .i64 0), .nils, .nils] [(0, 1, 2), (2, 1, (ci 1)), (3, 1, 7)]),
    kO 9 (.call none true 125 [8]),
    kO 1 (.new (some 2) [.nils, .nils, (.int .i64 0), .nils, .nils]),
    kU (.st 5 1 9)])
  (.seq (.region [
    kO 10 (.fa 3 1),
    kO 11 (.ld false 1 10),
    kO 12 (.len 1 11),
    kO 13 (.bin .eql 12 (ci 4)),
    kO 14 (.mv 13),
    kG 15 (.fa 3 1) 14 true,
    kG 16 (.ld false 1 15) 14 true,
    kG 17 (.ixs 9 16 (ci 2)) 14 true,
    kG 18 (.fa 0 17) 14 true,
    kG 19 (.ld false 1 18) 14 true,
    kG 20 (.bin .eql 19 (ci 1)) 14 true,
    kO 21 (.pick 14 20 (.c (.bool false))),
    kO 22 (.mv 21),
    kG 23 (.fa 3 1) 22 true,
    kG 24 (.ld false 1 23) 22 true,
    kG 25 (.ixs 9 24 (ci 2)) 22 true,
    kG 26 (.fa 5 25) 22 true,
    kG 27 (.ld false 1 26) 22 true,
    kG 28 (.bin .eql 27 (ci 6)) 22 true,
    kO 29 (.pick 22 28 (.c (.bool false))),
    kO 30 (.mv 29),
    kG 31 (.fa 3 1) 30 true,
    kG 32 (.ld false 1 31) 30 true,
    kG 33 (.ixs 9 32 (ci 2)) 30 true,
    kG 34 (.fa 1 33) 30 true,
    kG 35 (.ld false 1 34) 30 true,
    kG 36 (.bin .eql 35 (ci 2)) 30 true,
    kO 37 (.pick 30 36 (.c (.bool false))),
    kO 0 (.mv 37)])
  .ret))), [.t 0]⟩
def y1e4 : CCode :=
  (.seq (.region [
 kO 62 (.ld true 5 1),
 kU (.st 5 2 62)])
 .ret)
def y1bv : CCode :=
  (.region [
 kO 61 (.bin .add 31 (ci 1)),
 kO 31 (.mv 61)])
def yzb : CCode :=
  (.seq (.region [
 kO 40 (.ld true 9 8),
 kO 41 (.mv 6),
 kO 42 (.call none false 126 [40, 41]),
 kU (.st 9 8 42)])
 (.seq (.region [
 kO 43 (.fa 3 1),
 kO 44 (.ld false 1 43),
 kO 45 (.mv 7),
 kO 46 (.ld true 9 8),
 kO 47 (.ixs 9 44 45),
 kU (.st 9 47 46)])
 (.seq (.region [
 kO 48 (.ld true 9 8),
 kO 49 (.call none true 9 [48]),
 kO 9 (.mv 49)])
 (.seq (.region [
 kO 50 (.mv 9),
 kO 51 (.bin .geq 50 (ci 0))])
 (.cond 51
 (.seq (.region [
  kO 52 (.mv 6),
  kO 53 (.mv 9),
  kU (.mdel false [0] 52 53)])
  (.seq (.region [
  kO 54 (.fa 0 8),
  kO 55 (.ld false 1 54),
  kO 56 (.bin .eql 55 (ci 1))])
  (.cond 56
  (.region [
   kO 57 (.mv 6),
   kO 58 (.mv 9),
   kO 59 (.fa 5 8),
   kO 60 (.ld false 1 59),
   kU (.mput false [0] 57 58 60)])
  .skip)))
 .skip)))))
def y1g7 : CCode :=
  (.seq (.seq (.region [
 kO 36 (.mv 3),
 kO 37 (.mv 7),
 kO 38 (.mget false [0] (.bool false) false 36 37)])
 (.cond 38
 (.region [
  kO 39 (.mv 6),
  kU (.mclr 39)])
 .skip))
 yzb)
def yzv : CCode :=
  (.seq (.region [
 kO 33 (.mv 31),
 kO 34 (.ixs 9 29 31),
 kO 35 (.ld true 9 34),
 kO 8 (.new (some 12) [(.int .i64 0), (.int .i64 0), (.int .i64 0), (.int .i64 0), (.int .i64 0), (.int .i64 0), (.int .i64 0), (.str []), .nils]),
 kO 7 (.mv 33),
 kU (.st 9 8 35)])
 y1g7)
def y1eh : CCode :=
  (.block 3 yzv)
def y124 : CCode :=
  (.seq y1eh
 y1bv)
def y1gj : CCode :=
  (.seq (.cond 32
 .skip
 (.exit 2))
 y124)
def yqw : CCode :=
  (.seq (.region [
 kO 32 (.bin .lss 31 30)])
 y1gj)
def yjt : CCode :=
  (.loop [1, 2, 3, 6, 29, 30, 31] yqw)
def yuc : CCode :=
  (.block 2 yjt)
def yoz : CCode :=
  (.seq (.region [
 kO 28 (.fa 3 1),
 kO 29 (.ld false 1 28),
 kO 30 (.len 1 29),
 kO 31 (.mv (ci 0))])
 yuc)
def ytd : CCode :=
  (.seq yoz
 y1e4)
def yx5 : CCode :=
  (.seq (.region [
 kO 27 (.mkm (some 11)),
 kO 6 (.mv 27)])
 ytd)
def ysj : CCode :=
  (.region [
 kO 26 (.bin .add 20 (ci 1)),
 kO 20 (.mv 26)])
def yq2 : CCode :=
  (.seq (.block 1 (.seq (.region [
 kO 22 (.ixs 1 18 20),
 kO 23 (.ld false 1 22),
 kO 5 (.mv 23)])
 (.region [
 kO 24 (.mv 3),
 kO 25 (.mv 5),
 kU (.mput false [0] 24 25 (.c (.bool true)))])))
 ysj)
def ysr : CCode :=
  (.seq (.cond 21
 .skip
 (.exit 0))
 yq2)
def yse : CCode :=
  (.seq (.region [
 kO 21 (.bin .lss 20 19)])
 ysr)
def yei : CCode :=
  (.loop [1, 2, 3, 18, 19, 20] yse)
def ywo : CCode :=
  (.block 0 yei)
def yv5 : CCode :=
  (.seq (.region [
 kO 17 (.ld true 5 1),
 kO 18 (.call none true 102 [17]),
 kO 19 (.len 1 18),
 kO 20 (.mv (ci 0))])
 ywo)
def yr5 : CCode :=
  (.seq yv5
 yx5)
def ywp : CCode :=
  (.seq (.region [
 kO 16 (.mkm (some 10)),
 kO 3 (.mv 16)])
 yr5)
def yra : CCode :=
  (.seq (.seq (.region [
 kO 12 (.ld true 5 1),
 kO 13 (.call none true 8 [12]),
 kO 14 (.bin .neq 13 (ci 0))])
 (.cond 14
 (.seq (.region [
  kO 15 (.ld true 5 1),
  kU (.st 5 2 15)])
  .ret)
 .skip))
 ywp)
def yvs : CCode :=
  (.seq (.region [
 kO 10 (.ld true 5 1),
 kO 11 (.call (some 2) false 13 [10]),
 kU (.st 5 1 11)])
 yra)
def yx4 : CCode :=
  (.seq (.region [
 kO 1 (.box (some 0) 0),
 kO 2 (.new (some 1) [.nils, .nils, (.int .i64 0), .nils, .nils])])
 yvs)
def y21l : CFunc :=
  ⟨1, true, 13, yx4, [.cell 2 true 5]⟩
def y1bc : CCode :=
  (.seq (.region [
 kO 2 (.mv (ci (-1)))])
 .ret)
def y19c : CCode :=
  (.seq (.seq (.region [
 kO 22 (.ld true 9 1),
 kO 23 (.call none true 17 [22])])
 (.cond 23
 (.seq (.region [
  kO 24 (.fa 1 1),
  kO 25 (.ld false 1 24),
  kO 2 (.mv 25)])
  .ret)
 .skip))
 y1bc)
def y15s : CCode :=
  (.cond 5
 (.seq (.region [
  kO 20 (.fa 1 1),
  kO 21 (.ld false 1 20),
  kO 2 (.mv 21)])
  .ret)
 .skip)
def y0s : CCode :=
  (.seq (.seq (.region [
 kO 6 (.bin .eql 4 (ci 1)),
 kO 5 (.mv 6)])
 (.cond 5
 .skip
 (.seq (.region [
  kO 7 (.bin .eql 4 (ci 2)),
  kO 5 (.mv 7)])
  (.cond 5
  .skip
  (.seq (.region [
   kO 8 (.bin .eql 4 (ci 3)),
   kO 5 (.mv 8)])
   (.cond 5
   .skip
   (.seq (.region [
    kO 9 (.bin .eql 4 (ci 4)),
    kO 5 (.mv 9)])
    (.cond 5
    .skip
    (.seq (.region [
     kO 10 (.bin .eql 4 (ci 5)),
     kO 5 (.mv 10)])
     (.cond 5
     .skip
     (.seq (.region [
      kO 11 (.bin .eql 4 (ci 6)),
      kO 5 (.mv 11)])
      (.cond 5
      .skip
      (.seq (.region [
       kO 12 (.bin .eql 4 (ci 13)),
       kO 5 (.mv 12)])
       (.cond 5
       .skip
       (.seq (.region [
        kO 13 (.bin .eql 4 (ci 15)),
        kO 5 (.mv 13)])
        (.cond 5
        .skip
        (.seq (.region [
         kO 14 (.bin .eql 4 (ci 16)),
         kO 5 (.mv 14)])
         (.cond 5
         .skip
         (.seq (.region [
          kO 15 (.bin .eql 4 (ci 18)),
          kO 5 (.mv 15)])
          (.cond 5
          .skip
          (.seq (.region [
           kO 16 (.bin .eql 4 (ci 20)),
           kO 5 (.mv 16)])
           (.cond 5
           .skip
           (.seq (.region [
            kO 17 (.bin .eql 4 (ci 21)),
            kO 5 (.mv 17)])
            (.cond 5
            .skip
            (.seq (.region [
             kO 18 (.bin .eql 4 (ci 22)),
             kO 5 (.mv 18)])
             (.cond 5
             .skip
             (.region [
              kO 19 (.bin .eql 4 (ci 32)),
              kO 5 (.mv 19)])))))))))))))))))))))))))))
 y15s)
def y1ev : CCode :=
  (.block 0 y0s)
def y13v : CCode :=
  (.seq (.region [
 kO 3 (.fa 0 1),
 kO 4 (.ld false 1 3)])
 y1ev)
def y13y : CCode :=
  (.seq y13v
 y19c)
def y18d : CCode :=
  (.seq (.region [
 kO 1 (.box (some 0) 0),
 kO 2 (.mv (ci 0))])
 y13y)
def y1wq : CFunc :=
  ⟨1, true, 1, y18d, [.t 2]⟩
def ysv : CCode :=
  (.seq (.region [
 kO 5 (.buildS (some 0) 1 0 [(.int .i64 0)] []),
 kO 6 (.mv 0),
 kO 7 (.app (some 1) 1 8 5 6),
 kO 2 (.mv 7)])
 .ret)
def ywj : CCode :=
  (.seq (.seq (.region [
 kO 3 (.mv 0),
 kO 4 (.eqn 1 false 3 (.c .nils))])
 (.cond 4
 (.seq (.region [
  kO 2 (.mv (.c .nils))])
  .ret)
 .skip))
 ysv)
def yr9 : CCode :=
  (.seq (.region [
 kO 2 (.mv (.c .nils))])
 ywj)
def y1oa : CFunc :=
  ⟨1, true, 2, yr9, [.t 2]⟩
def yrw : CCode :=
  (.seq (.region [
 kO 5 (.buildS (some 0) 9 0 [(.int .i64 0), (.int .i64 0), (.int .i64 0), (.int .i64 0), (.int .i64 0), (.int .i64 0), (.int .i64 0), (.str []), .nils] []),
 kO 6 (.mv 0),
 kO 7 (.app (some 1) 9 96 5 6),
 kO 2 (.mv 7)])
 .ret)
def ys5 : CCode :=
  (.seq (.seq (.region [
 kO 3 (.mv 0),
 kO 4 (.eqn 1 false 3 (.c .nils))])
 (.cond 4
 (.seq (.region [
  kO 2 (.mv (.c .nils))])
  .ret)
 .skip))
 yrw)
def yti : CCode :=
  (.seq (.region [
 kO 2 (.mv (.c .nils))])
 ys5)
def y1oz : CFunc :=
  ⟨1, true, 2, yti, [.t 2]⟩
def yub : CCode :=
  (.seq (.region [
 kO 5 (.buildS (some 0) 4 0 [(.int .i64 0), (.int .i64 0), (.int .i64 0), (.str [])] []),
 kO 6 (.mv 0),
 kO 7 (.app (some 1) 4 40 5 6),
 kO 2 (.mv 7)])
 .ret)
def yrn : CCode :=
  (.seq (.seq (.region [
 kO 3 (.mv 0),
 kO 4 (.eqn 1 false 3 (.c .nils))])
 (.cond 4
 (.seq (.region [
  kO 2 (.mv (.c .nils))])
  .ret)
 .skip))
 yub)
def ypf : CCode :=
  (.seq (.region [
 kO 2 (.mv (.c .nils))])
 yrn)
def y1p3 : CFunc :=
  ⟨1, true, 2, ypf, [.t 2]⟩
def y17k : CCode :=
  (.seq (.region [
 kO 1 (.box (some 0) 0),
 kO 2 (.mv (.c (.bool false)))])
 (.seq (.region [
 kO 3 (.fa 0 1),
 kO 4 (.ld false 1 3),
 kO 5 (.bin .eql 4 (ci 27)),
 kO 6 (.mv 5),
 kG 7 (.fa 0 1) 6 false,
 kG 8 (.ld false 1 7) 6 false,
 kG 9 (.bin .eql 8 (ci 30)) 6 false,
 kO 10 (.pick 6 (.c (.bool true)) 9),
 kO 11 (.mv 10),
 kG 12 (.fa 0 1) 11 false,
 kG 13 (.ld false 1 12) 11 false,
 kG 14 (.bin .eql 13 (ci 31)) 11 false,
 kO 15 (.pick 11 (.c (.bool true)) 14),
 kO 2 (.mv 15)])
 .ret))
def y20j : CFunc :=
  ⟨1, true, 1, y17k, [.t 2]⟩
def yt4 : CCode :=
  (.seq (.region [
 kO 4 (.mv (.c (.bool false)))])
 (.seq (.region [
 kO 5 (.mv 0),
 kO 6 (.mv 1),
 kO 7 (.call none true 45 [5, 6]),
 kO 8 (.bin .geq 7 (ci 0)),
 kO 4 (.mv 8)])
 .ret))
def y1op : CFunc :=
  ⟨2, true, 0, yt4, [.t 4]⟩
def y1as : CCode :=
  (.seq (.region [
 kO 183 (.ld true 9 3),
 kO 184 (.call none true 22 [183]),
 kO 185 (.un .not 184),
 kO 186 (.mv 185),
 kG 187 (.fa 6 3) 186 false,
 kG 188 (.ld false 1 187) 186 false,
 kG 189 (.bin .geq 188 (ci 0)) 186 false,
 kG 190 (.mv 189) 186 false,
 kG 191 (.fa 6 3) 190 true,
 kG 192 (.ld false 1 191) 190 true,
 kG 193 (.fa 3 2) 190 true,
 kG 194 (.ld false 1 193) 190 true,
 kG 195 (.len 1 194) 190 true,
 kG 196 (.bin .lss 192 195) 190 true,
 kG 197 (.pick 190 196 (.c (.bool false))) 186 false,
 kO 198 (.pick 186 (.c (.bool true)) 197),
 kO 4 (.mv 198)])
 .ret)
def y1a3 : CCode :=
  (.seq (.seq (.region [
 kO 105 (.fa 0 3),
 kO 106 (.ld false 1 105)])
 (.block 4 (.seq (.region [
 kO 108 (.bin .eql 106 (ci 1)),
 kO 107 (.mv 108)])
 (.cond 107
 (.seq (.region [
  kO 109 (.fa 0 2),
  kO 110 (.ld false 1 109),
  kO 111 (.fa 1 3),
  kO 112 (.ld false 1 111),
  kO 113 (.ixs 1 110 112),
  kO 114 (.ld false 1 113),
  kO 115 (.bin .neq 114 (ci 3)),
  kO 116 (.mv 115),
  kG 117 (.fa 0 2) 116 true,
  kG 118 (.ld false 1 117) 116 true,
  kG 119 (.fa 1 3) 116 true,
  kG 120 (.ld false 1 119) 116 true,
  kG 121 (.ixs 1 118 120) 116 true,
  kG 122 (.ld false 1 121) 116 true,
  kG 123 (.bin .eql 122 (ci 2)) 116 true,
  kG 124 (.mv 123) 116 true,
  kG 125 (.fa 5 3) 124 false,
  kG 126 (.ld false 1 125) 124 false,
  kG 127 (.fa 5 3) 124 false,
  kG 128 (.ld false 1 127) 124 false,
  kG 129 (.cvi .i32 128) 124 false,
  kG 130 (.cvi .i64 129) 124 false,
  kG 131 (.bin .eql 126 130) 124 false,
  kG 132 (.pick 124 (.c (.bool true)) 131) 116 true,
  kO 133 (.pick 116 132 (.c (.bool false))),
  kO 4 (.mv 133)])
  .ret)
 (.seq (.region [
  kO 135 (.bin .eql 106 (ci 4)),
  kO 134 (.mv 135)])
  (.cond 134
  (.seq (.draw [
   kO 136 (.fa 0 2),
   kO 137 (.ld false 1 136),
   kO 138 (.fa 1 3),
   kO 139 (.ld false 1 138),
   kO 140 (.ixs 1 137 139),
   kO 141 (.ld false 1 140),
   kO 142 (.fa 0 2),
   kO 143 (.ld false 1 142),
   kO 144 (.fa 2 3),
   kO 145 (.ld false 1 144),
   kO 146 (.ixs 1 143 145),
   kO 147 (.ld false 1 146),
   kO 148 (.bin .eql 141 147),
   kO 4 (.mv 148)] [])
   .ret)
  (.seq (.region [
   kO 150 (.bin .eql 106 (ci 7)),
   kO 149 (.mv 150)])
   (.cond 149
   (.seq (.region [
    kO 151 (.fa 0 2),
    kO 152 (.ld false 1 151),
    kO 153 (.fa 2 3),
    kO 154 (.ld false 1 153),
    kO 155 (.ixs 1 152 154),
    kO 156 (.ld false 1 155),
    kO 157 (.bin .neq 156 (ci 3)),
    kO 4 (.mv 157)])
    .ret)
   (.seq (.region [
    kO 159 (.bin .eql 106 (ci 30)),
    kO 158 (.mv 159)])
    (.cond 158
    (.seq (.draw [
     kO 160 (.fa 2 3),
     kO 161 (.ld false 1 160),
     kO 162 (.bin .eql 161 (ci (-1))),
     kO 163 (.fa 2 2),
     kO 164 (.ld false 1 163),
     kO 165 (.bin .eql 164 (ci 0)),
     kO 166 (.eqb false 162 165),
     kO 167 (.mv 166),
     kG 168 (.fa 2 3) 167 true,
     kG 169 (.ld false 1 168) 167 true,
     kG 170 (.bin .eql 169 (ci (-1))) 167 true,
     kG 171 (.mv 170) 167 true,
     kG 172 (.fa 0 2) 171 false,
     kG 173 (.ld false 1 172) 171 false,
     kG 174 (.fa 2 3) 171 false,
     kG 175 (.ld false 1 174) 171 false,
     kG 176 (.ixs 1 173 175) 171 false,
     kG 177 (.ld false 1 176) 171 false,
     kG 178 (.fa 2 2) 171 false,
     kG 179 (.ld false 1 178) 171 false,
     kG 180 (.bin .eql 177 179) 171 false,
     kG 181 (.pick 171 (.c (.bool true)) 180) 167 true,
     kO 182 (.pick 167 181 (.c (.bool false))),
     kO 4 (.mv 182)] [])
     .ret)
    .skip))))))))))
 y1as)
def y1gf : CCode :=
  (.region [
 kO 104 (.bin .add 65 (ci 1)),
 kO 65 (.mv 104)])
def y1dy : CCode :=
  (.seq (.region [
 kO 73 (.mv 10),
 kO 74 (.bin .lss 73 (ci 0)),
 kO 75 (.mv 74),
 kG 76 (.mv 10) 75 false,
 kG 77 (.fa 0 2) 75 false,
 kG 78 (.ld false 1 77) 75 false,
 kG 79 (.len 1 78) 75 false,
 kG 80 (.bin .geq 76 79) 75 false,
 kO 81 (.pick 75 (.c (.bool true)) 80),
 kO 82 (.mv 81),
 kG 83 (.mv 9) 82 false,
 kG 84 (.bin .eql 83 (ci 0)) 82 false,
 kG 85 (.mv 84) 82 false,
 kG 86 (.fa 0 3) 85 true,
 kG 87 (.ld false 1 86) 85 true,
 kG 88 (.bin .eql 87 (ci 24)) 85 true,
 kG 89 (.mv 88) 85 true,
 kG 90 (.fa 0 3) 89 false,
 kG 91 (.ld false 1 90) 89 false,
 kG 92 (.bin .eql 91 (ci 25)) 89 false,
 kG 93 (.pick 89 (.c (.bool true)) 92) 85 true,
 kG 94 (.pick 85 93 (.c (.bool false))) 82 false,
 kG 95 (.mv 94) 82 false,
 kG 96 (.fa 0 2) 95 true,
 kG 97 (.ld false 1 96) 95 true,
 kG 98 (.mv 10) 95 true,
 kG 99 (.ixs 1 97 98) 95 true,
 kG 100 (.ld false 1 99) 95 true,
 kG 101 (.bin .neq 100 (ci 3)) 95 true,
 kG 102 (.pick 95 101 (.c (.bool false))) 82 false,
 kO 103 (.pick 82 (.c (.bool true)) 102)])
 (.cond 103
 (.seq (.region [
  kO 4 (.mv (.c (.bool false)))])
  .ret)
 .skip))
def y1c6 : CCode :=
  (.seq (.seq (.region [
 kO 70 (.ld true 9 3),
 kO 71 (.call none true 17 [70]),
 kO 72 (.un .not 71)])
 (.cond 72
 (.exit 2)
 .skip))
 y1dy)
def y1fl : CCode :=
  (.seq (.region [
 kO 67 (.mv 65),
 kO 68 (.ixs 1 63 65),
 kO 69 (.ld false 1 68),
 kO 9 (.mv 67),
 kO 10 (.mv 69)])
 y1c6)
def y19a : CCode :=
  (.block 3 y1fl)
def y12z : CCode :=
  (.seq y19a
 y1gf)
def ywd : CCode :=
  (.seq (.cond 66
 .skip
 (.exit 2))
 y12z)
def yql : CCode :=
  (.seq (.region [
 kO 66 (.bin .lss 65 64)])
 ywd)
def yiy : CCode :=
  (.loop [2, 3, 63, 64, 65] yql)
def yuf : CCode :=
  (.block 2 yiy)
def yqi : CCode :=
  (.seq (.region [
 kO 62 (.fa 8 3),
 kO 63 (.ld false 1 62),
 kO 64 (.len 1 63),
 kO 65 (.mv (ci 0))])
 yuf)
def yuz : CCode :=
  (.seq yqi
 y1a3)
def yt3 : CCode :=
  (.region [
 kO 61 (.bin .add 27 (ci 1)),
 kO 27 (.mv 61)])
def ywk : CCode :=
  (.seq (.draw [
 kO 35 (.mv 8),
 kO 36 (.bin .lss 35 (ci 0)),
 kO 37 (.mv 36),
 kG 38 (.mv 8) 37 false,
 kG 39 (.fa 0 2) 37 false,
 kG 40 (.ld false 1 39) 37 false,
 kG 41 (.len 1 40) 37 false,
 kG 42 (.bin .geq 38 41) 37 false,
 kO 43 (.pick 37 (.c (.bool true)) 42),
 kO 44 (.mv 43),
 kG 45 (.mv 7) 44 false,
 kG 46 (.ixa 4 1 5 45) 44 false,
 kG 47 (.ld false 1 46) 44 false,
 kG 48 (.bin .gtr 47 (ci 0)) 44 false,
 kG 49 (.mv 48) 44 false,
 kG 50 (.fa 0 2) 49 true,
 kG 51 (.ld false 1 50) 49 true,
 kG 52 (.mv 8) 49 true,
 kG 53 (.ixs 1 51 52) 49 true,
 kG 54 (.ld false 1 53) 49 true,
 kG 55 (.mv 7) 49 true,
 kG 56 (.ixa 4 1 5 55) 49 true,
 kG 57 (.ld false 1 56) 49 true,
 kG 58 (.bin .neq 54 57) 49 true,
 kG 59 (.pick 49 58 (.c (.bool false))) 44 false,
 kO 60 (.pick 44 (.c (.bool true)) 59)] [])
 (.cond 60
 (.seq (.region [
  kO 4 (.mv (.c (.bool false)))])
  .ret)
 .skip))
def yvu : CCode :=
  (.seq (.seq (.region [
 kO 31 (.mv 7),
 kO 32 (.ixa 4 1 5 31),
 kO 33 (.ld false 1 32),
 kO 34 (.bin .lss 33 (ci 0))])
 (.cond 34
 (.exit 1)
 .skip))
 ywk)
def yu8 : CCode :=
  (.seq (.region [
 kO 29 (.mv 27),
 kO 30 (.ixv false 4 1 26 27),
 kO 7 (.mv 29),
 kO 8 (.mv 30)])
 yvu)
def ypb : CCode :=
  (.block 1 yu8)
def yw8 : CCode :=
  (.seq ypb
 yt3)
def yqx : CCode :=
  (.seq (.cond 28
 .skip
 (.exit 0))
 yw8)
def ysb : CCode :=
  (.seq (.region [
 kO 28 (.bin .lss 27 (ci 4))])
 yqx)
def yed : CCode :=
  (.loop [2, 3, 5, 26, 27] ysb)
def yrb : CCode :=
  (.block 0 yed)
def yty : CCode :=
  (.seq (.region [
 kO 18 (.fa 1 3),
 kO 19 (.ld false 1 18),
 kO 20 (.fa 2 3),
 kO 21 (.ld false 1 20),
 kO 22 (.fa 3 3),
 kO 23 (.ld false 1 22),
 kO 24 (.fa 4 3),
 kO 25 (.ld false 1 24),
 kO 26 (.build [(.int .i64 0), (.int .i64 0), (.int .i64 0), (.int .i64 0)] [(0, 1, 19), (1, 1, 21), (2, 1, 23), (3, 1, 25)]),
 kO 27 (.mv (ci 0))])
 yrb)
def ytf : CCode :=
  (.seq yty
 yuz)
def ytm : CCode :=
  (.seq (.seq (.region [
 kO 16 (.mv 6),
 kO 17 (.un .not 16)])
 (.cond 17
 (.seq (.region [
  kO 4 (.mv (.c (.bool false)))])
  .ret)
 .skip))
 ytf)
def ypr : CCode :=
  (.seq (.region [
 kO 12 (.ld true 9 3),
 kO 13 (.call none true 47 [12]),
 kO 11 (.mv 13),
 kO 14 (.ext 0 11),
 kO 15 (.ext 1 11),
 kO 5 (.new (some 2) [(.int .i64 0), (.int .i64 0), (.int .i64 0), (.int .i64 0)]),
 kU (.st 4 5 14),
 kO 6 (.mv 15)])
 ytm)
def ypg : CCode :=
  (.seq (.region [
 kO 2 (.box (some 0) 0),
 kO 3 (.box (some 1) 1),
 kO 4 (.mv (.c (.bool false)))])
 ypr)
def y1xl : CFunc :=
  ⟨2, true, 3, ypg, [.t 4]⟩
def y0d : CCode :=
  (.seq (.region [
 kO 1 (.box (some 0) 0),
 kO 2 (.mv (.c (.bool false)))])
 (.seq (.region [
 kO 3 (.fa 0 1),
 kO 4 (.ld false 1 3),
 kO 5 (.bin .eql 4 (ci 27)),
 kO 6 (.mv 5),
 kG 7 (.fa 0 1) 6 false,
 kG 8 (.ld false 1 7) 6 false,
 kG 9 (.bin .eql 8 (ci 28)) 6 false,
 kO 10 (.pick 6 (.c (.bool true)) 9),
 kO 11 (.mv 10),
 kG 12 (.fa 0 1) 11 false,
 kG 13 (.ld false 1 12) 11 false,
 kG 14 (.bin .eql 13 (ci 29)) 11 false,
 kO 15 (.pick 11 (.c (.bool true)) 14),
 kO 2 (.mv 15)])
 .ret))
def y21b : CFunc :=
  ⟨1, true, 1, y0d, [.t 2]⟩
def y1g9 : CCode :=
  (.seq (.region [
 kO 52 (.mv 3),
 kO 2 (.mv 52)])
 .ret)
def y121 : CCode :=
  (.seq (.region [
 kO 39 (.mv 3),
 kO 40 (.mv 5),
 kO 41 (.ixs 1 39 40),
 kU (.st 1 41 (.c (.bool true)))])
 (.seq (.region [
 kO 42 (.mv 4),
 kO 43 (.ld true 5 1),
 kO 44 (.mv 5),
 kO 45 (.call none true 81 [43, 44]),
 kO 46 (.app (some 3) 1 8 42 45),
 kO 4 (.mv 46)])
 (.region [
 kO 47 (.mv 4),
 kO 48 (.ld true 5 1),
 kO 49 (.mv 5),
 kO 50 (.call none true 79 [48, 49]),
 kO 51 (.app (some 4) 1 8 47 50),
 kO 4 (.mv 51)])))
def y16x : CCode :=
  (.seq (.seq (.region [
 kO 25 (.mv 5),
 kO 26 (.bin .lss 25 (ci 0)),
 kO 27 (.mv 26),
 kG 28 (.mv 5) 27 false,
 kG 29 (.mv 3) 27 false,
 kG 30 (.len 1 29) 27 false,
 kG 31 (.bin .geq 28 30) 27 false,
 kO 32 (.pick 27 (.c (.bool true)) 31),
 kO 33 (.mv 32),
 kG 34 (.mv 3) 33 false,
 kG 35 (.mv 5) 33 false,
 kG 36 (.ixs 1 34 35) 33 false,
 kG 37 (.ld false 1 36) 33 false,
 kO 38 (.pick 33 (.c (.bool true)) 37)])
 (.cond 38
 (.exit 1)
 .skip))
 y121)
def yzo : CCode :=
  (.seq (.region [
 kO 20 (.mv 4),
 kO 21 (.mv 4),
 kO 22 (.len 1 21),
 kO 23 (.bin .sub 22 (ci 1)),
 kO 24 (.slc 1 20 none (some 23)),
 kO 4 (.mv 24)])
 y16x)
def y133 : CCode :=
  (.seq (.region [
 kO 14 (.mv 4),
 kO 15 (.mv 4),
 kO 16 (.len 1 15),
 kO 17 (.bin .sub 16 (ci 1)),
 kO 18 (.ixs 1 14 17),
 kO 19 (.ld false 1 18),
 kO 5 (.mv 19)])
 yzo)
def y12e : CCode :=
  (.block 1 y133)
def y19u : CCode :=
  (.seq (.seq (.region [
 kO 11 (.mv 4),
 kO 12 (.len 1 11),
 kO 13 (.bin .gtr 12 (ci 0))])
 (.cond 13
 .skip
 (.exit 0)))
 y12e)
def yjv : CCode :=
  (.loop [1, 3, 4] y19u)
def y11h : CCode :=
  (.block 0 yjv)
def ytl : CCode :=
  (.seq y11h
 y1g9)
def yri : CCode :=
  (.seq (.region [
 kO 10 (.buildS (some 2) 1 1 [(.int .i64 0)] [(0, (ci 0))]),
 kO 4 (.mv 10)])
 ytl)
def yso : CCode :=
  (.seq (.region [
 kO 6 (.fa 3 1),
 kO 7 (.ld false 1 6),
 kO 8 (.len 1 7),
 kO 9 (.mkS (some 1) 1 1 [(.bool false)] 8 8),
 kO 3 (.mv 9)])
 yri)
def ywg : CCode :=
  (.seq (.region [
 kO 1 (.box (some 0) 0),
 kO 2 (.mv (.c .nils))])
 yso)
def y1ww : CFunc :=
  ⟨1, true, 5, ywg, [.t 2]⟩
def y12b : CCode :=
  (.seq (.region [
 kO 57 (.mv 5),
 kO 4 (.mv 57)])
 .ret)
def y17z : CCode :=
  (.region [
 kO 56 (.bin .add 29 (ci 1)),
 kO 29 (.mv 56)])
def y0p : CCode :=
  (.seq (.region [
 kO 53 (.fa 3 7),
 kO 54 (.ld false 1 53),
 kO 55 (.bin .eql 54 (.c (.str [])))])
 (.cond 55
 (.exit 0)
 .skip))
def y15j : CCode :=
  (.seq (.seq (.region [
 kO 43 (.mv 5),
 kO 44 (.fa 2 7),
 kO 45 (.ld false 1 44),
 kO 46 (.call none true 46 [43, 45]),
 kO 47 (.un .not 46)])
 (.cond 47
 (.region [
  kO 48 (.mv 5),
  kO 49 (.fa 2 7),
  kO 50 (.ld false 1 49),
  kO 51 (.buildS (some 2) 1 1 [(.int .i64 0)] [(0, 50)]),
  kO 52 (.app (some 3) 1 8 48 51),
  kO 5 (.mv 52)])
 .skip))
 y0p)
def y18n : CCode :=
  (.seq (.seq (.region [
 kO 33 (.mv 1),
 kO 34 (.fa 0 7),
 kO 35 (.ld false 1 34),
 kO 36 (.bin .lss 33 35),
 kO 37 (.mv 36),
 kG 38 (.mv 1) 37 false,
 kG 39 (.fa 1 7) 37 false,
 kG 40 (.ld false 1 39) 37 false,
 kG 41 (.bin .geq 38 40) 37 false,
 kO 42 (.pick 37 (.c (.bool true)) 41)])
 (.cond 42
 (.exit 1)
 .skip))
 y15j)
def y1c9 : CCode :=
  (.seq (.region [
 kO 31 (.ixs 4 27 29),
 kO 32 (.ld true 4 31),
 kO 7 (.new (some 1) [(.int .i64 0), (.int .i64 0), (.int .i64 0), (.str [])]),
 kU (.st 4 7 32)])
 y18n)
def y114 : CCode :=
  (.block 1 y1c9)
def y181 : CCode :=
  (.seq y114
 y17z)
def ys3 : CCode :=
  (.seq (.cond 30
 .skip
 (.exit 0))
 y181)
def yrz : CCode :=
  (.seq (.region [
 kO 30 (.bin .lss 29 28)])
 ys3)
def yjw : CCode :=
  (.loop [1, 5, 27, 28, 29] yrz)
def yq7 : CCode :=
  (.block 0 yjw)
def yuh : CCode :=
  (.seq (.region [
 kO 26 (.fa 4 2),
 kO 27 (.ld false 1 26),
 kO 28 (.len 1 27),
 kO 29 (.mv (ci 0))])
 yq7)
def yuy : CCode :=
  (.seq yuh
 y12b)
def yu0 : CCode :=
  (.seq (.region [
 kO 5 (.mv (.c .nils))])
 yuy)
def ywz : CCode :=
  (.seq (.seq (.region [
 kO 8 (.mv 1),
 kO 9 (.bin .lss 8 (ci 0)),
 kO 10 (.mv 9),
 kG 11 (.mv 1) 10 false,
 kG 12 (.fa 3 2) 10 false,
 kG 13 (.ld false 1 12) 10 false,
 kG 14 (.len 1 13) 10 false,
 kG 15 (.bin .geq 11 14) 10 false,
 kO 16 (.pick 10 (.c (.bool true)) 15),
 kO 17 (.mv 16),
 kG 18 (.fa 3 2) 17 false,
 kG 19 (.ld false 1 18) 17 false,
 kG 20 (.mv 1) 17 false,
 kG 21 (.ixs 9 19 20) 17 false,
 kG 22 (.ld true 9 21) 17 false,
 kG 23 (.call none true 18 [22]) 17 false,
 kG 24 (.un .not 23) 17 false,
 kO 25 (.pick 17 (.c (.bool true)) 24)])
 (.cond 25
 (.seq (.region [
  kO 4 (.mv (.c .nils))])
  .ret)
 .skip))
 yu0)
def yp3 : CCode :=
  (.seq (.region [
 kO 2 (.box (some 0) 0),
 kO 4 (.mv (.c .nils))])
 ywz)
def y20u : CFunc :=
  ⟨2, true, 4, yp3, [.t 4]⟩
def y11x : CCode :=
  (.seq (.region [
 kO 43 (.mv 6),
 kO 4 (.mv 43)])
 .ret)
def y1d7 : CCode :=
  (.seq (.seq (.region [
 kO 29 (.ld true 9 5),
 kO 30 (.call none true 22 [29]),
 kO 31 (.mv 30),
 kG 32 (.mv 6) 31 true,
 kG 33 (.fa 6 5) 31 true,
 kG 34 (.ld false 1 33) 31 true,
 kG 35 (.call none true 46 [32, 34]) 31 true,
 kG 36 (.un .not 35) 31 true,
 kO 37 (.pick 31 36 (.c (.bool false)))])
 (.cond 37
 (.region [
  kO 38 (.mv 6),
  kO 39 (.fa 6 5),
  kO 40 (.ld false 1 39),
  kO 41 (.buildS (some 4) 1 1 [(.int .i64 0)] [(0, 40)]),
  kO 42 (.app (some 5) 1 8 38 41),
  kO 6 (.mv 42)])
 .skip))
 y11x)
def y144 : CCode :=
  (.seq (.seq (.region [
 kO 21 (.ld true 9 5),
 kO 22 (.call none true 24 [21]),
 kO 23 (.un .not 22)])
 (.cond 23
 (.region [
  kO 24 (.mv 6),
  kO 25 (.mv 1),
  kO 26 (.bin .add 25 (ci 1)),
  kO 27 (.buildS (some 2) 1 1 [(.int .i64 0)] [(0, 26)]),
  kO 28 (.app (some 3) 1 8 24 27),
  kO 6 (.mv 28)])
 .skip))
 y1d7)
def y1da : CCode :=
  (.seq (.region [
 kO 6 (.mv (.c .nils))])
 y144)
def y15l : CCode :=
  (.seq (.region [
 kO 16 (.fa 3 2),
 kO 17 (.ld false 1 16),
 kO 18 (.mv 1),
 kO 19 (.ixs 9 17 18),
 kO 20 (.ld true 9 19),
 kO 5 (.new (some 1) [(.int .i64 0), (.int .i64 0), (.int .i64 0), (.int .i64 0), (.int .i64 0), (.int .i64 0), (.int .i64 0), (.str []), .nils]),
 kU (.st 9 5 20)])
 y1da)
def y03 : CCode :=
  (.seq (.seq (.region [
 kO 7 (.mv 1),
 kO 8 (.bin .lss 7 (ci 0)),
 kO 9 (.mv 8),
 kG 10 (.mv 1) 9 false,
 kG 11 (.fa 3 2) 9 false,
 kG 12 (.ld false 1 11) 9 false,
 kG 13 (.len 1 12) 9 false,
 kG 14 (.bin .geq 10 13) 9 false,
 kO 15 (.pick 9 (.c (.bool true)) 14)])
 (.cond 15
 (.seq (.region [
  kO 4 (.mv (.c .nils))])
  .ret)
 .skip))
 y15l)
def y137 : CCode :=
  (.seq (.region [
 kO 2 (.box (some 0) 0),
 kO 4 (.mv (.c .nils))])
 y03)
def y1wy : CFunc :=
  ⟨2, true, 6, y137, [.t 4]⟩
def yzd : CCode :=
  (.seq (.region [
 kO 109 (.mv 10),
 kO 2 (.mv 109)])
 .ret)
def y13g : CCode :=
  (.region [
 kO 108 (.bin .add 97 (ci 1)),
 kO 97 (.mv 108)])
def y139 : CCode :=
  (.seq (.block 7 (.seq (.region [
 kO 99 (.mv 97),
 kO 11 (.mv 99)])
 (.seq (.region [
 kO 100 (.mv 3),
 kO 101 (.mv 11),
 kO 102 (.ixs 1 100 101),
 kO 103 (.ld false 1 102)])
 (.cond 103
 (.region [
  kO 104 (.mv 10),
  kO 105 (.mv 11),
  kO 106 (.buildS (some 5) 1 1 [(.int .i64 0)] [(0, 105)]),
  kO 107 (.app (some 6) 1 8 104 106),
  kO 10 (.mv 107)])
 .skip))))
 y13g)
def y112 : CCode :=
  (.seq (.cond 98
 .skip
 (.exit 6))
 y139)
def y11j : CCode :=
  (.seq (.region [
 kO 98 (.bin .lss 97 96)])
 y112)
def yjo : CCode :=
  (.loop [3, 10, 96, 97] y11j)
def y1by : CCode :=
  (.block 6 yjo)
def y1f5 : CCode :=
  (.seq (.region [
 kO 94 (.fa 3 1),
 kO 95 (.ld false 1 94),
 kO 96 (.len 1 95),
 kO 97 (.mv (ci 0))])
 y1by)
def y1b0 : CCode :=
  (.seq y1f5
 yzd)
def yr4 : CCode :=
  (.seq (.region [
 kO 10 (.mv (.c .nils))])
 y1b0)
def yt7 : CCode :=
  (.region [
 kO 93 (.bin .add 64 (ci 1)),
 kO 64 (.mv 93)])
def yqt : CCode :=
  (.region [
 kO 92 (.bin .add 76 (ci 1)),
 kO 76 (.mv 92)])
def ypm : CCode :=
  (.seq (.block 5 (.seq (.region [
 kO 78 (.ixs 1 74 76),
 kO 79 (.ld false 1 78),
 kO 9 (.mv 79)])
 (.seq (.region [
 kO 80 (.mv 9),
 kO 81 (.bin .geq 80 (ci 0)),
 kO 82 (.mv 81),
 kG 83 (.mv 9) 82 true,
 kG 84 (.fa 3 1) 82 true,
 kG 85 (.ld false 1 84) 82 true,
 kG 86 (.len 1 85) 82 true,
 kG 87 (.bin .lss 83 86) 82 true,
 kO 88 (.pick 82 87 (.c (.bool false)))])
 (.cond 88
 (.region [
  kO 89 (.mv 3),
  kO 90 (.mv 9),
  kO 91 (.ixs 1 89 90),
  kU (.st 1 91 (.c (.bool true)))])
 .skip))))
 yqt)
def ysu : CCode :=
  (.seq (.cond 77
 .skip
 (.exit 4))
 ypm)
def yu3 : CCode :=
  (.seq (.region [
 kO 77 (.bin .lss 76 75)])
 ysu)
def ye9 : CCode :=
  (.loop [1, 3, 62, 63, 64, 74, 75, 76] yu3)
def yvo : CCode :=
  (.block 4 ye9)
def yx2 : CCode :=
  (.seq (.region [
 kO 68 (.fa 0 7),
 kO 69 (.ld false 1 68),
 kO 70 (.fa 1 7),
 kO 71 (.ld false 1 70),
 kO 72 (.fa 2 7),
 kO 73 (.ld false 1 72),
 kO 74 (.buildS (some 4) 1 3 [(.int .i64 0)] [(0, 69), (1, 71), (2, 73)]),
 kO 75 (.len 1 74),
 kO 76 (.mv (ci 0))])
 yvo)
def ytr : CCode :=
  (.seq (.region [
 kO 66 (.ixs 4 62 64),
 kO 67 (.ld true 4 66),
 kO 7 (.new (some 3) [(.int .i64 0), (.int .i64 0), (.int .i64 0), (.str [])]),
 kU (.st 4 7 67)])
 yx2)
def yup : CCode :=
  (.block 3 ytr)
def yvy : CCode :=
  (.seq yup
 yt7)
def yv6 : CCode :=
  (.seq (.cond 65
 .skip
 (.exit 2))
 yvy)
def yqf : CCode :=
  (.seq (.region [
 kO 65 (.bin .lss 64 63)])
 yv6)
def yes : CCode :=
  (.loop [1, 3, 62, 63, 64] yqf)
def yt0 : CCode :=
  (.block 2 yes)
def yqq : CCode :=
  (.seq (.region [
 kO 61 (.fa 4 1),
 kO 62 (.ld false 1 61),
 kO 63 (.len 1 62),
 kO 64 (.mv (ci 0))])
 yt0)
def yr3 : CCode :=
  (.seq yqq
 yr4)
def ys9 : CCode :=
  (.region [
 kO 60 (.bin .add 26 (ci 1)),
 kO 26 (.mv 60)])
def ysw : CCode :=
  (.seq (.region [
 kO 50 (.ld true 9 5),
 kO 51 (.call none true 22 [50]),
 kO 52 (.mv 51),
 kG 53 (.ld true 9 5) 52 false,
 kG 54 (.call none true 24 [53]) 52 false,
 kO 55 (.pick 52 (.c (.bool true)) 54)])
 (.cond 55
 (.region [
  kO 56 (.mv 3),
  kO 57 (.mv 4),
  kO 58 (.bin .add 57 (ci 1)),
  kO 59 (.ixs 1 56 58),
  kU (.st 1 59 (.c (.bool true)))])
 .skip))
def yrd : CCode :=
  (.seq (.seq (.region [
 kO 31 (.ld true 9 5),
 kO 32 (.call none true 22 [31]),
 kO 33 (.mv 32),
 kG 34 (.fa 6 5) 33 true,
 kG 35 (.ld false 1 34) 33 true,
 kG 36 (.bin .geq 35 (ci 0)) 33 true,
 kO 37 (.pick 33 36 (.c (.bool false))),
 kO 38 (.mv 37),
 kG 39 (.fa 6 5) 38 true,
 kG 40 (.ld false 1 39) 38 true,
 kG 41 (.fa 3 1) 38 true,
 kG 42 (.ld false 1 41) 38 true,
 kG 43 (.len 1 42) 38 true,
 kG 44 (.bin .lss 40 43) 38 true,
 kO 45 (.pick 38 44 (.c (.bool false)))])
 (.cond 45
 (.region [
  kO 46 (.mv 3),
  kO 47 (.fa 6 5),
  kO 48 (.ld false 1 47),
  kO 49 (.ixs 1 46 48),
  kU (.st 1 49 (.c (.bool true)))])
 .skip))
 ysw)
def yv8 : CCode :=
  (.seq (.region [
 kO 28 (.mv 26),
 kO 29 (.ixs 9 24 26),
 kO 30 (.ld true 9 29),
 kO 5 (.new (some 2) [(.int .i64 0), (.int .i64 0), (.int .i64 0), (.int .i64 0), (.int .i64 0), (.int .i64 0), (.int .i64 0), (.str []), .nils]),
 kO 4 (.mv 28),
 kU (.st 9 5 30)])
 yrd)
def ytc : CCode :=
  (.block 1 yv8)
def ypw : CCode :=
  (.seq ytc
 ys9)
def yvt : CCode :=
  (.seq (.cond 27
 .skip
 (.exit 0))
 ypw)
def ysi : CCode :=
  (.seq (.region [
 kO 27 (.bin .lss 26 25)])
 yvt)
def yfk : CCode :=
  (.loop [1, 3, 24, 25, 26] ysi)
def yst : CCode :=
  (.block 0 yfk)
def yr1 : CCode :=
  (.seq (.region [
 kO 23 (.fa 3 1),
 kO 24 (.ld false 1 23),
 kO 25 (.len 1 24),
 kO 26 (.mv (ci 0))])
 yst)
def yrh : CCode :=
  (.seq yr1
 yr3)
def yqd : CCode :=
  (.seq (.seq (.region [
 kO 17 (.fa 3 1),
 kO 18 (.ld false 1 17),
 kO 19 (.len 1 18),
 kO 20 (.bin .gtr 19 (ci 0))])
 (.cond 20
 (.region [
  kO 21 (.mv 3),
  kO 22 (.ixs 1 21 (ci 0)),
  kU (.st 1 22 (.c (.bool true)))])
 .skip))
 yrh)
def ypu : CCode :=
  (.seq (.region [
 kO 12 (.fa 3 1),
 kO 13 (.ld false 1 12),
 kO 14 (.len 1 13),
 kO 15 (.bin .add 14 (ci 1)),
 kO 16 (.mkS (some 1) 1 1 [(.bool false)] 15 15),
 kO 3 (.mv 16)])
 yqd)
def yrx : CCode :=
  (.seq (.region [
 kO 1 (.box (some 0) 0),
 kO 2 (.mv (.c .nils))])
 ypu)
def y21j : CFunc :=
  ⟨1, true, 7, yrx, [.t 2]⟩
def y0c : CCode :=
  (.seq (.region [
 kO 80 (.ld true 9 2),
 kU (.st 9 4 80)])
 .ret)
def y0r : CCode :=
  (.seq (.region [
 kO 79 (.build [(.int .i64 0), (.int .i64 0), (.int .i64 0), (.int .i64 0), (.int .i64 0), (.int .i64 0), (.int .i64 0), (.str []), .nils] [(0, 1, (ci 33))]),
 kU (.st 9 4 79)])
 .ret)
def y18e : CCode :=
  (.seq (.seq (.region [
 kO 71 (.fa 5 2),
 kO 72 (.ld false 1 71),
 kO 73 (.mv 5),
 kO 74 (.mv 9),
 kO 75 (.call none true 129 [72, 73, 74])])
 (.cond 75
 (.seq (.region [
  kO 76 (.fa 6 2),
  kO 77 (.ld false 1 76),
  kO 78 (.build [(.int .i64 0), (.int .i64 0), (.int .i64 0), (.int .i64 0), (.int .i64 0), (.int .i64 0), (.int .i64 0), (.str []), .nils] [(0, 1, (ci 27)), (6, 1, 77)]),
  kU (.st 9 4 78)])
  .ret)
 .skip))
 y0r)
def y14w : CCode :=
  (.cond 70
 y18e
 .skip)
def y11p : CCode :=
  (.seq (.region [
 kO 67 (.mv 6),
 kO 68 (.mv 67),
 kG 69 (.mv 10) 68 true,
 kO 70 (.pick 68 69 (.c (.bool false)))])
 y14w)
def y16w : CCode :=
  (.seq (.region [
 kO 61 (.mv 1),
 kO 62 (.fa 3 2),
 kO 63 (.ld false 1 62),
 kO 64 (.mget false [0] (.int .i64 0) true 61 63),
 kO 60 (.mv 64),
 kO 65 (.ext 0 60),
 kO 66 (.ext 1 60),
 kO 9 (.mv 65),
 kO 10 (.mv 66)])
 y11p)
def y1er : CCode :=
  (.cond 58
 y16w
 .skip)
def y11v : CCode :=
  (.seq (.region [
 kO 59 (.bin .eql 19 (ci 28)),
 kO 58 (.mv 59)])
 y1er)
def y1b6 : CCode :=
  (.cond 51
 (.seq (.region [
  kO 53 (.mv 6)])
  (.cond 53
  (.seq (.region [
   kO 54 (.fa 1 2),
   kO 55 (.ld false 1 54),
   kO 56 (.mv 5),
   kO 57 (.build [(.int .i64 0), (.int .i64 0), (.int .i64 0), (.int .i64 0), (.int .i64 0), (.int .i64 0), (.int .i64 0), (.str []), .nils] [(0, 1, (ci 1)), (1, 1, 55), (5, 1, 56)]),
   kU (.st 9 4 57)])
   .ret)
  .skip))
 y11v)
def yp1 : CCode :=
  (.seq (.region [
 kO 52 (.bin .eql 19 (ci 4)),
 kO 51 (.mv 52)])
 y1b6)
def ysf : CCode :=
  (.cond 30
 (.seq (.region [
  kO 33 (.mv 1),
  kO 34 (.fa 3 2),
  kO 35 (.ld false 1 34),
  kO 36 (.mget false [0] (.int .i64 0) true 33 35),
  kO 32 (.mv 36),
  kO 37 (.ext 0 32),
  kO 38 (.ext 1 32),
  kO 7 (.mv 37),
  kO 8 (.mv 38)])
  (.seq (.region [
  kO 39 (.mv 6),
  kO 40 (.mv 39),
  kG 41 (.mv 8) 40 true,
  kO 42 (.pick 40 41 (.c (.bool false)))])
  (.cond 42
  (.seq (.draw [
   kO 43 (.fa 1 2),
   kO 44 (.ld false 1 43),
   kO 45 (.fa 5 2),
   kO 46 (.ld false 1 45),
   kO 47 (.mv 5),
   kO 48 (.mv 7),
   kO 49 (.call none true 128 [46, 47, 48]),
   kO 50 (.build [(.int .i64 0), (.int .i64 0), (.int .i64 0), (.int .i64 0), (.int .i64 0), (.int .i64 0), (.int .i64 0), (.str []), .nils] [(0, 1, (ci 1)), (1, 1, 44), (5, 1, 49)]),
   kU (.st 9 4 50)] [(1, 6)])
   .ret)
  .skip)))
 yp1)
def yru : CCode :=
  (.seq (.region [
 kO 31 (.bin .eql 19 (ci 5)),
 kO 30 (.mv 31)])
 ysf)
def yw4 : CCode :=
  (.cond 20
 (.seq (.region [
  kO 22 (.mv 6)])
  (.cond 22
  (.seq (.draw [
   kO 23 (.fa 1 2),
   kO 24 (.ld false 1 23),
   kO 25 (.fa 5 2),
   kO 26 (.ld false 1 25),
   kO 27 (.mv 5),
   kO 28 (.call none true 127 [26, 27]),
   kO 29 (.build [(.int .i64 0), (.int .i64 0), (.int .i64 0), (.int .i64 0), (.int .i64 0), (.int .i64 0), (.int .i64 0), (.str []), .nils] [(0, 1, (ci 1)), (1, 1, 24), (5, 1, 28)]),
   kU (.st 9 4 29)] [(1, 5)])
   .ret)
  .skip))
 yru)
def yvi : CCode :=
  (.seq (.region [
 kO 21 (.bin .eql 19 (ci 6)),
 kO 20 (.mv 21)])
 yw4)
def yv0 : CCode :=
  (.block 0 yvi)
def yrs : CCode :=
  (.seq (.region [
 kO 18 (.fa 0 2),
 kO 19 (.ld false 1 18)])
 yv0)
def yua : CCode :=
  (.seq yrs
 y0c)
def ytx : CCode :=
  (.seq (.region [
 kO 12 (.mv 1),
 kO 13 (.fa 2 2),
 kO 14 (.ld false 1 13),
 kO 15 (.mget false [0] (.int .i64 0) true 12 14),
 kO 11 (.mv 15),
 kO 16 (.ext 0 11),
 kO 17 (.ext 1 11),
 kO 5 (.mv 16),
 kO 6 (.mv 17)])
 yua)
def yqv : CCode :=
  (.seq (.region [
 kO 2 (.box (some 0) 0),
 kO 4 (.new (some 1) [(.int .i64 0), (.int .i64 0), (.int .i64 0), (.int .i64 0), (.int .i64 0), (.int .i64 0), (.int .i64 0), (.str []), .nils])])
 ytx)
def y1zh : CFunc :=
  ⟨2, false, 2, yqv, [.cell 4 true 9]⟩
def y156 : CCode :=
  (.seq (.region [
 kO 1 (.box (some 0) 0),
 kO 2 (.mv (.c (.bool false)))])
 (.seq (.region [
 kO 3 (.fa 0 1),
 kO 4 (.ld false 1 3),
 kO 5 (.bin .geq 4 (ci 23)),
 kO 6 (.mv 5),
 kG 7 (.fa 0 1) 6 true,
 kG 8 (.ld false 1 7) 6 true,
 kG 9 (.bin .leq 8 (ci 26)) 6 true,
 kO 10 (.pick 6 9 (.c (.bool false))),
 kO 2 (.mv 10)])
 .ret))
def y20z : CFunc :=
  ⟨1, true, 1, y156, [.t 2]⟩
def yp5 : CCode :=
  (.seq (.region [
 kO 4 (.mv (ci (-1)))])
 .ret)
def ys8 : CCode :=
  (.region [
 kO 18 (.bin .add 8 (ci 1)),
 kO 8 (.mv 18)])
def yqz : CCode :=
  (.seq (.block 1 (.seq (.region [
 kO 10 (.mv 8),
 kO 5 (.mv 10)])
 (.seq (.region [
 kO 11 (.mv 1),
 kO 12 (.mv 0),
 kO 13 (.mv 5),
 kO 14 (.ixs 1 12 13),
 kO 15 (.ld false 1 14),
 kO 16 (.bin .eql 11 15)])
 (.cond 16
 (.seq (.region [
  kO 17 (.mv 5),
  kO 4 (.mv 17)])
  .ret)
 .skip))))
 ys8)
def yoq : CCode :=
  (.seq (.cond 9
 .skip
 (.exit 0))
 yqz)
def yrq : CCode :=
  (.seq (.region [
 kO 9 (.bin .lss 8 7)])
 yoq)
def yet : CCode :=
  (.loop [0, 1, 7, 8] yrq)
def yp6 : CCode :=
  (.block 0 yet)
def yts : CCode :=
  (.seq (.region [
 kO 6 (.mv 0),
 kO 7 (.len 1 6),
 kO 8 (.mv (ci 0))])
 yp6)
def ytk : CCode :=
  (.seq yts
 yp5)
def yl2 : CCode :=
  (.seq (.region [
 kO 4 (.mv (ci 0))])
 ytk)
def y1p7 : CFunc :=
  ⟨2, true, 0, yl2, [.t 4]⟩
def y1d1 : CCode :=
  (.seq (.region [
 kO 138 (.ld true 9 1),
 kO 139 (.call none true 51 [138]),
 kO 140 (.ext 0 139),
 kO 141 (.ext 1 139),
 kU (.st 4 2 140),
 kO 3 (.mv 141)])
 .ret)
def y197 : CCode :=
  (.cond 134
 (.seq (.region [
  kO 137 (.build [(.int .i64 0), (.int .i64 0), (.int .i64 0), (.int .i64 0)] [(0, 1, (ci (-1))), (1, 1, (ci (-1))), (2, 1, (ci (-1))), (3, 1, (ci (-1)))]),
  kU (.st 4 2 137),
  kO 3 (.mv (.c (.bool true)))])
  .ret)
 .skip)
def yzc : CCode :=
  (.seq (.seq (.region [
 kO 135 (.bin .eql 11 (ci 27)),
 kO 134 (.mv 135)])
 (.cond 134
 .skip
 (.region [
  kO 136 (.bin .eql 11 (ci 33)),
  kO 134 (.mv 136)])))
 y197)
def y1fi : CCode :=
  (.cond 123
 (.seq (.draw [
  kO 125 (.build [(.int .i64 0), (.int .i64 0), (.int .i64 0), (.int .i64 0)] [(0, 1, (ci (-1))), (1, 1, (ci 1)), (2, 1, (ci 1)), (3, 1, (ci (-1)))]),
  kO 126 (.fa 5 1),
  kO 127 (.ld false 1 126),
  kO 128 (.bin .geq 127 (ci 0)),
  kO 129 (.mv 128),
  kG 130 (.fa 5 1) 129 true,
  kG 131 (.ld false 1 130) 129 true,
  kG 132 (.bin .leq 131 (ci 5)) 129 true,
  kO 133 (.pick 129 132 (.c (.bool false))),
  kU (.st 4 2 125),
  kO 3 (.mv 133)] [(6, 9)])
  .ret)
 yzc)
def y18j : CCode :=
  (.seq (.region [
 kO 124 (.bin .eql 11 (ci 28)),
 kO 123 (.mv 124)])
 y1fi)
def y185 : CCode :=
  (.cond 117
 (.seq (.region [
  kO 119 (.build [(.int .i64 0), (.int .i64 0), (.int .i64 0), (.int .i64 0)] [(0, 1, (ci 3)), (1, 1, (ci 1)), (2, 1, (ci (-1))), (3, 1, (ci (-1)))]),
  kO 120 (.fa 7 1),
  kO 121 (.ld false 1 120),
  kO 122 (.call none true 37 [121]),
  kU (.st 4 2 119),
  kO 3 (.mv 122)])
  .ret)
 y18j)
def y1dl : CCode :=
  (.seq (.region [
 kO 118 (.bin .eql 11 (ci 21)),
 kO 117 (.mv 118)])
 y185)
def y1fb : CCode :=
  (.cond 114
 (.seq (.region [
  kO 116 (.build [(.int .i64 0), (.int .i64 0), (.int .i64 0), (.int .i64 0)] [(0, 1, (ci (-1))), (1, 1, (ci 0)), (2, 1, (ci (-1))), (3, 1, (ci (-1)))]),
  kU (.st 4 2 116),
  kO 3 (.mv (.c (.bool true)))])
  .ret)
 y1dl)
def y12s : CCode :=
  (.seq (.region [
 kO 115 (.bin .eql 11 (ci 19)),
 kO 114 (.mv 115)])
 y1fb)
def yq4 : CCode :=
  (.cond 108
 (.seq (.draw [
  kO 110 (.build [(.int .i64 0), (.int .i64 0), (.int .i64 0), (.int .i64 0)] [(0, 1, (ci (-1))), (1, 1, (ci 3)), (2, 1, (ci 0)), (3, 1, (ci (-1)))]),
  kO 111 (.fa 5 1),
  kO 112 (.ld false 1 111),
  kO 113 (.bin .geq 112 (ci 0)),
  kU (.st 4 2 110),
  kO 3 (.mv 113)] [(2, 4)])
  .ret)
 y12s)
def yt8 : CCode :=
  (.seq (.region [
 kO 109 (.bin .eql 11 (ci 17)),
 kO 108 (.mv 109)])
 yq4)
def ytn : CCode :=
  (.cond 102
 (.seq (.draw [
  kO 104 (.build [(.int .i64 0), (.int .i64 0), (.int .i64 0), (.int .i64 0)] [(0, 1, (ci 0)), (1, 1, (ci 3)), (2, 1, (ci (-1))), (3, 1, (ci (-1)))]),
  kO 105 (.fa 5 1),
  kO 106 (.ld false 1 105),
  kO 107 (.bin .geq 106 (ci 0)),
  kU (.st 4 2 104),
  kO 3 (.mv 107)] [(2, 4)])
  .ret)
 yt8)
def ywn : CCode :=
  (.seq (.region [
 kO 103 (.bin .eql 11 (ci 16)),
 kO 102 (.mv 103)])
 ytn)
def ys6 : CCode :=
  (.cond 99
 (.seq (.region [
  kO 101 (.build [(.int .i64 0), (.int .i64 0), (.int .i64 0), (.int .i64 0)] [(0, 1, (ci 1)), (1, 1, (ci 3)), (2, 1, (ci (-1))), (3, 1, (ci (-1)))]),
  kU (.st 4 2 101),
  kO 3 (.mv (.c (.bool true)))])
  .ret)
 ywn)
def ysc : CCode :=
  (.seq (.region [
 kO 100 (.bin .eql 11 (ci 15)),
 kO 99 (.mv 100)])
 ys6)
def yow : CCode :=
  (.cond 96
 (.seq (.region [
  kO 98 (.build [(.int .i64 0), (.int .i64 0), (.int .i64 0), (.int .i64 0)] [(0, 1, (ci (-1))), (1, 1, (ci 3)), (2, 1, (ci 1)), (3, 1, (ci 0))]),
  kU (.st 4 2 98),
  kO 3 (.mv (.c (.bool true)))])
  .ret)
 ysc)
def ytb : CCode :=
  (.seq (.region [
 kO 97 (.bin .eql 11 (ci 14)),
 kO 96 (.mv 97)])
 yow)
def yug : CCode :=
  (.cond 93
 (.seq (.region [
  kO 95 (.build [(.int .i64 0), (.int .i64 0), (.int .i64 0), (.int .i64 0)] [(0, 1, (ci 0)), (1, 1, (ci 3)), (2, 1, (ci 1)), (3, 1, (ci (-1)))]),
  kU (.st 4 2 95),
  kO 3 (.mv (.c (.bool true)))])
  .ret)
 ytb)
def yrg : CCode :=
  (.seq (.region [
 kO 94 (.bin .eql 11 (ci 13)),
 kO 93 (.mv 94)])
 yug)
def yqb : CCode :=
  (.cond 90
 (.seq (.region [
  kO 92 (.build [(.int .i64 0), (.int .i64 0), (.int .i64 0), (.int .i64 0)] [(0, 1, (ci (-1))), (1, 1, (ci 3)), (2, 1, (ci 3)), (3, 1, (ci (-1)))]),
  kU (.st 4 2 92),
  kO 3 (.mv (.c (.bool true)))])
  .ret)
 yrg)
def yu1 : CCode :=
  (.seq (.region [
 kO 91 (.bin .eql 11 (ci 11)),
 kO 90 (.mv 91)])
 yqb)
def yw0 : CCode :=
  (.cond 87
 (.seq (.region [
  kO 89 (.build [(.int .i64 0), (.int .i64 0), (.int .i64 0), (.int .i64 0)] [(0, 1, (ci (-1))), (1, 1, (ci 1)), (2, 1, (ci (-1))), (3, 1, (ci (-1)))]),
  kU (.st 4 2 89),
  kO 3 (.mv (.c (.bool true)))])
  .ret)
 yu1)
def ys4 : CCode :=
  (.seq (.region [
 kO 88 (.bin .eql 11 (ci 10)),
 kO 87 (.mv 88)])
 yw0)
def yqm : CCode :=
  (.cond 84
 (.seq (.region [
  kO 86 (.build [(.int .i64 0), (.int .i64 0), (.int .i64 0), (.int .i64 0)] [(0, 1, (ci (-1))), (1, 1, (ci 3)), (2, 1, (ci 1)), (3, 1, (ci (-1)))]),
  kU (.st 4 2 86),
  kO 3 (.mv (.c (.bool true)))])
  .ret)
 ys4)
def ywe : CCode :=
  (.seq (.region [
 kO 85 (.bin .eql 11 (ci 9)),
 kO 84 (.mv 85)])
 yqm)
def ytj : CCode :=
  (.cond 78
 (.seq (.region [
  kO 80 (.build [(.int .i64 0), (.int .i64 0), (.int .i64 0), (.int .i64 0)] [(0, 1, (ci 1)), (1, 1, (ci 3)), (2, 1, (ci (-1))), (3, 1, (ci (-1)))]),
  kO 81 (.fa 7 1),
  kO 82 (.ld false 1 81),
  kO 83 (.call none true 37 [82]),
  kU (.st 4 2 80),
  kO 3 (.mv 83)])
  .ret)
 ywe)
def yoo : CCode :=
  (.seq (.region [
 kO 79 (.bin .eql 11 (ci 22)),
 kO 78 (.mv 79)])
 ytj)
def ysd : CCode :=
  (.cond 72
 (.seq (.region [
  kO 74 (.build [(.int .i64 0), (.int .i64 0), (.int .i64 0), (.int .i64 0)] [(0, 1, (ci (-1))), (1, 1, (ci 3)), (2, 1, (ci (-1))), (3, 1, (ci (-1)))]),
  kO 75 (.fa 7 1),
  kO 76 (.ld false 1 75),
  kO 77 (.call none true 37 [76]),
  kU (.st 4 2 74),
  kO 3 (.mv 77)])
  .ret)
 yoo)
def yte : CCode :=
  (.seq (.region [
 kO 73 (.bin .eql 11 (ci 12)),
 kO 72 (.mv 73)])
 ysd)
def yul : CCode :=
  (.cond 68
 (.seq (.region [
  kO 71 (.build [(.int .i64 0), (.int .i64 0), (.int .i64 0), (.int .i64 0)] [(0, 1, (ci (-1))), (1, 1, (ci 3)), (2, 1, (ci (-1))), (3, 1, (ci (-1)))]),
  kU (.st 4 2 71),
  kO 3 (.mv (.c (.bool true)))])
  .ret)
 yte)
def yur : CCode :=
  (.seq (.seq (.region [
 kO 69 (.bin .eql 11 (ci 8)),
 kO 68 (.mv 69)])
 (.cond 68
 .skip
 (.region [
  kO 70 (.bin .eql 11 (ci 31)),
  kO 68 (.mv 70)])))
 yul)
def yos : CCode :=
  (.cond 65
 (.seq (.region [
  kO 67 (.build [(.int .i64 0), (.int .i64 0), (.int .i64 0), (.int .i64 0)] [(0, 1, (ci (-1))), (1, 1, (ci 0)), (2, 1, (ci (-1))), (3, 1, (ci (-1)))]),
  kU (.st 4 2 67),
  kO 3 (.mv (.c (.bool true)))])
  .ret)
 yur)
def yqa : CCode :=
  (.seq (.region [
 kO 66 (.bin .eql 11 (ci 7)),
 kO 65 (.mv 66)])
 yos)
def ypv : CCode :=
  (.cond 47
 (.seq (.region [
  kO 50 (.fa 5 1),
  kO 51 (.ld false 1 50),
  kO 52 (.call none true 50 [51]),
  kO 49 (.mv 52),
  kO 53 (.ext 0 49),
  kO 54 (.ext 1 49),
  kO 55 (.ext 2 49),
  kO 7 (.mv 53),
  kO 8 (.mv 54),
  kO 9 (.mv 55)])
  (.seq (.region [
  kO 56 (.mv 9),
  kO 57 (.mv 7),
  kO 58 (.build [(.int .i64 0), (.int .i64 0), (.int .i64 0), (.int .i64 0)] [(0, 1, 56), (1, 1, 57), (2, 1, (ci (-1))), (3, 1, (ci (-1)))]),
  kO 59 (.mv 7),
  kO 60 (.bin .neq 59 (ci 0)),
  kO 61 (.mv 60),
  kG 62 (.mv 8) 61 true,
  kG 63 (.bin .eql 62 (ci 0)) 61 true,
  kO 64 (.pick 61 63 (.c (.bool false))),
  kU (.st 4 2 58),
  kO 3 (.mv 64)])
  .ret))
 yqa)
def ywi : CCode :=
  (.seq (.region [
 kO 48 (.bin .eql 11 (ci 6)),
 kO 47 (.mv 48)])
 ypv)
def yp2 : CCode :=
  (.cond 25
 (.seq (.region [
  kO 28 (.fa 5 1),
  kO 29 (.ld false 1 28),
  kO 30 (.call none true 50 [29]),
  kO 27 (.mv 30),
  kO 31 (.ext 0 27),
  kO 32 (.ext 1 27),
  kO 33 (.ext 2 27),
  kO 4 (.mv 31),
  kO 5 (.mv 32),
  kO 6 (.mv 33)])
  (.seq (.region [
  kO 34 (.mv 6),
  kO 35 (.mv 4),
  kO 36 (.mv 5),
  kO 37 (.build [(.int .i64 0), (.int .i64 0), (.int .i64 0), (.int .i64 0)] [(0, 1, 34), (1, 1, 35), (2, 1, 36), (3, 1, (ci (-1)))]),
  kO 38 (.fa 5 1),
  kO 39 (.ld false 1 38),
  kO 40 (.fa 5 1),
  kO 41 (.ld false 1 40),
  kO 42 (.bin .eql 39 41),
  kO 43 (.mv 42),
  kG 44 (.mv 5) 43 true,
  kG 45 (.bin .neq 44 (ci 0)) 43 true,
  kO 46 (.pick 43 45 (.c (.bool false))),
  kU (.st 4 2 37),
  kO 3 (.mv 46)])
  .ret))
 ywi)
def yq9 : CCode :=
  (.seq (.region [
 kO 26 (.bin .eql 11 (ci 5)),
 kO 25 (.mv 26)])
 yp2)
def yrk : CCode :=
  (.cond 22
 (.seq (.region [
  kO 24 (.build [(.int .i64 0), (.int .i64 0), (.int .i64 0), (.int .i64 0)] [(0, 1, (ci 0)), (1, 1, (ci 0)), (2, 1, (ci (-1))), (3, 1, (ci (-1)))]),
  kU (.st 4 2 24),
  kO 3 (.mv (.c (.bool true)))])
  .ret)
 yq9)
def yuw : CCode :=
  (.seq (.region [
 kO 23 (.bin .eql 11 (ci 4)),
 kO 22 (.mv 23)])
 yrk)
def yvp : CCode :=
  (.cond 16
 (.seq (.region [
  kO 21 (.build [(.int .i64 0), (.int .i64 0), (.int .i64 0), (.int .i64 0)] [(0, 1, (ci 3)), (1, 1, (ci (-1))), (2, 1, (ci (-1))), (3, 1, (ci (-1)))]),
  kU (.st 4 2 21),
  kO 3 (.mv (.c (.bool true)))])
  .ret)
 yuw)
def yvm : CCode :=
  (.seq (.seq (.region [
 kO 17 (.bin .eql 11 (ci 2)),
 kO 16 (.mv 17)])
 (.cond 16
 .skip
 (.seq (.region [
  kO 18 (.bin .eql 11 (ci 3)),
  kO 16 (.mv 18)])
  (.cond 16
  .skip
  (.seq (.region [
   kO 19 (.bin .eql 11 (ci 20)),
   kO 16 (.mv 19)])
   (.cond 16
   .skip
   (.region [
    kO 20 (.bin .eql 11 (ci 32)),
    kO 16 (.mv 20)])))))))
 yvp)
def yrm : CCode :=
  (.cond 12
 (.seq (.region [
  kO 15 (.build [(.int .i64 0), (.int .i64 0), (.int .i64 0), (.int .i64 0)] [(0, 1, (ci 0)), (1, 1, (ci (-1))), (2, 1, (ci (-1))), (3, 1, (ci (-1)))]),
  kU (.st 4 2 15),
  kO 3 (.mv (.c (.bool true)))])
  .ret)
 yvm)
def you : CCode :=
  (.seq (.seq (.region [
 kO 13 (.bin .eql 11 (ci 1)),
 kO 12 (.mv 13)])
 (.cond 12
 .skip
 (.region [
  kO 14 (.bin .eql 11 (ci 18)),
  kO 12 (.mv 14)])))
 yrm)
def yus : CCode :=
  (.block 0 you)
def ywy : CCode :=
  (.seq (.region [
 kO 10 (.fa 0 1),
 kO 11 (.ld false 1 10)])
 yus)
def yvw : CCode :=
  (.seq ywy
 y1d1)
def yvd : CCode :=
  (.seq (.region [
 kO 1 (.box (some 0) 0),
 kO 2 (.new (some 1) [(.int .i64 0), (.int .i64 0), (.int .i64 0), (.int .i64 0)]),
 kO 3 (.mv (.c (.bool false)))])
 yvw)
def y20f : CFunc :=
  ⟨1, true, 2, yvd, [.cell 2 true 4, .t 3]⟩
def y11n : CCode :=
  (.seq (.region [
 kO 1 (.box (some 0) 0),
 kO 2 (.mv (.c (.bool false)))])
 (.seq (.region [
 kO 3 (.fa 0 1),
 kO 4 (.ld false 1 3),
 kO 5 (.bin .geq 4 (ci 7)),
 kO 6 (.mv 5),
 kG 7 (.fa 0 1) 6 true,
 kG 8 (.ld false 1 7) 6 true,
 kG 9 (.bin .leq 8 (ci 12)) 6 true,
 kO 10 (.pick 6 9 (.c (.bool false))),
 kO 11 (.mv 10),
 kG 12 (.fa 0 1) 11 false,
 kG 13 (.ld false 1 12) 11 false,
 kG 14 (.bin .eql 13 (ci 20)) 11 false,
 kO 15 (.pick 11 (.c (.bool true)) 14),
 kO 16 (.mv 15),
 kG 17 (.fa 0 1) 16 false,
 kG 18 (.ld false 1 17) 16 false,
 kG 19 (.bin .eql 18 (ci 21)) 16 false,
 kO 20 (.pick 16 (.c (.bool true)) 19),
 kO 21 (.mv 20),
 kG 22 (.fa 0 1) 21 false,
 kG 23 (.ld false 1 22) 21 false,
 kG 24 (.bin .eql 23 (ci 31)) 21 false,
 kO 25 (.pick 21 (.c (.bool true)) 24),
 kO 26 (.mv 25),
 kG 27 (.ld true 9 1) 26 false,
 kG 28 (.call none true 17 [27]) 26 false,
 kO 29 (.pick 26 (.c (.bool true)) 28),
 kO 2 (.mv 29)])
 .ret))
def y1ws : CFunc :=
  ⟨1, true, 1, y11n, [.t 2]⟩
def y1bg : CCode :=
  (.seq (.region [
 kO 4 (.mv (ci 0))])
 .ret)
def y15g : CCode :=
  (.cond 16
 (.seq (.region [
  kO 19 (.mv 1),
  kO 20 (.cvi .i32 19),
  kO 21 (.cvi .i64 20),
  kO 4 (.mv 21)])
  .ret)
 (.seq (.region [
  kO 23 (.bin .eql 5 (ci 145)),
  kO 22 (.mv 23)])
  (.cond 22
  (.seq (.region [
   kO 24 (.mv 1),
   kO 25 (.cvi .i8 24),
   kO 26 (.cvi .i64 25),
   kO 4 (.mv 26)])
   .ret)
  (.seq (.region [
   kO 28 (.bin .eql 5 (ci 146)),
   kO 27 (.mv 28)])
   (.cond 27
   (.seq (.region [
    kO 29 (.mv 1),
    kO 30 (.cvi .u16 29),
    kO 31 (.cvi .i64 30),
    kO 4 (.mv 31)])
    .ret)
   (.seq (.region [
    kO 33 (.bin .eql 5 (ci 147)),
    kO 32 (.mv 33)])
    (.cond 32
    (.seq (.region [
     kO 34 (.mv 1),
     kO 35 (.cvi .i16 34),
     kO 36 (.cvi .i64 35),
     kO 4 (.mv 36)])
     .ret)
    .skip)))))))
def y11i : CCode :=
  (.seq (.seq (.region [
 kO 17 (.bin .eql 5 (ci 133)),
 kO 16 (.mv 17)])
 (.cond 16
 .skip
 (.region [
  kO 18 (.bin .eql 5 (ci 136)),
  kO 16 (.mv 18)])))
 y15g)
def y1df : CCode :=
  (.cond 12
 (.seq (.region [
  kO 14 (.mv 1),
  kO 15 (.un .neg 14),
  kO 4 (.mv 15)])
  .ret)
 y11i)
def y18k : CCode :=
  (.seq (.region [
 kO 13 (.bin .eql 5 (ci 117)),
 kO 12 (.mv 13)])
 y1df)
def y1f6 : CCode :=
  (.cond 6
 (.seq (.region [
  kO 8 (.mv 1),
  kO 9 (.cvi .i32 8),
  kO 10 (.un .neg 9),
  kO 11 (.cvi .i64 10),
  kO 4 (.mv 11)])
  .ret)
 y18k)
def y13j : CCode :=
  (.seq (.region [
 kO 7 (.bin .eql 5 (ci 116)),
 kO 6 (.mv 7)])
 y1f6)
def y179 : CCode :=
  (.block 0 y13j)
def y16d : CCode :=
  (.seq (.region [
 kO 5 (.mv 0)])
 y179)
def ywx : CCode :=
  (.seq y16d
 y1bg)
def ys0 : CCode :=
  (.seq (.region [
 kO 4 (.mv (ci 0))])
 ywx)
def y1xg : CFunc :=
  ⟨2, true, 0, ys0, [.t 4]⟩
def y1ed : CCode :=
  (.seq (.region [
 kO 29 (.mv 0),
 kO 30 (.mv 1),
 kO 31 (.mv 2),
 kO 32 (.call none true 131 [29, 30, 31]),
 kO 6 (.mv 32)])
 .ret)
def y1cy : CCode :=
  (.seq (.region [
 kO 6 (.mv (ci 0))])
 .ret)
def y17o : CCode :=
  (.seq (.block 1 (.seq (.region [
 kO 11 (.mv 1),
 kO 12 (.mv 2),
 kO 13 (.bin .lss 11 12),
 kO 10 (.mv 13)])
 (.cond 10
 (.seq (.region [
  kO 6 (.mv (ci (-1)))])
  .ret)
 (.seq (.region [
  kO 15 (.mv 1),
  kO 16 (.mv 2),
  kO 17 (.bin .gtr 15 16),
  kO 14 (.mv 17)])
  (.cond 14
  (.seq (.region [
   kO 6 (.mv (ci 1))])
   .ret)
  .skip)))))
 y1cy)
def y1ae : CCode :=
  (.cond 7
 y17o
 (.seq (.region [
  kO 19 (.mv 0),
  kO 20 (.bin .and 19 (ci 1)),
  kO 21 (.bin .eql 20 (ci 0)),
  kO 18 (.mv 21)])
  (.cond 18
  (.seq (.region [
   kO 22 (.mv 0),
   kO 23 (.mv 1),
   kO 24 (.cvi .i32 23),
   kO 25 (.mv 2),
   kO 26 (.cvi .i32 25),
   kO 27 (.call none true 130 [22, 24, 26]),
   kO 28 (.cvi .i64 27),
   kO 6 (.mv 28)])
   .ret)
  .skip)))
def y18f : CCode :=
  (.seq (.region [
 kO 8 (.mv 0),
 kO 9 (.bin .eql 8 (ci 148)),
 kO 7 (.mv 9)])
 y1ae)
def y184 : CCode :=
  (.block 0 y18f)
def yzh : CCode :=
  (.seq y184
 y1ed)
def y182 : CCode :=
  (.seq (.region [
 kO 6 (.mv (ci 0))])
 yzh)
def y20s : CFunc :=
  ⟨3, true, 0, y182, [.t 6]⟩
def y140 : CCode :=
  (.seq (.region [
 kO 6 (.mv (.c (.bool false)))])
 .ret)
def y169 : CCode :=
  (.seq (.seq (.region [
 kO 7 (.mv 0)])
 (.block 0 (.seq (.region [
 kO 9 (.bin .eql 7 (ci 0)),
 kO 8 (.mv 9)])
 (.cond 8
 (.seq (.region [
  kO 10 (.mv 1),
  kO 11 (.mv 2),
  kO 12 (.bin .eql 10 11),
  kO 6 (.mv 12)])
  .ret)
 (.seq (.region [
  kO 14 (.bin .eql 7 (ci 1)),
  kO 13 (.mv 14)])
  (.cond 13
  (.seq (.region [
   kO 15 (.mv 1),
   kO 16 (.mv 2),
   kO 17 (.bin .neq 15 16),
   kO 6 (.mv 17)])
   .ret)
  (.seq (.region [
   kO 19 (.bin .eql 7 (ci 2)),
   kO 18 (.mv 19)])
   (.cond 18
   (.seq (.region [
    kO 20 (.mv 1),
    kO 21 (.mv 2),
    kO 22 (.bin .lss 20 21),
    kO 6 (.mv 22)])
    .ret)
   (.seq (.region [
    kO 24 (.bin .eql 7 (ci 3)),
    kO 23 (.mv 24)])
    (.cond 23
    (.seq (.region [
     kO 25 (.mv 1),
     kO 26 (.mv 2),
     kO 27 (.bin .geq 25 26),
     kO 6 (.mv 27)])
     .ret)
    (.seq (.region [
     kO 29 (.bin .eql 7 (ci 4)),
     kO 28 (.mv 29)])
     (.cond 28
     (.seq (.region [
      kO 30 (.mv 1),
      kO 31 (.mv 2),
      kO 32 (.bin .gtr 30 31),
      kO 6 (.mv 32)])
      .ret)
     (.seq (.region [
      kO 34 (.bin .eql 7 (ci 5)),
      kO 33 (.mv 34)])
      (.cond 33
      (.seq (.region [
       kO 35 (.mv 1),
       kO 36 (.mv 2),
       kO 37 (.bin .leq 35 36),
       kO 6 (.mv 37)])
       .ret)
      .skip))))))))))))))
 y140)
def y14a : CCode :=
  (.seq (.region [
 kO 6 (.mv (.c (.bool false)))])
 y169)
def y1zw : CFunc :=
  ⟨3, true, 0, y14a, [.t 6]⟩
def y1g3 : CCode :=
  (.seq (.region [
 kO 2 (.mv (ci 0)),
 kO 3 (.mv (ci 0)),
 kO 4 (.mv (ci 0))])
 .ret)
def y1ax : CCode :=
  (.cond 33
 (.seq (.region [
  kO 2 (.mv (ci 1)),
  kO 3 (.mv (ci 0)),
  kO 4 (.mv (ci 1))])
  .ret)
 (.seq (.region [
  kO 39 (.bin .eql 5 (ci 117)),
  kO 38 (.mv 39)])
  (.cond 38
  (.seq (.region [
   kO 2 (.mv (ci 2)),
   kO 3 (.mv (ci 0)),
   kO 4 (.mv (ci 2))])
   .ret)
  (.seq (.region [
   kO 41 (.bin .eql 5 (ci 133)),
   kO 40 (.mv 41)])
   (.cond 40
   (.seq (.region [
    kO 2 (.mv (ci 1)),
    kO 3 (.mv (ci 0)),
    kO 4 (.mv (ci 2))])
    .ret)
   (.seq (.region [
    kO 43 (.bin .eql 5 (ci 136)),
    kO 42 (.mv 43)])
    (.cond 42
    (.seq (.region [
     kO 2 (.mv (ci 2)),
     kO 3 (.mv (ci 0)),
     kO 4 (.mv (ci 1))])
     .ret)
    .skip)))))))
def y17j : CCode :=
  (.seq (.seq (.region [
 kO 34 (.bin .eql 5 (ci 116)),
 kO 33 (.mv 34)])
 (.cond 33
 .skip
 (.seq (.region [
  kO 35 (.bin .eql 5 (ci 145)),
  kO 33 (.mv 35)])
  (.cond 33
  .skip
  (.seq (.region [
   kO 36 (.bin .eql 5 (ci 146)),
   kO 33 (.mv 36)])
   (.cond 33
   .skip
   (.region [
    kO 37 (.bin .eql 5 (ci 147)),
    kO 33 (.mv 37)])))))))
 y1ax)
def y149 : CCode :=
  (.cond 31
 (.seq (.region [
  kO 2 (.mv (ci 2)),
  kO 3 (.mv (ci 2)),
  kO 4 (.mv (ci 1))])
  .ret)
 y17j)
def y1fg : CCode :=
  (.seq (.region [
 kO 32 (.bin .eql 5 (ci 148)),
 kO 31 (.mv 32)])
 y149)
def y1bm : CCode :=
  (.cond 27
 (.seq (.region [
  kO 2 (.mv (ci 2)),
  kO 3 (.mv (ci 1)),
  kO 4 (.mv (ci 2))])
  .ret)
 y1fg)
def y15o : CCode :=
  (.seq (.seq (.region [
 kO 28 (.bin .eql 5 (ci 121)),
 kO 27 (.mv 28)])
 (.cond 27
 .skip
 (.seq (.region [
  kO 29 (.bin .eql 5 (ci 123)),
  kO 27 (.mv 29)])
  (.cond 27
  .skip
  (.region [
   kO 30 (.bin .eql 5 (ci 125)),
   kO 27 (.mv 30)])))))
 y1bm)
def y1a2 : CCode :=
  (.cond 18
 (.seq (.region [
  kO 2 (.mv (ci 2)),
  kO 3 (.mv (ci 2)),
  kO 4 (.mv (ci 2))])
  .ret)
 y15o)
def y15a : CCode :=
  (.seq (.seq (.region [
 kO 19 (.bin .eql 5 (ci 97)),
 kO 18 (.mv 19)])
 (.cond 18
 .skip
 (.seq (.region [
  kO 20 (.bin .eql 5 (ci 101)),
  kO 18 (.mv 20)])
  (.cond 18
  .skip
  (.seq (.region [
   kO 21 (.bin .eql 5 (ci 105)),
   kO 18 (.mv 21)])
   (.cond 18
   .skip
   (.seq (.region [
    kO 22 (.bin .eql 5 (ci 109)),
    kO 18 (.mv 22)])
    (.cond 18
    .skip
    (.seq (.region [
     kO 23 (.bin .eql 5 (ci 113)),
     kO 18 (.mv 23)])
     (.cond 18
     .skip
     (.seq (.region [
      kO 24 (.bin .eql 5 (ci 127)),
      kO 18 (.mv 24)])
      (.cond 18
      .skip
      (.seq (.region [
       kO 25 (.bin .eql 5 (ci 129)),
       kO 18 (.mv 25)])
       (.cond 18
       .skip
       (.region [
        kO 26 (.bin .eql 5 (ci 131)),
        kO 18 (.mv 26)])))))))))))))))
 y1a2)
def ysh : CCode :=
  (.cond 6
 (.seq (.region [
  kO 2 (.mv (ci 1)),
  kO 3 (.mv (ci 1)),
  kO 4 (.mv (ci 1))])
  .ret)
 y15a)
def ypc : CCode :=
  (.seq (.seq (.region [
 kO 7 (.bin .eql 5 (ci 96)),
 kO 6 (.mv 7)])
 (.cond 6
 .skip
 (.seq (.region [
  kO 8 (.bin .eql 5 (ci 100)),
  kO 6 (.mv 8)])
  (.cond 6
  .skip
  (.seq (.region [
   kO 9 (.bin .eql 5 (ci 104)),
   kO 6 (.mv 9)])
   (.cond 6
   .skip
   (.seq (.region [
    kO 10 (.bin .eql 5 (ci 108)),
    kO 6 (.mv 10)])
    (.cond 6
    .skip
    (.seq (.region [
     kO 11 (.bin .eql 5 (ci 112)),
     kO 6 (.mv 11)])
     (.cond 6
     .skip
     (.seq (.region [
      kO 12 (.bin .eql 5 (ci 120)),
      kO 6 (.mv 12)])
      (.cond 6
      .skip
      (.seq (.region [
       kO 13 (.bin .eql 5 (ci 122)),
       kO 6 (.mv 13)])
       (.cond 6
       .skip
       (.seq (.region [
        kO 14 (.bin .eql 5 (ci 124)),
        kO 6 (.mv 14)])
        (.cond 6
        .skip
        (.seq (.region [
         kO 15 (.bin .eql 5 (ci 126)),
         kO 6 (.mv 15)])
         (.cond 6
         .skip
         (.seq (.region [
          kO 16 (.bin .eql 5 (ci 128)),
          kO 6 (.mv 16)])
          (.cond 6
          .skip
          (.region [
           kO 17 (.bin .eql 5 (ci 130)),
           kO 6 (.mv 17)])))))))))))))))))))))
 ysh)
def yui : CCode :=
  (.block 0 ypc)
def yrv : CCode :=
  (.seq (.region [
 kO 5 (.mv 0)])
 yui)
def yt1 : CCode :=
  (.seq yrv
 y1g3)
def yvz : CCode :=
  (.seq (.region [
 kO 2 (.mv (ci 0)),
 kO 3 (.mv (ci 0)),
 kO 4 (.mv (ci 0))])
 yt1)
def y1ya : CFunc :=
  ⟨1, true, 0, yvz, [.t 2, .t 3, .t 4]⟩
def y1oh : CCode :=
  (.seq (.region [
 kO 2 (.mv (.c (.bool false)))])
 (.seq (.region [
 kO 3 (.mv 0),
 kO 4 (.bin .neq 3 (.c (.str []))),
 kO 5 (.mv 4),
 kG 6 (.mv 0) 5 true,
 kG 7 (.call none true 44 [6]) 5 true,
 kG 8 (.mv 0) 5 true,
 kG 9 (.len 0 8) 5 true,
 kG 10 (.bin .eql 7 9) 5 true,
 kO 11 (.pick 5 10 (.c (.bool false))),
 kO 2 (.mv 11)])
 .ret))
def c_q8 : CFunc :=
  ⟨1, true, 0, y1oh, [.t 2]⟩
def y19g : CCode :=
  (.seq (.region [
 kO 73 (.build [(.int .i64 0), (.int .i64 0), (.int .i64 0), (.int .i64 0)] []),
 kU (.st 4 2 73),
 kO 3 (.mv (.c (.bool false)))])
 .ret)
def y13e : CCode :=
  (.seq (.draw [
 kO 15 (.mv 4),
 kO 16 (.build [(.int .i64 0), (.int .i64 0), (.int .i64 0), (.int .i64 0)] [(0, 1, (ci (-1))), (1, 1, (ci 3)), (2, 1, 15), (3, 1, (ci (-1)))]),
 kO 17 (.fa 5 1),
 kO 18 (.ld false 1 17),
 kO 19 (.bin .eql 18 (ci 0)),
 kO 20 (.mv 19),
 kG 21 (.fa 5 1) 20 false,
 kG 22 (.ld false 1 21) 20 false,
 kG 23 (.bin .eql 22 (ci 1)) 20 false,
 kO 24 (.pick 20 (.c (.bool true)) 23),
 kU (.st 4 2 16),
 kO 3 (.mv 24)] [(7, 10)])
 .ret)
def y18s : CCode :=
  (.seq (.seq (.region [
 kO 12 (.fa 3 1),
 kO 13 (.ld false 1 12),
 kO 14 (.bin .neq 13 (ci (-1)))])
 (.cond 14
 (.region [
  kO 4 (.mv (ci 3))])
 .skip))
 y13e)
def y164 : CCode :=
  (.seq (.region [
 kO 4 (.mv (ci (-1)))])
 y18s)
def y1et : CCode :=
  (.seq (.region [
 kO 30 (.mv 5),
 kO 31 (.build [(.int .i64 0), (.int .i64 0), (.int .i64 0), (.int .i64 0)] [(0, 1, (ci (-1))), (1, 1, 30), (2, 1, (ci (-1))), (3, 1, (ci (-1)))]),
 kU (.st 4 2 31),
 kO 3 (.mv (.c (.bool true)))])
 .ret)
def y18a : CCode :=
  (.seq (.seq (.region [
 kO 27 (.fa 2 1),
 kO 28 (.ld false 1 27),
 kO 29 (.bin .neq 28 (ci (-1)))])
 (.cond 29
 (.region [
  kO 5 (.mv (ci 0))])
 .skip))
 y1et)
def y04 : CCode :=
  (.seq (.region [
 kO 5 (.mv (ci (-1)))])
 y18a)
def y1e5 : CCode :=
  (.seq (.region [
 kO 40 (.fa 0 1),
 kO 41 (.ld false 1 40),
 kO 42 (.bin .eql 41 (ci 23)),
 kO 43 (.mv 42),
 kG 44 (.fa 0 1) 43 false,
 kG 45 (.ld false 1 44) 43 false,
 kG 46 (.bin .eql 45 (ci 26)) 43 false,
 kO 47 (.pick 43 (.c (.bool true)) 46),
 kO 48 (.mv 47),
 kG 49 (.fa 8 1) 48 false,
 kG 50 (.ld false 1 49) 48 false,
 kG 51 (.len 1 50) 48 false,
 kG 52 (.bin .gtr 51 (ci 0)) 48 false,
 kO 53 (.pick 48 (.c (.bool true)) 52),
 kO 7 (.mv 53)])
 (.seq (.draw [
 kO 54 (.mv 6),
 kO 55 (.build [(.int .i64 0), (.int .i64 0), (.int .i64 0), (.int .i64 0)] [(0, 1, 54), (1, 1, (ci (-1))), (2, 1, (ci (-1))), (3, 1, (ci (-1)))]),
 kO 56 (.mv 7),
 kO 57 (.mv 56),
 kG 58 (.fa 5 1) 57 true,
 kG 59 (.ld false 1 58) 57 true,
 kG 60 (.bin .geq 59 (ci 0)) 57 true,
 kG 61 (.mv 60) 57 true,
 kG 62 (.fa 0 1) 61 false,
 kG 63 (.ld false 1 62) 61 false,
 kG 64 (.bin .eql 63 (ci 25)) 61 false,
 kG 65 (.pick 61 (.c (.bool true)) 64) 57 true,
 kO 66 (.pick 57 65 (.c (.bool false))),
 kO 67 (.mv 66),
 kG 68 (.fa 8 1) 67 true,
 kG 69 (.ld false 1 68) 67 true,
 kG 70 (.len 1 69) 67 true,
 kG 71 (.bin .leq 70 (ci 21)) 67 true,
 kO 72 (.pick 67 71 (.c (.bool false))),
 kU (.st 4 2 55),
 kO 3 (.mv 72)] [(15, 19), (16, 19)])
 .ret))
def y11q : CCode :=
  (.seq (.seq (.region [
 kO 37 (.fa 1 1),
 kO 38 (.ld false 1 37),
 kO 39 (.bin .neq 38 (ci (-1)))])
 (.cond 39
 (.region [
  kO 6 (.mv (ci 0))])
 .skip))
 y1e5)
def yqg : CCode :=
  (.seq (.region [
 kO 6 (.mv (ci (-1)))])
 y11q)
def ytw : CCode :=
  (.cond 32
 yqg
 .skip)
def yox : CCode :=
  (.seq (.seq (.region [
 kO 33 (.bin .eql 9 (ci 23)),
 kO 32 (.mv 33)])
 (.cond 32
 .skip
 (.seq (.region [
  kO 34 (.bin .eql 9 (ci 24)),
  kO 32 (.mv 34)])
  (.cond 32
  .skip
  (.seq (.region [
   kO 35 (.bin .eql 9 (ci 25)),
   kO 32 (.mv 35)])
   (.cond 32
   .skip
   (.region [
    kO 36 (.bin .eql 9 (ci 26)),
    kO 32 (.mv 36)])))))))
 ytw)
def yuu : CCode :=
  (.cond 25
 y04
 yox)
def yqr : CCode :=
  (.seq (.region [
 kO 26 (.bin .eql 9 (ci 30)),
 kO 25 (.mv 26)])
 yuu)
def ytz : CCode :=
  (.cond 10
 y164
 yqr)
def yuq : CCode :=
  (.seq (.region [
 kO 11 (.bin .eql 9 (ci 29)),
 kO 10 (.mv 11)])
 ytz)
def yro : CCode :=
  (.block 0 yuq)
def ytg : CCode :=
  (.seq (.region [
 kO 8 (.fa 0 1),
 kO 9 (.ld false 1 8)])
 yro)
def yw5 : CCode :=
  (.seq ytg
 y19g)
def ywv : CCode :=
  (.seq (.region [
 kO 1 (.box (some 0) 0),
 kO 2 (.new (some 1) [(.int .i64 0), (.int .i64 0), (.int .i64 0), (.int .i64 0)]),
 kO 3 (.mv (.c (.bool false)))])
 yw5)
def y1yl : CFunc :=
  ⟨1, true, 2, ywv, [.cell 2 true 4, .t 3]⟩
def y0u : CCode :=
  (.seq (.region [
 kO 6 (.mv (.c (.int .i32 0)))])
 .ret)
def y19k : CCode :=
  (.cond 23
 (.seq (.region [
  kO 26 (.mv 0),
  kO 27 (.bin .eql 26 (ci 112)),
  kO 28 (.mv 1),
  kO 29 (.cvi .i64 28),
  kO 30 (.mv 2),
  kO 31 (.cvi .i64 30),
  kO 32 (.call none true 132 [27, 29, 31]),
  kO 33 (.cvi .i32 32),
  kO 6 (.mv 33)])
  .ret)
 (.seq (.region [
  kO 35 (.bin .eql 7 (ci 120)),
  kO 34 (.mv 35)])
  (.cond 34
  (.seq (.region [
   kO 36 (.mv 1),
   kO 37 (.mv 2),
   kO 38 (.cvi .u32 37),
   kO 39 (.bin .and 38 (.c (.int .u32 31))),
   kO 40 (.bin .shl 36 39),
   kO 6 (.mv 40)])
   .ret)
  (.seq (.region [
   kO 42 (.bin .eql 7 (ci 122)),
   kO 41 (.mv 42)])
   (.cond 41
   (.seq (.region [
    kO 43 (.mv 1),
    kO 44 (.mv 2),
    kO 45 (.cvi .u32 44),
    kO 46 (.bin .and 45 (.c (.int .u32 31))),
    kO 47 (.bin .shr 43 46),
    kO 6 (.mv 47)])
    .ret)
   (.seq (.region [
    kO 49 (.bin .eql 7 (ci 124)),
    kO 48 (.mv 49)])
    (.cond 48
    (.seq (.region [
     kO 50 (.mv 1),
     kO 51 (.cvi .u32 50),
     kO 52 (.mv 2),
     kO 53 (.cvi .u32 52),
     kO 54 (.bin .and 53 (.c (.int .u32 31))),
     kO 55 (.bin .shr 51 54),
     kO 56 (.cvi .i32 55),
     kO 6 (.mv 56)])
     .ret)
    (.seq (.region [
     kO 58 (.bin .eql 7 (ci 126)),
     kO 57 (.mv 58)])
     (.cond 57
     (.seq (.region [
      kO 59 (.mv 1),
      kO 60 (.mv 2),
      kO 61 (.bin .and 59 60),
      kO 6 (.mv 61)])
      .ret)
     (.seq (.region [
      kO 63 (.bin .eql 7 (ci 128)),
      kO 62 (.mv 63)])
      (.cond 62
      (.seq (.region [
       kO 64 (.mv 1),
       kO 65 (.mv 2),
       kO 66 (.bin .or 64 65),
       kO 6 (.mv 66)])
       .ret)
      (.seq (.region [
       kO 68 (.bin .eql 7 (ci 130)),
       kO 67 (.mv 68)])
       (.cond 67
       (.seq (.region [
        kO 69 (.mv 1),
        kO 70 (.mv 2),
        kO 71 (.bin .xor 69 70),
        kO 6 (.mv 71)])
        .ret)
       .skip)))))))))))))
def y1g0 : CCode :=
  (.seq (.seq (.region [
 kO 24 (.bin .eql 7 (ci 108)),
 kO 23 (.mv 24)])
 (.cond 23
 .skip
 (.region [
  kO 25 (.bin .eql 7 (ci 112)),
  kO 23 (.mv 25)])))
 y19k)
def y193 : CCode :=
  (.cond 18
 (.seq (.region [
  kO 20 (.mv 1),
  kO 21 (.mv 2),
  kO 22 (.bin .mul 20 21),
  kO 6 (.mv 22)])
  .ret)
 y1g0)
def y18p : CCode :=
  (.seq (.region [
 kO 19 (.bin .eql 7 (ci 104)),
 kO 18 (.mv 19)])
 y193)
def y17r : CCode :=
  (.cond 13
 (.seq (.region [
  kO 15 (.mv 1),
  kO 16 (.mv 2),
  kO 17 (.bin .sub 15 16),
  kO 6 (.mv 17)])
  .ret)
 y18p)
def y1aq : CCode :=
  (.seq (.region [
 kO 14 (.bin .eql 7 (ci 100)),
 kO 13 (.mv 14)])
 y17r)
def y13r : CCode :=
  (.cond 8
 (.seq (.region [
  kO 10 (.mv 1),
  kO 11 (.mv 2),
  kO 12 (.bin .add 10 11),
  kO 6 (.mv 12)])
  .ret)
 y1aq)
def y12g : CCode :=
  (.seq (.region [
 kO 9 (.bin .eql 7 (ci 96)),
 kO 8 (.mv 9)])
 y13r)
def yv4 : CCode :=
  (.block 0 y12g)
def yq5 : CCode :=
  (.seq (.region [
 kO 7 (.mv 0)])
 yv4)
def ywh : CCode :=
  (.seq yq5
 y0u)
def ywf : CCode :=
  (.seq (.region [
 kO 6 (.mv (.c (.int .i32 0)))])
 ywh)
def y21t : CFunc :=
  ⟨3, true, 0, ywf, [.t 6]⟩
def y1ds : CCode :=
  (.seq (.region [
 kO 6 (.mv (ci 0))])
 .ret)
def y1fn : CCode :=
  (.cond 23
 (.seq (.region [
  kO 26 (.mv 0),
  kO 27 (.bin .eql 26 (ci 113)),
  kO 28 (.mv 1),
  kO 29 (.mv 2),
  kO 30 (.call none true 132 [27, 28, 29]),
  kO 6 (.mv 30)])
  .ret)
 (.seq (.region [
  kO 32 (.bin .eql 7 (ci 121)),
  kO 31 (.mv 32)])
  (.cond 31
  (.seq (.region [
   kO 33 (.mv 1),
   kO 34 (.mv 2),
   kO 35 (.cvi .u64 34),
   kO 36 (.bin .and 35 (.c (.int .u64 63))),
   kO 37 (.bin .shl 33 36),
   kO 6 (.mv 37)])
   .ret)
  (.seq (.region [
   kO 39 (.bin .eql 7 (ci 123)),
   kO 38 (.mv 39)])
   (.cond 38
   (.seq (.region [
    kO 40 (.mv 1),
    kO 41 (.mv 2),
    kO 42 (.cvi .u64 41),
    kO 43 (.bin .and 42 (.c (.int .u64 63))),
    kO 44 (.bin .shr 40 43),
    kO 6 (.mv 44)])
    .ret)
   (.seq (.region [
    kO 46 (.bin .eql 7 (ci 125)),
    kO 45 (.mv 46)])
    (.cond 45
    (.seq (.region [
     kO 47 (.mv 1),
     kO 48 (.cvi .u64 47),
     kO 49 (.mv 2),
     kO 50 (.cvi .u64 49),
     kO 51 (.bin .and 50 (.c (.int .u64 63))),
     kO 52 (.bin .shr 48 51),
     kO 53 (.cvi .i64 52),
     kO 6 (.mv 53)])
     .ret)
    (.seq (.region [
     kO 55 (.bin .eql 7 (ci 127)),
     kO 54 (.mv 55)])
     (.cond 54
     (.seq (.region [
      kO 56 (.mv 1),
      kO 57 (.mv 2),
      kO 58 (.bin .and 56 57),
      kO 6 (.mv 58)])
      .ret)
     (.seq (.region [
      kO 60 (.bin .eql 7 (ci 129)),
      kO 59 (.mv 60)])
      (.cond 59
      (.seq (.region [
       kO 61 (.mv 1),
       kO 62 (.mv 2),
       kO 63 (.bin .or 61 62),
       kO 6 (.mv 63)])
       .ret)
      (.seq (.region [
       kO 65 (.bin .eql 7 (ci 131)),
       kO 64 (.mv 65)])
       (.cond 64
       (.seq (.region [
        kO 66 (.mv 1),
        kO 67 (.mv 2),
        kO 68 (.bin .xor 66 67),
        kO 6 (.mv 68)])
        .ret)
       .skip)))))))))))))
def y1ez : CCode :=
  (.seq (.seq (.region [
 kO 24 (.bin .eql 7 (ci 109)),
 kO 23 (.mv 24)])
 (.cond 23
 .skip
 (.region [
  kO 25 (.bin .eql 7 (ci 113)),
  kO 23 (.mv 25)])))
 y1fn)
def y11o : CCode :=
  (.cond 18
 (.seq (.region [
  kO 20 (.mv 1),
  kO 21 (.mv 2),
  kO 22 (.bin .mul 20 21),
  kO 6 (.mv 22)])
  .ret)
 y1ez)
def y12a : CCode :=
  (.seq (.region [
 kO 19 (.bin .eql 7 (ci 105)),
 kO 18 (.mv 19)])
 y11o)
def y196 : CCode :=
  (.cond 13
 (.seq (.region [
  kO 15 (.mv 1),
  kO 16 (.mv 2),
  kO 17 (.bin .sub 15 16),
  kO 6 (.mv 17)])
  .ret)
 y12a)
def yzy : CCode :=
  (.seq (.region [
 kO 14 (.bin .eql 7 (ci 101)),
 kO 13 (.mv 14)])
 y196)
def y18o : CCode :=
  (.cond 8
 (.seq (.region [
  kO 10 (.mv 1),
  kO 11 (.mv 2),
  kO 12 (.bin .add 10 11),
  kO 6 (.mv 12)])
  .ret)
 yzy)
def y1ek : CCode :=
  (.seq (.region [
 kO 9 (.bin .eql 7 (ci 97)),
 kO 8 (.mv 9)])
 y18o)
def yx0 : CCode :=
  (.block 0 y1ek)
def yot : CCode :=
  (.seq (.region [
 kO 7 (.mv 0)])
 yx0)
def yvj : CCode :=
  (.seq yot
 y1ds)
def ysq : CCode :=
  (.seq (.region [
 kO 6 (.mv (ci 0))])
 yvj)
def y21w : CFunc :=
  ⟨3, true, 0, ysq, [.t 6]⟩
def y1o5 : CCode :=
  (.seq (.region [
 kO 2 (.mv (ci 0))])
 .ret)
def y1p4 : CCode :=
  (.region [
 kO 41 (.mv 4),
 kO 42 (.bin .add 41 (ci 1)),
 kO 4 (.mv 42)])
def y1ok : CCode :=
  (.seq (.region [
 kO 2 (.mv (ci 0))])
 .ret)
def y1o8 : CCode :=
  (.seq (.seq (.region [
 kO 47 (.mv 0),
 kO 48 (.mv 3),
 kO 49 (.bin .add 48 (ci 1)),
 kO 50 (.mv 4),
 kO 51 (.sls 47 (some 49) (some 50)),
 kO 52 (.call none true 60 [51, (.c (.bool false))])])
 (.cond 52
 (.seq (.region [
  kO 53 (.mv 4),
  kO 54 (.bin .add 53 (ci 1)),
  kO 2 (.mv 54)])
  .ret)
 .skip))
 y1ok)
def y1p9 : CCode :=
  (.cond 46
 y1o8
 .skip)
def y1or : CCode :=
  (.seq (.region [
 kO 43 (.mv 0),
 kO 44 (.mv 4),
 kO 45 (.ixstr 43 44),
 kO 46 (.bin .eql 45 (.c (.int .u8 59)))])
 y1p9)
def y1p2 : CCode :=
  (.block 4 y1or)
def y1ob : CCode :=
  (.seq y1p2
 y1p4)
def y06 : CCode :=
  (.seq (.seq (.region [
 kO 37 (.mv 4),
 kO 38 (.mv 0),
 kO 39 (.len 0 38),
 kO 40 (.bin .lss 37 39)])
 (.cond 40
 .skip
 (.exit 3)))
 y1ob)
def yo7 : CCode :=
  (.loop [0, 3, 4] y06)
def yzz : CCode :=
  (.block 3 yo7)
def y1cc : CCode :=
  (.seq (.region [
 kO 35 (.mv 3),
 kO 36 (.bin .add 35 (ci 1)),
 kO 4 (.mv 36)])
 yzz)
def y1cd : CCode :=
  (.cond 33
 y1cc
 .skip)
def y14p : CCode :=
  (.seq (.region [
 kO 34 (.bin .eql 27 (.c (.int .u8 76))),
 kO 33 (.mv 34)])
 y1cd)
def y1aj : CCode :=
  (.cond 28
 (.seq (.region [
  kO 31 (.mv 3),
  kO 32 (.bin .add 31 (ci 1)),
  kO 2 (.mv 32)])
  .ret)
 y14p)
def y12c : CCode :=
  (.seq (.seq (.region [
 kO 29 (.bin .eql 27 (.c (.int .u8 73))),
 kO 28 (.mv 29)])
 (.cond 28
 .skip
 (.region [
  kO 30 (.bin .eql 27 (.c (.int .u8 74))),
  kO 28 (.mv 30)])))
 y1aj)
def y1f1 : CCode :=
  (.block 2 y12c)
def y14o : CCode :=
  (.seq (.region [
 kO 25 (.mv 0),
 kO 26 (.mv 3),
 kO 27 (.ixstr 25 26)])
 y1f1)
def y12k : CCode :=
  (.seq y14o
 y1o5)
def y19y : CCode :=
  (.seq (.seq (.region [
 kO 17 (.mv 3),
 kO 18 (.bin .gtr 17 (ci 8)),
 kO 19 (.mv 18),
 kG 20 (.mv 3) 19 false,
 kG 21 (.mv 0) 19 false,
 kG 22 (.len 0 21) 19 false,
 kG 23 (.bin .eql 20 22) 19 false,
 kO 24 (.pick 19 (.c (.bool true)) 23)])
 (.cond 24
 (.seq (.region [
  kO 2 (.mv (ci 0))])
  .ret)
 .skip))
 y12k)
def yzt : CCode :=
  (.block 1 (.region [
 kO 15 (.mv 3),
 kO 16 (.bin .add 15 (ci 1)),
 kO 3 (.mv 16)]))
def y1gh : CCode :=
  (.seq (.seq (.region [
 kO 5 (.mv 3),
 kO 6 (.mv 0),
 kO 7 (.len 0 6),
 kO 8 (.bin .lss 5 7),
 kO 9 (.mv 8),
 kG 10 (.mv 0) 9 true,
 kG 11 (.mv 3) 9 true,
 kG 12 (.ixstr 10 11) 9 true,
 kG 13 (.bin .eql 12 (.c (.int .u8 91))) 9 true,
 kO 14 (.pick 9 13 (.c (.bool false)))])
 (.cond 14
 .skip
 (.exit 0)))
 yzt)
def yix : CCode :=
  (.loop [0, 3] y1gh)
def y157 : CCode :=
  (.block 0 yix)
def y1fm : CCode :=
  (.seq y157
 y19y)
def y19p : CCode :=
  (.seq (.region [
 kO 3 (.mv (ci 0))])
 y1fm)
def y13q : CCode :=
  (.seq (.region [
 kO 2 (.mv (ci 0))])
 y19p)
def c_q9 : CFunc :=
  ⟨1, true, 0, y13q, [.t 2]⟩
def y0h : CCode :=
  (.seq (.region [
 kO 21 (.mv 1),
 kO 22 (.mv 2),
 kO 23 (.bin .quo 21 22),
 kO 6 (.mv 23)])
 .ret)
def y1ap : CCode :=
  (.seq (.region [
 kO 14 (.mv 1),
 kO 15 (.un .neg 14),
 kO 6 (.mv 15)])
 .ret)
def y12n : CCode :=
  (.seq (.seq (.region [
 kO 13 (.mv 0)])
 (.cond 13
 (.seq (.region [
  kO 6 (.mv (ci 0))])
  .ret)
 .skip))
 y1ap)
def y1e8 : CCode :=
  (.cond 10
 y12n
 (.seq (.region [
  kO 17 (.mv 0),
  kO 16 (.mv 17)])
  (.cond 16
  (.seq (.region [
   kO 18 (.mv 1),
   kO 19 (.mv 2),
   kO 20 (.bin .rem 18 19),
   kO 6 (.mv 20)])
   .ret)
  .skip)))
def y11s : CCode :=
  (.seq (.region [
 kO 11 (.mv 2),
 kO 12 (.bin .eql 11 (ci (-1))),
 kO 10 (.mv 12)])
 y1e8)
def y15w : CCode :=
  (.cond 7
 (.seq (.region [
  kO 6 (.mv (ci 0))])
  .ret)
 y11s)
def yz7 : CCode :=
  (.seq (.region [
 kO 8 (.mv 2),
 kO 9 (.bin .eql 8 (ci 0)),
 kO 7 (.mv 9)])
 y15w)
def y119 : CCode :=
  (.block 0 yz7)
def y1g1 : CCode :=
  (.seq y119
 y0h)
def ywm : CCode :=
  (.seq (.region [
 kO 6 (.mv (ci 0))])
 y1g1)
def y21q : CFunc :=
  ⟨3, true, 0, ywm, [.t 6]⟩
def y1oe : CCode :=
  (.seq (.region [
 kO 4 (.mv (.c (.bool true)))])
 .ret)
def y1nu : CCode :=
  (.region [
 kO 71 (.bin .add 19 (ci 1)),
 kO 19 (.mv 71)])
def y1of : CCode :=
  (.seq (.block 1 (.seq (.region [
 kO 21 (.ixs 1 17 19),
 kO 22 (.ld false 1 21),
 kO 6 (.mv 22)])
 (.seq (.region [
 kO 23 (.mv 6),
 kO 24 (.bin .geq 23 (.c (.int .u8 97))),
 kO 25 (.mv 24),
 kG 26 (.mv 6) 25 true,
 kG 27 (.bin .leq 26 (.c (.int .u8 122))) 25 true,
 kO 28 (.pick 25 27 (.c (.bool false))),
 kO 29 (.mv 28),
 kG 30 (.mv 6) 29 false,
 kG 31 (.bin .geq 30 (.c (.int .u8 65))) 29 false,
 kG 32 (.mv 31) 29 false,
 kG 33 (.mv 6) 32 true,
 kG 34 (.bin .leq 33 (.c (.int .u8 90))) 32 true,
 kG 35 (.pick 32 34 (.c (.bool false))) 29 false,
 kO 36 (.pick 29 (.c (.bool true)) 35),
 kO 37 (.mv 36),
 kG 38 (.mv 6) 37 false,
 kG 39 (.bin .geq 38 (.c (.int .u8 48))) 37 false,
 kG 40 (.mv 39) 37 false,
 kG 41 (.mv 6) 40 true,
 kG 42 (.bin .leq 41 (.c (.int .u8 57))) 40 true,
 kG 43 (.pick 40 42 (.c (.bool false))) 37 false,
 kO 44 (.pick 37 (.c (.bool true)) 43),
 kO 45 (.mv 44),
 kG 46 (.mv 6) 45 false,
 kG 47 (.bin .eql 46 (.c (.int .u8 95))) 45 false,
 kO 48 (.pick 45 (.c (.bool true)) 47),
 kO 49 (.mv 48),
 kG 50 (.mv 6) 49 false,
 kG 51 (.bin .eql 50 (.c (.int .u8 36))) 49 false,
 kO 52 (.pick 49 (.c (.bool true)) 51),
 kO 53 (.mv 52),
 kG 54 (.mv 6) 53 false,
 kG 55 (.bin .eql 54 (.c (.int .u8 47))) 53 false,
 kO 56 (.pick 53 (.c (.bool true)) 55),
 kO 7 (.mv 56)])
 (.seq (.region [
 kO 57 (.mv 7),
 kO 58 (.un .not 57),
 kO 59 (.mv 58),
 kG 60 (.mv 1) 59 true,
 kG 61 (.mv 60) 59 true,
 kG 62 (.mv 6) 61 true,
 kG 63 (.bin .eql 62 (.c (.int .u8 60))) 61 true,
 kG 64 (.mv 63) 61 true,
 kG 65 (.mv 6) 64 false,
 kG 66 (.bin .eql 65 (.c (.int .u8 62))) 64 false,
 kG 67 (.pick 64 (.c (.bool true)) 66) 61 true,
 kG 68 (.pick 61 67 (.c (.bool false))) 59 true,
 kG 69 (.un .not 68) 59 true,
 kO 70 (.pick 59 69 (.c (.bool false)))])
 (.cond 70
 (.seq (.region [
  kO 4 (.mv (.c (.bool false)))])
  .ret)
 .skip)))))
 y1nu)
def y1nx : CCode :=
  (.seq (.cond 20
 .skip
 (.exit 0))
 y1of)
def y1o4 : CCode :=
  (.seq (.region [
 kO 20 (.bin .lss 19 18)])
 y1nx)
def ynt : CCode :=
  (.loop [1, 17, 18, 19] y1o4)
def y1ot : CCode :=
  (.block 0 ynt)
def y1o0 : CCode :=
  (.seq (.region [
 kO 16 (.mv 0),
 kO 17 (.s2b (some 0) 16),
 kO 18 (.len 1 17),
 kO 19 (.mv (ci 0))])
 y1ot)
def y1o9 : CCode :=
  (.seq y1o0
 y1oe)
def y14s : CCode :=
  (.seq (.seq (.region [
 kO 8 (.mv 0),
 kO 9 (.len 0 8),
 kO 10 (.bin .lss 9 (ci 1)),
 kO 11 (.mv 10),
 kG 12 (.mv 0) 11 false,
 kG 13 (.len 0 12) 11 false,
 kG 14 (.bin .gtr 13 (ci 60)) 11 false,
 kO 15 (.pick 11 (.c (.bool true)) 14)])
 (.cond 15
 (.seq (.region [
  kO 4 (.mv (.c (.bool false)))])
  .ret)
 .skip))
 y1o9)
def y1ak : CCode :=
  (.seq (.region [
 kO 4 (.mv (.c (.bool false)))])
 y14s)
def c_q7 : CFunc :=
  ⟨2, true, 1, y1ak, [.t 4]⟩
def tbl : List (Option Nat) := [none, none, none, none, none, none, none, none, none, none, some 122, none, none, none, none, none, some 13, none, some 8, none, some 100, none, none, none, some 124, none, some 125, none, none, none, none, none, none, none, none, none, none, some 9, some 39, some 40, some 41, none, none, some 24, some 46, some 63, some 22, some 101, none, none, none, none, none, none, some 79, none, some 81, none, none, none, some 102, some 126, none, none, none, none, none, none, none, none, none, none, none, none, none, none, none, none, none, none, none, none, some 17, some 45, some 47, none, none, none, none, none, some 18, none, none, none, none, none, none, some 127, some 128, some 129, none, none, none, none, none, none, none, none, none, none, none, none, none, some 50, some 37, some 51, none, none, none, none, none, some 130, some 131, none, none, none, none, none, none, none, some 44, some 132, none, none, none, some 60]
def fnE : Nat → Option CFunc
  | 8 => some y1xf
  | 9 => some y1wq
  | 13 => some y20w
  | 17 => some y20z
  | 18 => some y1ws
  | 22 => some y21b
  | 24 => some y20j
  | 37 => some c_q8
  | 39 => some y1oa
  | 40 => some y1oz
  | 41 => some y1p3
  | 44 => some c_q9
  | 45 => some y1p7
  | 46 => some y1op
  | 47 => some y20f
  | 50 => some y1ya
  | 51 => some y1yl
  | 60 => some c_q7
  | 63 => some y1xl
  | 79 => some y20u
  | 81 => some y1wy
  | 100 => some y1yj
  | 101 => some y1ww
  | 102 => some y21j
  | 122 => some y212
  | 124 => some y242
  | 125 => some y21l
  | 126 => some y1zh
  | 127 => some y1xg
  | 128 => some y20s
  | 129 => some y1zw
  | 130 => some y21t
  | 131 => some y21w
  | 132 => some y21q
  | _ => none
abbrev nm : Nat → Option Nat := nmOf tbl
def E : Env := envX fnE [126] (fun _ _ => none)
abbrev T1 (c : CCode) (n : St → OX) (e : Nat → St → OX) (r : List CRes) (k : St → OX) : Prop := ∀ s, W E 0 c s n e (finP r) = k s
abbrev T0 (c : CCode) (r : List CRes) (k : St → OX) : Prop := T1 c (finP r) xN r k
theorem sq {a b : CCode} {n k k' : St → OX} {e : Nat → St → OX} {r : List CRes} (h : T1 b n e r k) (h' : T1 a k e r k') : T1 (.seq a b) n e r k' := fun s => (yd4 h).trans (h' s)
theorem ok10 : FnOk Go.Proofs.Try.prog nm fnE 10 122 := .of Go.Proofs.Try.func10 (by kernel_rfl) (by kernel_rfl) rfl (by kernel_rfl)
theorem ok16 : FnOk Go.Proofs.Try.prog nm fnE 16 13 := .of Go.Proofs.Try.func16 (by kernel_rfl) (by kernel_rfl) rfl (by kernel_rfl)
theorem ok18 : FnOk Go.Proofs.Try.prog nm fnE 18 8 := .of Go.Proofs.Try.func18 (by kernel_rfl) (by kernel_rfl) rfl (by kernel_rfl)
theorem ok20 : FnOk Go.Proofs.Try.prog nm fnE 20 100 := .of Go.Proofs.Try.func20 (by kernel_rfl) (by kernel_rfl) rfl (by kernel_rfl)
theorem ok24 : FnOk Go.Proofs.Try.prog nm fnE 24 124 := .of Go.Proofs.Try.func24 (by kernel_rfl) (by kernel_rfl) rfl (by kernel_rfl)
theorem ok26 : FnOk Go.Proofs.Try.prog nm fnE 26 125 := .of Go.Proofs.Try.func26 (by kernel_rfl) (by kernel_rfl) rfl (by kernel_rfl)
theorem ok37 : FnOk Go.Proofs.Try.prog nm fnE 37 9 := .of Go.Proofs.Try.func37 (by kernel_rfl) (by kernel_rfl) rfl (by kernel_rfl)
theorem ok38 : FnOk Go.Proofs.Try.prog nm fnE 38 39 := .of Go.Proofs.Try.func38 (by kernel_rfl) (by kernel_rfl) rfl (by kernel_rfl)
theorem ok39 : FnOk Go.Proofs.Try.prog nm fnE 39 40 := .of Go.Proofs.Try.func39 (by kernel_rfl) (by kernel_rfl) rfl (by kernel_rfl)
theorem ok40 : FnOk Go.Proofs.Try.prog nm fnE 40 41 := .of Go.Proofs.Try.func40 (by kernel_rfl) (by kernel_rfl) rfl (by kernel_rfl)
theorem ok43 : FnOk Go.Proofs.Try.prog nm fnE 43 24 := .of Go.Proofs.Try.func43 (by kernel_rfl) (by kernel_rfl) rfl (by kernel_rfl)
theorem ok44 : FnOk Go.Proofs.Try.prog nm fnE 44 46 := .of Go.Proofs.Try.func44 (by kernel_rfl) (by kernel_rfl) rfl (by kernel_rfl)
theorem ok45 : FnOk Go.Proofs.Try.prog nm fnE 45 63 := .of Go.Proofs.Try.func45 (by kernel_rfl) (by kernel_rfl) rfl (by kernel_rfl)
theorem ok46 : FnOk Go.Proofs.Try.prog nm fnE 46 22 := .of Go.Proofs.Try.func46 (by kernel_rfl) (by kernel_rfl) rfl (by kernel_rfl)
theorem ok47 : FnOk Go.Proofs.Try.prog nm fnE 47 101 := .of Go.Proofs.Try.func47 (by kernel_rfl) (by kernel_rfl) rfl (by kernel_rfl)
theorem ok54 : FnOk Go.Proofs.Try.prog nm fnE 54 79 := .of Go.Proofs.Try.func54 (by kernel_rfl) (by kernel_rfl) rfl (by kernel_rfl)
theorem ok56 : FnOk Go.Proofs.Try.prog nm fnE 56 81 := .of Go.Proofs.Try.func56 (by kernel_rfl) (by kernel_rfl) rfl (by kernel_rfl)
theorem ok60 : FnOk Go.Proofs.Try.prog nm fnE 60 102 := .of Go.Proofs.Try.func60 (by kernel_rfl) (by kernel_rfl) rfl (by kernel_rfl)
theorem ok61 : FnOk Go.Proofs.Try.prog nm fnE 61 126 := .of Go.Proofs.Try.func61 (by kernel_rfl) (by kernel_rfl) rfl (by kernel_rfl)
theorem ok82 : FnOk Go.Proofs.Try.prog nm fnE 82 17 := .of Go.Proofs.Try.func82 (by kernel_rfl) (by kernel_rfl) rfl (by kernel_rfl)
theorem ok83 : FnOk Go.Proofs.Try.prog nm fnE 83 45 := .of Go.Proofs.Try.func83 (by kernel_rfl) (by kernel_rfl) rfl (by kernel_rfl)
theorem ok84 : FnOk Go.Proofs.Try.prog nm fnE 84 47 := .of Go.Proofs.Try.func84 (by kernel_rfl) (by kernel_rfl) rfl (by kernel_rfl)
theorem ok90 : FnOk Go.Proofs.Try.prog nm fnE 90 18 := .of Go.Proofs.Try.func90 (by kernel_rfl) (by kernel_rfl) rfl (by kernel_rfl)
theorem ok97 : FnOk Go.Proofs.Try.prog nm fnE 97 127 := .of Go.Proofs.Try.func97 (by kernel_rfl) (by kernel_rfl) rfl (by kernel_rfl)
theorem ok98 : FnOk Go.Proofs.Try.prog nm fnE 98 128 := .of Go.Proofs.Try.func98 (by kernel_rfl) (by kernel_rfl) rfl (by kernel_rfl)
theorem ok99 : FnOk Go.Proofs.Try.prog nm fnE 99 129 := .of Go.Proofs.Try.func99 (by kernel_rfl) (by kernel_rfl) rfl (by kernel_rfl)
theorem y24k : FnOk Go.Proofs.Try.prog nm fnE 113 50 := .of Go.Proofs.Try.func113 (by kernel_rfl) (by kernel_rfl) rfl (by kernel_rfl)
theorem y25d : FnOk Go.Proofs.Try.prog nm fnE 114 37 := .of Go.Proofs.Try.func114 (by kernel_rfl) (by kernel_rfl) rfl (by kernel_rfl)
theorem y243 : FnOk Go.Proofs.Try.prog nm fnE 115 51 := .of Go.Proofs.Try.func115 (by kernel_rfl) (by kernel_rfl) rfl (by kernel_rfl)
theorem y240 : FnOk Go.Proofs.Try.prog nm fnE 121 130 := .of Go.Proofs.Try.func121 (by kernel_rfl) (by kernel_rfl) rfl (by kernel_rfl)
theorem y23v : FnOk Go.Proofs.Try.prog nm fnE 122 131 := .of Go.Proofs.Try.func122 (by kernel_rfl) (by kernel_rfl) rfl (by kernel_rfl)
theorem y24e : FnOk Go.Proofs.Try.prog nm fnE 130 44 := .of Go.Proofs.Try.func130 (by kernel_rfl) (by kernel_rfl) rfl (by kernel_rfl)
theorem y23x : FnOk Go.Proofs.Try.prog nm fnE 131 132 := .of Go.Proofs.Try.func131 (by kernel_rfl) (by kernel_rfl) rfl (by kernel_rfl)
theorem y23z : FnOk Go.Proofs.Try.prog nm fnE 135 60 := .of Go.Proofs.Try.func135 (by kernel_rfl) (by kernel_rfl) rfl (by kernel_rfl)
theorem y24r : AllF Go.Proofs.Try.prog nm fnE 0 tbl :=
  ⟨ok10, ok16, ok18, ok20, ok24, ok26, ok37, ok38, ok39, ok40, ok43, ok44, ok45, ok46, ok47, ok54, ok56, ok60, ok61, ok82, ok83, ok84, ok90, ok97, ok98, ok99, y24k, y25d, y243, y240, y23v, y24e, y23x, y23z, trivial⟩
theorem y253 : EnvOk Go.Proofs.Try.prog nm E := y1sd (by kernel_rfl) y24r .nothing
end Go.Vm
