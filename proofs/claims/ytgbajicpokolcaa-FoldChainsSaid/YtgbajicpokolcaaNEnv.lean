/- The machine's form of functions, each checked against the translation, and the environment that they make. -/
import Derived.Test.YtgbajicpokolcaaVc
import Derived.Test.YtgbajicpokolcaaProg
import Derived.KernelRfl
set_option linter.unusedSimpArgs false
set_option linter.unusedVariables false
set_option linter.unusedSectionVars false
namespace Go.Vm
def y1ci : CCode :=
  (.seq (.region [
 kO 68 (.fa 3 5),
 kO 69 (.ld false 1 68),
 kO 70 (.build [(.int .i64 0), (.int .i64 0), (.int .i64 0), (.int .i64 0), (.int .i64 0), (.int .i64 0), (.int .i64 0), (.str []), .nils] [(0, 1, (ci 30)), (2, 1, (ci 0))]),
 kO 71 (.buildS (some 5) 9 1 [(.int .i64 0), (.int .i64 0), (.int .i64 0), (.int .i64 0), (.int .i64 0), (.int .i64 0), (.int .i64 0), (.str []), .nils] [(0, 70)]),
 kO 72 (.app (some 6) 9 96 69 71),
 kO 73 (.fa 3 5),
 kU (.st 1 73 72)])
 (.seq (.region [
 kO 74 (.ld true 5 5),
 kO 75 (.call none true 125 [74]),
 kO 11 (.new (some 7) [.nils, .nils, (.int .i64 0), .nils, .nils]),
 kU (.st 5 11 75)])
 (.seq (.region [
 kO 76 (.fa 3 11),
 kO 77 (.ld false 1 76),
 kO 78 (.fa 3 11),
 kO 79 (.ld false 1 78),
 kO 80 (.len 1 79),
 kO 81 (.bin .sub 80 (ci 2)),
 kO 82 (.ixs 9 77 81),
 kO 83 (.ld true 9 82),
 kO 12 (.new (some 8) [(.int .i64 0), (.int .i64 0), (.int .i64 0), (.int .i64 0), (.int .i64 0), (.int .i64 0), (.int .i64 0), (.str []), .nils]),
 kU (.st 9 12 83)])
 (.seq (.region [
 kO 84 (.fa 3 11),
 kO 85 (.ld false 1 84),
 kO 86 (.len 1 85),
 kO 87 (.fa 3 5),
 kO 88 (.ld false 1 87),
 kO 89 (.len 1 88),
 kO 90 (.bin .eql 86 89),
 kO 91 (.mv 90),
 kG 92 (.mv 0) 91 true,
 kG 93 (.len 1 92) 91 true,
 kG 94 (.bin .eql 93 (ci 0)) 91 true,
 kG 95 (.mv 94) 91 true,
 kG 96 (.fa 0 12) 95 false,
 kG 97 (.ld false 1 96) 95 false,
 kG 98 (.bin .eql 97 (ci 5)) 95 false,
 kG 99 (.pick 95 (.c (.bool true)) 98) 91 true,
 kG 100 (.mv 99) 91 true,
 kG 101 (.fa 0 12) 100 false,
 kG 102 (.ld false 1 101) 100 false,
 kG 103 (.bin .eql 102 (ci 1)) 100 false,
 kG 104 (.mv 103) 100 false,
 kG 105 (.fa 5 12) 104 true,
 kG 106 (.ld false 1 105) 104 true,
 kG 107 (.mv 6) 104 true,
 kG 108 (.bin .eql 106 107) 104 true,
 kG 109 (.pick 104 108 (.c (.bool false))) 100 false,
 kG 110 (.mv 109) 100 false,
 kG 111 (.fa 1 12) 110 true,
 kG 112 (.ld false 1 111) 110 true,
 kG 113 (.bin .eql 112 (ci 0)) 110 true,
 kG 114 (.pick 110 113 (.c (.bool false))) 100 false,
 kG 115 (.pick 100 (.c (.bool true)) 114) 91 true,
 kO 116 (.pick 91 115 (.c (.bool false))),
 kO 117 (.mv 116),
 kG 118 (.ld true 5 11) 117 true,
 kG 119 (.call none true 134 [118]) 117 true,
 kG 120 (.mv 6) 117 true,
 kG 121 (.bin .eql 119 120) 117 true,
 kO 122 (.pick 117 121 (.c (.bool false))),
 kO 4 (.mv 122)])
 .ret))))
def y14x : CCode :=
  (.region [
 kO 67 (.bin .add 35 (ci 1)),
 kO 35 (.mv 67)])
def y1ee : CCode :=
  (.seq (.block 1 (.seq (.region [
 kO 37 (.mv 35),
 kO 38 (.ixs 1 33 35),
 kO 39 (.ld false 1 38),
 kO 7 (.mv 37),
 kO 8 (.mv 39)])
 (.seq (.region [
 kO 40 (.build [(.int .i64 0), (.int .i64 0), (.int .i64 0), (.int .i64 0), (.int .i64 0), (.int .i64 0), (.int .i64 0)] [(0, 1, (ci 97)), (1, 1, (ci 101)), (2, 1, (ci 105)), (3, 1, (ci 109)), (4, 1, (ci 127)), (5, 1, (ci 129)), (6, 1, (ci 131))]),
 kO 41 (.mv 8),
 kO 42 (.bin .rem 41 (ci 7)),
 kO 43 (.bin .add 42 (ci 7)),
 kO 44 (.bin .rem 43 (ci 7)),
 kO 45 (.ixv false 7 1 40 44),
 kO 9 (.mv 45)])
 (.seq (.region [
 kO 46 (.mv 1),
 kO 47 (.mv 7),
 kO 48 (.bin .add 47 (ci 1)),
 kO 49 (.mv 1),
 kO 50 (.len 1 49),
 kO 51 (.bin .rem 48 50),
 kO 52 (.ixs 1 46 51),
 kO 53 (.ld false 1 52),
 kO 10 (.mv 53)])
 (.seq (.region [
 kO 54 (.fa 3 5),
 kO 55 (.ld false 1 54),
 kO 56 (.mv 10),
 kO 57 (.build [(.int .i64 0), (.int .i64 0), (.int .i64 0), (.int .i64 0), (.int .i64 0), (.int .i64 0), (.int .i64 0), (.str []), .nils] [(0, 1, (ci 1)), (1, 1, (ci 1)), (5, 1, 56)]),
 kO 58 (.mv 9),
 kO 59 (.build [(.int .i64 0), (.int .i64 0), (.int .i64 0), (.int .i64 0), (.int .i64 0), (.int .i64 0), (.int .i64 0), (.str []), .nils] [(0, 1, (ci 5)), (5, 1, 58), (1, 1, (ci 0)), (2, 1, (ci 0)), (3, 1, (ci 1))]),
 kO 60 (.buildS (some 3) 9 2 [(.int .i64 0), (.int .i64 0), (.int .i64 0), (.int .i64 0), (.int .i64 0), (.int .i64 0), (.int .i64 0), (.str []), .nils] [(0, 57), (1, 59)]),
 kO 61 (.app (some 4) 9 96 55 60),
 kO 62 (.fa 3 5),
 kU (.st 1 62 61)])
 (.region [
 kO 63 (.mv 9),
 kO 64 (.mv 6),
 kO 65 (.mv 10),
 kO 66 (.call none true 133 [63, 64, 65]),
 kO 6 (.mv 66)]))))))
 y14x)
def y13v : CCode :=
  (.seq (.cond 36
 .skip
 (.exit 0))
 y1ee)
def y143 : CCode :=
  (.seq (.region [
 kO 36 (.bin .lss 35 34)])
 y13v)
def yii : CCode :=
  (.loop [0, 1, 5, 6, 33, 34, 35] y143)
def y17r : CCode :=
  (.block 0 yii)
def y17u : CCode :=
  (.seq (.region [
 kO 33 (.mv 0),
 kO 34 (.len 1 33),
 kO 35 (.mv (ci 0))])
 y17r)
def y1ah : CCode :=
  (.seq y17u
 y1ci)
def yoj : CCode :=
  (.seq (.region [
 kO 30 (.mv 1),
 kO 31 (.ixs 1 30 (ci 0)),
 kO 32 (.ld false 1 31),
 kO 6 (.mv 32)])
 y1ah)
def yq3 : CCode :=
  (.seq (.region [
 kO 23 (.buildS (some 0) 1 2 [(.int .i64 0)] [(0, (ci 2)), (1, (ci 2))]),
 kO 24 (.mv 1),
 kO 25 (.ixs 1 24 (ci 0)),
 kO 26 (.ld false 1 25),
 kO 27 (.build [(.int .i64 0), (.int .i64 0), (.int .i64 0), (.int .i64 0), (.int .i64 0), (.int .i64 0), (.int .i64 0), (.str []), .nils] [(0, 1, (ci 1)), (1, 1, (ci 0)), (5, 1, 26)]),
 kO 28 (.buildS (some 1) 9 1 [(.int .i64 0), (.int .i64 0), (.int .i64 0), (.int .i64 0), (.int .i64 0), (.int .i64 0), (.int .i64 0), (.str []), .nils] [(0, 27)]),
 kO 29 (.build [.nils, .nils, (.int .i64 0), .nils, .nils] [(0, 1, 23), (2, 1, (ci 2)), (3, 1, 28)]),
 kO 5 (.new (some 2) [.nils, .nils, (.int .i64 0), .nils, .nils]),
 kU (.st 5 5 29)])
 yoj)
def yum : CCode :=
  (.seq (.seq (.region [
 kO 15 (.mv 0),
 kO 16 (.len 1 15),
 kO 17 (.bin .gtr 16 (ci 100)),
 kO 18 (.mv 17),
 kG 19 (.mv 1) 18 false,
 kG 20 (.len 1 19) 18 false,
 kG 21 (.bin .eql 20 (ci 0)) 18 false,
 kO 22 (.pick 18 (.c (.bool true)) 21)])
 (.cond 22
 (.seq (.region [
  kO 4 (.mv (.c (.bool true)))])
  .ret)
 .skip))
 yq3)
def ywf : CCode :=
  (.seq (.seq (.region [
 kO 13 (.call none true 124 []),
 kO 14 (.un .not 13)])
 (.cond 14
 (.seq (.region [
  kO 4 (.mv (.c (.bool false)))])
  .ret)
 .skip))
 yum)
def yti : CCode :=
  (.seq (.region [
 kO 4 (.mv (.c (.bool false)))])
 ywf)
def y21s : CFunc :=
  ⟨2, true, 9, yti, [.t 4]⟩
def y1h9 : CCode :=
  (.seq (.region [
 kO 39 (.ld true 5 3),
 kU (.st 5 2 39)])
 .ret)
def y00 : CCode :=
  (.region [
 kO 38 (.bin .add 23 (ci 1)),
 kO 23 (.mv 38)])
def y14e : CCode :=
  (.seq (.block 1 (.seq (.region [
 kO 25 (.mv 23),
 kO 4 (.mv 25)])
 (.draw [
 kO 26 (.fa 3 3),
 kO 27 (.ld false 1 26),
 kO 28 (.mv 4),
 kO 29 (.fa 3 3),
 kO 30 (.ld false 1 29),
 kO 31 (.mv 4),
 kO 32 (.ixs 9 30 31),
 kO 33 (.fa 8 32),
 kO 34 (.ld false 1 33),
 kO 35 (.call none true 39 [34]),
 kO 36 (.ixs 9 27 28),
 kO 37 (.fa 8 36),
 kU (.st 1 37 35)] [(1, 9)])))
 y00)
def y145 : CCode :=
  (.seq (.cond 24
 .skip
 (.exit 0))
 y14e)
def y1gv : CCode :=
  (.seq (.region [
 kO 24 (.bin .lss 23 22)])
 y145)
def yji : CCode :=
  (.loop [2, 3, 22, 23] y1gv)
def y1bp : CCode :=
  (.block 0 yji)
def y1c2 : CCode :=
  (.seq (.region [
 kO 20 (.fa 3 3),
 kO 21 (.ld false 1 20),
 kO 22 (.len 1 21),
 kO 23 (.mv (ci 0))])
 y1bp)
def y14m : CCode :=
  (.seq y1c2
 y1h9)
def ys7 : CCode :=
  (.seq (.draw [
 kO 5 (.fa 0 1),
 kO 6 (.ld false 1 5),
 kO 7 (.call (some 2) false 39 [6]),
 kO 8 (.fa 1 1),
 kO 9 (.ld false 1 8),
 kO 10 (.call (some 3) false 39 [9]),
 kO 11 (.fa 2 1),
 kO 12 (.ld false 1 11),
 kO 13 (.fa 3 1),
 kO 14 (.ld false 1 13),
 kO 15 (.call (some 4) false 40 [14]),
 kO 16 (.fa 4 1),
 kO 17 (.ld false 1 16),
 kO 18 (.call (some 5) false 41 [17]),
 kO 19 (.build [.nils, .nils, (.int .i64 0), .nils, .nils] [(0, 1, 7), (1, 1, 10), (2, 1, 12), (3, 1, 15), (4, 1, 18)]),
 kO 3 (.new (some 6) [.nils, .nils, (.int .i64 0), .nils, .nils]),
 kU (.st 5 3 19)] [(2, 4), (2, 7), (5, 7), (2, 9), (5, 9), (7, 10), (2, 12), (5, 12), (10, 12), (7, 13), (1, 15), (2, 15), (4, 15), (5, 15), (7, 15), (9, 15), (10, 15), (12, 15), (13, 15)])
 y14m)
def yvh : CCode :=
  (.seq (.region [
 kO 1 (.box (some 0) 0),
 kO 2 (.new (some 1) [.nils, .nils, (.int .i64 0), .nils, .nils])])
 ys7)
def y206 : CFunc :=
  ⟨1, true, 7, yvh, [.cell 2 true 5]⟩
def y16d : CCode :=
  (.seq (.region [
 kO 2 (.mv (ci 0))])
 .ret)
def y1at : CCode :=
  (.region [
 kO 179 (.bin .add 138 (ci 1)),
 kO 138 (.mv 179)])
def y1fz : CCode :=
  (.seq (.block 7 (.seq (.region [
 kO 140 (.ixs 4 136 138),
 kO 141 (.ld true 4 140),
 kO 11 (.new (some 2) [(.int .i64 0), (.int .i64 0), (.int .i64 0), (.str [])]),
 kU (.st 4 11 141)])
 (.seq (.region [
 kO 142 (.fa 0 11),
 kO 143 (.ld false 1 142),
 kO 144 (.bin .lss 143 (ci 0)),
 kO 145 (.mv 144),
 kG 146 (.fa 0 11) 145 false,
 kG 147 (.ld false 1 146) 145 false,
 kG 148 (.fa 1 11) 145 false,
 kG 149 (.ld false 1 148) 145 false,
 kG 150 (.bin .geq 147 149) 145 false,
 kO 151 (.pick 145 (.c (.bool true)) 150),
 kO 152 (.mv 151),
 kG 153 (.fa 1 11) 152 false,
 kG 154 (.ld false 1 153) 152 false,
 kG 155 (.mv 3) 152 false,
 kG 156 (.bin .gtr 154 155) 152 false,
 kO 157 (.pick 152 (.c (.bool true)) 156),
 kO 158 (.mv 157),
 kG 159 (.fa 2 11) 158 false,
 kG 160 (.ld false 1 159) 158 false,
 kG 161 (.bin .lss 160 (ci 0)) 158 false,
 kO 162 (.pick 158 (.c (.bool true)) 161),
 kO 163 (.mv 162),
 kG 164 (.fa 2 11) 163 false,
 kG 165 (.ld false 1 164) 163 false,
 kG 166 (.mv 3) 163 false,
 kG 167 (.bin .geq 165 166) 163 false,
 kO 168 (.pick 163 (.c (.bool true)) 167),
 kO 169 (.mv 168),
 kG 170 (.fa 3 1) 169 false,
 kG 171 (.ld false 1 170) 169 false,
 kG 172 (.fa 2 11) 169 false,
 kG 173 (.ld false 1 172) 169 false,
 kG 174 (.ixs 9 171 173) 169 false,
 kG 175 (.fa 0 174) 169 false,
 kG 176 (.ld false 1 175) 169 false,
 kG 177 (.bin .neq 176 (ci 32)) 169 false,
 kO 178 (.pick 169 (.c (.bool true)) 177)])
 (.cond 178
 (.seq (.region [
  kO 2 (.mv (ci 80))])
  .ret)
 .skip))))
 y1at)
def yzp : CCode :=
  (.seq (.cond 139
 .skip
 (.exit 6))
 y1fz)
def y1eb : CCode :=
  (.seq (.region [
 kO 139 (.bin .lss 138 137)])
 yzp)
def yj7 : CCode :=
  (.loop [1, 3, 136, 137, 138] y1eb)
def y14t : CCode :=
  (.block 6 yj7)
def y1gl : CCode :=
  (.seq (.region [
 kO 135 (.fa 4 1),
 kO 136 (.ld false 1 135),
 kO 137 (.len 1 136),
 kO 138 (.mv (ci 0))])
 y14t)
def y1cc : CCode :=
  (.seq y1gl
 y16d)
def yrq : CCode :=
  (.region [
 kO 134 (.bin .add 94 (ci 1)),
 kO 94 (.mv 134)])
def yp3 : CCode :=
  (.seq (.region [
 kO 103 (.fa 0 9),
 kO 104 (.ld false 1 103),
 kO 105 (.bin .eql 104 (ci 32)),
 kO 106 (.mv 105),
 kG 107 (.mv 8) 106 true,
 kG 108 (.bin .eql 107 (ci 0)) 106 true,
 kG 109 (.mv 108) 106 true,
 kG 110 (.fa 3 1) 109 false,
 kG 111 (.ld false 1 110) 109 false,
 kG 112 (.mv 8) 109 false,
 kG 113 (.bin .sub 112 (ci 1)) 109 false,
 kG 114 (.ixs 9 111 113) 109 false,
 kG 115 (.ld true 9 114) 109 false,
 kG 116 (.call none true 24 [115]) 109 false,
 kG 117 (.un .not 116) 109 false,
 kG 118 (.pick 109 (.c (.bool true)) 117) 106 true,
 kO 119 (.pick 106 118 (.c (.bool false))),
 kO 120 (.mv 119),
 kG 121 (.ld true 9 9) 120 false,
 kG 122 (.call none true 22 [121]) 120 false,
 kG 123 (.mv 122) 120 false,
 kG 124 (.fa 3 1) 123 true,
 kG 125 (.ld false 1 124) 123 true,
 kG 126 (.fa 6 9) 123 true,
 kG 127 (.ld false 1 126) 123 true,
 kG 128 (.ixs 9 125 127) 123 true,
 kG 129 (.fa 0 128) 123 true,
 kG 130 (.ld false 1 129) 123 true,
 kG 131 (.bin .eql 130 (ci 32)) 123 true,
 kG 132 (.pick 123 131 (.c (.bool false))) 120 false,
 kO 133 (.pick 120 (.c (.bool true)) 132)])
 (.cond 133
 (.seq (.region [
  kO 2 (.mv (ci 80))])
  .ret)
 .skip))
def yrn : CCode :=
  (.seq (.seq (.region [
 kO 99 (.ld true 5 1),
 kO 100 (.ld true 9 9),
 kO 101 (.call none true 63 [99, 100]),
 kO 102 (.un .not 101)])
 (.cond 102
 (.seq (.region [
  kO 2 (.mv (ci 80))])
  .ret)
 .skip))
 yp3)
def yry : CCode :=
  (.seq (.region [
 kO 96 (.mv 94),
 kO 97 (.ixs 9 92 94),
 kO 98 (.ld true 9 97),
 kO 9 (.new (some 1) [(.int .i64 0), (.int .i64 0), (.int .i64 0), (.int .i64 0), (.int .i64 0), (.int .i64 0), (.int .i64 0), (.str []), .nils]),
 kO 8 (.mv 96),
 kU (.st 9 9 98)])
 yrn)
def yw6 : CCode :=
  (.block 5 yry)
def ysn : CCode :=
  (.seq yw6
 yrq)
def yqa : CCode :=
  (.seq (.cond 95
 .skip
 (.exit 4))
 ysn)
def ysw : CCode :=
  (.seq (.region [
 kO 95 (.bin .lss 94 93)])
 yqa)
def yep : CCode :=
  (.loop [1, 3, 92, 93, 94] ysw)
def ys6 : CCode :=
  (.block 4 yep)
def yx2 : CCode :=
  (.seq (.region [
 kO 91 (.fa 3 1),
 kO 92 (.ld false 1 91),
 kO 93 (.len 1 92),
 kO 94 (.mv (ci 0))])
 ys6)
def yp2 : CCode :=
  (.seq yx2
 y1cc)
def yvs : CCode :=
  (.region [
 kO 90 (.bin .add 64 (ci 1)),
 kO 64 (.mv 90)])
def ypk : CCode :=
  (.seq (.block 3 (.seq (.region [
 kO 66 (.mv 64),
 kO 67 (.ixs 1 62 64),
 kO 68 (.ld false 1 67),
 kO 6 (.mv 66),
 kO 7 (.mv 68)])
 (.seq (.region [
 kO 69 (.mv 7),
 kO 70 (.bin .lss 69 (ci 0)),
 kO 71 (.mv 70),
 kG 72 (.mv 7) 71 false,
 kG 73 (.fa 0 1) 71 false,
 kG 74 (.ld false 1 73) 71 false,
 kG 75 (.len 1 74) 71 false,
 kG 76 (.bin .geq 72 75) 71 false,
 kO 77 (.pick 71 (.c (.bool true)) 76),
 kO 78 (.mv 77),
 kG 79 (.fa 1 1) 78 false,
 kG 80 (.ld false 1 79) 78 false,
 kG 81 (.mv 6) 78 false,
 kG 82 (.slc 1 80 none (some 81)) 78 false,
 kG 83 (.mv 7) 78 false,
 kG 84 (.call none true 46 [82, 83]) 78 false,
 kO 85 (.pick 78 (.c (.bool true)) 84),
 kO 86 (.mv 85),
 kG 87 (.mv 6) 86 false,
 kG 88 (.bin .gtr 87 (ci 20)) 86 false,
 kO 89 (.pick 86 (.c (.bool true)) 88)])
 (.cond 89
 (.seq (.region [
  kO 2 (.mv (ci 80))])
  .ret)
 .skip))))
 yvs)
def yrb : CCode :=
  (.seq (.cond 65
 .skip
 (.exit 2))
 ypk)
def ysb : CCode :=
  (.seq (.region [
 kO 65 (.bin .lss 64 63)])
 yrb)
def yf1 : CCode :=
  (.loop [1, 3, 62, 63, 64] ysb)
def ywe : CCode :=
  (.block 2 yf1)
def yvw : CCode :=
  (.seq (.region [
 kO 61 (.fa 1 1),
 kO 62 (.ld false 1 61),
 kO 63 (.len 1 62),
 kO 64 (.mv (ci 0))])
 ywe)
def yrg : CCode :=
  (.seq yvw
 yp2)
def ytz : CCode :=
  (.region [
 kO 60 (.bin .add 50 (ci 1)),
 kO 50 (.mv 60)])
def yua : CCode :=
  (.seq (.block 1 (.seq (.region [
 kO 52 (.ixs 1 48 50),
 kO 53 (.ld false 1 52),
 kO 5 (.mv 53)])
 (.seq (.region [
 kO 54 (.mv 5),
 kO 55 (.bin .lss 54 (ci 1)),
 kO 56 (.mv 55),
 kG 57 (.mv 5) 56 false,
 kG 58 (.bin .gtr 57 (ci 3)) 56 false,
 kO 59 (.pick 56 (.c (.bool true)) 58)])
 (.cond 59
 (.seq (.region [
  kO 2 (.mv (ci 80))])
  .ret)
 .skip))))
 ytz)
def yrr : CCode :=
  (.seq (.cond 51
 .skip
 (.exit 0))
 yua)
def yr7 : CCode :=
  (.seq (.region [
 kO 51 (.bin .lss 50 49)])
 yrr)
def ydi : CCode :=
  (.loop [1, 3, 48, 49, 50] yr7)
def yq7 : CCode :=
  (.block 0 ydi)
def ypn : CCode :=
  (.seq (.region [
 kO 47 (.fa 0 1),
 kO 48 (.ld false 1 47),
 kO 49 (.len 1 48),
 kO 50 (.mv (ci 0))])
 yq7)
def yow : CCode :=
  (.seq ypn
 yrg)
def ypv : CCode :=
  (.seq (.seq (.region [
 kO 15 (.mv 3),
 kO 16 (.bin .lss 15 (ci 1)),
 kO 17 (.mv 16),
 kG 18 (.mv 3) 17 false,
 kG 19 (.bin .gtr 18 (ci 20000)) 17 false,
 kO 20 (.pick 17 (.c (.bool true)) 19),
 kO 21 (.mv 20),
 kG 22 (.fa 0 1) 21 false,
 kG 23 (.ld false 1 22) 21 false,
 kG 24 (.len 1 23) 21 false,
 kG 25 (.bin .gtr 24 (ci 20000)) 21 false,
 kO 26 (.pick 21 (.c (.bool true)) 25),
 kO 27 (.mv 26),
 kG 28 (.fa 2 1) 27 false,
 kG 29 (.ld false 1 28) 27 false,
 kG 30 (.bin .lss 29 (ci 0)) 27 false,
 kO 31 (.pick 27 (.c (.bool true)) 30),
 kO 32 (.mv 31),
 kG 33 (.fa 2 1) 32 false,
 kG 34 (.ld false 1 33) 32 false,
 kG 35 (.bin .gtr 34 (ci 3)) 32 false,
 kO 36 (.pick 32 (.c (.bool true)) 35),
 kO 37 (.mv 36),
 kG 38 (.fa 3 1) 37 false,
 kG 39 (.ld false 1 38) 37 false,
 kG 40 (.mv 3) 37 false,
 kG 41 (.bin .sub 40 (ci 1)) 37 false,
 kG 42 (.ixs 9 39 41) 37 false,
 kG 43 (.ld true 9 42) 37 false,
 kG 44 (.call none true 24 [43]) 37 false,
 kG 45 (.un .not 44) 37 false,
 kO 46 (.pick 37 (.c (.bool true)) 45)])
 (.cond 46
 (.seq (.region [
  kO 2 (.mv (ci 80))])
  .ret)
 .skip))
 yow)
def yvr : CCode :=
  (.seq (.region [
 kO 12 (.fa 3 1),
 kO 13 (.ld false 1 12),
 kO 14 (.len 1 13),
 kO 3 (.mv 14)])
 ypv)
def yu1 : CCode :=
  (.seq (.region [
 kO 1 (.box (some 0) 0),
 kO 2 (.mv (ci 0))])
 yvr)
def y232 : CFunc :=
  ⟨1, true, 3, yu1, [.t 2]⟩
def y29y : CFunc :=
  ⟨0, true, 3, (.seq (.region [
    kO 0 (.mv (.c (.bool false)))])
  (.seq (.region [
    kO 2 (.buildS (some 0) 1 3 [(.int .i64 0)] [(0, (ci 1)), (1, (ci 1)), (2, (ci 1))]),
    kO 3 (.build [(.int .i64 0), (.int .i64 0), (.int .i64 0), (.int .i64 0), (.int .i64 0), (.int .i64 0), (.int .i64 0), (.str []), .nils] [(0, 1, (ci 1)), (1, 1, (ci 0)), (5, 1, (ci 2))]),
    kO 4 (.build [(.int .i64 0), (.int .i64 0), (.int .i64 0), (.int .i64 0), (.int .i64 0), (.int .i64 0), (.int .i64 0), (.str []), .nils] [(0, 1, (ci 1)), (1, 1, (ci 1)), (5, 1, (ci 3))]),
    kO 5 (.build [(.int .i64 0), (.int .i64 0), (.int .i64 0), (.int .i64 0), (.int .i64 0), (.int .i64 0), (.int .i64 0), (.str []), .nils] [(0, 1, (ci 5)), (5, 1, (ci 104)), (1, 1, (ci 2)), (2, 1, (ci 0)), (3, 1, (ci 1))]),
    kO 6 (.build [(.int .i64 0), (.int .i64 0), (.int .i64 0), (.int .i64 0), (.int .i64 0), (.int .i64 0), (.int .i64 0), (.str []), .nils] [(0, 1, (ci 30)), (2, 1, (ci 2))]),
    kO 7 (.buildS (some 1) 9 4 [(.int .i64 0), (.int .i64 0), (.int .i64 0), (.int .i64 0), (.int .i64 0), (.int .i64 0), (.int .i64 0), (.str []), .nils] [(0, 3), (1, 4), (2, 5), (3, 6)]),
    kO 8 (.build [.nils, .nils, (.int .i64 0), .nils, .nils] [(0, 1, 2), (2, 1, (ci 1)), (3, 1, 7)]),
    kO 9 (.call none true 125 [8]),
    kO 1 (.new (some 2) [.nils, .nils, (.int .i64 0), .nils, .nils]),
    kU (.st 5 1 9)])
  (.seq (.region [
    kO 10 (.fa 3 1),
    kO 11 (.ld false 1 10),
    kO 12 (.len 1 11),
    kO 13 (.bin .eql 12 (ci 4)),
    kO 14 (.mv 13),
    kG 15 (.fa 3 1) 14 true,
    kG 16 (.ld false 1 15) 14 true,
    kG 17 (.ixs 9 16 (ci 2)) 14 true,
    kG 18 (.fa 0 17) 14 true,
    kG 19 (.ld false 1 18) 14 true,
    kG 20 (.bin .eql 19 (ci 1)) 14 true,
    kO 21 (.pick 14 20 (.c (.bool false))),
    kO 22 (.mv 21),
    kG 23 (.fa 3 1) 22 true,
    kG 24 (.ld false 1 23) 22 true,
    kG 25 (.ixs 9 24 (ci 2)) 22 true,
    kG 26 (.fa 5 25) 22 true,
    kG 27 (.ld false 1 26) 22 true,
    kG 28 (.bin .eql 27 (ci 6)) 22 true,
    kO 29 (.pick 22 28 (.c (.bool false))),
    kO 30 (.mv 29),
    kG 31 (.fa 3 1) 30 true,
    kG 32 (.ld false 1 31) 30 true,
    kG 33 (.ixs 9 32 (ci 2)) 30 true,
    kG 34 (.fa 1 33) 30 true,
    kG 35 (.ld false 1 34) 30 true,
    kG 36 (.bin .eql 35 (ci 2)) 30 true,
    kO 37 (.pick 30 36 (.c (.bool false))),
    kO 0 (.mv 37)])
  .ret))), [.t 0]⟩
def y16o : CCode :=
  (.seq (.region [
 kO 26 (.mv 0),
 kO 27 (.bin .sub 26 (ci 1)),
 kO 28 (.mv 1),
 kO 29 (.mv 2),
 kO 30 (.call none true 136 [27, 28, 29, (.c (.bool true))]),
 kO 6 (.mv 30)])
 .ret)
def y1ge : CCode :=
  (.seq (.seq (.region [
 kO 17 (.mv 0),
 kO 18 (.bin .and 17 (ci 1)),
 kO 19 (.bin .eql 18 (ci 0))])
 (.cond 19
 (.seq (.region [
  kO 20 (.mv 0),
  kO 21 (.mv 1),
  kO 22 (.call none true 135 [21, (ci 32)]),
  kO 23 (.mv 2),
  kO 24 (.call none true 135 [23, (ci 32)]),
  kO 25 (.call none true 136 [20, 22, 24, (.c (.bool false))]),
  kO 6 (.mv 25)])
  .ret)
 .skip))
 y16o)
def y1cw : CCode :=
  (.seq (.region [
 kO 16 (.mv 7),
 kO 6 (.mv 16)])
 .ret)
def y182 : CCode :=
  (.seq (.seq (.region [
 kO 13 (.mv 1),
 kO 14 (.mv 2),
 kO 15 (.bin .gtr 13 14)])
 (.cond 15
 (.region [
  kO 7 (.mv (ci 1))])
 .skip))
 y1cw)
def y1ap : CCode :=
  (.seq (.seq (.region [
 kO 10 (.mv 1),
 kO 11 (.mv 2),
 kO 12 (.bin .lss 10 11)])
 (.cond 12
 (.region [
  kO 7 (.mv (ci (-1)))])
 .skip))
 y182)
def y1es : CCode :=
  (.seq (.region [
 kO 7 (.mv (ci 0))])
 y1ap)
def yzj : CCode :=
  (.cond 9
 y1es
 .skip)
def y1g6 : CCode :=
  (.seq (.region [
 kO 8 (.mv 0),
 kO 9 (.bin .eql 8 (ci 148))])
 yzj)
def y15p : CCode :=
  (.seq y1g6
 y1ge)
def yvt : CCode :=
  (.seq (.region [
 kO 6 (.mv (ci 0))])
 y15p)
def y20x : CFunc :=
  ⟨3, true, 0, yvt, [.t 6]⟩
def y1ai : CCode :=
  (.seq (.region [
 kO 62 (.ld true 5 1),
 kU (.st 5 2 62)])
 .ret)
def y1c9 : CCode :=
  (.region [
 kO 61 (.bin .add 31 (ci 1)),
 kO 31 (.mv 61)])
def y1f5 : CCode :=
  (.seq (.region [
 kO 40 (.ld true 9 8),
 kO 41 (.mv 6),
 kO 42 (.call none false 126 [40, 41]),
 kU (.st 9 8 42)])
 (.seq (.region [
 kO 43 (.fa 3 1),
 kO 44 (.ld false 1 43),
 kO 45 (.mv 7),
 kO 46 (.ld true 9 8),
 kO 47 (.ixs 9 44 45),
 kU (.st 9 47 46)])
 (.seq (.region [
 kO 48 (.ld true 9 8),
 kO 49 (.call none true 9 [48]),
 kO 9 (.mv 49)])
 (.seq (.region [
 kO 50 (.mv 9),
 kO 51 (.bin .geq 50 (ci 0))])
 (.cond 51
 (.seq (.region [
  kO 52 (.mv 6),
  kO 53 (.mv 9),
  kU (.mdel false [0] 52 53)])
  (.seq (.region [
  kO 54 (.fa 0 8),
  kO 55 (.ld false 1 54),
  kO 56 (.bin .eql 55 (ci 1))])
  (.cond 56
  (.region [
   kO 57 (.mv 6),
   kO 58 (.mv 9),
   kO 59 (.fa 5 8),
   kO 60 (.ld false 1 59),
   kU (.mput false [0] 57 58 60)])
  .skip)))
 .skip)))))
def y0d : CCode :=
  (.seq (.seq (.region [
 kO 36 (.mv 3),
 kO 37 (.mv 7),
 kO 38 (.mget false [0] (.bool false) false 36 37)])
 (.cond 38
 (.region [
  kO 39 (.mv 6),
  kU (.mclr 39)])
 .skip))
 y1f5)
def y1fy : CCode :=
  (.seq (.region [
 kO 33 (.mv 31),
 kO 34 (.ixs 9 29 31),
 kO 35 (.ld true 9 34),
 kO 8 (.new (some 12) [(.int .i64 0), (.int .i64 0), (.int .i64 0), (.int .i64 0), (.int .i64 0), (.int .i64 0), (.int .i64 0), (.str []), .nils]),
 kO 7 (.mv 33),
 kU (.st 9 8 35)])
 y0d)
def y16c : CCode :=
  (.block 3 y1fy)
def y1g4 : CCode :=
  (.seq y16c
 y1c9)
def y1co : CCode :=
  (.seq (.cond 32
 .skip
 (.exit 2))
 y1g4)
def ypw : CCode :=
  (.seq (.region [
 kO 32 (.bin .lss 31 30)])
 y1co)
def yjf : CCode :=
  (.loop [1, 2, 3, 6, 29, 30, 31] ypw)
def yqm : CCode :=
  (.block 2 yjf)
def yuq : CCode :=
  (.seq (.region [
 kO 28 (.fa 3 1),
 kO 29 (.ld false 1 28),
 kO 30 (.len 1 29),
 kO 31 (.mv (ci 0))])
 yqm)
def yw4 : CCode :=
  (.seq yuq
 y1ai)
def ys8 : CCode :=
  (.seq (.region [
 kO 27 (.mkm (some 11)),
 kO 6 (.mv 27)])
 yw4)
def ysp : CCode :=
  (.region [
 kO 26 (.bin .add 20 (ci 1)),
 kO 20 (.mv 26)])
def yw8 : CCode :=
  (.seq (.block 1 (.seq (.region [
 kO 22 (.ixs 1 18 20),
 kO 23 (.ld false 1 22),
 kO 5 (.mv 23)])
 (.region [
 kO 24 (.mv 3),
 kO 25 (.mv 5),
 kU (.mput false [0] 24 25 (.c (.bool true)))])))
 ysp)
def yse : CCode :=
  (.seq (.cond 21
 .skip
 (.exit 0))
 yw8)
def yu8 : CCode :=
  (.seq (.region [
 kO 21 (.bin .lss 20 19)])
 yse)
def yek : CCode :=
  (.loop [1, 2, 3, 18, 19, 20] yu8)
def yvq : CCode :=
  (.block 0 yek)
def ypf : CCode :=
  (.seq (.region [
 kO 17 (.ld true 5 1),
 kO 18 (.call none true 102 [17]),
 kO 19 (.len 1 18),
 kO 20 (.mv (ci 0))])
 yvq)
def yts : CCode :=
  (.seq ypf
 ys8)
def ysd : CCode :=
  (.seq (.region [
 kO 16 (.mkm (some 10)),
 kO 3 (.mv 16)])
 yts)
def ysq : CCode :=
  (.seq (.seq (.region [
 kO 12 (.ld true 5 1),
 kO 13 (.call none true 8 [12]),
 kO 14 (.bin .neq 13 (ci 0))])
 (.cond 14
 (.seq (.region [
  kO 15 (.ld true 5 1),
  kU (.st 5 2 15)])
  .ret)
 .skip))
 ysd)
def yvm : CCode :=
  (.seq (.region [
 kO 10 (.ld true 5 1),
 kO 11 (.call (some 2) false 13 [10]),
 kU (.st 5 1 11)])
 ysq)
def yoy : CCode :=
  (.seq (.region [
 kO 1 (.box (some 0) 0),
 kO 2 (.new (some 1) [.nils, .nils, (.int .i64 0), .nils, .nils])])
 yvm)
def y25y : CFunc :=
  ⟨1, true, 13, yoy, [.cell 2 true 5]⟩
def y0r : CCode :=
  (.seq (.region [
 kO 43 (.ixa 2 1 3 (ci 0)),
 kO 44 (.ld false 1 43),
 kO 2 (.mv 44)])
 .ret)
def y1aw : CCode :=
  (.region [
 kO 42 (.bin .add 9 (ci 1)),
 kO 9 (.mv 42)])
def y16p : CCode :=
  (.seq (.block 1 (.seq (.region [
 kO 11 (.ixs 9 7 9),
 kO 12 (.ld true 9 11),
 kO 5 (.new (some 2) [(.int .i64 0), (.int .i64 0), (.int .i64 0), (.int .i64 0), (.int .i64 0), (.int .i64 0), (.int .i64 0), (.str []), .nils]),
 kU (.st 9 5 12)])
 (.seq (.region [
 kO 13 (.fa 0 5),
 kO 14 (.ld false 1 13)])
 (.block 2 (.seq (.region [
 kO 16 (.bin .eql 14 (ci 1)),
 kO 15 (.mv 16)])
 (.cond 15
 (.region [
  kO 17 (.fa 1 5),
  kO 18 (.ld false 1 17),
  kO 19 (.bin .and 18 (ci 1)),
  kO 20 (.fa 5 5),
  kO 21 (.ld false 1 20),
  kO 22 (.ixa 2 1 3 19),
  kU (.st 1 22 21)])
 (.seq (.region [
  kO 24 (.bin .eql 14 (ci 5)),
  kO 23 (.mv 24)])
  (.cond 23
  (.draw [
   kO 25 (.fa 1 5),
   kO 26 (.ld false 1 25),
   kO 27 (.bin .and 26 (ci 1)),
   kO 28 (.fa 5 5),
   kO 29 (.ld false 1 28),
   kO 30 (.fa 2 5),
   kO 31 (.ld false 1 30),
   kO 32 (.bin .and 31 (ci 1)),
   kO 33 (.ixa 2 1 3 32),
   kO 34 (.ld false 1 33),
   kO 35 (.fa 3 5),
   kO 36 (.ld false 1 35),
   kO 37 (.bin .and 36 (ci 1)),
   kO 38 (.ixa 2 1 3 37),
   kO 39 (.ld false 1 38),
   kO 40 (.call none true 133 [29, 34, 39]),
   kO 41 (.ixa 2 1 3 27),
   kU (.st 1 41 40)] [(1, 15)])
  .skip))))))))
 y1aw)
def y1d8 : CCode :=
  (.seq (.cond 10
 .skip
 (.exit 0))
 y16p)
def y1bh : CCode :=
  (.seq (.region [
 kO 10 (.bin .lss 9 8)])
 y1d8)
def yiu : CCode :=
  (.loop [3, 7, 8, 9] y1bh)
def y1h3 : CCode :=
  (.block 0 yiu)
def y1ez : CCode :=
  (.seq (.region [
 kO 6 (.fa 3 1),
 kO 7 (.ld false 1 6),
 kO 8 (.len 1 7),
 kO 9 (.mv (ci 0))])
 y1h3)
def y11e : CCode :=
  (.seq y1ez
 y0r)
def ywg : CCode :=
  (.seq (.region [
 kO 3 (.new (some 1) [(.int .i64 0), (.int .i64 0)])])
 y11e)
def ys4 : CCode :=
  (.seq (.region [
 kO 1 (.box (some 0) 0),
 kO 2 (.mv (ci 0))])
 ywg)
def y21v : CFunc :=
  ⟨1, true, 3, ys4, [.t 2]⟩
def y18j : CCode :=
  (.seq (.region [
 kO 2 (.mv (ci (-1)))])
 .ret)
def y134 : CCode :=
  (.seq (.seq (.region [
 kO 22 (.ld true 9 1),
 kO 23 (.call none true 17 [22])])
 (.cond 23
 (.seq (.region [
  kO 24 (.fa 1 1),
  kO 25 (.ld false 1 24),
  kO 2 (.mv 25)])
  .ret)
 .skip))
 y18j)
def y13h : CCode :=
  (.cond 5
 (.seq (.region [
  kO 20 (.fa 1 1),
  kO 21 (.ld false 1 20),
  kO 2 (.mv 21)])
  .ret)
 .skip)
def y1b8 : CCode :=
  (.seq (.seq (.region [
 kO 6 (.bin .eql 4 (ci 1)),
 kO 5 (.mv 6)])
 (.cond 5
 .skip
 (.seq (.region [
  kO 7 (.bin .eql 4 (ci 2)),
  kO 5 (.mv 7)])
  (.cond 5
  .skip
  (.seq (.region [
   kO 8 (.bin .eql 4 (ci 3)),
   kO 5 (.mv 8)])
   (.cond 5
   .skip
   (.seq (.region [
    kO 9 (.bin .eql 4 (ci 4)),
    kO 5 (.mv 9)])
    (.cond 5
    .skip
    (.seq (.region [
     kO 10 (.bin .eql 4 (ci 5)),
     kO 5 (.mv 10)])
     (.cond 5
     .skip
     (.seq (.region [
      kO 11 (.bin .eql 4 (ci 6)),
      kO 5 (.mv 11)])
      (.cond 5
      .skip
      (.seq (.region [
       kO 12 (.bin .eql 4 (ci 13)),
       kO 5 (.mv 12)])
       (.cond 5
       .skip
       (.seq (.region [
        kO 13 (.bin .eql 4 (ci 15)),
        kO 5 (.mv 13)])
        (.cond 5
        .skip
        (.seq (.region [
         kO 14 (.bin .eql 4 (ci 16)),
         kO 5 (.mv 14)])
         (.cond 5
         .skip
         (.seq (.region [
          kO 15 (.bin .eql 4 (ci 18)),
          kO 5 (.mv 15)])
          (.cond 5
          .skip
          (.seq (.region [
           kO 16 (.bin .eql 4 (ci 20)),
           kO 5 (.mv 16)])
           (.cond 5
           .skip
           (.seq (.region [
            kO 17 (.bin .eql 4 (ci 21)),
            kO 5 (.mv 17)])
            (.cond 5
            .skip
            (.seq (.region [
             kO 18 (.bin .eql 4 (ci 22)),
             kO 5 (.mv 18)])
             (.cond 5
             .skip
             (.region [
              kO 19 (.bin .eql 4 (ci 32)),
              kO 5 (.mv 19)])))))))))))))))))))))))))))
 y13h)
def y1f6 : CCode :=
  (.block 0 y1b8)
def y18p : CCode :=
  (.seq (.region [
 kO 3 (.fa 0 1),
 kO 4 (.ld false 1 3)])
 y1f6)
def y15o : CCode :=
  (.seq y18p
 y134)
def y168 : CCode :=
  (.seq (.region [
 kO 1 (.box (some 0) 0),
 kO 2 (.mv (ci 0))])
 y15o)
def y25j : CFunc :=
  ⟨1, true, 1, y168, [.t 2]⟩
def ypg : CCode :=
  (.seq (.region [
 kO 5 (.buildS (some 0) 1 0 [(.int .i64 0)] []),
 kO 6 (.mv 0),
 kO 7 (.app (some 1) 1 8 5 6),
 kO 2 (.mv 7)])
 .ret)
def ytq : CCode :=
  (.seq (.seq (.region [
 kO 3 (.mv 0),
 kO 4 (.eqn 1 false 3 (.c .nils))])
 (.cond 4
 (.seq (.region [
  kO 2 (.mv (.c .nils))])
  .ret)
 .skip))
 ypg)
def yx0 : CCode :=
  (.seq (.region [
 kO 2 (.mv (.c .nils))])
 ytq)
def y1qn : CFunc :=
  ⟨1, true, 2, yx0, [.t 2]⟩
def yon : CCode :=
  (.seq (.region [
 kO 5 (.buildS (some 0) 9 0 [(.int .i64 0), (.int .i64 0), (.int .i64 0), (.int .i64 0), (.int .i64 0), (.int .i64 0), (.int .i64 0), (.str []), .nils] []),
 kO 6 (.mv 0),
 kO 7 (.app (some 1) 9 96 5 6),
 kO 2 (.mv 7)])
 .ret)
def yt0 : CCode :=
  (.seq (.seq (.region [
 kO 3 (.mv 0),
 kO 4 (.eqn 1 false 3 (.c .nils))])
 (.cond 4
 (.seq (.region [
  kO 2 (.mv (.c .nils))])
  .ret)
 .skip))
 yon)
def yui : CCode :=
  (.seq (.region [
 kO 2 (.mv (.c .nils))])
 yt0)
def y1ro : CFunc :=
  ⟨1, true, 2, yui, [.t 2]⟩
def yw5 : CCode :=
  (.seq (.region [
 kO 5 (.buildS (some 0) 4 0 [(.int .i64 0), (.int .i64 0), (.int .i64 0), (.str [])] []),
 kO 6 (.mv 0),
 kO 7 (.app (some 1) 4 40 5 6),
 kO 2 (.mv 7)])
 .ret)
def yxd : CCode :=
  (.seq (.seq (.region [
 kO 3 (.mv 0),
 kO 4 (.eqn 1 false 3 (.c .nils))])
 (.cond 4
 (.seq (.region [
  kO 2 (.mv (.c .nils))])
  .ret)
 .skip))
 yw5)
def yoq : CCode :=
  (.seq (.region [
 kO 2 (.mv (.c .nils))])
 yxd)
def y1q6 : CFunc :=
  ⟨1, true, 2, yoq, [.t 2]⟩
def y1ar : CCode :=
  (.seq (.region [
 kO 1 (.box (some 0) 0),
 kO 2 (.mv (.c (.bool false)))])
 (.seq (.region [
 kO 3 (.fa 0 1),
 kO 4 (.ld false 1 3),
 kO 5 (.bin .eql 4 (ci 27)),
 kO 6 (.mv 5),
 kG 7 (.fa 0 1) 6 false,
 kG 8 (.ld false 1 7) 6 false,
 kG 9 (.bin .eql 8 (ci 30)) 6 false,
 kO 10 (.pick 6 (.c (.bool true)) 9),
 kO 11 (.mv 10),
 kG 12 (.fa 0 1) 11 false,
 kG 13 (.ld false 1 12) 11 false,
 kG 14 (.bin .eql 13 (ci 31)) 11 false,
 kO 15 (.pick 11 (.c (.bool true)) 14),
 kO 2 (.mv 15)])
 .ret))
def y217 : CFunc :=
  ⟨1, true, 1, y1ar, [.t 2]⟩
def ytk : CCode :=
  (.seq (.region [
 kO 4 (.mv (.c (.bool false)))])
 (.seq (.region [
 kO 5 (.mv 0),
 kO 6 (.mv 1),
 kO 7 (.call none true 45 [5, 6]),
 kO 8 (.bin .geq 7 (ci 0)),
 kO 4 (.mv 8)])
 .ret))
def y1q7 : CFunc :=
  ⟨2, true, 0, ytk, [.t 4]⟩
def y15g : CCode :=
  (.seq (.region [
 kO 183 (.ld true 9 3),
 kO 184 (.call none true 22 [183]),
 kO 185 (.un .not 184),
 kO 186 (.mv 185),
 kG 187 (.fa 6 3) 186 false,
 kG 188 (.ld false 1 187) 186 false,
 kG 189 (.bin .geq 188 (ci 0)) 186 false,
 kG 190 (.mv 189) 186 false,
 kG 191 (.fa 6 3) 190 true,
 kG 192 (.ld false 1 191) 190 true,
 kG 193 (.fa 3 2) 190 true,
 kG 194 (.ld false 1 193) 190 true,
 kG 195 (.len 1 194) 190 true,
 kG 196 (.bin .lss 192 195) 190 true,
 kG 197 (.pick 190 196 (.c (.bool false))) 186 false,
 kO 198 (.pick 186 (.c (.bool true)) 197),
 kO 4 (.mv 198)])
 .ret)
def y1b9 : CCode :=
  (.seq (.seq (.region [
 kO 105 (.fa 0 3),
 kO 106 (.ld false 1 105)])
 (.block 4 (.seq (.region [
 kO 108 (.bin .eql 106 (ci 1)),
 kO 107 (.mv 108)])
 (.cond 107
 (.seq (.region [
  kO 109 (.fa 0 2),
  kO 110 (.ld false 1 109),
  kO 111 (.fa 1 3),
  kO 112 (.ld false 1 111),
  kO 113 (.ixs 1 110 112),
  kO 114 (.ld false 1 113),
  kO 115 (.bin .neq 114 (ci 3)),
  kO 116 (.mv 115),
  kG 117 (.fa 0 2) 116 true,
  kG 118 (.ld false 1 117) 116 true,
  kG 119 (.fa 1 3) 116 true,
  kG 120 (.ld false 1 119) 116 true,
  kG 121 (.ixs 1 118 120) 116 true,
  kG 122 (.ld false 1 121) 116 true,
  kG 123 (.bin .eql 122 (ci 2)) 116 true,
  kG 124 (.mv 123) 116 true,
  kG 125 (.fa 5 3) 124 false,
  kG 126 (.ld false 1 125) 124 false,
  kG 127 (.fa 5 3) 124 false,
  kG 128 (.ld false 1 127) 124 false,
  kG 129 (.cvi .i32 128) 124 false,
  kG 130 (.cvi .i64 129) 124 false,
  kG 131 (.bin .eql 126 130) 124 false,
  kG 132 (.pick 124 (.c (.bool true)) 131) 116 true,
  kO 133 (.pick 116 132 (.c (.bool false))),
  kO 4 (.mv 133)])
  .ret)
 (.seq (.region [
  kO 135 (.bin .eql 106 (ci 4)),
  kO 134 (.mv 135)])
  (.cond 134
  (.seq (.draw [
   kO 136 (.fa 0 2),
   kO 137 (.ld false 1 136),
   kO 138 (.fa 1 3),
   kO 139 (.ld false 1 138),
   kO 140 (.ixs 1 137 139),
   kO 141 (.ld false 1 140),
   kO 142 (.fa 0 2),
   kO 143 (.ld false 1 142),
   kO 144 (.fa 2 3),
   kO 145 (.ld false 1 144),
   kO 146 (.ixs 1 143 145),
   kO 147 (.ld false 1 146),
   kO 148 (.bin .eql 141 147),
   kO 4 (.mv 148)] [])
   .ret)
  (.seq (.region [
   kO 150 (.bin .eql 106 (ci 7)),
   kO 149 (.mv 150)])
   (.cond 149
   (.seq (.region [
    kO 151 (.fa 0 2),
    kO 152 (.ld false 1 151),
    kO 153 (.fa 2 3),
    kO 154 (.ld false 1 153),
    kO 155 (.ixs 1 152 154),
    kO 156 (.ld false 1 155),
    kO 157 (.bin .neq 156 (ci 3)),
    kO 4 (.mv 157)])
    .ret)
   (.seq (.region [
    kO 159 (.bin .eql 106 (ci 30)),
    kO 158 (.mv 159)])
    (.cond 158
    (.seq (.draw [
     kO 160 (.fa 2 3),
     kO 161 (.ld false 1 160),
     kO 162 (.bin .eql 161 (ci (-1))),
     kO 163 (.fa 2 2),
     kO 164 (.ld false 1 163),
     kO 165 (.bin .eql 164 (ci 0)),
     kO 166 (.eqb false 162 165),
     kO 167 (.mv 166),
     kG 168 (.fa 2 3) 167 true,
     kG 169 (.ld false 1 168) 167 true,
     kG 170 (.bin .eql 169 (ci (-1))) 167 true,
     kG 171 (.mv 170) 167 true,
     kG 172 (.fa 0 2) 171 false,
     kG 173 (.ld false 1 172) 171 false,
     kG 174 (.fa 2 3) 171 false,
     kG 175 (.ld false 1 174) 171 false,
     kG 176 (.ixs 1 173 175) 171 false,
     kG 177 (.ld false 1 176) 171 false,
     kG 178 (.fa 2 2) 171 false,
     kG 179 (.ld false 1 178) 171 false,
     kG 180 (.bin .eql 177 179) 171 false,
     kG 181 (.pick 171 (.c (.bool true)) 180) 167 true,
     kO 182 (.pick 167 181 (.c (.bool false))),
     kO 4 (.mv 182)] [])
     .ret)
    .skip))))))))))
 y15g)
def y1dj : CCode :=
  (.region [
 kO 104 (.bin .add 65 (ci 1)),
 kO 65 (.mv 104)])
def y1cg : CCode :=
  (.seq (.region [
 kO 73 (.mv 10),
 kO 74 (.bin .lss 73 (ci 0)),
 kO 75 (.mv 74),
 kG 76 (.mv 10) 75 false,
 kG 77 (.fa 0 2) 75 false,
 kG 78 (.ld false 1 77) 75 false,
 kG 79 (.len 1 78) 75 false,
 kG 80 (.bin .geq 76 79) 75 false,
 kO 81 (.pick 75 (.c (.bool true)) 80),
 kO 82 (.mv 81),
 kG 83 (.mv 9) 82 false,
 kG 84 (.bin .eql 83 (ci 0)) 82 false,
 kG 85 (.mv 84) 82 false,
 kG 86 (.fa 0 3) 85 true,
 kG 87 (.ld false 1 86) 85 true,
 kG 88 (.bin .eql 87 (ci 24)) 85 true,
 kG 89 (.mv 88) 85 true,
 kG 90 (.fa 0 3) 89 false,
 kG 91 (.ld false 1 90) 89 false,
 kG 92 (.bin .eql 91 (ci 25)) 89 false,
 kG 93 (.pick 89 (.c (.bool true)) 92) 85 true,
 kG 94 (.pick 85 93 (.c (.bool false))) 82 false,
 kG 95 (.mv 94) 82 false,
 kG 96 (.fa 0 2) 95 true,
 kG 97 (.ld false 1 96) 95 true,
 kG 98 (.mv 10) 95 true,
 kG 99 (.ixs 1 97 98) 95 true,
 kG 100 (.ld false 1 99) 95 true,
 kG 101 (.bin .neq 100 (ci 3)) 95 true,
 kG 102 (.pick 95 101 (.c (.bool false))) 82 false,
 kO 103 (.pick 82 (.c (.bool true)) 102)])
 (.cond 103
 (.seq (.region [
  kO 4 (.mv (.c (.bool false)))])
  .ret)
 .skip))
def y1e7 : CCode :=
  (.seq (.seq (.region [
 kO 70 (.ld true 9 3),
 kO 71 (.call none true 17 [70]),
 kO 72 (.un .not 71)])
 (.cond 72
 (.exit 2)
 .skip))
 y1cg)
def y17h : CCode :=
  (.seq (.region [
 kO 67 (.mv 65),
 kO 68 (.ixs 1 63 65),
 kO 69 (.ld false 1 68),
 kO 9 (.mv 67),
 kO 10 (.mv 69)])
 y1e7)
def yzm : CCode :=
  (.block 3 y17h)
def y1b3 : CCode :=
  (.seq yzm
 y1dj)
def yuz : CCode :=
  (.seq (.cond 66
 .skip
 (.exit 2))
 y1b3)
def yt5 : CCode :=
  (.seq (.region [
 kO 66 (.bin .lss 65 64)])
 yuz)
def yi9 : CCode :=
  (.loop [2, 3, 63, 64, 65] yt5)
def yxa : CCode :=
  (.block 2 yi9)
def yux : CCode :=
  (.seq (.region [
 kO 62 (.fa 8 3),
 kO 63 (.ld false 1 62),
 kO 64 (.len 1 63),
 kO 65 (.mv (ci 0))])
 yxa)
def yu3 : CCode :=
  (.seq yux
 y1b9)
def ywb : CCode :=
  (.region [
 kO 61 (.bin .add 27 (ci 1)),
 kO 27 (.mv 61)])
def ytl : CCode :=
  (.seq (.draw [
 kO 35 (.mv 8),
 kO 36 (.bin .lss 35 (ci 0)),
 kO 37 (.mv 36),
 kG 38 (.mv 8) 37 false,
 kG 39 (.fa 0 2) 37 false,
 kG 40 (.ld false 1 39) 37 false,
 kG 41 (.len 1 40) 37 false,
 kG 42 (.bin .geq 38 41) 37 false,
 kO 43 (.pick 37 (.c (.bool true)) 42),
 kO 44 (.mv 43),
 kG 45 (.mv 7) 44 false,
 kG 46 (.ixa 4 1 5 45) 44 false,
 kG 47 (.ld false 1 46) 44 false,
 kG 48 (.bin .gtr 47 (ci 0)) 44 false,
 kG 49 (.mv 48) 44 false,
 kG 50 (.fa 0 2) 49 true,
 kG 51 (.ld false 1 50) 49 true,
 kG 52 (.mv 8) 49 true,
 kG 53 (.ixs 1 51 52) 49 true,
 kG 54 (.ld false 1 53) 49 true,
 kG 55 (.mv 7) 49 true,
 kG 56 (.ixa 4 1 5 55) 49 true,
 kG 57 (.ld false 1 56) 49 true,
 kG 58 (.bin .neq 54 57) 49 true,
 kG 59 (.pick 49 58 (.c (.bool false))) 44 false,
 kO 60 (.pick 44 (.c (.bool true)) 59)] [])
 (.cond 60
 (.seq (.region [
  kO 4 (.mv (.c (.bool false)))])
  .ret)
 .skip))
def yud : CCode :=
  (.seq (.seq (.region [
 kO 31 (.mv 7),
 kO 32 (.ixa 4 1 5 31),
 kO 33 (.ld false 1 32),
 kO 34 (.bin .lss 33 (ci 0))])
 (.cond 34
 (.exit 1)
 .skip))
 ytl)
def yx6 : CCode :=
  (.seq (.region [
 kO 29 (.mv 27),
 kO 30 (.ixv false 4 1 26 27),
 kO 7 (.mv 29),
 kO 8 (.mv 30)])
 yud)
def ywm : CCode :=
  (.block 1 yx6)
def ypj : CCode :=
  (.seq ywm
 ywb)
def yt9 : CCode :=
  (.seq (.cond 28
 .skip
 (.exit 0))
 ypj)
def ywr : CCode :=
  (.seq (.region [
 kO 28 (.bin .lss 27 (ci 4))])
 yt9)
def ydl : CCode :=
  (.loop [2, 3, 5, 26, 27] ywr)
def yrz : CCode :=
  (.block 0 ydl)
def yto : CCode :=
  (.seq (.region [
 kO 18 (.fa 1 3),
 kO 19 (.ld false 1 18),
 kO 20 (.fa 2 3),
 kO 21 (.ld false 1 20),
 kO 22 (.fa 3 3),
 kO 23 (.ld false 1 22),
 kO 24 (.fa 4 3),
 kO 25 (.ld false 1 24),
 kO 26 (.build [(.int .i64 0), (.int .i64 0), (.int .i64 0), (.int .i64 0)] [(0, 1, 19), (1, 1, 21), (2, 1, 23), (3, 1, 25)]),
 kO 27 (.mv (ci 0))])
 yrz)
def yrm : CCode :=
  (.seq yto
 yu3)
def ysi : CCode :=
  (.seq (.seq (.region [
 kO 16 (.mv 6),
 kO 17 (.un .not 16)])
 (.cond 17
 (.seq (.region [
  kO 4 (.mv (.c (.bool false)))])
  .ret)
 .skip))
 yrm)
def yx4 : CCode :=
  (.seq (.region [
 kO 12 (.ld true 9 3),
 kO 13 (.call none true 47 [12]),
 kO 11 (.mv 13),
 kO 14 (.ext 0 11),
 kO 15 (.ext 1 11),
 kO 5 (.new (some 2) [(.int .i64 0), (.int .i64 0), (.int .i64 0), (.int .i64 0)]),
 kU (.st 4 5 14),
 kO 6 (.mv 15)])
 ysi)
def yxc : CCode :=
  (.seq (.region [
 kO 2 (.box (some 0) 0),
 kO 3 (.box (some 1) 1),
 kO 4 (.mv (.c (.bool false)))])
 yx4)
def y22a : CFunc :=
  ⟨2, true, 3, yxc, [.t 4]⟩
def y16e : CCode :=
  (.seq (.region [
 kO 1 (.box (some 0) 0),
 kO 2 (.mv (.c (.bool false)))])
 (.seq (.region [
 kO 3 (.fa 0 1),
 kO 4 (.ld false 1 3),
 kO 5 (.bin .eql 4 (ci 27)),
 kO 6 (.mv 5),
 kG 7 (.fa 0 1) 6 false,
 kG 8 (.ld false 1 7) 6 false,
 kG 9 (.bin .eql 8 (ci 28)) 6 false,
 kO 10 (.pick 6 (.c (.bool true)) 9),
 kO 11 (.mv 10),
 kG 12 (.fa 0 1) 11 false,
 kG 13 (.ld false 1 12) 11 false,
 kG 14 (.bin .eql 13 (ci 29)) 11 false,
 kO 15 (.pick 11 (.c (.bool true)) 14),
 kO 2 (.mv 15)])
 .ret))
def y23a : CFunc :=
  ⟨1, true, 1, y16e, [.t 2]⟩
def y1bi : CCode :=
  (.seq (.region [
 kO 8 (.mv (ci 0))])
 .ret)
def y155 : CCode :=
  (.seq (.seq (.region [
 kO 21 (.mv 0)])
 (.block 0 (.seq (.region [
 kO 23 (.bin .eql 21 (ci 96)),
 kO 22 (.mv 23)])
 (.cond 22
 (.seq (.region [
  kO 24 (.mv 1),
  kO 25 (.mv 2),
  kO 26 (.mv 9),
  kO 27 (.call none true 138 [24, 25, (ci 0), 26]),
  kO 8 (.mv 27)])
  .ret)
 (.seq (.region [
  kO 29 (.bin .eql 21 (ci 100)),
  kO 28 (.mv 29)])
  (.cond 28
  (.seq (.region [
   kO 30 (.mv 1),
   kO 31 (.mv 2),
   kO 32 (.un .xor 31),
   kO 33 (.mv 9),
   kO 34 (.call none true 138 [30, 32, (ci 1), 33]),
   kO 8 (.mv 34)])
   .ret)
  (.seq (.region [
   kO 36 (.bin .eql 21 (ci 104)),
   kO 35 (.mv 36)])
   (.cond 35
   (.seq (.region [
    kO 37 (.mv 1),
    kO 38 (.mv 2),
    kO 39 (.mv 9),
    kO 40 (.call none true 139 [37, 38, 39]),
    kO 8 (.mv 40)])
    .ret)
   (.seq (.region [
    kO 42 (.bin .eql 21 (ci 108)),
    kO 41 (.mv 42)])
    (.cond 41
    (.seq (.region [
     kO 44 (.mv 1),
     kO 45 (.mv 2),
     kO 46 (.mv 9),
     kO 47 (.call none true 140 [44, 45, 46]),
     kO 43 (.mv 47),
     kO 48 (.ext 0 43),
     kO 49 (.ext 1 43),
     kO 11 (.mv 48),
     kO 12 (.mv 49)])
     (.seq (.region [
     kO 50 (.mv 11),
     kO 8 (.mv 50)])
     .ret))
    (.seq (.region [
     kO 52 (.bin .eql 21 (ci 112)),
     kO 51 (.mv 52)])
     (.cond 51
     (.seq (.region [
      kO 54 (.mv 1),
      kO 55 (.mv 2),
      kO 56 (.mv 9),
      kO 57 (.call none true 140 [54, 55, 56]),
      kO 53 (.mv 57),
      kO 58 (.ext 0 53),
      kO 59 (.ext 1 53),
      kO 13 (.mv 58),
      kO 14 (.mv 59)])
      (.seq (.region [
      kO 60 (.mv 14),
      kO 8 (.mv 60)])
      .ret))
     (.seq (.region [
      kO 62 (.bin .eql 21 (ci 120)),
      kO 61 (.mv 62)])
      (.cond 61
      (.seq (.region [
       kO 63 (.mv 1),
       kO 64 (.mv 10),
       kO 65 (.mv 9),
       kO 66 (.call none true 141 [63, 64, 65, (.c (.bool false)), (.c (.bool false))]),
       kO 8 (.mv 66)])
       .ret)
      (.seq (.region [
       kO 68 (.bin .eql 21 (ci 122)),
       kO 67 (.mv 68)])
       (.cond 67
       (.seq (.region [
        kO 69 (.mv 1),
        kO 70 (.mv 10),
        kO 71 (.mv 9),
        kO 72 (.call none true 141 [69, 70, 71, (.c (.bool true)), (.c (.bool true))]),
        kO 8 (.mv 72)])
        .ret)
       (.seq (.region [
        kO 74 (.bin .eql 21 (ci 124)),
        kO 73 (.mv 74)])
        (.cond 73
        (.seq (.region [
         kO 75 (.mv 1),
         kO 76 (.mv 10),
         kO 77 (.mv 9),
         kO 78 (.call none true 141 [75, 76, 77, (.c (.bool true)), (.c (.bool false))]),
         kO 8 (.mv 78)])
         .ret)
        (.seq (.region [
         kO 80 (.bin .eql 21 (ci 126)),
         kO 79 (.mv 80)])
         (.cond 79
         (.seq (.region [
          kO 81 (.mv 1),
          kO 82 (.mv 2),
          kO 83 (.mv 9),
          kO 84 (.call none true 142 [(ci 0), 81, 82, 83]),
          kO 8 (.mv 84)])
          .ret)
         (.seq (.region [
          kO 86 (.bin .eql 21 (ci 128)),
          kO 85 (.mv 86)])
          (.cond 85
          (.seq (.region [
           kO 87 (.mv 1),
           kO 88 (.mv 2),
           kO 89 (.mv 9),
           kO 90 (.call none true 142 [(ci 1), 87, 88, 89]),
           kO 8 (.mv 90)])
           .ret)
          (.seq (.region [
           kO 92 (.bin .eql 21 (ci 130)),
           kO 91 (.mv 92)])
           (.cond 91
           (.seq (.region [
            kO 93 (.mv 1),
            kO 94 (.mv 2),
            kO 95 (.mv 9),
            kO 96 (.call none true 142 [(ci 2), 93, 94, 95]),
            kO 8 (.mv 96)])
            .ret)
           .skip))))))))))))))))))))))))
 y1bi)
def y1b4 : CCode :=
  (.seq (.region [
 kO 17 (.mv 2),
 kO 18 (.mv 9),
 kO 19 (.bin .sub 18 (ci 1)),
 kO 20 (.bin .and 17 19),
 kO 10 (.mv 20)])
 y155)
def yzx : CCode :=
  (.seq (.region [
 kO 15 (.mv 3),
 kO 16 (.call none true 137 [15]),
 kO 9 (.mv 16)])
 y1b4)
def y1b0 : CCode :=
  (.seq (.region [
 kO 8 (.mv (ci 0))])
 yzx)
def y24d : CFunc :=
  ⟨4, true, 0, y1b0, [.t 8]⟩
def y15a : CCode :=
  (.seq (.region [
 kO 25 (.mv 0),
 kO 4 (.mv 25)])
 .ret)
def y123 : CCode :=
  (.seq (.seq (.region [
 kO 18 (.mv 0),
 kO 19 (.mv 5),
 kO 20 (.bin .quo 19 (ci 2)),
 kO 21 (.bin .geq 18 20)])
 (.cond 21
 (.region [
  kO 22 (.mv 0),
  kO 23 (.mv 5),
  kO 24 (.bin .sub 22 23),
  kO 0 (.mv 24)])
 .skip))
 y15a)
def y13s : CCode :=
  (.seq (.region [
 kO 11 (.mv 0),
 kO 12 (.mv 5),
 kO 13 (.bin .rem 11 12),
 kO 14 (.mv 5),
 kO 15 (.bin .add 13 14),
 kO 16 (.mv 5),
 kO 17 (.bin .rem 15 16),
 kO 0 (.mv 17)])
 y123)
def y1fv : CCode :=
  (.seq (.region [
 kO 9 (.mv 1),
 kO 10 (.bin .shl (ci 1) 9),
 kO 5 (.mv 10)])
 y13s)
def y18o : CCode :=
  (.seq (.seq (.region [
 kO 6 (.mv 1),
 kO 7 (.bin .eql 6 (ci 64))])
 (.cond 7
 (.seq (.region [
  kO 8 (.mv 0),
  kO 4 (.mv 8)])
  .ret)
 .skip))
 y1fv)
def y1cv : CCode :=
  (.seq (.region [
 kO 4 (.mv (ci 0))])
 y18o)
def y23q : CFunc :=
  ⟨2, true, 0, y1cv, [.t 4]⟩
def y17a : CCode :=
  (.seq (.region [
 kO 109 (.mv 10),
 kO 2 (.mv 109)])
 .ret)
def y1g1 : CCode :=
  (.region [
 kO 108 (.bin .add 97 (ci 1)),
 kO 97 (.mv 108)])
def y1bo : CCode :=
  (.seq (.block 7 (.seq (.region [
 kO 99 (.mv 97),
 kO 11 (.mv 99)])
 (.seq (.region [
 kO 100 (.mv 3),
 kO 101 (.mv 11),
 kO 102 (.ixs 1 100 101),
 kO 103 (.ld false 1 102)])
 (.cond 103
 (.region [
  kO 104 (.mv 10),
  kO 105 (.mv 11),
  kO 106 (.buildS (some 5) 1 1 [(.int .i64 0)] [(0, 105)]),
  kO 107 (.app (some 6) 1 8 104 106),
  kO 10 (.mv 107)])
 .skip))))
 y1g1)
def y14v : CCode :=
  (.seq (.cond 98
 .skip
 (.exit 6))
 y1bo)
def y131 : CCode :=
  (.seq (.region [
 kO 98 (.bin .lss 97 96)])
 y14v)
def yj1 : CCode :=
  (.loop [3, 10, 96, 97] y131)
def y184 : CCode :=
  (.block 6 yj1)
def y16j : CCode :=
  (.seq (.region [
 kO 94 (.fa 3 1),
 kO 95 (.ld false 1 94),
 kO 96 (.len 1 95),
 kO 97 (.mv (ci 0))])
 y184)
def y0t : CCode :=
  (.seq y16j
 y17a)
def yru : CCode :=
  (.seq (.region [
 kO 10 (.mv (.c .nils))])
 y0t)
def yrt : CCode :=
  (.region [
 kO 93 (.bin .add 64 (ci 1)),
 kO 64 (.mv 93)])
def yqv : CCode :=
  (.region [
 kO 92 (.bin .add 76 (ci 1)),
 kO 76 (.mv 92)])
def yv1 : CCode :=
  (.seq (.block 5 (.seq (.region [
 kO 78 (.ixs 1 74 76),
 kO 79 (.ld false 1 78),
 kO 9 (.mv 79)])
 (.seq (.region [
 kO 80 (.mv 9),
 kO 81 (.bin .geq 80 (ci 0)),
 kO 82 (.mv 81),
 kG 83 (.mv 9) 82 true,
 kG 84 (.fa 3 1) 82 true,
 kG 85 (.ld false 1 84) 82 true,
 kG 86 (.len 1 85) 82 true,
 kG 87 (.bin .lss 83 86) 82 true,
 kO 88 (.pick 82 87 (.c (.bool false)))])
 (.cond 88
 (.region [
  kO 89 (.mv 3),
  kO 90 (.mv 9),
  kO 91 (.ixs 1 89 90),
  kU (.st 1 91 (.c (.bool true)))])
 .skip))))
 yqv)
def ytb : CCode :=
  (.seq (.cond 77
 .skip
 (.exit 4))
 yv1)
def yu4 : CCode :=
  (.seq (.region [
 kO 77 (.bin .lss 76 75)])
 ytb)
def yeq : CCode :=
  (.loop [1, 3, 62, 63, 64, 74, 75, 76] yu4)
def ywk : CCode :=
  (.block 4 yeq)
def yph : CCode :=
  (.seq (.region [
 kO 68 (.fa 0 7),
 kO 69 (.ld false 1 68),
 kO 70 (.fa 1 7),
 kO 71 (.ld false 1 70),
 kO 72 (.fa 2 7),
 kO 73 (.ld false 1 72),
 kO 74 (.buildS (some 4) 1 3 [(.int .i64 0)] [(0, 69), (1, 71), (2, 73)]),
 kO 75 (.len 1 74),
 kO 76 (.mv (ci 0))])
 ywk)
def yqr : CCode :=
  (.seq (.region [
 kO 66 (.ixs 4 62 64),
 kO 67 (.ld true 4 66),
 kO 7 (.new (some 3) [(.int .i64 0), (.int .i64 0), (.int .i64 0), (.str [])]),
 kU (.st 4 7 67)])
 yph)
def yvy : CCode :=
  (.block 3 yqr)
def yuy : CCode :=
  (.seq yvy
 yrt)
def yx9 : CCode :=
  (.seq (.cond 65
 .skip
 (.exit 2))
 yuy)
def you : CCode :=
  (.seq (.region [
 kO 65 (.bin .lss 64 63)])
 yx9)
def yfc : CCode :=
  (.loop [1, 3, 62, 63, 64] you)
def yx1 : CCode :=
  (.block 2 yfc)
def yqk : CCode :=
  (.seq (.region [
 kO 61 (.fa 4 1),
 kO 62 (.ld false 1 61),
 kO 63 (.len 1 62),
 kO 64 (.mv (ci 0))])
 yx1)
def ywu : CCode :=
  (.seq yqk
 yru)
def yox : CCode :=
  (.region [
 kO 60 (.bin .add 26 (ci 1)),
 kO 26 (.mv 60)])
def yp7 : CCode :=
  (.seq (.region [
 kO 50 (.ld true 9 5),
 kO 51 (.call none true 22 [50]),
 kO 52 (.mv 51),
 kG 53 (.ld true 9 5) 52 false,
 kG 54 (.call none true 24 [53]) 52 false,
 kO 55 (.pick 52 (.c (.bool true)) 54)])
 (.cond 55
 (.region [
  kO 56 (.mv 3),
  kO 57 (.mv 4),
  kO 58 (.bin .add 57 (ci 1)),
  kO 59 (.ixs 1 56 58),
  kU (.st 1 59 (.c (.bool true)))])
 .skip))
def yqc : CCode :=
  (.seq (.seq (.region [
 kO 31 (.ld true 9 5),
 kO 32 (.call none true 22 [31]),
 kO 33 (.mv 32),
 kG 34 (.fa 6 5) 33 true,
 kG 35 (.ld false 1 34) 33 true,
 kG 36 (.bin .geq 35 (ci 0)) 33 true,
 kO 37 (.pick 33 36 (.c (.bool false))),
 kO 38 (.mv 37),
 kG 39 (.fa 6 5) 38 true,
 kG 40 (.ld false 1 39) 38 true,
 kG 41 (.fa 3 1) 38 true,
 kG 42 (.ld false 1 41) 38 true,
 kG 43 (.len 1 42) 38 true,
 kG 44 (.bin .lss 40 43) 38 true,
 kO 45 (.pick 38 44 (.c (.bool false)))])
 (.cond 45
 (.region [
  kO 46 (.mv 3),
  kO 47 (.fa 6 5),
  kO 48 (.ld false 1 47),
  kO 49 (.ixs 1 46 48),
  kU (.st 1 49 (.c (.bool true)))])
 .skip))
 yp7)
def yst : CCode :=
  (.seq (.region [
 kO 28 (.mv 26),
 kO 29 (.ixs 9 24 26),
 kO 30 (.ld true 9 29),
 kO 5 (.new (some 2) [(.int .i64 0), (.int .i64 0), (.int .i64 0), (.int .i64 0), (.int .i64 0), (.int .i64 0), (.int .i64 0), (.str []), .nils]),
 kO 4 (.mv 28),
 kU (.st 9 5 30)])
 yqc)
def yuc : CCode :=
  (.block 1 yst)
def yxb : CCode :=
  (.seq yuc
 yox)
def yqu : CCode :=
  (.seq (.cond 27
 .skip
 (.exit 0))
 yxb)
def ypb : CCode :=
  (.seq (.region [
 kO 27 (.bin .lss 26 25)])
 yqu)
def yen : CCode :=
  (.loop [1, 3, 24, 25, 26] ypb)
def yr9 : CCode :=
  (.block 0 yen)
def ywy : CCode :=
  (.seq (.region [
 kO 23 (.fa 3 1),
 kO 24 (.ld false 1 23),
 kO 25 (.len 1 24),
 kO 26 (.mv (ci 0))])
 yr9)
def yv3 : CCode :=
  (.seq ywy
 ywu)
def ysz : CCode :=
  (.seq (.seq (.region [
 kO 17 (.fa 3 1),
 kO 18 (.ld false 1 17),
 kO 19 (.len 1 18),
 kO 20 (.bin .gtr 19 (ci 0))])
 (.cond 20
 (.region [
  kO 21 (.mv 3),
  kO 22 (.ixs 1 21 (ci 0)),
  kU (.st 1 22 (.c (.bool true)))])
 .skip))
 yv3)
def yu0 : CCode :=
  (.seq (.region [
 kO 12 (.fa 3 1),
 kO 13 (.ld false 1 12),
 kO 14 (.len 1 13),
 kO 15 (.bin .add 14 (ci 1)),
 kO 16 (.mkS (some 1) 1 1 [(.bool false)] 15 15),
 kO 3 (.mv 16)])
 ysz)
def yqx : CCode :=
  (.seq (.region [
 kO 1 (.box (some 0) 0),
 kO 2 (.mv (.c .nils))])
 yu0)
def y262 : CFunc :=
  ⟨1, true, 7, yqx, [.t 2]⟩
def yzi : CCode :=
  (.seq (.region [
 kO 80 (.ld true 9 2),
 kU (.st 9 4 80)])
 .ret)
def y1ep : CCode :=
  (.seq (.region [
 kO 79 (.build [(.int .i64 0), (.int .i64 0), (.int .i64 0), (.int .i64 0), (.int .i64 0), (.int .i64 0), (.int .i64 0), (.str []), .nils] [(0, 1, (ci 33))]),
 kU (.st 9 4 79)])
 .ret)
def y12g : CCode :=
  (.seq (.seq (.region [
 kO 71 (.fa 5 2),
 kO 72 (.ld false 1 71),
 kO 73 (.mv 5),
 kO 74 (.mv 9),
 kO 75 (.call none true 129 [72, 73, 74])])
 (.cond 75
 (.seq (.region [
  kO 76 (.fa 6 2),
  kO 77 (.ld false 1 76),
  kO 78 (.build [(.int .i64 0), (.int .i64 0), (.int .i64 0), (.int .i64 0), (.int .i64 0), (.int .i64 0), (.int .i64 0), (.str []), .nils] [(0, 1, (ci 27)), (6, 1, 77)]),
  kU (.st 9 4 78)])
  .ret)
 .skip))
 y1ep)
def y1h1 : CCode :=
  (.cond 70
 y12g
 .skip)
def y14l : CCode :=
  (.seq (.region [
 kO 67 (.mv 6),
 kO 68 (.mv 67),
 kG 69 (.mv 10) 68 true,
 kO 70 (.pick 68 69 (.c (.bool false)))])
 y1h1)
def y159 : CCode :=
  (.seq (.region [
 kO 61 (.mv 1),
 kO 62 (.fa 3 2),
 kO 63 (.ld false 1 62),
 kO 64 (.mget false [0] (.int .i64 0) true 61 63),
 kO 60 (.mv 64),
 kO 65 (.ext 0 60),
 kO 66 (.ext 1 60),
 kO 9 (.mv 65),
 kO 10 (.mv 66)])
 y14l)
def y1eh : CCode :=
  (.cond 58
 y159
 .skip)
def y12r : CCode :=
  (.seq (.region [
 kO 59 (.bin .eql 19 (ci 28)),
 kO 58 (.mv 59)])
 y1eh)
def y1dm : CCode :=
  (.cond 51
 (.seq (.region [
  kO 53 (.mv 6)])
  (.cond 53
  (.seq (.region [
   kO 54 (.fa 1 2),
   kO 55 (.ld false 1 54),
   kO 56 (.mv 5),
   kO 57 (.build [(.int .i64 0), (.int .i64 0), (.int .i64 0), (.int .i64 0), (.int .i64 0), (.int .i64 0), (.int .i64 0), (.str []), .nils] [(0, 1, (ci 1)), (1, 1, 55), (5, 1, 56)]),
   kU (.st 9 4 57)])
   .ret)
  .skip))
 y12r)
def yuv : CCode :=
  (.seq (.region [
 kO 52 (.bin .eql 19 (ci 4)),
 kO 51 (.mv 52)])
 y1dm)
def yw9 : CCode :=
  (.cond 30
 (.seq (.region [
  kO 33 (.mv 1),
  kO 34 (.fa 3 2),
  kO 35 (.ld false 1 34),
  kO 36 (.mget false [0] (.int .i64 0) true 33 35),
  kO 32 (.mv 36),
  kO 37 (.ext 0 32),
  kO 38 (.ext 1 32),
  kO 7 (.mv 37),
  kO 8 (.mv 38)])
  (.seq (.region [
  kO 39 (.mv 6),
  kO 40 (.mv 39),
  kG 41 (.mv 8) 40 true,
  kO 42 (.pick 40 41 (.c (.bool false)))])
  (.cond 42
  (.seq (.draw [
   kO 43 (.fa 1 2),
   kO 44 (.ld false 1 43),
   kO 45 (.fa 5 2),
   kO 46 (.ld false 1 45),
   kO 47 (.mv 5),
   kO 48 (.mv 7),
   kO 49 (.call none true 128 [46, 47, 48]),
   kO 50 (.build [(.int .i64 0), (.int .i64 0), (.int .i64 0), (.int .i64 0), (.int .i64 0), (.int .i64 0), (.int .i64 0), (.str []), .nils] [(0, 1, (ci 1)), (1, 1, 44), (5, 1, 49)]),
   kU (.st 9 4 50)] [(1, 6)])
   .ret)
  .skip)))
 yuv)
def yok : CCode :=
  (.seq (.region [
 kO 31 (.bin .eql 19 (ci 5)),
 kO 30 (.mv 31)])
 yw9)
def yur : CCode :=
  (.cond 20
 (.seq (.region [
  kO 22 (.mv 6)])
  (.cond 22
  (.seq (.draw [
   kO 23 (.fa 1 2),
   kO 24 (.ld false 1 23),
   kO 25 (.fa 5 2),
   kO 26 (.ld false 1 25),
   kO 27 (.mv 5),
   kO 28 (.call none true 127 [26, 27]),
   kO 29 (.build [(.int .i64 0), (.int .i64 0), (.int .i64 0), (.int .i64 0), (.int .i64 0), (.int .i64 0), (.int .i64 0), (.str []), .nils] [(0, 1, (ci 1)), (1, 1, 24), (5, 1, 28)]),
   kU (.st 9 4 29)] [(1, 5)])
   .ret)
  .skip))
 yok)
def yt8 : CCode :=
  (.seq (.region [
 kO 21 (.bin .eql 19 (ci 6)),
 kO 20 (.mv 21)])
 yur)
def yut : CCode :=
  (.block 0 yt8)
def yq2 : CCode :=
  (.seq (.region [
 kO 18 (.fa 0 2),
 kO 19 (.ld false 1 18)])
 yut)
def ywn : CCode :=
  (.seq yq2
 yzi)
def yu6 : CCode :=
  (.seq (.region [
 kO 12 (.mv 1),
 kO 13 (.fa 2 2),
 kO 14 (.ld false 1 13),
 kO 15 (.mget false [0] (.int .i64 0) true 12 14),
 kO 11 (.mv 15),
 kO 16 (.ext 0 11),
 kO 17 (.ext 1 11),
 kO 5 (.mv 16),
 kO 6 (.mv 17)])
 ywn)
def ys9 : CCode :=
  (.seq (.region [
 kO 2 (.box (some 0) 0),
 kO 4 (.new (some 1) [(.int .i64 0), (.int .i64 0), (.int .i64 0), (.int .i64 0), (.int .i64 0), (.int .i64 0), (.int .i64 0), (.str []), .nils])])
 yu6)
def y21q : CFunc :=
  ⟨2, false, 2, ys9, [.cell 4 true 9]⟩
def y11t : CCode :=
  (.seq (.region [
 kO 1 (.box (some 0) 0),
 kO 2 (.mv (.c (.bool false)))])
 (.seq (.region [
 kO 3 (.fa 0 1),
 kO 4 (.ld false 1 3),
 kO 5 (.bin .geq 4 (ci 23)),
 kO 6 (.mv 5),
 kG 7 (.fa 0 1) 6 true,
 kG 8 (.ld false 1 7) 6 true,
 kG 9 (.bin .leq 8 (ci 26)) 6 true,
 kO 10 (.pick 6 9 (.c (.bool false))),
 kO 2 (.mv 10)])
 .ret))
def y24p : CFunc :=
  ⟨1, true, 1, y11t, [.t 2]⟩
def ywq : CCode :=
  (.seq (.region [
 kO 4 (.mv (ci (-1)))])
 .ret)
def yoz : CCode :=
  (.region [
 kO 18 (.bin .add 8 (ci 1)),
 kO 8 (.mv 18)])
def yr0 : CCode :=
  (.seq (.block 1 (.seq (.region [
 kO 10 (.mv 8),
 kO 5 (.mv 10)])
 (.seq (.region [
 kO 11 (.mv 1),
 kO 12 (.mv 0),
 kO 13 (.mv 5),
 kO 14 (.ixs 1 12 13),
 kO 15 (.ld false 1 14),
 kO 16 (.bin .eql 11 15)])
 (.cond 16
 (.seq (.region [
  kO 17 (.mv 5),
  kO 4 (.mv 17)])
  .ret)
 .skip))))
 yoz)
def yqh : CCode :=
  (.seq (.cond 9
 .skip
 (.exit 0))
 yr0)
def ytw : CCode :=
  (.seq (.region [
 kO 9 (.bin .lss 8 7)])
 yqh)
def yfd : CCode :=
  (.loop [0, 1, 7, 8] ytw)
def ypp : CCode :=
  (.block 0 yfd)
def yq8 : CCode :=
  (.seq (.region [
 kO 6 (.mv 0),
 kO 7 (.len 1 6),
 kO 8 (.mv (ci 0))])
 ypp)
def ypm : CCode :=
  (.seq yq8
 ywq)
def yl2 : CCode :=
  (.seq (.region [
 kO 4 (.mv (ci 0))])
 ypm)
def y1qg : CFunc :=
  ⟨2, true, 0, yl2, [.t 4]⟩
def y177 : CCode :=
  (.seq (.region [
 kO 138 (.ld true 9 1),
 kO 139 (.call none true 51 [138]),
 kO 140 (.ext 0 139),
 kO 141 (.ext 1 139),
 kU (.st 4 2 140),
 kO 3 (.mv 141)])
 .ret)
def y1e6 : CCode :=
  (.cond 134
 (.seq (.region [
  kO 137 (.build [(.int .i64 0), (.int .i64 0), (.int .i64 0), (.int .i64 0)] [(0, 1, (ci (-1))), (1, 1, (ci (-1))), (2, 1, (ci (-1))), (3, 1, (ci (-1)))]),
  kU (.st 4 2 137),
  kO 3 (.mv (.c (.bool true)))])
  .ret)
 .skip)
def y1dx : CCode :=
  (.seq (.seq (.region [
 kO 135 (.bin .eql 11 (ci 27)),
 kO 134 (.mv 135)])
 (.cond 134
 .skip
 (.region [
  kO 136 (.bin .eql 11 (ci 33)),
  kO 134 (.mv 136)])))
 y1e6)
def y13o : CCode :=
  (.cond 123
 (.seq (.draw [
  kO 125 (.build [(.int .i64 0), (.int .i64 0), (.int .i64 0), (.int .i64 0)] [(0, 1, (ci (-1))), (1, 1, (ci 1)), (2, 1, (ci 1)), (3, 1, (ci (-1)))]),
  kO 126 (.fa 5 1),
  kO 127 (.ld false 1 126),
  kO 128 (.bin .geq 127 (ci 0)),
  kO 129 (.mv 128),
  kG 130 (.fa 5 1) 129 true,
  kG 131 (.ld false 1 130) 129 true,
  kG 132 (.bin .leq 131 (ci 5)) 129 true,
  kO 133 (.pick 129 132 (.c (.bool false))),
  kU (.st 4 2 125),
  kO 3 (.mv 133)] [(6, 9)])
  .ret)
 y1dx)
def y144 : CCode :=
  (.seq (.region [
 kO 124 (.bin .eql 11 (ci 28)),
 kO 123 (.mv 124)])
 y13o)
def y1av : CCode :=
  (.cond 117
 (.seq (.region [
  kO 119 (.build [(.int .i64 0), (.int .i64 0), (.int .i64 0), (.int .i64 0)] [(0, 1, (ci 3)), (1, 1, (ci 1)), (2, 1, (ci (-1))), (3, 1, (ci (-1)))]),
  kO 120 (.fa 7 1),
  kO 121 (.ld false 1 120),
  kO 122 (.call none true 37 [121]),
  kU (.st 4 2 119),
  kO 3 (.mv 122)])
  .ret)
 y144)
def y18k : CCode :=
  (.seq (.region [
 kO 118 (.bin .eql 11 (ci 21)),
 kO 117 (.mv 118)])
 y1av)
def y0c : CCode :=
  (.cond 114
 (.seq (.region [
  kO 116 (.build [(.int .i64 0), (.int .i64 0), (.int .i64 0), (.int .i64 0)] [(0, 1, (ci (-1))), (1, 1, (ci 0)), (2, 1, (ci (-1))), (3, 1, (ci (-1)))]),
  kU (.st 4 2 116),
  kO 3 (.mv (.c (.bool true)))])
  .ret)
 y18k)
def y1en : CCode :=
  (.seq (.region [
 kO 115 (.bin .eql 11 (ci 19)),
 kO 114 (.mv 115)])
 y0c)
def yp9 : CCode :=
  (.cond 108
 (.seq (.draw [
  kO 110 (.build [(.int .i64 0), (.int .i64 0), (.int .i64 0), (.int .i64 0)] [(0, 1, (ci (-1))), (1, 1, (ci 3)), (2, 1, (ci 0)), (3, 1, (ci (-1)))]),
  kO 111 (.fa 5 1),
  kO 112 (.ld false 1 111),
  kO 113 (.bin .geq 112 (ci 0)),
  kU (.st 4 2 110),
  kO 3 (.mv 113)] [(2, 4)])
  .ret)
 y1en)
def yu5 : CCode :=
  (.seq (.region [
 kO 109 (.bin .eql 11 (ci 17)),
 kO 108 (.mv 109)])
 yp9)
def ysl : CCode :=
  (.cond 102
 (.seq (.draw [
  kO 104 (.build [(.int .i64 0), (.int .i64 0), (.int .i64 0), (.int .i64 0)] [(0, 1, (ci 0)), (1, 1, (ci 3)), (2, 1, (ci (-1))), (3, 1, (ci (-1)))]),
  kO 105 (.fa 5 1),
  kO 106 (.ld false 1 105),
  kO 107 (.bin .geq 106 (ci 0)),
  kU (.st 4 2 104),
  kO 3 (.mv 107)] [(2, 4)])
  .ret)
 yu5)
def ytu : CCode :=
  (.seq (.region [
 kO 103 (.bin .eql 11 (ci 16)),
 kO 102 (.mv 103)])
 ysl)
def yrx : CCode :=
  (.cond 99
 (.seq (.region [
  kO 101 (.build [(.int .i64 0), (.int .i64 0), (.int .i64 0), (.int .i64 0)] [(0, 1, (ci 1)), (1, 1, (ci 3)), (2, 1, (ci (-1))), (3, 1, (ci (-1)))]),
  kU (.st 4 2 101),
  kO 3 (.mv (.c (.bool true)))])
  .ret)
 ytu)
def ypt : CCode :=
  (.seq (.region [
 kO 100 (.bin .eql 11 (ci 15)),
 kO 99 (.mv 100)])
 yrx)
def yvv : CCode :=
  (.cond 96
 (.seq (.region [
  kO 98 (.build [(.int .i64 0), (.int .i64 0), (.int .i64 0), (.int .i64 0)] [(0, 1, (ci (-1))), (1, 1, (ci 3)), (2, 1, (ci 1)), (3, 1, (ci 0))]),
  kU (.st 4 2 98),
  kO 3 (.mv (.c (.bool true)))])
  .ret)
 ypt)
def ypq : CCode :=
  (.seq (.region [
 kO 97 (.bin .eql 11 (ci 14)),
 kO 96 (.mv 97)])
 yvv)
def yva : CCode :=
  (.cond 93
 (.seq (.region [
  kO 95 (.build [(.int .i64 0), (.int .i64 0), (.int .i64 0), (.int .i64 0)] [(0, 1, (ci 0)), (1, 1, (ci 3)), (2, 1, (ci 1)), (3, 1, (ci (-1)))]),
  kU (.st 4 2 95),
  kO 3 (.mv (.c (.bool true)))])
  .ret)
 ypq)
def ywa : CCode :=
  (.seq (.region [
 kO 94 (.bin .eql 11 (ci 13)),
 kO 93 (.mv 94)])
 yva)
def ys1 : CCode :=
  (.cond 90
 (.seq (.region [
  kO 92 (.build [(.int .i64 0), (.int .i64 0), (.int .i64 0), (.int .i64 0)] [(0, 1, (ci (-1))), (1, 1, (ci 3)), (2, 1, (ci 3)), (3, 1, (ci (-1)))]),
  kU (.st 4 2 92),
  kO 3 (.mv (.c (.bool true)))])
  .ret)
 ywa)
def ytj : CCode :=
  (.seq (.region [
 kO 91 (.bin .eql 11 (ci 11)),
 kO 90 (.mv 91)])
 ys1)
def yrk : CCode :=
  (.cond 87
 (.seq (.region [
  kO 89 (.build [(.int .i64 0), (.int .i64 0), (.int .i64 0), (.int .i64 0)] [(0, 1, (ci (-1))), (1, 1, (ci 1)), (2, 1, (ci (-1))), (3, 1, (ci (-1)))]),
  kU (.st 4 2 89),
  kO 3 (.mv (.c (.bool true)))])
  .ret)
 ytj)
def ypu : CCode :=
  (.seq (.region [
 kO 88 (.bin .eql 11 (ci 10)),
 kO 87 (.mv 88)])
 yrk)
def yov : CCode :=
  (.cond 84
 (.seq (.region [
  kO 86 (.build [(.int .i64 0), (.int .i64 0), (.int .i64 0), (.int .i64 0)] [(0, 1, (ci (-1))), (1, 1, (ci 3)), (2, 1, (ci 1)), (3, 1, (ci (-1)))]),
  kU (.st 4 2 86),
  kO 3 (.mv (.c (.bool true)))])
  .ret)
 ypu)
def yqg : CCode :=
  (.seq (.region [
 kO 85 (.bin .eql 11 (ci 9)),
 kO 84 (.mv 85)])
 yov)
def ywp : CCode :=
  (.cond 78
 (.seq (.region [
  kO 80 (.build [(.int .i64 0), (.int .i64 0), (.int .i64 0), (.int .i64 0)] [(0, 1, (ci 1)), (1, 1, (ci 3)), (2, 1, (ci (-1))), (3, 1, (ci (-1)))]),
  kO 81 (.fa 7 1),
  kO 82 (.ld false 1 81),
  kO 83 (.call none true 37 [82]),
  kU (.st 4 2 80),
  kO 3 (.mv 83)])
  .ret)
 yqg)
def ytt : CCode :=
  (.seq (.region [
 kO 79 (.bin .eql 11 (ci 22)),
 kO 78 (.mv 79)])
 ywp)
def ys0 : CCode :=
  (.cond 72
 (.seq (.region [
  kO 74 (.build [(.int .i64 0), (.int .i64 0), (.int .i64 0), (.int .i64 0)] [(0, 1, (ci (-1))), (1, 1, (ci 3)), (2, 1, (ci (-1))), (3, 1, (ci (-1)))]),
  kO 75 (.fa 7 1),
  kO 76 (.ld false 1 75),
  kO 77 (.call none true 37 [76]),
  kU (.st 4 2 74),
  kO 3 (.mv 77)])
  .ret)
 ytt)
def yw7 : CCode :=
  (.seq (.region [
 kO 73 (.bin .eql 11 (ci 12)),
 kO 72 (.mv 73)])
 ys0)
def yx7 : CCode :=
  (.cond 68
 (.seq (.region [
  kO 71 (.build [(.int .i64 0), (.int .i64 0), (.int .i64 0), (.int .i64 0)] [(0, 1, (ci (-1))), (1, 1, (ci 3)), (2, 1, (ci (-1))), (3, 1, (ci (-1)))]),
  kU (.st 4 2 71),
  kO 3 (.mv (.c (.bool true)))])
  .ret)
 yw7)
def ypl : CCode :=
  (.seq (.seq (.region [
 kO 69 (.bin .eql 11 (ci 8)),
 kO 68 (.mv 69)])
 (.cond 68
 .skip
 (.region [
  kO 70 (.bin .eql 11 (ci 31)),
  kO 68 (.mv 70)])))
 yx7)
def yr3 : CCode :=
  (.cond 65
 (.seq (.region [
  kO 67 (.build [(.int .i64 0), (.int .i64 0), (.int .i64 0), (.int .i64 0)] [(0, 1, (ci (-1))), (1, 1, (ci 0)), (2, 1, (ci (-1))), (3, 1, (ci (-1)))]),
  kU (.st 4 2 67),
  kO 3 (.mv (.c (.bool true)))])
  .ret)
 ypl)
def yre : CCode :=
  (.seq (.region [
 kO 66 (.bin .eql 11 (ci 7)),
 kO 65 (.mv 66)])
 yr3)
def ywj : CCode :=
  (.cond 47
 (.seq (.region [
  kO 50 (.fa 5 1),
  kO 51 (.ld false 1 50),
  kO 52 (.call none true 50 [51]),
  kO 49 (.mv 52),
  kO 53 (.ext 0 49),
  kO 54 (.ext 1 49),
  kO 55 (.ext 2 49),
  kO 7 (.mv 53),
  kO 8 (.mv 54),
  kO 9 (.mv 55)])
  (.seq (.region [
  kO 56 (.mv 9),
  kO 57 (.mv 7),
  kO 58 (.build [(.int .i64 0), (.int .i64 0), (.int .i64 0), (.int .i64 0)] [(0, 1, 56), (1, 1, 57), (2, 1, (ci (-1))), (3, 1, (ci (-1)))]),
  kO 59 (.mv 7),
  kO 60 (.bin .neq 59 (ci 0)),
  kO 61 (.mv 60),
  kG 62 (.mv 8) 61 true,
  kG 63 (.bin .eql 62 (ci 0)) 61 true,
  kO 64 (.pick 61 63 (.c (.bool false))),
  kU (.st 4 2 58),
  kO 3 (.mv 64)])
  .ret))
 yre)
def yrc : CCode :=
  (.seq (.region [
 kO 48 (.bin .eql 11 (ci 6)),
 kO 47 (.mv 48)])
 ywj)
def yuk : CCode :=
  (.cond 25
 (.seq (.region [
  kO 28 (.fa 5 1),
  kO 29 (.ld false 1 28),
  kO 30 (.call none true 50 [29]),
  kO 27 (.mv 30),
  kO 31 (.ext 0 27),
  kO 32 (.ext 1 27),
  kO 33 (.ext 2 27),
  kO 4 (.mv 31),
  kO 5 (.mv 32),
  kO 6 (.mv 33)])
  (.seq (.region [
  kO 34 (.mv 6),
  kO 35 (.mv 4),
  kO 36 (.mv 5),
  kO 37 (.build [(.int .i64 0), (.int .i64 0), (.int .i64 0), (.int .i64 0)] [(0, 1, 34), (1, 1, 35), (2, 1, 36), (3, 1, (ci (-1)))]),
  kO 38 (.fa 5 1),
  kO 39 (.ld false 1 38),
  kO 40 (.fa 5 1),
  kO 41 (.ld false 1 40),
  kO 42 (.bin .eql 39 41),
  kO 43 (.mv 42),
  kG 44 (.mv 5) 43 true,
  kG 45 (.bin .neq 44 (ci 0)) 43 true,
  kO 46 (.pick 43 45 (.c (.bool false))),
  kU (.st 4 2 37),
  kO 3 (.mv 46)])
  .ret))
 yrc)
def yuw : CCode :=
  (.seq (.region [
 kO 26 (.bin .eql 11 (ci 5)),
 kO 25 (.mv 26)])
 yuk)
def ywt : CCode :=
  (.cond 22
 (.seq (.region [
  kO 24 (.build [(.int .i64 0), (.int .i64 0), (.int .i64 0), (.int .i64 0)] [(0, 1, (ci 0)), (1, 1, (ci 0)), (2, 1, (ci (-1))), (3, 1, (ci (-1)))]),
  kU (.st 4 2 24),
  kO 3 (.mv (.c (.bool true)))])
  .ret)
 yuw)
def ys3 : CCode :=
  (.seq (.region [
 kO 23 (.bin .eql 11 (ci 4)),
 kO 22 (.mv 23)])
 ywt)
def ypy : CCode :=
  (.cond 16
 (.seq (.region [
  kO 21 (.build [(.int .i64 0), (.int .i64 0), (.int .i64 0), (.int .i64 0)] [(0, 1, (ci 3)), (1, 1, (ci (-1))), (2, 1, (ci (-1))), (3, 1, (ci (-1)))]),
  kU (.st 4 2 21),
  kO 3 (.mv (.c (.bool true)))])
  .ret)
 ys3)
def yom : CCode :=
  (.seq (.seq (.region [
 kO 17 (.bin .eql 11 (ci 2)),
 kO 16 (.mv 17)])
 (.cond 16
 .skip
 (.seq (.region [
  kO 18 (.bin .eql 11 (ci 3)),
  kO 16 (.mv 18)])
  (.cond 16
  .skip
  (.seq (.region [
   kO 19 (.bin .eql 11 (ci 20)),
   kO 16 (.mv 19)])
   (.cond 16
   .skip
   (.region [
    kO 20 (.bin .eql 11 (ci 32)),
    kO 16 (.mv 20)])))))))
 ypy)
def yql : CCode :=
  (.cond 12
 (.seq (.region [
  kO 15 (.build [(.int .i64 0), (.int .i64 0), (.int .i64 0), (.int .i64 0)] [(0, 1, (ci 0)), (1, 1, (ci (-1))), (2, 1, (ci (-1))), (3, 1, (ci (-1)))]),
  kU (.st 4 2 15),
  kO 3 (.mv (.c (.bool true)))])
  .ret)
 yom)
def yqz : CCode :=
  (.seq (.seq (.region [
 kO 13 (.bin .eql 11 (ci 1)),
 kO 12 (.mv 13)])
 (.cond 12
 .skip
 (.region [
  kO 14 (.bin .eql 11 (ci 18)),
  kO 12 (.mv 14)])))
 yql)
def ypd : CCode :=
  (.block 0 yqz)
def yuu : CCode :=
  (.seq (.region [
 kO 10 (.fa 0 1),
 kO 11 (.ld false 1 10)])
 ypd)
def yvu : CCode :=
  (.seq yuu
 y177)
def ypx : CCode :=
  (.seq (.region [
 kO 1 (.box (some 0) 0),
 kO 2 (.new (some 1) [(.int .i64 0), (.int .i64 0), (.int .i64 0), (.int .i64 0)]),
 kO 3 (.mv (.c (.bool false)))])
 yvu)
def y253 : CFunc :=
  ⟨1, true, 2, ypx, [.cell 2 true 4, .t 3]⟩
def y193 : CCode :=
  (.seq (.region [
 kO 2 (.mv (ci 32))])
 .ret)
def y130 : CCode :=
  (.seq (.seq (.region [
 kO 3 (.mv 0)])
 (.cond 3
 (.seq (.region [
  kO 2 (.mv (ci 64))])
  .ret)
 .skip))
 y193)
def y1eo : CCode :=
  (.seq (.region [
 kO 2 (.mv (ci 0))])
 y130)
def y25k : CFunc :=
  ⟨1, true, 0, y1eo, [.t 2]⟩
def ypo : CCode :=
  (.seq (.region [
 kO 33 (.mv 9),
 kO 34 (.mv 3),
 kO 35 (.call none true 144 [33, 34]),
 kO 8 (.mv 35)])
 .ret)
def yuf : CCode :=
  (.region [
 kO 15 (.mv 10),
 kO 16 (.bin .add 15 (ci 1)),
 kO 10 (.mv 16)])
def yvj : CCode :=
  (.seq (.block 1 (.seq (.region [
 kO 17 (.mv 0),
 kO 18 (.mv 10),
 kO 19 (.call none true 143 [17, 18]),
 kO 20 (.mv 1),
 kO 21 (.mv 10),
 kO 22 (.call none true 143 [20, 21]),
 kO 23 (.bin .add 19 22),
 kO 24 (.mv 2),
 kO 25 (.bin .add 23 24),
 kO 11 (.mv 25)])
 (.seq (.region [
 kO 26 (.mv 9),
 kO 27 (.mv 11),
 kO 28 (.bin .rem 27 (ci 2)),
 kO 29 (.buildS (some 0) 1 1 [(.int .i64 0)] [(0, 28)]),
 kO 30 (.app (some 1) 1 8 26 29),
 kO 9 (.mv 30)])
 (.region [
 kO 31 (.mv 11),
 kO 32 (.bin .quo 31 (ci 2)),
 kO 2 (.mv 32)]))))
 yuf)
def ywh : CCode :=
  (.seq (.seq (.region [
 kO 12 (.mv 10),
 kO 13 (.mv 3),
 kO 14 (.bin .lss 12 13)])
 (.cond 14
 .skip
 (.exit 0)))
 yvj)
def yez : CCode :=
  (.loop [0, 1, 2, 3, 9, 10] ywh)
def yww : CCode :=
  (.block 0 yez)
def ysj : CCode :=
  (.seq (.region [
 kO 10 (.mv (ci 0))])
 yww)
def yot : CCode :=
  (.seq ysj
 ypo)
def yu2 : CCode :=
  (.seq (.region [
 kO 9 (.mv (.c .nils))])
 yot)
def yjz : CCode :=
  (.seq (.region [
 kO 8 (.mv (ci 0))])
 yu2)
def y1rm : CFunc :=
  ⟨4, true, 2, yjz, [.t 8]⟩
def yus : CCode :=
  (.seq (.region [
 kO 25 (.mv 7),
 kO 6 (.mv 25)])
 .ret)
def yp1 : CCode :=
  (.region [
 kO 12 (.mv 8),
 kO 13 (.bin .add 12 (ci 1)),
 kO 8 (.mv 13)])
def yqt : CCode :=
  (.seq (.block 1 (.seq (.region [
 kO 14 (.mv 1),
 kO 15 (.mv 8),
 kO 16 (.call none true 143 [14, 15]),
 kO 17 (.bin .eql 16 (ci 1))])
 (.cond 17
 (.region [
  kO 18 (.mv 7),
  kO 19 (.mv 0),
  kO 20 (.mv 8),
  kO 21 (.mv 2),
  kO 22 (.call none true 141 [19, 20, 21, (.c (.bool false)), (.c (.bool false))]),
  kO 23 (.mv 2),
  kO 24 (.call none true 138 [18, 22, (ci 0), 23]),
  kO 7 (.mv 24)])
 .skip)))
 yp1)
def yuo : CCode :=
  (.seq (.seq (.region [
 kO 9 (.mv 8),
 kO 10 (.mv 2),
 kO 11 (.bin .lss 9 10)])
 (.cond 11
 .skip
 (.exit 0)))
 yqt)
def yfa : CCode :=
  (.loop [0, 1, 2, 7, 8] yuo)
def yq9 : CCode :=
  (.block 0 yfa)
def yve : CCode :=
  (.seq (.region [
 kO 8 (.mv (ci 0))])
 yq9)
def yr6 : CCode :=
  (.seq yve
 yus)
def yu9 : CCode :=
  (.seq (.region [
 kO 7 (.mv (ci 0))])
 yr6)
def ykj : CCode :=
  (.seq (.region [
 kO 6 (.mv (ci 0))])
 yu9)
def y1qw : CFunc :=
  ⟨3, true, 0, ykj, [.t 6]⟩
def y11o : CCode :=
  (.seq (.region [
 kO 69 (.mv 14),
 kO 70 (.mv 15),
 kO 6 (.mv 69),
 kO 7 (.mv 70)])
 .ret)
def y181 : CCode :=
  (.seq (.seq (.region [
 kO 65 (.mv 0),
 kO 66 (.bin .lss 65 (ci 0))])
 (.cond 66
 (.region [
  kO 67 (.mv 15),
  kO 68 (.un .neg 67),
  kO 15 (.mv 68)])
 .skip))
 y11o)
def y17m : CCode :=
  (.seq (.seq (.region [
 kO 58 (.mv 0),
 kO 59 (.bin .lss 58 (ci 0)),
 kO 60 (.mv 1),
 kO 61 (.bin .lss 60 (ci 0)),
 kO 62 (.eqb true 59 61)])
 (.cond 62
 (.region [
  kO 63 (.mv 14),
  kO 64 (.un .neg 63),
  kO 14 (.mv 64)])
 .skip))
 y181)
def y142 : CCode :=
  (.seq (.region [
 kO 56 (.mv 11),
 kO 57 (.cvi .i64 56),
 kO 15 (.mv 57)])
 y17m)
def y1dl : CCode :=
  (.seq (.region [
 kO 54 (.mv 10),
 kO 55 (.cvi .i64 54),
 kO 14 (.mv 55)])
 y142)
def y0y : CCode :=
  (.region [
 kO 29 (.mv 12),
 kO 30 (.bin .sub 29 (ci 1)),
 kO 12 (.mv 30)])
def y1g8 : CCode :=
  (.seq (.block 1 (.seq (.region [
 kO 31 (.mv 11),
 kO 32 (.bin .shr 31 (.c (.int .u64 63))),
 kO 13 (.mv 32)])
 (.seq (.region [
 kO 33 (.mv 11),
 kO 34 (.bin .mul 33 (.c (.int .u64 2))),
 kO 35 (.mv 8),
 kO 36 (.mv 12),
 kO 37 (.bin .shr 35 36),
 kO 38 (.bin .rem 37 (.c (.int .u64 2))),
 kO 39 (.bin .add 34 38),
 kO 11 (.mv 39)])
 (.seq (.region [
 kO 40 (.mv 10),
 kO 41 (.bin .mul 40 (.c (.int .u64 2))),
 kO 10 (.mv 41)])
 (.seq (.region [
 kO 42 (.mv 13),
 kO 43 (.bin .eql 42 (.c (.int .u64 1))),
 kO 44 (.mv 43),
 kG 45 (.mv 11) 44 false,
 kG 46 (.mv 9) 44 false,
 kG 47 (.bin .geq 45 46) 44 false,
 kO 48 (.pick 44 (.c (.bool true)) 47)])
 (.cond 48
 (.seq (.region [
  kO 49 (.mv 11),
  kO 50 (.mv 9),
  kO 51 (.bin .sub 49 50),
  kO 11 (.mv 51)])
  (.region [
  kO 52 (.mv 10),
  kO 53 (.bin .add 52 (.c (.int .u64 1))),
  kO 10 (.mv 53)]))
 .skip))))))
 y0y)
def y1a1 : CCode :=
  (.seq (.seq (.region [
 kO 27 (.mv 12),
 kO 28 (.bin .geq 27 (ci 0))])
 (.cond 28
 .skip
 (.exit 0)))
 y1g8)
def yiq : CCode :=
  (.loop [0, 1, 8, 9, 10, 11, 12] y1a1)
def ype : CCode :=
  (.block 0 yiq)
def yv2 : CCode :=
  (.seq (.region [
 kO 12 (.mv (ci 63))])
 ype)
def yub : CCode :=
  (.seq yv2
 y1dl)
def yp5 : CCode :=
  (.seq (.region [
 kO 10 (.mv (.c (.int .u64 0))),
 kO 11 (.mv (.c (.int .u64 0)))])
 yub)
def ywc : CCode :=
  (.seq (.region [
 kO 25 (.mv 1),
 kO 26 (.call none true 146 [25]),
 kO 9 (.mv 26)])
 yp5)
def ywl : CCode :=
  (.seq (.region [
 kO 23 (.mv 0),
 kO 24 (.call none true 146 [23]),
 kO 8 (.mv 24)])
 ywc)
def yvd : CCode :=
  (.seq (.seq (.region [
 kO 18 (.mv 1),
 kO 19 (.bin .eql 18 (ci (-1)))])
 (.cond 19
 (.seq (.region [
  kO 20 (.mv 0),
  kO 21 (.mv 2),
  kO 22 (.call none true 145 [20, 21]),
  kO 6 (.mv 22),
  kO 7 (.mv (ci 0))])
  .ret)
 .skip))
 ywl)
def yrh : CCode :=
  (.seq (.seq (.region [
 kO 16 (.mv 1),
 kO 17 (.bin .eql 16 (ci 0))])
 (.cond 17
 (.seq (.region [
  kO 6 (.mv (ci 0)),
  kO 7 (.mv (ci 0))])
  .ret)
 .skip))
 yvd)
def ytm : CCode :=
  (.seq (.region [
 kO 6 (.mv (ci 0)),
 kO 7 (.mv (ci 0))])
 yrh)
def y25x : CFunc :=
  ⟨3, true, 0, ytm, [.t 6, .t 7]⟩
def yv6 : CCode :=
  (.seq (.region [
 kO 49 (.mv 11),
 kO 50 (.mv 2),
 kO 51 (.call none true 144 [49, 50]),
 kO 10 (.mv 51)])
 .ret)
def yqd : CCode :=
  (.region [
 kO 18 (.mv 12),
 kO 19 (.bin .add 18 (ci 1)),
 kO 12 (.mv 19)])
def ysu : CCode :=
  (.region [
 kO 45 (.mv 11),
 kO 46 (.mv 14),
 kO 47 (.buildS (some 0) 1 1 [(.int .i64 0)] [(0, 46)]),
 kO 48 (.app (some 1) 1 8 45 47),
 kO 11 (.mv 48)])
def yvp : CCode :=
  (.seq (.seq (.region [
 kO 27 (.mv 13),
 kO 28 (.bin .geq 27 (ci 0)),
 kO 29 (.mv 28),
 kG 30 (.mv 13) 29 true,
 kG 31 (.mv 2) 29 true,
 kG 32 (.bin .lss 30 31) 29 true,
 kO 33 (.pick 29 32 (.c (.bool false)))])
 (.cond 33
 (.region [
  kO 34 (.mv 0),
  kO 35 (.mv 13),
  kO 36 (.call none true 143 [34, 35]),
  kO 14 (.mv 36)])
 (.seq (.region [
  kO 37 (.mv 3),
  kO 38 (.mv 37),
  kG 39 (.mv 4) 38 true,
  kO 40 (.pick 38 39 (.c (.bool false)))])
  (.cond 40
  (.region [
   kO 41 (.mv 0),
   kO 42 (.mv 2),
   kO 43 (.bin .sub 42 (ci 1)),
   kO 44 (.call none true 143 [41, 43]),
   kO 14 (.mv 44)])
  .skip))))
 ysu)
def yr8 : CCode :=
  (.seq (.region [
 kO 14 (.mv (ci 0))])
 yvp)
def ysv : CCode :=
  (.seq (.seq (.region [
 kO 23 (.mv 3)])
 (.cond 23
 (.region [
  kO 24 (.mv 12),
  kO 25 (.mv 1),
  kO 26 (.bin .add 24 25),
  kO 13 (.mv 26)])
 .skip))
 yr8)
def yty : CCode :=
  (.seq (.region [
 kO 20 (.mv 12),
 kO 21 (.mv 1),
 kO 22 (.bin .sub 20 21),
 kO 13 (.mv 22)])
 ysv)
def ytv : CCode :=
  (.block 1 yty)
def ykn : CCode :=
  (.seq ytv
 yqd)
def yko : CCode :=
  (.seq (.seq (.region [
 kO 15 (.mv 12),
 kO 16 (.mv 2),
 kO 17 (.bin .lss 15 16)])
 (.cond 17
 .skip
 (.exit 0)))
 ykn)
def yf8 : CCode :=
  (.loop [0, 1, 2, 3, 4, 11, 12] yko)
def ym3 : CCode :=
  (.block 0 yf8)
def ym6 : CCode :=
  (.seq (.region [
 kO 12 (.mv (ci 0))])
 ym3)
def ylo : CCode :=
  (.seq ym6
 yv6)
def ykm : CCode :=
  (.seq (.region [
 kO 11 (.mv (.c .nils))])
 ylo)
def ykd : CCode :=
  (.seq (.region [
 kO 10 (.mv (ci 0))])
 ykm)
def y1ru : CFunc :=
  ⟨5, true, 2, ykd, [.t 10]⟩
def y1ac : CCode :=
  (.seq (.region [
 kO 50 (.mv 9),
 kO 51 (.mv 3),
 kO 52 (.call none true 144 [50, 51]),
 kO 8 (.mv 52)])
 .ret)
def y11d : CCode :=
  (.region [
 kO 16 (.mv 10),
 kO 17 (.bin .add 16 (ci 1)),
 kO 10 (.mv 17)])
def y13l : CCode :=
  (.seq (.block 1 (.seq (.region [
 kO 18 (.mv 1),
 kO 19 (.mv 10),
 kO 20 (.call none true 143 [18, 19]),
 kO 21 (.mv 2),
 kO 22 (.mv 10),
 kO 23 (.call none true 143 [21, 22]),
 kO 11 (.mv 20),
 kO 12 (.mv 23)])
 (.seq (.region [
 kO 24 (.mv 0)])
 (.block 2 (.seq (.region [
 kO 33 (.bin .eql 24 (ci 0)),
 kO 32 (.mv 33)])
 (.cond 32
 (.region [
  kO 34 (.mv 9),
  kO 35 (.mv 11),
  kO 36 (.mv 12),
  kO 37 (.bin .mul 35 36),
  kO 38 (.buildS (some 0) 1 1 [(.int .i64 0)] [(0, 37)]),
  kO 39 (.app (some 1) 1 8 34 38),
  kO 9 (.mv 39)])
 (.seq (.region [
  kO 41 (.bin .eql 24 (ci 1)),
  kO 40 (.mv 41)])
  (.cond 40
  (.region [
   kO 42 (.mv 9),
   kO 43 (.mv 11),
   kO 44 (.mv 12),
   kO 45 (.bin .add 43 44),
   kO 46 (.bin .add 45 (ci 1)),
   kO 47 (.bin .quo 46 (ci 2)),
   kO 48 (.buildS (some 2) 1 1 [(.int .i64 0)] [(0, 47)]),
   kO 49 (.app (some 3) 1 8 42 48),
   kO 9 (.mv 49)])
  (.region [
   kO 25 (.mv 9),
   kO 26 (.mv 11),
   kO 27 (.mv 12),
   kO 28 (.bin .add 26 27),
   kO 29 (.bin .rem 28 (ci 2)),
   kO 30 (.buildS (some 4) 1 1 [(.int .i64 0)] [(0, 29)]),
   kO 31 (.app (some 5) 1 8 25 30),
   kO 9 (.mv 31)])))))))))
 y11d)
def y1az : CCode :=
  (.seq (.seq (.region [
 kO 13 (.mv 10),
 kO 14 (.mv 3),
 kO 15 (.bin .lss 13 14)])
 (.cond 15
 .skip
 (.exit 0)))
 y13l)
def yj3 : CCode :=
  (.loop [0, 1, 2, 3, 9, 10] y1az)
def y19o : CCode :=
  (.block 0 yj3)
def y1eg : CCode :=
  (.seq (.region [
 kO 10 (.mv (ci 0))])
 y19o)
def y1gx : CCode :=
  (.seq y1eg
 y1ac)
def y1fm : CCode :=
  (.seq (.region [
 kO 9 (.mv (.c .nils))])
 y1gx)
def yrd : CCode :=
  (.seq (.region [
 kO 8 (.mv (ci 0))])
 y1fm)
def y241 : CFunc :=
  ⟨4, true, 6, yrd, [.t 8]⟩
def y16s : CCode :=
  (.seq (.region [
 kO 4 (.mv (ci 0))])
 .ret)
def y16i : CCode :=
  (.cond 16
 (.seq (.region [
  kO 19 (.mv 1),
  kO 20 (.cvi .i32 19),
  kO 21 (.cvi .i64 20),
  kO 4 (.mv 21)])
  .ret)
 (.seq (.region [
  kO 23 (.bin .eql 5 (ci 145)),
  kO 22 (.mv 23)])
  (.cond 22
  (.seq (.region [
   kO 24 (.mv 1),
   kO 25 (.cvi .i8 24),
   kO 26 (.cvi .i64 25),
   kO 4 (.mv 26)])
   .ret)
  (.seq (.region [
   kO 28 (.bin .eql 5 (ci 146)),
   kO 27 (.mv 28)])
   (.cond 27
   (.seq (.region [
    kO 29 (.mv 1),
    kO 30 (.cvi .u16 29),
    kO 31 (.cvi .i64 30),
    kO 4 (.mv 31)])
    .ret)
   (.seq (.region [
    kO 33 (.bin .eql 5 (ci 147)),
    kO 32 (.mv 33)])
    (.cond 32
    (.seq (.region [
     kO 34 (.mv 1),
     kO 35 (.cvi .i16 34),
     kO 36 (.cvi .i64 35),
     kO 4 (.mv 36)])
     .ret)
    .skip)))))))
def y1fw : CCode :=
  (.seq (.seq (.region [
 kO 17 (.bin .eql 5 (ci 133)),
 kO 16 (.mv 17)])
 (.cond 16
 .skip
 (.region [
  kO 18 (.bin .eql 5 (ci 136)),
  kO 16 (.mv 18)])))
 y16i)
def y14h : CCode :=
  (.cond 12
 (.seq (.region [
  kO 14 (.mv 1),
  kO 15 (.un .neg 14),
  kO 4 (.mv 15)])
  .ret)
 y1fw)
def y1cx : CCode :=
  (.seq (.region [
 kO 13 (.bin .eql 5 (ci 117)),
 kO 12 (.mv 13)])
 y14h)
def y137 : CCode :=
  (.cond 6
 (.seq (.region [
  kO 8 (.mv 1),
  kO 9 (.cvi .i32 8),
  kO 10 (.un .neg 9),
  kO 11 (.cvi .i64 10),
  kO 4 (.mv 11)])
  .ret)
 y1cx)
def y1ey : CCode :=
  (.seq (.region [
 kO 7 (.bin .eql 5 (ci 116)),
 kO 6 (.mv 7)])
 y137)
def y0j : CCode :=
  (.block 0 y1ey)
def y13n : CCode :=
  (.seq (.region [
 kO 5 (.mv 0)])
 y0j)
def yw0 : CCode :=
  (.seq y13n
 y16s)
def ywo : CCode :=
  (.seq (.region [
 kO 4 (.mv (ci 0))])
 yw0)
def y23g : CFunc :=
  ⟨2, true, 0, ywo, [.t 4]⟩
def y1do : CCode :=
  (.seq (.region [
 kO 29 (.mv 0),
 kO 30 (.mv 1),
 kO 31 (.mv 2),
 kO 32 (.call none true 131 [29, 30, 31]),
 kO 6 (.mv 32)])
 .ret)
def y13q : CCode :=
  (.seq (.region [
 kO 6 (.mv (ci 0))])
 .ret)
def y1c3 : CCode :=
  (.seq (.block 1 (.seq (.region [
 kO 11 (.mv 1),
 kO 12 (.mv 2),
 kO 13 (.bin .lss 11 12),
 kO 10 (.mv 13)])
 (.cond 10
 (.seq (.region [
  kO 6 (.mv (ci (-1)))])
  .ret)
 (.seq (.region [
  kO 15 (.mv 1),
  kO 16 (.mv 2),
  kO 17 (.bin .gtr 15 16),
  kO 14 (.mv 17)])
  (.cond 14
  (.seq (.region [
   kO 6 (.mv (ci 1))])
   .ret)
  .skip)))))
 y13q)
def y1af : CCode :=
  (.cond 7
 y1c3
 (.seq (.region [
  kO 19 (.mv 0),
  kO 20 (.bin .and 19 (ci 1)),
  kO 21 (.bin .eql 20 (ci 0)),
  kO 18 (.mv 21)])
  (.cond 18
  (.seq (.region [
   kO 22 (.mv 0),
   kO 23 (.mv 1),
   kO 24 (.cvi .i32 23),
   kO 25 (.mv 2),
   kO 26 (.cvi .i32 25),
   kO 27 (.call none true 130 [22, 24, 26]),
   kO 28 (.cvi .i64 27),
   kO 6 (.mv 28)])
   .ret)
  .skip)))
def y17j : CCode :=
  (.seq (.region [
 kO 8 (.mv 0),
 kO 9 (.bin .eql 8 (ci 148)),
 kO 7 (.mv 9)])
 y1af)
def y1di : CCode :=
  (.block 0 y17j)
def y173 : CCode :=
  (.seq y1di
 y1do)
def y1b1 : CCode :=
  (.seq (.region [
 kO 6 (.mv (ci 0))])
 y173)
def y20m : CFunc :=
  ⟨3, true, 0, y1b1, [.t 6]⟩
def y141 : CCode :=
  (.seq (.region [
 kO 6 (.mv (.c (.bool false)))])
 .ret)
def y1cj : CCode :=
  (.seq (.seq (.region [
 kO 7 (.mv 0)])
 (.block 0 (.seq (.region [
 kO 9 (.bin .eql 7 (ci 0)),
 kO 8 (.mv 9)])
 (.cond 8
 (.seq (.region [
  kO 10 (.mv 1),
  kO 11 (.mv 2),
  kO 12 (.bin .eql 10 11),
  kO 6 (.mv 12)])
  .ret)
 (.seq (.region [
  kO 14 (.bin .eql 7 (ci 1)),
  kO 13 (.mv 14)])
  (.cond 13
  (.seq (.region [
   kO 15 (.mv 1),
   kO 16 (.mv 2),
   kO 17 (.bin .neq 15 16),
   kO 6 (.mv 17)])
   .ret)
  (.seq (.region [
   kO 19 (.bin .eql 7 (ci 2)),
   kO 18 (.mv 19)])
   (.cond 18
   (.seq (.region [
    kO 20 (.mv 1),
    kO 21 (.mv 2),
    kO 22 (.bin .lss 20 21),
    kO 6 (.mv 22)])
    .ret)
   (.seq (.region [
    kO 24 (.bin .eql 7 (ci 3)),
    kO 23 (.mv 24)])
    (.cond 23
    (.seq (.region [
     kO 25 (.mv 1),
     kO 26 (.mv 2),
     kO 27 (.bin .geq 25 26),
     kO 6 (.mv 27)])
     .ret)
    (.seq (.region [
     kO 29 (.bin .eql 7 (ci 4)),
     kO 28 (.mv 29)])
     (.cond 28
     (.seq (.region [
      kO 30 (.mv 1),
      kO 31 (.mv 2),
      kO 32 (.bin .gtr 30 31),
      kO 6 (.mv 32)])
      .ret)
     (.seq (.region [
      kO 34 (.bin .eql 7 (ci 5)),
      kO 33 (.mv 34)])
      (.cond 33
      (.seq (.region [
       kO 35 (.mv 1),
       kO 36 (.mv 2),
       kO 37 (.bin .leq 35 36),
       kO 6 (.mv 37)])
       .ret)
      .skip))))))))))))))
 y141)
def y167 : CCode :=
  (.seq (.region [
 kO 6 (.mv (.c (.bool false)))])
 y1cj)
def y23m : CFunc :=
  ⟨3, true, 0, y167, [.t 6]⟩
def y12e : CCode :=
  (.seq (.region [
 kO 2 (.mv (ci 0)),
 kO 3 (.mv (ci 0)),
 kO 4 (.mv (ci 0))])
 .ret)
def y11g : CCode :=
  (.cond 33
 (.seq (.region [
  kO 2 (.mv (ci 1)),
  kO 3 (.mv (ci 0)),
  kO 4 (.mv (ci 1))])
  .ret)
 (.seq (.region [
  kO 39 (.bin .eql 5 (ci 117)),
  kO 38 (.mv 39)])
  (.cond 38
  (.seq (.region [
   kO 2 (.mv (ci 2)),
   kO 3 (.mv (ci 0)),
   kO 4 (.mv (ci 2))])
   .ret)
  (.seq (.region [
   kO 41 (.bin .eql 5 (ci 133)),
   kO 40 (.mv 41)])
   (.cond 40
   (.seq (.region [
    kO 2 (.mv (ci 1)),
    kO 3 (.mv (ci 0)),
    kO 4 (.mv (ci 2))])
    .ret)
   (.seq (.region [
    kO 43 (.bin .eql 5 (ci 136)),
    kO 42 (.mv 43)])
    (.cond 42
    (.seq (.region [
     kO 2 (.mv (ci 2)),
     kO 3 (.mv (ci 0)),
     kO 4 (.mv (ci 1))])
     .ret)
    .skip)))))))
def y194 : CCode :=
  (.seq (.seq (.region [
 kO 34 (.bin .eql 5 (ci 116)),
 kO 33 (.mv 34)])
 (.cond 33
 .skip
 (.seq (.region [
  kO 35 (.bin .eql 5 (ci 145)),
  kO 33 (.mv 35)])
  (.cond 33
  .skip
  (.seq (.region [
   kO 36 (.bin .eql 5 (ci 146)),
   kO 33 (.mv 36)])
   (.cond 33
   .skip
   (.region [
    kO 37 (.bin .eql 5 (ci 147)),
    kO 33 (.mv 37)])))))))
 y11g)
def y1d2 : CCode :=
  (.cond 31
 (.seq (.region [
  kO 2 (.mv (ci 2)),
  kO 3 (.mv (ci 2)),
  kO 4 (.mv (ci 1))])
  .ret)
 y194)
def y07 : CCode :=
  (.seq (.region [
 kO 32 (.bin .eql 5 (ci 148)),
 kO 31 (.mv 32)])
 y1d2)
def yzt : CCode :=
  (.cond 27
 (.seq (.region [
  kO 2 (.mv (ci 2)),
  kO 3 (.mv (ci 1)),
  kO 4 (.mv (ci 2))])
  .ret)
 y07)
def y19r : CCode :=
  (.seq (.seq (.region [
 kO 28 (.bin .eql 5 (ci 121)),
 kO 27 (.mv 28)])
 (.cond 27
 .skip
 (.seq (.region [
  kO 29 (.bin .eql 5 (ci 123)),
  kO 27 (.mv 29)])
  (.cond 27
  .skip
  (.region [
   kO 30 (.bin .eql 5 (ci 125)),
   kO 27 (.mv 30)])))))
 yzt)
def y1ek : CCode :=
  (.cond 18
 (.seq (.region [
  kO 2 (.mv (ci 2)),
  kO 3 (.mv (ci 2)),
  kO 4 (.mv (ci 2))])
  .ret)
 y19r)
def y17n : CCode :=
  (.seq (.seq (.region [
 kO 19 (.bin .eql 5 (ci 97)),
 kO 18 (.mv 19)])
 (.cond 18
 .skip
 (.seq (.region [
  kO 20 (.bin .eql 5 (ci 101)),
  kO 18 (.mv 20)])
  (.cond 18
  .skip
  (.seq (.region [
   kO 21 (.bin .eql 5 (ci 105)),
   kO 18 (.mv 21)])
   (.cond 18
   .skip
   (.seq (.region [
    kO 22 (.bin .eql 5 (ci 109)),
    kO 18 (.mv 22)])
    (.cond 18
    .skip
    (.seq (.region [
     kO 23 (.bin .eql 5 (ci 113)),
     kO 18 (.mv 23)])
     (.cond 18
     .skip
     (.seq (.region [
      kO 24 (.bin .eql 5 (ci 127)),
      kO 18 (.mv 24)])
      (.cond 18
      .skip
      (.seq (.region [
       kO 25 (.bin .eql 5 (ci 129)),
       kO 18 (.mv 25)])
       (.cond 18
       .skip
       (.region [
        kO 26 (.bin .eql 5 (ci 131)),
        kO 18 (.mv 26)])))))))))))))))
 y1ek)
def ys5 : CCode :=
  (.cond 6
 (.seq (.region [
  kO 2 (.mv (ci 1)),
  kO 3 (.mv (ci 1)),
  kO 4 (.mv (ci 1))])
  .ret)
 y17n)
def yrf : CCode :=
  (.seq (.seq (.region [
 kO 7 (.bin .eql 5 (ci 96)),
 kO 6 (.mv 7)])
 (.cond 6
 .skip
 (.seq (.region [
  kO 8 (.bin .eql 5 (ci 100)),
  kO 6 (.mv 8)])
  (.cond 6
  .skip
  (.seq (.region [
   kO 9 (.bin .eql 5 (ci 104)),
   kO 6 (.mv 9)])
   (.cond 6
   .skip
   (.seq (.region [
    kO 10 (.bin .eql 5 (ci 108)),
    kO 6 (.mv 10)])
    (.cond 6
    .skip
    (.seq (.region [
     kO 11 (.bin .eql 5 (ci 112)),
     kO 6 (.mv 11)])
     (.cond 6
     .skip
     (.seq (.region [
      kO 12 (.bin .eql 5 (ci 120)),
      kO 6 (.mv 12)])
      (.cond 6
      .skip
      (.seq (.region [
       kO 13 (.bin .eql 5 (ci 122)),
       kO 6 (.mv 13)])
       (.cond 6
       .skip
       (.seq (.region [
        kO 14 (.bin .eql 5 (ci 124)),
        kO 6 (.mv 14)])
        (.cond 6
        .skip
        (.seq (.region [
         kO 15 (.bin .eql 5 (ci 126)),
         kO 6 (.mv 15)])
         (.cond 6
         .skip
         (.seq (.region [
          kO 16 (.bin .eql 5 (ci 128)),
          kO 6 (.mv 16)])
          (.cond 6
          .skip
          (.region [
           kO 17 (.bin .eql 5 (ci 130)),
           kO 6 (.mv 17)])))))))))))))))))))))
 ys5)
def yt4 : CCode :=
  (.block 0 yrf)
def yx3 : CCode :=
  (.seq (.region [
 kO 5 (.mv 0)])
 yt4)
def yqj : CCode :=
  (.seq yx3
 y12e)
def yqs : CCode :=
  (.seq (.region [
 kO 2 (.mv (ci 0)),
 kO 3 (.mv (ci 0)),
 kO 4 (.mv (ci 0))])
 yqj)
def y1zx : CFunc :=
  ⟨1, true, 0, yqs, [.t 2, .t 3, .t 4]⟩
def y1qy : CCode :=
  (.seq (.region [
 kO 2 (.mv (.c (.bool false)))])
 (.seq (.region [
 kO 3 (.mv 0),
 kO 4 (.bin .neq 3 (.c (.str []))),
 kO 5 (.mv 4),
 kG 6 (.mv 0) 5 true,
 kG 7 (.call none true 44 [6]) 5 true,
 kG 8 (.mv 0) 5 true,
 kG 9 (.len 0 8) 5 true,
 kG 10 (.bin .eql 7 9) 5 true,
 kO 11 (.pick 5 10 (.c (.bool false))),
 kO 2 (.mv 11)])
 .ret))
def c_q8 : CFunc :=
  ⟨1, true, 0, y1qy, [.t 2]⟩
def y0i : CCode :=
  (.seq (.region [
 kO 73 (.build [(.int .i64 0), (.int .i64 0), (.int .i64 0), (.int .i64 0)] []),
 kU (.st 4 2 73),
 kO 3 (.mv (.c (.bool false)))])
 .ret)
def y1e8 : CCode :=
  (.seq (.draw [
 kO 15 (.mv 4),
 kO 16 (.build [(.int .i64 0), (.int .i64 0), (.int .i64 0), (.int .i64 0)] [(0, 1, (ci (-1))), (1, 1, (ci 3)), (2, 1, 15), (3, 1, (ci (-1)))]),
 kO 17 (.fa 5 1),
 kO 18 (.ld false 1 17),
 kO 19 (.bin .eql 18 (ci 0)),
 kO 20 (.mv 19),
 kG 21 (.fa 5 1) 20 false,
 kG 22 (.ld false 1 21) 20 false,
 kG 23 (.bin .eql 22 (ci 1)) 20 false,
 kO 24 (.pick 20 (.c (.bool true)) 23),
 kU (.st 4 2 16),
 kO 3 (.mv 24)] [(7, 10)])
 .ret)
def y17k : CCode :=
  (.seq (.seq (.region [
 kO 12 (.fa 3 1),
 kO 13 (.ld false 1 12),
 kO 14 (.bin .neq 13 (ci (-1)))])
 (.cond 14
 (.region [
  kO 4 (.mv (ci 3))])
 .skip))
 y1e8)
def y15f : CCode :=
  (.seq (.region [
 kO 4 (.mv (ci (-1)))])
 y17k)
def y19i : CCode :=
  (.seq (.region [
 kO 30 (.mv 5),
 kO 31 (.build [(.int .i64 0), (.int .i64 0), (.int .i64 0), (.int .i64 0)] [(0, 1, (ci (-1))), (1, 1, 30), (2, 1, (ci (-1))), (3, 1, (ci (-1)))]),
 kU (.st 4 2 31),
 kO 3 (.mv (.c (.bool true)))])
 .ret)
def y13b : CCode :=
  (.seq (.seq (.region [
 kO 27 (.fa 2 1),
 kO 28 (.ld false 1 27),
 kO 29 (.bin .neq 28 (ci (-1)))])
 (.cond 29
 (.region [
  kO 5 (.mv (ci 0))])
 .skip))
 y19i)
def y0u : CCode :=
  (.seq (.region [
 kO 5 (.mv (ci (-1)))])
 y13b)
def y175 : CCode :=
  (.seq (.region [
 kO 40 (.fa 0 1),
 kO 41 (.ld false 1 40),
 kO 42 (.bin .eql 41 (ci 23)),
 kO 43 (.mv 42),
 kG 44 (.fa 0 1) 43 false,
 kG 45 (.ld false 1 44) 43 false,
 kG 46 (.bin .eql 45 (ci 26)) 43 false,
 kO 47 (.pick 43 (.c (.bool true)) 46),
 kO 48 (.mv 47),
 kG 49 (.fa 8 1) 48 false,
 kG 50 (.ld false 1 49) 48 false,
 kG 51 (.len 1 50) 48 false,
 kG 52 (.bin .gtr 51 (ci 0)) 48 false,
 kO 53 (.pick 48 (.c (.bool true)) 52),
 kO 7 (.mv 53)])
 (.seq (.draw [
 kO 54 (.mv 6),
 kO 55 (.build [(.int .i64 0), (.int .i64 0), (.int .i64 0), (.int .i64 0)] [(0, 1, 54), (1, 1, (ci (-1))), (2, 1, (ci (-1))), (3, 1, (ci (-1)))]),
 kO 56 (.mv 7),
 kO 57 (.mv 56),
 kG 58 (.fa 5 1) 57 true,
 kG 59 (.ld false 1 58) 57 true,
 kG 60 (.bin .geq 59 (ci 0)) 57 true,
 kG 61 (.mv 60) 57 true,
 kG 62 (.fa 0 1) 61 false,
 kG 63 (.ld false 1 62) 61 false,
 kG 64 (.bin .eql 63 (ci 25)) 61 false,
 kG 65 (.pick 61 (.c (.bool true)) 64) 57 true,
 kO 66 (.pick 57 65 (.c (.bool false))),
 kO 67 (.mv 66),
 kG 68 (.fa 8 1) 67 true,
 kG 69 (.ld false 1 68) 67 true,
 kG 70 (.len 1 69) 67 true,
 kG 71 (.bin .leq 70 (ci 21)) 67 true,
 kO 72 (.pick 67 71 (.c (.bool false))),
 kU (.st 4 2 55),
 kO 3 (.mv 72)] [(15, 19), (16, 19)])
 .ret))
def y1gr : CCode :=
  (.seq (.seq (.region [
 kO 37 (.fa 1 1),
 kO 38 (.ld false 1 37),
 kO 39 (.bin .neq 38 (ci (-1)))])
 (.cond 39
 (.region [
  kO 6 (.mv (ci 0))])
 .skip))
 y175)
def yv8 : CCode :=
  (.seq (.region [
 kO 6 (.mv (ci (-1)))])
 y1gr)
def yv4 : CCode :=
  (.cond 32
 yv8
 .skip)
def ysg : CCode :=
  (.seq (.seq (.region [
 kO 33 (.bin .eql 9 (ci 23)),
 kO 32 (.mv 33)])
 (.cond 32
 .skip
 (.seq (.region [
  kO 34 (.bin .eql 9 (ci 24)),
  kO 32 (.mv 34)])
  (.cond 32
  .skip
  (.seq (.region [
   kO 35 (.bin .eql 9 (ci 25)),
   kO 32 (.mv 35)])
   (.cond 32
   .skip
   (.region [
    kO 36 (.bin .eql 9 (ci 26)),
    kO 32 (.mv 36)])))))))
 yv4)
def ysr : CCode :=
  (.cond 25
 y0u
 ysg)
def yrv : CCode :=
  (.seq (.region [
 kO 26 (.bin .eql 9 (ci 30)),
 kO 25 (.mv 26)])
 ysr)
def yup : CCode :=
  (.cond 10
 y15f
 yrv)
def ytp : CCode :=
  (.seq (.region [
 kO 11 (.bin .eql 9 (ci 29)),
 kO 10 (.mv 11)])
 yup)
def yq5 : CCode :=
  (.block 0 ytp)
def yx5 : CCode :=
  (.seq (.region [
 kO 8 (.fa 0 1),
 kO 9 (.ld false 1 8)])
 yq5)
def yq0 : CCode :=
  (.seq yx5
 y0i)
def yrj : CCode :=
  (.seq (.region [
 kO 1 (.box (some 0) 0),
 kO 2 (.new (some 1) [(.int .i64 0), (.int .i64 0), (.int .i64 0), (.int .i64 0)]),
 kO 3 (.mv (.c (.bool false)))])
 yq0)
def y26c : CFunc :=
  ⟨1, true, 2, yrj, [.cell 2 true 4, .t 3]⟩
def y1a4 : CCode :=
  (.seq (.region [
 kO 4 (.mv (ci 0))])
 (.seq (.region [
 kO 5 (.mv 0),
 kO 6 (.mv 1),
 kO 7 (.bin .shr 5 6),
 kO 8 (.bin .and 7 (ci 1)),
 kO 4 (.mv 8)])
 .ret))
def y249 : CFunc :=
  ⟨2, true, 0, y1a4, [.t 4]⟩
def yzq : CCode :=
  (.seq (.region [
 kO 20 (.mv 5),
 kO 21 (.mv 1),
 kO 22 (.call none true 135 [20, 21]),
 kO 4 (.mv 22)])
 .ret)
def y1au : CCode :=
  (.region [
 kO 10 (.mv 6),
 kO 11 (.bin .add 10 (ci 1)),
 kO 6 (.mv 11)])
def y16g : CCode :=
  (.seq (.block 1 (.region [
 kO 12 (.mv 5),
 kO 13 (.mv 0),
 kO 14 (.mv 6),
 kO 15 (.ixs 1 13 14),
 kO 16 (.ld false 1 15),
 kO 17 (.mv 6),
 kO 18 (.bin .shl 16 17),
 kO 19 (.bin .or 12 18),
 kO 5 (.mv 19)]))
 y1au)
def y1fh : CCode :=
  (.seq (.seq (.region [
 kO 7 (.mv 6),
 kO 8 (.mv 1),
 kO 9 (.bin .lss 7 8)])
 (.cond 9
 .skip
 (.exit 0)))
 y16g)
def yib : CCode :=
  (.loop [0, 1, 5, 6] y1fh)
def y1bd : CCode :=
  (.block 0 yib)
def y12u : CCode :=
  (.seq (.region [
 kO 6 (.mv (ci 0))])
 y1bd)
def y14w : CCode :=
  (.seq y12u
 yzq)
def y1h0 : CCode :=
  (.seq (.region [
 kO 5 (.mv (ci 0))])
 y14w)
def yt6 : CCode :=
  (.seq (.region [
 kO 4 (.mv (ci 0))])
 y1h0)
def y22w : CFunc :=
  ⟨2, true, 0, yt6, [.t 4]⟩
def yvb : CCode :=
  (.seq (.region [
 kO 4 (.mv (ci 0))])
 (.seq (.region [
 kO 5 (.mv 0),
 kO 6 (.un .xor 5),
 kO 7 (.mv 1),
 kO 8 (.call none true 138 [(ci 0), 6, (ci 1), 7]),
 kO 4 (.mv 8)])
 .ret))
def y1q9 : CFunc :=
  ⟨2, true, 0, yvb, [.t 4]⟩
def y11b : CCode :=
  (.seq (.region [
 kO 10 (.mv 0),
 kO 11 (.cvi .u64 10),
 kO 2 (.mv 11)])
 .ret)
def y1ew : CCode :=
  (.seq (.seq (.region [
 kO 3 (.mv 0),
 kO 4 (.bin .lss 3 (ci 0))])
 (.cond 4
 (.seq (.region [
  kO 5 (.mv 0),
  kO 6 (.bin .add 5 (ci 1)),
  kO 7 (.un .neg 6),
  kO 8 (.cvi .u64 7),
  kO 9 (.bin .add 8 (.c (.int .u64 1))),
  kO 2 (.mv 9)])
  .ret)
 .skip))
 y11b)
def y1dr : CCode :=
  (.seq (.region [
 kO 2 (.mv (.c (.int .u64 0)))])
 y1ew)
def y22p : CFunc :=
  ⟨1, true, 0, y1dr, [.t 2]⟩
def y14c : CCode :=
  (.seq (.region [
 kO 6 (.mv (.c (.int .i32 0)))])
 .ret)
def y15e : CCode :=
  (.cond 23
 (.seq (.region [
  kO 26 (.mv 0),
  kO 27 (.bin .eql 26 (ci 112)),
  kO 28 (.mv 1),
  kO 29 (.cvi .i64 28),
  kO 30 (.mv 2),
  kO 31 (.cvi .i64 30),
  kO 32 (.call none true 132 [27, 29, 31]),
  kO 33 (.cvi .i32 32),
  kO 6 (.mv 33)])
  .ret)
 (.seq (.region [
  kO 35 (.bin .eql 7 (ci 120)),
  kO 34 (.mv 35)])
  (.cond 34
  (.seq (.region [
   kO 36 (.mv 1),
   kO 37 (.mv 2),
   kO 38 (.cvi .u32 37),
   kO 39 (.bin .and 38 (.c (.int .u32 31))),
   kO 40 (.bin .shl 36 39),
   kO 6 (.mv 40)])
   .ret)
  (.seq (.region [
   kO 42 (.bin .eql 7 (ci 122)),
   kO 41 (.mv 42)])
   (.cond 41
   (.seq (.region [
    kO 43 (.mv 1),
    kO 44 (.mv 2),
    kO 45 (.cvi .u32 44),
    kO 46 (.bin .and 45 (.c (.int .u32 31))),
    kO 47 (.bin .shr 43 46),
    kO 6 (.mv 47)])
    .ret)
   (.seq (.region [
    kO 49 (.bin .eql 7 (ci 124)),
    kO 48 (.mv 49)])
    (.cond 48
    (.seq (.region [
     kO 50 (.mv 1),
     kO 51 (.cvi .u32 50),
     kO 52 (.mv 2),
     kO 53 (.cvi .u32 52),
     kO 54 (.bin .and 53 (.c (.int .u32 31))),
     kO 55 (.bin .shr 51 54),
     kO 56 (.cvi .i32 55),
     kO 6 (.mv 56)])
     .ret)
    (.seq (.region [
     kO 58 (.bin .eql 7 (ci 126)),
     kO 57 (.mv 58)])
     (.cond 57
     (.seq (.region [
      kO 59 (.mv 1),
      kO 60 (.mv 2),
      kO 61 (.bin .and 59 60),
      kO 6 (.mv 61)])
      .ret)
     (.seq (.region [
      kO 63 (.bin .eql 7 (ci 128)),
      kO 62 (.mv 63)])
      (.cond 62
      (.seq (.region [
       kO 64 (.mv 1),
       kO 65 (.mv 2),
       kO 66 (.bin .or 64 65),
       kO 6 (.mv 66)])
       .ret)
      (.seq (.region [
       kO 68 (.bin .eql 7 (ci 130)),
       kO 67 (.mv 68)])
       (.cond 67
       (.seq (.region [
        kO 69 (.mv 1),
        kO 70 (.mv 2),
        kO 71 (.bin .xor 69 70),
        kO 6 (.mv 71)])
        .ret)
       .skip)))))))))))))
def y11l : CCode :=
  (.seq (.seq (.region [
 kO 24 (.bin .eql 7 (ci 108)),
 kO 23 (.mv 24)])
 (.cond 23
 .skip
 (.region [
  kO 25 (.bin .eql 7 (ci 112)),
  kO 23 (.mv 25)])))
 y15e)
def yzg : CCode :=
  (.cond 18
 (.seq (.region [
  kO 20 (.mv 1),
  kO 21 (.mv 2),
  kO 22 (.bin .mul 20 21),
  kO 6 (.mv 22)])
  .ret)
 y11l)
def y1d4 : CCode :=
  (.seq (.region [
 kO 19 (.bin .eql 7 (ci 104)),
 kO 18 (.mv 19)])
 yzg)
def y1bv : CCode :=
  (.cond 13
 (.seq (.region [
  kO 15 (.mv 1),
  kO 16 (.mv 2),
  kO 17 (.bin .sub 15 16),
  kO 6 (.mv 17)])
  .ret)
 y1d4)
def y1ga : CCode :=
  (.seq (.region [
 kO 14 (.bin .eql 7 (ci 100)),
 kO 13 (.mv 14)])
 y1bv)
def yzs : CCode :=
  (.cond 8
 (.seq (.region [
  kO 10 (.mv 1),
  kO 11 (.mv 2),
  kO 12 (.bin .add 10 11),
  kO 6 (.mv 12)])
  .ret)
 y1ga)
def y1dh : CCode :=
  (.seq (.region [
 kO 9 (.bin .eql 7 (ci 96)),
 kO 8 (.mv 9)])
 yzs)
def yt2 : CCode :=
  (.block 0 y1dh)
def yug : CCode :=
  (.seq (.region [
 kO 7 (.mv 0)])
 yt2)
def yqe : CCode :=
  (.seq yug
 y14c)
def yt3 : CCode :=
  (.seq (.region [
 kO 6 (.mv (.c (.int .i32 0)))])
 yqe)
def y22v : CFunc :=
  ⟨3, true, 0, yt3, [.t 6]⟩
def y19a : CCode :=
  (.seq (.region [
 kO 6 (.mv (ci 0))])
 .ret)
def y132 : CCode :=
  (.cond 23
 (.seq (.region [
  kO 26 (.mv 0),
  kO 27 (.bin .eql 26 (ci 113)),
  kO 28 (.mv 1),
  kO 29 (.mv 2),
  kO 30 (.call none true 132 [27, 28, 29]),
  kO 6 (.mv 30)])
  .ret)
 (.seq (.region [
  kO 32 (.bin .eql 7 (ci 121)),
  kO 31 (.mv 32)])
  (.cond 31
  (.seq (.region [
   kO 33 (.mv 1),
   kO 34 (.mv 2),
   kO 35 (.cvi .u64 34),
   kO 36 (.bin .and 35 (.c (.int .u64 63))),
   kO 37 (.bin .shl 33 36),
   kO 6 (.mv 37)])
   .ret)
  (.seq (.region [
   kO 39 (.bin .eql 7 (ci 123)),
   kO 38 (.mv 39)])
   (.cond 38
   (.seq (.region [
    kO 40 (.mv 1),
    kO 41 (.mv 2),
    kO 42 (.cvi .u64 41),
    kO 43 (.bin .and 42 (.c (.int .u64 63))),
    kO 44 (.bin .shr 40 43),
    kO 6 (.mv 44)])
    .ret)
   (.seq (.region [
    kO 46 (.bin .eql 7 (ci 125)),
    kO 45 (.mv 46)])
    (.cond 45
    (.seq (.region [
     kO 47 (.mv 1),
     kO 48 (.cvi .u64 47),
     kO 49 (.mv 2),
     kO 50 (.cvi .u64 49),
     kO 51 (.bin .and 50 (.c (.int .u64 63))),
     kO 52 (.bin .shr 48 51),
     kO 53 (.cvi .i64 52),
     kO 6 (.mv 53)])
     .ret)
    (.seq (.region [
     kO 55 (.bin .eql 7 (ci 127)),
     kO 54 (.mv 55)])
     (.cond 54
     (.seq (.region [
      kO 56 (.mv 1),
      kO 57 (.mv 2),
      kO 58 (.bin .and 56 57),
      kO 6 (.mv 58)])
      .ret)
     (.seq (.region [
      kO 60 (.bin .eql 7 (ci 129)),
      kO 59 (.mv 60)])
      (.cond 59
      (.seq (.region [
       kO 61 (.mv 1),
       kO 62 (.mv 2),
       kO 63 (.bin .or 61 62),
       kO 6 (.mv 63)])
       .ret)
      (.seq (.region [
       kO 65 (.bin .eql 7 (ci 131)),
       kO 64 (.mv 65)])
       (.cond 64
       (.seq (.region [
        kO 66 (.mv 1),
        kO 67 (.mv 2),
        kO 68 (.bin .xor 66 67),
        kO 6 (.mv 68)])
        .ret)
       .skip)))))))))))))
def y19h : CCode :=
  (.seq (.seq (.region [
 kO 24 (.bin .eql 7 (ci 109)),
 kO 23 (.mv 24)])
 (.cond 23
 .skip
 (.region [
  kO 25 (.bin .eql 7 (ci 113)),
  kO 23 (.mv 25)])))
 y132)
def y14a : CCode :=
  (.cond 18
 (.seq (.region [
  kO 20 (.mv 1),
  kO 21 (.mv 2),
  kO 22 (.bin .mul 20 21),
  kO 6 (.mv 22)])
  .ret)
 y19h)
def y12w : CCode :=
  (.seq (.region [
 kO 19 (.bin .eql 7 (ci 105)),
 kO 18 (.mv 19)])
 y14a)
def y1fj : CCode :=
  (.cond 13
 (.seq (.region [
  kO 15 (.mv 1),
  kO 16 (.mv 2),
  kO 17 (.bin .sub 15 16),
  kO 6 (.mv 17)])
  .ret)
 y12w)
def y12p : CCode :=
  (.seq (.region [
 kO 14 (.bin .eql 7 (ci 101)),
 kO 13 (.mv 14)])
 y1fj)
def y1b2 : CCode :=
  (.cond 8
 (.seq (.region [
  kO 10 (.mv 1),
  kO 11 (.mv 2),
  kO 12 (.bin .add 10 11),
  kO 6 (.mv 12)])
  .ret)
 y12p)
def y13j : CCode :=
  (.seq (.region [
 kO 9 (.bin .eql 7 (ci 97)),
 kO 8 (.mv 9)])
 y1b2)
def yp4 : CCode :=
  (.block 0 y13j)
def yw1 : CCode :=
  (.seq (.region [
 kO 7 (.mv 0)])
 yp4)
def ytr : CCode :=
  (.seq yw1
 y19a)
def ywd : CCode :=
  (.seq (.region [
 kO 6 (.mv (ci 0))])
 ytr)
def y26a : CFunc :=
  ⟨3, true, 0, ywd, [.t 6]⟩
def y1rj : CCode :=
  (.seq (.region [
 kO 2 (.mv (ci 0))])
 .ret)
def y1qs : CCode :=
  (.region [
 kO 41 (.mv 4),
 kO 42 (.bin .add 41 (ci 1)),
 kO 4 (.mv 42)])
def y1rn : CCode :=
  (.seq (.region [
 kO 2 (.mv (ci 0))])
 .ret)
def y1pz : CCode :=
  (.seq (.seq (.region [
 kO 47 (.mv 0),
 kO 48 (.mv 3),
 kO 49 (.bin .add 48 (ci 1)),
 kO 50 (.mv 4),
 kO 51 (.sls 47 (some 49) (some 50)),
 kO 52 (.call none true 60 [51, (.c (.bool false))])])
 (.cond 52
 (.seq (.region [
  kO 53 (.mv 4),
  kO 54 (.bin .add 53 (ci 1)),
  kO 2 (.mv 54)])
  .ret)
 .skip))
 y1rn)
def y1rg : CCode :=
  (.cond 46
 y1pz
 .skip)
def y1qr : CCode :=
  (.seq (.region [
 kO 43 (.mv 0),
 kO 44 (.mv 4),
 kO 45 (.ixstr 43 44),
 kO 46 (.bin .eql 45 (.c (.int .u8 59)))])
 y1rg)
def y1qc : CCode :=
  (.block 4 y1qr)
def y1rq : CCode :=
  (.seq y1qc
 y1qs)
def y1as : CCode :=
  (.seq (.seq (.region [
 kO 37 (.mv 4),
 kO 38 (.mv 0),
 kO 39 (.len 0 38),
 kO 40 (.bin .lss 37 39)])
 (.cond 40
 .skip
 (.exit 3)))
 y1rq)
def yns : CCode :=
  (.loop [0, 3, 4] y1as)
def y01 : CCode :=
  (.block 3 yns)
def y1f7 : CCode :=
  (.seq (.region [
 kO 35 (.mv 3),
 kO 36 (.bin .add 35 (ci 1)),
 kO 4 (.mv 36)])
 y01)
def y18t : CCode :=
  (.cond 33
 y1f7
 .skip)
def y15w : CCode :=
  (.seq (.region [
 kO 34 (.bin .eql 27 (.c (.int .u8 76))),
 kO 33 (.mv 34)])
 y18t)
def y11z : CCode :=
  (.cond 28
 (.seq (.region [
  kO 31 (.mv 3),
  kO 32 (.bin .add 31 (ci 1)),
  kO 2 (.mv 32)])
  .ret)
 y15w)
def y1fe : CCode :=
  (.seq (.seq (.region [
 kO 29 (.bin .eql 27 (.c (.int .u8 73))),
 kO 28 (.mv 29)])
 (.cond 28
 .skip
 (.region [
  kO 30 (.bin .eql 27 (.c (.int .u8 74))),
  kO 28 (.mv 30)])))
 y11z)
def y187 : CCode :=
  (.block 2 y1fe)
def y1ag : CCode :=
  (.seq (.region [
 kO 25 (.mv 0),
 kO 26 (.mv 3),
 kO 27 (.ixstr 25 26)])
 y187)
def y1e9 : CCode :=
  (.seq y1ag
 y1rj)
def y17f : CCode :=
  (.seq (.seq (.region [
 kO 17 (.mv 3),
 kO 18 (.bin .gtr 17 (ci 8)),
 kO 19 (.mv 18),
 kG 20 (.mv 3) 19 false,
 kG 21 (.mv 0) 19 false,
 kG 22 (.len 0 21) 19 false,
 kG 23 (.bin .eql 20 22) 19 false,
 kO 24 (.pick 19 (.c (.bool true)) 23)])
 (.cond 24
 (.seq (.region [
  kO 2 (.mv (ci 0))])
  .ret)
 .skip))
 y1e9)
def y1ab : CCode :=
  (.block 1 (.region [
 kO 15 (.mv 3),
 kO 16 (.bin .add 15 (ci 1)),
 kO 3 (.mv 16)]))
def y185 : CCode :=
  (.seq (.seq (.region [
 kO 5 (.mv 3),
 kO 6 (.mv 0),
 kO 7 (.len 0 6),
 kO 8 (.bin .lss 5 7),
 kO 9 (.mv 8),
 kG 10 (.mv 0) 9 true,
 kG 11 (.mv 3) 9 true,
 kG 12 (.ixstr 10 11) 9 true,
 kG 13 (.bin .eql 12 (.c (.int .u8 91))) 9 true,
 kO 14 (.pick 9 13 (.c (.bool false)))])
 (.cond 14
 .skip
 (.exit 0)))
 y1ab)
def yj5 : CCode :=
  (.loop [0, 3] y185)
def y1fi : CCode :=
  (.block 0 yj5)
def y124 : CCode :=
  (.seq y1fi
 y17f)
def y171 : CCode :=
  (.seq (.region [
 kO 3 (.mv (ci 0))])
 y124)
def y1cl : CCode :=
  (.seq (.region [
 kO 2 (.mv (ci 0))])
 y171)
def c_q9 : CFunc :=
  ⟨1, true, 0, y1cl, [.t 2]⟩
def y126 : CCode :=
  (.seq (.region [
 kO 21 (.mv 1),
 kO 22 (.mv 2),
 kO 23 (.bin .quo 21 22),
 kO 6 (.mv 23)])
 .ret)
def y1a6 : CCode :=
  (.seq (.region [
 kO 14 (.mv 1),
 kO 15 (.un .neg 14),
 kO 6 (.mv 15)])
 .ret)
def y13d : CCode :=
  (.seq (.seq (.region [
 kO 13 (.mv 0)])
 (.cond 13
 (.seq (.region [
  kO 6 (.mv (ci 0))])
  .ret)
 .skip))
 y1a6)
def y1db : CCode :=
  (.cond 10
 y13d
 (.seq (.region [
  kO 17 (.mv 0),
  kO 16 (.mv 17)])
  (.cond 16
  (.seq (.region [
   kO 18 (.mv 1),
   kO 19 (.mv 2),
   kO 20 (.bin .rem 18 19),
   kO 6 (.mv 20)])
   .ret)
  .skip)))
def y1fb : CCode :=
  (.seq (.region [
 kO 11 (.mv 2),
 kO 12 (.bin .eql 11 (ci (-1))),
 kO 10 (.mv 12)])
 y1db)
def y1h4 : CCode :=
  (.cond 7
 (.seq (.region [
  kO 6 (.mv (ci 0))])
  .ret)
 y1fb)
def y06 : CCode :=
  (.seq (.region [
 kO 8 (.mv 2),
 kO 9 (.bin .eql 8 (ci 0)),
 kO 7 (.mv 9)])
 y1h4)
def y19e : CCode :=
  (.block 0 y06)
def y1ha : CCode :=
  (.seq y19e
 y126)
def yos : CCode :=
  (.seq (.region [
 kO 6 (.mv (ci 0))])
 y1ha)
def y259 : CFunc :=
  ⟨3, true, 0, yos, [.t 6]⟩
def y1rh : CCode :=
  (.seq (.region [
 kO 4 (.mv (.c (.bool true)))])
 .ret)
def y1qu : CCode :=
  (.region [
 kO 71 (.bin .add 19 (ci 1)),
 kO 19 (.mv 71)])
def y1r8 : CCode :=
  (.seq (.block 1 (.seq (.region [
 kO 21 (.ixs 1 17 19),
 kO 22 (.ld false 1 21),
 kO 6 (.mv 22)])
 (.seq (.region [
 kO 23 (.mv 6),
 kO 24 (.bin .geq 23 (.c (.int .u8 97))),
 kO 25 (.mv 24),
 kG 26 (.mv 6) 25 true,
 kG 27 (.bin .leq 26 (.c (.int .u8 122))) 25 true,
 kO 28 (.pick 25 27 (.c (.bool false))),
 kO 29 (.mv 28),
 kG 30 (.mv 6) 29 false,
 kG 31 (.bin .geq 30 (.c (.int .u8 65))) 29 false,
 kG 32 (.mv 31) 29 false,
 kG 33 (.mv 6) 32 true,
 kG 34 (.bin .leq 33 (.c (.int .u8 90))) 32 true,
 kG 35 (.pick 32 34 (.c (.bool false))) 29 false,
 kO 36 (.pick 29 (.c (.bool true)) 35),
 kO 37 (.mv 36),
 kG 38 (.mv 6) 37 false,
 kG 39 (.bin .geq 38 (.c (.int .u8 48))) 37 false,
 kG 40 (.mv 39) 37 false,
 kG 41 (.mv 6) 40 true,
 kG 42 (.bin .leq 41 (.c (.int .u8 57))) 40 true,
 kG 43 (.pick 40 42 (.c (.bool false))) 37 false,
 kO 44 (.pick 37 (.c (.bool true)) 43),
 kO 45 (.mv 44),
 kG 46 (.mv 6) 45 false,
 kG 47 (.bin .eql 46 (.c (.int .u8 95))) 45 false,
 kO 48 (.pick 45 (.c (.bool true)) 47),
 kO 49 (.mv 48),
 kG 50 (.mv 6) 49 false,
 kG 51 (.bin .eql 50 (.c (.int .u8 36))) 49 false,
 kO 52 (.pick 49 (.c (.bool true)) 51),
 kO 53 (.mv 52),
 kG 54 (.mv 6) 53 false,
 kG 55 (.bin .eql 54 (.c (.int .u8 47))) 53 false,
 kO 56 (.pick 53 (.c (.bool true)) 55),
 kO 7 (.mv 56)])
 (.seq (.region [
 kO 57 (.mv 7),
 kO 58 (.un .not 57),
 kO 59 (.mv 58),
 kG 60 (.mv 1) 59 true,
 kG 61 (.mv 60) 59 true,
 kG 62 (.mv 6) 61 true,
 kG 63 (.bin .eql 62 (.c (.int .u8 60))) 61 true,
 kG 64 (.mv 63) 61 true,
 kG 65 (.mv 6) 64 false,
 kG 66 (.bin .eql 65 (.c (.int .u8 62))) 64 false,
 kG 67 (.pick 64 (.c (.bool true)) 66) 61 true,
 kG 68 (.pick 61 67 (.c (.bool false))) 59 true,
 kG 69 (.un .not 68) 59 true,
 kO 70 (.pick 59 69 (.c (.bool false)))])
 (.cond 70
 (.seq (.region [
  kO 4 (.mv (.c (.bool false)))])
  .ret)
 .skip)))))
 y1qu)
def y1r5 : CCode :=
  (.seq (.cond 20
 .skip
 (.exit 0))
 y1r8)
def y1rd : CCode :=
  (.seq (.region [
 kO 20 (.bin .lss 19 18)])
 y1r5)
def yoe : CCode :=
  (.loop [1, 17, 18, 19] y1rd)
def y1qb : CCode :=
  (.block 0 yoe)
def y1r4 : CCode :=
  (.seq (.region [
 kO 16 (.mv 0),
 kO 17 (.s2b (some 0) 16),
 kO 18 (.len 1 17),
 kO 19 (.mv (ci 0))])
 y1qb)
def y1qf : CCode :=
  (.seq y1r4
 y1rh)
def y0k : CCode :=
  (.seq (.seq (.region [
 kO 8 (.mv 0),
 kO 9 (.len 0 8),
 kO 10 (.bin .lss 9 (ci 1)),
 kO 11 (.mv 10),
 kG 12 (.mv 0) 11 false,
 kG 13 (.len 0 12) 11 false,
 kG 14 (.bin .gtr 13 (ci 60)) 11 false,
 kO 15 (.pick 11 (.c (.bool true)) 14)])
 (.cond 15
 (.seq (.region [
  kO 4 (.mv (.c (.bool false)))])
  .ret)
 .skip))
 y1qf)
def y14p : CCode :=
  (.seq (.region [
 kO 4 (.mv (.c (.bool false)))])
 y0k)
def c_q7 : CFunc :=
  ⟨2, true, 1, y14p, [.t 4]⟩
def tbl : List (Option Nat) := [none, none, none, none, none, none, some 121, none, none, none, none, none, none, none, none, none, some 13, none, some 8, none, none, none, none, none, some 124, some 133, some 125, some 134, none, none, none, none, none, none, none, none, none, some 9, some 39, some 40, some 41, none, none, some 24, some 46, some 63, some 22, none, none, none, none, none, none, none, none, none, none, none, some 136, some 135, some 102, some 126, none, none, none, none, none, none, none, none, none, none, none, none, none, none, none, none, none, none, none, none, some 17, some 45, some 47, none, none, none, none, none, none, some 137, some 138, some 139, some 140, some 141, some 142, some 127, some 128, some 129, none, none, none, none, none, none, none, none, none, none, none, none, none, some 50, some 37, some 51, none, some 143, some 144, some 145, some 146, some 130, some 131, none, none, none, none, none, none, none, some 44, some 132, none, none, none, some 60]
def fnE : Nat → Option CFunc
  | 8 => some y232
  | 9 => some y25j
  | 13 => some y206
  | 17 => some y24p
  | 22 => some y23a
  | 24 => some y217
  | 37 => some c_q8
  | 39 => some y1qn
  | 40 => some y1ro
  | 41 => some y1q6
  | 44 => some c_q9
  | 45 => some y1qg
  | 46 => some y1q7
  | 47 => some y253
  | 50 => some y1zx
  | 51 => some y26c
  | 60 => some c_q7
  | 63 => some y22a
  | 102 => some y262
  | 121 => some y21s
  | 124 => some y29y
  | 125 => some y25y
  | 126 => some y21q
  | 127 => some y23g
  | 128 => some y20m
  | 129 => some y23m
  | 130 => some y22v
  | 131 => some y26a
  | 132 => some y259
  | 133 => some y20x
  | 134 => some y21v
  | 135 => some y23q
  | 136 => some y24d
  | 137 => some y25k
  | 138 => some y1rm
  | 139 => some y1qw
  | 140 => some y25x
  | 141 => some y1ru
  | 142 => some y241
  | 143 => some y249
  | 144 => some y22w
  | 145 => some y1q9
  | 146 => some y22p
  | _ => none
abbrev nm : Nat → Option Nat := nmOf tbl
def E : Env := envX fnE [126] (fun _ _ => none)
abbrev T1 (c : CCode) (n : St → OX) (e : Nat → St → OX) (r : List CRes) (k : St → OX) : Prop := ∀ s, W E 0 c s n e (finP r) = k s
abbrev T0 (c : CCode) (r : List CRes) (k : St → OX) : Prop := T1 c (finP r) xN r k
theorem sq {a b : CCode} {n k k' : St → OX} {e : Nat → St → OX} {r : List CRes} (h : T1 b n e r k) (h' : T1 a k e r k') : T1 (.seq a b) n e r k' := fun s => (ycq h).trans (h' s)
theorem ok6 : FnOk Go.Proofs.Try.prog nm fnE 6 121 := .of Go.Proofs.Try.func6 (by kernel_rfl) (by kernel_rfl) rfl (by kernel_rfl)
theorem ok16 : FnOk Go.Proofs.Try.prog nm fnE 16 13 := .of Go.Proofs.Try.func16 (by kernel_rfl) (by kernel_rfl) rfl (by kernel_rfl)
theorem ok18 : FnOk Go.Proofs.Try.prog nm fnE 18 8 := .of Go.Proofs.Try.func18 (by kernel_rfl) (by kernel_rfl) rfl (by kernel_rfl)
theorem ok24 : FnOk Go.Proofs.Try.prog nm fnE 24 124 := .of Go.Proofs.Try.func24 (by kernel_rfl) (by kernel_rfl) rfl (by kernel_rfl)
theorem ok25 : FnOk Go.Proofs.Try.prog nm fnE 25 133 := .of Go.Proofs.Try.func25 (by kernel_rfl) (by kernel_rfl) rfl (by kernel_rfl)
theorem ok26 : FnOk Go.Proofs.Try.prog nm fnE 26 125 := .of Go.Proofs.Try.func26 (by kernel_rfl) (by kernel_rfl) rfl (by kernel_rfl)
theorem ok27 : FnOk Go.Proofs.Try.prog nm fnE 27 134 := .of Go.Proofs.Try.func27 (by kernel_rfl) (by kernel_rfl) rfl (by kernel_rfl)
theorem ok37 : FnOk Go.Proofs.Try.prog nm fnE 37 9 := .of Go.Proofs.Try.func37 (by kernel_rfl) (by kernel_rfl) rfl (by kernel_rfl)
theorem ok38 : FnOk Go.Proofs.Try.prog nm fnE 38 39 := .of Go.Proofs.Try.func38 (by kernel_rfl) (by kernel_rfl) rfl (by kernel_rfl)
theorem ok39 : FnOk Go.Proofs.Try.prog nm fnE 39 40 := .of Go.Proofs.Try.func39 (by kernel_rfl) (by kernel_rfl) rfl (by kernel_rfl)
theorem ok40 : FnOk Go.Proofs.Try.prog nm fnE 40 41 := .of Go.Proofs.Try.func40 (by kernel_rfl) (by kernel_rfl) rfl (by kernel_rfl)
theorem ok43 : FnOk Go.Proofs.Try.prog nm fnE 43 24 := .of Go.Proofs.Try.func43 (by kernel_rfl) (by kernel_rfl) rfl (by kernel_rfl)
theorem ok44 : FnOk Go.Proofs.Try.prog nm fnE 44 46 := .of Go.Proofs.Try.func44 (by kernel_rfl) (by kernel_rfl) rfl (by kernel_rfl)
theorem ok45 : FnOk Go.Proofs.Try.prog nm fnE 45 63 := .of Go.Proofs.Try.func45 (by kernel_rfl) (by kernel_rfl) rfl (by kernel_rfl)
theorem ok46 : FnOk Go.Proofs.Try.prog nm fnE 46 22 := .of Go.Proofs.Try.func46 (by kernel_rfl) (by kernel_rfl) rfl (by kernel_rfl)
theorem ok58 : FnOk Go.Proofs.Try.prog nm fnE 58 136 := .of Go.Proofs.Try.func58 (by kernel_rfl) (by kernel_rfl) rfl (by kernel_rfl)
theorem ok59 : FnOk Go.Proofs.Try.prog nm fnE 59 135 := .of Go.Proofs.Try.func59 (by kernel_rfl) (by kernel_rfl) rfl (by kernel_rfl)
theorem ok60 : FnOk Go.Proofs.Try.prog nm fnE 60 102 := .of Go.Proofs.Try.func60 (by kernel_rfl) (by kernel_rfl) rfl (by kernel_rfl)
theorem ok61 : FnOk Go.Proofs.Try.prog nm fnE 61 126 := .of Go.Proofs.Try.func61 (by kernel_rfl) (by kernel_rfl) rfl (by kernel_rfl)
theorem ok82 : FnOk Go.Proofs.Try.prog nm fnE 82 17 := .of Go.Proofs.Try.func82 (by kernel_rfl) (by kernel_rfl) rfl (by kernel_rfl)
theorem ok83 : FnOk Go.Proofs.Try.prog nm fnE 83 45 := .of Go.Proofs.Try.func83 (by kernel_rfl) (by kernel_rfl) rfl (by kernel_rfl)
theorem ok84 : FnOk Go.Proofs.Try.prog nm fnE 84 47 := .of Go.Proofs.Try.func84 (by kernel_rfl) (by kernel_rfl) rfl (by kernel_rfl)
theorem ok91 : FnOk Go.Proofs.Try.prog nm fnE 91 137 := .of Go.Proofs.Try.func91 (by kernel_rfl) (by kernel_rfl) rfl (by kernel_rfl)
theorem ok92 : FnOk Go.Proofs.Try.prog nm fnE 92 138 := .of Go.Proofs.Try.func92 (by kernel_rfl) (by kernel_rfl) rfl (by kernel_rfl)
theorem ok93 : FnOk Go.Proofs.Try.prog nm fnE 93 139 := .of Go.Proofs.Try.func93 (by kernel_rfl) (by kernel_rfl) rfl (by kernel_rfl)
theorem ok94 : FnOk Go.Proofs.Try.prog nm fnE 94 140 := .of Go.Proofs.Try.func94 (by kernel_rfl) (by kernel_rfl) rfl (by kernel_rfl)
theorem ok95 : FnOk Go.Proofs.Try.prog nm fnE 95 141 := .of Go.Proofs.Try.func95 (by kernel_rfl) (by kernel_rfl) rfl (by kernel_rfl)
theorem ok96 : FnOk Go.Proofs.Try.prog nm fnE 96 142 := .of Go.Proofs.Try.func96 (by kernel_rfl) (by kernel_rfl) rfl (by kernel_rfl)
theorem ok97 : FnOk Go.Proofs.Try.prog nm fnE 97 127 := .of Go.Proofs.Try.func97 (by kernel_rfl) (by kernel_rfl) rfl (by kernel_rfl)
theorem ok98 : FnOk Go.Proofs.Try.prog nm fnE 98 128 := .of Go.Proofs.Try.func98 (by kernel_rfl) (by kernel_rfl) rfl (by kernel_rfl)
theorem ok99 : FnOk Go.Proofs.Try.prog nm fnE 99 129 := .of Go.Proofs.Try.func99 (by kernel_rfl) (by kernel_rfl) rfl (by kernel_rfl)
theorem y29b : FnOk Go.Proofs.Try.prog nm fnE 113 50 := .of Go.Proofs.Try.func113 (by kernel_rfl) (by kernel_rfl) rfl (by kernel_rfl)
theorem y28q : FnOk Go.Proofs.Try.prog nm fnE 114 37 := .of Go.Proofs.Try.func114 (by kernel_rfl) (by kernel_rfl) rfl (by kernel_rfl)
theorem y2ad : FnOk Go.Proofs.Try.prog nm fnE 115 51 := .of Go.Proofs.Try.func115 (by kernel_rfl) (by kernel_rfl) rfl (by kernel_rfl)
theorem y280 : FnOk Go.Proofs.Try.prog nm fnE 117 143 := .of Go.Proofs.Try.func117 (by kernel_rfl) (by kernel_rfl) rfl (by kernel_rfl)
theorem y2ae : FnOk Go.Proofs.Try.prog nm fnE 118 144 := .of Go.Proofs.Try.func118 (by kernel_rfl) (by kernel_rfl) rfl (by kernel_rfl)
theorem y29e : FnOk Go.Proofs.Try.prog nm fnE 119 145 := .of Go.Proofs.Try.func119 (by kernel_rfl) (by kernel_rfl) rfl (by kernel_rfl)
theorem y2ai : FnOk Go.Proofs.Try.prog nm fnE 120 146 := .of Go.Proofs.Try.func120 (by kernel_rfl) (by kernel_rfl) rfl (by kernel_rfl)
theorem y29p : FnOk Go.Proofs.Try.prog nm fnE 121 130 := .of Go.Proofs.Try.func121 (by kernel_rfl) (by kernel_rfl) rfl (by kernel_rfl)
theorem y29o : FnOk Go.Proofs.Try.prog nm fnE 122 131 := .of Go.Proofs.Try.func122 (by kernel_rfl) (by kernel_rfl) rfl (by kernel_rfl)
theorem y27r : FnOk Go.Proofs.Try.prog nm fnE 130 44 := .of Go.Proofs.Try.func130 (by kernel_rfl) (by kernel_rfl) rfl (by kernel_rfl)
theorem y28a : FnOk Go.Proofs.Try.prog nm fnE 131 132 := .of Go.Proofs.Try.func131 (by kernel_rfl) (by kernel_rfl) rfl (by kernel_rfl)
theorem y28t : FnOk Go.Proofs.Try.prog nm fnE 135 60 := .of Go.Proofs.Try.func135 (by kernel_rfl) (by kernel_rfl) rfl (by kernel_rfl)
theorem y29v : AllF Go.Proofs.Try.prog nm fnE 0 tbl :=
  ⟨ok6, ok16, ok18, ok24, ok25, ok26, ok27, ok37, ok38, ok39, ok40, ok43, ok44, ok45, ok46, ok58, ok59, ok60, ok61, ok82, ok83, ok84, ok91, ok92, ok93, ok94, ok95, ok96, ok97, ok98, ok99, y29b, y28q, y2ad, y280, y2ae, y29e, y2ai, y29p, y29o, y27r, y28a, y28t, trivial⟩
theorem y29k : EnvOk Go.Proofs.Try.prog nm E := y1w9 (by kernel_rfl) y29v .nothing
end Go.Vm
