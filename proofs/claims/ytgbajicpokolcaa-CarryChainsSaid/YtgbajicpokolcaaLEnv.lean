/- The machine's form of functions, each checked against the translation, and the environment that they make. -/
import Derived.Test.YtgbajicpokolcaaVc
import Derived.Test.YtgbajicpokolcaaProg
import Derived.Test.YtgbajicpokolcaaSd
import Derived.KernelRfl
set_option linter.unusedSimpArgs false
set_option linter.unusedVariables false
set_option linter.unusedSectionVars false
namespace Go.Vm
def y1af : CCode :=
  (.seq (.region [
 kO 68 (.ld true 5 7),
 kO 69 (.call none true 29 [68]),
 kO 70 (.bin .eql 69 (ci 0)),
 kO 71 (.mv 70),
 kG 72 (.fa 3 7) 71 true,
 kG 73 (.ld false 1 72) 71 true,
 kG 74 (.len 1 73) 71 true,
 kG 75 (.mv 0) 71 true,
 kG 76 (.bin .add 75 (ci 1)) 71 true,
 kG 77 (.bin .eql 74 76) 71 true,
 kO 78 (.pick 71 77 (.c (.bool false))),
 kO 4 (.mv 78)])
 .ret)
def y1d8 : CCode :=
  (.region [
 kO 67 (.bin .add 60 (ci 1)),
 kO 60 (.mv 67)])
def y1ji : CCode :=
  (.seq (.block 3 (.seq (.region [
 kO 62 (.ixs 9 58 60),
 kO 63 (.ld true 9 62),
 kO 9 (.new (some 9) [(.int .i64 0), (.int .i64 0), (.int .i64 0), (.int .i64 0), (.int .i64 0), (.int .i64 0), (.int .i64 0), (.str []), .nils]),
 kU (.st 9 9 63)])
 (.seq (.region [
 kO 64 (.fa 2 9),
 kO 65 (.ld false 1 64),
 kO 66 (.bin .neq 65 (ci 0))])
 (.cond 66
 (.seq (.region [
  kO 4 (.mv (.c (.bool false)))])
  .ret)
 .skip))))
 y1d8)
def y1me : CCode :=
  (.seq (.cond 61
 .skip
 (.exit 2))
 y1ji)
def y1oh : CCode :=
  (.seq (.region [
 kO 61 (.bin .lss 60 59)])
 y1me)
def ymq : CCode :=
  (.loop [0, 7, 58, 59, 60] y1oh)
def y1qy : CCode :=
  (.block 2 ymq)
def y1ec : CCode :=
  (.seq (.region [
 kO 57 (.fa 3 7),
 kO 58 (.ld false 1 57),
 kO 59 (.len 1 58),
 kO 60 (.mv (ci 0))])
 y1qy)
def y1m6 : CCode :=
  (.seq y1ec
 y1af)
def y14i : CCode :=
  (.seq (.region [
 kO 55 (.ld true 5 5),
 kO 56 (.call none true 149 [55]),
 kO 7 (.new (some 8) [.nils, .nils, (.int .i64 0), .nils, .nils]),
 kU (.st 5 7 56)])
 y1m6)
def y141 : CCode :=
  (.seq (.region [
 kO 48 (.fa 3 5),
 kO 49 (.ld false 1 48),
 kO 50 (.mv 0),
 kO 51 (.build [(.int .i64 0), (.int .i64 0), (.int .i64 0), (.int .i64 0), (.int .i64 0), (.int .i64 0), (.int .i64 0), (.str []), .nils] [(0, 1, (ci 30)), (2, 1, 50)]),
 kO 52 (.buildS (some 6) 9 1 [(.int .i64 0), (.int .i64 0), (.int .i64 0), (.int .i64 0), (.int .i64 0), (.int .i64 0), (.int .i64 0), (.str []), .nils] [(0, 51)]),
 kO 53 (.app (some 7) 9 96 49 52),
 kO 54 (.fa 3 5),
 kU (.st 1 54 53)])
 y14i)
def yyn : CCode :=
  (.region [
 kO 47 (.bin .add 27 (ci 1)),
 kO 27 (.mv 47)])
def ywd : CCode :=
  (.seq (.block 1 (.seq (.region [
 kO 29 (.mv 27),
 kO 6 (.mv 29)])
 (.seq (.region [
 kO 30 (.fa 0 5),
 kO 31 (.ld false 1 30),
 kO 32 (.mv 1),
 kO 33 (.buildS (some 2) 1 1 [(.int .i64 0)] [(0, 32)]),
 kO 34 (.app (some 3) 1 8 31 33),
 kO 35 (.fa 0 5),
 kU (.st 1 35 34)])
 (.seq (.region [
 kO 36 (.mv 6),
 kO 37 (.bin .gtr 36 (ci 0))])
 (.cond 37
 (.region [
  kO 38 (.fa 3 5),
  kO 39 (.ld false 1 38),
  kO 40 (.mv 6),
  kO 41 (.mv 6),
  kO 42 (.bin .sub 41 (ci 1)),
  kO 43 (.build [(.int .i64 0), (.int .i64 0), (.int .i64 0), (.int .i64 0), (.int .i64 0), (.int .i64 0), (.int .i64 0), (.str []), .nils] [(0, 1, (ci 4)), (1, 1, 40), (2, 1, 42)]),
  kO 44 (.buildS (some 4) 9 1 [(.int .i64 0), (.int .i64 0), (.int .i64 0), (.int .i64 0), (.int .i64 0), (.int .i64 0), (.int .i64 0), (.str []), .nils] [(0, 43)]),
  kO 45 (.app (some 5) 9 96 39 44),
  kO 46 (.fa 3 5),
  kU (.st 1 46 45)])
 .skip)))))
 yyn)
def y138 : CCode :=
  (.seq (.cond 28
 .skip
 (.exit 0))
 ywd)
def y124 : CCode :=
  (.seq (.region [
 kO 28 (.bin .lss 27 26)])
 y138)
def yj1 : CCode :=
  (.loop [0, 1, 5, 26, 27] y124)
def yxe : CCode :=
  (.block 0 yj1)
def yz7 : CCode :=
  (.seq (.region [
 kO 25 (.mv 0),
 kO 26 (.bin .add 25 (ci 1)),
 kO 27 (.mv (ci 0))])
 yxe)
def y0x : CCode :=
  (.seq yz7
 y141)
def yxj : CCode :=
  (.seq (.region [
 kO 22 (.buildS (some 0) 1 1 [(.int .i64 0)] [(0, (ci 0))]),
 kO 23 (.mv 1),
 kO 24 (.build [.nils, .nils, (.int .i64 0), .nils, .nils] [(1, 1, 22), (2, 1, 23)]),
 kO 5 (.new (some 1) [.nils, .nils, (.int .i64 0), .nils, .nils]),
 kU (.st 5 5 24)])
 y0x)
def y145 : CCode :=
  (.seq (.region [
 kO 12 (.mv 0),
 kO 13 (.bin .rem 12 (ci 40)),
 kO 14 (.bin .add 13 (ci 40)),
 kO 15 (.bin .rem 14 (ci 40)),
 kO 16 (.bin .add 15 (ci 1)),
 kO 17 (.mv 1),
 kO 18 (.bin .rem 17 (ci 3)),
 kO 19 (.bin .add 18 (ci 3)),
 kO 20 (.bin .rem 19 (ci 3)),
 kO 21 (.bin .add 20 (ci 1)),
 kO 0 (.mv 16),
 kO 1 (.mv 21)])
 yxj)
def yvn : CCode :=
  (.seq (.seq (.region [
 kO 10 (.call none true 148 []),
 kO 11 (.un .not 10)])
 (.cond 11
 (.seq (.region [
  kO 4 (.mv (.c (.bool false)))])
  .ret)
 .skip))
 y145)
def y0q : CCode :=
  (.seq (.region [
 kO 4 (.mv (.c (.bool false)))])
 yvn)
def y2fi : CFunc :=
  ⟨2, true, 10, y0q, [.t 4]⟩
def y1pk : CCode :=
  (.seq (.region [
 kO 39 (.ld true 5 3),
 kU (.st 5 2 39)])
 .ret)
def y1r1 : CCode :=
  (.region [
 kO 38 (.bin .add 23 (ci 1)),
 kO 23 (.mv 38)])
def y1jn : CCode :=
  (.seq (.block 1 (.seq (.region [
 kO 25 (.mv 23),
 kO 4 (.mv 25)])
 (.draw [
 kO 26 (.fa 3 3),
 kO 27 (.ld false 1 26),
 kO 28 (.mv 4),
 kO 29 (.fa 3 3),
 kO 30 (.ld false 1 29),
 kO 31 (.mv 4),
 kO 32 (.ixs 9 30 31),
 kO 33 (.fa 8 32),
 kO 34 (.ld false 1 33),
 kO 35 (.call none true 39 [34]),
 kO 36 (.ixs 9 27 28),
 kO 37 (.fa 8 36),
 kU (.st 1 37 35)] [(1, 9)])))
 y1r1)
def y1qh : CCode :=
  (.seq (.cond 24
 .skip
 (.exit 0))
 y1jn)
def y1q9 : CCode :=
  (.seq (.region [
 kO 24 (.bin .lss 23 22)])
 y1qh)
def ynd : CCode :=
  (.loop [2, 3, 22, 23] y1q9)
def y1of : CCode :=
  (.block 0 ynd)
def y1dl : CCode :=
  (.seq (.region [
 kO 20 (.fa 3 3),
 kO 21 (.ld false 1 20),
 kO 22 (.len 1 21),
 kO 23 (.mv (ci 0))])
 y1of)
def y1hv : CCode :=
  (.seq y1dl
 y1pk)
def yyy : CCode :=
  (.seq (.draw [
 kO 5 (.fa 0 1),
 kO 6 (.ld false 1 5),
 kO 7 (.call (some 2) false 39 [6]),
 kO 8 (.fa 1 1),
 kO 9 (.ld false 1 8),
 kO 10 (.call (some 3) false 39 [9]),
 kO 11 (.fa 2 1),
 kO 12 (.ld false 1 11),
 kO 13 (.fa 3 1),
 kO 14 (.ld false 1 13),
 kO 15 (.call (some 4) false 40 [14]),
 kO 16 (.fa 4 1),
 kO 17 (.ld false 1 16),
 kO 18 (.call (some 5) false 41 [17]),
 kO 19 (.build [.nils, .nils, (.int .i64 0), .nils, .nils] [(0, 1, 7), (1, 1, 10), (2, 1, 12), (3, 1, 15), (4, 1, 18)]),
 kO 3 (.new (some 6) [.nils, .nils, (.int .i64 0), .nils, .nils]),
 kU (.st 5 3 19)] [(2, 4), (2, 7), (5, 7), (2, 9), (5, 9), (7, 10), (2, 12), (5, 12), (10, 12), (7, 13), (1, 15), (2, 15), (4, 15), (5, 15), (7, 15), (9, 15), (10, 15), (12, 15), (13, 15)])
 y1hv)
def y12t : CCode :=
  (.seq (.region [
 kO 1 (.box (some 0) 0),
 kO 2 (.new (some 1) [.nils, .nils, (.int .i64 0), .nils, .nils])])
 yyy)
def y2j0 : CFunc :=
  ⟨1, true, 7, y12t, [.cell 2 true 5]⟩
def y1mh : CCode :=
  (.seq (.region [
 kO 2 (.mv (ci 0))])
 .ret)
def y1hx : CCode :=
  (.region [
 kO 179 (.bin .add 138 (ci 1)),
 kO 138 (.mv 179)])
def y1ox : CCode :=
  (.seq (.block 7 (.seq (.region [
 kO 140 (.ixs 4 136 138),
 kO 141 (.ld true 4 140),
 kO 11 (.new (some 2) [(.int .i64 0), (.int .i64 0), (.int .i64 0), (.str [])]),
 kU (.st 4 11 141)])
 (.seq (.region [
 kO 142 (.fa 0 11),
 kO 143 (.ld false 1 142),
 kO 144 (.bin .lss 143 (ci 0)),
 kO 145 (.mv 144),
 kG 146 (.fa 0 11) 145 false,
 kG 147 (.ld false 1 146) 145 false,
 kG 148 (.fa 1 11) 145 false,
 kG 149 (.ld false 1 148) 145 false,
 kG 150 (.bin .geq 147 149) 145 false,
 kO 151 (.pick 145 (.c (.bool true)) 150),
 kO 152 (.mv 151),
 kG 153 (.fa 1 11) 152 false,
 kG 154 (.ld false 1 153) 152 false,
 kG 155 (.mv 3) 152 false,
 kG 156 (.bin .gtr 154 155) 152 false,
 kO 157 (.pick 152 (.c (.bool true)) 156),
 kO 158 (.mv 157),
 kG 159 (.fa 2 11) 158 false,
 kG 160 (.ld false 1 159) 158 false,
 kG 161 (.bin .lss 160 (ci 0)) 158 false,
 kO 162 (.pick 158 (.c (.bool true)) 161),
 kO 163 (.mv 162),
 kG 164 (.fa 2 11) 163 false,
 kG 165 (.ld false 1 164) 163 false,
 kG 166 (.mv 3) 163 false,
 kG 167 (.bin .geq 165 166) 163 false,
 kO 168 (.pick 163 (.c (.bool true)) 167),
 kO 169 (.mv 168),
 kG 170 (.fa 3 1) 169 false,
 kG 171 (.ld false 1 170) 169 false,
 kG 172 (.fa 2 11) 169 false,
 kG 173 (.ld false 1 172) 169 false,
 kG 174 (.ixs 9 171 173) 169 false,
 kG 175 (.fa 0 174) 169 false,
 kG 176 (.ld false 1 175) 169 false,
 kG 177 (.bin .neq 176 (ci 32)) 169 false,
 kO 178 (.pick 169 (.c (.bool true)) 177)])
 (.cond 178
 (.seq (.region [
  kO 2 (.mv (ci 80))])
  .ret)
 .skip))))
 y1hx)
def y1qc : CCode :=
  (.seq (.cond 139
 .skip
 (.exit 6))
 y1ox)
def y1lx : CCode :=
  (.seq (.region [
 kO 139 (.bin .lss 138 137)])
 y1qc)
def ynu : CCode :=
  (.loop [1, 3, 136, 137, 138] y1lx)
def y1bo : CCode :=
  (.block 6 ynu)
def y1mg : CCode :=
  (.seq (.region [
 kO 135 (.fa 4 1),
 kO 136 (.ld false 1 135),
 kO 137 (.len 1 136),
 kO 138 (.mv (ci 0))])
 y1bo)
def y1bd : CCode :=
  (.seq y1mg
 y1mh)
def ywm : CCode :=
  (.region [
 kO 134 (.bin .add 94 (ci 1)),
 kO 94 (.mv 134)])
def y14s : CCode :=
  (.seq (.region [
 kO 103 (.fa 0 9),
 kO 104 (.ld false 1 103),
 kO 105 (.bin .eql 104 (ci 32)),
 kO 106 (.mv 105),
 kG 107 (.mv 8) 106 true,
 kG 108 (.bin .eql 107 (ci 0)) 106 true,
 kG 109 (.mv 108) 106 true,
 kG 110 (.fa 3 1) 109 false,
 kG 111 (.ld false 1 110) 109 false,
 kG 112 (.mv 8) 109 false,
 kG 113 (.bin .sub 112 (ci 1)) 109 false,
 kG 114 (.ixs 9 111 113) 109 false,
 kG 115 (.ld true 9 114) 109 false,
 kG 116 (.call none true 24 [115]) 109 false,
 kG 117 (.un .not 116) 109 false,
 kG 118 (.pick 109 (.c (.bool true)) 117) 106 true,
 kO 119 (.pick 106 118 (.c (.bool false))),
 kO 120 (.mv 119),
 kG 121 (.ld true 9 9) 120 false,
 kG 122 (.call none true 22 [121]) 120 false,
 kG 123 (.mv 122) 120 false,
 kG 124 (.fa 3 1) 123 true,
 kG 125 (.ld false 1 124) 123 true,
 kG 126 (.fa 6 9) 123 true,
 kG 127 (.ld false 1 126) 123 true,
 kG 128 (.ixs 9 125 127) 123 true,
 kG 129 (.fa 0 128) 123 true,
 kG 130 (.ld false 1 129) 123 true,
 kG 131 (.bin .eql 130 (ci 32)) 123 true,
 kG 132 (.pick 123 131 (.c (.bool false))) 120 false,
 kO 133 (.pick 120 (.c (.bool true)) 132)])
 (.cond 133
 (.seq (.region [
  kO 2 (.mv (ci 80))])
  .ret)
 .skip))
def y12f : CCode :=
  (.seq (.seq (.region [
 kO 99 (.ld true 5 1),
 kO 100 (.ld true 9 9),
 kO 101 (.call none true 63 [99, 100]),
 kO 102 (.un .not 101)])
 (.cond 102
 (.seq (.region [
  kO 2 (.mv (ci 80))])
  .ret)
 .skip))
 y14s)
def y14q : CCode :=
  (.seq (.region [
 kO 96 (.mv 94),
 kO 97 (.ixs 9 92 94),
 kO 98 (.ld true 9 97),
 kO 9 (.new (some 1) [(.int .i64 0), (.int .i64 0), (.int .i64 0), (.int .i64 0), (.int .i64 0), (.int .i64 0), (.int .i64 0), (.str []), .nils]),
 kO 8 (.mv 96),
 kU (.st 9 9 98)])
 y12f)
def y11y : CCode :=
  (.block 5 y14q)
def y09 : CCode :=
  (.seq y11y
 ywm)
def y13u : CCode :=
  (.seq (.cond 95
 .skip
 (.exit 4))
 y09)
def y140 : CCode :=
  (.seq (.region [
 kO 95 (.bin .lss 94 93)])
 y13u)
def yi1 : CCode :=
  (.loop [1, 3, 92, 93, 94] y140)
def yyo : CCode :=
  (.block 4 yi1)
def yz8 : CCode :=
  (.seq (.region [
 kO 91 (.fa 3 1),
 kO 92 (.ld false 1 91),
 kO 93 (.len 1 92),
 kO 94 (.mv (ci 0))])
 yyo)
def yxs : CCode :=
  (.seq yz8
 y1bd)
def yz0 : CCode :=
  (.region [
 kO 90 (.bin .add 64 (ci 1)),
 kO 64 (.mv 90)])
def y13j : CCode :=
  (.seq (.block 3 (.seq (.region [
 kO 66 (.mv 64),
 kO 67 (.ixs 1 62 64),
 kO 68 (.ld false 1 67),
 kO 6 (.mv 66),
 kO 7 (.mv 68)])
 (.seq (.region [
 kO 69 (.mv 7),
 kO 70 (.bin .lss 69 (ci 0)),
 kO 71 (.mv 70),
 kG 72 (.mv 7) 71 false,
 kG 73 (.fa 0 1) 71 false,
 kG 74 (.ld false 1 73) 71 false,
 kG 75 (.len 1 74) 71 false,
 kG 76 (.bin .geq 72 75) 71 false,
 kO 77 (.pick 71 (.c (.bool true)) 76),
 kO 78 (.mv 77),
 kG 79 (.fa 1 1) 78 false,
 kG 80 (.ld false 1 79) 78 false,
 kG 81 (.mv 6) 78 false,
 kG 82 (.slc 1 80 none (some 81)) 78 false,
 kG 83 (.mv 7) 78 false,
 kG 84 (.call none true 46 [82, 83]) 78 false,
 kO 85 (.pick 78 (.c (.bool true)) 84),
 kO 86 (.mv 85),
 kG 87 (.mv 6) 86 false,
 kG 88 (.bin .gtr 87 (ci 20)) 86 false,
 kO 89 (.pick 86 (.c (.bool true)) 88)])
 (.cond 89
 (.seq (.region [
  kO 2 (.mv (ci 80))])
  .ret)
 .skip))))
 yz0)
def y11l : CCode :=
  (.seq (.cond 65
 .skip
 (.exit 2))
 y13j)
def yzo : CCode :=
  (.seq (.region [
 kO 65 (.bin .lss 64 63)])
 y11l)
def yjd : CCode :=
  (.loop [1, 3, 62, 63, 64] yzo)
def y14y : CCode :=
  (.block 2 yjd)
def y14x : CCode :=
  (.seq (.region [
 kO 61 (.fa 1 1),
 kO 62 (.ld false 1 61),
 kO 63 (.len 1 62),
 kO 64 (.mv (ci 0))])
 y14y)
def y131 : CCode :=
  (.seq y14x
 yxs)
def y12w : CCode :=
  (.region [
 kO 60 (.bin .add 50 (ci 1)),
 kO 50 (.mv 60)])
def y11b : CCode :=
  (.seq (.block 1 (.seq (.region [
 kO 52 (.ixs 1 48 50),
 kO 53 (.ld false 1 52),
 kO 5 (.mv 53)])
 (.seq (.region [
 kO 54 (.mv 5),
 kO 55 (.bin .lss 54 (ci 1)),
 kO 56 (.mv 55),
 kG 57 (.mv 5) 56 false,
 kG 58 (.bin .gtr 57 (ci 3)) 56 false,
 kO 59 (.pick 56 (.c (.bool true)) 58)])
 (.cond 59
 (.seq (.region [
  kO 2 (.mv (ci 80))])
  .ret)
 .skip))))
 y12w)
def ywz : CCode :=
  (.seq (.cond 51
 .skip
 (.exit 0))
 y11b)
def ywy : CCode :=
  (.seq (.region [
 kO 51 (.bin .lss 50 49)])
 ywz)
def yib : CCode :=
  (.loop [1, 3, 48, 49, 50] ywy)
def yx2 : CCode :=
  (.block 0 yib)
def y14m : CCode :=
  (.seq (.region [
 kO 47 (.fa 0 1),
 kO 48 (.ld false 1 47),
 kO 49 (.len 1 48),
 kO 50 (.mv (ci 0))])
 yx2)
def yvr : CCode :=
  (.seq y14m
 y131)
def y14f : CCode :=
  (.seq (.seq (.region [
 kO 15 (.mv 3),
 kO 16 (.bin .lss 15 (ci 1)),
 kO 17 (.mv 16),
 kG 18 (.mv 3) 17 false,
 kG 19 (.bin .gtr 18 (ci 20000)) 17 false,
 kO 20 (.pick 17 (.c (.bool true)) 19),
 kO 21 (.mv 20),
 kG 22 (.fa 0 1) 21 false,
 kG 23 (.ld false 1 22) 21 false,
 kG 24 (.len 1 23) 21 false,
 kG 25 (.bin .gtr 24 (ci 20000)) 21 false,
 kO 26 (.pick 21 (.c (.bool true)) 25),
 kO 27 (.mv 26),
 kG 28 (.fa 2 1) 27 false,
 kG 29 (.ld false 1 28) 27 false,
 kG 30 (.bin .lss 29 (ci 0)) 27 false,
 kO 31 (.pick 27 (.c (.bool true)) 30),
 kO 32 (.mv 31),
 kG 33 (.fa 2 1) 32 false,
 kG 34 (.ld false 1 33) 32 false,
 kG 35 (.bin .gtr 34 (ci 3)) 32 false,
 kO 36 (.pick 32 (.c (.bool true)) 35),
 kO 37 (.mv 36),
 kG 38 (.fa 3 1) 37 false,
 kG 39 (.ld false 1 38) 37 false,
 kG 40 (.mv 3) 37 false,
 kG 41 (.bin .sub 40 (ci 1)) 37 false,
 kG 42 (.ixs 9 39 41) 37 false,
 kG 43 (.ld true 9 42) 37 false,
 kG 44 (.call none true 24 [43]) 37 false,
 kG 45 (.un .not 44) 37 false,
 kO 46 (.pick 37 (.c (.bool true)) 45)])
 (.cond 46
 (.seq (.region [
  kO 2 (.mv (ci 80))])
  .ret)
 .skip))
 yvr)
def yzz : CCode :=
  (.seq (.region [
 kO 12 (.fa 3 1),
 kO 13 (.ld false 1 12),
 kO 14 (.len 1 13),
 kO 3 (.mv 14)])
 y14f)
def yxu : CCode :=
  (.seq (.region [
 kO 1 (.box (some 0) 0),
 kO 2 (.mv (ci 0))])
 yzz)
def y2gh : CFunc :=
  ⟨1, true, 3, yxu, [.t 2]⟩
def y12n : CCode :=
  (.seq (.region [
 kO 2 (.mv (ci 0))])
 .ret)
def y0z : CCode :=
  (.region [
 kO 154 (.mv 8),
 kO 155 (.bin .add 154 (ci 1)),
 kO 8 (.mv 155)])
def y110 : CCode :=
  (.seq (.block 7 (.seq (.region [
 kO 156 (.fa 4 1),
 kO 157 (.ld false 1 156),
 kO 158 (.mv 8),
 kO 159 (.ixs 4 157 158),
 kO 160 (.ld true 4 159),
 kO 9 (.new (some 2) [(.int .i64 0), (.int .i64 0), (.int .i64 0), (.str [])]),
 kU (.st 4 9 160)])
 (.seq (.region [
 kO 161 (.fa 0 9),
 kO 162 (.ld false 1 161),
 kO 163 (.bin .lss 162 (ci 0)),
 kO 164 (.mv 163),
 kG 165 (.fa 0 9) 164 false,
 kG 166 (.ld false 1 165) 164 false,
 kG 167 (.fa 1 9) 164 false,
 kG 168 (.ld false 1 167) 164 false,
 kG 169 (.bin .geq 166 168) 164 false,
 kO 170 (.pick 164 (.c (.bool true)) 169),
 kO 171 (.mv 170),
 kG 172 (.fa 1 9) 171 false,
 kG 173 (.ld false 1 172) 171 false,
 kG 174 (.mv 3) 171 false,
 kG 175 (.bin .gtr 173 174) 171 false,
 kO 176 (.pick 171 (.c (.bool true)) 175),
 kO 177 (.mv 176),
 kG 178 (.ld true 5 1) 177 false,
 kG 179 (.fa 2 9) 177 false,
 kG 180 (.ld false 1 179) 177 false,
 kG 181 (.call none true 49 [178, 180]) 177 false,
 kG 182 (.un .not 181) 177 false,
 kO 183 (.pick 177 (.c (.bool true)) 182),
 kO 184 (.mv 183),
 kG 185 (.fa 3 1) 184 false,
 kG 186 (.ld false 1 185) 184 false,
 kG 187 (.fa 2 9) 184 false,
 kG 188 (.ld false 1 187) 184 false,
 kG 189 (.ixs 9 186 188) 184 false,
 kG 190 (.fa 0 189) 184 false,
 kG 191 (.ld false 1 190) 184 false,
 kG 192 (.bin .neq 191 (ci 32)) 184 false,
 kO 193 (.pick 184 (.c (.bool true)) 192)])
 (.cond 193
 (.seq (.region [
  kO 2 (.mv (ci 80))])
  .ret)
 .skip))))
 y0z)
def y13y : CCode :=
  (.seq (.seq (.region [
 kO 149 (.mv 8),
 kO 150 (.fa 4 1),
 kO 151 (.ld false 1 150),
 kO 152 (.len 1 151),
 kO 153 (.bin .lss 149 152)])
 (.cond 153
 .skip
 (.exit 6)))
 y110)
def ygz : CCode :=
  (.loop [1, 3, 8] y13y)
def y11f : CCode :=
  (.block 6 ygz)
def yz1 : CCode :=
  (.seq (.region [
 kO 8 (.mv (ci 0))])
 y11f)
def y119 : CCode :=
  (.seq yz1
 y12n)
def yq1 : CCode :=
  (.region [
 kO 103 (.mv 6),
 kO 104 (.bin .add 103 (ci 1)),
 kO 6 (.mv 104)])
def ysg : CCode :=
  (.seq (.block 5 (.seq (.region [
 kO 105 (.fa 3 1),
 kO 106 (.ld false 1 105),
 kO 107 (.mv 6),
 kO 108 (.ixs 9 106 107),
 kO 109 (.ld true 9 108),
 kO 7 (.new (some 1) [(.int .i64 0), (.int .i64 0), (.int .i64 0), (.int .i64 0), (.int .i64 0), (.int .i64 0), (.int .i64 0), (.str []), .nils]),
 kU (.st 9 7 109)])
 (.seq (.region [
 kO 110 (.ld true 5 1),
 kO 111 (.ld true 9 7),
 kO 112 (.call none true 64 [110, 111]),
 kO 113 (.un .not 112),
 kO 114 (.mv 113),
 kG 115 (.fa 0 7) 114 false,
 kG 116 (.ld false 1 115) 114 false,
 kG 117 (.bin .eql 116 (ci 32)) 114 false,
 kG 118 (.mv 117) 114 false,
 kG 119 (.mv 6) 118 true,
 kG 120 (.bin .eql 119 (ci 0)) 118 true,
 kG 121 (.mv 120) 118 true,
 kG 122 (.fa 3 1) 121 false,
 kG 123 (.ld false 1 122) 121 false,
 kG 124 (.mv 6) 121 false,
 kG 125 (.bin .sub 124 (ci 1)) 121 false,
 kG 126 (.ixs 9 123 125) 121 false,
 kG 127 (.fa 0 126) 121 false,
 kG 128 (.ld false 1 127) 121 false,
 kG 129 (.call none true 25 [128]) 121 false,
 kG 130 (.un .not 129) 121 false,
 kG 131 (.pick 121 (.c (.bool true)) 130) 118 true,
 kG 132 (.pick 118 131 (.c (.bool false))) 114 false,
 kO 133 (.pick 114 (.c (.bool true)) 132),
 kO 134 (.mv 133),
 kG 135 (.fa 0 7) 134 false,
 kG 136 (.ld false 1 135) 134 false,
 kG 137 (.call none true 23 [136]) 134 false,
 kG 138 (.mv 137) 134 false,
 kG 139 (.fa 3 1) 138 true,
 kG 140 (.ld false 1 139) 138 true,
 kG 141 (.fa 6 7) 138 true,
 kG 142 (.ld false 1 141) 138 true,
 kG 143 (.ixs 9 140 142) 138 true,
 kG 144 (.fa 0 143) 138 true,
 kG 145 (.ld false 1 144) 138 true,
 kG 146 (.bin .eql 145 (ci 32)) 138 true,
 kG 147 (.pick 138 146 (.c (.bool false))) 134 false,
 kO 148 (.pick 134 (.c (.bool true)) 147)])
 (.cond 148
 (.seq (.region [
  kO 2 (.mv (ci 80))])
  .ret)
 .skip))))
 yq1)
def ypc : CCode :=
  (.seq (.seq (.region [
 kO 100 (.mv 6),
 kO 101 (.mv 3),
 kO 102 (.bin .lss 100 101)])
 (.cond 102
 .skip
 (.exit 4)))
 ysg)
def yj0 : CCode :=
  (.loop [1, 3, 6] ypc)
def yop : CCode :=
  (.block 4 yj0)
def ysi : CCode :=
  (.seq (.region [
 kO 6 (.mv (ci 0))])
 yop)
def yoq : CCode :=
  (.seq ysi
 y119)
def yr2 : CCode :=
  (.region [
 kO 78 (.mv 5),
 kO 79 (.bin .add 78 (ci 1)),
 kO 5 (.mv 79)])
def yol : CCode :=
  (.seq (.block 3 (.seq (.draw [
 kO 80 (.ld true 5 1),
 kO 81 (.fa 1 1),
 kO 82 (.ld false 1 81),
 kO 83 (.mv 5),
 kO 84 (.ixs 1 82 83),
 kO 85 (.ld false 1 84),
 kO 86 (.call none true 48 [80, 85]),
 kO 87 (.bin .eql 86 (ci 0)),
 kO 88 (.mv 87),
 kG 89 (.fa 1 1) 88 false,
 kG 90 (.ld false 1 89) 88 false,
 kG 91 (.mv 5) 88 false,
 kG 92 (.ixs 1 90 91) 88 false,
 kG 93 (.ld false 1 92) 88 false,
 kG 94 (.fa 1 1) 88 false,
 kG 95 (.ld false 1 94) 88 false,
 kG 96 (.mv 5) 88 false,
 kG 97 (.slc 1 95 none (some 96)) 88 false,
 kG 98 (.call none true 42 [93, 97]) 88 false,
 kO 99 (.pick 88 (.c (.bool true)) 98)] [])
 (.cond 99
 (.seq (.region [
  kO 2 (.mv (ci 80))])
  .ret)
 .skip)))
 yr2)
def yoi : CCode :=
  (.seq (.seq (.region [
 kO 73 (.mv 5),
 kO 74 (.fa 1 1),
 kO 75 (.ld false 1 74),
 kO 76 (.len 1 75),
 kO 77 (.bin .lss 73 76)])
 (.cond 77
 .skip
 (.exit 2)))
 yol)
def yeo : CCode :=
  (.loop [1, 3, 5] yoi)
def yqi : CCode :=
  (.block 2 yeo)
def ypw : CCode :=
  (.seq (.region [
 kO 5 (.mv (ci 0))])
 yqi)
def yqg : CCode :=
  (.seq ypw
 yoq)
def yqz : CCode :=
  (.region [
 kO 57 (.mv 4),
 kO 58 (.bin .add 57 (ci 1)),
 kO 4 (.mv 58)])
def yqc : CCode :=
  (.seq (.block 1 (.seq (.region [
 kO 59 (.fa 0 1),
 kO 60 (.ld false 1 59),
 kO 61 (.mv 4),
 kO 62 (.ixs 1 60 61),
 kO 63 (.ld false 1 62),
 kO 64 (.bin .lss 63 (ci 1)),
 kO 65 (.mv 64),
 kG 66 (.fa 0 1) 65 false,
 kG 67 (.ld false 1 66) 65 false,
 kG 68 (.mv 4) 65 false,
 kG 69 (.ixs 1 67 68) 65 false,
 kG 70 (.ld false 1 69) 65 false,
 kG 71 (.bin .gtr 70 (ci 3)) 65 false,
 kO 72 (.pick 65 (.c (.bool true)) 71)])
 (.cond 72
 (.seq (.region [
  kO 2 (.mv (ci 80))])
  .ret)
 .skip)))
 yqz)
def yqu : CCode :=
  (.seq (.seq (.region [
 kO 52 (.mv 4),
 kO 53 (.fa 0 1),
 kO 54 (.ld false 1 53),
 kO 55 (.len 1 54),
 kO 56 (.bin .lss 52 55)])
 (.cond 56
 .skip
 (.exit 0)))
 yqc)
def yer : CCode :=
  (.loop [1, 3, 4] yqu)
def yrg : CCode :=
  (.block 0 yer)
def ysh : CCode :=
  (.seq (.region [
 kO 4 (.mv (ci 0))])
 yrg)
def ys3 : CCode :=
  (.seq ysh
 yqg)
def yp2 : CCode :=
  (.seq (.seq (.region [
 kO 13 (.mv 3),
 kO 14 (.bin .eql 13 (ci 0)),
 kO 15 (.mv 14),
 kG 16 (.mv 3) 15 false,
 kG 17 (.bin .gtr 16 (ci 20000)) 15 false,
 kO 18 (.pick 15 (.c (.bool true)) 17),
 kO 19 (.mv 18),
 kG 20 (.fa 0 1) 19 false,
 kG 21 (.ld false 1 20) 19 false,
 kG 22 (.len 1 21) 19 false,
 kG 23 (.bin .gtr 22 (ci 20000)) 19 false,
 kO 24 (.pick 19 (.c (.bool true)) 23),
 kO 25 (.mv 24),
 kG 26 (.fa 1 1) 25 false,
 kG 27 (.ld false 1 26) 25 false,
 kG 28 (.len 1 27) 25 false,
 kG 29 (.bin .gtr 28 (ci 21)) 25 false,
 kO 30 (.pick 25 (.c (.bool true)) 29),
 kO 31 (.mv 30),
 kG 32 (.fa 2 1) 31 false,
 kG 33 (.ld false 1 32) 31 false,
 kG 34 (.bin .lss 33 (ci 0)) 31 false,
 kO 35 (.pick 31 (.c (.bool true)) 34),
 kO 36 (.mv 35),
 kG 37 (.fa 2 1) 36 false,
 kG 38 (.ld false 1 37) 36 false,
 kG 39 (.bin .gtr 38 (ci 3)) 36 false,
 kO 40 (.pick 36 (.c (.bool true)) 39),
 kO 41 (.mv 40),
 kG 42 (.fa 3 1) 41 false,
 kG 43 (.ld false 1 42) 41 false,
 kG 44 (.mv 3) 41 false,
 kG 45 (.bin .sub 44 (ci 1)) 41 false,
 kG 46 (.ixs 9 43 45) 41 false,
 kG 47 (.fa 0 46) 41 false,
 kG 48 (.ld false 1 47) 41 false,
 kG 49 (.call none true 25 [48]) 41 false,
 kG 50 (.un .not 49) 41 false,
 kO 51 (.pick 41 (.c (.bool true)) 50)])
 (.cond 51
 (.seq (.region [
  kO 2 (.mv (ci 80))])
  .ret)
 .skip))
 ys3)
def yqo : CCode :=
  (.seq (.region [
 kO 10 (.fa 3 1),
 kO 11 (.ld false 1 10),
 kO 12 (.len 1 11),
 kO 3 (.mv 12)])
 yp2)
def yqj : CCode :=
  (.seq (.region [
 kO 1 (.box (some 0) 0),
 kO 2 (.mv (ci 0))])
 yqo)
def y219 : CFunc :=
  ⟨1, true, 3, yqj, [.t 2]⟩
def y2m9 : CFunc :=
  ⟨0, true, 4, (.seq (.region [
    kO 0 (.mv (.c (.bool false)))])
  (.seq (.region [
    kO 2 (.buildS (some 0) 1 3 [(.int .i64 0)] [(0, (ci 1)), (1, (ci 1)), (2, (ci 1))]),
    kO 3 (.buildS (some 1) 1 1 [(.int .i64 0)] [(0, (ci 0))]),
    kO 4 (.build [(.int .i64 0), (.int .i64 0), (.int .i64 0), (.int .i64 0), (.int .i64 0), (.int .i64 0), (.int .i64 0), (.str []), .nils] [(0, 1, (ci 4)), (1, 1, (ci 1)), (2, 1, (ci 0))]),
    kO 5 (.build [(.int .i64 0), (.int .i64 0), (.int .i64 0), (.int .i64 0), (.int .i64 0), (.int .i64 0), (.int .i64 0), (.str []), .nils] [(0, 1, (ci 5)), (5, 1, (ci 96)), (1, 1, (ci 2)), (2, 1, (ci 1)), (3, 1, (ci 1))]),
    kO 6 (.build [(.int .i64 0), (.int .i64 0), (.int .i64 0), (.int .i64 0), (.int .i64 0), (.int .i64 0), (.int .i64 0), (.str []), .nils] [(0, 1, (ci 30)), (2, 1, (ci 2))]),
    kO 7 (.buildS (some 2) 9 3 [(.int .i64 0), (.int .i64 0), (.int .i64 0), (.int .i64 0), (.int .i64 0), (.int .i64 0), (.int .i64 0), (.str []), .nils] [(0, 4), (1, 5), (2, 6)]),
    kO 8 (.build [.nils, .nils, (.int .i64 0), .nils, .nils] [(0, 1, 2), (1, 1, 3), (2, 1, (ci 1)), (3, 1, 7)]),
    kO 9 (.call none true 149 [8]),
    kO 1 (.new (some 3) [.nils, .nils, (.int .i64 0), .nils, .nils]),
    kU (.st 5 1 9)])
  (.seq (.region [
    kO 10 (.fa 3 1),
    kO 11 (.ld false 1 10),
    kO 12 (.len 1 11),
    kO 13 (.bin .eql 12 (ci 3)),
    kO 14 (.mv 13),
    kG 15 (.fa 3 1) 14 true,
    kG 16 (.ld false 1 15) 14 true,
    kG 17 (.ixs 9 16 (ci 1)) 14 true,
    kG 18 (.fa 2 17) 14 true,
    kG 19 (.ld false 1 18) 14 true,
    kG 20 (.bin .eql 19 (ci 0)) 14 true,
    kO 21 (.pick 14 20 (.c (.bool false))),
    kO 22 (.mv 21),
    kG 23 (.fa 3 1) 22 true,
    kG 24 (.ld false 1 23) 22 true,
    kG 25 (.ixs 9 24 (ci 1)) 22 true,
    kG 26 (.fa 3 25) 22 true,
    kG 27 (.ld false 1 26) 22 true,
    kG 28 (.bin .eql 27 (ci 0)) 22 true,
    kO 29 (.pick 22 28 (.c (.bool false))),
    kO 30 (.mv 29),
    kG 31 (.fa 3 1) 30 true,
    kG 32 (.ld false 1 31) 30 true,
    kG 33 (.ixs 9 32 (ci 2)) 30 true,
    kG 34 (.fa 2 33) 30 true,
    kG 35 (.ld false 1 34) 30 true,
    kG 36 (.bin .eql 35 (ci 2)) 30 true,
    kO 37 (.pick 30 36 (.c (.bool false))),
    kO 0 (.mv 37)])
  .ret))), [.t 0]⟩
def y21u : CCode :=
  (.seq (.region [
 kO 173 (.ld true 5 1),
 kU (.st 5 2 173)])
 .ret)
def y222 : CCode :=
  (.region [
 kO 172 (.bin .add 109 (ci 1)),
 kO 109 (.mv 172)])
def y22g : CCode :=
  (.draw [
 kO 165 (.fa 3 1),
 kO 166 (.ld false 1 165),
 kO 167 (.mv 16),
 kO 168 (.ld true 9 17),
 kO 169 (.mv 18),
 kO 170 (.call none true 27 [168, 169]),
 kO 171 (.ixs 9 166 167),
 kU (.st 9 171 170)] [(1, 5)])
def y21p : CCode :=
  (.region [
 kO 164 (.bin .add 141 (ci 1)),
 kO 141 (.mv 164)])
def y21t : CCode :=
  (.seq (.block 11 (.seq (.region [
 kO 143 (.mv 141),
 kO 144 (.ixs 1 139 141),
 kO 145 (.ld false 1 144),
 kO 19 (.mv 143),
 kO 20 (.mv 145)])
 (.seq (.region [
 kO 146 (.ld false 1 3),
 kO 147 (.mv 16),
 kO 148 (.ixs 1 146 147),
 kO 149 (.ld false 1 148),
 kO 150 (.mv 20),
 kO 151 (.ixs 1 149 150),
 kO 152 (.ld false 1 151),
 kO 153 (.bin .geq 152 (ci 0))])
 (.cond 153
 (.region [
  kO 154 (.mv 18),
  kO 155 (.mv 19),
  kO 156 (.ld false 1 3),
  kO 157 (.mv 16),
  kO 158 (.ixs 1 156 157),
  kO 159 (.ld false 1 158),
  kO 160 (.mv 20),
  kO 161 (.ixs 1 159 160),
  kO 162 (.ld false 1 161),
  kO 163 (.ixs 1 154 155),
  kU (.st 1 163 162)])
 .skip))))
 y21p)
def y21x : CCode :=
  (.seq (.cond 142
 .skip
 (.exit 10))
 y21t)
def y21o : CCode :=
  (.seq (.region [
 kO 142 (.bin .lss 141 140)])
 y21x)
def yuy : CCode :=
  (.loop [1, 2, 3, 12, 15, 16, 17, 18, 107, 108, 109, 139, 140, 141] y21o)
def y1gm : CCode :=
  (.block 10 yuy)
def y1jo : CCode :=
  (.seq (.region [
 kO 139 (.mv 18),
 kO 140 (.len 1 139),
 kO 141 (.mv (ci 0))])
 y1gm)
def y1mw : CCode :=
  (.seq y1jo
 y22g)
def y1jx : CCode :=
  (.seq (.region [
 kO 137 (.ld true 9 17),
 kO 138 (.call (some 19) false 10 [137]),
 kO 18 (.mv 138)])
 y1mw)
def y1cy : CCode :=
  (.seq (.seq (.region [
 kO 119 (.mv 12),
 kO 120 (.mv 16),
 kO 121 (.mget false [0] (.bool false) false 119 120),
 kO 122 (.un .not 121)])
 (.cond 122
 (.draw [
  kO 123 (.ld false 1 3),
  kO 124 (.mv 16),
  kO 125 (.ld false 1 3),
  kO 126 (.mv 16),
  kO 127 (.bin .sub 126 (ci 1)),
  kO 128 (.ixs 1 125 127),
  kO 129 (.ld false 1 128),
  kO 130 (.mv 15),
  kO 131 (.mv 16),
  kO 132 (.bin .sub 131 (ci 1)),
  kO 133 (.ixs 9 130 132),
  kO 134 (.ld true 9 133),
  kO 135 (.call none true 152 [129, 134]),
  kO 136 (.ixs 1 123 124),
  kU (.st 1 136 135)] [(0, 12)])
 .skip))
 y1jx)
def y1by : CCode :=
  (.seq (.seq (.region [
 kO 114 (.ld false 1 3),
 kO 115 (.mv 16),
 kO 116 (.ixs 1 114 115),
 kO 117 (.ld false 1 116),
 kO 118 (.eqn 1 false 117 (.c .nils))])
 (.cond 118
 (.exit 9)
 .skip))
 y1cy)
def y1pr : CCode :=
  (.seq (.region [
 kO 111 (.mv 109),
 kO 112 (.ixs 9 107 109),
 kO 113 (.ld true 9 112),
 kO 17 (.new (some 18) [(.int .i64 0), (.int .i64 0), (.int .i64 0), (.int .i64 0), (.int .i64 0), (.int .i64 0), (.int .i64 0), (.str []), .nils]),
 kO 16 (.mv 111),
 kU (.st 9 17 113)])
 y1by)
def y1f9 : CCode :=
  (.block 9 y1pr)
def y1fh : CCode :=
  (.seq y1f9
 y222)
def y1nm : CCode :=
  (.seq (.cond 110
 .skip
 (.exit 8))
 y1fh)
def y1m1 : CCode :=
  (.seq (.region [
 kO 110 (.bin .lss 109 108)])
 y1nm)
def yu3 : CCode :=
  (.loop [1, 2, 3, 12, 15, 107, 108, 109] y1m1)
def y1ng : CCode :=
  (.block 8 yu3)
def y1ak : CCode :=
  (.seq (.region [
 kO 107 (.mv 15),
 kO 108 (.len 1 107),
 kO 109 (.mv (ci 0))])
 y1ng)
def y1bi : CCode :=
  (.seq y1ak
 y21u)
def y1b1 : CCode :=
  (.seq (.region [
 kO 104 (.fa 3 1),
 kO 105 (.ld false 1 104),
 kO 106 (.call (some 16) true 40 [105]),
 kO 15 (.mv 106)])
 y1bi)
def y1g2 : CCode :=
  (.region [
 kO 103 (.bin .add 97 (ci 1)),
 kO 97 (.mv 103)])
def y1nz : CCode :=
  (.seq (.block 7 (.seq (.region [
 kO 99 (.ixs 1 95 97),
 kO 100 (.ld false 1 99),
 kO 14 (.mv 100)])
 (.region [
 kO 101 (.mv 12),
 kO 102 (.mv 14),
 kU (.mput false [0] 101 102 (.c (.bool true)))])))
 y1g2)
def y1r0 : CCode :=
  (.seq (.cond 98
 .skip
 (.exit 6))
 y1nz)
def y1ah : CCode :=
  (.seq (.region [
 kO 98 (.bin .lss 97 96)])
 y1r0)
def ymr : CCode :=
  (.loop [1, 2, 3, 12, 95, 96, 97] y1ah)
def y1ol : CCode :=
  (.block 6 ymr)
def y19e : CCode :=
  (.seq (.region [
 kO 94 (.ld true 5 1),
 kO 95 (.call none true 102 [94]),
 kO 96 (.len 1 95),
 kO 97 (.mv (ci 0))])
 y1ol)
def y1ip : CCode :=
  (.seq y19e
 y1b1)
def y1km : CCode :=
  (.seq (.region [
 kO 93 (.mkm (some 15)),
 kO 12 (.mv 93)])
 y1ip)
def y1cf : CCode :=
  (.region [
 kO 92 (.bin .add 84 (ci 1)),
 kO 84 (.mv 92)])
def y1gf : CCode :=
  (.seq (.block 5 (.seq (.region [
 kO 86 (.ixs 1 82 84),
 kO 87 (.ld false 1 86),
 kO 11 (.mv 87)])
 (.region [
 kO 88 (.mv 5),
 kO 89 (.mv 11),
 kO 90 (.mv 9),
 kO 91 (.callv none true 88 [89, 90])])))
 y1cf)
def y1mb : CCode :=
  (.seq (.cond 85
 .skip
 (.exit 4))
 y1gf)
def y1nq : CCode :=
  (.seq (.region [
 kO 85 (.bin .lss 84 83)])
 y1mb)
def yo1 : CCode :=
  (.loop [1, 2, 3, 4, 5, 9, 82, 83, 84] y1nq)
def y1nd : CCode :=
  (.block 4 yo1)
def y1d2 : CCode :=
  (.seq (.region [
 kO 80 (.ld true 5 1),
 kO 81 (.mv 6),
 kO 82 (.call none true 81 [80, 81]),
 kO 83 (.len 1 82),
 kO 84 (.mv (ci 0))])
 y1nd)
def y1qu : CCode :=
  (.seq (.draw [
 kO 70 (.ld false 1 3),
 kO 71 (.mv 6),
 kO 72 (.ixs 1 70 71),
 kO 73 (.ld false 1 72),
 kO 74 (.fa 3 1),
 kO 75 (.ld false 1 74),
 kO 76 (.mv 6),
 kO 77 (.ixs 9 75 76),
 kO 78 (.ld true 9 77),
 kO 79 (.call none true 152 [73, 78]),
 kO 9 (.mv 79)] [])
 y1d2)
def y1p3 : CCode :=
  (.region [
 kO 69 (.bin .add 58 (ci 1)),
 kO 58 (.mv 69)])
def y1cx : CCode :=
  (.seq (.block 3 (.seq (.region [
 kO 60 (.ixs 1 56 58),
 kO 61 (.ld false 1 60),
 kO 8 (.mv 61)])
 (.region [
 kO 62 (.mv 5),
 kO 63 (.mv 8),
 kO 64 (.ld false 1 3),
 kO 65 (.mv 6),
 kO 66 (.ixs 1 64 65),
 kO 67 (.ld false 1 66),
 kO 68 (.callv none true 62 [63, 67])])))
 y1p3)
def y1q1 : CCode :=
  (.seq (.cond 59
 .skip
 (.exit 2))
 y1cx)
def y1ju : CCode :=
  (.seq (.region [
 kO 59 (.bin .lss 58 57)])
 y1q1)
def ymy : CCode :=
  (.loop [1, 2, 3, 4, 5, 6, 56, 57, 58] y1ju)
def y1pi : CCode :=
  (.block 2 ymy)
def y1oo : CCode :=
  (.seq (.region [
 kO 54 (.ld true 5 1),
 kO 55 (.mv 6),
 kO 56 (.call none true 79 [54, 55]),
 kO 57 (.len 1 56),
 kO 58 (.mv (ci 0))])
 y1pi)
def y1gv : CCode :=
  (.seq y1oo
 y1qu)
def y1ke : CCode :=
  (.seq (.region [
 kO 49 (.ld false 1 4),
 kO 50 (.ld false 1 4),
 kO 51 (.len 1 50),
 kO 52 (.bin .sub 51 (ci 1)),
 kO 53 (.slc 1 49 none (some 52)),
 kU (.st 1 4 53)])
 y1gv)
def y1ne : CCode :=
  (.seq (.region [
 kO 43 (.ld false 1 4),
 kO 44 (.ld false 1 4),
 kO 45 (.len 1 44),
 kO 46 (.bin .sub 45 (ci 1)),
 kO 47 (.ixs 1 43 46),
 kO 48 (.ld false 1 47),
 kO 6 (.mv 48)])
 y1ke)
def y19a : CCode :=
  (.block 1 y1ne)
def y1oz : CCode :=
  (.seq (.seq (.region [
 kO 40 (.ld false 1 4),
 kO 41 (.len 1 40),
 kO 42 (.bin .gtr 41 (ci 0))])
 (.cond 42
 .skip
 (.exit 0)))
 y19a)
def ymn : CCode :=
  (.loop [1, 2, 3, 4, 5] y1oz)
def y1jt : CCode :=
  (.block 0 ymn)
def y1mk : CCode :=
  (.seq y1jt
 y1km)
def y1qx : CCode :=
  (.seq (.region [
 kO 39 (.mkf 151 [3, 4]),
 kO 5 (.mv 39)])
 y1mk)
def y1f3 : CCode :=
  (.seq (.region [
 kO 38 (.buildS (some 13) 1 1 [(.int .i64 0)] [(0, (ci 0))]),
 kO 4 (.new (some 14) [.nils]),
 kU (.st 1 4 38)])
 y1qx)
def y1e6 : CCode :=
  (.seq (.draw [
 kO 31 (.ld false 1 3),
 kO 32 (.buildS (some 12) 1 1 [(.int .i64 0)] [(0, (ci (-1)))]),
 kO 33 (.fa 0 1),
 kO 34 (.ld false 1 33),
 kO 35 (.len 1 34),
 kO 36 (.call none true 150 [32, 35]),
 kO 37 (.ixs 1 31 (ci 0)),
 kU (.st 1 37 36)] [(0, 1), (1, 3), (1, 4), (0, 5)])
 y1f3)
def y1hl : CCode :=
  (.seq (.region [
 kO 27 (.fa 3 1),
 kO 28 (.ld false 1 27),
 kO 29 (.len 1 28),
 kO 30 (.mkS (some 10) 1 24 [.nils] 29 29),
 kO 3 (.new (some 11) [.nils]),
 kU (.st 1 3 30)])
 y1e6)
def y1lt : CCode :=
  (.seq (.seq (.region [
 kO 23 (.ld true 5 1),
 kO 24 (.call none true 8 [23]),
 kO 25 (.bin .neq 24 (ci 0))])
 (.cond 25
 (.seq (.region [
  kO 26 (.ld true 5 1),
  kU (.st 5 2 26)])
  .ret)
 .skip))
 y1hl)
def y1pp : CCode :=
  (.seq (.region [
 kO 21 (.ld true 5 1),
 kO 22 (.call (some 2) false 13 [21]),
 kU (.st 5 1 22)])
 y1lt)
def y18v : CCode :=
  (.seq (.region [
 kO 1 (.box (some 0) 0),
 kO 2 (.new (some 1) [.nils, .nils, (.int .i64 0), .nils, .nils])])
 y1pp)
def c_q1 : CFunc :=
  ⟨1, true, 20, y18v, [.cell 2 true 5]⟩
def y1kk : CCode :=
  (.seq (.region [
 kO 2 (.mv (.c .nils))])
 .ret)
def y1at : CCode :=
  (.seq (.region [
 kO 58 (.fa 2 1),
 kO 59 (.ld false 1 58),
 kO 60 (.fa 3 1),
 kO 61 (.ld false 1 60),
 kO 62 (.buildS (some 6) 1 2 [(.int .i64 0)] [(0, 59), (1, 61)]),
 kO 2 (.mv 62)])
 .ret)
def y1m2 : CCode :=
  (.seq (.seq (.region [
 kO 52 (.fa 3 1),
 kO 53 (.ld false 1 52),
 kO 54 (.bin .lss 53 (ci 0))])
 (.cond 54
 (.seq (.region [
  kO 55 (.fa 2 1),
  kO 56 (.ld false 1 55),
  kO 57 (.buildS (some 5) 1 1 [(.int .i64 0)] [(0, 56)]),
  kO 2 (.mv 57)])
  .ret)
 .skip))
 y1at)
def y1am : CCode :=
  (.cond 50
 y1m2
 (.seq (.region [
  kO 64 (.bin .eql 4 (ci 30)),
  kO 63 (.mv 64)])
  (.cond 63
  (.seq (.region [
   kO 65 (.fa 2 1),
   kO 66 (.ld false 1 65),
   kO 67 (.bin .geq 66 (ci 0))])
   (.cond 67
   (.seq (.region [
    kO 68 (.fa 2 1),
    kO 69 (.ld false 1 68),
    kO 70 (.buildS (some 7) 1 1 [(.int .i64 0)] [(0, 69)]),
    kO 2 (.mv 70)])
    .ret)
   .skip))
  .skip)))
def y1p9 : CCode :=
  (.seq (.region [
 kO 51 (.bin .eql 4 (ci 29)),
 kO 50 (.mv 51)])
 y1am)
def y1fl : CCode :=
  (.cond 42
 (.seq (.region [
  kO 47 (.fa 8 1),
  kO 48 (.ld false 1 47),
  kO 49 (.call (some 4) false 39 [48]),
  kO 2 (.mv 49)])
  .ret)
 y1p9)
def y1bv : CCode :=
  (.seq (.seq (.region [
 kO 43 (.bin .eql 4 (ci 23)),
 kO 42 (.mv 43)])
 (.cond 42
 .skip
 (.seq (.region [
  kO 44 (.bin .eql 4 (ci 24)),
  kO 42 (.mv 44)])
  (.cond 42
  .skip
  (.seq (.region [
   kO 45 (.bin .eql 4 (ci 25)),
   kO 42 (.mv 45)])
   (.cond 42
   .skip
   (.region [
    kO 46 (.bin .eql 4 (ci 26)),
    kO 42 (.mv 46)])))))))
 y1fl)
def y1eh : CCode :=
  (.cond 33
 (.seq (.region [
  kO 35 (.fa 2 1),
  kO 36 (.ld false 1 35),
  kO 37 (.fa 3 1),
  kO 38 (.ld false 1 37),
  kO 39 (.fa 4 1),
  kO 40 (.ld false 1 39),
  kO 41 (.buildS (some 3) 1 3 [(.int .i64 0)] [(0, 36), (1, 38), (2, 40)]),
  kO 2 (.mv 41)])
  .ret)
 y1bv)
def y1nu : CCode :=
  (.seq (.region [
 kO 34 (.bin .eql 4 (ci 14)),
 kO 33 (.mv 34)])
 y1eh)
def y11w : CCode :=
  (.cond 21
 (.seq (.region [
  kO 28 (.fa 2 1),
  kO 29 (.ld false 1 28),
  kO 30 (.fa 3 1),
  kO 31 (.ld false 1 30),
  kO 32 (.buildS (some 2) 1 2 [(.int .i64 0)] [(0, 29), (1, 31)]),
  kO 2 (.mv 32)])
  .ret)
 y1nu)
def y133 : CCode :=
  (.seq (.seq (.region [
 kO 22 (.bin .eql 4 (ci 5)),
 kO 21 (.mv 22)])
 (.cond 21
 .skip
 (.seq (.region [
  kO 23 (.bin .eql 4 (ci 9)),
  kO 21 (.mv 23)])
  (.cond 21
  .skip
  (.seq (.region [
   kO 24 (.bin .eql 4 (ci 11)),
   kO 21 (.mv 24)])
   (.cond 21
   .skip
   (.seq (.region [
    kO 25 (.bin .eql 4 (ci 13)),
    kO 21 (.mv 25)])
    (.cond 21
    .skip
    (.seq (.region [
     kO 26 (.bin .eql 4 (ci 17)),
     kO 21 (.mv 26)])
     (.cond 21
     .skip
     (.region [
      kO 27 (.bin .eql 4 (ci 28)),
      kO 21 (.mv 27)])))))))))))
 y11w)
def y11h : CCode :=
  (.cond 5
 (.seq (.region [
  kO 18 (.fa 2 1),
  kO 19 (.ld false 1 18),
  kO 20 (.buildS (some 1) 1 1 [(.int .i64 0)] [(0, 19)]),
  kO 2 (.mv 20)])
  .ret)
 y133)
def yyt : CCode :=
  (.seq (.seq (.region [
 kO 6 (.bin .eql 4 (ci 4)),
 kO 5 (.mv 6)])
 (.cond 5
 .skip
 (.seq (.region [
  kO 7 (.bin .eql 4 (ci 6)),
  kO 5 (.mv 7)])
  (.cond 5
  .skip
  (.seq (.region [
   kO 8 (.bin .eql 4 (ci 7)),
   kO 5 (.mv 8)])
   (.cond 5
   .skip
   (.seq (.region [
    kO 9 (.bin .eql 4 (ci 8)),
    kO 5 (.mv 9)])
    (.cond 5
    .skip
    (.seq (.region [
     kO 10 (.bin .eql 4 (ci 10)),
     kO 5 (.mv 10)])
     (.cond 5
     .skip
     (.seq (.region [
      kO 11 (.bin .eql 4 (ci 12)),
      kO 5 (.mv 11)])
      (.cond 5
      .skip
      (.seq (.region [
       kO 12 (.bin .eql 4 (ci 15)),
       kO 5 (.mv 12)])
       (.cond 5
       .skip
       (.seq (.region [
        kO 13 (.bin .eql 4 (ci 16)),
        kO 5 (.mv 13)])
        (.cond 5
        .skip
        (.seq (.region [
         kO 14 (.bin .eql 4 (ci 19)),
         kO 5 (.mv 14)])
         (.cond 5
         .skip
         (.seq (.region [
          kO 15 (.bin .eql 4 (ci 21)),
          kO 5 (.mv 15)])
          (.cond 5
          .skip
          (.seq (.region [
           kO 16 (.bin .eql 4 (ci 22)),
           kO 5 (.mv 16)])
           (.cond 5
           .skip
           (.region [
            kO 17 (.bin .eql 4 (ci 31)),
            kO 5 (.mv 17)])))))))))))))))))))))))
 y11h)
def y11x : CCode :=
  (.block 0 yyt)
def yxf : CCode :=
  (.seq (.region [
 kO 3 (.fa 0 1),
 kO 4 (.ld false 1 3)])
 y11x)
def y12j : CCode :=
  (.seq yxf
 y1kk)
def yw8 : CCode :=
  (.seq (.region [
 kO 1 (.box (some 0) 0),
 kO 2 (.mv (.c .nils))])
 y12j)
def y2fa : CFunc :=
  ⟨1, true, 8, yw8, [.t 2]⟩
def y1pd : CCode :=
  (.seq (.region [
 kO 2 (.mv (ci (-1)))])
 .ret)
def y1fo : CCode :=
  (.seq (.seq (.region [
 kO 22 (.ld true 9 1),
 kO 23 (.call none true 17 [22])])
 (.cond 23
 (.seq (.region [
  kO 24 (.fa 1 1),
  kO 25 (.ld false 1 24),
  kO 2 (.mv 25)])
  .ret)
 .skip))
 y1pd)
def y1j9 : CCode :=
  (.cond 5
 (.seq (.region [
  kO 20 (.fa 1 1),
  kO 21 (.ld false 1 20),
  kO 2 (.mv 21)])
  .ret)
 .skip)
def y1pu : CCode :=
  (.seq (.seq (.region [
 kO 6 (.bin .eql 4 (ci 1)),
 kO 5 (.mv 6)])
 (.cond 5
 .skip
 (.seq (.region [
  kO 7 (.bin .eql 4 (ci 2)),
  kO 5 (.mv 7)])
  (.cond 5
  .skip
  (.seq (.region [
   kO 8 (.bin .eql 4 (ci 3)),
   kO 5 (.mv 8)])
   (.cond 5
   .skip
   (.seq (.region [
    kO 9 (.bin .eql 4 (ci 4)),
    kO 5 (.mv 9)])
    (.cond 5
    .skip
    (.seq (.region [
     kO 10 (.bin .eql 4 (ci 5)),
     kO 5 (.mv 10)])
     (.cond 5
     .skip
     (.seq (.region [
      kO 11 (.bin .eql 4 (ci 6)),
      kO 5 (.mv 11)])
      (.cond 5
      .skip
      (.seq (.region [
       kO 12 (.bin .eql 4 (ci 13)),
       kO 5 (.mv 12)])
       (.cond 5
       .skip
       (.seq (.region [
        kO 13 (.bin .eql 4 (ci 15)),
        kO 5 (.mv 13)])
        (.cond 5
        .skip
        (.seq (.region [
         kO 14 (.bin .eql 4 (ci 16)),
         kO 5 (.mv 14)])
         (.cond 5
         .skip
         (.seq (.region [
          kO 15 (.bin .eql 4 (ci 18)),
          kO 5 (.mv 15)])
          (.cond 5
          .skip
          (.seq (.region [
           kO 16 (.bin .eql 4 (ci 20)),
           kO 5 (.mv 16)])
           (.cond 5
           .skip
           (.seq (.region [
            kO 17 (.bin .eql 4 (ci 21)),
            kO 5 (.mv 17)])
            (.cond 5
            .skip
            (.seq (.region [
             kO 18 (.bin .eql 4 (ci 22)),
             kO 5 (.mv 18)])
             (.cond 5
             .skip
             (.region [
              kO 19 (.bin .eql 4 (ci 32)),
              kO 5 (.mv 19)])))))))))))))))))))))))))))
 y1j9)
def y1i7 : CCode :=
  (.block 0 y1pu)
def y1n1 : CCode :=
  (.seq (.region [
 kO 3 (.fa 0 1),
 kO 4 (.ld false 1 3)])
 y1i7)
def y1eo : CCode :=
  (.seq y1n1
 y1fo)
def y1fm : CCode :=
  (.seq (.region [
 kO 1 (.box (some 0) 0),
 kO 2 (.mv (ci 0))])
 y1eo)
def y2g8 : CFunc :=
  ⟨1, true, 1, y1fm, [.t 2]⟩
def y14j : CCode :=
  (.seq (.region [
 kO 5 (.buildS (some 0) 1 0 [(.int .i64 0)] []),
 kO 6 (.mv 0),
 kO 7 (.app (some 1) 1 8 5 6),
 kO 2 (.mv 7)])
 .ret)
def y13i : CCode :=
  (.seq (.seq (.region [
 kO 3 (.mv 0),
 kO 4 (.eqn 1 false 3 (.c .nils))])
 (.cond 4
 (.seq (.region [
  kO 2 (.mv (.c .nils))])
  .ret)
 .skip))
 y14j)
def yvj : CCode :=
  (.seq (.region [
 kO 2 (.mv (.c .nils))])
 y13i)
def y226 : CFunc :=
  ⟨1, true, 2, yvj, [.t 2]⟩
def ynq : CCode :=
  (.seq (.region [
 kO 5 (.buildS (some 0) 9 0 [(.int .i64 0), (.int .i64 0), (.int .i64 0), (.int .i64 0), (.int .i64 0), (.int .i64 0), (.int .i64 0), (.str []), .nils] []),
 kO 6 (.mv 0),
 kO 7 (.app (some 1) 9 96 5 6),
 kO 2 (.mv 7)])
 .ret)
def yms : CCode :=
  (.seq (.seq (.region [
 kO 3 (.mv 0),
 kO 4 (.eqn 1 false 3 (.c .nils))])
 (.cond 4
 (.seq (.region [
  kO 2 (.mv (.c .nils))])
  .ret)
 .skip))
 ynq)
def yn5 : CCode :=
  (.seq (.region [
 kO 2 (.mv (.c .nils))])
 yms)
def y1n8 : CFunc :=
  ⟨1, true, 2, yn5, [.t 2]⟩
def y14t : CCode :=
  (.seq (.region [
 kO 5 (.buildS (some 0) 4 0 [(.int .i64 0), (.int .i64 0), (.int .i64 0), (.str [])] []),
 kO 6 (.mv 0),
 kO 7 (.app (some 1) 4 40 5 6),
 kO 2 (.mv 7)])
 .ret)
def yvq : CCode :=
  (.seq (.seq (.region [
 kO 3 (.mv 0),
 kO 4 (.eqn 1 false 3 (.c .nils))])
 (.cond 4
 (.seq (.region [
  kO 2 (.mv (.c .nils))])
  .ret)
 .skip))
 y14t)
def yxm : CCode :=
  (.seq (.region [
 kO 2 (.mv (.c .nils))])
 yvq)
def y21j : CFunc :=
  ⟨1, true, 2, yxm, [.t 2]⟩
def y1hz : CCode :=
  (.seq (.region [
 kO 1 (.box (some 0) 0),
 kO 2 (.mv (.c (.bool false)))])
 (.seq (.region [
 kO 3 (.fa 0 1),
 kO 4 (.ld false 1 3),
 kO 5 (.bin .eql 4 (ci 27)),
 kO 6 (.mv 5),
 kG 7 (.fa 0 1) 6 false,
 kG 8 (.ld false 1 7) 6 false,
 kG 9 (.bin .eql 8 (ci 30)) 6 false,
 kO 10 (.pick 6 (.c (.bool true)) 9),
 kO 11 (.mv 10),
 kG 12 (.fa 0 1) 11 false,
 kG 13 (.ld false 1 12) 11 false,
 kG 14 (.bin .eql 13 (ci 31)) 11 false,
 kO 15 (.pick 11 (.c (.bool true)) 14),
 kO 2 (.mv 15)])
 .ret))
def y2j9 : CFunc :=
  ⟨1, true, 1, y1hz, [.t 2]⟩
def y11i : CCode :=
  (.seq (.region [
 kO 4 (.mv (.c (.bool false)))])
 (.seq (.region [
 kO 5 (.mv 0),
 kO 6 (.mv 1),
 kO 7 (.call none true 45 [5, 6]),
 kO 8 (.bin .geq 7 (ci 0)),
 kO 4 (.mv 8)])
 .ret))
def y22c : CFunc :=
  ⟨2, true, 0, y11i, [.t 4]⟩
def y1kr : CCode :=
  (.seq (.region [
 kO 183 (.ld true 9 3),
 kO 184 (.call none true 22 [183]),
 kO 185 (.un .not 184),
 kO 186 (.mv 185),
 kG 187 (.fa 6 3) 186 false,
 kG 188 (.ld false 1 187) 186 false,
 kG 189 (.bin .geq 188 (ci 0)) 186 false,
 kG 190 (.mv 189) 186 false,
 kG 191 (.fa 6 3) 190 true,
 kG 192 (.ld false 1 191) 190 true,
 kG 193 (.fa 3 2) 190 true,
 kG 194 (.ld false 1 193) 190 true,
 kG 195 (.len 1 194) 190 true,
 kG 196 (.bin .lss 192 195) 190 true,
 kG 197 (.pick 190 196 (.c (.bool false))) 186 false,
 kO 198 (.pick 186 (.c (.bool true)) 197),
 kO 4 (.mv 198)])
 .ret)
def y1e8 : CCode :=
  (.seq (.seq (.region [
 kO 105 (.fa 0 3),
 kO 106 (.ld false 1 105)])
 (.block 4 (.seq (.region [
 kO 108 (.bin .eql 106 (ci 1)),
 kO 107 (.mv 108)])
 (.cond 107
 (.seq (.region [
  kO 109 (.fa 0 2),
  kO 110 (.ld false 1 109),
  kO 111 (.fa 1 3),
  kO 112 (.ld false 1 111),
  kO 113 (.ixs 1 110 112),
  kO 114 (.ld false 1 113),
  kO 115 (.bin .neq 114 (ci 3)),
  kO 116 (.mv 115),
  kG 117 (.fa 0 2) 116 true,
  kG 118 (.ld false 1 117) 116 true,
  kG 119 (.fa 1 3) 116 true,
  kG 120 (.ld false 1 119) 116 true,
  kG 121 (.ixs 1 118 120) 116 true,
  kG 122 (.ld false 1 121) 116 true,
  kG 123 (.bin .eql 122 (ci 2)) 116 true,
  kG 124 (.mv 123) 116 true,
  kG 125 (.fa 5 3) 124 false,
  kG 126 (.ld false 1 125) 124 false,
  kG 127 (.fa 5 3) 124 false,
  kG 128 (.ld false 1 127) 124 false,
  kG 129 (.cvi .i32 128) 124 false,
  kG 130 (.cvi .i64 129) 124 false,
  kG 131 (.bin .eql 126 130) 124 false,
  kG 132 (.pick 124 (.c (.bool true)) 131) 116 true,
  kO 133 (.pick 116 132 (.c (.bool false))),
  kO 4 (.mv 133)])
  .ret)
 (.seq (.region [
  kO 135 (.bin .eql 106 (ci 4)),
  kO 134 (.mv 135)])
  (.cond 134
  (.seq (.draw [
   kO 136 (.fa 0 2),
   kO 137 (.ld false 1 136),
   kO 138 (.fa 1 3),
   kO 139 (.ld false 1 138),
   kO 140 (.ixs 1 137 139),
   kO 141 (.ld false 1 140),
   kO 142 (.fa 0 2),
   kO 143 (.ld false 1 142),
   kO 144 (.fa 2 3),
   kO 145 (.ld false 1 144),
   kO 146 (.ixs 1 143 145),
   kO 147 (.ld false 1 146),
   kO 148 (.bin .eql 141 147),
   kO 4 (.mv 148)] [])
   .ret)
  (.seq (.region [
   kO 150 (.bin .eql 106 (ci 7)),
   kO 149 (.mv 150)])
   (.cond 149
   (.seq (.region [
    kO 151 (.fa 0 2),
    kO 152 (.ld false 1 151),
    kO 153 (.fa 2 3),
    kO 154 (.ld false 1 153),
    kO 155 (.ixs 1 152 154),
    kO 156 (.ld false 1 155),
    kO 157 (.bin .neq 156 (ci 3)),
    kO 4 (.mv 157)])
    .ret)
   (.seq (.region [
    kO 159 (.bin .eql 106 (ci 30)),
    kO 158 (.mv 159)])
    (.cond 158
    (.seq (.draw [
     kO 160 (.fa 2 3),
     kO 161 (.ld false 1 160),
     kO 162 (.bin .eql 161 (ci (-1))),
     kO 163 (.fa 2 2),
     kO 164 (.ld false 1 163),
     kO 165 (.bin .eql 164 (ci 0)),
     kO 166 (.eqb false 162 165),
     kO 167 (.mv 166),
     kG 168 (.fa 2 3) 167 true,
     kG 169 (.ld false 1 168) 167 true,
     kG 170 (.bin .eql 169 (ci (-1))) 167 true,
     kG 171 (.mv 170) 167 true,
     kG 172 (.fa 0 2) 171 false,
     kG 173 (.ld false 1 172) 171 false,
     kG 174 (.fa 2 3) 171 false,
     kG 175 (.ld false 1 174) 171 false,
     kG 176 (.ixs 1 173 175) 171 false,
     kG 177 (.ld false 1 176) 171 false,
     kG 178 (.fa 2 2) 171 false,
     kG 179 (.ld false 1 178) 171 false,
     kG 180 (.bin .eql 177 179) 171 false,
     kG 181 (.pick 171 (.c (.bool true)) 180) 167 true,
     kO 182 (.pick 167 181 (.c (.bool false))),
     kO 4 (.mv 182)] [])
     .ret)
    .skip))))))))))
 y1kr)
def y1cm : CCode :=
  (.region [
 kO 104 (.bin .add 65 (ci 1)),
 kO 65 (.mv 104)])
def y1e1 : CCode :=
  (.seq (.region [
 kO 73 (.mv 10),
 kO 74 (.bin .lss 73 (ci 0)),
 kO 75 (.mv 74),
 kG 76 (.mv 10) 75 false,
 kG 77 (.fa 0 2) 75 false,
 kG 78 (.ld false 1 77) 75 false,
 kG 79 (.len 1 78) 75 false,
 kG 80 (.bin .geq 76 79) 75 false,
 kO 81 (.pick 75 (.c (.bool true)) 80),
 kO 82 (.mv 81),
 kG 83 (.mv 9) 82 false,
 kG 84 (.bin .eql 83 (ci 0)) 82 false,
 kG 85 (.mv 84) 82 false,
 kG 86 (.fa 0 3) 85 true,
 kG 87 (.ld false 1 86) 85 true,
 kG 88 (.bin .eql 87 (ci 24)) 85 true,
 kG 89 (.mv 88) 85 true,
 kG 90 (.fa 0 3) 89 false,
 kG 91 (.ld false 1 90) 89 false,
 kG 92 (.bin .eql 91 (ci 25)) 89 false,
 kG 93 (.pick 89 (.c (.bool true)) 92) 85 true,
 kG 94 (.pick 85 93 (.c (.bool false))) 82 false,
 kG 95 (.mv 94) 82 false,
 kG 96 (.fa 0 2) 95 true,
 kG 97 (.ld false 1 96) 95 true,
 kG 98 (.mv 10) 95 true,
 kG 99 (.ixs 1 97 98) 95 true,
 kG 100 (.ld false 1 99) 95 true,
 kG 101 (.bin .neq 100 (ci 3)) 95 true,
 kG 102 (.pick 95 101 (.c (.bool false))) 82 false,
 kO 103 (.pick 82 (.c (.bool true)) 102)])
 (.cond 103
 (.seq (.region [
  kO 4 (.mv (.c (.bool false)))])
  .ret)
 .skip))
def y1pa : CCode :=
  (.seq (.seq (.region [
 kO 70 (.ld true 9 3),
 kO 71 (.call none true 17 [70]),
 kO 72 (.un .not 71)])
 (.cond 72
 (.exit 2)
 .skip))
 y1e1)
def y1ms : CCode :=
  (.seq (.region [
 kO 67 (.mv 65),
 kO 68 (.ixs 1 63 65),
 kO 69 (.ld false 1 68),
 kO 9 (.mv 67),
 kO 10 (.mv 69)])
 y1pa)
def y1j1 : CCode :=
  (.block 3 y1ms)
def y1bn : CCode :=
  (.seq y1j1
 y1cm)
def yz5 : CCode :=
  (.seq (.cond 66
 .skip
 (.exit 2))
 y1bn)
def y12s : CCode :=
  (.seq (.region [
 kO 66 (.bin .lss 65 64)])
 yz5)
def ynk : CCode :=
  (.loop [2, 3, 63, 64, 65] y12s)
def y118 : CCode :=
  (.block 2 ynk)
def yvu : CCode :=
  (.seq (.region [
 kO 62 (.fa 8 3),
 kO 63 (.ld false 1 62),
 kO 64 (.len 1 63),
 kO 65 (.mv (ci 0))])
 y118)
def yx4 : CCode :=
  (.seq yvu
 y1e8)
def yx7 : CCode :=
  (.region [
 kO 61 (.bin .add 27 (ci 1)),
 kO 27 (.mv 61)])
def ywh : CCode :=
  (.seq (.draw [
 kO 35 (.mv 8),
 kO 36 (.bin .lss 35 (ci 0)),
 kO 37 (.mv 36),
 kG 38 (.mv 8) 37 false,
 kG 39 (.fa 0 2) 37 false,
 kG 40 (.ld false 1 39) 37 false,
 kG 41 (.len 1 40) 37 false,
 kG 42 (.bin .geq 38 41) 37 false,
 kO 43 (.pick 37 (.c (.bool true)) 42),
 kO 44 (.mv 43),
 kG 45 (.mv 7) 44 false,
 kG 46 (.ixa 4 1 5 45) 44 false,
 kG 47 (.ld false 1 46) 44 false,
 kG 48 (.bin .gtr 47 (ci 0)) 44 false,
 kG 49 (.mv 48) 44 false,
 kG 50 (.fa 0 2) 49 true,
 kG 51 (.ld false 1 50) 49 true,
 kG 52 (.mv 8) 49 true,
 kG 53 (.ixs 1 51 52) 49 true,
 kG 54 (.ld false 1 53) 49 true,
 kG 55 (.mv 7) 49 true,
 kG 56 (.ixa 4 1 5 55) 49 true,
 kG 57 (.ld false 1 56) 49 true,
 kG 58 (.bin .neq 54 57) 49 true,
 kG 59 (.pick 49 58 (.c (.bool false))) 44 false,
 kO 60 (.pick 44 (.c (.bool true)) 59)] [])
 (.cond 60
 (.seq (.region [
  kO 4 (.mv (.c (.bool false)))])
  .ret)
 .skip))
def y158 : CCode :=
  (.seq (.seq (.region [
 kO 31 (.mv 7),
 kO 32 (.ixa 4 1 5 31),
 kO 33 (.ld false 1 32),
 kO 34 (.bin .lss 33 (ci 0))])
 (.cond 34
 (.exit 1)
 .skip))
 ywh)
def y13t : CCode :=
  (.seq (.region [
 kO 29 (.mv 27),
 kO 30 (.ixv false 4 1 26 27),
 kO 7 (.mv 29),
 kO 8 (.mv 30)])
 y158)
def yxp : CCode :=
  (.block 1 y13t)
def yy1 : CCode :=
  (.seq yxp
 yx7)
def ywv : CCode :=
  (.seq (.cond 28
 .skip
 (.exit 0))
 yy1)
def yvb : CCode :=
  (.seq (.region [
 kO 28 (.bin .lss 27 (ci 4))])
 ywv)
def yjc : CCode :=
  (.loop [2, 3, 5, 26, 27] yvb)
def y159 : CCode :=
  (.block 0 yjc)
def y13o : CCode :=
  (.seq (.region [
 kO 18 (.fa 1 3),
 kO 19 (.ld false 1 18),
 kO 20 (.fa 2 3),
 kO 21 (.ld false 1 20),
 kO 22 (.fa 3 3),
 kO 23 (.ld false 1 22),
 kO 24 (.fa 4 3),
 kO 25 (.ld false 1 24),
 kO 26 (.build [(.int .i64 0), (.int .i64 0), (.int .i64 0), (.int .i64 0)] [(0, 1, 19), (1, 1, 21), (2, 1, 23), (3, 1, 25)]),
 kO 27 (.mv (ci 0))])
 y159)
def yx8 : CCode :=
  (.seq y13o
 yx4)
def y13g : CCode :=
  (.seq (.seq (.region [
 kO 16 (.mv 6),
 kO 17 (.un .not 16)])
 (.cond 17
 (.seq (.region [
  kO 4 (.mv (.c (.bool false)))])
  .ret)
 .skip))
 yx8)
def yzm : CCode :=
  (.seq (.region [
 kO 12 (.ld true 9 3),
 kO 13 (.call none true 47 [12]),
 kO 11 (.mv 13),
 kO 14 (.ext 0 11),
 kO 15 (.ext 1 11),
 kO 5 (.new (some 2) [(.int .i64 0), (.int .i64 0), (.int .i64 0), (.int .i64 0)]),
 kU (.st 4 5 14),
 kO 6 (.mv 15)])
 y13g)
def yzn : CCode :=
  (.seq (.region [
 kO 2 (.box (some 0) 0),
 kO 3 (.box (some 1) 1),
 kO 4 (.mv (.c (.bool false)))])
 yzm)
def y2j1 : CFunc :=
  ⟨2, true, 3, yzn, [.t 4]⟩
def y1go : CCode :=
  (.seq (.region [
 kO 1 (.box (some 0) 0),
 kO 2 (.mv (.c (.bool false)))])
 (.seq (.region [
 kO 3 (.fa 0 1),
 kO 4 (.ld false 1 3),
 kO 5 (.bin .eql 4 (ci 27)),
 kO 6 (.mv 5),
 kG 7 (.fa 0 1) 6 false,
 kG 8 (.ld false 1 7) 6 false,
 kG 9 (.bin .eql 8 (ci 28)) 6 false,
 kO 10 (.pick 6 (.c (.bool true)) 9),
 kO 11 (.mv 10),
 kG 12 (.fa 0 1) 11 false,
 kG 13 (.ld false 1 12) 11 false,
 kG 14 (.bin .eql 13 (ci 29)) 11 false,
 kO 15 (.pick 11 (.c (.bool true)) 14),
 kO 2 (.mv 15)])
 .ret))
def y2f2 : CFunc :=
  ⟨1, true, 1, y1go, [.t 2]⟩
def y1mr : CCode :=
  (.seq (.region [
 kO 57 (.mv 5),
 kO 4 (.mv 57)])
 .ret)
def y1dm : CCode :=
  (.region [
 kO 56 (.bin .add 29 (ci 1)),
 kO 29 (.mv 56)])
def y1mv : CCode :=
  (.seq (.region [
 kO 53 (.fa 3 7),
 kO 54 (.ld false 1 53),
 kO 55 (.bin .eql 54 (.c (.str [])))])
 (.cond 55
 (.exit 0)
 .skip))
def y1os : CCode :=
  (.seq (.seq (.region [
 kO 43 (.mv 5),
 kO 44 (.fa 2 7),
 kO 45 (.ld false 1 44),
 kO 46 (.call none true 46 [43, 45]),
 kO 47 (.un .not 46)])
 (.cond 47
 (.region [
  kO 48 (.mv 5),
  kO 49 (.fa 2 7),
  kO 50 (.ld false 1 49),
  kO 51 (.buildS (some 2) 1 1 [(.int .i64 0)] [(0, 50)]),
  kO 52 (.app (some 3) 1 8 48 51),
  kO 5 (.mv 52)])
 .skip))
 y1mv)
def y1lg : CCode :=
  (.seq (.seq (.region [
 kO 33 (.mv 1),
 kO 34 (.fa 0 7),
 kO 35 (.ld false 1 34),
 kO 36 (.bin .lss 33 35),
 kO 37 (.mv 36),
 kG 38 (.mv 1) 37 false,
 kG 39 (.fa 1 7) 37 false,
 kG 40 (.ld false 1 39) 37 false,
 kG 41 (.bin .geq 38 40) 37 false,
 kO 42 (.pick 37 (.c (.bool true)) 41)])
 (.cond 42
 (.exit 1)
 .skip))
 y1os)
def y1c5 : CCode :=
  (.seq (.region [
 kO 31 (.ixs 4 27 29),
 kO 32 (.ld true 4 31),
 kO 7 (.new (some 1) [(.int .i64 0), (.int .i64 0), (.int .i64 0), (.str [])]),
 kU (.st 4 7 32)])
 y1lg)
def y195 : CCode :=
  (.block 1 y1c5)
def y1fi : CCode :=
  (.seq y195
 y1dm)
def y0a : CCode :=
  (.seq (.cond 30
 .skip
 (.exit 0))
 y1fi)
def yzt : CCode :=
  (.seq (.region [
 kO 30 (.bin .lss 29 28)])
 y0a)
def yn2 : CCode :=
  (.loop [1, 5, 27, 28, 29] yzt)
def y151 : CCode :=
  (.block 0 yn2)
def yzh : CCode :=
  (.seq (.region [
 kO 26 (.fa 4 2),
 kO 27 (.ld false 1 26),
 kO 28 (.len 1 27),
 kO 29 (.mv (ci 0))])
 y151)
def yze : CCode :=
  (.seq yzh
 y1mr)
def y0c : CCode :=
  (.seq (.region [
 kO 5 (.mv (.c .nils))])
 yze)
def yw5 : CCode :=
  (.seq (.seq (.region [
 kO 8 (.mv 1),
 kO 9 (.bin .lss 8 (ci 0)),
 kO 10 (.mv 9),
 kG 11 (.mv 1) 10 false,
 kG 12 (.fa 3 2) 10 false,
 kG 13 (.ld false 1 12) 10 false,
 kG 14 (.len 1 13) 10 false,
 kG 15 (.bin .geq 11 14) 10 false,
 kO 16 (.pick 10 (.c (.bool true)) 15),
 kO 17 (.mv 16),
 kG 18 (.fa 3 2) 17 false,
 kG 19 (.ld false 1 18) 17 false,
 kG 20 (.mv 1) 17 false,
 kG 21 (.ixs 9 19 20) 17 false,
 kG 22 (.ld true 9 21) 17 false,
 kG 23 (.call none true 18 [22]) 17 false,
 kG 24 (.un .not 23) 17 false,
 kO 25 (.pick 17 (.c (.bool true)) 24)])
 (.cond 25
 (.seq (.region [
  kO 4 (.mv (.c .nils))])
  .ret)
 .skip))
 y0c)
def yyk : CCode :=
  (.seq (.region [
 kO 2 (.box (some 0) 0),
 kO 4 (.mv (.c .nils))])
 yw5)
def y2i0 : CFunc :=
  ⟨2, true, 4, yyk, [.t 4]⟩
def y1lu : CCode :=
  (.seq (.region [
 kO 43 (.mv 6),
 kO 4 (.mv 43)])
 .ret)
def y1i9 : CCode :=
  (.seq (.seq (.region [
 kO 29 (.ld true 9 5),
 kO 30 (.call none true 22 [29]),
 kO 31 (.mv 30),
 kG 32 (.mv 6) 31 true,
 kG 33 (.fa 6 5) 31 true,
 kG 34 (.ld false 1 33) 31 true,
 kG 35 (.call none true 46 [32, 34]) 31 true,
 kG 36 (.un .not 35) 31 true,
 kO 37 (.pick 31 36 (.c (.bool false)))])
 (.cond 37
 (.region [
  kO 38 (.mv 6),
  kO 39 (.fa 6 5),
  kO 40 (.ld false 1 39),
  kO 41 (.buildS (some 4) 1 1 [(.int .i64 0)] [(0, 40)]),
  kO 42 (.app (some 5) 1 8 38 41),
  kO 6 (.mv 42)])
 .skip))
 y1lu)
def y1ay : CCode :=
  (.seq (.seq (.region [
 kO 21 (.ld true 9 5),
 kO 22 (.call none true 24 [21]),
 kO 23 (.un .not 22)])
 (.cond 23
 (.region [
  kO 24 (.mv 6),
  kO 25 (.mv 1),
  kO 26 (.bin .add 25 (ci 1)),
  kO 27 (.buildS (some 2) 1 1 [(.int .i64 0)] [(0, 26)]),
  kO 28 (.app (some 3) 1 8 24 27),
  kO 6 (.mv 28)])
 .skip))
 y1i9)
def y1ci : CCode :=
  (.seq (.region [
 kO 6 (.mv (.c .nils))])
 y1ay)
def y1cu : CCode :=
  (.seq (.region [
 kO 16 (.fa 3 2),
 kO 17 (.ld false 1 16),
 kO 18 (.mv 1),
 kO 19 (.ixs 9 17 18),
 kO 20 (.ld true 9 19),
 kO 5 (.new (some 1) [(.int .i64 0), (.int .i64 0), (.int .i64 0), (.int .i64 0), (.int .i64 0), (.int .i64 0), (.int .i64 0), (.str []), .nils]),
 kU (.st 9 5 20)])
 y1ci)
def y1fk : CCode :=
  (.seq (.seq (.region [
 kO 7 (.mv 1),
 kO 8 (.bin .lss 7 (ci 0)),
 kO 9 (.mv 8),
 kG 10 (.mv 1) 9 false,
 kG 11 (.fa 3 2) 9 false,
 kG 12 (.ld false 1 11) 9 false,
 kG 13 (.len 1 12) 9 false,
 kG 14 (.bin .geq 10 13) 9 false,
 kO 15 (.pick 9 (.c (.bool true)) 14)])
 (.cond 15
 (.seq (.region [
  kO 4 (.mv (.c .nils))])
  .ret)
 .skip))
 y1cu)
def y1h6 : CCode :=
  (.seq (.region [
 kO 2 (.box (some 0) 0),
 kO 4 (.mv (.c .nils))])
 y1fk)
def y2g2 : CFunc :=
  ⟨2, true, 6, y1h6, [.t 4]⟩
def y19w : CCode :=
  (.seq (.region [
 kO 109 (.mv 10),
 kO 2 (.mv 109)])
 .ret)
def y1ll : CCode :=
  (.region [
 kO 108 (.bin .add 97 (ci 1)),
 kO 97 (.mv 108)])
def y1hs : CCode :=
  (.seq (.block 7 (.seq (.region [
 kO 99 (.mv 97),
 kO 11 (.mv 99)])
 (.seq (.region [
 kO 100 (.mv 3),
 kO 101 (.mv 11),
 kO 102 (.ixs 1 100 101),
 kO 103 (.ld false 1 102)])
 (.cond 103
 (.region [
  kO 104 (.mv 10),
  kO 105 (.mv 11),
  kO 106 (.buildS (some 5) 1 1 [(.int .i64 0)] [(0, 105)]),
  kO 107 (.app (some 6) 1 8 104 106),
  kO 10 (.mv 107)])
 .skip))))
 y1ll)
def y1dv : CCode :=
  (.seq (.cond 98
 .skip
 (.exit 6))
 y1hs)
def y1a0 : CCode :=
  (.seq (.region [
 kO 98 (.bin .lss 97 96)])
 y1dv)
def ynz : CCode :=
  (.loop [3, 10, 96, 97] y1a0)
def y1dn : CCode :=
  (.block 6 ynz)
def y1ig : CCode :=
  (.seq (.region [
 kO 94 (.fa 3 1),
 kO 95 (.ld false 1 94),
 kO 96 (.len 1 95),
 kO 97 (.mv (ci 0))])
 y1dn)
def y1d7 : CCode :=
  (.seq y1ig
 y19w)
def yxd : CCode :=
  (.seq (.region [
 kO 10 (.mv (.c .nils))])
 y1d7)
def yve : CCode :=
  (.region [
 kO 93 (.bin .add 64 (ci 1)),
 kO 64 (.mv 93)])
def yw4 : CCode :=
  (.region [
 kO 92 (.bin .add 76 (ci 1)),
 kO 76 (.mv 92)])
def y130 : CCode :=
  (.seq (.block 5 (.seq (.region [
 kO 78 (.ixs 1 74 76),
 kO 79 (.ld false 1 78),
 kO 9 (.mv 79)])
 (.seq (.region [
 kO 80 (.mv 9),
 kO 81 (.bin .geq 80 (ci 0)),
 kO 82 (.mv 81),
 kG 83 (.mv 9) 82 true,
 kG 84 (.fa 3 1) 82 true,
 kG 85 (.ld false 1 84) 82 true,
 kG 86 (.len 1 85) 82 true,
 kG 87 (.bin .lss 83 86) 82 true,
 kO 88 (.pick 82 87 (.c (.bool false)))])
 (.cond 88
 (.region [
  kO 89 (.mv 3),
  kO 90 (.mv 9),
  kO 91 (.ixs 1 89 90),
  kU (.st 1 91 (.c (.bool true)))])
 .skip))))
 yw4)
def y12g : CCode :=
  (.seq (.cond 77
 .skip
 (.exit 4))
 y130)
def y134 : CCode :=
  (.seq (.region [
 kO 77 (.bin .lss 76 75)])
 y12g)
def yis : CCode :=
  (.loop [1, 3, 62, 63, 64, 74, 75, 76] y134)
def y13w : CCode :=
  (.block 4 yis)
def y0n : CCode :=
  (.seq (.region [
 kO 68 (.fa 0 7),
 kO 69 (.ld false 1 68),
 kO 70 (.fa 1 7),
 kO 71 (.ld false 1 70),
 kO 72 (.fa 2 7),
 kO 73 (.ld false 1 72),
 kO 74 (.buildS (some 4) 1 3 [(.int .i64 0)] [(0, 69), (1, 71), (2, 73)]),
 kO 75 (.len 1 74),
 kO 76 (.mv (ci 0))])
 y13w)
def y11c : CCode :=
  (.seq (.region [
 kO 66 (.ixs 4 62 64),
 kO 67 (.ld true 4 66),
 kO 7 (.new (some 3) [(.int .i64 0), (.int .i64 0), (.int .i64 0), (.str [])]),
 kU (.st 4 7 67)])
 y0n)
def y116 : CCode :=
  (.block 3 y11c)
def y0f : CCode :=
  (.seq y116
 yve)
def y132 : CCode :=
  (.seq (.cond 65
 .skip
 (.exit 2))
 y0f)
def yvh : CCode :=
  (.seq (.region [
 kO 65 (.bin .lss 64 63)])
 y132)
def ygn : CCode :=
  (.loop [1, 3, 62, 63, 64] yvh)
def yyg : CCode :=
  (.block 2 ygn)
def y14z : CCode :=
  (.seq (.region [
 kO 61 (.fa 4 1),
 kO 62 (.ld false 1 61),
 kO 63 (.len 1 62),
 kO 64 (.mv (ci 0))])
 yyg)
def y0d : CCode :=
  (.seq y14z
 yxd)
def y11a : CCode :=
  (.region [
 kO 60 (.bin .add 26 (ci 1)),
 kO 26 (.mv 60)])
def y139 : CCode :=
  (.seq (.region [
 kO 50 (.ld true 9 5),
 kO 51 (.call none true 22 [50]),
 kO 52 (.mv 51),
 kG 53 (.ld true 9 5) 52 false,
 kG 54 (.call none true 24 [53]) 52 false,
 kO 55 (.pick 52 (.c (.bool true)) 54)])
 (.cond 55
 (.region [
  kO 56 (.mv 3),
  kO 57 (.mv 4),
  kO 58 (.bin .add 57 (ci 1)),
  kO 59 (.ixs 1 56 58),
  kU (.st 1 59 (.c (.bool true)))])
 .skip))
def y08 : CCode :=
  (.seq (.seq (.region [
 kO 31 (.ld true 9 5),
 kO 32 (.call none true 22 [31]),
 kO 33 (.mv 32),
 kG 34 (.fa 6 5) 33 true,
 kG 35 (.ld false 1 34) 33 true,
 kG 36 (.bin .geq 35 (ci 0)) 33 true,
 kO 37 (.pick 33 36 (.c (.bool false))),
 kO 38 (.mv 37),
 kG 39 (.fa 6 5) 38 true,
 kG 40 (.ld false 1 39) 38 true,
 kG 41 (.fa 3 1) 38 true,
 kG 42 (.ld false 1 41) 38 true,
 kG 43 (.len 1 42) 38 true,
 kG 44 (.bin .lss 40 43) 38 true,
 kO 45 (.pick 38 44 (.c (.bool false)))])
 (.cond 45
 (.region [
  kO 46 (.mv 3),
  kO 47 (.fa 6 5),
  kO 48 (.ld false 1 47),
  kO 49 (.ixs 1 46 48),
  kU (.st 1 49 (.c (.bool true)))])
 .skip))
 y139)
def y11u : CCode :=
  (.seq (.region [
 kO 28 (.mv 26),
 kO 29 (.ixs 9 24 26),
 kO 30 (.ld true 9 29),
 kO 5 (.new (some 2) [(.int .i64 0), (.int .i64 0), (.int .i64 0), (.int .i64 0), (.int .i64 0), (.int .i64 0), (.int .i64 0), (.str []), .nils]),
 kO 4 (.mv 28),
 kU (.st 9 5 30)])
 y08)
def yws : CCode :=
  (.block 1 y11u)
def yyl : CCode :=
  (.seq yws
 y11a)
def y0y : CCode :=
  (.seq (.cond 27
 .skip
 (.exit 0))
 yyl)
def yy4 : CCode :=
  (.seq (.region [
 kO 27 (.bin .lss 26 25)])
 y0y)
def yhh : CCode :=
  (.loop [1, 3, 24, 25, 26] yy4)
def yyx : CCode :=
  (.block 0 yhh)
def yyv : CCode :=
  (.seq (.region [
 kO 23 (.fa 3 1),
 kO 24 (.ld false 1 23),
 kO 25 (.len 1 24),
 kO 26 (.mv (ci 0))])
 yyx)
def yz4 : CCode :=
  (.seq yyv
 y0d)
def y0e : CCode :=
  (.seq (.seq (.region [
 kO 17 (.fa 3 1),
 kO 18 (.ld false 1 17),
 kO 19 (.len 1 18),
 kO 20 (.bin .gtr 19 (ci 0))])
 (.cond 20
 (.region [
  kO 21 (.mv 3),
  kO 22 (.ixs 1 21 (ci 0)),
  kU (.st 1 22 (.c (.bool true)))])
 .skip))
 yz4)
def yxc : CCode :=
  (.seq (.region [
 kO 12 (.fa 3 1),
 kO 13 (.ld false 1 12),
 kO 14 (.len 1 13),
 kO 15 (.bin .add 14 (ci 1)),
 kO 16 (.mkS (some 1) 1 1 [(.bool false)] 15 15),
 kO 3 (.mv 16)])
 y0e)
def yxg : CCode :=
  (.seq (.region [
 kO 1 (.box (some 0) 0),
 kO 2 (.mv (.c .nils))])
 yxc)
def y2db : CFunc :=
  ⟨1, true, 7, yxg, [.t 2]⟩
def yy5 : CCode :=
  (.seq (.region [
 kO 2 (.mv (.c (.bool false)))])
 (.seq (.region [
 kO 3 (.mv 0),
 kO 4 (.buildS (some 0) 1 3 [(.int .i64 0)] [(0, (ci 27)), (1, (ci 30)), (2, (ci 31))]),
 kO 5 (.call none true 42 [3, 4]),
 kO 2 (.mv 5)])
 .ret))
def y21e : CFunc :=
  ⟨1, true, 1, yy5, [.t 2]⟩
def yzj : CCode :=
  (.seq (.region [
 kO 14 (.fa 0 2),
 kO 15 (.ld false 1 14),
 kO 16 (.mv 1),
 kO 17 (.ixs 1 15 16),
 kO 18 (.ld false 1 17),
 kO 4 (.mv 18)])
 .ret)
def yxn : CCode :=
  (.seq (.seq (.region [
 kO 5 (.mv 1),
 kO 6 (.bin .lss 5 (ci 0)),
 kO 7 (.mv 6),
 kG 8 (.mv 1) 7 false,
 kG 9 (.fa 0 2) 7 false,
 kG 10 (.ld false 1 9) 7 false,
 kG 11 (.len 1 10) 7 false,
 kG 12 (.bin .geq 8 11) 7 false,
 kO 13 (.pick 7 (.c (.bool true)) 12)])
 (.cond 13
 (.seq (.region [
  kO 4 (.mv (ci 0))])
  .ret)
 .skip))
 yzj)
def y13p : CCode :=
  (.seq (.region [
 kO 2 (.box (some 0) 0),
 kO 4 (.mv (ci 0))])
 yxn)
def y22m : CFunc :=
  ⟨2, true, 1, y13p, [.t 4]⟩
def y156 : CCode :=
  (.seq (.region [
 kO 4 (.mv (.c (.bool false)))])
 .ret)
def yzy : CCode :=
  (.region [
 kO 10 (.mv 5),
 kO 11 (.bin .add 10 (ci 1)),
 kO 5 (.mv 11)])
def yzf : CCode :=
  (.seq (.block 1 (.seq (.region [
 kO 12 (.mv 1),
 kO 13 (.mv 5),
 kO 14 (.ixs 1 12 13),
 kO 15 (.ld false 1 14),
 kO 16 (.mv 0),
 kO 17 (.bin .eql 15 16)])
 (.cond 17
 (.seq (.region [
  kO 4 (.mv (.c (.bool true)))])
  .ret)
 .skip)))
 yzy)
def y14a : CCode :=
  (.seq (.seq (.region [
 kO 6 (.mv 5),
 kO 7 (.mv 1),
 kO 8 (.len 1 7),
 kO 9 (.bin .lss 6 8)])
 (.cond 9
 .skip
 (.exit 0)))
 yzf)
def ygp : CCode :=
  (.loop [0, 1, 5] y14a)
def y13m : CCode :=
  (.block 0 ygp)
def ywi : CCode :=
  (.seq (.region [
 kO 5 (.mv (ci 0))])
 y13m)
def y0v : CCode :=
  (.seq ywi
 y156)
def yzg : CCode :=
  (.seq (.region [
 kO 4 (.mv (.c (.bool false)))])
 y0v)
def y217 : CFunc :=
  ⟨2, true, 0, yzg, [.t 4]⟩
def y14g : CCode :=
  (.seq (.region [
 kO 4 (.mv (.c (.bool true)))])
 .ret)
def yxx : CCode :=
  (.seq (.draw [
 kO 215 (.fa 2 3),
 kO 216 (.ld false 1 215),
 kO 217 (.bin .neq 216 (ci (-1))),
 kO 218 (.mv 217),
 kG 219 (.ld true 5 2) 218 true,
 kG 220 (.fa 2 3) 218 true,
 kG 221 (.ld false 1 220) 218 true,
 kG 222 (.call none true 48 [219, 221]) 218 true,
 kG 223 (.fa 2 2) 218 true,
 kG 224 (.ld false 1 223) 218 true,
 kG 225 (.bin .eql 222 224) 218 true,
 kO 226 (.pick 218 225 (.c (.bool false))),
 kO 4 (.mv 226)] [(7, 9)])
 .ret)
def ywj : CCode :=
  (.seq (.seq (.region [
 kO 209 (.fa 2 2),
 kO 210 (.ld false 1 209),
 kO 211 (.bin .eql 210 (ci 0))])
 (.cond 211
 (.seq (.region [
  kO 212 (.fa 2 3),
  kO 213 (.ld false 1 212),
  kO 214 (.bin .eql 213 (ci (-1))),
  kO 4 (.mv 214)])
  .ret)
 .skip))
 yxx)
def yvg : CCode :=
  (.cond 207
 ywj
 .skip)
def y14e : CCode :=
  (.seq (.region [
 kO 208 (.bin .eql 55 (ci 30)),
 kO 207 (.mv 208)])
 yvg)
def ywk : CCode :=
  (.cond 179
 (.seq (.region [
  kO 181 (.fa 5 3),
  kO 182 (.ld false 1 181),
  kO 183 (.bin .eql 182 (ci 0)),
  kO 184 (.mv 183),
  kG 185 (.fa 5 3) 184 false,
  kG 186 (.ld false 1 185) 184 false,
  kG 187 (.bin .eql 186 (ci 1)) 184 false,
  kO 188 (.pick 184 (.c (.bool true)) 187),
  kO 189 (.mv 188),
  kG 190 (.fa 3 3) 189 true,
  kG 191 (.ld false 1 190) 189 true,
  kG 192 (.bin .eql 191 (ci (-1))) 189 true,
  kG 193 (.mv 192) 189 true,
  kG 194 (.ld true 5 2) 193 false,
  kG 195 (.fa 3 3) 193 false,
  kG 196 (.ld false 1 195) 193 false,
  kG 197 (.call none true 48 [194, 196]) 193 false,
  kG 198 (.bin .eql 197 (ci 3)) 193 false,
  kG 199 (.pick 193 (.c (.bool true)) 198) 189 true,
  kO 200 (.pick 189 199 (.c (.bool false))),
  kO 201 (.mv 200),
  kG 202 (.ld true 5 2) 201 true,
  kG 203 (.fa 6 3) 201 true,
  kG 204 (.ld false 1 203) 201 true,
  kG 205 (.call none true 49 [202, 204]) 201 true,
  kO 206 (.pick 201 205 (.c (.bool false))),
  kO 4 (.mv 206)])
  .ret)
 y14e)
def y13z : CCode :=
  (.seq (.region [
 kO 180 (.bin .eql 55 (ci 29)),
 kO 179 (.mv 180)])
 ywk)
def yxk : CCode :=
  (.cond 173
 (.seq (.region [
  kO 175 (.ld true 5 2),
  kO 176 (.fa 6 3),
  kO 177 (.ld false 1 176),
  kO 178 (.call none true 49 [175, 177]),
  kO 4 (.mv 178)])
  .ret)
 y13z)
def y14d : CCode :=
  (.seq (.region [
 kO 174 (.bin .eql 55 (ci 27)),
 kO 173 (.mv 174)])
 yxk)
def yss : CCode :=
  (.cond 157
 (.seq (.region [
  kO 159 (.fa 5 3),
  kO 160 (.ld false 1 159),
  kO 161 (.bin .geq 160 (ci 0)),
  kO 162 (.mv 161),
  kG 163 (.fa 5 3) 162 true,
  kG 164 (.ld false 1 163) 162 true,
  kG 165 (.bin .leq 164 (ci 5)) 162 true,
  kO 166 (.pick 162 165 (.c (.bool false))),
  kO 167 (.mv 166),
  kG 168 (.ld true 5 2) 167 true,
  kG 169 (.fa 6 3) 167 true,
  kG 170 (.ld false 1 169) 167 true,
  kG 171 (.call none true 49 [168, 170]) 167 true,
  kO 172 (.pick 167 171 (.c (.bool false))),
  kO 4 (.mv 172)])
  .ret)
 y14d)
def ypm : CCode :=
  (.seq (.region [
 kO 158 (.bin .eql 55 (ci 28)),
 kO 157 (.mv 158)])
 yss)
def ysr : CCode :=
  (.cond 149
 (.seq (.region [
  kO 154 (.ld true 5 2),
  kO 155 (.ld true 9 3),
  kO 156 (.call none true 68 [154, 155]),
  kO 4 (.mv 156)])
  .ret)
 ypm)
def yrp : CCode :=
  (.seq (.seq (.region [
 kO 150 (.bin .eql 55 (ci 23)),
 kO 149 (.mv 150)])
 (.cond 149
 .skip
 (.seq (.region [
  kO 151 (.bin .eql 55 (ci 24)),
  kO 149 (.mv 151)])
  (.cond 149
  .skip
  (.seq (.region [
   kO 152 (.bin .eql 55 (ci 25)),
   kO 149 (.mv 152)])
   (.cond 149
   .skip
   (.region [
    kO 153 (.bin .eql 55 (ci 26)),
    kO 149 (.mv 153)])))))))
 ysr)
def ysn : CCode :=
  (.cond 143
 (.seq (.region [
  kO 146 (.fa 5 3),
  kO 147 (.ld false 1 146),
  kO 148 (.bin .geq 147 (ci 0)),
  kO 4 (.mv 148)])
  .ret)
 yrp)
def yrb : CCode :=
  (.seq (.seq (.region [
 kO 144 (.bin .eql 55 (ci 16)),
 kO 143 (.mv 144)])
 (.cond 143
 .skip
 (.region [
  kO 145 (.bin .eql 55 (ci 17)),
  kO 143 (.mv 145)])))
 ysn)
def ysk : CCode :=
  (.cond 136
 (.seq (.region [
  kO 140 (.fa 7 3),
  kO 141 (.ld false 1 140),
  kO 142 (.call none true 67 [141]),
  kO 4 (.mv 142)])
  .ret)
 yrb)
def yrx : CCode :=
  (.seq (.seq (.region [
 kO 137 (.bin .eql 55 (ci 12)),
 kO 136 (.mv 137)])
 (.cond 136
 .skip
 (.seq (.region [
  kO 138 (.bin .eql 55 (ci 21)),
  kO 136 (.mv 138)])
  (.cond 136
  .skip
  (.region [
   kO 139 (.bin .eql 55 (ci 22)),
   kO 136 (.mv 139)])))))
 ysk)
def yoa : CCode :=
  (.cond 112
 (.seq (.region [
  kO 114 (.mv 8),
  kO 115 (.bin .gtr 114 (ci 0)),
  kO 116 (.mv 115),
  kG 117 (.mv 9) 116 true,
  kG 118 (.bin .eql 117 (ci 0)) 116 true,
  kO 119 (.pick 116 118 (.c (.bool false))),
  kO 120 (.mv 119),
  kG 121 (.ld true 5 2) 120 true,
  kG 122 (.fa 1 3) 120 true,
  kG 123 (.ld false 1 122) 120 true,
  kG 124 (.call none true 48 [121, 123]) 120 true,
  kG 125 (.mv 10) 120 true,
  kG 126 (.bin .eql 124 125) 120 true,
  kO 127 (.pick 120 126 (.c (.bool false))),
  kO 128 (.mv 127),
  kG 129 (.ld true 5 2) 128 true,
  kG 130 (.fa 2 3) 128 true,
  kG 131 (.ld false 1 130) 128 true,
  kG 132 (.call none true 48 [129, 131]) 128 true,
  kG 133 (.mv 8) 128 true,
  kG 134 (.bin .eql 132 133) 128 true,
  kO 135 (.pick 128 134 (.c (.bool false))),
  kO 4 (.mv 135)])
  .ret)
 yrx)
def yq5 : CCode :=
  (.seq (.region [
 kO 113 (.bin .eql 55 (ci 6)),
 kO 112 (.mv 113)])
 yoa)
def yr6 : CCode :=
  (.cond 84
 (.seq (.region [
  kO 86 (.mv 9),
  kO 87 (.bin .gtr 86 (ci 0)),
  kO 88 (.mv 87),
  kG 89 (.ld true 5 2) 88 true,
  kG 90 (.fa 1 3) 88 true,
  kG 91 (.ld false 1 90) 88 true,
  kG 92 (.call none true 48 [89, 91]) 88 true,
  kG 93 (.mv 10) 88 true,
  kG 94 (.bin .eql 92 93) 88 true,
  kO 95 (.pick 88 94 (.c (.bool false))),
  kO 96 (.mv 95),
  kG 97 (.ld true 5 2) 96 true,
  kG 98 (.fa 2 3) 96 true,
  kG 99 (.ld false 1 98) 96 true,
  kG 100 (.call none true 48 [97, 99]) 96 true,
  kG 101 (.mv 8) 96 true,
  kG 102 (.bin .eql 100 101) 96 true,
  kO 103 (.pick 96 102 (.c (.bool false))),
  kO 104 (.mv 103),
  kG 105 (.ld true 5 2) 104 true,
  kG 106 (.fa 3 3) 104 true,
  kG 107 (.ld false 1 106) 104 true,
  kG 108 (.call none true 48 [105, 107]) 104 true,
  kG 109 (.mv 9) 104 true,
  kG 110 (.bin .eql 108 109) 104 true,
  kO 111 (.pick 104 110 (.c (.bool false))),
  kO 4 (.mv 111)])
  .ret)
 yq5)
def yse : CCode :=
  (.seq (.region [
 kO 85 (.bin .eql 55 (ci 5)),
 kO 84 (.mv 85)])
 yr6)
def yqp : CCode :=
  (.cond 73
 (.seq (.draw [
  kO 75 (.ld true 5 2),
  kO 76 (.fa 1 3),
  kO 77 (.ld false 1 76),
  kO 78 (.call none true 48 [75, 77]),
  kO 79 (.ld true 5 2),
  kO 80 (.fa 2 3),
  kO 81 (.ld false 1 80),
  kO 82 (.call none true 48 [79, 81]),
  kO 83 (.bin .eql 78 82),
  kO 4 (.mv 83)] [(3, 4), (3, 6)])
  .ret)
 yse)
def yqn : CCode :=
  (.seq (.region [
 kO 74 (.bin .eql 55 (ci 4)),
 kO 73 (.mv 74)])
 yqp)
def yrw : CCode :=
  (.cond 56
 (.seq (.region [
  kO 58 (.ld true 5 2),
  kO 59 (.fa 1 3),
  kO 60 (.ld false 1 59),
  kO 61 (.call none true 48 [58, 60]),
  kO 62 (.bin .eql 61 (ci 2)),
  kO 63 (.mv 62),
  kG 64 (.fa 5 3) 63 false,
  kG 65 (.ld false 1 64) 63 false,
  kG 66 (.bin .geq 65 (ci (-2147483648))) 63 false,
  kG 67 (.mv 66) 63 false,
  kG 68 (.fa 5 3) 67 true,
  kG 69 (.ld false 1 68) 67 true,
  kG 70 (.bin .lss 69 (ci 2147483648)) 67 true,
  kG 71 (.pick 67 70 (.c (.bool false))) 63 false,
  kO 72 (.pick 63 (.c (.bool true)) 71),
  kO 4 (.mv 72)])
  .ret)
 yqn)
def yqf : CCode :=
  (.seq (.region [
 kO 57 (.bin .eql 55 (ci 1)),
 kO 56 (.mv 57)])
 yrw)
def ys2 : CCode :=
  (.block 2 yqf)
def yq2 : CCode :=
  (.seq (.region [
 kO 54 (.fa 0 3),
 kO 55 (.ld false 1 54)])
 ys2)
def ypx : CCode :=
  (.seq yq2
 y14g)
def ysl : CCode :=
  (.seq (.seq (.region [
 kO 39 (.fa 5 3),
 kO 40 (.ld false 1 39),
 kO 41 (.bin .geq 40 (ci 0)),
 kO 42 (.mv 41),
 kG 43 (.fa 5 3) 42 true,
 kG 44 (.ld false 1 43) 42 true,
 kG 45 (.bin .lss 44 (ci 1000)) 42 true,
 kO 46 (.pick 42 45 (.c (.bool false)))])
 (.cond 46
 (.region [
  kO 48 (.fa 5 3),
  kO 49 (.ld false 1 48),
  kO 50 (.call none true 66 [49]),
  kO 47 (.mv 50),
  kO 51 (.ext 0 47),
  kO 52 (.ext 1 47),
  kO 53 (.ext 2 47),
  kO 8 (.mv 51),
  kO 9 (.mv 52),
  kO 10 (.mv 53)])
 .skip))
 ypx)
def yok : CCode :=
  (.seq (.region [
 kO 8 (.mv (ci 0)),
 kO 9 (.mv (ci 0)),
 kO 10 (.mv (ci 0))])
 ysl)
def yoo : CCode :=
  (.region [
 kO 27 (.mv 7),
 kO 28 (.bin .add 27 (ci 1)),
 kO 7 (.mv 28)])
def yp5 : CCode :=
  (.seq (.block 1 (.seq (.draw [
 kO 29 (.ld true 5 2),
 kO 30 (.mv 6),
 kO 31 (.mv 7),
 kO 32 (.ixs 1 30 31),
 kO 33 (.ld false 1 32),
 kO 34 (.mv 5),
 kO 35 (.mv 7),
 kO 36 (.ixstr 34 35),
 kO 37 (.call none true 65 [29, 33, 36]),
 kO 38 (.un .not 37)] [])
 (.cond 38
 (.seq (.region [
  kO 4 (.mv (.c (.bool false)))])
  .ret)
 .skip)))
 yoo)
def yq6 : CCode :=
  (.seq (.seq (.region [
 kO 25 (.mv 7),
 kO 26 (.bin .lss 25 (ci 4))])
 (.cond 26
 .skip
 (.exit 0)))
 yp5)
def yes : CCode :=
  (.loop [2, 3, 5, 6, 7] yq6)
def ys1 : CCode :=
  (.block 0 yes)
def yre : CCode :=
  (.seq (.region [
 kO 7 (.mv (ci 0))])
 ys1)
def ypo : CCode :=
  (.seq yre
 yok)
def yrc : CCode :=
  (.seq (.region [
 kO 16 (.fa 1 3),
 kO 17 (.ld false 1 16),
 kO 18 (.fa 2 3),
 kO 19 (.ld false 1 18),
 kO 20 (.fa 3 3),
 kO 21 (.ld false 1 20),
 kO 22 (.fa 4 3),
 kO 23 (.ld false 1 22),
 kO 24 (.buildS (some 2) 1 4 [(.int .i64 0)] [(0, 17), (1, 19), (2, 21), (3, 23)]),
 kO 6 (.mv 24)])
 ypo)
def ypn : CCode :=
  (.seq (.seq (.region [
 kO 14 (.mv 5),
 kO 15 (.bin .eql 14 (.c (.str [])))])
 (.cond 15
 (.seq (.region [
  kO 4 (.mv (.c (.bool false)))])
  .ret)
 .skip))
 yrc)
def yr8 : CCode :=
  (.seq (.region [
 kO 11 (.fa 0 3),
 kO 12 (.ld false 1 11),
 kO 13 (.call none true 38 [12]),
 kO 5 (.mv 13)])
 ypn)
def yo7 : CCode :=
  (.seq (.region [
 kO 2 (.box (some 0) 0),
 kO 3 (.box (some 1) 1),
 kO 4 (.mv (.c (.bool false)))])
 yr8)
def y235 : CFunc :=
  ⟨2, true, 3, yo7, [.t 4]⟩
def y0o : CCode :=
  (.seq (.region [
 kO 2 (.mv (.c (.bool false)))])
 (.seq (.region [
 kO 3 (.mv 0),
 kO 4 (.buildS (some 0) 1 3 [(.int .i64 0)] [(0, (ci 27)), (1, (ci 28)), (2, (ci 29))]),
 kO 5 (.call none true 42 [3, 4]),
 kO 2 (.mv 5)])
 .ret))
def y22j : CFunc :=
  ⟨1, true, 1, y0o, [.t 2]⟩
def ywf : CCode :=
  (.seq (.region [
 kO 2 (.box (some 0) 0),
 kO 4 (.mv (.c (.bool false)))])
 (.seq (.region [
 kO 5 (.mv 1),
 kO 6 (.bin .geq 5 (ci 0)),
 kO 7 (.mv 6),
 kG 8 (.mv 1) 7 true,
 kG 9 (.fa 3 2) 7 true,
 kG 10 (.ld false 1 9) 7 true,
 kG 11 (.len 1 10) 7 true,
 kG 12 (.bin .lss 8 11) 7 true,
 kO 13 (.pick 7 12 (.c (.bool false))),
 kO 4 (.mv 13)])
 .ret))
def y22y : CFunc :=
  ⟨2, true, 1, ywf, [.t 4]⟩
def y0k : CCode :=
  (.seq (.region [
 kO 47 (.mv 7),
 kO 4 (.mv 47)])
 .ret)
def y11d : CCode :=
  (.block 1 (.draw [
 kO 38 (.mv 8),
 kO 39 (.mv 7),
 kO 40 (.mv 8),
 kO 41 (.slc 1 39 (some 40) none),
 kO 42 (.mv 7),
 kO 43 (.mv 8),
 kO 44 (.slc 1 42 none (some 43)),
 kO 45 (.cpy 1 41 44),
 kO 46 (.bin .add 38 45),
 kO 8 (.mv 46)] []))
def yvl : CCode :=
  (.seq (.seq (.region [
 kO 34 (.mv 8),
 kO 35 (.mv 7),
 kO 36 (.len 1 35),
 kO 37 (.bin .lss 34 36)])
 (.cond 37
 .skip
 (.exit 0)))
 y11d)
def yil : CCode :=
  (.loop [7, 8] yvl)
def y0t : CCode :=
  (.block 0 yil)
def y12h : CCode :=
  (.seq y0t
 y0k)
def yxr : CCode :=
  (.seq (.region [
 kO 31 (.mv 7),
 kO 32 (.mv 0),
 kO 33 (.cpy 1 31 32),
 kO 8 (.mv 33)])
 y12h)
def yvk : CCode :=
  (.seq (.region [
 kO 28 (.mv 6),
 kO 29 (.cvi .i64 28),
 kO 30 (.mkS (some 0) 1 8 [(.int .i64 0)] 29 29),
 kO 7 (.mv 30)])
 yxr)
def yxv : CCode :=
  (.seq (.seq (.region [
 kO 21 (.mv 5),
 kO 22 (.bin .gtr 21 (.c (.int .u64 0))),
 kO 23 (.mv 22),
 kG 24 (.mv 6) 23 false,
 kG 25 (.bin .gtr 24 (.c (.int .u64 9223372036854775807))) 23 false,
 kO 26 (.pick 23 (.c (.bool true)) 25)])
 (.cond 26
 .bad
 .skip))
 yvk)
def yrm : CCode :=
  (.seq (.region [
 kO 13 (.mv 0),
 kO 14 (.len 1 13),
 kO 15 (.cvi .u64 14),
 kO 16 (.mv 1),
 kO 17 (.cvi .u64 16),
 kO 18 (.call none true 157 [15, 17]),
 kO 12 (.mv 18),
 kO 19 (.ext 0 12),
 kO 20 (.ext 1 12),
 kO 5 (.mv 19),
 kO 6 (.mv 20)])
 yxv)
def yry : CCode :=
  (.seq (.seq (.region [
 kO 9 (.mv 1),
 kO 10 (.bin .lss 9 (ci 0))])
 (.cond 10
 .bad
 .skip))
 yrm)
def yrh : CCode :=
  (.seq (.region [
 kO 4 (.mv (.c .nils))])
 yry)
def y22e : CFunc :=
  ⟨2, true, 1, yrh, [.t 4]⟩
def y21h : CCode :=
  (.seq (.region [
 kO 30 (.ld false 1 2),
 kO 31 (.mv 0),
 kO 32 (.mv 6),
 kO 33 (.ixs 1 30 31),
 kU (.st 1 33 32)])
 (.region [
 kO 34 (.ld false 1 3),
 kO 35 (.mv 0),
 kO 36 (.buildS (some 0) 1 1 [(.int .i64 0)] [(0, 35)]),
 kO 37 (.app (some 1) 1 8 34 36),
 kU (.st 1 3 37)]))
def y22s : CCode :=
  (.seq (.seq (.region [
 kO 13 (.mv 0),
 kO 14 (.bin .eql 13 (ci 0)),
 kO 15 (.mv 14),
 kG 16 (.ld false 1 2) 15 false,
 kG 17 (.mv 0) 15 false,
 kG 18 (.ixs 1 16 17) 15 false,
 kG 19 (.ld false 1 18) 15 false,
 kG 20 (.eqn 1 true 19 (.c .nils)) 15 false,
 kG 21 (.mv 20) 15 false,
 kG 22 (.mv 6) 21 true,
 kG 23 (.ld false 1 2) 21 true,
 kG 24 (.mv 0) 21 true,
 kG 25 (.ixs 1 23 24) 21 true,
 kG 26 (.ld false 1 25) 21 true,
 kG 27 (.call none true 156 [22, 26]) 21 true,
 kG 28 (.pick 21 27 (.c (.bool false))) 15 false,
 kO 29 (.pick 15 (.c (.bool true)) 28)])
 (.cond 29
 .ret
 .skip))
 y21h)
def y20t : CCode :=
  (.seq (.region [
 kO 7 (.ld false 1 2),
 kO 8 (.mv 0),
 kO 9 (.ixs 1 7 8),
 kO 10 (.ld false 1 9),
 kO 11 (.mv 1),
 kO 12 (.call none true 155 [10, 11]),
 kO 6 (.mv 12)])
 y22s)
def c_q2 : CFunc :=
  ⟨4, false, 2, y20t, []⟩
def y22a : CCode :=
  (.seq (.region [
 kO 31 (.mv 5),
 kO 4 (.mv 31)])
 .ret)
def y20z : CCode :=
  (.region [
 kO 30 (.bin .add 15 (ci 1)),
 kO 15 (.mv 30)])
def y20s : CCode :=
  (.seq (.block 1 (.seq (.region [
 kO 17 (.mv 15),
 kO 6 (.mv 17)])
 (.seq (.draw [
 kO 18 (.mv 5),
 kO 19 (.mv 6),
 kO 20 (.ixs 1 18 19),
 kO 21 (.ld false 1 20),
 kO 22 (.mv 1),
 kO 23 (.mv 6),
 kO 24 (.ixs 1 22 23),
 kO 25 (.ld false 1 24),
 kO 26 (.bin .neq 21 25)] [])
 (.cond 26
 (.region [
  kO 27 (.mv 5),
  kO 28 (.mv 6),
  kO 29 (.ixs 1 27 28),
  kU (.st 1 29 (ci (-1)))])
 .skip))))
 y20z)
def y218 : CCode :=
  (.seq (.cond 16
 .skip
 (.exit 0))
 y20s)
def y21z : CCode :=
  (.seq (.region [
 kO 16 (.bin .lss 15 14)])
 y218)
def yuk : CCode :=
  (.loop [1, 5, 14, 15] y21z)
def y21q : CCode :=
  (.block 0 yuk)
def y22k : CCode :=
  (.seq (.region [
 kO 13 (.mv 5),
 kO 14 (.len 1 13),
 kO 15 (.mv (ci 0))])
 y21q)
def y230 : CCode :=
  (.seq y22k
 y22a)
def y1ki : CCode :=
  (.seq (.region [
 kO 11 (.mv 0),
 kO 12 (.call (some 1) false 153 [11]),
 kO 5 (.mv 12)])
 y230)
def y1kd : CCode :=
  (.seq (.seq (.region [
 kO 7 (.mv 0),
 kO 8 (.eqn 1 false 7 (.c .nils))])
 (.cond 8
 (.seq (.region [
  kO 9 (.mv 1),
  kO 10 (.call (some 0) false 153 [9]),
  kO 4 (.mv 10)])
  .ret)
 .skip))
 y1ki)
def y1lm : CCode :=
  (.seq (.region [
 kO 4 (.mv (.c .nils))])
 y1kd)
def c_q5 : CFunc :=
  ⟨2, true, 2, y1lm, [.t 4]⟩
def yzk : CCode :=
  (.seq (.region [
 kO 4 (.mv (.c (.bool true)))])
 .ret)
def y12b : CCode :=
  (.region [
 kO 25 (.bin .add 13 (ci 1)),
 kO 13 (.mv 25)])
def yz2 : CCode :=
  (.seq (.block 1 (.seq (.region [
 kO 15 (.mv 13),
 kO 5 (.mv 15)])
 (.seq (.draw [
 kO 16 (.mv 0),
 kO 17 (.mv 5),
 kO 18 (.ixs 1 16 17),
 kO 19 (.ld false 1 18),
 kO 20 (.mv 1),
 kO 21 (.mv 5),
 kO 22 (.ixs 1 20 21),
 kO 23 (.ld false 1 22),
 kO 24 (.bin .neq 19 23)] [])
 (.cond 24
 (.seq (.region [
  kO 4 (.mv (.c (.bool false)))])
  .ret)
 .skip))))
 y12b)
def ywn : CCode :=
  (.seq (.cond 14
 .skip
 (.exit 0))
 yz2)
def ywt : CCode :=
  (.seq (.region [
 kO 14 (.bin .lss 13 12)])
 ywn)
def yhv : CCode :=
  (.loop [0, 1, 12, 13] ywt)
def y14u : CCode :=
  (.block 0 yhv)
def y11j : CCode :=
  (.seq (.region [
 kO 11 (.mv 0),
 kO 12 (.len 1 11),
 kO 13 (.mv (ci 0))])
 y14u)
def y113 : CCode :=
  (.seq y11j
 yzk)
def yrf : CCode :=
  (.seq (.seq (.region [
 kO 6 (.mv 0),
 kO 7 (.len 1 6),
 kO 8 (.mv 1),
 kO 9 (.len 1 8),
 kO 10 (.bin .neq 7 9)])
 (.cond 10
 (.seq (.region [
  kO 4 (.mv (.c (.bool false)))])
  .ret)
 .skip))
 y113)
def yoy : CCode :=
  (.seq (.region [
 kO 4 (.mv (.c (.bool false)))])
 yrf)
def y21r : CFunc :=
  ⟨2, true, 0, yoy, [.t 4]⟩
def y22t : CCode :=
  (.seq (.region [
 kO 60 (.mv 0),
 kO 61 (.mv 5),
 kO 62 (.call none false 154 [60, 61])])
 (.seq (.region [
 kO 63 (.mv 0),
 kO 64 (.mv 5),
 kO 65 (.mv 6),
 kO 66 (.ixs 1 63 64),
 kU (.st 1 66 65)])
 (.seq (.region [
 kO 67 (.mv 0),
 kO 4 (.mv 67)])
 .ret)))
def y224 : CCode :=
  (.seq (.seq (.region [
 kO 25 (.fa 0 3),
 kO 26 (.ld false 1 25),
 kO 27 (.bin .eql 26 (ci 4)),
 kO 28 (.mv 27),
 kG 29 (.fa 2 3) 28 true,
 kG 30 (.ld false 1 29) 28 true,
 kG 31 (.mv 5) 28 true,
 kG 32 (.bin .neq 30 31) 28 true,
 kO 33 (.pick 28 32 (.c (.bool false)))])
 (.cond 33
 (.seq (.region [
  kO 34 (.fa 2 3),
  kO 35 (.ld false 1 34),
  kO 6 (.mv 35)])
  (.seq (.region [
  kO 36 (.mv 0),
  kO 37 (.mv 6),
  kO 38 (.ixs 1 36 37),
  kO 39 (.ld false 1 38),
  kO 40 (.bin .geq 39 (ci 0)),
  kO 41 (.mv 40),
  kG 42 (.mv 0) 41 true,
  kG 43 (.mv 6) 41 true,
  kG 44 (.ixs 1 42 43) 41 true,
  kG 45 (.ld false 1 44) 41 true,
  kG 46 (.mv 5) 41 true,
  kG 47 (.bin .neq 45 46) 41 true,
  kO 48 (.pick 41 47 (.c (.bool false)))])
  (.cond 48
  (.region [
   kO 49 (.mv 0),
   kO 50 (.mv 6),
   kO 51 (.ixs 1 49 50),
   kO 52 (.ld false 1 51),
   kO 6 (.mv 52)])
  (.seq (.region [
   kO 53 (.mv 0),
   kO 54 (.mv 6),
   kO 55 (.ixs 1 53 54),
   kO 56 (.ld false 1 55),
   kO 57 (.mv 5),
   kO 58 (.bin .eql 56 57)])
   (.cond 58
   (.seq (.region [
    kO 59 (.mv 0),
    kO 4 (.mv 59)])
    .ret)
   .skip)))))
 .skip))
 y22t)
def y22z : CCode :=
  (.seq (.region [
 kO 6 (.mv (ci (-1)))])
 y224)
def y212 : CCode :=
  (.seq (.seq (.region [
 kO 11 (.mv 5),
 kO 12 (.bin .lss 11 (ci 0)),
 kO 13 (.mv 12),
 kG 14 (.fa 0 3) 13 false,
 kG 15 (.ld false 1 14) 13 false,
 kG 16 (.bin .eql 15 (ci 4)) 13 false,
 kG 17 (.mv 16) 13 false,
 kG 18 (.fa 2 3) 17 true,
 kG 19 (.ld false 1 18) 17 true,
 kG 20 (.mv 5) 17 true,
 kG 21 (.bin .eql 19 20) 17 true,
 kG 22 (.pick 17 21 (.c (.bool false))) 13 false,
 kO 23 (.pick 13 (.c (.bool true)) 22)])
 (.cond 23
 (.seq (.region [
  kO 24 (.mv 0),
  kO 4 (.mv 24)])
  .ret)
 .skip))
 y22z)
def y223 : CCode :=
  (.seq (.region [
 kO 9 (.ld true 9 3),
 kO 10 (.call none true 9 [9]),
 kO 5 (.mv 10)])
 y212)
def y238 : CCode :=
  (.seq (.region [
 kO 7 (.mv 0),
 kO 8 (.call (some 1) false 153 [7]),
 kO 0 (.mv 8)])
 y223)
def y22b : CCode :=
  (.seq (.region [
 kO 3 (.box (some 0) 1),
 kO 4 (.mv (.c .nils))])
 y238)
def c_q3 : CFunc :=
  ⟨2, true, 2, y22b, [.t 4]⟩
def y1l5 : CCode :=
  (.seq (.region [
 kO 38 (.ld true 9 2),
 kU (.st 9 4 38)])
 .ret)
def y192 : CCode :=
  (.seq (.seq (.region [
 kO 32 (.mv 5),
 kO 33 (.bin .gtr 32 (ci 2))])
 (.cond 33
 (.region [
  kO 34 (.mv 1),
  kO 35 (.ixs 1 34 (ci 2)),
  kO 36 (.ld false 1 35),
  kO 37 (.fa 4 2),
  kU (.st 1 37 36)])
 .skip))
 y1l5)
def y1f4 : CCode :=
  (.seq (.seq (.region [
 kO 26 (.mv 5),
 kO 27 (.bin .gtr 26 (ci 1))])
 (.cond 27
 (.region [
  kO 28 (.mv 1),
  kO 29 (.ixs 1 28 (ci 1)),
  kO 30 (.ld false 1 29),
  kO 31 (.fa 3 2),
  kU (.st 1 31 30)])
 .skip))
 y192)
def y193 : CCode :=
  (.seq (.seq (.region [
 kO 20 (.mv 5),
 kO 21 (.bin .gtr 20 (ci 0))])
 (.cond 21
 (.region [
  kO 22 (.mv 1),
  kO 23 (.ixs 1 22 (ci 0)),
  kO 24 (.ld false 1 23),
  kO 25 (.fa 2 2),
  kU (.st 1 25 24)])
 .skip))
 y1f4)
def y1f6 : CCode :=
  (.seq (.seq (.region [
 kO 14 (.ld true 9 2),
 kO 15 (.call none true 17 [14])])
 (.cond 15
 (.seq (.region [
  kO 16 (.mv 1),
  kO 17 (.call (some 2) false 39 [16]),
  kO 18 (.fa 8 2),
  kU (.st 1 18 17)])
  (.seq (.region [
  kO 19 (.ld true 9 2),
  kU (.st 9 4 19)])
  .ret))
 .skip))
 y193)
def y1b9 : CCode :=
  (.seq (.seq (.region [
 kO 9 (.mv 5),
 kO 10 (.mv 1),
 kO 11 (.len 1 10),
 kO 12 (.bin .neq 9 11)])
 (.cond 12
 (.seq (.region [
  kO 13 (.ld true 9 2),
  kU (.st 9 4 13)])
  .ret)
 .skip))
 y1f6)
def y19d : CCode :=
  (.seq (.region [
 kO 6 (.ld true 9 2),
 kO 7 (.call none true 10 [6]),
 kO 8 (.len 1 7),
 kO 5 (.mv 8)])
 y1b9)
def y1pl : CCode :=
  (.seq (.region [
 kO 2 (.box (some 0) 0),
 kO 4 (.new (some 1) [(.int .i64 0), (.int .i64 0), (.int .i64 0), (.int .i64 0), (.int .i64 0), (.int .i64 0), (.int .i64 0), (.str []), .nils])])
 y19d)
def y2es : CFunc :=
  ⟨2, true, 3, y1pl, [.cell 4 true 9]⟩
def y1ni : CCode :=
  (.seq (.region [
 kO 1 (.box (some 0) 0),
 kO 2 (.mv (.c (.bool false)))])
 (.seq (.region [
 kO 3 (.fa 0 1),
 kO 4 (.ld false 1 3),
 kO 5 (.bin .geq 4 (ci 23)),
 kO 6 (.mv 5),
 kG 7 (.fa 0 1) 6 true,
 kG 8 (.ld false 1 7) 6 true,
 kG 9 (.bin .leq 8 (ci 26)) 6 true,
 kO 10 (.pick 6 9 (.c (.bool false))),
 kO 2 (.mv 10)])
 .ret))
def y2dk : CFunc :=
  ⟨1, true, 1, y1ni, [.t 2]⟩
def y111 : CCode :=
  (.seq (.region [
 kO 4 (.mv (ci (-1)))])
 .ret)
def y14n : CCode :=
  (.region [
 kO 18 (.bin .add 8 (ci 1)),
 kO 8 (.mv 18)])
def y12k : CCode :=
  (.seq (.block 1 (.seq (.region [
 kO 10 (.mv 8),
 kO 5 (.mv 10)])
 (.seq (.region [
 kO 11 (.mv 1),
 kO 12 (.mv 0),
 kO 13 (.mv 5),
 kO 14 (.ixs 1 12 13),
 kO 15 (.ld false 1 14),
 kO 16 (.bin .eql 11 15)])
 (.cond 16
 (.seq (.region [
  kO 17 (.mv 5),
  kO 4 (.mv 17)])
  .ret)
 .skip))))
 y14n)
def yxh : CCode :=
  (.seq (.cond 9
 .skip
 (.exit 0))
 y12k)
def y11r : CCode :=
  (.seq (.region [
 kO 9 (.bin .lss 8 7)])
 yxh)
def yia : CCode :=
  (.loop [0, 1, 7, 8] y11r)
def y112 : CCode :=
  (.block 0 yia)
def yxt : CCode :=
  (.seq (.region [
 kO 6 (.mv 0),
 kO 7 (.len 1 6),
 kO 8 (.mv (ci 0))])
 y112)
def y13l : CCode :=
  (.seq yxt
 y111)
def ys9 : CCode :=
  (.seq (.region [
 kO 4 (.mv (ci 0))])
 y13l)
def y22h : CFunc :=
  ⟨2, true, 0, ys9, [.t 4]⟩
def y1fe : CCode :=
  (.seq (.region [
 kO 138 (.ld true 9 1),
 kO 139 (.call none true 51 [138]),
 kO 140 (.ext 0 139),
 kO 141 (.ext 1 139),
 kU (.st 4 2 140),
 kO 3 (.mv 141)])
 .ret)
def y1jp : CCode :=
  (.cond 134
 (.seq (.region [
  kO 137 (.build [(.int .i64 0), (.int .i64 0), (.int .i64 0), (.int .i64 0)] [(0, 1, (ci (-1))), (1, 1, (ci (-1))), (2, 1, (ci (-1))), (3, 1, (ci (-1)))]),
  kU (.st 4 2 137),
  kO 3 (.mv (.c (.bool true)))])
  .ret)
 .skip)
def y1h0 : CCode :=
  (.seq (.seq (.region [
 kO 135 (.bin .eql 11 (ci 27)),
 kO 134 (.mv 135)])
 (.cond 134
 .skip
 (.region [
  kO 136 (.bin .eql 11 (ci 33)),
  kO 134 (.mv 136)])))
 y1jp)
def y1cl : CCode :=
  (.cond 123
 (.seq (.draw [
  kO 125 (.build [(.int .i64 0), (.int .i64 0), (.int .i64 0), (.int .i64 0)] [(0, 1, (ci (-1))), (1, 1, (ci 1)), (2, 1, (ci 1)), (3, 1, (ci (-1)))]),
  kO 126 (.fa 5 1),
  kO 127 (.ld false 1 126),
  kO 128 (.bin .geq 127 (ci 0)),
  kO 129 (.mv 128),
  kG 130 (.fa 5 1) 129 true,
  kG 131 (.ld false 1 130) 129 true,
  kG 132 (.bin .leq 131 (ci 5)) 129 true,
  kO 133 (.pick 129 132 (.c (.bool false))),
  kU (.st 4 2 125),
  kO 3 (.mv 133)] [(6, 9)])
  .ret)
 y1h0)
def y1ev : CCode :=
  (.seq (.region [
 kO 124 (.bin .eql 11 (ci 28)),
 kO 123 (.mv 124)])
 y1cl)
def y1cs : CCode :=
  (.cond 117
 (.seq (.region [
  kO 119 (.build [(.int .i64 0), (.int .i64 0), (.int .i64 0), (.int .i64 0)] [(0, 1, (ci 3)), (1, 1, (ci 1)), (2, 1, (ci (-1))), (3, 1, (ci (-1)))]),
  kO 120 (.fa 7 1),
  kO 121 (.ld false 1 120),
  kO 122 (.call none true 37 [121]),
  kU (.st 4 2 119),
  kO 3 (.mv 122)])
  .ret)
 y1ev)
def y1qw : CCode :=
  (.seq (.region [
 kO 118 (.bin .eql 11 (ci 21)),
 kO 117 (.mv 118)])
 y1cs)
def y1kz : CCode :=
  (.cond 114
 (.seq (.region [
  kO 116 (.build [(.int .i64 0), (.int .i64 0), (.int .i64 0), (.int .i64 0)] [(0, 1, (ci (-1))), (1, 1, (ci 0)), (2, 1, (ci (-1))), (3, 1, (ci (-1)))]),
  kU (.st 4 2 116),
  kO 3 (.mv (.c (.bool true)))])
  .ret)
 y1qw)
def y1d9 : CCode :=
  (.seq (.region [
 kO 115 (.bin .eql 11 (ci 19)),
 kO 114 (.mv 115)])
 y1kz)
def yym : CCode :=
  (.cond 108
 (.seq (.draw [
  kO 110 (.build [(.int .i64 0), (.int .i64 0), (.int .i64 0), (.int .i64 0)] [(0, 1, (ci (-1))), (1, 1, (ci 3)), (2, 1, (ci 0)), (3, 1, (ci (-1)))]),
  kO 111 (.fa 5 1),
  kO 112 (.ld false 1 111),
  kO 113 (.bin .geq 112 (ci 0)),
  kU (.st 4 2 110),
  kO 3 (.mv 113)] [(2, 4)])
  .ret)
 y1d9)
def y128 : CCode :=
  (.seq (.region [
 kO 109 (.bin .eql 11 (ci 17)),
 kO 108 (.mv 109)])
 yym)
def yyz : CCode :=
  (.cond 102
 (.seq (.draw [
  kO 104 (.build [(.int .i64 0), (.int .i64 0), (.int .i64 0), (.int .i64 0)] [(0, 1, (ci 0)), (1, 1, (ci 3)), (2, 1, (ci (-1))), (3, 1, (ci (-1)))]),
  kO 105 (.fa 5 1),
  kO 106 (.ld false 1 105),
  kO 107 (.bin .geq 106 (ci 0)),
  kU (.st 4 2 104),
  kO 3 (.mv 107)] [(2, 4)])
  .ret)
 y128)
def y14c : CCode :=
  (.seq (.region [
 kO 103 (.bin .eql 11 (ci 16)),
 kO 102 (.mv 103)])
 yyz)
def y12i : CCode :=
  (.cond 99
 (.seq (.region [
  kO 101 (.build [(.int .i64 0), (.int .i64 0), (.int .i64 0), (.int .i64 0)] [(0, 1, (ci 1)), (1, 1, (ci 3)), (2, 1, (ci (-1))), (3, 1, (ci (-1)))]),
  kU (.st 4 2 101),
  kO 3 (.mv (.c (.bool true)))])
  .ret)
 y14c)
def y06 : CCode :=
  (.seq (.region [
 kO 100 (.bin .eql 11 (ci 15)),
 kO 99 (.mv 100)])
 y12i)
def yxq : CCode :=
  (.cond 96
 (.seq (.region [
  kO 98 (.build [(.int .i64 0), (.int .i64 0), (.int .i64 0), (.int .i64 0)] [(0, 1, (ci (-1))), (1, 1, (ci 3)), (2, 1, (ci 1)), (3, 1, (ci 0))]),
  kU (.st 4 2 98),
  kO 3 (.mv (.c (.bool true)))])
  .ret)
 y06)
def y13c : CCode :=
  (.seq (.region [
 kO 97 (.bin .eql 11 (ci 14)),
 kO 96 (.mv 97)])
 yxq)
def yy6 : CCode :=
  (.cond 93
 (.seq (.region [
  kO 95 (.build [(.int .i64 0), (.int .i64 0), (.int .i64 0), (.int .i64 0)] [(0, 1, (ci 0)), (1, 1, (ci 3)), (2, 1, (ci 1)), (3, 1, (ci (-1)))]),
  kU (.st 4 2 95),
  kO 3 (.mv (.c (.bool true)))])
  .ret)
 y13c)
def y152 : CCode :=
  (.seq (.region [
 kO 94 (.bin .eql 11 (ci 13)),
 kO 93 (.mv 94)])
 yy6)
def y13q : CCode :=
  (.cond 90
 (.seq (.region [
  kO 92 (.build [(.int .i64 0), (.int .i64 0), (.int .i64 0), (.int .i64 0)] [(0, 1, (ci (-1))), (1, 1, (ci 3)), (2, 1, (ci 3)), (3, 1, (ci (-1)))]),
  kU (.st 4 2 92),
  kO 3 (.mv (.c (.bool true)))])
  .ret)
 y152)
def y13a : CCode :=
  (.seq (.region [
 kO 91 (.bin .eql 11 (ci 11)),
 kO 90 (.mv 91)])
 y13q)
def y0b : CCode :=
  (.cond 87
 (.seq (.region [
  kO 89 (.build [(.int .i64 0), (.int .i64 0), (.int .i64 0), (.int .i64 0)] [(0, 1, (ci (-1))), (1, 1, (ci 1)), (2, 1, (ci (-1))), (3, 1, (ci (-1)))]),
  kU (.st 4 2 89),
  kO 3 (.mv (.c (.bool true)))])
  .ret)
 y13a)
def y13h : CCode :=
  (.seq (.region [
 kO 88 (.bin .eql 11 (ci 10)),
 kO 87 (.mv 88)])
 y0b)
def ywp : CCode :=
  (.cond 84
 (.seq (.region [
  kO 86 (.build [(.int .i64 0), (.int .i64 0), (.int .i64 0), (.int .i64 0)] [(0, 1, (ci (-1))), (1, 1, (ci 3)), (2, 1, (ci 1)), (3, 1, (ci (-1)))]),
  kU (.st 4 2 86),
  kO 3 (.mv (.c (.bool true)))])
  .ret)
 y13h)
def yy9 : CCode :=
  (.seq (.region [
 kO 85 (.bin .eql 11 (ci 9)),
 kO 84 (.mv 85)])
 ywp)
def y13e : CCode :=
  (.cond 78
 (.seq (.region [
  kO 80 (.build [(.int .i64 0), (.int .i64 0), (.int .i64 0), (.int .i64 0)] [(0, 1, (ci 1)), (1, 1, (ci 3)), (2, 1, (ci (-1))), (3, 1, (ci (-1)))]),
  kO 81 (.fa 7 1),
  kO 82 (.ld false 1 81),
  kO 83 (.call none true 37 [82]),
  kU (.st 4 2 80),
  kO 3 (.mv 83)])
  .ret)
 yy9)
def y11z : CCode :=
  (.seq (.region [
 kO 79 (.bin .eql 11 (ci 22)),
 kO 78 (.mv 79)])
 y13e)
def yvs : CCode :=
  (.cond 72
 (.seq (.region [
  kO 74 (.build [(.int .i64 0), (.int .i64 0), (.int .i64 0), (.int .i64 0)] [(0, 1, (ci (-1))), (1, 1, (ci 3)), (2, 1, (ci (-1))), (3, 1, (ci (-1)))]),
  kO 75 (.fa 7 1),
  kO 76 (.ld false 1 75),
  kO 77 (.call none true 37 [76]),
  kU (.st 4 2 74),
  kO 3 (.mv 77)])
  .ret)
 y11z)
def y11k : CCode :=
  (.seq (.region [
 kO 73 (.bin .eql 11 (ci 12)),
 kO 72 (.mv 73)])
 yvs)
def y12z : CCode :=
  (.cond 68
 (.seq (.region [
  kO 71 (.build [(.int .i64 0), (.int .i64 0), (.int .i64 0), (.int .i64 0)] [(0, 1, (ci (-1))), (1, 1, (ci 3)), (2, 1, (ci (-1))), (3, 1, (ci (-1)))]),
  kU (.st 4 2 71),
  kO 3 (.mv (.c (.bool true)))])
  .ret)
 y11k)
def y15d : CCode :=
  (.seq (.seq (.region [
 kO 69 (.bin .eql 11 (ci 8)),
 kO 68 (.mv 69)])
 (.cond 68
 .skip
 (.region [
  kO 70 (.bin .eql 11 (ci 31)),
  kO 68 (.mv 70)])))
 y12z)
def y03 : CCode :=
  (.cond 65
 (.seq (.region [
  kO 67 (.build [(.int .i64 0), (.int .i64 0), (.int .i64 0), (.int .i64 0)] [(0, 1, (ci (-1))), (1, 1, (ci 0)), (2, 1, (ci (-1))), (3, 1, (ci (-1)))]),
  kU (.st 4 2 67),
  kO 3 (.mv (.c (.bool true)))])
  .ret)
 y15d)
def y14k : CCode :=
  (.seq (.region [
 kO 66 (.bin .eql 11 (ci 7)),
 kO 65 (.mv 66)])
 y03)
def y02 : CCode :=
  (.cond 47
 (.seq (.region [
  kO 50 (.fa 5 1),
  kO 51 (.ld false 1 50),
  kO 52 (.call none true 50 [51]),
  kO 49 (.mv 52),
  kO 53 (.ext 0 49),
  kO 54 (.ext 1 49),
  kO 55 (.ext 2 49),
  kO 7 (.mv 53),
  kO 8 (.mv 54),
  kO 9 (.mv 55)])
  (.seq (.region [
  kO 56 (.mv 9),
  kO 57 (.mv 7),
  kO 58 (.build [(.int .i64 0), (.int .i64 0), (.int .i64 0), (.int .i64 0)] [(0, 1, 56), (1, 1, 57), (2, 1, (ci (-1))), (3, 1, (ci (-1)))]),
  kO 59 (.mv 7),
  kO 60 (.bin .neq 59 (ci 0)),
  kO 61 (.mv 60),
  kG 62 (.mv 8) 61 true,
  kG 63 (.bin .eql 62 (ci 0)) 61 true,
  kO 64 (.pick 61 63 (.c (.bool false))),
  kU (.st 4 2 58),
  kO 3 (.mv 64)])
  .ret))
 y14k)
def yx5 : CCode :=
  (.seq (.region [
 kO 48 (.bin .eql 11 (ci 6)),
 kO 47 (.mv 48)])
 y02)
def y0h : CCode :=
  (.cond 25
 (.seq (.region [
  kO 28 (.fa 5 1),
  kO 29 (.ld false 1 28),
  kO 30 (.call none true 50 [29]),
  kO 27 (.mv 30),
  kO 31 (.ext 0 27),
  kO 32 (.ext 1 27),
  kO 33 (.ext 2 27),
  kO 4 (.mv 31),
  kO 5 (.mv 32),
  kO 6 (.mv 33)])
  (.seq (.region [
  kO 34 (.mv 6),
  kO 35 (.mv 4),
  kO 36 (.mv 5),
  kO 37 (.build [(.int .i64 0), (.int .i64 0), (.int .i64 0), (.int .i64 0)] [(0, 1, 34), (1, 1, 35), (2, 1, 36), (3, 1, (ci (-1)))]),
  kO 38 (.fa 5 1),
  kO 39 (.ld false 1 38),
  kO 40 (.fa 5 1),
  kO 41 (.ld false 1 40),
  kO 42 (.bin .eql 39 41),
  kO 43 (.mv 42),
  kG 44 (.mv 5) 43 true,
  kG 45 (.bin .neq 44 (ci 0)) 43 true,
  kO 46 (.pick 43 45 (.c (.bool false))),
  kU (.st 4 2 37),
  kO 3 (.mv 46)])
  .ret))
 yx5)
def y12m : CCode :=
  (.seq (.region [
 kO 26 (.bin .eql 11 (ci 5)),
 kO 25 (.mv 26)])
 y0h)
def y0j : CCode :=
  (.cond 22
 (.seq (.region [
  kO 24 (.build [(.int .i64 0), (.int .i64 0), (.int .i64 0), (.int .i64 0)] [(0, 1, (ci 0)), (1, 1, (ci 0)), (2, 1, (ci (-1))), (3, 1, (ci (-1)))]),
  kU (.st 4 2 24),
  kO 3 (.mv (.c (.bool true)))])
  .ret)
 y12m)
def y155 : CCode :=
  (.seq (.region [
 kO 23 (.bin .eql 11 (ci 4)),
 kO 22 (.mv 23)])
 y0j)
def yx9 : CCode :=
  (.cond 16
 (.seq (.region [
  kO 21 (.build [(.int .i64 0), (.int .i64 0), (.int .i64 0), (.int .i64 0)] [(0, 1, (ci 3)), (1, 1, (ci (-1))), (2, 1, (ci (-1))), (3, 1, (ci (-1)))]),
  kU (.st 4 2 21),
  kO 3 (.mv (.c (.bool true)))])
  .ret)
 y155)
def yvc : CCode :=
  (.seq (.seq (.region [
 kO 17 (.bin .eql 11 (ci 2)),
 kO 16 (.mv 17)])
 (.cond 16
 .skip
 (.seq (.region [
  kO 18 (.bin .eql 11 (ci 3)),
  kO 16 (.mv 18)])
  (.cond 16
  .skip
  (.seq (.region [
   kO 19 (.bin .eql 11 (ci 20)),
   kO 16 (.mv 19)])
   (.cond 16
   .skip
   (.region [
    kO 20 (.bin .eql 11 (ci 32)),
    kO 16 (.mv 20)])))))))
 yx9)
def yyp : CCode :=
  (.cond 12
 (.seq (.region [
  kO 15 (.build [(.int .i64 0), (.int .i64 0), (.int .i64 0), (.int .i64 0)] [(0, 1, (ci 0)), (1, 1, (ci (-1))), (2, 1, (ci (-1))), (3, 1, (ci (-1)))]),
  kU (.st 4 2 15),
  kO 3 (.mv (.c (.bool true)))])
  .ret)
 yvc)
def y123 : CCode :=
  (.seq (.seq (.region [
 kO 13 (.bin .eql 11 (ci 1)),
 kO 12 (.mv 13)])
 (.cond 12
 .skip
 (.region [
  kO 14 (.bin .eql 11 (ci 18)),
  kO 12 (.mv 14)])))
 yyp)
def y0w : CCode :=
  (.block 0 y123)
def yzs : CCode :=
  (.seq (.region [
 kO 10 (.fa 0 1),
 kO 11 (.ld false 1 10)])
 y0w)
def ywe : CCode :=
  (.seq yzs
 y1fe)
def yz3 : CCode :=
  (.seq (.region [
 kO 1 (.box (some 0) 0),
 kO 2 (.new (some 1) [(.int .i64 0), (.int .i64 0), (.int .i64 0), (.int .i64 0)]),
 kO 3 (.mv (.c (.bool false)))])
 ywe)
def y2ea : CFunc :=
  ⟨1, true, 2, yz3, [.cell 2 true 4, .t 3]⟩
def y1ae : CCode :=
  (.seq (.region [
 kO 1 (.box (some 0) 0),
 kO 2 (.mv (.c (.bool false)))])
 (.seq (.region [
 kO 3 (.fa 0 1),
 kO 4 (.ld false 1 3),
 kO 5 (.bin .geq 4 (ci 7)),
 kO 6 (.mv 5),
 kG 7 (.fa 0 1) 6 true,
 kG 8 (.ld false 1 7) 6 true,
 kG 9 (.bin .leq 8 (ci 12)) 6 true,
 kO 10 (.pick 6 9 (.c (.bool false))),
 kO 11 (.mv 10),
 kG 12 (.fa 0 1) 11 false,
 kG 13 (.ld false 1 12) 11 false,
 kG 14 (.bin .eql 13 (ci 20)) 11 false,
 kO 15 (.pick 11 (.c (.bool true)) 14),
 kO 16 (.mv 15),
 kG 17 (.fa 0 1) 16 false,
 kG 18 (.ld false 1 17) 16 false,
 kG 19 (.bin .eql 18 (ci 21)) 16 false,
 kO 20 (.pick 16 (.c (.bool true)) 19),
 kO 21 (.mv 20),
 kG 22 (.fa 0 1) 21 false,
 kG 23 (.ld false 1 22) 21 false,
 kG 24 (.bin .eql 23 (ci 31)) 21 false,
 kO 25 (.pick 21 (.c (.bool true)) 24),
 kO 26 (.mv 25),
 kG 27 (.ld true 9 1) 26 false,
 kG 28 (.call none true 17 [27]) 26 false,
 kO 29 (.pick 26 (.c (.bool true)) 28),
 kO 2 (.mv 29)])
 .ret))
def y2f9 : CFunc :=
  ⟨1, true, 1, y1ae, [.t 2]⟩
def yvy : CCode :=
  (.seq (.region [
 kO 13 (.mv 3),
 kO 14 (.mv 0),
 kO 15 (.ixs 1 13 14),
 kO 16 (.ld false 1 15),
 kO 2 (.mv 16)])
 .ret)
def yxa : CCode :=
  (.seq (.seq (.region [
 kO 5 (.mv 0),
 kO 6 (.bin .lss 5 (ci 1)),
 kO 7 (.mv 6),
 kG 8 (.mv 0) 7 false,
 kG 9 (.mv 3) 7 false,
 kG 10 (.len 1 9) 7 false,
 kG 11 (.bin .geq 8 10) 7 false,
 kO 12 (.pick 7 (.c (.bool true)) 11)])
 (.cond 12
 (.seq (.region [
  kO 2 (.mv (.c (.str [])))])
  .ret)
 .skip))
 yvy)
def y12e : CCode :=
  (.seq (.region [
 kO 4 (.buildS (some 0) 1 34 [(.str [])] [(0, (.c (.str []))), (1, (.c (.str [110, 45, 45, 45]))), (2, (.c (.str [51, 45, 45, 45]))), (3, (.c (.str [51, 45, 45, 45]))), (4, (.c (.str [42, 61, 45, 45]))), (5, (.c (.str [63, 63, 63, 63]))), (6, (.c (.str [63, 63, 63, 63]))), (7, (.c (.str [45, 110, 45, 45]))), (8, (.c (.str [45, 51, 45, 45]))), (9, (.c (.str [45, 51, 49, 45]))), (10, (.c (.str [45, 49, 45, 45]))), (11, (.c (.str [45, 51, 51, 45]))), (12, (.c (.str [45, 51, 45, 45]))), (13, (.c (.str [42, 51, 49, 45]))), (14, (.c (.str [45, 51, 49, 42]))), (15, (.c (.str [49, 51, 45, 45]))), (16, (.c (.str [42, 51, 45, 45]))), (17, (.c (.str [45, 51, 42, 45]))), (18, (.c (.str [42, 45, 45, 45]))), (19, (.c (.str [45, 42, 45, 45]))), (20, (.c (.str [51, 45, 45, 45]))), (21, (.c (.str [51, 49, 45, 45]))), (22, (.c (.str [49, 51, 45, 45]))), (23, (.c (.str [63, 63, 63, 63]))), (24, (.c (.str [63, 63, 63, 63]))), (25, (.c (.str [63, 63, 63, 63]))), (26, (.c (.str [63, 63, 63, 63]))), (27, (.c (.str [45, 45, 45, 45]))), (28, (.c (.str [45, 49, 49, 45]))), (29, (.c (.str [45, 51, 63, 45]))), (30, (.c (.str [45, 63, 45, 45]))), (31, (.c (.str [45, 51, 45, 45]))), (32, (.c (.str [51, 45, 45, 45]))), (33, (.c (.str [45, 45, 45, 45])))]),
 kO 3 (.mv 4)])
 yxa)
def yyf : CCode :=
  (.seq (.region [
 kO 2 (.mv (.c (.str [])))])
 y12e)
def y21k : CFunc :=
  ⟨1, true, 1, yyf, [.t 2]⟩
def yva : CCode :=
  (.seq (.region [
 kO 28 (.mv 7),
 kO 29 (.mv 2),
 kO 30 (.bin .sub 29 (.c (.int .u8 48))),
 kO 31 (.cvi .i64 30),
 kO 32 (.bin .eql 28 31),
 kO 6 (.mv 32)])
 .ret)
def y142 : CCode :=
  (.cond 15
 (.seq (.region [
  kO 18 (.mv 7),
  kO 19 (.bin .gtr 18 (ci 0)),
  kO 6 (.mv 19)])
  .ret)
 (.seq (.region [
  kO 21 (.bin .eql 11 (.c (.int .u8 110))),
  kO 20 (.mv 21)])
  (.cond 20
  (.seq (.region [
   kO 22 (.mv 7),
   kO 23 (.bin .eql 22 (ci 1)),
   kO 24 (.mv 23),
   kG 25 (.mv 7) 24 false,
   kG 26 (.bin .eql 25 (ci 2)) 24 false,
   kO 27 (.pick 24 (.c (.bool true)) 26),
   kO 6 (.mv 27)])
   .ret)
  .skip)))
def yvt : CCode :=
  (.seq (.seq (.region [
 kO 16 (.bin .eql 11 (.c (.int .u8 42))),
 kO 15 (.mv 16)])
 (.cond 15
 .skip
 (.region [
  kO 17 (.bin .eql 11 (.c (.int .u8 61))),
  kO 15 (.mv 17)])))
 y142)
def y11o : CCode :=
  (.cond 12
 (.seq (.region [
  kO 6 (.mv (.c (.bool true)))])
  .ret)
 yvt)
def y11s : CCode :=
  (.seq (.seq (.region [
 kO 13 (.bin .eql 11 (.c (.int .u8 45))),
 kO 12 (.mv 13)])
 (.cond 12
 .skip
 (.region [
  kO 14 (.bin .eql 11 (.c (.int .u8 63))),
  kO 12 (.mv 14)])))
 y11o)
def yy2 : CCode :=
  (.block 0 y11s)
def y0r : CCode :=
  (.seq (.region [
 kO 11 (.mv 2)])
 yy2)
def yv8 : CCode :=
  (.seq y0r
 yva)
def y00 : CCode :=
  (.seq (.region [
 kO 8 (.ld true 5 3),
 kO 9 (.mv 1),
 kO 10 (.call none true 48 [8, 9]),
 kO 7 (.mv 10)])
 yv8)
def yr4 : CCode :=
  (.seq (.region [
 kO 3 (.box (some 0) 0),
 kO 6 (.mv (.c (.bool false)))])
 y00)
def y215 : CFunc :=
  ⟨3, true, 1, yr4, [.t 6]⟩
def y1gn : CCode :=
  (.seq (.region [
 kO 2 (.mv (ci 0)),
 kO 3 (.mv (ci 0)),
 kO 4 (.mv (ci 0))])
 .ret)
def y1as : CCode :=
  (.seq (.block 0 (.seq (.region [
 kO 26 (.mv 5),
 kO 27 (.mv 26),
 kG 28 (.mv 0) 27 true,
 kG 29 (.bin .rem 28 (ci 2)) 27 true,
 kG 30 (.bin .eql 29 (ci 0)) 27 true,
 kO 31 (.pick 27 30 (.c (.bool false))),
 kO 25 (.mv 31)])
 (.cond 25
 (.seq (.region [
  kO 2 (.mv (ci 1)),
  kO 3 (.mv (ci 1)),
  kO 4 (.mv (ci 1))])
  .ret)
 (.seq (.region [
  kO 33 (.mv 0),
  kO 34 (.bin .eql 33 (ci 121)),
  kO 35 (.mv 34),
  kG 36 (.mv 0) 35 false,
  kG 37 (.bin .eql 36 (ci 123)) 35 false,
  kO 38 (.pick 35 (.c (.bool true)) 37),
  kO 39 (.mv 38),
  kG 40 (.mv 0) 39 false,
  kG 41 (.bin .eql 40 (ci 125)) 39 false,
  kO 42 (.pick 39 (.c (.bool true)) 41),
  kO 32 (.mv 42)])
  (.cond 32
  (.seq (.region [
   kO 2 (.mv (ci 2)),
   kO 3 (.mv (ci 1)),
   kO 4 (.mv (ci 2))])
   .ret)
  (.seq (.region [
   kO 44 (.mv 5),
   kO 43 (.mv 44)])
   (.cond 43
   (.seq (.region [
    kO 2 (.mv (ci 2)),
    kO 3 (.mv (ci 2)),
    kO 4 (.mv (ci 2))])
    .ret)
   (.seq (.region [
    kO 46 (.mv 0),
    kO 47 (.bin .eql 46 (ci 148)),
    kO 45 (.mv 47)])
    (.cond 45
    (.seq (.region [
     kO 2 (.mv (ci 2)),
     kO 3 (.mv (ci 2)),
     kO 4 (.mv (ci 1))])
     .ret)
    (.seq (.region [
     kO 49 (.mv 0),
     kO 50 (.bin .eql 49 (ci 116)),
     kO 51 (.mv 50),
     kG 52 (.mv 0) 51 false,
     kG 53 (.bin .geq 52 (ci 145)) 51 false,
     kG 54 (.mv 53) 51 false,
     kG 55 (.mv 0) 54 true,
     kG 56 (.bin .leq 55 (ci 147)) 54 true,
     kG 57 (.pick 54 56 (.c (.bool false))) 51 false,
     kO 58 (.pick 51 (.c (.bool true)) 57),
     kO 48 (.mv 58)])
     (.cond 48
     (.seq (.region [
      kO 2 (.mv (ci 1)),
      kO 3 (.mv (ci 0)),
      kO 4 (.mv (ci 1))])
      .ret)
     (.seq (.region [
      kO 60 (.mv 0),
      kO 61 (.bin .eql 60 (ci 117)),
      kO 59 (.mv 61)])
      (.cond 59
      (.seq (.region [
       kO 2 (.mv (ci 2)),
       kO 3 (.mv (ci 0)),
       kO 4 (.mv (ci 2))])
       .ret)
      (.seq (.region [
       kO 63 (.mv 0),
       kO 64 (.bin .eql 63 (ci 133)),
       kO 62 (.mv 64)])
       (.cond 62
       (.seq (.region [
        kO 2 (.mv (ci 1)),
        kO 3 (.mv (ci 0)),
        kO 4 (.mv (ci 2))])
        .ret)
       (.seq (.region [
        kO 66 (.mv 0),
        kO 67 (.bin .eql 66 (ci 136)),
        kO 65 (.mv 67)])
        (.cond 65
        (.seq (.region [
         kO 2 (.mv (ci 2)),
         kO 3 (.mv (ci 0)),
         kO 4 (.mv (ci 1))])
         .ret)
        .skip)))))))))))))))))
 y1gn)
def y1hc : CCode :=
  (.seq (.region [
 kO 6 (.mv 0),
 kO 7 (.bin .geq 6 (ci 96)),
 kO 8 (.mv 7),
 kG 9 (.mv 0) 8 true,
 kG 10 (.bin .leq 9 (ci 113)) 8 true,
 kO 11 (.pick 8 10 (.c (.bool false))),
 kO 12 (.mv 11),
 kG 13 (.mv 0) 12 true,
 kG 14 (.bin .rem 13 (ci 4)) 12 true,
 kG 15 (.bin .lss 14 (ci 2)) 12 true,
 kO 16 (.pick 12 15 (.c (.bool false))),
 kO 17 (.mv 16),
 kG 18 (.mv 0) 17 false,
 kG 19 (.bin .geq 18 (ci 120)) 17 false,
 kG 20 (.mv 19) 17 false,
 kG 21 (.mv 0) 20 true,
 kG 22 (.bin .leq 21 (ci 131)) 20 true,
 kG 23 (.pick 20 22 (.c (.bool false))) 17 false,
 kO 24 (.pick 17 (.c (.bool true)) 23),
 kO 5 (.mv 24)])
 y1as)
def y1kq : CCode :=
  (.seq (.region [
 kO 2 (.mv (ci 0)),
 kO 3 (.mv (ci 0)),
 kO 4 (.mv (ci 0))])
 y1hc)
def y2eu : CFunc :=
  ⟨1, true, 0, y1kq, [.t 2, .t 3, .t 4]⟩
def y150 : CCode :=
  (.seq (.region [
 kO 27 (.mv 0),
 kO 28 (.len 0 27),
 kO 29 (.bin .gtr 28 (ci 2)),
 kO 30 (.mv 29),
 kG 31 (.mv 0) 30 true,
 kG 32 (.ixstr 31 (ci 0)) 30 true,
 kG 33 (.bin .eql 32 (.c (.int .u8 76))) 30 true,
 kO 34 (.pick 30 33 (.c (.bool false))),
 kO 35 (.mv 34),
 kG 36 (.mv 0) 35 true,
 kG 37 (.mv 0) 35 true,
 kG 38 (.len 0 37) 35 true,
 kG 39 (.bin .sub 38 (ci 1)) 35 true,
 kG 40 (.ixstr 36 39) 35 true,
 kG 41 (.bin .eql 40 (.c (.int .u8 59))) 35 true,
 kO 42 (.pick 35 41 (.c (.bool false))),
 kO 43 (.mv 42),
 kG 44 (.mv 0) 43 true,
 kG 45 (.mv 0) 43 true,
 kG 46 (.len 0 45) 43 true,
 kG 47 (.bin .sub 46 (ci 1)) 43 true,
 kG 48 (.sls 44 (some (ci 1)) (some 47)) 43 true,
 kG 49 (.call none true 69 [48, (.c (.bool false))]) 43 true,
 kO 50 (.pick 43 49 (.c (.bool false))),
 kO 2 (.mv 50)])
 .ret)
def yx1 : CCode :=
  (.seq (.seq (.region [
 kO 21 (.mv 0),
 kO 22 (.bin .eql 21 (.c (.str [73]))),
 kO 23 (.mv 22),
 kG 24 (.mv 0) 23 false,
 kG 25 (.bin .eql 24 (.c (.str [74]))) 23 false,
 kO 26 (.pick 23 (.c (.bool true)) 25)])
 (.cond 26
 (.seq (.region [
  kO 2 (.mv (.c (.bool true)))])
  .ret)
 .skip))
 y150)
def y11q : CCode :=
  (.seq (.seq (.region [
 kO 19 (.mv 3),
 kO 20 (.bin .gtr 19 (ci 8))])
 (.cond 20
 (.seq (.region [
  kO 2 (.mv (.c (.bool false)))])
  .ret)
 .skip))
 yx1)
def ywl : CCode :=
  (.seq (.region [
 kO 16 (.mv 0),
 kO 17 (.mv 3),
 kO 18 (.sls 16 (some 17) none),
 kO 0 (.mv 18)])
 y11q)
def y15b : CCode :=
  (.block 1 (.region [
 kO 14 (.mv 3),
 kO 15 (.bin .add 14 (ci 1)),
 kO 3 (.mv 15)]))
def y12o : CCode :=
  (.seq (.seq (.region [
 kO 4 (.mv 3),
 kO 5 (.mv 0),
 kO 6 (.len 0 5),
 kO 7 (.bin .lss 4 6),
 kO 8 (.mv 7),
 kG 9 (.mv 0) 8 true,
 kG 10 (.mv 3) 8 true,
 kG 11 (.ixstr 9 10) 8 true,
 kG 12 (.bin .eql 11 (.c (.int .u8 91))) 8 true,
 kO 13 (.pick 8 12 (.c (.bool false)))])
 (.cond 13
 .skip
 (.exit 0)))
 y15b)
def yhs : CCode :=
  (.loop [0, 3] y12o)
def ywq : CCode :=
  (.block 0 yhs)
def yx3 : CCode :=
  (.seq ywq
 ywl)
def ysj : CCode :=
  (.seq (.region [
 kO 3 (.mv (ci 0))])
 yx3)
def yp7 : CCode :=
  (.seq (.region [
 kO 2 (.mv (.c (.bool false)))])
 ysj)
def y211 : CFunc :=
  ⟨1, true, 0, yp7, [.t 2]⟩
def yvv : CCode :=
  (.seq (.draw [
 kO 47 (.fa 0 3),
 kO 48 (.ld false 1 47),
 kO 49 (.bin .neq 48 (ci 24)),
 kO 50 (.mv 49),
 kG 51 (.fa 0 3) 50 true,
 kG 52 (.ld false 1 51) 50 true,
 kG 53 (.bin .neq 52 (ci 25)) 50 true,
 kO 54 (.pick 50 53 (.c (.bool false))),
 kO 55 (.mv 54),
 kG 56 (.fa 8 3) 55 false,
 kG 57 (.ld false 1 56) 55 false,
 kG 58 (.len 1 57) 55 false,
 kG 59 (.bin .gtr 58 (ci 0)) 55 false,
 kG 60 (.mv 59) 55 false,
 kG 61 (.ld true 5 2) 60 true,
 kG 62 (.fa 8 3) 60 true,
 kG 63 (.ld false 1 62) 60 true,
 kG 64 (.ixs 1 63 (ci 0)) 60 true,
 kG 65 (.ld false 1 64) 60 true,
 kG 66 (.call none true 48 [61, 65]) 60 true,
 kG 67 (.bin .eql 66 (ci 3)) 60 true,
 kG 68 (.pick 60 67 (.c (.bool false))) 55 false,
 kO 69 (.pick 55 (.c (.bool true)) 68),
 kO 4 (.mv 69)] [])
 .ret)
def yvo : CCode :=
  (.region [
 kO 37 (.mv 5),
 kO 38 (.bin .add 37 (ci 1)),
 kO 5 (.mv 38)])
def yx0 : CCode :=
  (.seq (.block 1 (.seq (.draw [
 kO 39 (.ld true 5 2),
 kO 40 (.fa 8 3),
 kO 41 (.ld false 1 40),
 kO 42 (.mv 5),
 kO 43 (.ixs 1 41 42),
 kO 44 (.ld false 1 43),
 kO 45 (.call none true 48 [39, 44]),
 kO 46 (.bin .eql 45 (ci 0))] [])
 (.cond 46
 (.seq (.region [
  kO 4 (.mv (.c (.bool false)))])
  .ret)
 .skip)))
 yvo)
def yvz : CCode :=
  (.seq (.seq (.region [
 kO 32 (.mv 5),
 kO 33 (.fa 8 3),
 kO 34 (.ld false 1 33),
 kO 35 (.len 1 34),
 kO 36 (.bin .lss 32 35)])
 (.cond 36
 .skip
 (.exit 0)))
 yx0)
def yhj : CCode :=
  (.loop [2, 3, 5] yvz)
def y13r : CCode :=
  (.block 0 yhj)
def y13d : CCode :=
  (.seq (.region [
 kO 5 (.mv (ci 0))])
 y13r)
def y11t : CCode :=
  (.seq y13d
 yvv)
def y117 : CCode :=
  (.seq (.seq (.region [
 kO 6 (.fa 5 3),
 kO 7 (.ld false 1 6),
 kO 8 (.bin .lss 7 (ci 0)),
 kO 9 (.mv 8),
 kG 10 (.fa 0 3) 9 true,
 kG 11 (.ld false 1 10) 9 true,
 kG 12 (.bin .neq 11 (ci 25)) 9 true,
 kO 13 (.pick 9 12 (.c (.bool false))),
 kO 14 (.mv 13),
 kG 15 (.fa 8 3) 14 false,
 kG 16 (.ld false 1 15) 14 false,
 kG 17 (.len 1 16) 14 false,
 kG 18 (.bin .gtr 17 (ci 21)) 14 false,
 kO 19 (.pick 14 (.c (.bool true)) 18),
 kO 20 (.mv 19),
 kG 21 (.fa 1 3) 20 false,
 kG 22 (.ld false 1 21) 20 false,
 kG 23 (.bin .neq 22 (ci (-1))) 20 false,
 kG 24 (.mv 23) 20 false,
 kG 25 (.ld true 5 2) 24 true,
 kG 26 (.fa 1 3) 24 true,
 kG 27 (.ld false 1 26) 24 true,
 kG 28 (.call none true 48 [25, 27]) 24 true,
 kG 29 (.bin .eql 28 (ci 0)) 24 true,
 kG 30 (.pick 24 29 (.c (.bool false))) 20 false,
 kO 31 (.pick 20 (.c (.bool true)) 30)])
 (.cond 31
 (.seq (.region [
  kO 4 (.mv (.c (.bool false)))])
  .ret)
 .skip))
 y11t)
def yos : CCode :=
  (.seq (.region [
 kO 2 (.box (some 0) 0),
 kO 3 (.box (some 1) 1),
 kO 4 (.mv (.c (.bool false)))])
 y117)
def y22d : CFunc :=
  ⟨2, true, 2, yos, [.t 4]⟩
def y1b8 : CCode :=
  (.seq (.region [
 kO 23 (.mv 0),
 kO 24 (.mv 1),
 kO 25 (.call none true 159 [23, 24]),
 kO 22 (.mv 25),
 kO 26 (.ext 0 22),
 kO 27 (.ext 1 22),
 kO 8 (.mv 26),
 kO 9 (.mv 27)])
 (.seq (.region [
 kO 28 (.mv 8),
 kO 29 (.mv 9),
 kO 4 (.mv 28),
 kO 5 (.mv 29)])
 .ret))
def y1cp : CCode :=
  (.seq (.cond (.c (.bool false))
 (.seq (.region [
  kO 11 (.mv 0),
  kO 12 (.cvi .u32 11),
  kO 13 (.mv 1),
  kO 14 (.cvi .u32 13),
  kO 15 (.call none true 158 [12, 14]),
  kO 10 (.mv 15),
  kO 16 (.ext 0 10),
  kO 17 (.ext 1 10),
  kO 6 (.mv 16),
  kO 7 (.mv 17)])
  (.seq (.region [
  kO 18 (.mv 6),
  kO 19 (.cvi .u64 18),
  kO 20 (.mv 7),
  kO 21 (.cvi .u64 20),
  kO 4 (.mv 19),
  kO 5 (.mv 21)])
  .ret))
 .skip)
 y1b8)
def y1fn : CCode :=
  (.seq (.region [
 kO 4 (.mv (.c (.int .u64 0))),
 kO 5 (.mv (.c (.int .u64 0)))])
 y1cp)
def y2ij : CFunc :=
  ⟨2, true, 0, y1fn, [.t 4, .t 5]⟩
def y14w : CCode :=
  (.seq (.region [
 kO 5 (.buildS (some 0) 1 0 [(.int .i64 0)] []),
 kO 6 (.mv 0),
 kO 7 (.app (some 1) 1 8 5 6),
 kO 2 (.mv 7)])
 .ret)
def y0m : CCode :=
  (.seq (.seq (.region [
 kO 3 (.mv 0),
 kO 4 (.eqn 1 false 3 (.c .nils))])
 (.cond 4
 (.seq (.region [
  kO 2 (.mv (.c .nils))])
  .ret)
 .skip))
 y14w)
def yyu : CCode :=
  (.seq (.region [
 kO 2 (.mv (.c .nils))])
 y0m)
def y21b : CFunc :=
  ⟨1, true, 2, yyu, [.t 2]⟩
def y22x : CCode :=
  (.region [
 kO 22 (.bin .add 10 (ci 1)),
 kO 10 (.mv 22)])
def y21w : CCode :=
  (.seq (.block 1 (.seq (.region [
 kO 12 (.mv 10),
 kO 4 (.mv 12)])
 (.seq (.region [
 kO 13 (.mv 0),
 kO 14 (.mv 4),
 kO 15 (.ixs 1 13 14),
 kO 16 (.ld false 1 15),
 kO 17 (.mv 1),
 kO 18 (.bin .eql 16 17)])
 (.cond 18
 (.region [
  kO 19 (.mv 0),
  kO 20 (.mv 4),
  kO 21 (.ixs 1 19 20),
  kU (.st 1 21 (ci (-1)))])
 .skip))))
 y22x)
def y21m : CCode :=
  (.seq (.cond 11
 .skip
 (.exit 0))
 y21w)
def y22f : CCode :=
  (.seq (.region [
 kO 11 (.bin .lss 10 9)])
 y21m)
def yuc : CCode :=
  (.loop [0, 1, 9, 10] y22f)
def y210 : CCode :=
  (.block 0 yuc)
def y236 : CCode :=
  (.seq (.region [
 kO 8 (.mv 0),
 kO 9 (.len 1 8),
 kO 10 (.mv (ci 0))])
 y210)
def y20q : CCode :=
  (.seq (.region [
 kO 5 (.mv 0),
 kO 6 (.mv 1),
 kO 7 (.ixs 1 5 6),
 kU (.st 1 7 (ci (-1)))])
 y236)
def c_q4 : CFunc :=
  ⟨2, false, 0, y20q, []⟩
def y1cn : CCode :=
  (.seq (.region [
 kO 2 (.mv (ci 0)),
 kO 3 (.mv (ci 0)),
 kO 4 (.mv (ci 0))])
 .ret)
def y1k3 : CCode :=
  (.cond 33
 (.seq (.region [
  kO 2 (.mv (ci 1)),
  kO 3 (.mv (ci 0)),
  kO 4 (.mv (ci 1))])
  .ret)
 (.seq (.region [
  kO 39 (.bin .eql 5 (ci 117)),
  kO 38 (.mv 39)])
  (.cond 38
  (.seq (.region [
   kO 2 (.mv (ci 2)),
   kO 3 (.mv (ci 0)),
   kO 4 (.mv (ci 2))])
   .ret)
  (.seq (.region [
   kO 41 (.bin .eql 5 (ci 133)),
   kO 40 (.mv 41)])
   (.cond 40
   (.seq (.region [
    kO 2 (.mv (ci 1)),
    kO 3 (.mv (ci 0)),
    kO 4 (.mv (ci 2))])
    .ret)
   (.seq (.region [
    kO 43 (.bin .eql 5 (ci 136)),
    kO 42 (.mv 43)])
    (.cond 42
    (.seq (.region [
     kO 2 (.mv (ci 2)),
     kO 3 (.mv (ci 0)),
     kO 4 (.mv (ci 1))])
     .ret)
    .skip)))))))
def y1nt : CCode :=
  (.seq (.seq (.region [
 kO 34 (.bin .eql 5 (ci 116)),
 kO 33 (.mv 34)])
 (.cond 33
 .skip
 (.seq (.region [
  kO 35 (.bin .eql 5 (ci 145)),
  kO 33 (.mv 35)])
  (.cond 33
  .skip
  (.seq (.region [
   kO 36 (.bin .eql 5 (ci 146)),
   kO 33 (.mv 36)])
   (.cond 33
   .skip
   (.region [
    kO 37 (.bin .eql 5 (ci 147)),
    kO 33 (.mv 37)])))))))
 y1k3)
def y1ba : CCode :=
  (.cond 31
 (.seq (.region [
  kO 2 (.mv (ci 2)),
  kO 3 (.mv (ci 2)),
  kO 4 (.mv (ci 1))])
  .ret)
 y1nt)
def y1n2 : CCode :=
  (.seq (.region [
 kO 32 (.bin .eql 5 (ci 148)),
 kO 31 (.mv 32)])
 y1ba)
def y1lr : CCode :=
  (.cond 27
 (.seq (.region [
  kO 2 (.mv (ci 2)),
  kO 3 (.mv (ci 1)),
  kO 4 (.mv (ci 2))])
  .ret)
 y1n2)
def y1ax : CCode :=
  (.seq (.seq (.region [
 kO 28 (.bin .eql 5 (ci 121)),
 kO 27 (.mv 28)])
 (.cond 27
 .skip
 (.seq (.region [
  kO 29 (.bin .eql 5 (ci 123)),
  kO 27 (.mv 29)])
  (.cond 27
  .skip
  (.region [
   kO 30 (.bin .eql 5 (ci 125)),
   kO 27 (.mv 30)])))))
 y1lr)
def y1ik : CCode :=
  (.cond 18
 (.seq (.region [
  kO 2 (.mv (ci 2)),
  kO 3 (.mv (ci 2)),
  kO 4 (.mv (ci 2))])
  .ret)
 y1ax)
def y1cc : CCode :=
  (.seq (.seq (.region [
 kO 19 (.bin .eql 5 (ci 97)),
 kO 18 (.mv 19)])
 (.cond 18
 .skip
 (.seq (.region [
  kO 20 (.bin .eql 5 (ci 101)),
  kO 18 (.mv 20)])
  (.cond 18
  .skip
  (.seq (.region [
   kO 21 (.bin .eql 5 (ci 105)),
   kO 18 (.mv 21)])
   (.cond 18
   .skip
   (.seq (.region [
    kO 22 (.bin .eql 5 (ci 109)),
    kO 18 (.mv 22)])
    (.cond 18
    .skip
    (.seq (.region [
     kO 23 (.bin .eql 5 (ci 113)),
     kO 18 (.mv 23)])
     (.cond 18
     .skip
     (.seq (.region [
      kO 24 (.bin .eql 5 (ci 127)),
      kO 18 (.mv 24)])
      (.cond 18
      .skip
      (.seq (.region [
       kO 25 (.bin .eql 5 (ci 129)),
       kO 18 (.mv 25)])
       (.cond 18
       .skip
       (.region [
        kO 26 (.bin .eql 5 (ci 131)),
        kO 18 (.mv 26)])))))))))))))))
 y1ik)
def yvx : CCode :=
  (.cond 6
 (.seq (.region [
  kO 2 (.mv (ci 1)),
  kO 3 (.mv (ci 1)),
  kO 4 (.mv (ci 1))])
  .ret)
 y1cc)
def yzu : CCode :=
  (.seq (.seq (.region [
 kO 7 (.bin .eql 5 (ci 96)),
 kO 6 (.mv 7)])
 (.cond 6
 .skip
 (.seq (.region [
  kO 8 (.bin .eql 5 (ci 100)),
  kO 6 (.mv 8)])
  (.cond 6
  .skip
  (.seq (.region [
   kO 9 (.bin .eql 5 (ci 104)),
   kO 6 (.mv 9)])
   (.cond 6
   .skip
   (.seq (.region [
    kO 10 (.bin .eql 5 (ci 108)),
    kO 6 (.mv 10)])
    (.cond 6
    .skip
    (.seq (.region [
     kO 11 (.bin .eql 5 (ci 112)),
     kO 6 (.mv 11)])
     (.cond 6
     .skip
     (.seq (.region [
      kO 12 (.bin .eql 5 (ci 120)),
      kO 6 (.mv 12)])
      (.cond 6
      .skip
      (.seq (.region [
       kO 13 (.bin .eql 5 (ci 122)),
       kO 6 (.mv 13)])
       (.cond 6
       .skip
       (.seq (.region [
        kO 14 (.bin .eql 5 (ci 124)),
        kO 6 (.mv 14)])
        (.cond 6
        .skip
        (.seq (.region [
         kO 15 (.bin .eql 5 (ci 126)),
         kO 6 (.mv 15)])
         (.cond 6
         .skip
         (.seq (.region [
          kO 16 (.bin .eql 5 (ci 128)),
          kO 6 (.mv 16)])
          (.cond 6
          .skip
          (.region [
           kO 17 (.bin .eql 5 (ci 130)),
           kO 6 (.mv 17)])))))))))))))))))))))
 yvx)
def y13n : CCode :=
  (.block 0 yzu)
def yy3 : CCode :=
  (.seq (.region [
 kO 5 (.mv 0)])
 y13n)
def yvi : CCode :=
  (.seq yy3
 y1cn)
def yza : CCode :=
  (.seq (.region [
 kO 2 (.mv (ci 0)),
 kO 3 (.mv (ci 0)),
 kO 4 (.mv (ci 0))])
 yvi)
def y2il : CFunc :=
  ⟨1, true, 0, yza, [.t 2, .t 3, .t 4]⟩
def y20v : CCode :=
  (.seq (.region [
 kO 2 (.mv (.c (.bool false)))])
 (.seq (.region [
 kO 3 (.mv 0),
 kO 4 (.bin .neq 3 (.c (.str []))),
 kO 5 (.mv 4),
 kG 6 (.mv 0) 5 true,
 kG 7 (.call none true 44 [6]) 5 true,
 kG 8 (.mv 0) 5 true,
 kG 9 (.len 0 8) 5 true,
 kG 10 (.bin .eql 7 9) 5 true,
 kO 11 (.pick 5 10 (.c (.bool false))),
 kO 2 (.mv 11)])
 .ret))
def c_q8 : CFunc :=
  ⟨1, true, 0, y20v, [.t 2]⟩
def y1ku : CCode :=
  (.seq (.region [
 kO 73 (.build [(.int .i64 0), (.int .i64 0), (.int .i64 0), (.int .i64 0)] []),
 kU (.st 4 2 73),
 kO 3 (.mv (.c (.bool false)))])
 .ret)
def y1gy : CCode :=
  (.seq (.draw [
 kO 15 (.mv 4),
 kO 16 (.build [(.int .i64 0), (.int .i64 0), (.int .i64 0), (.int .i64 0)] [(0, 1, (ci (-1))), (1, 1, (ci 3)), (2, 1, 15), (3, 1, (ci (-1)))]),
 kO 17 (.fa 5 1),
 kO 18 (.ld false 1 17),
 kO 19 (.bin .eql 18 (ci 0)),
 kO 20 (.mv 19),
 kG 21 (.fa 5 1) 20 false,
 kG 22 (.ld false 1 21) 20 false,
 kG 23 (.bin .eql 22 (ci 1)) 20 false,
 kO 24 (.pick 20 (.c (.bool true)) 23),
 kU (.st 4 2 16),
 kO 3 (.mv 24)] [(7, 10)])
 .ret)
def y1n3 : CCode :=
  (.seq (.seq (.region [
 kO 12 (.fa 3 1),
 kO 13 (.ld false 1 12),
 kO 14 (.bin .neq 13 (ci (-1)))])
 (.cond 14
 (.region [
  kO 4 (.mv (ci 3))])
 .skip))
 y1gy)
def y1f7 : CCode :=
  (.seq (.region [
 kO 4 (.mv (ci (-1)))])
 y1n3)
def y1is : CCode :=
  (.seq (.region [
 kO 30 (.mv 5),
 kO 31 (.build [(.int .i64 0), (.int .i64 0), (.int .i64 0), (.int .i64 0)] [(0, 1, (ci (-1))), (1, 1, 30), (2, 1, (ci (-1))), (3, 1, (ci (-1)))]),
 kU (.st 4 2 31),
 kO 3 (.mv (.c (.bool true)))])
 .ret)
def y1hn : CCode :=
  (.seq (.seq (.region [
 kO 27 (.fa 2 1),
 kO 28 (.ld false 1 27),
 kO 29 (.bin .neq 28 (ci (-1)))])
 (.cond 29
 (.region [
  kO 5 (.mv (ci 0))])
 .skip))
 y1is)
def y1i8 : CCode :=
  (.seq (.region [
 kO 5 (.mv (ci (-1)))])
 y1hn)
def y1jg : CCode :=
  (.seq (.region [
 kO 40 (.fa 0 1),
 kO 41 (.ld false 1 40),
 kO 42 (.bin .eql 41 (ci 23)),
 kO 43 (.mv 42),
 kG 44 (.fa 0 1) 43 false,
 kG 45 (.ld false 1 44) 43 false,
 kG 46 (.bin .eql 45 (ci 26)) 43 false,
 kO 47 (.pick 43 (.c (.bool true)) 46),
 kO 48 (.mv 47),
 kG 49 (.fa 8 1) 48 false,
 kG 50 (.ld false 1 49) 48 false,
 kG 51 (.len 1 50) 48 false,
 kG 52 (.bin .gtr 51 (ci 0)) 48 false,
 kO 53 (.pick 48 (.c (.bool true)) 52),
 kO 7 (.mv 53)])
 (.seq (.draw [
 kO 54 (.mv 6),
 kO 55 (.build [(.int .i64 0), (.int .i64 0), (.int .i64 0), (.int .i64 0)] [(0, 1, 54), (1, 1, (ci (-1))), (2, 1, (ci (-1))), (3, 1, (ci (-1)))]),
 kO 56 (.mv 7),
 kO 57 (.mv 56),
 kG 58 (.fa 5 1) 57 true,
 kG 59 (.ld false 1 58) 57 true,
 kG 60 (.bin .geq 59 (ci 0)) 57 true,
 kG 61 (.mv 60) 57 true,
 kG 62 (.fa 0 1) 61 false,
 kG 63 (.ld false 1 62) 61 false,
 kG 64 (.bin .eql 63 (ci 25)) 61 false,
 kG 65 (.pick 61 (.c (.bool true)) 64) 57 true,
 kO 66 (.pick 57 65 (.c (.bool false))),
 kO 67 (.mv 66),
 kG 68 (.fa 8 1) 67 true,
 kG 69 (.ld false 1 68) 67 true,
 kG 70 (.len 1 69) 67 true,
 kG 71 (.bin .leq 70 (ci 21)) 67 true,
 kO 72 (.pick 67 71 (.c (.bool false))),
 kU (.st 4 2 55),
 kO 3 (.mv 72)] [(15, 19), (16, 19)])
 .ret))
def y1k2 : CCode :=
  (.seq (.seq (.region [
 kO 37 (.fa 1 1),
 kO 38 (.ld false 1 37),
 kO 39 (.bin .neq 38 (ci (-1)))])
 (.cond 39
 (.region [
  kO 6 (.mv (ci 0))])
 .skip))
 y1jg)
def y12l : CCode :=
  (.seq (.region [
 kO 6 (.mv (ci (-1)))])
 y1k2)
def ywx : CCode :=
  (.cond 32
 y12l
 .skip)
def y12q : CCode :=
  (.seq (.seq (.region [
 kO 33 (.bin .eql 9 (ci 23)),
 kO 32 (.mv 33)])
 (.cond 32
 .skip
 (.seq (.region [
  kO 34 (.bin .eql 9 (ci 24)),
  kO 32 (.mv 34)])
  (.cond 32
  .skip
  (.seq (.region [
   kO 35 (.bin .eql 9 (ci 25)),
   kO 32 (.mv 35)])
   (.cond 32
   .skip
   (.region [
    kO 36 (.bin .eql 9 (ci 26)),
    kO 32 (.mv 36)])))))))
 ywx)
def y12d : CCode :=
  (.cond 25
 y1i8
 y12q)
def y12a : CCode :=
  (.seq (.region [
 kO 26 (.bin .eql 9 (ci 30)),
 kO 25 (.mv 26)])
 y12d)
def y12r : CCode :=
  (.cond 10
 y1f7
 y12a)
def yyj : CCode :=
  (.seq (.region [
 kO 11 (.bin .eql 9 (ci 29)),
 kO 10 (.mv 11)])
 y12r)
def y07 : CCode :=
  (.block 0 yyj)
def yzv : CCode :=
  (.seq (.region [
 kO 8 (.fa 0 1),
 kO 9 (.ld false 1 8)])
 y07)
def y120 : CCode :=
  (.seq yzv
 y1ku)
def y11m : CCode :=
  (.seq (.region [
 kO 1 (.box (some 0) 0),
 kO 2 (.new (some 1) [(.int .i64 0), (.int .i64 0), (.int .i64 0), (.int .i64 0)]),
 kO 3 (.mv (.c (.bool false)))])
 y120)
def y2jc : CFunc :=
  ⟨1, true, 2, y11m, [.cell 2 true 4, .t 3]⟩
def y14v : CCode :=
  (.seq (.region [
 kO 24 (.mv 0),
 kO 25 (.bin .neq 24 (.c (.str []))),
 kO 26 (.mv 25),
 kG 27 (.mv 0) 26 true,
 kG 28 (.len 0 27) 26 true,
 kG 29 (.bin .leq 28 (ci 60)) 26 true,
 kO 30 (.pick 26 29 (.c (.bool false))),
 kO 4 (.mv 30)])
 .ret)
def yx6 : CCode :=
  (.region [
 kO 14 (.mv 6),
 kO 15 (.bin .add 14 (ci 1)),
 kO 6 (.mv 15)])
def yy0 : CCode :=
  (.seq (.block 1 (.seq (.region [
 kO 16 (.mv 5),
 kO 17 (.mv 0),
 kO 18 (.mv 6),
 kO 19 (.mv 6),
 kO 20 (.bin .add 19 (ci 1)),
 kO 21 (.sls 17 (some 18) (some 20)),
 kO 22 (.call none true 53 [16, 21]),
 kO 23 (.un .not 22)])
 (.cond 23
 (.seq (.region [
  kO 4 (.mv (.c (.bool false)))])
  .ret)
 .skip)))
 yx6)
def y147 : CCode :=
  (.seq (.seq (.region [
 kO 10 (.mv 6),
 kO 11 (.mv 0),
 kO 12 (.len 0 11),
 kO 13 (.bin .lss 10 12)])
 (.cond 13
 .skip
 (.exit 0)))
 yy0)
def yie : CCode :=
  (.loop [0, 5, 6] y147)
def y12u : CCode :=
  (.block 0 yie)
def yyh : CCode :=
  (.seq (.region [
 kO 6 (.mv (ci 0))])
 y12u)
def y121 : CCode :=
  (.seq yyh
 y14v)
def yw0 : CCode :=
  (.seq (.seq (.region [
 kO 7 (.mv 1)])
 (.cond 7
 (.region [
  kO 8 (.mv 5),
  kO 9 (.bin .add 8 (.c (.str [60, 62]))),
  kO 5 (.mv 9)])
 .skip))
 y121)
def yod : CCode :=
  (.seq (.region [
 kO 5 (.mv (.c (.str [97, 98, 99, 100, 101, 102, 103, 104, 105, 106, 107, 108, 109, 110, 111, 112, 113, 114, 115, 116, 117, 118, 119, 120, 121, 122, 65, 66, 67, 68, 69, 70, 71, 72, 73, 74, 75, 76, 77, 78, 79, 80, 81, 82, 83, 84, 85, 86, 87, 88, 89, 90, 48, 49, 50, 51, 52, 53, 54, 55, 56, 57, 95, 36, 47])))])
 yw0)
def yrj : CCode :=
  (.seq (.region [
 kO 4 (.mv (.c (.bool false)))])
 yod)
def y22r : CFunc :=
  ⟨2, true, 0, yrj, [.t 4]⟩
def y2mn : CFunc :=
  ⟨2, true, 0, (.seq (.region [
    kO 4 (.mv (.c (.int .u32 0))),
    kO 5 (.mv (.c (.int .u32 0)))])
  (.seq (.region [
    kO 7 (.mv 0),
    kO 8 (.cvi .u64 7),
    kO 9 (.mv 1),
    kO 10 (.cvi .u64 9),
    kO 11 (.bin .mul 8 10),
    kO 6 (.mv 11)])
  (.seq (.region [
    kO 12 (.mv 6),
    kO 13 (.bin .shr 12 (.c (.int .u64 32))),
    kO 14 (.cvi .u32 13),
    kO 15 (.mv 6),
    kO 16 (.cvi .u32 15),
    kO 4 (.mv 14),
    kO 5 (.mv 16)])
  .ret))), [.t 4, .t 5]⟩
def y1pe : CCode :=
  (.seq (.region [
 kO 4 (.mv (.c (.int .u64 0))),
 kO 5 (.mv (.c (.int .u64 0)))])
 (.seq (.region [
 kO 14 (.mv 0),
 kO 15 (.bin .and 14 (.c (.int .u64 4294967295))),
 kO 6 (.mv 15)])
 (.seq (.region [
 kO 16 (.mv 0),
 kO 17 (.bin .shr 16 (.c (.int .u64 32))),
 kO 7 (.mv 17)])
 (.seq (.region [
 kO 18 (.mv 1),
 kO 19 (.bin .and 18 (.c (.int .u64 4294967295))),
 kO 8 (.mv 19)])
 (.seq (.region [
 kO 20 (.mv 1),
 kO 21 (.bin .shr 20 (.c (.int .u64 32))),
 kO 9 (.mv 21)])
 (.seq (.region [
 kO 22 (.mv 6),
 kO 23 (.mv 8),
 kO 24 (.bin .mul 22 23),
 kO 10 (.mv 24)])
 (.seq (.region [
 kO 25 (.mv 7),
 kO 26 (.mv 8),
 kO 27 (.bin .mul 25 26),
 kO 28 (.mv 10),
 kO 29 (.bin .shr 28 (.c (.int .u64 32))),
 kO 30 (.bin .add 27 29),
 kO 11 (.mv 30)])
 (.seq (.region [
 kO 31 (.mv 11),
 kO 32 (.bin .and 31 (.c (.int .u64 4294967295))),
 kO 12 (.mv 32)])
 (.seq (.region [
 kO 33 (.mv 11),
 kO 34 (.bin .shr 33 (.c (.int .u64 32))),
 kO 13 (.mv 34)])
 (.seq (.region [
 kO 35 (.mv 12),
 kO 36 (.mv 6),
 kO 37 (.mv 9),
 kO 38 (.bin .mul 36 37),
 kO 39 (.bin .add 35 38),
 kO 12 (.mv 39)])
 (.seq (.region [
 kO 40 (.mv 7),
 kO 41 (.mv 9),
 kO 42 (.bin .mul 40 41),
 kO 43 (.mv 13),
 kO 44 (.bin .add 42 43),
 kO 45 (.mv 12),
 kO 46 (.bin .shr 45 (.c (.int .u64 32))),
 kO 47 (.bin .add 44 46),
 kO 4 (.mv 47)])
 (.seq (.region [
 kO 48 (.mv 0),
 kO 49 (.mv 1),
 kO 50 (.bin .mul 48 49),
 kO 5 (.mv 50)])
 .ret))))))))))))
def y2dd : CFunc :=
  ⟨2, true, 0, y1pe, [.t 4, .t 5]⟩
def y21d : CCode :=
  (.seq (.region [
 kO 2 (.mv (ci 0))])
 .ret)
def y22i : CCode :=
  (.region [
 kO 41 (.mv 4),
 kO 42 (.bin .add 41 (ci 1)),
 kO 4 (.mv 42)])
def y220 : CCode :=
  (.seq (.region [
 kO 2 (.mv (ci 0))])
 .ret)
def y233 : CCode :=
  (.seq (.seq (.region [
 kO 47 (.mv 0),
 kO 48 (.mv 3),
 kO 49 (.bin .add 48 (ci 1)),
 kO 50 (.mv 4),
 kO 51 (.sls 47 (some 49) (some 50)),
 kO 52 (.call none true 60 [51, (.c (.bool false))])])
 (.cond 52
 (.seq (.region [
  kO 53 (.mv 4),
  kO 54 (.bin .add 53 (ci 1)),
  kO 2 (.mv 54)])
  .ret)
 .skip))
 y220)
def y213 : CCode :=
  (.cond 46
 y233
 .skip)
def y216 : CCode :=
  (.seq (.region [
 kO 43 (.mv 0),
 kO 44 (.mv 4),
 kO 45 (.ixstr 43 44),
 kO 46 (.bin .eql 45 (.c (.int .u8 59)))])
 y213)
def y21s : CCode :=
  (.block 4 y216)
def y22u : CCode :=
  (.seq y21s
 y22i)
def y1py : CCode :=
  (.seq (.seq (.region [
 kO 37 (.mv 4),
 kO 38 (.mv 0),
 kO 39 (.len 0 38),
 kO 40 (.bin .lss 37 39)])
 (.cond 40
 .skip
 (.exit 3)))
 y22u)
def yuw : CCode :=
  (.loop [0, 3, 4] y1py)
def y1fw : CCode :=
  (.block 3 yuw)
def y1b0 : CCode :=
  (.seq (.region [
 kO 35 (.mv 3),
 kO 36 (.bin .add 35 (ci 1)),
 kO 4 (.mv 36)])
 y1fw)
def y1c6 : CCode :=
  (.cond 33
 y1b0
 .skip)
def y1b3 : CCode :=
  (.seq (.region [
 kO 34 (.bin .eql 27 (.c (.int .u8 76))),
 kO 33 (.mv 34)])
 y1c6)
def y1p7 : CCode :=
  (.cond 28
 (.seq (.region [
  kO 31 (.mv 3),
  kO 32 (.bin .add 31 (ci 1)),
  kO 2 (.mv 32)])
  .ret)
 y1b3)
def y1ct : CCode :=
  (.seq (.seq (.region [
 kO 29 (.bin .eql 27 (.c (.int .u8 73))),
 kO 28 (.mv 29)])
 (.cond 28
 .skip
 (.region [
  kO 30 (.bin .eql 27 (.c (.int .u8 74))),
  kO 28 (.mv 30)])))
 y1p7)
def y1fc : CCode :=
  (.block 2 y1ct)
def y1b2 : CCode :=
  (.seq (.region [
 kO 25 (.mv 0),
 kO 26 (.mv 3),
 kO 27 (.ixstr 25 26)])
 y1fc)
def y1gi : CCode :=
  (.seq y1b2
 y21d)
def y1qi : CCode :=
  (.seq (.seq (.region [
 kO 17 (.mv 3),
 kO 18 (.bin .gtr 17 (ci 8)),
 kO 19 (.mv 18),
 kG 20 (.mv 3) 19 false,
 kG 21 (.mv 0) 19 false,
 kG 22 (.len 0 21) 19 false,
 kG 23 (.bin .eql 20 22) 19 false,
 kO 24 (.pick 19 (.c (.bool true)) 23)])
 (.cond 24
 (.seq (.region [
  kO 2 (.mv (ci 0))])
  .ret)
 .skip))
 y1gi)
def y1ff : CCode :=
  (.block 1 (.region [
 kO 15 (.mv 3),
 kO 16 (.bin .add 15 (ci 1)),
 kO 3 (.mv 16)]))
def y190 : CCode :=
  (.seq (.seq (.region [
 kO 5 (.mv 3),
 kO 6 (.mv 0),
 kO 7 (.len 0 6),
 kO 8 (.bin .lss 5 7),
 kO 9 (.mv 8),
 kG 10 (.mv 0) 9 true,
 kG 11 (.mv 3) 9 true,
 kG 12 (.ixstr 10 11) 9 true,
 kG 13 (.bin .eql 12 (.c (.int .u8 91))) 9 true,
 kO 14 (.pick 9 13 (.c (.bool false)))])
 (.cond 14
 .skip
 (.exit 0)))
 y1ff)
def ymd : CCode :=
  (.loop [0, 3] y190)
def y1fq : CCode :=
  (.block 0 ymd)
def y1fb : CCode :=
  (.seq y1fq
 y1qi)
def y1nc : CCode :=
  (.seq (.region [
 kO 3 (.mv (ci 0))])
 y1fb)
def y1bm : CCode :=
  (.seq (.region [
 kO 2 (.mv (ci 0))])
 y1nc)
def c_q9 : CFunc :=
  ⟨1, true, 0, y1bm, [.t 2]⟩
def y21i : CCode :=
  (.seq (.region [
 kO 4 (.mv (.c (.bool true)))])
 .ret)
def y21y : CCode :=
  (.region [
 kO 71 (.bin .add 19 (ci 1)),
 kO 19 (.mv 71)])
def y221 : CCode :=
  (.seq (.block 1 (.seq (.region [
 kO 21 (.ixs 1 17 19),
 kO 22 (.ld false 1 21),
 kO 6 (.mv 22)])
 (.seq (.region [
 kO 23 (.mv 6),
 kO 24 (.bin .geq 23 (.c (.int .u8 97))),
 kO 25 (.mv 24),
 kG 26 (.mv 6) 25 true,
 kG 27 (.bin .leq 26 (.c (.int .u8 122))) 25 true,
 kO 28 (.pick 25 27 (.c (.bool false))),
 kO 29 (.mv 28),
 kG 30 (.mv 6) 29 false,
 kG 31 (.bin .geq 30 (.c (.int .u8 65))) 29 false,
 kG 32 (.mv 31) 29 false,
 kG 33 (.mv 6) 32 true,
 kG 34 (.bin .leq 33 (.c (.int .u8 90))) 32 true,
 kG 35 (.pick 32 34 (.c (.bool false))) 29 false,
 kO 36 (.pick 29 (.c (.bool true)) 35),
 kO 37 (.mv 36),
 kG 38 (.mv 6) 37 false,
 kG 39 (.bin .geq 38 (.c (.int .u8 48))) 37 false,
 kG 40 (.mv 39) 37 false,
 kG 41 (.mv 6) 40 true,
 kG 42 (.bin .leq 41 (.c (.int .u8 57))) 40 true,
 kG 43 (.pick 40 42 (.c (.bool false))) 37 false,
 kO 44 (.pick 37 (.c (.bool true)) 43),
 kO 45 (.mv 44),
 kG 46 (.mv 6) 45 false,
 kG 47 (.bin .eql 46 (.c (.int .u8 95))) 45 false,
 kO 48 (.pick 45 (.c (.bool true)) 47),
 kO 49 (.mv 48),
 kG 50 (.mv 6) 49 false,
 kG 51 (.bin .eql 50 (.c (.int .u8 36))) 49 false,
 kO 52 (.pick 49 (.c (.bool true)) 51),
 kO 53 (.mv 52),
 kG 54 (.mv 6) 53 false,
 kG 55 (.bin .eql 54 (.c (.int .u8 47))) 53 false,
 kO 56 (.pick 53 (.c (.bool true)) 55),
 kO 7 (.mv 56)])
 (.seq (.region [
 kO 57 (.mv 7),
 kO 58 (.un .not 57),
 kO 59 (.mv 58),
 kG 60 (.mv 1) 59 true,
 kG 61 (.mv 60) 59 true,
 kG 62 (.mv 6) 61 true,
 kG 63 (.bin .eql 62 (.c (.int .u8 60))) 61 true,
 kG 64 (.mv 63) 61 true,
 kG 65 (.mv 6) 64 false,
 kG 66 (.bin .eql 65 (.c (.int .u8 62))) 64 false,
 kG 67 (.pick 64 (.c (.bool true)) 66) 61 true,
 kG 68 (.pick 61 67 (.c (.bool false))) 59 true,
 kG 69 (.un .not 68) 59 true,
 kO 70 (.pick 59 69 (.c (.bool false)))])
 (.cond 70
 (.seq (.region [
  kO 4 (.mv (.c (.bool false)))])
  .ret)
 .skip)))))
 y21y)
def y228 : CCode :=
  (.seq (.cond 20
 .skip
 (.exit 0))
 y221)
def y22l : CCode :=
  (.seq (.region [
 kO 20 (.bin .lss 19 18)])
 y228)
def yv4 : CCode :=
  (.loop [1, 17, 18, 19] y22l)
def y21l : CCode :=
  (.block 0 yv4)
def y22q : CCode :=
  (.seq (.region [
 kO 16 (.mv 0),
 kO 17 (.s2b (some 0) 16),
 kO 18 (.len 1 17),
 kO 19 (.mv (ci 0))])
 y21l)
def y20u : CCode :=
  (.seq y22q
 y21i)
def y1n5 : CCode :=
  (.seq (.seq (.region [
 kO 8 (.mv 0),
 kO 9 (.len 0 8),
 kO 10 (.bin .lss 9 (ci 1)),
 kO 11 (.mv 10),
 kG 12 (.mv 0) 11 false,
 kG 13 (.len 0 12) 11 false,
 kG 14 (.bin .gtr 13 (ci 60)) 11 false,
 kO 15 (.pick 11 (.c (.bool true)) 14)])
 (.cond 15
 (.seq (.region [
  kO 4 (.mv (.c (.bool false)))])
  .ret)
 .skip))
 y20u)
def y1n9 : CCode :=
  (.seq (.region [
 kO 4 (.mv (.c (.bool false)))])
 y1n5)
def c_q7 : CFunc :=
  ⟨2, true, 1, y1n9, [.t 4]⟩
def tbl : List (Option Nat) := [none, none, none, none, none, none, none, none, none, none, none, none, some 160, none, none, none, some 13, none, some 8, none, none, none, none, none, none, none, none, none, none, none, none, none, some 29, none, some 148, some 149, some 10, some 9, some 39, some 40, some 41, none, none, some 24, some 46, some 63, some 22, none, none, none, none, none, none, none, some 79, none, some 81, none, none, none, some 102, none, none, none, none, none, none, none, some 25, some 48, some 42, some 64, some 23, some 49, none, none, some 150, some 151, some 155, some 156, some 152, some 27, some 17, some 45, some 47, none, none, none, none, none, some 18, none, none, none, none, none, none, none, none, none, none, none, none, none, none, some 38, some 65, some 66, some 67, some 68, some 157, some 153, some 154, some 50, some 37, some 51, none, none, none, none, none, none, none, none, none, none, none, some 69, some 158, some 159, some 44, none, none, none, some 53, some 60]
def fnE : Nat → Option CFunc
  | 8 => some y2gh
  | 9 => some y2g8
  | 10 => some y2fa
  | 13 => some y2j0
  | 17 => some y2dk
  | 18 => some y2f9
  | 22 => some y2f2
  | 23 => some y22j
  | 24 => some y2j9
  | 25 => some y21e
  | 27 => some y2es
  | 29 => some y219
  | 37 => some c_q8
  | 38 => some y21k
  | 39 => some y226
  | 40 => some y1n8
  | 41 => some y21j
  | 42 => some y217
  | 44 => some c_q9
  | 45 => some y22h
  | 46 => some y22c
  | 47 => some y2ea
  | 48 => some y22m
  | 49 => some y22y
  | 50 => some y2il
  | 51 => some y2jc
  | 60 => some c_q7
  | 63 => some y2j1
  | 64 => some y235
  | 65 => some y215
  | 66 => some y2eu
  | 67 => some y211
  | 68 => some y22d
  | 69 => some y22r
  | 79 => some y2i0
  | 81 => some y2g2
  | 102 => some y2db
  | 148 => some y2m9
  | 149 => some c_q1
  | 150 => some y22e
  | 151 => some c_q2
  | 152 => some c_q3
  | 153 => some y21b
  | 154 => some c_q4
  | 155 => some c_q5
  | 156 => some y21r
  | 157 => some y2ij
  | 158 => some y2mn
  | 159 => some y2dd
  | 160 => some y2fi
  | _ => none
abbrev nm : Nat → Option Nat := nmOf tbl
def E : Env := envX fnE [151, 154] xpC
abbrev T1 (c : CCode) (n : St → OX) (e : Nat → St → OX) (r : List CRes) (k : St → OX) : Prop := ∀ s, W E 0 c s n e (finP r) = k s
abbrev T0 (c : CCode) (r : List CRes) (k : St → OX) : Prop := T1 c (finP r) xN r k
theorem sq {a b : CCode} {n k k' : St → OX} {e : Nat → St → OX} {r : List CRes} (h : T1 b n e r k) (h' : T1 a k e r k') : T1 (.seq a b) n e r k' := fun s => (yjk h).trans (h' s)
theorem ok12 : FnOk Go.Proofs.Try.prog nm fnE 12 160 := .of Go.Proofs.Try.func12 (by kernel_rfl) (by kernel_rfl) rfl (by kernel_rfl)
theorem ok16 : FnOk Go.Proofs.Try.prog nm fnE 16 13 := .of Go.Proofs.Try.func16 (by kernel_rfl) (by kernel_rfl) rfl (by kernel_rfl)
theorem ok18 : FnOk Go.Proofs.Try.prog nm fnE 18 8 := .of Go.Proofs.Try.func18 (by kernel_rfl) (by kernel_rfl) rfl (by kernel_rfl)
theorem ok32 : FnOk Go.Proofs.Try.prog nm fnE 32 29 := .of Go.Proofs.Try.func32 (by kernel_rfl) (by kernel_rfl) rfl (by kernel_rfl)
theorem ok34 : FnOk Go.Proofs.Try.prog nm fnE 34 148 := .of Go.Proofs.Try.func34 (by kernel_rfl) (by kernel_rfl) rfl (by kernel_rfl)
theorem ok35 : FnOk Go.Proofs.Try.prog nm fnE 35 149 := .of Go.Proofs.Try.func35 (by kernel_rfl) (by kernel_rfl) rfl (by kernel_rfl)
theorem ok36 : FnOk Go.Proofs.Try.prog nm fnE 36 10 := .of Go.Proofs.Try.func36 (by kernel_rfl) (by kernel_rfl) rfl (by kernel_rfl)
theorem ok37 : FnOk Go.Proofs.Try.prog nm fnE 37 9 := .of Go.Proofs.Try.func37 (by kernel_rfl) (by kernel_rfl) rfl (by kernel_rfl)
theorem ok38 : FnOk Go.Proofs.Try.prog nm fnE 38 39 := .of Go.Proofs.Try.func38 (by kernel_rfl) (by kernel_rfl) rfl (by kernel_rfl)
theorem ok39 : FnOk Go.Proofs.Try.prog nm fnE 39 40 := .of Go.Proofs.Try.func39 (by kernel_rfl) (by kernel_rfl) rfl (by kernel_rfl)
theorem ok40 : FnOk Go.Proofs.Try.prog nm fnE 40 41 := .of Go.Proofs.Try.func40 (by kernel_rfl) (by kernel_rfl) rfl (by kernel_rfl)
theorem ok43 : FnOk Go.Proofs.Try.prog nm fnE 43 24 := .of Go.Proofs.Try.func43 (by kernel_rfl) (by kernel_rfl) rfl (by kernel_rfl)
theorem ok44 : FnOk Go.Proofs.Try.prog nm fnE 44 46 := .of Go.Proofs.Try.func44 (by kernel_rfl) (by kernel_rfl) rfl (by kernel_rfl)
theorem ok45 : FnOk Go.Proofs.Try.prog nm fnE 45 63 := .of Go.Proofs.Try.func45 (by kernel_rfl) (by kernel_rfl) rfl (by kernel_rfl)
theorem ok46 : FnOk Go.Proofs.Try.prog nm fnE 46 22 := .of Go.Proofs.Try.func46 (by kernel_rfl) (by kernel_rfl) rfl (by kernel_rfl)
theorem ok54 : FnOk Go.Proofs.Try.prog nm fnE 54 79 := .of Go.Proofs.Try.func54 (by kernel_rfl) (by kernel_rfl) rfl (by kernel_rfl)
theorem ok56 : FnOk Go.Proofs.Try.prog nm fnE 56 81 := .of Go.Proofs.Try.func56 (by kernel_rfl) (by kernel_rfl) rfl (by kernel_rfl)
theorem ok60 : FnOk Go.Proofs.Try.prog nm fnE 60 102 := .of Go.Proofs.Try.func60 (by kernel_rfl) (by kernel_rfl) rfl (by kernel_rfl)
theorem ok68 : FnOk Go.Proofs.Try.prog nm fnE 68 25 := .of Go.Proofs.Try.func68 (by kernel_rfl) (by kernel_rfl) rfl (by kernel_rfl)
theorem ok69 : FnOk Go.Proofs.Try.prog nm fnE 69 48 := .of Go.Proofs.Try.func69 (by kernel_rfl) (by kernel_rfl) rfl (by kernel_rfl)
theorem ok70 : FnOk Go.Proofs.Try.prog nm fnE 70 42 := .of Go.Proofs.Try.func70 (by kernel_rfl) (by kernel_rfl) rfl (by kernel_rfl)
theorem ok71 : FnOk Go.Proofs.Try.prog nm fnE 71 64 := .of Go.Proofs.Try.func71 (by kernel_rfl) (by kernel_rfl) rfl (by kernel_rfl)
theorem ok72 : FnOk Go.Proofs.Try.prog nm fnE 72 23 := .of Go.Proofs.Try.func72 (by kernel_rfl) (by kernel_rfl) rfl (by kernel_rfl)
theorem ok73 : FnOk Go.Proofs.Try.prog nm fnE 73 49 := .of Go.Proofs.Try.func73 (by kernel_rfl) (by kernel_rfl) rfl (by kernel_rfl)
theorem ok76 : FnOk Go.Proofs.Try.prog nm fnE 76 150 := .of Go.Proofs.Try.func76 (by kernel_rfl) (by kernel_rfl) rfl (by kernel_rfl)
theorem ok77 : FnOk Go.Proofs.Try.prog nm fnE 77 151 := .of Go.Proofs.Try.func77 (by kernel_rfl) (by kernel_rfl) rfl (by kernel_rfl)
theorem ok78 : FnOk Go.Proofs.Try.prog nm fnE 78 155 := .of Go.Proofs.Try.func78 (by kernel_rfl) (by kernel_rfl) rfl (by kernel_rfl)
theorem ok79 : FnOk Go.Proofs.Try.prog nm fnE 79 156 := .of Go.Proofs.Try.func79 (by kernel_rfl) (by kernel_rfl) rfl (by kernel_rfl)
theorem ok80 : FnOk Go.Proofs.Try.prog nm fnE 80 152 := .of Go.Proofs.Try.func80 (by kernel_rfl) (by kernel_rfl) rfl (by kernel_rfl)
theorem ok81 : FnOk Go.Proofs.Try.prog nm fnE 81 27 := .of Go.Proofs.Try.func81 (by kernel_rfl) (by kernel_rfl) rfl (by kernel_rfl)
theorem ok82 : FnOk Go.Proofs.Try.prog nm fnE 82 17 := .of Go.Proofs.Try.func82 (by kernel_rfl) (by kernel_rfl) rfl (by kernel_rfl)
theorem ok83 : FnOk Go.Proofs.Try.prog nm fnE 83 45 := .of Go.Proofs.Try.func83 (by kernel_rfl) (by kernel_rfl) rfl (by kernel_rfl)
theorem ok84 : FnOk Go.Proofs.Try.prog nm fnE 84 47 := .of Go.Proofs.Try.func84 (by kernel_rfl) (by kernel_rfl) rfl (by kernel_rfl)
theorem ok90 : FnOk Go.Proofs.Try.prog nm fnE 90 18 := .of Go.Proofs.Try.func90 (by kernel_rfl) (by kernel_rfl) rfl (by kernel_rfl)
theorem y2nx : FnOk Go.Proofs.Try.prog nm fnE 105 38 := .of Go.Proofs.Try.func105 (by kernel_rfl) (by kernel_rfl) rfl (by kernel_rfl)
theorem y2na : FnOk Go.Proofs.Try.prog nm fnE 106 65 := .of Go.Proofs.Try.func106 (by kernel_rfl) (by kernel_rfl) rfl (by kernel_rfl)
theorem y2o2 : FnOk Go.Proofs.Try.prog nm fnE 107 66 := .of Go.Proofs.Try.func107 (by kernel_rfl) (by kernel_rfl) rfl (by kernel_rfl)
theorem y2mu : FnOk Go.Proofs.Try.prog nm fnE 108 67 := .of Go.Proofs.Try.func108 (by kernel_rfl) (by kernel_rfl) rfl (by kernel_rfl)
theorem y2mb : FnOk Go.Proofs.Try.prog nm fnE 109 68 := .of Go.Proofs.Try.func109 (by kernel_rfl) (by kernel_rfl) rfl (by kernel_rfl)
theorem y2kt : FnOk Go.Proofs.Try.prog nm fnE 110 157 := .of Go.Proofs.Try.func110 (by kernel_rfl) (by kernel_rfl) rfl (by kernel_rfl)
theorem y2m7 : FnOk Go.Proofs.Try.prog nm fnE 111 153 := .of Go.Proofs.Try.func111 (by kernel_rfl) (by kernel_rfl) rfl (by kernel_rfl)
theorem y2kn : FnOk Go.Proofs.Try.prog nm fnE 112 154 := .of Go.Proofs.Try.func112 (by kernel_rfl) (by kernel_rfl) rfl (by kernel_rfl)
theorem y2nd : FnOk Go.Proofs.Try.prog nm fnE 113 50 := .of Go.Proofs.Try.func113 (by kernel_rfl) (by kernel_rfl) rfl (by kernel_rfl)
theorem y2ne : FnOk Go.Proofs.Try.prog nm fnE 114 37 := .of Go.Proofs.Try.func114 (by kernel_rfl) (by kernel_rfl) rfl (by kernel_rfl)
theorem y2kl : FnOk Go.Proofs.Try.prog nm fnE 115 51 := .of Go.Proofs.Try.func115 (by kernel_rfl) (by kernel_rfl) rfl (by kernel_rfl)
theorem y2n9 : FnOk Go.Proofs.Try.prog nm fnE 127 69 := .of Go.Proofs.Try.func127 (by kernel_rfl) (by kernel_rfl) rfl (by kernel_rfl)
theorem y2l9 : FnOk Go.Proofs.Try.prog nm fnE 128 158 := .of Go.Proofs.Try.func128 (by kernel_rfl) (by kernel_rfl) rfl (by kernel_rfl)
theorem y2o8 : FnOk Go.Proofs.Try.prog nm fnE 129 159 := .of Go.Proofs.Try.func129 (by kernel_rfl) (by kernel_rfl) rfl (by kernel_rfl)
theorem y2me : FnOk Go.Proofs.Try.prog nm fnE 130 44 := .of Go.Proofs.Try.func130 (by kernel_rfl) (by kernel_rfl) rfl (by kernel_rfl)
theorem y2ll : FnOk Go.Proofs.Try.prog nm fnE 134 53 := .ext Go.Proofs.Try.func134 (by kernel_rfl) (by kernel_rfl) rfl
theorem y2mg : FnOk Go.Proofs.Try.prog nm fnE 135 60 := .of Go.Proofs.Try.func135 (by kernel_rfl) (by kernel_rfl) rfl (by kernel_rfl)
theorem y2l0 : AllF Go.Proofs.Try.prog nm fnE 0 tbl :=
  ⟨ok12, ok16, ok18, ok32, ok34, ok35, ok36, ok37, ok38, ok39, ok40, ok43, ok44, ok45, ok46, ok54, ok56, ok60, ok68, ok69, ok70, ok71, ok72, ok73, ok76, ok77, ok78, ok79, ok80, ok81, ok82, ok83, ok84, ok90, y2nx, y2na, y2o2, y2mu, y2mb, y2kt, y2m7, y2kn, y2nd, y2ne, y2kl, y2n9, y2l9, y2o8, y2me, y2ll, y2mg, trivial⟩
theorem y2m3 : EnvOk Go.Proofs.Try.prog nm E := y255 (by kernel_rfl) y2l0 (.contains (f := 134) (y242 (by kernel_rfl)) Go.Proofs.Try.strings_Contains_one)
end Go.Vm
