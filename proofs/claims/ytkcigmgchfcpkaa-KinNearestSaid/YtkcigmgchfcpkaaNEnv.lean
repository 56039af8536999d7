/- The machine's form of functions, each checked against the translation, and the environment that they make. -/
import Derived.Test.YtkcigmgchfcpkaaVd
import Derived.Test.YtkcigmgchfcpkaaShelf
import Derived.Test.YtkcigmgchfcpkaaProg
import Derived.WalkSpells
import Derived.KernelRfl
set_option linter.unusedSimpArgs false
set_option linter.unusedVariables false
set_option linter.unusedSectionVars false
namespace Go.Vm
def yyx : CCode :=
  (.seq (.region [
 kO 4 (.mv (.c (.bool true)))])
 .ret)
def yxa : CCode :=
  (.region [
 kO 151 (.bin .add 72 (ci 1)),
 kO 72 (.mv 151)])
def ys3 : CCode :=
  (.seq (.region [
 kO 82 (.mv 10),
 kO 83 (.mv 6),
 kO 84 (.mv 13),
 kO 85 (.callv none true 83 [84]),
 kO 86 (.mv 1),
 kO 87 (.call none true 211 [82, 85, (.c (.str [102])), 86]),
 kO 81 (.mv 87),
 kO 88 (.ext 0 81),
 kO 89 (.ext 1 81),
 kO 90 (.ext 2 81),
 kO 16 (.new (some 3) [(.int .i64 0), (.str []), (.str [])]),
 kO 15 (.mv 88),
 kU (.st 3 16 89),
 kO 17 (.mv 90)])
 (.seq (.region [
 kO 92 (.mv 10),
 kO 93 (.mv 6),
 kO 94 (.mv 13),
 kO 95 (.callv none true 93 [94]),
 kO 96 (.mv 1),
 kO 97 (.call none true 213 [92, 95, (.c (.str [109])), 96]),
 kO 91 (.mv 97),
 kO 98 (.ext 0 91),
 kO 99 (.ext 1 91),
 kO 100 (.ext 2 91),
 kO 19 (.new (some 4) [(.int .i64 0), (.str []), (.str []), (.int .i64 0), (.int .i64 0), .nils, .nils, .nils]),
 kO 18 (.mv 98),
 kU (.st 8 19 99),
 kO 20 (.mv 100)])
 (.seq (.region [
 kO 101 (.mv 15),
 kO 102 (.mv 12),
 kO 103 (.bin .neq 101 102),
 kO 104 (.mv 103),
 kG 105 (.mv 18) 104 false,
 kG 106 (.mv 12) 104 false,
 kG 107 (.bin .neq 105 106) 104 false,
 kO 108 (.pick 104 (.c (.bool true)) 107),
 kO 109 (.mv 108),
 kG 110 (.mv 17) 109 false,
 kG 111 (.mv 12) 109 false,
 kG 112 (.bin .neq 111 (.c (.str []))) 109 false,
 kG 113 (.eqb true 110 112) 109 false,
 kO 114 (.pick 109 (.c (.bool true)) 113),
 kO 115 (.mv 114),
 kG 116 (.mv 20) 115 false,
 kG 117 (.mv 17) 115 false,
 kG 118 (.eqb true 116 117) 115 false,
 kO 119 (.pick 115 (.c (.bool true)) 118),
 kO 120 (.mv 119),
 kG 121 (.mv 10) 120 false,
 kG 122 (.mv 6) 120 false,
 kG 123 (.mv 13) 120 false,
 kG 124 (.callv none true 122 [123]) 120 false,
 kG 125 (.bin .add (.c (.str [76])) 124) 120 false,
 kG 126 (.bin .add 125 (.c (.str [59]))) 120 false,
 kG 127 (.mv 6) 120 false,
 kG 128 (.callv none true 127 [(ci 0)]) 120 false,
 kG 129 (.bin .add (.c (.str [76])) 128) 120 false,
 kG 130 (.bin .add 129 (.c (.str [59]))) 120 false,
 kG 131 (.call none true 3 [121, 126, 130]) 120 false,
 kG 132 (.un .not 131) 120 false,
 kO 133 (.pick 120 (.c (.bool true)) 132),
 kO 134 (.mv 133),
 kG 135 (.mv 13) 134 false,
 kG 136 (.bin .gtr 135 (ci 0)) 134 false,
 kG 137 (.mv 136) 134 false,
 kG 138 (.mv 10) 137 true,
 kG 139 (.mv 6) 137 true,
 kG 140 (.callv none true 139 [(ci 0)]) 137 true,
 kG 141 (.bin .add (.c (.str [76])) 140) 137 true,
 kG 142 (.bin .add 141 (.c (.str [59]))) 137 true,
 kG 143 (.mv 6) 137 true,
 kG 144 (.mv 13) 137 true,
 kG 145 (.callv none true 143 [144]) 137 true,
 kG 146 (.bin .add (.c (.str [76])) 145) 137 true,
 kG 147 (.bin .add 146 (.c (.str [59]))) 137 true,
 kG 148 (.call none true 3 [138, 142, 147]) 137 true,
 kG 149 (.pick 137 148 (.c (.bool false))) 134 false,
 kO 150 (.pick 134 (.c (.bool true)) 149)])
 (.cond 150
 (.seq (.region [
  kO 4 (.mv (.c (.bool false)))])
  .ret)
 .skip))))
def ys1 : CCode :=
  (.seq (.seq (.region [
 kO 77 (.mv 14)])
 (.cond 77
 (.region [
  kO 78 (.mv 6),
  kO 79 (.mv 13),
  kO 80 (.callv none true 78 [79]),
  kO 12 (.mv 80)])
 .skip))
 ys3)
def yxg : CCode :=
  (.seq (.region [
 kO 74 (.mv 72),
 kO 75 (.ixs 1 70 72),
 kO 76 (.ld false 1 75),
 kO 13 (.mv 74),
 kO 14 (.mv 76)])
 ys1)
def ytg : CCode :=
  (.block 3 yxg)
def yto : CCode :=
  (.seq ytg
 yxa)
def ywx : CCode :=
  (.seq (.cond 73
 .skip
 (.exit 2))
 yto)
def ynl : CCode :=
  (.seq (.region [
 kO 73 (.bin .lss 72 71)])
 ywx)
def yei : CCode :=
  (.loop [1, 6, 10, 12, 70, 71, 72] ynl)
def ynp : CCode :=
  (.block 2 yei)
def ylr : CCode :=
  (.seq (.region [
 kO 70 (.mv 0),
 kO 71 (.len 1 70),
 kO 72 (.mv (ci 0))])
 ynp)
def yld : CCode :=
  (.seq ylr
 yyx)
def yms : CCode :=
  (.seq (.region [
 kO 12 (.mv (.c (.str [])))])
 yld)
def ylh : CCode :=
  (.seq (.seq (.region [
 kO 68 (.mv 11),
 kO 69 (.bin .neq 68 (ci 0))])
 (.cond 69
 (.seq (.region [
  kO 4 (.mv (.c (.bool false)))])
  .ret)
 .skip))
 yms)
def ymp : CCode :=
  (.seq (.region [
 kO 64 (.mv 5),
 kO 65 (.call none true 1 [64]),
 kO 63 (.mv 65),
 kO 66 (.ext 0 63),
 kO 67 (.ext 1 63),
 kO 10 (.mv 66),
 kO 11 (.mv 67)])
 ylh)
def yj8 : CCode :=
  (.region [
 kO 62 (.bin .add 33 (ci 1)),
 kO 33 (.mv 62)])
def ynx : CCode :=
  (.region [
 kO 58 (.mv 5),
 kO 59 (.ld true 7 9),
 kO 60 (.buildS (some 1) 7 1 [(.int .i64 0), (.str []), (.str []), .nils, .nils, .nils, .nils] [(0, 59)]),
 kO 61 (.app (some 2) 7 136 58 60),
 kO 5 (.mv 61)])
def ylg : CCode :=
  (.seq (.seq (.region [
 kO 49 (.mv 8)])
 (.cond 49
 (.seq (.region [
  kO 50 (.mv 1),
  kO 51 (.build [(.int .i64 0), (.str []), (.str [])] [(1, 1, (.c (.str [102]))), (2, 1, 50)]),
  kO 52 (.buildS none 3 1 [(.int .i64 0), (.str []), (.str [])] [(0, 51)]),
  kO 53 (.fa 5 9),
  kU (.st 1 53 52)])
  (.region [
  kO 54 (.mv 1),
  kO 55 (.build [(.int .i64 0), (.str []), (.str []), (.int .i64 0), (.int .i64 0), .nils, .nils, .nils] [(1, 1, (.c (.str [109]))), (2, 1, 54)]),
  kO 56 (.buildS none 8 1 [(.int .i64 0), (.str []), (.str []), (.int .i64 0), (.int .i64 0), .nils, .nils, .nils] [(0, 55)]),
  kO 57 (.fa 6 9),
  kU (.st 1 57 56)]))
 .skip))
 ynx)
def yjv : CCode :=
  (.seq (.seq (.region [
 kO 42 (.mv 7),
 kO 43 (.bin .gtr 42 (ci 0))])
 (.cond 43
 (.region [
  kO 44 (.mv 6),
  kO 45 (.mv 7),
  kO 46 (.bin .sub 45 (ci 1)),
  kO 47 (.callv none true 44 [46]),
  kO 48 (.fa 2 9),
  kU (.st 1 48 47)])
 .skip))
 ylg)
def yng : CCode :=
  (.seq (.region [
 kO 38 (.mv 6),
 kO 39 (.mv 7),
 kO 40 (.callv none true 38 [39]),
 kO 41 (.build [(.int .i64 0), (.str []), (.str []), .nils, .nils, .nils, .nils] [(1, 1, 40), (2, 1, (.c (.str [79, 98, 106, 101, 99, 116])))]),
 kO 9 (.new (some 0) [(.int .i64 0), (.str []), (.str []), .nils, .nils, .nils, .nils]),
 kU (.st 7 9 41)])
 yjv)
def ynh : CCode :=
  (.seq (.region [
 kO 35 (.mv 33),
 kO 36 (.ixs 1 31 33),
 kO 37 (.ld false 1 36),
 kO 7 (.mv 35),
 kO 8 (.mv 37)])
 yng)
def yjm : CCode :=
  (.block 1 ynh)
def yjj : CCode :=
  (.seq yjm
 yj8)
def yjg : CCode :=
  (.seq (.cond 34
 .skip
 (.exit 0))
 yjj)
def ymx : CCode :=
  (.seq (.region [
 kO 34 (.bin .lss 33 32)])
 yjg)
def yaq : CCode :=
  (.loop [0, 1, 5, 6, 31, 32, 33] ymx)
def yo0 : CCode :=
  (.block 0 yaq)
def yml : CCode :=
  (.seq (.region [
 kO 31 (.mv 0),
 kO 32 (.len 1 31),
 kO 33 (.mv (ci 0))])
 yo0)
def yko : CCode :=
  (.seq yml
 ymp)
def yk3 : CCode :=
  (.seq (.region [
 kO 6 (.mv (.c (.fn 228 [])))])
 yko)
def yk1 : CCode :=
  (.seq (.region [
 kO 5 (.mv (.c .nils))])
 yk3)
def ylw : CCode :=
  (.seq (.seq (.region [
 kO 23 (.mv 0),
 kO 24 (.len 1 23),
 kO 25 (.bin .gtr 24 (ci 35)),
 kO 26 (.mv 25),
 kG 27 (.mv 0) 26 false,
 kG 28 (.len 1 27) 26 false,
 kG 29 (.bin .eql 28 (ci 0)) 26 false,
 kO 30 (.pick 26 (.c (.bool true)) 29)])
 (.cond 30
 (.seq (.region [
  kO 4 (.mv (.c (.bool true)))])
  .ret)
 .skip))
 yk1)
def ym5 : CCode :=
  (.seq (.seq (.region [
 kO 21 (.call none true 0 []),
 kO 22 (.un .not 21)])
 (.cond 22
 (.seq (.region [
  kO 4 (.mv (.c (.bool false)))])
  .ret)
 .skip))
 ylw)
def ymn : CCode :=
  (.seq (.region [
 kO 4 (.mv (.c (.bool false)))])
 ym5)
def y1ar : CFunc :=
  ⟨2, true, 5, ymn, [.t 4]⟩
def yyu : CCode :=
  (.seq (.region [
 kO 0 (.mv (.c (.bool false)))])
 (.seq (.region [
 kO 4 (.build [(.int .i64 0), (.str []), (.str []), .nils, .nils, .nils, .nils] [(1, 1, (.c (.str [97]))), (2, 1, (.c (.str [69, 120, 99, 101, 112, 116, 105, 111, 110])))]),
 kO 5 (.buildS (some 0) 7 1 [(.int .i64 0), (.str []), (.str []), .nils, .nils, .nils, .nils] [(0, 4)]),
 kO 6 (.call none true 1 [5]),
 kO 3 (.mv 6),
 kO 7 (.ext 0 3),
 kO 8 (.ext 1 3),
 kO 1 (.mv 7),
 kO 2 (.mv 8)])
 (.seq (.region [
 kO 9 (.mv 2),
 kO 10 (.bin .eql 9 (ci 0)),
 kO 11 (.mv 10),
 kG 12 (.mv 1) 11 true,
 kG 13 (.call none true 3 [12, (.c (.str [76, 97, 59])), (.c (.str [76, 84, 104, 114, 111, 119, 97, 98, 108, 101, 59]))]) 11 true,
 kO 14 (.pick 11 13 (.c (.bool false))),
 kO 15 (.mv 14),
 kG 16 (.mv 1) 15 true,
 kG 17 (.call none true 3 [16, (.c (.str [91, 76, 97, 59])), (.c (.str [91, 76, 79, 98, 106, 101, 99, 116, 59]))]) 15 true,
 kO 18 (.pick 15 17 (.c (.bool false))),
 kO 19 (.mv 18),
 kG 20 (.mv 1) 19 true,
 kG 21 (.call none true 3 [20, (.c (.str [91, 73])), (.c (.str [91, 76, 79, 98, 106, 101, 99, 116, 59]))]) 19 true,
 kG 22 (.un .not 21) 19 true,
 kO 23 (.pick 19 22 (.c (.bool false))),
 kO 24 (.mv 23),
 kG 25 (.mv 1) 24 true,
 kG 26 (.call none true 3 [25, (.c (.str [76, 79, 98, 106, 101, 99, 116, 59])), (.c (.str [76, 97, 59]))]) 24 true,
 kG 27 (.un .not 26) 24 true,
 kO 28 (.pick 24 27 (.c (.bool false))),
 kO 29 (.mv 28),
 kG 30 (.call none true 31 []) 29 true,
 kG 31 (.len 1 30) 29 true,
 kG 32 (.bin .eql 31 (ci 13)) 29 true,
 kO 33 (.pick 29 32 (.c (.bool false))),
 kO 34 (.mv 33),
 kG 35 (.call none true 32 [(.c (.str [83, 121, 115])), (.c (.str [101, 120, 105, 116])), (.c (.str [40, 73, 41, 86]))]) 34 true,
 kG 36 (.bin .eql 35 (ci 3)) 34 true,
 kO 37 (.pick 34 36 (.c (.bool false))),
 kO 0 (.mv 37)])
 .ret)))
def y1c9 : CFunc :=
  ⟨0, true, 1, yyu, [.t 0]⟩
def yw9 : CCode :=
  (.seq (.region [
 kO 129 (.mv 4),
 kO 2 (.mv 129),
 kO 3 (.mv (ci 0))])
 .ret)
def ywt : CCode :=
  (.region [
 kO 128 (.bin .add 119 (ci 1)),
 kO 119 (.mv 128)])
def yth : CCode :=
  (.seq (.block 9 (.seq (.region [
 kO 121 (.ixs 1 117 119),
 kO 122 (.ld false 1 121),
 kO 16 (.mv 122)])
 (.seq (.region [
 kO 123 (.mv 4),
 kO 124 (.mv 16),
 kO 125 (.mkm (some 12)),
 kO 126 (.call none false 62 [123, 124, 125]),
 kO 127 (.un .not 126)])
 (.cond 127
 (.seq (.region [
  kO 2 (.mv (.c .nilp)),
  kO 3 (.mv (ci 51))])
  .ret)
 .skip))))
 ywt)
def yte : CCode :=
  (.seq (.cond 120
 .skip
 (.exit 8))
 yth)
def ywv : CCode :=
  (.seq (.region [
 kO 120 (.bin .lss 119 118)])
 yte)
def yf1 : CCode :=
  (.loop [4, 117, 118, 119] ywv)
def ysi : CCode :=
  (.block 8 yf1)
def yvg : CCode :=
  (.seq (.region [
 kO 114 (.mv 4),
 kO 115 (.nilchk 114),
 kO 116 (.fa 1 115),
 kO 117 (.ld false 1 116),
 kO 118 (.len 1 117),
 kO 119 (.mv (ci 0))])
 ysi)
def yvy : CCode :=
  (.seq yvg
 yw9)
def yjq : CCode :=
  (.region [
 kO 113 (.bin .add 105 (ci 1)),
 kO 105 (.mv 113)])
def yo2 : CCode :=
  (.seq (.block 7 (.seq (.region [
 kO 107 (.ixs 7 103 105),
 kO 108 (.ld true 7 107),
 kO 14 (.new (some 11) [(.int .i64 0), (.str []), (.str []), .nils, .nils, .nils, .nils]),
 kU (.st 7 14 108)])
 (.seq (.region [
 kO 109 (.mv 4),
 kO 110 (.ld true 7 14),
 kO 111 (.call none true 61 [109, 110]),
 kO 112 (.un .not 111)])
 (.cond 112
 (.seq (.region [
  kO 2 (.mv (.c .nilp)),
  kO 3 (.mv (ci 50))])
  .ret)
 .skip))))
 yjq)
def yl4 : CCode :=
  (.seq (.cond 106
 .skip
 (.exit 6))
 yo2)
def ynf : CCode :=
  (.seq (.region [
 kO 106 (.bin .lss 105 104)])
 yl4)
def ybv : CCode :=
  (.loop [4, 103, 104, 105] ynf)
def ym1 : CCode :=
  (.block 6 ybv)
def yka : CCode :=
  (.seq (.region [
 kO 103 (.mv 0),
 kO 104 (.len 1 103),
 kO 105 (.mv (ci 0))])
 ym1)
def yo7 : CCode :=
  (.seq yka
 yvy)
def yk6 : CCode :=
  (.region [
 kO 102 (.bin .add 69 (ci 1)),
 kO 69 (.mv 102)])
def yno : CCode :=
  (.seq (.draw [
 kO 84 (.mv 4),
 kO 85 (.nilchk 84),
 kO 86 (.fa 0 85),
 kO 87 (.ld false 1 86),
 kO 88 (.fa 1 10),
 kO 89 (.ld false 1 88),
 kO 90 (.ld true 7 10),
 kU (.mput false [2] 87 89 90)] [])
 (.draw [
 kO 91 (.mv 4),
 kO 92 (.mv 4),
 kO 93 (.nilchk 92),
 kO 94 (.fa 1 93),
 kO 95 (.ld false 1 94),
 kO 96 (.fa 1 10),
 kO 97 (.ld false 1 96),
 kO 98 (.buildS (some 9) 1 1 [(.str [])] [(0, 97)]),
 kO 99 (.app (some 10) 1 16 95 98),
 kO 100 (.nilchk 91),
 kO 101 (.fa 1 100),
 kU (.st 1 101 99)] [(4, 7)]))
def yjo : CCode :=
  (.seq (.seq (.draw [
 kO 74 (.mv 4),
 kO 75 (.nilchk 74),
 kO 76 (.fa 0 75),
 kO 77 (.ld false 1 76),
 kO 78 (.fa 1 10),
 kO 79 (.ld false 1 78),
 kO 80 (.mget false [2] (.agg [(.int .i64 0), (.str []), (.str []), .nils, .nils, .nils, .nils]) true 77 79),
 kO 73 (.mv 80),
 kO 81 (.ext 0 73),
 kO 82 (.ext 1 73),
 kO 11 (.new (some 8) [(.int .i64 0), (.str []), (.str []), .nils, .nils, .nils, .nils]),
 kU (.st 7 11 81),
 kO 12 (.mv 82)] [(3, 10), (5, 10), (6, 10)])
 (.seq (.region [
 kO 83 (.mv 12)])
 (.cond 83
 (.seq (.region [
  kO 2 (.mv (.c .nilp)),
  kO 3 (.mv (ci 23))])
  .ret)
 .skip)))
 yno)
def ykp : CCode :=
  (.seq (.region [
 kO 71 (.ixs 7 67 69),
 kO 72 (.ld true 7 71),
 kO 10 (.new (some 7) [(.int .i64 0), (.str []), (.str []), .nils, .nils, .nils, .nils]),
 kU (.st 7 10 72)])
 yjo)
def yjd : CCode :=
  (.block 5 ykp)
def ykh : CCode :=
  (.seq yjd
 yk6)
def yl8 : CCode :=
  (.seq (.cond 70
 .skip
 (.exit 4))
 ykh)
def yls : CCode :=
  (.seq (.region [
 kO 70 (.bin .lss 69 68)])
 yl8)
def yc7 : CCode :=
  (.loop [0, 4, 67, 68, 69] yls)
def yki : CCode :=
  (.block 4 yc7)
def ynt : CCode :=
  (.seq (.region [
 kO 67 (.mv 0),
 kO 68 (.len 1 67),
 kO 69 (.mv (ci 0))])
 yki)
def ykt : CCode :=
  (.seq ynt
 yo7)
def ymz : CCode :=
  (.region [
 kO 66 (.bin .add 58 (ci 1)),
 kO 58 (.mv 66)])
def ym7 : CCode :=
  (.seq (.block 3 (.seq (.region [
 kO 60 (.ixs 7 56 58),
 kO 61 (.ld true 7 60),
 kO 8 (.new (some 6) [(.int .i64 0), (.str []), (.str []), .nils, .nils, .nils, .nils]),
 kU (.st 7 8 61)])
 (.seq (.region [
 kO 62 (.fa 1 8),
 kO 63 (.ld false 1 62),
 kO 64 (.call none true 60 [63, (.c (.bool false))]),
 kO 65 (.un .not 64)])
 (.cond 65
 (.seq (.region [
  kO 2 (.mv (.c .nilp)),
  kO 3 (.mv (ci 20))])
  .ret)
 .skip))))
 ymz)
def yke : CCode :=
  (.seq (.cond 59
 .skip
 (.exit 2))
 ym7)
def ymd : CCode :=
  (.seq (.region [
 kO 59 (.bin .lss 58 57)])
 yke)
def yc1 : CCode :=
  (.loop [0, 4, 56, 57, 58] ymd)
def ymy : CCode :=
  (.block 2 yc1)
def yjh : CCode :=
  (.seq (.region [
 kO 56 (.mv 0),
 kO 57 (.len 1 56),
 kO 58 (.mv (ci 0))])
 ymy)
def yk8 : CCode :=
  (.seq yjh
 ykt)
def ym6 : CCode :=
  (.region [
 kO 55 (.bin .add 26 (ci 1)),
 kO 26 (.mv 55)])
def ym9 : CCode :=
  (.seq (.block 1 (.seq (.region [
 kO 28 (.ixs 2 24 26),
 kO 29 (.ld true 2 28),
 kO 6 (.new (some 3) [(.str []), (.str [])]),
 kU (.st 2 6 29)])
 (.seq (.draw [
 kO 30 (.mv 4),
 kO 31 (.nilchk 30),
 kO 32 (.fa 0 31),
 kO 33 (.ld false 1 32),
 kO 34 (.ixa 2 1 6 (ci 0)),
 kO 35 (.ld false 1 34),
 kO 36 (.ixa 2 1 6 (ci 0)),
 kO 37 (.ld false 1 36),
 kO 38 (.ixa 2 1 6 (ci 1)),
 kO 39 (.ld false 1 38),
 kO 40 (.ixa 2 1 6 (ci 0)),
 kO 41 (.ld false 1 40),
 kO 42 (.call none true 43 [41]),
 kO 43 (.build [(.int .i64 0), (.str []), (.str []), .nils, .nils, .nils, .nils] [(1, 1, 37), (2, 1, 39), (6, 1, 42)]),
 kU (.mput false [2] 33 35 43)] [(3, 12), (5, 12), (7, 12), (9, 12)])
 (.draw [
 kO 44 (.mv 4),
 kO 45 (.mv 4),
 kO 46 (.nilchk 45),
 kO 47 (.fa 1 46),
 kO 48 (.ld false 1 47),
 kO 49 (.ixa 2 1 6 (ci 0)),
 kO 50 (.ld false 1 49),
 kO 51 (.buildS (some 4) 1 1 [(.str [])] [(0, 50)]),
 kO 52 (.app (some 5) 1 16 48 51),
 kO 53 (.nilchk 44),
 kO 54 (.fa 1 53),
 kU (.st 1 54 52)] [(4, 7)]))))
 ym6)
def ymo : CCode :=
  (.seq (.cond 27
 .skip
 (.exit 0))
 ym9)
def ylz : CCode :=
  (.seq (.region [
 kO 27 (.bin .lss 26 25)])
 ymo)
def yb0 : CCode :=
  (.loop [0, 4, 24, 25, 26] ylz)
def ym4 : CCode :=
  (.block 0 yb0)
def yjx : CCode :=
  (.seq (.region [
 kO 24 (.call none true 33 []),
 kO 25 (.len 1 24),
 kO 26 (.mv (ci 0))])
 ym4)
def ykl : CCode :=
  (.seq yjx
 yk8)
def yl5 : CCode :=
  (.seq (.region [
 kO 20 (.mkm (some 0)),
 kO 21 (.mkm (some 1)),
 kO 22 (.build [.nilm, .nils, .nilm] [(0, 1, 20), (2, 1, 21)]),
 kO 23 (.box (some 2) 22),
 kO 4 (.mv 23)])
 ykl)
def yjw : CCode :=
  (.seq (.seq (.region [
 kO 17 (.mv 0),
 kO 18 (.len 1 17),
 kO 19 (.bin .gtr 18 (ci 40))])
 (.cond 19
 (.seq (.region [
  kO 2 (.mv (.c .nilp)),
  kO 3 (.mv (ci 2))])
  .ret)
 .skip))
 yl5)
def ync : CCode :=
  (.seq (.region [
 kO 2 (.mv (.c .nilp)),
 kO 3 (.mv (ci 0))])
 yjw)
def y1da : CFunc :=
  ⟨1, true, 13, ync, [.t 2, .t 3]⟩
def y15v : CCode :=
  (.seq (.region [
 kO 27 (.mv 3),
 kO 28 (.bin .lss 27 (ci 3000)),
 kO 2 (.mv 28)])
 .ret)
def y15m : CCode :=
  (.region [
 kO 26 (.bin .add 8 (ci 1)),
 kO 8 (.mv 26)])
def y15e : CCode :=
  (.seq (.block 1 (.seq (.region [
 kO 10 (.ixs 7 6 8),
 kO 11 (.ld true 7 10),
 kO 5 (.new (some 0) [(.int .i64 0), (.str []), (.str []), .nils, .nils, .nils, .nils]),
 kU (.st 7 5 11)])
 (.region [
 kO 12 (.mv 3),
 kO 13 (.fa 3 5),
 kO 14 (.ld false 1 13),
 kO 15 (.len 1 14),
 kO 16 (.bin .add (ci 1) 15),
 kO 17 (.fa 5 5),
 kO 18 (.ld false 1 17),
 kO 19 (.len 1 18),
 kO 20 (.bin .add 16 19),
 kO 21 (.fa 6 5),
 kO 22 (.ld false 1 21),
 kO 23 (.len 1 22),
 kO 24 (.bin .add 20 23),
 kO 25 (.bin .add 12 24),
 kO 3 (.mv 25)])))
 y15m)
def y189 : CCode :=
  (.seq (.cond 9
 .skip
 (.exit 0))
 y15e)
def y156 : CCode :=
  (.seq (.region [
 kO 9 (.bin .lss 8 7)])
 y189)
def y121 : CCode :=
  (.loop [3, 6, 7, 8] y156)
def y15b : CCode :=
  (.block 0 y121)
def y199 : CCode :=
  (.seq (.region [
 kO 6 (.mv 0),
 kO 7 (.len 1 6),
 kO 8 (.mv (ci 0))])
 y15b)
def y180 : CCode :=
  (.seq y199
 y15v)
def y0k : CCode :=
  (.seq (.region [
 kO 3 (.mv (ci 0))])
 y180)
def y11h : CCode :=
  (.seq (.region [
 kO 2 (.mv (.c (.bool false)))])
 y0k)
def y1en : CFunc :=
  ⟨1, true, 1, y11h, [.t 2]⟩
def ytn : CCode :=
  (.seq (.region [
 kO 54 (.mv 1),
 kO 55 (.call none true 36 [54]),
 kO 56 (.mv 2),
 kO 57 (.call none true 36 [56]),
 kO 9 (.mv 55),
 kO 10 (.mv 57)])
 (.seq (.region [
 kO 58 (.mv 9),
 kO 59 (.bin .neq 58 (.c (.str []))),
 kO 60 (.mv 59),
 kG 61 (.mv 10) 60 true,
 kG 62 (.bin .neq 61 (.c (.str []))) 60 true,
 kO 63 (.pick 60 62 (.c (.bool false))),
 kO 64 (.mv 63),
 kG 65 (.mv 9) 64 true,
 kG 66 (.call none true 34 [65]) 64 true,
 kG 67 (.bin .eql 66 (ci 3)) 64 true,
 kO 68 (.pick 64 67 (.c (.bool false))),
 kO 69 (.mv 68),
 kG 70 (.mv 0) 69 true,
 kG 71 (.mv 9) 69 true,
 kG 72 (.mv 10) 69 true,
 kG 73 (.call none true 3 [70, 71, 72]) 69 true,
 kO 74 (.pick 69 73 (.c (.bool false))),
 kO 6 (.mv 74)])
 .ret))
def yq1 : CCode :=
  (.seq (.region [
 kO 40 (.mv 1),
 kO 41 (.call none true 35 [40]),
 kO 8 (.mv 41)])
 (.seq (.region [
 kO 42 (.mv 8),
 kO 43 (.bin .neq 42 (.c (.str []))),
 kO 44 (.mv 43),
 kG 45 (.mv 0) 44 true,
 kG 46 (.nilchk 45) 44 true,
 kG 47 (.fa 2 46) 44 true,
 kG 48 (.ld false 1 47) 44 true,
 kG 49 (.mv 8) 44 true,
 kG 50 (.mget false [2] .nilm false 48 49) 44 true,
 kG 51 (.mv 7) 44 true,
 kG 52 (.mget false [2] (.bool false) false 50 51) 44 true,
 kO 53 (.pick 44 52 (.c (.bool false))),
 kO 6 (.mv 53)])
 .ret))
def yww : CCode :=
  (.seq (.seq (.region [
 kO 35 (.mv 1),
 kO 36 (.ixstr 35 (ci 0)),
 kO 37 (.bin .eql 36 (.c (.int .u8 91)))])
 (.cond 37
 (.seq (.region [
  kO 38 (.mv 7),
  kO 39 (.bin .eql 38 (.c (.str [79, 98, 106, 101, 99, 116]))),
  kO 6 (.mv 39)])
  .ret)
 .skip))
 yq1)
def ywr : CCode :=
  (.cond 34
 yww
 .skip)
def ysv : CCode :=
  (.seq (.region [
 kO 33 (.mv 7),
 kO 34 (.bin .neq 33 (.c (.str [])))])
 ywr)
def yyk : CCode :=
  (.seq (.region [
 kO 31 (.mv 2),
 kO 32 (.call none true 35 [31]),
 kO 7 (.mv 32)])
 ysv)
def yy3 : CCode :=
  (.seq yyk
 ytn)
def yts : CCode :=
  (.seq (.block 0 (.seq (.region [
 kO 12 (.mv 2),
 kO 13 (.bin .eql 12 (.c (.str []))),
 kO 11 (.mv 13)])
 (.cond 11
 (.seq (.region [
  kO 6 (.mv (.c (.bool true)))])
  .ret)
 (.seq (.region [
  kO 15 (.mv 0),
  kO 16 (.eqn 0 false 15 (.c .nilp)),
  kO 17 (.mv 16),
  kG 18 (.mv 1) 17 false,
  kG 19 (.bin .eql 18 (.c (.str []))) 17 false,
  kO 20 (.pick 17 (.c (.bool true)) 19),
  kO 14 (.mv 20)])
  (.cond 14
  (.seq (.region [
   kO 6 (.mv (.c (.bool false)))])
   .ret)
  (.seq (.region [
   kO 22 (.mv 1),
   kO 23 (.mv 2),
   kO 24 (.bin .eql 22 23),
   kO 21 (.mv 24)])
   (.cond 21
   (.seq (.region [
    kO 6 (.mv (.c (.bool true)))])
    .ret)
   (.seq (.region [
    kO 26 (.mv 1),
    kO 27 (.bin .eql 26 (.c (.str [78]))),
    kO 25 (.mv 27)])
    (.cond 25
    (.seq (.region [
     kO 28 (.mv 2),
     kO 29 (.call none true 34 [28]),
     kO 30 (.bin .eql 29 (ci 3)),
     kO 6 (.mv 30)])
     .ret)
    .skip)))))))))
 yy3)
def yx7 : CCode :=
  (.seq (.region [
 kO 6 (.mv (.c (.bool false)))])
 yts)
def y1c4 : CFunc :=
  ⟨3, true, 0, yx7, [.t 6]⟩
def y15t : CCode :=
  (.seq (.region [
 kO 4 (.mv (.c (.bool true)))])
 .ret)
def y18s : CCode :=
  (.seq (.seq (.region [
 kO 20 (.mv 1),
 kO 21 (.call none true 35 [20]),
 kO 5 (.mv 21)])
 (.seq (.region [
 kO 22 (.mv 5),
 kO 23 (.bin .neq 22 (.c (.str [])))])
 (.cond 23
 (.seq (.region [
  kO 25 (.mv 0),
  kO 26 (.nilchk 25),
  kO 27 (.fa 0 26),
  kO 28 (.ld false 1 27),
  kO 29 (.mv 5),
  kO 30 (.mget false [2] (.agg [(.int .i64 0), (.str []), (.str []), .nils, .nils, .nils, .nils]) true 28 29),
  kO 24 (.mv 30),
  kO 31 (.ext 0 24),
  kO 32 (.ext 1 24),
  kO 6 (.new (some 0) [(.int .i64 0), (.str []), (.str []), .nils, .nils, .nils, .nils]),
  kU (.st 7 6 31),
  kO 7 (.mv 32)])
  (.seq (.region [
  kO 33 (.mv 7),
  kO 4 (.mv 33)])
  .ret))
 .skip)))
 y15t)
def y19t : CCode :=
  (.block 1 (.region [
 kO 18 (.mv 1),
 kO 19 (.sls 18 (some (ci 1)) none),
 kO 1 (.mv 19)]))
def y14y : CCode :=
  (.seq (.seq (.region [
 kO 15 (.mv 1),
 kO 16 (.ixstr 15 (ci 0)),
 kO 17 (.bin .eql 16 (.c (.int .u8 91)))])
 (.cond 17
 .skip
 (.exit 0)))
 y19t)
def y122 : CCode :=
  (.loop [0, 1] y14y)
def y191 : CCode :=
  (.block 0 y122)
def y16u : CCode :=
  (.seq y191
 y18s)
def y17g : CCode :=
  (.seq (.seq (.region [
 kO 8 (.mv 0),
 kO 9 (.eqn 0 false 8 (.c .nilp)),
 kO 10 (.mv 9),
 kG 11 (.mv 1) 10 false,
 kG 12 (.call none true 37 [11]) 10 false,
 kG 13 (.un .not 12) 10 false,
 kO 14 (.pick 10 (.c (.bool true)) 13)])
 (.cond 14
 (.seq (.region [
  kO 4 (.mv (.c (.bool false)))])
  .ret)
 .skip))
 y16u)
def y17f : CCode :=
  (.seq (.region [
 kO 4 (.mv (.c (.bool false)))])
 y17g)
def y1ez : CFunc :=
  ⟨2, true, 1, y17f, [.t 4]⟩
def y154 : CCode :=
  (.seq (.region [
 kO 5 (.mv 0),
 kO 6 (.nilchk 5),
 kO 7 (.fa 1 6),
 kO 8 (.ld false 1 7),
 kO 9 (.app (some 0) 1 16 (.c .nils) 8),
 kO 2 (.mv 9)])
 .ret)
def y19i : CCode :=
  (.seq (.seq (.region [
 kO 3 (.mv 0),
 kO 4 (.eqn 0 false 3 (.c .nilp))])
 (.cond 4
 (.seq (.region [
  kO 2 (.mv (.c .nils))])
  .ret)
 .skip))
 y154)
def y181 : CCode :=
  (.seq (.region [
 kO 2 (.mv (.c .nils))])
 y19i)
def y1g5 : CFunc :=
  ⟨1, true, 1, y181, [.t 2]⟩
def y165 : CCode :=
  (.seq (.region [
 kO 12 (.mv 0),
 kO 13 (.nilchk 12),
 kO 14 (.fa 0 13),
 kO 15 (.ld false 1 14),
 kO 16 (.mv 1),
 kO 17 (.mget false [2] (.agg [(.int .i64 0), (.str []), (.str []), .nils, .nils, .nils, .nils]) true 15 16),
 kO 11 (.mv 17),
 kO 18 (.ext 0 11),
 kO 19 (.ext 1 11),
 kO 6 (.new (some 1) [(.int .i64 0), (.str []), (.str []), .nils, .nils, .nils, .nils]),
 kU (.st 7 6 18),
 kO 7 (.mv 19)])
 (.seq (.region [
 kO 20 (.ld true 7 6),
 kO 21 (.mv 7),
 kU (.st 7 4 20),
 kO 5 (.mv 21)])
 .ret))
def y16t : CCode :=
  (.seq (.seq (.region [
 kO 8 (.mv 0),
 kO 9 (.eqn 0 false 8 (.c .nilp))])
 (.cond 9
 (.seq (.region [
  kO 10 (.build [(.int .i64 0), (.str []), (.str []), .nils, .nils, .nils, .nils] []),
  kU (.st 7 4 10),
  kO 5 (.mv (.c (.bool false)))])
  .ret)
 .skip))
 y165)
def y16a : CCode :=
  (.seq (.region [
 kO 4 (.new (some 0) [(.int .i64 0), (.str []), (.str []), .nils, .nils, .nils, .nils]),
 kO 5 (.mv (.c (.bool false)))])
 y16t)
def y1es : CFunc :=
  ⟨2, true, 2, y16a, [.cell 4 true 7, .t 5]⟩
def yve : CCode :=
  (.seq (.region [
 kO 26 (.mv 5),
 kO 4 (.mv 26)])
 .ret)
def yuj : CCode :=
  (.region [
 kO 20 (.mv 5),
 kO 21 (.mv 6),
 kO 22 (.buildS (some 0) 1 1 [(.str [])] [(0, 21)]),
 kO 23 (.app (some 1) 1 16 20 22),
 kO 5 (.mv 23)])
def ysf : CCode :=
  (.mrange [
 kO 9 (.mv 0),
 kO 10 (.nilchk 9),
 kO 11 (.fa 2 10),
 kO 12 (.ld false 1 11),
 kO 13 (.mv 1),
 kO 14 (.mget false [2] .nilm false 12 13)] 14 [] [5] 18 [
 kO 19 (.ext 0 18),
 kO 6 (.mv 19)] (.kill [0] yuj) [
 kO 24 (.mv 5),
 kO 25 (.call none false 180 [24])] yve)
def ypm : CCode :=
  (.seq (.region [
 kO 5 (.mv (.c .nils))])
 ysf)
def yrb : CCode :=
  (.seq (.seq (.region [
 kO 7 (.mv 0),
 kO 8 (.eqn 0 false 7 (.c .nilp))])
 (.cond 8
 (.seq (.region [
  kO 4 (.mv (.c .nils))])
  .ret)
 .skip))
 ypm)
def ywq : CCode :=
  (.seq (.region [
 kO 4 (.mv (.c .nils))])
 yrb)
def y1co : CFunc :=
  ⟨2, true, 2, ywq, [.t 4]⟩
def ypx : CCode :=
  (.seq (.region [
 kO 2 (.mv (.c (.str [])))])
 (.seq (.region [
 kO 3 (.mv 0),
 kO 4 (.bin .quo 3 (ci 10)),
 kO 5 (.bin .add (ci 97) 4),
 kO 6 (.cvi .u8 5),
 kO 7 (.mv 0),
 kO 8 (.bin .rem 7 (ci 10)),
 kO 9 (.bin .add (ci 48) 8),
 kO 10 (.cvi .u8 9),
 kO 11 (.buildS (some 0) 1 3 [(.int .u8 0)] [(0, (.c (.int .u8 107))), (1, 6), (2, 10)]),
 kO 12 (.b2s 11),
 kO 2 (.mv 12)])
 .ret))
def y1aj : CFunc :=
  ⟨1, true, 1, ypx, [.t 2]⟩
def yy5 : CCode :=
  (.seq (.region [
 kO 47 (.build [(.int .i64 0), (.str []), (.str [])] []),
 kO 8 (.mv (.c (.str []))),
 kU (.st 3 9 47),
 kO 10 (.mv (.c (.bool false)))])
 .ret)
def yxk : CCode :=
  (.region [
 kO 45 (.fa 2 11),
 kO 46 (.ld false 1 45),
 kO 1 (.mv 46)])
def yza : CCode :=
  (.region [
 kO 44 (.bin .add 28 (ci 1)),
 kO 28 (.mv 44)])
def yqj : CCode :=
  (.seq (.block 3 (.seq (.region [
 kO 30 (.ixs 3 26 28),
 kO 31 (.ld true 3 30),
 kO 13 (.new (some 2) [(.int .i64 0), (.str []), (.str [])]),
 kU (.st 3 13 31)])
 (.seq (.region [
 kO 32 (.fa 1 13),
 kO 33 (.ld false 1 32),
 kO 34 (.mv 2),
 kO 35 (.bin .eql 33 34),
 kO 36 (.mv 35),
 kG 37 (.fa 2 13) 36 true,
 kG 38 (.ld false 1 37) 36 true,
 kG 39 (.mv 3) 36 true,
 kG 40 (.bin .eql 38 39) 36 true,
 kO 41 (.pick 36 40 (.c (.bool false)))])
 (.cond 41
 (.seq (.draw [
  kO 42 (.mv 1),
  kO 43 (.ld true 3 13),
  kO 8 (.mv 42),
  kU (.st 3 9 43),
  kO 10 (.mv (.c (.bool true)))] [])
  .ret)
 .skip))))
 yza)
def yw1 : CCode :=
  (.seq (.cond 29
 .skip
 (.exit 2))
 yqj)
def yyt : CCode :=
  (.seq (.region [
 kO 29 (.bin .lss 28 27)])
 yw1)
def yeg : CCode :=
  (.loop [0, 1, 2, 3, 9, 11, 26, 27, 28] yyt)
def yyz : CCode :=
  (.block 2 yeg)
def yks : CCode :=
  (.seq (.region [
 kO 25 (.fa 5 11),
 kO 26 (.ld false 1 25),
 kO 27 (.len 1 26),
 kO 28 (.mv (ci 0))])
 yyz)
def ykn : CCode :=
  (.seq yks
 yxk)
def ymt : CCode :=
  (.seq (.region [
 kO 19 (.mv 0),
 kO 20 (.nilchk 19),
 kO 21 (.fa 0 20),
 kO 22 (.ld false 1 21),
 kO 23 (.mv 1),
 kO 24 (.mget false [2] (.agg [(.int .i64 0), (.str []), (.str []), .nils, .nils, .nils, .nils]) false 22 23),
 kO 11 (.new (some 1) [(.int .i64 0), (.str []), (.str []), .nils, .nils, .nils, .nils]),
 kU (.st 7 11 24)])
 ykn)
def ykc : CCode :=
  (.block 1 ymt)
def yn4 : CCode :=
  (.seq (.seq (.region [
 kO 17 (.mv 1),
 kO 18 (.bin .neq 17 (.c (.str [])))])
 (.cond 18
 .skip
 (.exit 0)))
 ykc)
def yeh : CCode :=
  (.loop [0, 1, 2, 3, 9] yn4)
def yne : CCode :=
  (.block 0 yeh)
def yna : CCode :=
  (.seq yne
 yy5)
def ymb : CCode :=
  (.seq (.seq (.region [
 kO 14 (.mv 0),
 kO 15 (.eqn 0 false 14 (.c .nilp))])
 (.cond 15
 (.seq (.region [
  kO 16 (.build [(.int .i64 0), (.str []), (.str [])] []),
  kO 8 (.mv (.c (.str []))),
  kU (.st 3 9 16),
  kO 10 (.mv (.c (.bool false)))])
  .ret)
 .skip))
 yna)
def yni : CCode :=
  (.seq (.region [
 kO 8 (.mv (.c (.str []))),
 kO 9 (.new (some 0) [(.int .i64 0), (.str []), (.str [])]),
 kO 10 (.mv (.c (.bool false)))])
 ymb)
def y1cb : CFunc :=
  ⟨4, true, 3, yni, [.t 8, .cell 9 true 3, .t 10]⟩
def ypr : CCode :=
  (.seq (.region [
 kO 70 (.build [(.int .i64 0), (.str []), (.str []), (.int .i64 0), (.int .i64 0), .nils, .nils, .nils] []),
 kO 8 (.mv (.c (.str []))),
 kU (.st 8 9 70),
 kO 10 (.mv (.c (.bool false)))])
 .ret)
def yxd : CCode :=
  (.region [
 kO 69 (.bin .add 40 (ci 1)),
 kO 40 (.mv 69)])
def yx1 : CCode :=
  (.region [
 kO 68 (.bin .add 52 (ci 1)),
 kO 52 (.mv 68)])
def ys0 : CCode :=
  (.seq (.block 5 (.seq (.region [
 kO 54 (.ixs 8 50 52),
 kO 55 (.ld true 8 54),
 kO 16 (.new (some 4) [(.int .i64 0), (.str []), (.str []), (.int .i64 0), (.int .i64 0), .nils, .nils, .nils]),
 kU (.st 8 16 55)])
 (.seq (.region [
 kO 56 (.fa 1 16),
 kO 57 (.ld false 1 56),
 kO 58 (.mv 2),
 kO 59 (.bin .eql 57 58),
 kO 60 (.mv 59),
 kG 61 (.fa 2 16) 60 true,
 kG 62 (.ld false 1 61) 60 true,
 kG 63 (.mv 3) 60 true,
 kG 64 (.bin .eql 62 63) 60 true,
 kO 65 (.pick 60 64 (.c (.bool false)))])
 (.cond 65
 (.seq (.draw [
  kO 66 (.mv 14),
  kO 67 (.ld true 8 16),
  kO 8 (.mv 66),
  kU (.st 8 9 67),
  kO 10 (.mv (.c (.bool true)))] [])
  .ret)
 .skip))))
 yx1)
def ytd : CCode :=
  (.seq (.cond 53
 .skip
 (.exit 4))
 ys0)
def yz7 : CCode :=
  (.seq (.region [
 kO 53 (.bin .lss 52 51)])
 ytd)
def yec : CCode :=
  (.loop [0, 2, 3, 9, 14, 38, 39, 40, 50, 51, 52] yz7)
def ys2 : CCode :=
  (.block 4 yec)
def yk9 : CCode :=
  (.seq (.region [
 kO 44 (.mv 0),
 kO 45 (.nilchk 44),
 kO 46 (.fa 0 45),
 kO 47 (.ld false 1 46),
 kO 48 (.mv 14),
 kO 49 (.mget false [2] (.agg [(.int .i64 0), (.str []), (.str []), .nils, .nils, .nils, .nils]) false 47 48),
 kO 50 (.fld false 6 1 49),
 kO 51 (.len 1 50),
 kO 52 (.mv (ci 0))])
 ys2)
def ylt : CCode :=
  (.seq (.region [
 kO 42 (.ixs 1 38 40),
 kO 43 (.ld false 1 42),
 kO 14 (.mv 43)])
 yk9)
def yo3 : CCode :=
  (.block 3 ylt)
def ymu : CCode :=
  (.seq yo3
 yxd)
def yjs : CCode :=
  (.seq (.cond 41
 .skip
 (.exit 2))
 ymu)
def ymk : CCode :=
  (.seq (.region [
 kO 41 (.bin .lss 40 39)])
 yjs)
def yf8 : CCode :=
  (.loop [0, 2, 3, 9, 38, 39, 40] ymk)
def yk0 : CCode :=
  (.block 2 yf8)
def yjl : CCode :=
  (.seq (.region [
 kO 34 (.mv 11),
 kO 35 (.mv 0),
 kO 36 (.mv 1),
 kO 37 (.call none true 179 [35, 36]),
 kO 38 (.app (some 3) 1 16 34 37),
 kO 39 (.len 1 38),
 kO 40 (.mv (ci 0))])
 yk0)
def ykr : CCode :=
  (.seq yjl
 ypr)
def yla : CCode :=
  (.region [
 kO 23 (.mv 0),
 kO 24 (.nilchk 23),
 kO 25 (.fa 0 24),
 kO 26 (.ld false 1 25),
 kO 27 (.mv 12),
 kO 28 (.mget false [2] (.agg [(.int .i64 0), (.str []), (.str []), .nils, .nils, .nils, .nils]) false 26 27),
 kO 29 (.fld false 2 1 28),
 kO 12 (.mv 29)])
def ykw : CCode :=
  (.seq (.block 1 (.region [
 kO 30 (.mv 11),
 kO 31 (.mv 12),
 kO 32 (.buildS (some 1) 1 1 [(.str [])] [(0, 31)]),
 kO 33 (.app (some 2) 1 16 30 32),
 kO 11 (.mv 33)]))
 yla)
def yjc : CCode :=
  (.seq (.seq (.region [
 kO 21 (.mv 12),
 kO 22 (.bin .neq 21 (.c (.str [])))])
 (.cond 22
 .skip
 (.exit 0)))
 ykw)
def ycl : CCode :=
  (.loop [0, 1, 2, 3, 9, 11, 12] yjc)
def yl1 : CCode :=
  (.block 0 ycl)
def yo8 : CCode :=
  (.seq (.region [
 kO 20 (.mv 1),
 kO 12 (.mv 20)])
 yl1)
def ykd : CCode :=
  (.seq yo8
 ykr)
def yku : CCode :=
  (.seq (.region [
 kO 11 (.mv (.c .nils))])
 ykd)
def yk7 : CCode :=
  (.seq (.seq (.region [
 kO 17 (.mv 0),
 kO 18 (.eqn 0 false 17 (.c .nilp))])
 (.cond 18
 (.seq (.region [
  kO 19 (.build [(.int .i64 0), (.str []), (.str []), (.int .i64 0), (.int .i64 0), .nils, .nils, .nils] []),
  kO 8 (.mv (.c (.str []))),
  kU (.st 8 9 19),
  kO 10 (.mv (.c (.bool false)))])
  .ret)
 .skip))
 yku)
def yn3 : CCode :=
  (.seq (.region [
 kO 8 (.mv (.c (.str []))),
 kO 9 (.new (some 0) [(.int .i64 0), (.str []), (.str []), (.int .i64 0), (.int .i64 0), .nils, .nils, .nils]),
 kO 10 (.mv (.c (.bool false)))])
 yk7)
def y1b3 : CFunc :=
  ⟨4, true, 5, yn3, [.t 8, .cell 9 true 8, .t 10]⟩
def y1fk : CFunc :=
  ⟨0, true, 3, (.seq (.region [
    kO 0 (.mv (.c .nils))])
  (.seq (.region [
    kO 1 (.mv (.c .nils))])
  (.seq (.seq (.region [
    kO 4 (.call none true 33 []),
    kO 5 (.len 1 4),
    kO 6 (.mv (ci 0))])
  (.block 0 (.loop [1, 4, 5, 6] (.seq (.region [
      kO 7 (.bin .lss 6 5)])
    (.seq (.cond 7
    .skip
    (.exit 0))
    (.seq (.block 1 (.seq (.region [
      kO 8 (.ixs 2 4 6),
      kO 9 (.ld true 2 8),
      kO 3 (.new (some 0) [(.str []), (.str [])]),
      kU (.st 2 3 9)])
    (.region [
      kO 10 (.mv 1),
      kO 11 (.ixa 2 1 3 (ci 0)),
      kO 12 (.ld false 1 11),
      kO 13 (.buildS (some 1) 1 1 [(.str [])] [(0, 12)]),
      kO 14 (.app (some 2) 1 16 10 13),
      kO 1 (.mv 14)])))
    (.region [
      kO 15 (.bin .add 6 (ci 1)),
      kO 6 (.mv 15)])))))))
  (.seq (.region [
    kO 16 (.mv 1),
    kO 0 (.mv 16)])
  .ret)))), [.t 0]⟩
def y1eq : CFunc :=
  ⟨3, true, 1, (.seq (.region [
    kO 6 (.mv (ci 0))])
  (.seq (.region [
    kO 7 (.mv (ci 0))])
  (.seq (.seq (.region [
    kO 10 (.mv 0),
    kO 11 (.bin .eql 10 (.c (.str [83, 116, 114, 105, 110, 103])))])
  (.cond 11
  (.region [
      kO 7 (.mv (ci 4))])
  .skip))
  (.seq (.seq (.region [
    kO 12 (.mv 0),
    kO 13 (.call none true 43 [12]),
    kO 14 (.len 1 13),
    kO 15 (.mv (ci 0))])
  (.block 0 (.loop [1, 2, 7, 13, 14, 15] (.seq (.region [
      kO 16 (.bin .lss 15 14)])
    (.seq (.cond 16
    .skip
    (.exit 0))
    (.seq (.block 1 (.seq (.region [
      kO 17 (.mv 15),
      kO 18 (.ixs 8 13 15),
      kO 19 (.ld true 8 18),
      kO 9 (.new (some 0) [(.int .i64 0), (.str []), (.str []), (.int .i64 0), (.int .i64 0), .nils, .nils, .nils]),
      kO 8 (.mv 17),
      kU (.st 8 9 19)])
    (.seq (.region [
      kO 20 (.fa 1 9),
      kO 21 (.ld false 1 20),
      kO 22 (.mv 1),
      kO 23 (.bin .eql 21 22),
      kO 24 (.mv 23),
      kG 25 (.fa 2 9) 24 true,
      kG 26 (.ld false 1 25) 24 true,
      kG 27 (.mv 2) 24 true,
      kG 28 (.bin .eql 26 27) 24 true,
      kO 29 (.pick 24 28 (.c (.bool false)))])
    (.cond 29
    (.seq (.region [
        kO 30 (.mv 7),
        kO 31 (.mv 8),
        kO 32 (.bin .add 30 31),
        kO 6 (.mv 32)])
      .ret)
    .skip))))
    (.region [
      kO 33 (.bin .add 15 (ci 1)),
      kO 15 (.mv 33)])))))))
  (.seq (.region [
    kO 6 (.mv (ci (-1)))])
  .ret))))), [.t 6]⟩
def y1gn : CFunc :=
  ⟨0, true, 1, (.seq (.region [
    kO 0 (.mv (.c .nils))])
  (.seq (.region [
    kO 1 (.build [(.str []), (.str [])] [(0, 1, (.c (.str [79, 98, 106, 101, 99, 116]))), (1, 1, (.c (.str [])))]),
    kO 2 (.build [(.str []), (.str [])] [(0, 1, (.c (.str [83, 116, 114, 105, 110, 103]))), (1, 1, (.c (.str [79, 98, 106, 101, 99, 116])))]),
    kO 3 (.build [(.str []), (.str [])] [(0, 1, (.c (.str [83, 121, 115]))), (1, 1, (.c (.str [79, 98, 106, 101, 99, 116])))]),
    kO 4 (.build [(.str []), (.str [])] [(0, 1, (.c (.str [84, 104, 114, 111, 119, 97, 98, 108, 101]))), (1, 1, (.c (.str [79, 98, 106, 101, 99, 116])))]),
    kO 5 (.build [(.str []), (.str [])] [(0, 1, (.c (.str [69, 120, 99, 101, 112, 116, 105, 111, 110]))), (1, 1, (.c (.str [84, 104, 114, 111, 119, 97, 98, 108, 101])))]),
    kO 6 (.build [(.str []), (.str [])] [(0, 1, (.c (.str [78, 117, 108, 108, 70, 97, 117, 108, 116]))), (1, 1, (.c (.str [69, 120, 99, 101, 112, 116, 105, 111, 110])))]),
    kO 7 (.build [(.str []), (.str [])] [(0, 1, (.c (.str [90, 101, 114, 111, 70, 97, 117, 108, 116]))), (1, 1, (.c (.str [69, 120, 99, 101, 112, 116, 105, 111, 110])))]),
    kO 8 (.build [(.str []), (.str [])] [(0, 1, (.c (.str [66, 111, 117, 110, 100, 115, 70, 97, 117, 108, 116]))), (1, 1, (.c (.str [69, 120, 99, 101, 112, 116, 105, 111, 110])))]),
    kO 9 (.build [(.str []), (.str [])] [(0, 1, (.c (.str [83, 105, 122, 101, 70, 97, 117, 108, 116]))), (1, 1, (.c (.str [69, 120, 99, 101, 112, 116, 105, 111, 110])))]),
    kO 10 (.build [(.str []), (.str [])] [(0, 1, (.c (.str [67, 97, 115, 116, 70, 97, 117, 108, 116]))), (1, 1, (.c (.str [69, 120, 99, 101, 112, 116, 105, 111, 110])))]),
    kO 11 (.build [(.str []), (.str [])] [(0, 1, (.c (.str [83, 116, 111, 114, 101, 70, 97, 117, 108, 116]))), (1, 1, (.c (.str [69, 120, 99, 101, 112, 116, 105, 111, 110])))]),
    kO 12 (.build [(.str []), (.str [])] [(0, 1, (.c (.str [77, 101, 109, 111, 114, 121, 70, 97, 117, 108, 116]))), (1, 1, (.c (.str [84, 104, 114, 111, 119, 97, 98, 108, 101])))]),
    kO 13 (.build [(.str []), (.str [])] [(0, 1, (.c (.str [68, 101, 112, 116, 104, 70, 97, 117, 108, 116]))), (1, 1, (.c (.str [84, 104, 114, 111, 119, 97, 98, 108, 101])))]),
    kO 14 (.buildS (some 0) 2 13 [(.str []), (.str [])] [(0, 1), (1, 2), (2, 3), (3, 4), (4, 5), (5, 6), (6, 7), (7, 8), (8, 9), (9, 10), (10, 11), (11, 12), (12, 13)]),
    kO 0 (.mv 14)])
  .ret)), [.t 0]⟩
def yr2 : CCode :=
  (.seq (.region [
 kO 2 (.mv (.c .nils))])
 .ret)
def yr3 : CCode :=
  (.seq (.seq (.region [
 kO 3 (.mv 0)])
 (.block 0 (.seq (.region [
 kO 5 (.bin .eql 3 (.c (.str [83, 121, 115]))),
 kO 4 (.mv 5)])
 (.cond 4
 (.seq (.region [
  kO 6 (.build [(.int .i64 0), (.str []), (.str []), (.int .i64 0), (.int .i64 0), .nils, .nils, .nils] [(0, 1, (ci 8)), (1, 1, (.c (.str [112, 114, 105, 110, 116]))), (2, 1, (.c (.str [40, 73, 41, 86])))]),
  kO 7 (.build [(.int .i64 0), (.str []), (.str []), (.int .i64 0), (.int .i64 0), .nils, .nils, .nils] [(0, 1, (ci 8)), (1, 1, (.c (.str [112, 114, 105, 110, 116]))), (2, 1, (.c (.str [40, 74, 41, 86])))]),
  kO 8 (.build [(.int .i64 0), (.str []), (.str []), (.int .i64 0), (.int .i64 0), .nils, .nils, .nils] [(0, 1, (ci 8)), (1, 1, (.c (.str [112, 114, 105, 110, 116]))), (2, 1, (.c (.str [40, 76, 83, 116, 114, 105, 110, 103, 59, 41, 86])))]),
  kO 9 (.build [(.int .i64 0), (.str []), (.str []), (.int .i64 0), (.int .i64 0), .nils, .nils, .nils] [(0, 1, (ci 8)), (1, 1, (.c (.str [101, 120, 105, 116]))), (2, 1, (.c (.str [40, 73, 41, 86])))]),
  kO 10 (.buildS (some 0) 8 4 [(.int .i64 0), (.str []), (.str []), (.int .i64 0), (.int .i64 0), .nils, .nils, .nils] [(0, 6), (1, 7), (2, 8), (3, 9)]),
  kO 2 (.mv 10)])
  .ret)
 (.seq (.region [
  kO 12 (.bin .eql 3 (.c (.str [83, 116, 114, 105, 110, 103]))),
  kO 11 (.mv 12)])
  (.cond 11
  (.seq (.region [
   kO 13 (.build [(.int .i64 0), (.str []), (.str []), (.int .i64 0), (.int .i64 0), .nils, .nils, .nils] [(1, 1, (.c (.str [108, 101, 110, 103, 116, 104]))), (2, 1, (.c (.str [40, 41, 73])))]),
   kO 14 (.build [(.int .i64 0), (.str []), (.str []), (.int .i64 0), (.int .i64 0), .nils, .nils, .nils] [(1, 1, (.c (.str [99, 104, 97, 114, 65, 116]))), (2, 1, (.c (.str [40, 73, 41, 73])))]),
   kO 15 (.buildS (some 1) 8 2 [(.int .i64 0), (.str []), (.str []), (.int .i64 0), (.int .i64 0), .nils, .nils, .nils] [(0, 13), (1, 14)]),
   kO 2 (.mv 15)])
   .ret)
  .skip))))))
 yr2)
def yqo : CCode :=
  (.seq (.region [
 kO 2 (.mv (.c .nils))])
 yr3)
def y1c1 : CFunc :=
  ⟨1, true, 2, yqo, [.t 2]⟩
def y145 : CCode :=
  (.seq (.region [
 kO 4 (.mv (.c (.bool true)))])
 .ret)
def y13k : CCode :=
  (.region [
 kO 71 (.bin .add 19 (ci 1)),
 kO 19 (.mv 71)])
def y13t : CCode :=
  (.seq (.block 1 (.seq (.region [
 kO 21 (.ixs 1 17 19),
 kO 22 (.ld false 1 21),
 kO 6 (.mv 22)])
 (.seq (.region [
 kO 23 (.mv 6),
 kO 24 (.bin .geq 23 (.c (.int .u8 97))),
 kO 25 (.mv 24),
 kG 26 (.mv 6) 25 true,
 kG 27 (.bin .leq 26 (.c (.int .u8 122))) 25 true,
 kO 28 (.pick 25 27 (.c (.bool false))),
 kO 29 (.mv 28),
 kG 30 (.mv 6) 29 false,
 kG 31 (.bin .geq 30 (.c (.int .u8 65))) 29 false,
 kG 32 (.mv 31) 29 false,
 kG 33 (.mv 6) 32 true,
 kG 34 (.bin .leq 33 (.c (.int .u8 90))) 32 true,
 kG 35 (.pick 32 34 (.c (.bool false))) 29 false,
 kO 36 (.pick 29 (.c (.bool true)) 35),
 kO 37 (.mv 36),
 kG 38 (.mv 6) 37 false,
 kG 39 (.bin .geq 38 (.c (.int .u8 48))) 37 false,
 kG 40 (.mv 39) 37 false,
 kG 41 (.mv 6) 40 true,
 kG 42 (.bin .leq 41 (.c (.int .u8 57))) 40 true,
 kG 43 (.pick 40 42 (.c (.bool false))) 37 false,
 kO 44 (.pick 37 (.c (.bool true)) 43),
 kO 45 (.mv 44),
 kG 46 (.mv 6) 45 false,
 kG 47 (.bin .eql 46 (.c (.int .u8 95))) 45 false,
 kO 48 (.pick 45 (.c (.bool true)) 47),
 kO 49 (.mv 48),
 kG 50 (.mv 6) 49 false,
 kG 51 (.bin .eql 50 (.c (.int .u8 36))) 49 false,
 kO 52 (.pick 49 (.c (.bool true)) 51),
 kO 53 (.mv 52),
 kG 54 (.mv 6) 53 false,
 kG 55 (.bin .eql 54 (.c (.int .u8 47))) 53 false,
 kO 56 (.pick 53 (.c (.bool true)) 55),
 kO 7 (.mv 56)])
 (.seq (.region [
 kO 57 (.mv 7),
 kO 58 (.un .not 57),
 kO 59 (.mv 58),
 kG 60 (.mv 1) 59 true,
 kG 61 (.mv 60) 59 true,
 kG 62 (.mv 6) 61 true,
 kG 63 (.bin .eql 62 (.c (.int .u8 60))) 61 true,
 kG 64 (.mv 63) 61 true,
 kG 65 (.mv 6) 64 false,
 kG 66 (.bin .eql 65 (.c (.int .u8 62))) 64 false,
 kG 67 (.pick 64 (.c (.bool true)) 66) 61 true,
 kG 68 (.pick 61 67 (.c (.bool false))) 59 true,
 kG 69 (.un .not 68) 59 true,
 kO 70 (.pick 59 69 (.c (.bool false)))])
 (.cond 70
 (.seq (.region [
  kO 4 (.mv (.c (.bool false)))])
  .ret)
 .skip)))))
 y13k)
def y142 : CCode :=
  (.seq (.cond 20
 .skip
 (.exit 0))
 y13t)
def y146 : CCode :=
  (.seq (.region [
 kO 20 (.bin .lss 19 18)])
 y142)
def yhw : CCode :=
  (.loop [1, 17, 18, 19] y146)
def y13n : CCode :=
  (.block 0 yhw)
def y13o : CCode :=
  (.seq (.region [
 kO 16 (.mv 0),
 kO 17 (.s2b (some 0) 16),
 kO 18 (.len 1 17),
 kO 19 (.mv (ci 0))])
 y13n)
def y138 : CCode :=
  (.seq y13o
 y145)
def yxi : CCode :=
  (.seq (.seq (.region [
 kO 8 (.mv 0),
 kO 9 (.len 0 8),
 kO 10 (.bin .lss 9 (ci 1)),
 kO 11 (.mv 10),
 kG 12 (.mv 0) 11 false,
 kG 13 (.len 0 12) 11 false,
 kG 14 (.bin .gtr 13 (ci 60)) 11 false,
 kO 15 (.pick 11 (.c (.bool true)) 14)])
 (.cond 15
 (.seq (.region [
  kO 4 (.mv (.c (.bool false)))])
  .ret)
 .skip))
 y138)
def yuv : CCode :=
  (.seq (.region [
 kO 4 (.mv (.c (.bool false)))])
 yxi)
def c_q6 : CFunc :=
  ⟨2, true, 1, yuv, [.t 4]⟩
def yyv : CCode :=
  (.seq (.region [
 kO 4 (.mv (.c (.bool true)))])
 .ret)
def yw2 : CCode :=
  (.region [
 kO 92 (.bin .add 57 (ci 1)),
 kO 57 (.mv 92)])
def yuk : CCode :=
  (.region [
 kO 91 (.bin .add 84 (ci 1)),
 kO 84 (.mv 91)])
def ysm : CCode :=
  (.seq (.block 3 (.seq (.region [
 kO 86 (.ixs 1 82 84),
 kO 87 (.ld false 1 86),
 kO 13 (.mv 87)])
 (.seq (.region [
 kO 88 (.mv 13),
 kO 89 (.mv 9),
 kO 90 (.bin .eql 88 89)])
 (.cond 90
 (.seq (.region [
  kO 4 (.mv (.c (.bool false)))])
  .ret)
 .skip))))
 yuk)
def ypv : CCode :=
  (.seq (.cond 85
 .skip
 (.exit 2))
 ysm)
def yuo : CCode :=
  (.seq (.region [
 kO 85 (.bin .lss 84 83)])
 ypv)
def yez : CCode :=
  (.loop [0, 3, 9, 55, 56, 57, 82, 83, 84] yuo)
def yr8 : CCode :=
  (.block 2 yez)
def yl7 : CCode :=
  (.seq (.region [
 kO 79 (.fa 3 3),
 kO 80 (.ld false 1 79),
 kO 81 (.mv 8),
 kO 82 (.slc 1 80 none (some 81)),
 kO 83 (.len 1 82),
 kO 84 (.mv (ci 0))])
 yr8)
def yjk : CCode :=
  (.seq (.seq (.region [
 kO 71 (.mv 11),
 kO 72 (.un .not 71),
 kO 73 (.mv 72),
 kG 74 (.fa 0 10) 73 false,
 kG 75 (.ld false 1 74) 73 false,
 kG 76 (.bin .and 75 (ci 512)) 73 false,
 kG 77 (.bin .eql 76 (ci 0)) 73 false,
 kO 78 (.pick 73 (.c (.bool true)) 77)])
 (.cond 78
 (.seq (.region [
  kO 4 (.mv (.c (.bool false)))])
  .ret)
 .skip))
 yl7)
def ynn : CCode :=
  (.seq (.region [
 kO 63 (.mv 0),
 kO 64 (.nilchk 63),
 kO 65 (.fa 0 64),
 kO 66 (.ld false 1 65),
 kO 67 (.mv 9),
 kO 68 (.mget false [2] (.agg [(.int .i64 0), (.str []), (.str []), .nils, .nils, .nils, .nils]) true 66 67),
 kO 62 (.mv 68),
 kO 69 (.ext 0 62),
 kO 70 (.ext 1 62),
 kO 10 (.new (some 2) [(.int .i64 0), (.str []), (.str []), .nils, .nils, .nils, .nils]),
 kU (.st 7 10 69),
 kO 11 (.mv 70)])
 yjk)
def yo6 : CCode :=
  (.seq (.region [
 kO 59 (.mv 57),
 kO 60 (.ixs 1 55 57),
 kO 61 (.ld false 1 60),
 kO 8 (.mv 59),
 kO 9 (.mv 61)])
 ynn)
def yln : CCode :=
  (.block 1 yo6)
def yjb : CCode :=
  (.seq yln
 yw2)
def yk4 : CCode :=
  (.seq (.cond 58
 .skip
 (.exit 0))
 yjb)
def ynr : CCode :=
  (.seq (.region [
 kO 58 (.bin .lss 57 56)])
 yk4)
def yes : CCode :=
  (.loop [0, 3, 55, 56, 57] ynr)
def ymj : CCode :=
  (.block 0 yes)
def yl0 : CCode :=
  (.seq (.region [
 kO 54 (.fa 3 3),
 kO 55 (.ld false 1 54),
 kO 56 (.len 1 55),
 kO 57 (.mv (ci 0))])
 ymj)
def yjf : CCode :=
  (.seq yl0
 yyv)
def yn2 : CCode :=
  (.seq (.seq (.region [
 kO 28 (.mv 6),
 kO 29 (.un .not 28),
 kO 30 (.mv 29),
 kG 31 (.fa 0 5) 30 false,
 kG 32 (.ld false 1 31) 30 false,
 kG 33 (.bin .and 32 (ci 512)) 30 false,
 kG 34 (.bin .neq 33 (ci 0)) 30 false,
 kO 35 (.pick 30 (.c (.bool true)) 34),
 kO 36 (.mv 35),
 kG 37 (.fa 2 3) 36 false,
 kG 38 (.ld false 1 37) 36 false,
 kG 39 (.bin .eql 38 (.c (.str [83, 116, 114, 105, 110, 103]))) 36 false,
 kO 40 (.pick 36 (.c (.bool true)) 39),
 kO 41 (.mv 40),
 kG 42 (.fa 2 3) 41 false,
 kG 43 (.ld false 1 42) 41 false,
 kG 44 (.bin .eql 43 (.c (.str [83, 121, 115]))) 41 false,
 kO 45 (.pick 41 (.c (.bool true)) 44),
 kO 46 (.mv 45),
 kG 47 (.mv 7) 46 false,
 kG 48 (.mv 47) 46 false,
 kG 49 (.fa 2 3) 48 true,
 kG 50 (.ld false 1 49) 48 true,
 kG 51 (.bin .neq 50 (.c (.str [79, 98, 106, 101, 99, 116]))) 48 true,
 kG 52 (.pick 48 51 (.c (.bool false))) 46 false,
 kO 53 (.pick 46 (.c (.bool true)) 52)])
 (.cond 53
 (.seq (.region [
  kO 4 (.mv (.c (.bool false)))])
  .ret)
 .skip))
 yjf)
def yjr : CCode :=
  (.seq (.region [
 kO 24 (.fa 0 3),
 kO 25 (.ld false 1 24),
 kO 26 (.bin .and 25 (ci 512)),
 kO 27 (.bin .neq 26 (ci 0)),
 kO 7 (.mv 27)])
 yn2)
def ymc : CCode :=
  (.seq (.draw [
 kO 15 (.mv 0),
 kO 16 (.nilchk 15),
 kO 17 (.fa 0 16),
 kO 18 (.ld false 1 17),
 kO 19 (.fa 2 3),
 kO 20 (.ld false 1 19),
 kO 21 (.mget false [2] (.agg [(.int .i64 0), (.str []), (.str []), .nils, .nils, .nils, .nils]) true 18 20),
 kO 14 (.mv 21),
 kO 22 (.ext 0 14),
 kO 23 (.ext 1 14),
 kO 5 (.new (some 1) [(.int .i64 0), (.str []), (.str []), .nils, .nils, .nils, .nils]),
 kU (.st 7 5 22),
 kO 6 (.mv 23)] [(3, 10), (5, 10), (6, 10)])
 yjr)
def ylo : CCode :=
  (.seq (.region [
 kO 3 (.box (some 0) 1),
 kO 4 (.mv (.c (.bool false)))])
 ymc)
def y1d1 : CFunc :=
  ⟨2, true, 3, ylo, [.t 4]⟩
def yx3 : CCode :=
  (.seq (.region [
 kO 70 (.mv 0),
 kO 71 (.nilchk 70),
 kO 72 (.fa 2 71),
 kO 73 (.ld false 1 72),
 kO 74 (.mv 1),
 kO 75 (.mv 7),
 kU (.mput false [2] 73 74 75)])
 (.seq (.region [
 kO 6 (.mv (.c (.bool true)))])
 .ret))
def ytu : CCode :=
  (.region [
 kO 69 (.bin .add 47 (ci 1)),
 kO 47 (.mv 69)])
def yz4 : CCode :=
  (.region [
 kO 67 (.mv 7),
 kO 68 (.mv 12),
 kU (.mput false [2] 67 68 (.c (.bool true)))])
def ysw : CCode :=
  (.mrange [
 kO 56 (.mv 0),
 kO 57 (.nilchk 56),
 kO 58 (.fa 2 57),
 kO 59 (.ld false 1 58),
 kO 60 (.mv 11),
 kO 61 (.mget false [2] .nilm false 59 60)] 61 [0, 1, 2, 7, 45, 46, 47] [] 65 [
 kO 66 (.ext 0 65),
 kO 12 (.mv 66)] (.kill [] yz4) [
] .skip)
def yrf : CCode :=
  (.seq (.seq (.region [
 kO 51 (.mv 0),
 kO 52 (.mv 11),
 kO 53 (.mv 2),
 kO 54 (.call none false 62 [51, 52, 53]),
 kO 55 (.un .not 54)])
 (.cond 55
 (.seq (.region [
  kO 6 (.mv (.c (.bool false)))])
  .ret)
 .skip))
 ysw)
def ysp : CCode :=
  (.seq (.region [
 kO 49 (.ixs 1 45 47),
 kO 50 (.ld false 1 49),
 kO 11 (.mv 50)])
 yrf)
def yqc : CCode :=
  (.block 1 ysp)
def yuf : CCode :=
  (.seq yqc
 ytu)
def yma : CCode :=
  (.seq (.cond 48
 .skip
 (.exit 0))
 yuf)
def yl9 : CCode :=
  (.seq (.region [
 kO 48 (.bin .lss 47 46)])
 yma)
def yex : CCode :=
  (.loop [0, 1, 2, 7, 45, 46, 47] yl9)
def ylb : CCode :=
  (.block 0 yex)
def ynw : CCode :=
  (.seq (.region [
 kO 45 (.mv 9),
 kO 46 (.len 1 45),
 kO 47 (.mv (ci 0))])
 ylb)
def yo5 : CCode :=
  (.seq ynw
 yx3)
def ynu : CCode :=
  (.seq (.seq (.region [
 kO 37 (.fa 2 8),
 kO 38 (.ld false 1 37),
 kO 39 (.bin .neq 38 (.c (.str [])))])
 (.cond 39
 (.region [
  kO 40 (.mv 9),
  kO 41 (.fa 2 8),
  kO 42 (.ld false 1 41),
  kO 43 (.buildS (some 3) 1 1 [(.str [])] [(0, 42)]),
  kO 44 (.app (some 4) 1 16 40 43),
  kO 9 (.mv 44)])
 .skip))
 yo5)
def ylv : CCode :=
  (.seq (.region [
 kO 34 (.fa 3 8),
 kO 35 (.ld false 1 34),
 kO 36 (.app (some 2) 1 16 (.c .nils) 35),
 kO 9 (.mv 36)])
 ynu)
def ylc : CCode :=
  (.seq (.region [
 kO 28 (.mv 0),
 kO 29 (.nilchk 28),
 kO 30 (.fa 0 29),
 kO 31 (.ld false 1 30),
 kO 32 (.mv 1),
 kO 33 (.mget false [2] (.agg [(.int .i64 0), (.str []), (.str []), .nils, .nils, .nils, .nils]) false 31 32),
 kO 8 (.new (some 1) [(.int .i64 0), (.str []), (.str []), .nils, .nils, .nils, .nils]),
 kU (.st 7 8 33)])
 ylv)
def ynd : CCode :=
  (.seq (.region [
 kO 25 (.mkm (some 0)),
 kO 26 (.mv 1),
 kU (.mput false [2] 25 26 (.c (.bool true))),
 kO 27 (.mv 25),
 kO 7 (.mv 27)])
 ylc)
def yme : CCode :=
  (.seq (.region [
 kO 23 (.mv 2),
 kO 24 (.mv 1),
 kU (.mput false [2] 23 24 (.c (.bool true)))])
 ynd)
def yjn : CCode :=
  (.seq (.seq (.region [
 kO 20 (.mv 2),
 kO 21 (.mv 1),
 kO 22 (.mget false [2] (.bool false) false 20 21)])
 (.cond 22
 (.seq (.region [
  kO 6 (.mv (.c (.bool false)))])
  .ret)
 .skip))
 yme)
def yk2 : CCode :=
  (.seq (.seq (.region [
 kO 13 (.mv 0),
 kO 14 (.nilchk 13),
 kO 15 (.fa 2 14),
 kO 16 (.ld false 1 15),
 kO 17 (.mv 1),
 kO 18 (.mget false [2] .nilm false 16 17),
 kO 19 (.eqn 2 true 18 (.c .nilm))])
 (.cond 19
 (.seq (.region [
  kO 6 (.mv (.c (.bool true)))])
  .ret)
 .skip))
 yjn)
def ynk : CCode :=
  (.seq (.region [
 kO 6 (.mv (.c (.bool false)))])
 yk2)
def y1bt : CFunc :=
  ⟨3, false, 5, ynk, [.t 6]⟩
def y133 : CCode :=
  (.seq (.region [
 kO 2 (.mv (ci 0))])
 .ret)
def y13d : CCode :=
  (.seq (.block 0 (.seq (.region [
 kO 4 (.mv 0),
 kO 5 (.bin .eql 4 (.c (.str [73]))),
 kO 3 (.mv 5)])
 (.cond 3
 (.seq (.region [
  kO 2 (.mv (ci 1))])
  .ret)
 (.seq (.region [
  kO 7 (.mv 0),
  kO 8 (.bin .eql 7 (.c (.str [74]))),
  kO 6 (.mv 8)])
  (.cond 6
  (.seq (.region [
   kO 2 (.mv (ci 2))])
   .ret)
  (.seq (.region [
   kO 10 (.mv 0),
   kO 11 (.bin .eql 10 (.c (.str [78]))),
   kO 12 (.mv 11),
   kG 13 (.mv 0) 12 false,
   kG 14 (.bin .neq 13 (.c (.str []))) 12 false,
   kG 15 (.mv 14) 12 false,
   kG 16 (.mv 0) 15 true,
   kG 17 (.ixstr 16 (ci 0)) 15 true,
   kG 18 (.bin .eql 17 (.c (.int .u8 76))) 15 true,
   kG 19 (.mv 18) 15 true,
   kG 20 (.mv 0) 19 false,
   kG 21 (.ixstr 20 (ci 0)) 19 false,
   kG 22 (.bin .eql 21 (.c (.int .u8 91))) 19 false,
   kG 23 (.pick 19 (.c (.bool true)) 22) 15 true,
   kG 24 (.pick 15 23 (.c (.bool false))) 12 false,
   kO 25 (.pick 12 (.c (.bool true)) 24),
   kO 9 (.mv 25)])
   (.cond 9
   (.seq (.region [
    kO 2 (.mv (ci 3))])
    .ret)
   .skip)))))))
 y133)
def y13i : CCode :=
  (.seq (.region [
 kO 2 (.mv (ci 0))])
 y13d)
def c_q5 : CFunc :=
  ⟨1, true, 0, y13i, [.t 2]⟩
def y14a : CCode :=
  (.seq (.region [
 kO 2 (.mv (.c (.str [])))])
 .ret)
def y13x : CCode :=
  (.seq (.seq (.region [
 kO 4 (.mv 0),
 kO 5 (.len 0 4),
 kO 3 (.mv 5)])
 (.seq (.region [
 kO 6 (.mv 3),
 kO 7 (.bin .gtr 6 (ci 2)),
 kO 8 (.mv 7),
 kG 9 (.mv 0) 8 true,
 kG 10 (.ixstr 9 (ci 0)) 8 true,
 kG 11 (.bin .eql 10 (.c (.int .u8 76))) 8 true,
 kO 12 (.pick 8 11 (.c (.bool false))),
 kO 13 (.mv 12),
 kG 14 (.mv 0) 13 true,
 kG 15 (.mv 3) 13 true,
 kG 16 (.bin .sub 15 (ci 1)) 13 true,
 kG 17 (.ixstr 14 16) 13 true,
 kG 18 (.bin .eql 17 (.c (.int .u8 59))) 13 true,
 kO 19 (.pick 13 18 (.c (.bool false)))])
 (.cond 19
 (.seq (.region [
  kO 20 (.mv 0),
  kO 21 (.mv 3),
  kO 22 (.bin .sub 21 (ci 1)),
  kO 23 (.sls 20 (some (ci 1)) (some 22)),
  kO 2 (.mv 23)])
  .ret)
 .skip)))
 y14a)
def y141 : CCode :=
  (.seq (.region [
 kO 2 (.mv (.c (.str [])))])
 y13x)
def c_q3 : CFunc :=
  ⟨1, true, 0, y141, [.t 2]⟩
def y13l : CCode :=
  (.seq (.region [
 kO 2 (.mv (.c (.str [])))])
 .ret)
def y13y : CCode :=
  (.seq (.seq (.region [
 kO 3 (.mv 0),
 kO 4 (.len 0 3),
 kO 5 (.bin .gtr 4 (ci 1)),
 kO 6 (.mv 5),
 kG 7 (.mv 0) 6 true,
 kG 8 (.ixstr 7 (ci 0)) 6 true,
 kG 9 (.bin .eql 8 (.c (.int .u8 91))) 6 true,
 kO 10 (.pick 6 9 (.c (.bool false)))])
 (.cond 10
 (.seq (.region [
  kO 11 (.mv 0),
  kO 12 (.sls 11 (some (ci 1)) none),
  kO 2 (.mv 12)])
  .ret)
 .skip))
 y13l)
def y13u : CCode :=
  (.seq (.region [
 kO 2 (.mv (.c (.str [])))])
 y13y)
def c_q4 : CFunc :=
  ⟨1, true, 0, y13u, [.t 2]⟩
def y1bn : CCode :=
  (.seq (.region [
 kO 2 (.mv (.c (.bool false)))])
 (.seq (.region [
 kO 3 (.mv 0),
 kO 4 (.bin .neq 3 (.c (.str []))),
 kO 5 (.mv 4),
 kG 6 (.mv 0) 5 true,
 kG 7 (.call none true 44 [6]) 5 true,
 kG 8 (.mv 0) 5 true,
 kG 9 (.len 0 8) 5 true,
 kG 10 (.bin .eql 7 9) 5 true,
 kO 11 (.pick 5 10 (.c (.bool false))),
 kO 2 (.mv 11)])
 .ret))
def c_q7 : CFunc :=
  ⟨1, true, 0, y1bn, [.t 2]⟩
def y1ao : CCode :=
  (.seq (.region [
 kO 2 (.mv (ci 0))])
 .ret)
def y1cp : CCode :=
  (.region [
 kO 41 (.mv 4),
 kO 42 (.bin .add 41 (ci 1)),
 kO 4 (.mv 42)])
def y1b1 : CCode :=
  (.seq (.region [
 kO 2 (.mv (ci 0))])
 .ret)
def y1b7 : CCode :=
  (.seq (.seq (.region [
 kO 47 (.mv 0),
 kO 48 (.mv 3),
 kO 49 (.bin .add 48 (ci 1)),
 kO 50 (.mv 4),
 kO 51 (.sls 47 (some 49) (some 50)),
 kO 52 (.call none true 60 [51, (.c (.bool false))])])
 (.cond 52
 (.seq (.region [
  kO 53 (.mv 4),
  kO 54 (.bin .add 53 (ci 1)),
  kO 2 (.mv 54)])
  .ret)
 .skip))
 y1b1)
def y1dd : CCode :=
  (.cond 46
 y1b7
 .skip)
def y1al : CCode :=
  (.seq (.region [
 kO 43 (.mv 0),
 kO 44 (.mv 4),
 kO 45 (.ixstr 43 44),
 kO 46 (.bin .eql 45 (.c (.int .u8 59)))])
 y1dd)
def y1c8 : CCode :=
  (.block 4 y1al)
def y1d6 : CCode :=
  (.seq y1c8
 y1cp)
def y16r : CCode :=
  (.seq (.seq (.region [
 kO 37 (.mv 4),
 kO 38 (.mv 0),
 kO 39 (.len 0 38),
 kO 40 (.bin .lss 37 39)])
 (.cond 40
 .skip
 (.exit 3)))
 y1d6)
def y192 : CCode :=
  (.loop [0, 3, 4] y16r)
def y18e : CCode :=
  (.block 3 y192)
def y14g : CCode :=
  (.seq (.region [
 kO 35 (.mv 3),
 kO 36 (.bin .add 35 (ci 1)),
 kO 4 (.mv 36)])
 y18e)
def y19m : CCode :=
  (.cond 33
 y14g
 .skip)
def y183 : CCode :=
  (.seq (.region [
 kO 34 (.bin .eql 27 (.c (.int .u8 76))),
 kO 33 (.mv 34)])
 y19m)
def y18g : CCode :=
  (.cond 28
 (.seq (.region [
  kO 31 (.mv 3),
  kO 32 (.bin .add 31 (ci 1)),
  kO 2 (.mv 32)])
  .ret)
 y183)
def y16h : CCode :=
  (.seq (.seq (.region [
 kO 29 (.bin .eql 27 (.c (.int .u8 73))),
 kO 28 (.mv 29)])
 (.cond 28
 .skip
 (.region [
  kO 30 (.bin .eql 27 (.c (.int .u8 74))),
  kO 28 (.mv 30)])))
 y18g)
def y16p : CCode :=
  (.block 2 y16h)
def y198 : CCode :=
  (.seq (.region [
 kO 25 (.mv 0),
 kO 26 (.mv 3),
 kO 27 (.ixstr 25 26)])
 y16p)
def y14n : CCode :=
  (.seq y198
 y1ao)
def y18f : CCode :=
  (.seq (.seq (.region [
 kO 17 (.mv 3),
 kO 18 (.bin .gtr 17 (ci 8)),
 kO 19 (.mv 18),
 kG 20 (.mv 3) 19 false,
 kG 21 (.mv 0) 19 false,
 kG 22 (.len 0 21) 19 false,
 kG 23 (.bin .eql 20 22) 19 false,
 kO 24 (.pick 19 (.c (.bool true)) 23)])
 (.cond 24
 (.seq (.region [
  kO 2 (.mv (ci 0))])
  .ret)
 .skip))
 y14n)
def y162 : CCode :=
  (.block 1 (.region [
 kO 15 (.mv 3),
 kO 16 (.bin .add 15 (ci 1)),
 kO 3 (.mv 16)]))
def y17z : CCode :=
  (.seq (.seq (.region [
 kO 5 (.mv 3),
 kO 6 (.mv 0),
 kO 7 (.len 0 6),
 kO 8 (.bin .lss 5 7),
 kO 9 (.mv 8),
 kG 10 (.mv 0) 9 true,
 kG 11 (.mv 3) 9 true,
 kG 12 (.ixstr 10 11) 9 true,
 kG 13 (.bin .eql 12 (.c (.int .u8 91))) 9 true,
 kO 14 (.pick 9 13 (.c (.bool false)))])
 (.cond 14
 .skip
 (.exit 0)))
 y162)
def y11o : CCode :=
  (.loop [0, 3] y17z)
def y161 : CCode :=
  (.block 0 y11o)
def y17n : CCode :=
  (.seq y161
 y18f)
def y15w : CCode :=
  (.seq (.region [
 kO 3 (.mv (ci 0))])
 y17n)
def y16f : CCode :=
  (.seq (.region [
 kO 2 (.mv (ci 0))])
 y15w)
def c_q8 : CFunc :=
  ⟨1, true, 0, y16f, [.t 2]⟩
def tbl : List (Option Nat) := [none, none, none, none, none, some 202, none, some 0, some 1, some 2, some 3, some 59, some 177, some 178, some 179, some 228, some 211, some 213, none, none, none, none, none, none, none, none, none, some 31, some 32, some 33, some 43, some 60, some 61, some 62, some 34, some 35, some 36, some 37, some 180, none, none, none, none, none, none, none, none, none, none, none, none, none, none, some 44]
def fnE : Nat → Option CFunc
  | 0 => some y1c9
  | 1 => some y1da
  | 2 => some y1en
  | 3 => some y1c4
  | 31 => some y1fk
  | 32 => some y1eq
  | 33 => some y1gn
  | 34 => some c_q5
  | 35 => some c_q3
  | 36 => some c_q4
  | 37 => some c_q7
  | 43 => some y1c1
  | 44 => some c_q8
  | 59 => some y1ez
  | 60 => some c_q6
  | 61 => some y1d1
  | 62 => some y1bt
  | 177 => some y1g5
  | 178 => some y1es
  | 179 => some y1co
  | 202 => some y1ar
  | 211 => some y1cb
  | 213 => some y1b3
  | 228 => some y1aj
  | _ => none
abbrev nm : Nat → Option Nat := nmOf tbl
def E : Env := envI fnE [62, 180] (fun _ _ => none) (xiS 180)
abbrev T1 (c : CCode) (n : St → OX) (e : Nat → St → OX) (r : List CRes) (k : St → OX) : Prop := ∀ s, W E 0 c s n e (finP r) = k s
abbrev T0 (c : CCode) (r : List CRes) (k : St → OX) : Prop := T1 c (finP r) xN r k
theorem sq {a b : CCode} {n k k' : St → OX} {e : Nat → St → OX} {r : List CRes} (h : T1 b n e r k) (h' : T1 a k e r k') : T1 (.seq a b) n e r k' := fun s => (y79 h).trans (h' s)
theorem ok5 : FnOk Go.Proofs.Try.prog nm fnE 5 202 := .of Go.Proofs.Try.func5 (by kernel_rfl) (by kernel_rfl) rfl (by kernel_rfl)
theorem ok7 : FnOk Go.Proofs.Try.prog nm fnE 7 0 := .of Go.Proofs.Try.func7 (by kernel_rfl) (by kernel_rfl) rfl (by kernel_rfl)
theorem ok8 : FnOk Go.Proofs.Try.prog nm fnE 8 1 := .of Go.Proofs.Try.func8 (by kernel_rfl) (by kernel_rfl) rfl (by kernel_rfl)
theorem ok9 : FnOk Go.Proofs.Try.prog nm fnE 9 2 := .of Go.Proofs.Try.func9 (by kernel_rfl) (by kernel_rfl) rfl (by kernel_rfl)
theorem ok10 : FnOk Go.Proofs.Try.prog nm fnE 10 3 := .of Go.Proofs.Try.func10 (by kernel_rfl) (by kernel_rfl) rfl (by kernel_rfl)
theorem ok11 : FnOk Go.Proofs.Try.prog nm fnE 11 59 := .of Go.Proofs.Try.func11 (by kernel_rfl) (by kernel_rfl) rfl (by kernel_rfl)
theorem ok12 : FnOk Go.Proofs.Try.prog nm fnE 12 177 := .of Go.Proofs.Try.func12 (by kernel_rfl) (by kernel_rfl) rfl (by kernel_rfl)
theorem ok13 : FnOk Go.Proofs.Try.prog nm fnE 13 178 := .of Go.Proofs.Try.func13 (by kernel_rfl) (by kernel_rfl) rfl (by kernel_rfl)
theorem ok14 : FnOk Go.Proofs.Try.prog nm fnE 14 179 := .of Go.Proofs.Try.func14 (by kernel_rfl) (by kernel_rfl) rfl (by kernel_rfl)
theorem ok15 : FnOk Go.Proofs.Try.prog nm fnE 15 228 := .of Go.Proofs.Try.func15 (by kernel_rfl) (by kernel_rfl) rfl (by kernel_rfl)
theorem ok16 : FnOk Go.Proofs.Try.prog nm fnE 16 211 := .of Go.Proofs.Try.func16 (by kernel_rfl) (by kernel_rfl) rfl (by kernel_rfl)
theorem ok17 : FnOk Go.Proofs.Try.prog nm fnE 17 213 := .of Go.Proofs.Try.func17 (by kernel_rfl) (by kernel_rfl) rfl (by kernel_rfl)
theorem ok27 : FnOk Go.Proofs.Try.prog nm fnE 27 31 := .of Go.Proofs.Try.func27 (by kernel_rfl) (by kernel_rfl) rfl (by kernel_rfl)
theorem ok28 : FnOk Go.Proofs.Try.prog nm fnE 28 32 := .of Go.Proofs.Try.func28 (by kernel_rfl) (by kernel_rfl) rfl (by kernel_rfl)
theorem ok29 : FnOk Go.Proofs.Try.prog nm fnE 29 33 := .of Go.Proofs.Try.func29 (by kernel_rfl) (by kernel_rfl) rfl (by kernel_rfl)
theorem ok30 : FnOk Go.Proofs.Try.prog nm fnE 30 43 := .of Go.Proofs.Try.func30 (by kernel_rfl) (by kernel_rfl) rfl (by kernel_rfl)
theorem ok31 : FnOk Go.Proofs.Try.prog nm fnE 31 60 := .of Go.Proofs.Try.func31 (by kernel_rfl) (by kernel_rfl) rfl (by kernel_rfl)
theorem ok32 : FnOk Go.Proofs.Try.prog nm fnE 32 61 := .of Go.Proofs.Try.func32 (by kernel_rfl) (by kernel_rfl) rfl (by kernel_rfl)
theorem ok33 : FnOk Go.Proofs.Try.prog nm fnE 33 62 := .of Go.Proofs.Try.func33 (by kernel_rfl) (by kernel_rfl) rfl (by kernel_rfl)
theorem ok34 : FnOk Go.Proofs.Try.prog nm fnE 34 34 := .of Go.Proofs.Try.func34 (by kernel_rfl) (by kernel_rfl) rfl (by kernel_rfl)
theorem ok35 : FnOk Go.Proofs.Try.prog nm fnE 35 35 := .of Go.Proofs.Try.func35 (by kernel_rfl) (by kernel_rfl) rfl (by kernel_rfl)
theorem ok36 : FnOk Go.Proofs.Try.prog nm fnE 36 36 := .of Go.Proofs.Try.func36 (by kernel_rfl) (by kernel_rfl) rfl (by kernel_rfl)
theorem ok37 : FnOk Go.Proofs.Try.prog nm fnE 37 37 := .of Go.Proofs.Try.func37 (by kernel_rfl) (by kernel_rfl) rfl (by kernel_rfl)
theorem ok38 : FnOk Go.Proofs.Try.prog nm fnE 38 180 := .ext Go.Proofs.Try.func38 (by kernel_rfl) (by kernel_rfl) rfl
theorem ok53 : FnOk Go.Proofs.Try.prog nm fnE 53 44 := .of Go.Proofs.Try.func53 (by kernel_rfl) (by kernel_rfl) rfl (by kernel_rfl)
theorem y1ft : AllF Go.Proofs.Try.prog nm fnE 0 tbl :=
  ⟨ok5, ok7, ok8, ok9, ok10, ok11, ok12, ok13, ok14, ok15, ok16, ok17, ok27, ok28, ok29, ok30, ok31, ok32, ok33, ok34, ok35, ok36, ok37, ok38, ok53, trivial⟩
section
open Go.Proofs Go.RowKit
set_option maxRecDepth 100000
theorem yz1 (w : World) : Calls Go.Proofs.Try.prog 60 #[.slice none 0 0, .int .i64 0, .int .i64 0] w fun e w' => e = .returned (.tuple #[]) ∧ w' = w := by
  go_enter Go.Proofs.Try.func60, Go.Proofs.Try.ntmps60
  go_wp2
  refine wp_loop_rounds 1 ?_
  rw [rounds_succ]
  go_wp2
  go_end0
  exact ⟨rfl, rfl⟩
theorem ysk (w : World) : Calls Go.Proofs.Try.prog 57 #[.slice none 0 0, .int .i64 0, .int .i64 0, .int .i64 0] w fun e w' => e = .returned (.tuple #[]) ∧ w' = w := by
  go_enter Go.Proofs.Try.func57, Go.Proofs.Try.ntmps57
  go_wp2
  refine wp_loop_rounds 1 ?_
  rw [rounds_succ]
  go_wp2_with (first | (go_at_call 60; refine (yz1 _).mono ?_; rintro e w' ⟨rfl, rfl⟩))
  refine bodyPost_ret (results_none rfl _ _ _) rfl ?_
  exact ⟨rfl, rfl⟩
theorem yzy (w : World) : Calls Go.Proofs.Try.prog 58 #[.int .u64 0] w fun e w' => e = .returned (.int .i64 0) ∧ w' = w :=
  Go.calls_of_every_depth fun D => AnyS.bits_LenInS { Go.Proofs.Try.lays192 with } D 0 w (by omega) (by omega)
theorem yxo (w : World) : Calls Go.Proofs.Try.prog 54 #[.slice none 0 0] w fun e w' => e = .returned (.tuple #[]) ∧ w' = w := by
  go_enter Go.Proofs.Try.func54, Go.Proofs.Try.ntmps54
  go_wp2_with (first
    | (go_at_call 58; refine (yzy _).mono ?_; rintro e w' ⟨rfl, rfl⟩)
    | (go_at_call 57; refine (ysk _).mono ?_; rintro e w' ⟨rfl, rfl⟩))
  go_end0
  exact ⟨rfl, rfl⟩
theorem yzd (w : World) : Calls Go.Proofs.Try.prog 38 #[.slice none 0 0] w fun e w' => e = .returned (.tuple #[]) ∧ w' = w := by
  go_enter Go.Proofs.Try.func38, Go.Proofs.Try.ntmps38
  go_wp2_with (first | (go_at_call 54; refine (yxo _).mono ?_; rintro e w' ⟨rfl, rfl⟩))
  go_end0
  exact ⟨rfl, rfl⟩
end
theorem y1gl : EnvOk Go.Proofs.Try.prog nm E := y17o (by kernel_rfl) y1ft .nothing (yph Go.Proofs.Try.lays192 (y15o (by kernel_rfl)) yzd)
end Go.Vm
