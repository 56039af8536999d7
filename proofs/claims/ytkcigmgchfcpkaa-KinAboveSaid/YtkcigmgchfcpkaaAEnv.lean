/- The machine's form of functions, each checked against the translation, and the environment that they make. -/
import Derived.Test.YtkcigmgchfcpkaaVd
import Derived.Test.YtkcigmgchfcpkaaShelf
import Derived.Test.YtkcigmgchfcpkaaProg
import Derived.WalkSpells
import Derived.KernelRfl
set_option linter.unusedSimpArgs false
set_option linter.unusedVariables false
set_option linter.unusedSectionVars false
namespace Go.Vm
def yvv : CCode :=
  (.seq (.region [
 kO 2 (.mv (.c (.bool true)))])
 .ret)
def yro : CCode :=
  (.region [
 kO 120 (.bin .add 34 (ci 1)),
 kO 34 (.mv 120)])
def yuz : CCode :=
  (.region [
 kO 119 (.bin .add 95 (ci 1)),
 kO 95 (.mv 119)])
def yq1 : CCode :=
  (.region [
 kO 118 (.bin .add 105 (ci 1)),
 kO 105 (.mv 118)])
def yt3 : CCode :=
  (.seq (.block 7 (.seq (.region [
 kO 107 (.ixs 1 103 105),
 kO 108 (.ld false 1 107),
 kO 16 (.mv 108)])
 (.seq (.region [
 kO 109 (.mv 10),
 kO 110 (.mv 16),
 kO 111 (.mget false [2] (.int .i64 0) false 109 110),
 kO 112 (.bin .neq 111 (ci 1)),
 kO 113 (.mv 112),
 kG 114 (.mv 16) 113 false,
 kG 115 (.mv 6) 113 false,
 kG 116 (.bin .eql 114 115) 113 false,
 kO 117 (.pick 113 (.c (.bool true)) 116)])
 (.cond 117
 (.seq (.region [
  kO 2 (.mv (.c (.bool false)))])
  .ret)
 .skip))))
 yq1)
def yvj : CCode :=
  (.seq (.cond 106
 .skip
 (.exit 6))
 yt3)
def yjs : CCode :=
  (.seq (.region [
 kO 106 (.bin .lss 105 104)])
 yvj)
def ye6 : CCode :=
  (.loop [3, 6, 10, 32, 33, 34, 93, 94, 95, 103, 104, 105] yjs)
def ylz : CCode :=
  (.block 6 ye6)
def yly : CCode :=
  (.seq (.region [
 kO 101 (.mv 3),
 kO 102 (.mv 14),
 kO 103 (.call none true 179 [101, 102]),
 kO 104 (.len 1 103),
 kO 105 (.mv (ci 0))])
 ylz)
def yiy : CCode :=
  (.seq (.seq (.region [
 kO 99 (.mv 14),
 kO 100 (.bin .eql 99 (.c (.str [])))])
 (.cond 100
 (.exit 5)
 .skip))
 yly)
def ylr : CCode :=
  (.seq (.region [
 kO 97 (.ixs 1 93 95),
 kO 98 (.ld false 1 97),
 kO 14 (.mv 98)])
 yiy)
def ymw : CCode :=
  (.block 5 ylr)
def ylk : CCode :=
  (.seq ymw
 yuz)
def yio : CCode :=
  (.seq (.cond 96
 .skip
 (.exit 4))
 ylk)
def ymr : CCode :=
  (.seq (.region [
 kO 96 (.bin .lss 95 94)])
 yio)
def yea : CCode :=
  (.loop [3, 6, 10, 32, 33, 34, 93, 94, 95] ymr)
def yl8 : CCode :=
  (.block 4 yea)
def yk2 : CCode :=
  (.seq (.draw [
 kO 87 (.fa 3 7),
 kO 88 (.ld false 1 87),
 kO 89 (.app (some 2) 1 16 (.c .nils) 88),
 kO 90 (.fa 2 7),
 kO 91 (.ld false 1 90),
 kO 92 (.buildS (some 3) 1 1 [(.str [])] [(0, 91)]),
 kO 93 (.app (some 4) 1 16 89 92),
 kO 94 (.len 1 93),
 kO 95 (.mv (ci 0))] [(2, 4), (1, 5), (2, 5)])
 yl8)
def yk0 : CCode :=
  (.seq (.seq (.region [
 kO 78 (.mv 10),
 kO 79 (.mv 6),
 kO 80 (.mget false [2] (.int .i64 0) false 78 79),
 kO 81 (.bin .neq 80 (ci 1)),
 kO 82 (.mv 81),
 kG 83 (.mv 10) 82 false,
 kG 84 (.mget false [2] (.int .i64 0) false 83 (.c (.str [79, 98, 106, 101, 99, 116]))) 82 false,
 kG 85 (.bin .neq 84 (ci 1)) 82 false,
 kO 86 (.pick 82 (.c (.bool true)) 85)])
 (.cond 86
 (.seq (.region [
  kO 2 (.mv (.c (.bool false)))])
  .ret)
 .skip))
 yk2)
def yiz : CCode :=
  (.region [
 kO 77 (.bin .add 57 (ci 1)),
 kO 57 (.mv 77)])
def ylg : CCode :=
  (.seq (.block 3 (.seq (.region [
 kO 59 (.mv 57),
 kO 60 (.ixs 1 55 57),
 kO 61 (.ld false 1 60),
 kO 11 (.mv 59),
 kO 12 (.mv 61)])
 (.seq (.region [
 kO 62 (.mv 10),
 kO 63 (.mv 12),
 kO 64 (.mget false [2] (.int .i64 0) false 62 63),
 kO 65 (.bin .add 64 (ci 1)),
 kU (.mput false [2] 62 63 65)])
 (.seq (.region [
 kO 66 (.mv 11),
 kO 67 (.bin .gtr 66 (ci 0)),
 kO 68 (.mv 67),
 kG 69 (.mv 9) 68 true,
 kG 70 (.mv 11) 68 true,
 kG 71 (.bin .sub 70 (ci 1)) 68 true,
 kG 72 (.ixs 1 69 71) 68 true,
 kG 73 (.ld false 1 72) 68 true,
 kG 74 (.mv 12) 68 true,
 kG 75 (.bin .geq 73 74) 68 true,
 kO 76 (.pick 68 75 (.c (.bool false)))])
 (.cond 76
 (.seq (.region [
  kO 2 (.mv (.c (.bool false)))])
  .ret)
 .skip)))))
 yiz)
def ylq : CCode :=
  (.seq (.cond 58
 .skip
 (.exit 2))
 ylg)
def yjm : CCode :=
  (.seq (.region [
 kO 58 (.bin .lss 57 56)])
 ylq)
def ybi : CCode :=
  (.loop [3, 6, 7, 9, 10, 32, 33, 34, 55, 56, 57] yjm)
def ylh : CCode :=
  (.block 2 ybi)
def yl2 : CCode :=
  (.seq (.region [
 kO 55 (.mv 9),
 kO 56 (.len 1 55),
 kO 57 (.mv (ci 0))])
 ylh)
def yme : CCode :=
  (.seq yl2
 yk0)
def yla : CCode :=
  (.seq (.region [
 kO 54 (.mkm (some 1)),
 kO 10 (.mv 54)])
 yme)
def yjw : CCode :=
  (.seq (.seq (.region [
 kO 47 (.mv 8),
 kO 48 (.un .not 47),
 kO 49 (.mv 48),
 kG 50 (.mv 9) 49 false,
 kG 51 (.len 1 50) 49 false,
 kG 52 (.bin .eql 51 (ci 0)) 49 false,
 kO 53 (.pick 49 (.c (.bool true)) 52)])
 (.cond 53
 (.seq (.region [
  kO 2 (.mv (.c (.bool false)))])
  .ret)
 .skip))
 yla)
def yjv : CCode :=
  (.seq (.region [
 kO 44 (.mv 3),
 kO 45 (.mv 6),
 kO 46 (.call none true 179 [44, 45]),
 kO 9 (.mv 46)])
 yjw)
def yl1 : CCode :=
  (.seq (.region [
 kO 39 (.mv 3),
 kO 40 (.mv 6),
 kO 41 (.call none true 178 [39, 40]),
 kO 38 (.mv 41),
 kO 42 (.ext 0 38),
 kO 43 (.ext 1 38),
 kO 7 (.new (some 0) [(.int .i64 0), (.str []), (.str []), .nils, .nils, .nils, .nils]),
 kU (.st 7 7 42),
 kO 8 (.mv 43)])
 yjv)
def yil : CCode :=
  (.seq (.region [
 kO 36 (.ixs 1 32 34),
 kO 37 (.ld false 1 36),
 kO 6 (.mv 37)])
 yl1)
def ykz : CCode :=
  (.block 1 yil)
def yli : CCode :=
  (.seq ykz
 yro)
def yiu : CCode :=
  (.seq (.cond 35
 .skip
 (.exit 0))
 yli)
def yk6 : CCode :=
  (.seq (.region [
 kO 35 (.bin .lss 34 33)])
 yiu)
def ydr : CCode :=
  (.loop [3, 32, 33, 34] yk6)
def yl3 : CCode :=
  (.block 0 ydr)
def ym5 : CCode :=
  (.seq (.region [
 kO 31 (.mv 3),
 kO 32 (.call none true 177 [31]),
 kO 33 (.len 1 32),
 kO 34 (.mv (ci 0))])
 yl3)
def ylt : CCode :=
  (.seq ym5
 yvv)
def ymd : CCode :=
  (.seq (.seq (.region [
 kO 24 (.mv 4),
 kO 25 (.bin .neq 24 (ci 0)),
 kO 26 (.mv 25),
 kG 27 (.mv 0) 26 false,
 kG 28 (.call none true 2 [27]) 26 false,
 kG 29 (.un .not 28) 26 false,
 kO 30 (.pick 26 (.c (.bool true)) 29)])
 (.cond 30
 (.seq (.region [
  kO 2 (.mv (.c (.bool true)))])
  .ret)
 .skip))
 ylt)
def yj7 : CCode :=
  (.seq (.region [
 kO 20 (.mv 0),
 kO 21 (.call none true 1 [20]),
 kO 19 (.mv 21),
 kO 22 (.ext 0 19),
 kO 23 (.ext 1 19),
 kO 3 (.mv 22),
 kO 4 (.mv 23)])
 ymd)
def ymc : CCode :=
  (.seq (.seq (.region [
 kO 17 (.call none true 0 []),
 kO 18 (.un .not 17)])
 (.cond 18
 (.seq (.region [
  kO 2 (.mv (.c (.bool false)))])
  .ret)
 .skip))
 yj7)
def ymp : CCode :=
  (.seq (.region [
 kO 2 (.mv (.c (.bool false)))])
 ymc)
def y18w : CFunc :=
  ⟨1, true, 5, ymp, [.t 2]⟩
def yuh : CCode :=
  (.seq (.region [
 kO 0 (.mv (.c (.bool false)))])
 (.seq (.region [
 kO 4 (.build [(.int .i64 0), (.str []), (.str []), .nils, .nils, .nils, .nils] [(1, 1, (.c (.str [97]))), (2, 1, (.c (.str [69, 120, 99, 101, 112, 116, 105, 111, 110])))]),
 kO 5 (.buildS (some 0) 7 1 [(.int .i64 0), (.str []), (.str []), .nils, .nils, .nils, .nils] [(0, 4)]),
 kO 6 (.call none true 1 [5]),
 kO 3 (.mv 6),
 kO 7 (.ext 0 3),
 kO 8 (.ext 1 3),
 kO 1 (.mv 7),
 kO 2 (.mv 8)])
 (.seq (.region [
 kO 9 (.mv 2),
 kO 10 (.bin .eql 9 (ci 0)),
 kO 11 (.mv 10),
 kG 12 (.mv 1) 11 true,
 kG 13 (.call none true 3 [12, (.c (.str [76, 97, 59])), (.c (.str [76, 84, 104, 114, 111, 119, 97, 98, 108, 101, 59]))]) 11 true,
 kO 14 (.pick 11 13 (.c (.bool false))),
 kO 15 (.mv 14),
 kG 16 (.mv 1) 15 true,
 kG 17 (.call none true 3 [16, (.c (.str [91, 76, 97, 59])), (.c (.str [91, 76, 79, 98, 106, 101, 99, 116, 59]))]) 15 true,
 kO 18 (.pick 15 17 (.c (.bool false))),
 kO 19 (.mv 18),
 kG 20 (.mv 1) 19 true,
 kG 21 (.call none true 3 [20, (.c (.str [91, 73])), (.c (.str [91, 76, 79, 98, 106, 101, 99, 116, 59]))]) 19 true,
 kG 22 (.un .not 21) 19 true,
 kO 23 (.pick 19 22 (.c (.bool false))),
 kO 24 (.mv 23),
 kG 25 (.mv 1) 24 true,
 kG 26 (.call none true 3 [25, (.c (.str [76, 79, 98, 106, 101, 99, 116, 59])), (.c (.str [76, 97, 59]))]) 24 true,
 kG 27 (.un .not 26) 24 true,
 kO 28 (.pick 24 27 (.c (.bool false))),
 kO 29 (.mv 28),
 kG 30 (.call none true 31 []) 29 true,
 kG 31 (.len 1 30) 29 true,
 kG 32 (.bin .eql 31 (ci 13)) 29 true,
 kO 33 (.pick 29 32 (.c (.bool false))),
 kO 34 (.mv 33),
 kG 35 (.call none true 32 [(.c (.str [83, 121, 115])), (.c (.str [101, 120, 105, 116])), (.c (.str [40, 73, 41, 86]))]) 34 true,
 kG 36 (.bin .eql 35 (ci 3)) 34 true,
 kO 37 (.pick 34 36 (.c (.bool false))),
 kO 0 (.mv 37)])
 .ret)))
def y17h : CFunc :=
  ⟨0, true, 1, yuh, [.t 0]⟩
def yva : CCode :=
  (.seq (.region [
 kO 129 (.mv 4),
 kO 2 (.mv 129),
 kO 3 (.mv (ci 0))])
 .ret)
def yvy : CCode :=
  (.region [
 kO 128 (.bin .add 119 (ci 1)),
 kO 119 (.mv 128)])
def yoz : CCode :=
  (.seq (.block 9 (.seq (.region [
 kO 121 (.ixs 1 117 119),
 kO 122 (.ld false 1 121),
 kO 16 (.mv 122)])
 (.seq (.region [
 kO 123 (.mv 4),
 kO 124 (.mv 16),
 kO 125 (.mkm (some 12)),
 kO 126 (.call none false 62 [123, 124, 125]),
 kO 127 (.un .not 126)])
 (.cond 127
 (.seq (.region [
  kO 2 (.mv (.c .nilp)),
  kO 3 (.mv (ci 51))])
  .ret)
 .skip))))
 yvy)
def yri : CCode :=
  (.seq (.cond 120
 .skip
 (.exit 8))
 yoz)
def yr2 : CCode :=
  (.seq (.region [
 kO 120 (.bin .lss 119 118)])
 yri)
def ydq : CCode :=
  (.loop [4, 117, 118, 119] yr2)
def ypz : CCode :=
  (.block 8 ydq)
def yoa : CCode :=
  (.seq (.region [
 kO 114 (.mv 4),
 kO 115 (.nilchk 114),
 kO 116 (.fa 1 115),
 kO 117 (.ld false 1 116),
 kO 118 (.len 1 117),
 kO 119 (.mv (ci 0))])
 ypz)
def yuy : CCode :=
  (.seq yoa
 yva)
def ymm : CCode :=
  (.region [
 kO 113 (.bin .add 105 (ci 1)),
 kO 105 (.mv 113)])
def ymj : CCode :=
  (.seq (.block 7 (.seq (.region [
 kO 107 (.ixs 7 103 105),
 kO 108 (.ld true 7 107),
 kO 14 (.new (some 11) [(.int .i64 0), (.str []), (.str []), .nils, .nils, .nils, .nils]),
 kU (.st 7 14 108)])
 (.seq (.region [
 kO 109 (.mv 4),
 kO 110 (.ld true 7 14),
 kO 111 (.call none true 61 [109, 110]),
 kO 112 (.un .not 111)])
 (.cond 112
 (.seq (.region [
  kO 2 (.mv (.c .nilp)),
  kO 3 (.mv (ci 50))])
  .ret)
 .skip))))
 ymm)
def yk9 : CCode :=
  (.seq (.cond 106
 .skip
 (.exit 6))
 ymj)
def yl7 : CCode :=
  (.seq (.region [
 kO 106 (.bin .lss 105 104)])
 yk9)
def yaz : CCode :=
  (.loop [4, 103, 104, 105] yl7)
def yk4 : CCode :=
  (.block 6 yaz)
def yko : CCode :=
  (.seq (.region [
 kO 103 (.mv 0),
 kO 104 (.len 1 103),
 kO 105 (.mv (ci 0))])
 yk4)
def yir : CCode :=
  (.seq yko
 yuy)
def ym9 : CCode :=
  (.region [
 kO 102 (.bin .add 69 (ci 1)),
 kO 69 (.mv 102)])
def yih : CCode :=
  (.seq (.draw [
 kO 84 (.mv 4),
 kO 85 (.nilchk 84),
 kO 86 (.fa 0 85),
 kO 87 (.ld false 1 86),
 kO 88 (.fa 1 10),
 kO 89 (.ld false 1 88),
 kO 90 (.ld true 7 10),
 kU (.mput false [2] 87 89 90)] [])
 (.draw [
 kO 91 (.mv 4),
 kO 92 (.mv 4),
 kO 93 (.nilchk 92),
 kO 94 (.fa 1 93),
 kO 95 (.ld false 1 94),
 kO 96 (.fa 1 10),
 kO 97 (.ld false 1 96),
 kO 98 (.buildS (some 9) 1 1 [(.str [])] [(0, 97)]),
 kO 99 (.app (some 10) 1 16 95 98),
 kO 100 (.nilchk 91),
 kO 101 (.fa 1 100),
 kU (.st 1 101 99)] [(4, 7)]))
def ym1 : CCode :=
  (.seq (.seq (.draw [
 kO 74 (.mv 4),
 kO 75 (.nilchk 74),
 kO 76 (.fa 0 75),
 kO 77 (.ld false 1 76),
 kO 78 (.fa 1 10),
 kO 79 (.ld false 1 78),
 kO 80 (.mget false [2] (.agg [(.int .i64 0), (.str []), (.str []), .nils, .nils, .nils, .nils]) true 77 79),
 kO 73 (.mv 80),
 kO 81 (.ext 0 73),
 kO 82 (.ext 1 73),
 kO 11 (.new (some 8) [(.int .i64 0), (.str []), (.str []), .nils, .nils, .nils, .nils]),
 kU (.st 7 11 81),
 kO 12 (.mv 82)] [(3, 10), (5, 10), (6, 10)])
 (.seq (.region [
 kO 83 (.mv 12)])
 (.cond 83
 (.seq (.region [
  kO 2 (.mv (.c .nilp)),
  kO 3 (.mv (ci 23))])
  .ret)
 .skip)))
 yih)
def ylm : CCode :=
  (.seq (.region [
 kO 71 (.ixs 7 67 69),
 kO 72 (.ld true 7 71),
 kO 10 (.new (some 7) [(.int .i64 0), (.str []), (.str []), .nils, .nils, .nils, .nils]),
 kU (.st 7 10 72)])
 ym1)
def yki : CCode :=
  (.block 5 ylm)
def ylu : CCode :=
  (.seq yki
 ym9)
def ykl : CCode :=
  (.seq (.cond 70
 .skip
 (.exit 4))
 ylu)
def ykd : CCode :=
  (.seq (.region [
 kO 70 (.bin .lss 69 68)])
 ykl)
def yb9 : CCode :=
  (.loop [0, 4, 67, 68, 69] ykd)
def yml : CCode :=
  (.block 4 yb9)
def yk8 : CCode :=
  (.seq (.region [
 kO 67 (.mv 0),
 kO 68 (.len 1 67),
 kO 69 (.mv (ci 0))])
 yml)
def ylv : CCode :=
  (.seq yk8
 yir)
def yju : CCode :=
  (.region [
 kO 66 (.bin .add 58 (ci 1)),
 kO 58 (.mv 66)])
def ymn : CCode :=
  (.seq (.block 3 (.seq (.region [
 kO 60 (.ixs 7 56 58),
 kO 61 (.ld true 7 60),
 kO 8 (.new (some 6) [(.int .i64 0), (.str []), (.str []), .nils, .nils, .nils, .nils]),
 kU (.st 7 8 61)])
 (.seq (.region [
 kO 62 (.fa 1 8),
 kO 63 (.ld false 1 62),
 kO 64 (.call none true 60 [63, (.c (.bool false))]),
 kO 65 (.un .not 64)])
 (.cond 65
 (.seq (.region [
  kO 2 (.mv (.c .nilp)),
  kO 3 (.mv (ci 20))])
  .ret)
 .skip))))
 yju)
def yjc : CCode :=
  (.seq (.cond 59
 .skip
 (.exit 2))
 ymn)
def ymk : CCode :=
  (.seq (.region [
 kO 59 (.bin .lss 58 57)])
 yjc)
def ybj : CCode :=
  (.loop [0, 4, 56, 57, 58] ymk)
def yle : CCode :=
  (.block 2 ybj)
def ym8 : CCode :=
  (.seq (.region [
 kO 56 (.mv 0),
 kO 57 (.len 1 56),
 kO 58 (.mv (ci 0))])
 yle)
def yjq : CCode :=
  (.seq ym8
 ylv)
def yip : CCode :=
  (.region [
 kO 55 (.bin .add 26 (ci 1)),
 kO 26 (.mv 55)])
def ylj : CCode :=
  (.seq (.block 1 (.seq (.region [
 kO 28 (.ixs 2 24 26),
 kO 29 (.ld true 2 28),
 kO 6 (.new (some 3) [(.str []), (.str [])]),
 kU (.st 2 6 29)])
 (.seq (.draw [
 kO 30 (.mv 4),
 kO 31 (.nilchk 30),
 kO 32 (.fa 0 31),
 kO 33 (.ld false 1 32),
 kO 34 (.ixa 2 1 6 (ci 0)),
 kO 35 (.ld false 1 34),
 kO 36 (.ixa 2 1 6 (ci 0)),
 kO 37 (.ld false 1 36),
 kO 38 (.ixa 2 1 6 (ci 1)),
 kO 39 (.ld false 1 38),
 kO 40 (.ixa 2 1 6 (ci 0)),
 kO 41 (.ld false 1 40),
 kO 42 (.call none true 43 [41]),
 kO 43 (.build [(.int .i64 0), (.str []), (.str []), .nils, .nils, .nils, .nils] [(1, 1, 37), (2, 1, 39), (6, 1, 42)]),
 kU (.mput false [2] 33 35 43)] [(3, 12), (5, 12), (7, 12), (9, 12)])
 (.draw [
 kO 44 (.mv 4),
 kO 45 (.mv 4),
 kO 46 (.nilchk 45),
 kO 47 (.fa 1 46),
 kO 48 (.ld false 1 47),
 kO 49 (.ixa 2 1 6 (ci 0)),
 kO 50 (.ld false 1 49),
 kO 51 (.buildS (some 4) 1 1 [(.str [])] [(0, 50)]),
 kO 52 (.app (some 5) 1 16 48 51),
 kO 53 (.nilchk 44),
 kO 54 (.fa 1 53),
 kU (.st 1 54 52)] [(4, 7)]))))
 yip)
def yie : CCode :=
  (.seq (.cond 27
 .skip
 (.exit 0))
 ylj)
def yj5 : CCode :=
  (.seq (.region [
 kO 27 (.bin .lss 26 25)])
 yie)
def ybq : CCode :=
  (.loop [0, 4, 24, 25, 26] yj5)
def ykn : CCode :=
  (.block 0 ybq)
def yjj : CCode :=
  (.seq (.region [
 kO 24 (.call none true 33 []),
 kO 25 (.len 1 24),
 kO 26 (.mv (ci 0))])
 ykn)
def ymi : CCode :=
  (.seq yjj
 yjq)
def ykx : CCode :=
  (.seq (.region [
 kO 20 (.mkm (some 0)),
 kO 21 (.mkm (some 1)),
 kO 22 (.build [.nilm, .nils, .nilm] [(0, 1, 20), (2, 1, 21)]),
 kO 23 (.box (some 2) 22),
 kO 4 (.mv 23)])
 ymi)
def yjk : CCode :=
  (.seq (.seq (.region [
 kO 17 (.mv 0),
 kO 18 (.len 1 17),
 kO 19 (.bin .gtr 18 (ci 40))])
 (.cond 19
 (.seq (.region [
  kO 2 (.mv (.c .nilp)),
  kO 3 (.mv (ci 2))])
  .ret)
 .skip))
 ykx)
def yn0 : CCode :=
  (.seq (.region [
 kO 2 (.mv (.c .nilp)),
 kO 3 (.mv (ci 0))])
 yjk)
def y186 : CFunc :=
  ⟨1, true, 13, yn0, [.t 2, .t 3]⟩
def yp2 : CCode :=
  (.seq (.region [
 kO 27 (.mv 3),
 kO 28 (.bin .lss 27 (ci 3000)),
 kO 2 (.mv 28)])
 .ret)
def yqx : CCode :=
  (.region [
 kO 26 (.bin .add 8 (ci 1)),
 kO 8 (.mv 26)])
def yrm : CCode :=
  (.seq (.block 1 (.seq (.region [
 kO 10 (.ixs 7 6 8),
 kO 11 (.ld true 7 10),
 kO 5 (.new (some 0) [(.int .i64 0), (.str []), (.str []), .nils, .nils, .nils, .nils]),
 kU (.st 7 5 11)])
 (.region [
 kO 12 (.mv 3),
 kO 13 (.fa 3 5),
 kO 14 (.ld false 1 13),
 kO 15 (.len 1 14),
 kO 16 (.bin .add (ci 1) 15),
 kO 17 (.fa 5 5),
 kO 18 (.ld false 1 17),
 kO 19 (.len 1 18),
 kO 20 (.bin .add 16 19),
 kO 21 (.fa 6 5),
 kO 22 (.ld false 1 21),
 kO 23 (.len 1 22),
 kO 24 (.bin .add 20 23),
 kO 25 (.bin .add 12 24),
 kO 3 (.mv 25)])))
 yqx)
def yrt : CCode :=
  (.seq (.cond 9
 .skip
 (.exit 0))
 yrm)
def yp6 : CCode :=
  (.seq (.region [
 kO 9 (.bin .lss 8 7)])
 yrt)
def ydn : CCode :=
  (.loop [3, 6, 7, 8] yp6)
def yra : CCode :=
  (.block 0 ydn)
def yth : CCode :=
  (.seq (.region [
 kO 6 (.mv 0),
 kO 7 (.len 1 6),
 kO 8 (.mv (ci 0))])
 yra)
def yw2 : CCode :=
  (.seq yth
 yp2)
def yii : CCode :=
  (.seq (.region [
 kO 3 (.mv (ci 0))])
 yw2)
def ylf : CCode :=
  (.seq (.region [
 kO 2 (.mv (.c (.bool false)))])
 yii)
def y17l : CFunc :=
  ⟨1, true, 1, ylf, [.t 2]⟩
def yw6 : CCode :=
  (.seq (.region [
 kO 54 (.mv 1),
 kO 55 (.call none true 36 [54]),
 kO 56 (.mv 2),
 kO 57 (.call none true 36 [56]),
 kO 9 (.mv 55),
 kO 10 (.mv 57)])
 (.seq (.region [
 kO 58 (.mv 9),
 kO 59 (.bin .neq 58 (.c (.str []))),
 kO 60 (.mv 59),
 kG 61 (.mv 10) 60 true,
 kG 62 (.bin .neq 61 (.c (.str []))) 60 true,
 kO 63 (.pick 60 62 (.c (.bool false))),
 kO 64 (.mv 63),
 kG 65 (.mv 9) 64 true,
 kG 66 (.call none true 34 [65]) 64 true,
 kG 67 (.bin .eql 66 (ci 3)) 64 true,
 kO 68 (.pick 64 67 (.c (.bool false))),
 kO 69 (.mv 68),
 kG 70 (.mv 0) 69 true,
 kG 71 (.mv 9) 69 true,
 kG 72 (.mv 10) 69 true,
 kG 73 (.call none true 3 [70, 71, 72]) 69 true,
 kO 74 (.pick 69 73 (.c (.bool false))),
 kO 6 (.mv 74)])
 .ret))
def ytw : CCode :=
  (.seq (.region [
 kO 40 (.mv 1),
 kO 41 (.call none true 35 [40]),
 kO 8 (.mv 41)])
 (.seq (.region [
 kO 42 (.mv 8),
 kO 43 (.bin .neq 42 (.c (.str []))),
 kO 44 (.mv 43),
 kG 45 (.mv 0) 44 true,
 kG 46 (.nilchk 45) 44 true,
 kG 47 (.fa 2 46) 44 true,
 kG 48 (.ld false 1 47) 44 true,
 kG 49 (.mv 8) 44 true,
 kG 50 (.mget false [2] .nilm false 48 49) 44 true,
 kG 51 (.mv 7) 44 true,
 kG 52 (.mget false [2] (.bool false) false 50 51) 44 true,
 kO 53 (.pick 44 52 (.c (.bool false))),
 kO 6 (.mv 53)])
 .ret))
def yqh : CCode :=
  (.seq (.seq (.region [
 kO 35 (.mv 1),
 kO 36 (.ixstr 35 (ci 0)),
 kO 37 (.bin .eql 36 (.c (.int .u8 91)))])
 (.cond 37
 (.seq (.region [
  kO 38 (.mv 7),
  kO 39 (.bin .eql 38 (.c (.str [79, 98, 106, 101, 99, 116]))),
  kO 6 (.mv 39)])
  .ret)
 .skip))
 ytw)
def ywu : CCode :=
  (.cond 34
 yqh
 .skip)
def ypp : CCode :=
  (.seq (.region [
 kO 33 (.mv 7),
 kO 34 (.bin .neq 33 (.c (.str [])))])
 ywu)
def yox : CCode :=
  (.seq (.region [
 kO 31 (.mv 2),
 kO 32 (.call none true 35 [31]),
 kO 7 (.mv 32)])
 ypp)
def yq0 : CCode :=
  (.seq yox
 yw6)
def yvp : CCode :=
  (.seq (.block 0 (.seq (.region [
 kO 12 (.mv 2),
 kO 13 (.bin .eql 12 (.c (.str []))),
 kO 11 (.mv 13)])
 (.cond 11
 (.seq (.region [
  kO 6 (.mv (.c (.bool true)))])
  .ret)
 (.seq (.region [
  kO 15 (.mv 0),
  kO 16 (.eqn 0 false 15 (.c .nilp)),
  kO 17 (.mv 16),
  kG 18 (.mv 1) 17 false,
  kG 19 (.bin .eql 18 (.c (.str []))) 17 false,
  kO 20 (.pick 17 (.c (.bool true)) 19),
  kO 14 (.mv 20)])
  (.cond 14
  (.seq (.region [
   kO 6 (.mv (.c (.bool false)))])
   .ret)
  (.seq (.region [
   kO 22 (.mv 1),
   kO 23 (.mv 2),
   kO 24 (.bin .eql 22 23),
   kO 21 (.mv 24)])
   (.cond 21
   (.seq (.region [
    kO 6 (.mv (.c (.bool true)))])
    .ret)
   (.seq (.region [
    kO 26 (.mv 1),
    kO 27 (.bin .eql 26 (.c (.str [78]))),
    kO 25 (.mv 27)])
    (.cond 25
    (.seq (.region [
     kO 28 (.mv 2),
     kO 29 (.call none true 34 [28]),
     kO 30 (.bin .eql 29 (ci 3)),
     kO 6 (.mv 30)])
     .ret)
    .skip)))))))))
 yq0)
def yw0 : CCode :=
  (.seq (.region [
 kO 6 (.mv (.c (.bool false)))])
 yvp)
def y19b : CFunc :=
  ⟨3, true, 0, yw0, [.t 6]⟩
def y165 : CCode :=
  (.seq (.region [
 kO 4 (.mv (.c (.bool true)))])
 .ret)
def y13j : CCode :=
  (.seq (.seq (.region [
 kO 20 (.mv 1),
 kO 21 (.call none true 35 [20]),
 kO 5 (.mv 21)])
 (.seq (.region [
 kO 22 (.mv 5),
 kO 23 (.bin .neq 22 (.c (.str [])))])
 (.cond 23
 (.seq (.region [
  kO 25 (.mv 0),
  kO 26 (.nilchk 25),
  kO 27 (.fa 0 26),
  kO 28 (.ld false 1 27),
  kO 29 (.mv 5),
  kO 30 (.mget false [2] (.agg [(.int .i64 0), (.str []), (.str []), .nils, .nils, .nils, .nils]) true 28 29),
  kO 24 (.mv 30),
  kO 31 (.ext 0 24),
  kO 32 (.ext 1 24),
  kO 6 (.new (some 0) [(.int .i64 0), (.str []), (.str []), .nils, .nils, .nils, .nils]),
  kU (.st 7 6 31),
  kO 7 (.mv 32)])
  (.seq (.region [
  kO 33 (.mv 7),
  kO 4 (.mv 33)])
  .ret))
 .skip)))
 y165)
def y166 : CCode :=
  (.block 1 (.region [
 kO 18 (.mv 1),
 kO 19 (.sls 18 (some (ci 1)) none),
 kO 1 (.mv 19)]))
def y11h : CCode :=
  (.seq (.seq (.region [
 kO 15 (.mv 1),
 kO 16 (.ixstr 15 (ci 0)),
 kO 17 (.bin .eql 16 (.c (.int .u8 91)))])
 (.cond 17
 .skip
 (.exit 0)))
 y166)
def yyr : CCode :=
  (.loop [0, 1] y11h)
def y14g : CCode :=
  (.block 0 yyr)
def y15u : CCode :=
  (.seq y14g
 y13j)
def y12l : CCode :=
  (.seq (.seq (.region [
 kO 8 (.mv 0),
 kO 9 (.eqn 0 false 8 (.c .nilp)),
 kO 10 (.mv 9),
 kG 11 (.mv 1) 10 false,
 kG 12 (.call none true 37 [11]) 10 false,
 kG 13 (.un .not 12) 10 false,
 kO 14 (.pick 10 (.c (.bool true)) 13)])
 (.cond 14
 (.seq (.region [
  kO 4 (.mv (.c (.bool false)))])
  .ret)
 .skip))
 y15u)
def y133 : CCode :=
  (.seq (.region [
 kO 4 (.mv (.c (.bool false)))])
 y12l)
def y1d1 : CFunc :=
  ⟨2, true, 1, y133, [.t 4]⟩
def ytx : CCode :=
  (.seq (.region [
 kO 5 (.mv 0),
 kO 6 (.nilchk 5),
 kO 7 (.fa 1 6),
 kO 8 (.ld false 1 7),
 kO 9 (.app (some 0) 1 16 (.c .nils) 8),
 kO 2 (.mv 9)])
 .ret)
def yu0 : CCode :=
  (.seq (.seq (.region [
 kO 3 (.mv 0),
 kO 4 (.eqn 0 false 3 (.c .nilp))])
 (.cond 4
 (.seq (.region [
  kO 2 (.mv (.c .nils))])
  .ret)
 .skip))
 ytx)
def yu4 : CCode :=
  (.seq (.region [
 kO 2 (.mv (.c .nils))])
 yu0)
def y1ac : CFunc :=
  ⟨1, true, 1, yu4, [.t 2]⟩
def yr6 : CCode :=
  (.seq (.region [
 kO 12 (.mv 0),
 kO 13 (.nilchk 12),
 kO 14 (.fa 0 13),
 kO 15 (.ld false 1 14),
 kO 16 (.mv 1),
 kO 17 (.mget false [2] (.agg [(.int .i64 0), (.str []), (.str []), .nils, .nils, .nils, .nils]) true 15 16),
 kO 11 (.mv 17),
 kO 18 (.ext 0 11),
 kO 19 (.ext 1 11),
 kO 6 (.new (some 1) [(.int .i64 0), (.str []), (.str []), .nils, .nils, .nils, .nils]),
 kU (.st 7 6 18),
 kO 7 (.mv 19)])
 (.seq (.region [
 kO 20 (.ld true 7 6),
 kO 21 (.mv 7),
 kU (.st 7 4 20),
 kO 5 (.mv 21)])
 .ret))
def yw7 : CCode :=
  (.seq (.seq (.region [
 kO 8 (.mv 0),
 kO 9 (.eqn 0 false 8 (.c .nilp))])
 (.cond 9
 (.seq (.region [
  kO 10 (.build [(.int .i64 0), (.str []), (.str []), .nils, .nils, .nils, .nils] []),
  kU (.st 7 4 10),
  kO 5 (.mv (.c (.bool false)))])
  .ret)
 .skip))
 yr6)
def yqe : CCode :=
  (.seq (.region [
 kO 4 (.new (some 0) [(.int .i64 0), (.str []), (.str []), .nils, .nils, .nils, .nils]),
 kO 5 (.mv (.c (.bool false)))])
 yw7)
def y17z : CFunc :=
  ⟨2, true, 2, yqe, [.cell 4 true 7, .t 5]⟩
def ytb : CCode :=
  (.seq (.region [
 kO 26 (.mv 5),
 kO 4 (.mv 26)])
 .ret)
def yuv : CCode :=
  (.region [
 kO 20 (.mv 5),
 kO 21 (.mv 6),
 kO 22 (.buildS (some 0) 1 1 [(.str [])] [(0, 21)]),
 kO 23 (.app (some 1) 1 16 20 22),
 kO 5 (.mv 23)])
def ywq : CCode :=
  (.mrange [
 kO 9 (.mv 0),
 kO 10 (.nilchk 9),
 kO 11 (.fa 2 10),
 kO 12 (.ld false 1 11),
 kO 13 (.mv 1),
 kO 14 (.mget false [2] .nilm false 12 13)] 14 [] [5] 18 [
 kO 19 (.ext 0 18),
 kO 6 (.mv 19)] (.kill [0] yuv) [
 kO 24 (.mv 5),
 kO 25 (.call none false 180 [24])] ytb)
def yuj : CCode :=
  (.seq (.region [
 kO 5 (.mv (.c .nils))])
 ywq)
def ypv : CCode :=
  (.seq (.seq (.region [
 kO 7 (.mv 0),
 kO 8 (.eqn 0 false 7 (.c .nilp))])
 (.cond 8
 (.seq (.region [
  kO 4 (.mv (.c .nils))])
  .ret)
 .skip))
 yuj)
def yrv : CCode :=
  (.seq (.region [
 kO 4 (.mv (.c .nils))])
 ypv)
def y19h : CFunc :=
  ⟨2, true, 2, yrv, [.t 4]⟩
def y1dc : CFunc :=
  ⟨0, true, 3, (.seq (.region [
    kO 0 (.mv (.c .nils))])
  (.seq (.region [
    kO 1 (.mv (.c .nils))])
  (.seq (.seq (.region [
    kO 4 (.call none true 33 []),
    kO 5 (.len 1 4),
    kO 6 (.mv (ci 0))])
  (.block 0 (.loop [1, 4, 5, 6] (.seq (.region [
      kO 7 (.bin .lss 6 5)])
    (.seq (.cond 7
    .skip
    (.exit 0))
    (.seq (.block 1 (.seq (.region [
      kO 8 (.ixs 2 4 6),
      kO 9 (.ld true 2 8),
      kO 3 (.new (some 0) [(.str []), (.str [])]),
      kU (.st 2 3 9)])
    (.region [
      kO 10 (.mv 1),
      kO 11 (.ixa 2 1 3 (ci 0)),
      kO 12 (.ld false 1 11),
      kO 13 (.buildS (some 1) 1 1 [(.str [])] [(0, 12)]),
      kO 14 (.app (some 2) 1 16 10 13),
      kO 1 (.mv 14)])))
    (.region [
      kO 15 (.bin .add 6 (ci 1)),
      kO 6 (.mv 15)])))))))
  (.seq (.region [
    kO 16 (.mv 1),
    kO 0 (.mv 16)])
  .ret)))), [.t 0]⟩
def y1cw : CFunc :=
  ⟨3, true, 1, (.seq (.region [
    kO 6 (.mv (ci 0))])
  (.seq (.region [
    kO 7 (.mv (ci 0))])
  (.seq (.seq (.region [
    kO 10 (.mv 0),
    kO 11 (.bin .eql 10 (.c (.str [83, 116, 114, 105, 110, 103])))])
  (.cond 11
  (.region [
      kO 7 (.mv (ci 4))])
  .skip))
  (.seq (.seq (.region [
    kO 12 (.mv 0),
    kO 13 (.call none true 43 [12]),
    kO 14 (.len 1 13),
    kO 15 (.mv (ci 0))])
  (.block 0 (.loop [1, 2, 7, 13, 14, 15] (.seq (.region [
      kO 16 (.bin .lss 15 14)])
    (.seq (.cond 16
    .skip
    (.exit 0))
    (.seq (.block 1 (.seq (.region [
      kO 17 (.mv 15),
      kO 18 (.ixs 8 13 15),
      kO 19 (.ld true 8 18),
      kO 9 (.new (some 0) [(.int .i64 0), (.str []), (.str []), (.int .i64 0), (.int .i64 0), .nils, .nils, .nils]),
      kO 8 (.mv 17),
      kU (.st 8 9 19)])
    (.seq (.region [
      kO 20 (.fa 1 9),
      kO 21 (.ld false 1 20),
      kO 22 (.mv 1),
      kO 23 (.bin .eql 21 22),
      kO 24 (.mv 23),
      kG 25 (.fa 2 9) 24 true,
      kG 26 (.ld false 1 25) 24 true,
      kG 27 (.mv 2) 24 true,
      kG 28 (.bin .eql 26 27) 24 true,
      kO 29 (.pick 24 28 (.c (.bool false)))])
    (.cond 29
    (.seq (.region [
        kO 30 (.mv 7),
        kO 31 (.mv 8),
        kO 32 (.bin .add 30 31),
        kO 6 (.mv 32)])
      .ret)
    .skip))))
    (.region [
      kO 33 (.bin .add 15 (ci 1)),
      kO 15 (.mv 33)])))))))
  (.seq (.region [
    kO 6 (.mv (ci (-1)))])
  .ret))))), [.t 6]⟩
def y1bg : CFunc :=
  ⟨0, true, 1, (.seq (.region [
    kO 0 (.mv (.c .nils))])
  (.seq (.region [
    kO 1 (.build [(.str []), (.str [])] [(0, 1, (.c (.str [79, 98, 106, 101, 99, 116]))), (1, 1, (.c (.str [])))]),
    kO 2 (.build [(.str []), (.str [])] [(0, 1, (.c (.str [83, 116, 114, 105, 110, 103]))), (1, 1, (.c (.str [79, 98, 106, 101, 99, 116])))]),
    kO 3 (.build [(.str []), (.str [])] [(0, 1, (.c (.str [83, 121, 115]))), (1, 1, (.c (.str [79, 98, 106, 101, 99, 116])))]),
    kO 4 (.build [(.str []), (.str [])] [(0, 1, (.c (.str [84, 104, 114, 111, 119, 97, 98, 108, 101]))), (1, 1, (.c (.str [79, 98, 106, 101, 99, 116])))]),
    kO 5 (.build [(.str []), (.str [])] [(0, 1, (.c (.str [69, 120, 99, 101, 112, 116, 105, 111, 110]))), (1, 1, (.c (.str [84, 104, 114, 111, 119, 97, 98, 108, 101])))]),
    kO 6 (.build [(.str []), (.str [])] [(0, 1, (.c (.str [78, 117, 108, 108, 70, 97, 117, 108, 116]))), (1, 1, (.c (.str [69, 120, 99, 101, 112, 116, 105, 111, 110])))]),
    kO 7 (.build [(.str []), (.str [])] [(0, 1, (.c (.str [90, 101, 114, 111, 70, 97, 117, 108, 116]))), (1, 1, (.c (.str [69, 120, 99, 101, 112, 116, 105, 111, 110])))]),
    kO 8 (.build [(.str []), (.str [])] [(0, 1, (.c (.str [66, 111, 117, 110, 100, 115, 70, 97, 117, 108, 116]))), (1, 1, (.c (.str [69, 120, 99, 101, 112, 116, 105, 111, 110])))]),
    kO 9 (.build [(.str []), (.str [])] [(0, 1, (.c (.str [83, 105, 122, 101, 70, 97, 117, 108, 116]))), (1, 1, (.c (.str [69, 120, 99, 101, 112, 116, 105, 111, 110])))]),
    kO 10 (.build [(.str []), (.str [])] [(0, 1, (.c (.str [67, 97, 115, 116, 70, 97, 117, 108, 116]))), (1, 1, (.c (.str [69, 120, 99, 101, 112, 116, 105, 111, 110])))]),
    kO 11 (.build [(.str []), (.str [])] [(0, 1, (.c (.str [83, 116, 111, 114, 101, 70, 97, 117, 108, 116]))), (1, 1, (.c (.str [69, 120, 99, 101, 112, 116, 105, 111, 110])))]),
    kO 12 (.build [(.str []), (.str [])] [(0, 1, (.c (.str [77, 101, 109, 111, 114, 121, 70, 97, 117, 108, 116]))), (1, 1, (.c (.str [84, 104, 114, 111, 119, 97, 98, 108, 101])))]),
    kO 13 (.build [(.str []), (.str [])] [(0, 1, (.c (.str [68, 101, 112, 116, 104, 70, 97, 117, 108, 116]))), (1, 1, (.c (.str [84, 104, 114, 111, 119, 97, 98, 108, 101])))]),
    kO 14 (.buildS (some 0) 2 13 [(.str []), (.str [])] [(0, 1), (1, 2), (2, 3), (3, 4), (4, 5), (5, 6), (6, 7), (7, 8), (8, 9), (9, 10), (10, 11), (11, 12), (12, 13)]),
    kO 0 (.mv 14)])
  .ret)), [.t 0]⟩
def yuo : CCode :=
  (.seq (.region [
 kO 2 (.mv (.c .nils))])
 .ret)
def yom : CCode :=
  (.seq (.seq (.region [
 kO 3 (.mv 0)])
 (.block 0 (.seq (.region [
 kO 5 (.bin .eql 3 (.c (.str [83, 121, 115]))),
 kO 4 (.mv 5)])
 (.cond 4
 (.seq (.region [
  kO 6 (.build [(.int .i64 0), (.str []), (.str []), (.int .i64 0), (.int .i64 0), .nils, .nils, .nils] [(0, 1, (ci 8)), (1, 1, (.c (.str [112, 114, 105, 110, 116]))), (2, 1, (.c (.str [40, 73, 41, 86])))]),
  kO 7 (.build [(.int .i64 0), (.str []), (.str []), (.int .i64 0), (.int .i64 0), .nils, .nils, .nils] [(0, 1, (ci 8)), (1, 1, (.c (.str [112, 114, 105, 110, 116]))), (2, 1, (.c (.str [40, 74, 41, 86])))]),
  kO 8 (.build [(.int .i64 0), (.str []), (.str []), (.int .i64 0), (.int .i64 0), .nils, .nils, .nils] [(0, 1, (ci 8)), (1, 1, (.c (.str [112, 114, 105, 110, 116]))), (2, 1, (.c (.str [40, 76, 83, 116, 114, 105, 110, 103, 59, 41, 86])))]),
  kO 9 (.build [(.int .i64 0), (.str []), (.str []), (.int .i64 0), (.int .i64 0), .nils, .nils, .nils] [(0, 1, (ci 8)), (1, 1, (.c (.str [101, 120, 105, 116]))), (2, 1, (.c (.str [40, 73, 41, 86])))]),
  kO 10 (.buildS (some 0) 8 4 [(.int .i64 0), (.str []), (.str []), (.int .i64 0), (.int .i64 0), .nils, .nils, .nils] [(0, 6), (1, 7), (2, 8), (3, 9)]),
  kO 2 (.mv 10)])
  .ret)
 (.seq (.region [
  kO 12 (.bin .eql 3 (.c (.str [83, 116, 114, 105, 110, 103]))),
  kO 11 (.mv 12)])
  (.cond 11
  (.seq (.region [
   kO 13 (.build [(.int .i64 0), (.str []), (.str []), (.int .i64 0), (.int .i64 0), .nils, .nils, .nils] [(1, 1, (.c (.str [108, 101, 110, 103, 116, 104]))), (2, 1, (.c (.str [40, 41, 73])))]),
   kO 14 (.build [(.int .i64 0), (.str []), (.str []), (.int .i64 0), (.int .i64 0), .nils, .nils, .nils] [(1, 1, (.c (.str [99, 104, 97, 114, 65, 116]))), (2, 1, (.c (.str [40, 73, 41, 73])))]),
   kO 15 (.buildS (some 1) 8 2 [(.int .i64 0), (.str []), (.str []), (.int .i64 0), (.int .i64 0), .nils, .nils, .nils] [(0, 13), (1, 14)]),
   kO 2 (.mv 15)])
   .ret)
  .skip))))))
 yuo)
def yun : CCode :=
  (.seq (.region [
 kO 2 (.mv (.c .nils))])
 yom)
def y185 : CFunc :=
  ⟨1, true, 2, yun, [.t 2]⟩
def y111 : CCode :=
  (.seq (.region [
 kO 4 (.mv (.c (.bool true)))])
 .ret)
def y0o : CCode :=
  (.region [
 kO 71 (.bin .add 19 (ci 1)),
 kO 19 (.mv 71)])
def y0j : CCode :=
  (.seq (.block 1 (.seq (.region [
 kO 21 (.ixs 1 17 19),
 kO 22 (.ld false 1 21),
 kO 6 (.mv 22)])
 (.seq (.region [
 kO 23 (.mv 6),
 kO 24 (.bin .geq 23 (.c (.int .u8 97))),
 kO 25 (.mv 24),
 kG 26 (.mv 6) 25 true,
 kG 27 (.bin .leq 26 (.c (.int .u8 122))) 25 true,
 kO 28 (.pick 25 27 (.c (.bool false))),
 kO 29 (.mv 28),
 kG 30 (.mv 6) 29 false,
 kG 31 (.bin .geq 30 (.c (.int .u8 65))) 29 false,
 kG 32 (.mv 31) 29 false,
 kG 33 (.mv 6) 32 true,
 kG 34 (.bin .leq 33 (.c (.int .u8 90))) 32 true,
 kG 35 (.pick 32 34 (.c (.bool false))) 29 false,
 kO 36 (.pick 29 (.c (.bool true)) 35),
 kO 37 (.mv 36),
 kG 38 (.mv 6) 37 false,
 kG 39 (.bin .geq 38 (.c (.int .u8 48))) 37 false,
 kG 40 (.mv 39) 37 false,
 kG 41 (.mv 6) 40 true,
 kG 42 (.bin .leq 41 (.c (.int .u8 57))) 40 true,
 kG 43 (.pick 40 42 (.c (.bool false))) 37 false,
 kO 44 (.pick 37 (.c (.bool true)) 43),
 kO 45 (.mv 44),
 kG 46 (.mv 6) 45 false,
 kG 47 (.bin .eql 46 (.c (.int .u8 95))) 45 false,
 kO 48 (.pick 45 (.c (.bool true)) 47),
 kO 49 (.mv 48),
 kG 50 (.mv 6) 49 false,
 kG 51 (.bin .eql 50 (.c (.int .u8 36))) 49 false,
 kO 52 (.pick 49 (.c (.bool true)) 51),
 kO 53 (.mv 52),
 kG 54 (.mv 6) 53 false,
 kG 55 (.bin .eql 54 (.c (.int .u8 47))) 53 false,
 kO 56 (.pick 53 (.c (.bool true)) 55),
 kO 7 (.mv 56)])
 (.seq (.region [
 kO 57 (.mv 7),
 kO 58 (.un .not 57),
 kO 59 (.mv 58),
 kG 60 (.mv 1) 59 true,
 kG 61 (.mv 60) 59 true,
 kG 62 (.mv 6) 61 true,
 kG 63 (.bin .eql 62 (.c (.int .u8 60))) 61 true,
 kG 64 (.mv 63) 61 true,
 kG 65 (.mv 6) 64 false,
 kG 66 (.bin .eql 65 (.c (.int .u8 62))) 64 false,
 kG 67 (.pick 64 (.c (.bool true)) 66) 61 true,
 kG 68 (.pick 61 67 (.c (.bool false))) 59 true,
 kG 69 (.un .not 68) 59 true,
 kO 70 (.pick 59 69 (.c (.bool false)))])
 (.cond 70
 (.seq (.region [
  kO 4 (.mv (.c (.bool false)))])
  .ret)
 .skip)))))
 y0o)
def y0e : CCode :=
  (.seq (.cond 20
 .skip
 (.exit 0))
 y0j)
def y0v : CCode :=
  (.seq (.region [
 kO 20 (.bin .lss 19 18)])
 y0e)
def ygt : CCode :=
  (.loop [1, 17, 18, 19] y0v)
def y110 : CCode :=
  (.block 0 ygt)
def y0y : CCode :=
  (.seq (.region [
 kO 16 (.mv 0),
 kO 17 (.s2b (some 0) 16),
 kO 18 (.len 1 17),
 kO 19 (.mv (ci 0))])
 y110)
def y112 : CCode :=
  (.seq y0y
 y111)
def ypq : CCode :=
  (.seq (.seq (.region [
 kO 8 (.mv 0),
 kO 9 (.len 0 8),
 kO 10 (.bin .lss 9 (ci 1)),
 kO 11 (.mv 10),
 kG 12 (.mv 0) 11 false,
 kG 13 (.len 0 12) 11 false,
 kG 14 (.bin .gtr 13 (ci 60)) 11 false,
 kO 15 (.pick 11 (.c (.bool true)) 14)])
 (.cond 15
 (.seq (.region [
  kO 4 (.mv (.c (.bool false)))])
  .ret)
 .skip))
 y112)
def yuw : CCode :=
  (.seq (.region [
 kO 4 (.mv (.c (.bool false)))])
 ypq)
def c_q6 : CFunc :=
  ⟨2, true, 1, yuw, [.t 4]⟩
def yso : CCode :=
  (.seq (.region [
 kO 4 (.mv (.c (.bool true)))])
 .ret)
def you : CCode :=
  (.region [
 kO 92 (.bin .add 57 (ci 1)),
 kO 57 (.mv 92)])
def ysv : CCode :=
  (.region [
 kO 91 (.bin .add 84 (ci 1)),
 kO 84 (.mv 91)])
def ytr : CCode :=
  (.seq (.block 3 (.seq (.region [
 kO 86 (.ixs 1 82 84),
 kO 87 (.ld false 1 86),
 kO 13 (.mv 87)])
 (.seq (.region [
 kO 88 (.mv 13),
 kO 89 (.mv 9),
 kO 90 (.bin .eql 88 89)])
 (.cond 90
 (.seq (.region [
  kO 4 (.mv (.c (.bool false)))])
  .ret)
 .skip))))
 ysv)
def yq2 : CCode :=
  (.seq (.cond 85
 .skip
 (.exit 2))
 ytr)
def ypu : CCode :=
  (.seq (.region [
 kO 85 (.bin .lss 84 83)])
 yq2)
def yej : CCode :=
  (.loop [0, 3, 9, 55, 56, 57, 82, 83, 84] ypu)
def yuq : CCode :=
  (.block 2 yej)
def ymx : CCode :=
  (.seq (.region [
 kO 79 (.fa 3 3),
 kO 80 (.ld false 1 79),
 kO 81 (.mv 8),
 kO 82 (.slc 1 80 none (some 81)),
 kO 83 (.len 1 82),
 kO 84 (.mv (ci 0))])
 yuq)
def yma : CCode :=
  (.seq (.seq (.region [
 kO 71 (.mv 11),
 kO 72 (.un .not 71),
 kO 73 (.mv 72),
 kG 74 (.fa 0 10) 73 false,
 kG 75 (.ld false 1 74) 73 false,
 kG 76 (.bin .and 75 (ci 512)) 73 false,
 kG 77 (.bin .eql 76 (ci 0)) 73 false,
 kO 78 (.pick 73 (.c (.bool true)) 77)])
 (.cond 78
 (.seq (.region [
  kO 4 (.mv (.c (.bool false)))])
  .ret)
 .skip))
 ymx)
def ykb : CCode :=
  (.seq (.region [
 kO 63 (.mv 0),
 kO 64 (.nilchk 63),
 kO 65 (.fa 0 64),
 kO 66 (.ld false 1 65),
 kO 67 (.mv 9),
 kO 68 (.mget false [2] (.agg [(.int .i64 0), (.str []), (.str []), .nils, .nils, .nils, .nils]) true 66 67),
 kO 62 (.mv 68),
 kO 69 (.ext 0 62),
 kO 70 (.ext 1 62),
 kO 10 (.new (some 2) [(.int .i64 0), (.str []), (.str []), .nils, .nils, .nils, .nils]),
 kU (.st 7 10 69),
 kO 11 (.mv 70)])
 yma)
def ylc : CCode :=
  (.seq (.region [
 kO 59 (.mv 57),
 kO 60 (.ixs 1 55 57),
 kO 61 (.ld false 1 60),
 kO 8 (.mv 59),
 kO 9 (.mv 61)])
 ykb)
def yjh : CCode :=
  (.block 1 ylc)
def yj1 : CCode :=
  (.seq yjh
 you)
def ymv : CCode :=
  (.seq (.cond 58
 .skip
 (.exit 0))
 yj1)
def ykt : CCode :=
  (.seq (.region [
 kO 58 (.bin .lss 57 56)])
 ymv)
def ydk : CCode :=
  (.loop [0, 3, 55, 56, 57] ykt)
def yjg : CCode :=
  (.block 0 ydk)
def ykj : CCode :=
  (.seq (.region [
 kO 54 (.fa 3 3),
 kO 55 (.ld false 1 54),
 kO 56 (.len 1 55),
 kO 57 (.mv (ci 0))])
 yjg)
def yij : CCode :=
  (.seq ykj
 yso)
def yit : CCode :=
  (.seq (.seq (.region [
 kO 28 (.mv 6),
 kO 29 (.un .not 28),
 kO 30 (.mv 29),
 kG 31 (.fa 0 5) 30 false,
 kG 32 (.ld false 1 31) 30 false,
 kG 33 (.bin .and 32 (ci 512)) 30 false,
 kG 34 (.bin .neq 33 (ci 0)) 30 false,
 kO 35 (.pick 30 (.c (.bool true)) 34),
 kO 36 (.mv 35),
 kG 37 (.fa 2 3) 36 false,
 kG 38 (.ld false 1 37) 36 false,
 kG 39 (.bin .eql 38 (.c (.str [83, 116, 114, 105, 110, 103]))) 36 false,
 kO 40 (.pick 36 (.c (.bool true)) 39),
 kO 41 (.mv 40),
 kG 42 (.fa 2 3) 41 false,
 kG 43 (.ld false 1 42) 41 false,
 kG 44 (.bin .eql 43 (.c (.str [83, 121, 115]))) 41 false,
 kO 45 (.pick 41 (.c (.bool true)) 44),
 kO 46 (.mv 45),
 kG 47 (.mv 7) 46 false,
 kG 48 (.mv 47) 46 false,
 kG 49 (.fa 2 3) 48 true,
 kG 50 (.ld false 1 49) 48 true,
 kG 51 (.bin .neq 50 (.c (.str [79, 98, 106, 101, 99, 116]))) 48 true,
 kG 52 (.pick 48 51 (.c (.bool false))) 46 false,
 kO 53 (.pick 46 (.c (.bool true)) 52)])
 (.cond 53
 (.seq (.region [
  kO 4 (.mv (.c (.bool false)))])
  .ret)
 .skip))
 yij)
def yk7 : CCode :=
  (.seq (.region [
 kO 24 (.fa 0 3),
 kO 25 (.ld false 1 24),
 kO 26 (.bin .and 25 (ci 512)),
 kO 27 (.bin .neq 26 (ci 0)),
 kO 7 (.mv 27)])
 yit)
def yjp : CCode :=
  (.seq (.draw [
 kO 15 (.mv 0),
 kO 16 (.nilchk 15),
 kO 17 (.fa 0 16),
 kO 18 (.ld false 1 17),
 kO 19 (.fa 2 3),
 kO 20 (.ld false 1 19),
 kO 21 (.mget false [2] (.agg [(.int .i64 0), (.str []), (.str []), .nils, .nils, .nils, .nils]) true 18 20),
 kO 14 (.mv 21),
 kO 22 (.ext 0 14),
 kO 23 (.ext 1 14),
 kO 5 (.new (some 1) [(.int .i64 0), (.str []), (.str []), .nils, .nils, .nils, .nils]),
 kU (.st 7 5 22),
 kO 6 (.mv 23)] [(3, 10), (5, 10), (6, 10)])
 yk7)
def yl9 : CCode :=
  (.seq (.region [
 kO 3 (.box (some 0) 1),
 kO 4 (.mv (.c (.bool false)))])
 yjp)
def y17g : CFunc :=
  ⟨2, true, 3, yl9, [.t 4]⟩
def yop : CCode :=
  (.seq (.region [
 kO 70 (.mv 0),
 kO 71 (.nilchk 70),
 kO 72 (.fa 2 71),
 kO 73 (.ld false 1 72),
 kO 74 (.mv 1),
 kO 75 (.mv 7),
 kU (.mput false [2] 73 74 75)])
 (.seq (.region [
 kO 6 (.mv (.c (.bool true)))])
 .ret))
def yr9 : CCode :=
  (.region [
 kO 69 (.bin .add 47 (ci 1)),
 kO 47 (.mv 69)])
def ytz : CCode :=
  (.region [
 kO 67 (.mv 7),
 kO 68 (.mv 12),
 kU (.mput false [2] 67 68 (.c (.bool true)))])
def ypd : CCode :=
  (.mrange [
 kO 56 (.mv 0),
 kO 57 (.nilchk 56),
 kO 58 (.fa 2 57),
 kO 59 (.ld false 1 58),
 kO 60 (.mv 11),
 kO 61 (.mget false [2] .nilm false 59 60)] 61 [0, 1, 2, 7, 45, 46, 47] [] 65 [
 kO 66 (.ext 0 65),
 kO 12 (.mv 66)] (.kill [] ytz) [
] .skip)
def ype : CCode :=
  (.seq (.seq (.region [
 kO 51 (.mv 0),
 kO 52 (.mv 11),
 kO 53 (.mv 2),
 kO 54 (.call none false 62 [51, 52, 53]),
 kO 55 (.un .not 54)])
 (.cond 55
 (.seq (.region [
  kO 6 (.mv (.c (.bool false)))])
  .ret)
 .skip))
 ypd)
def yp9 : CCode :=
  (.seq (.region [
 kO 49 (.ixs 1 45 47),
 kO 50 (.ld false 1 49),
 kO 11 (.mv 50)])
 ype)
def ytp : CCode :=
  (.block 1 yp9)
def yu7 : CCode :=
  (.seq ytp
 yr9)
def ym4 : CCode :=
  (.seq (.cond 48
 .skip
 (.exit 0))
 yu7)
def yj4 : CCode :=
  (.seq (.region [
 kO 48 (.bin .lss 47 46)])
 ym4)
def ye7 : CCode :=
  (.loop [0, 1, 2, 7, 45, 46, 47] yj4)
def yj8 : CCode :=
  (.block 0 ye7)
def yis : CCode :=
  (.seq (.region [
 kO 45 (.mv 9),
 kO 46 (.len 1 45),
 kO 47 (.mv (ci 0))])
 yj8)
def yix : CCode :=
  (.seq yis
 yop)
def ym7 : CCode :=
  (.seq (.seq (.region [
 kO 37 (.fa 2 8),
 kO 38 (.ld false 1 37),
 kO 39 (.bin .neq 38 (.c (.str [])))])
 (.cond 39
 (.region [
  kO 40 (.mv 9),
  kO 41 (.fa 2 8),
  kO 42 (.ld false 1 41),
  kO 43 (.buildS (some 3) 1 1 [(.str [])] [(0, 42)]),
  kO 44 (.app (some 4) 1 16 40 43),
  kO 9 (.mv 44)])
 .skip))
 yix)
def ykh : CCode :=
  (.seq (.region [
 kO 34 (.fa 3 8),
 kO 35 (.ld false 1 34),
 kO 36 (.app (some 2) 1 16 (.c .nils) 35),
 kO 9 (.mv 36)])
 ym7)
def yl4 : CCode :=
  (.seq (.region [
 kO 28 (.mv 0),
 kO 29 (.nilchk 28),
 kO 30 (.fa 0 29),
 kO 31 (.ld false 1 30),
 kO 32 (.mv 1),
 kO 33 (.mget false [2] (.agg [(.int .i64 0), (.str []), (.str []), .nils, .nils, .nils, .nils]) false 31 32),
 kO 8 (.new (some 1) [(.int .i64 0), (.str []), (.str []), .nils, .nils, .nils, .nils]),
 kU (.st 7 8 33)])
 ykh)
def ykc : CCode :=
  (.seq (.region [
 kO 25 (.mkm (some 0)),
 kO 26 (.mv 1),
 kU (.mput false [2] 25 26 (.c (.bool true))),
 kO 27 (.mv 25),
 kO 7 (.mv 27)])
 yl4)
def yl0 : CCode :=
  (.seq (.region [
 kO 23 (.mv 2),
 kO 24 (.mv 1),
 kU (.mput false [2] 23 24 (.c (.bool true)))])
 ykc)
def yka : CCode :=
  (.seq (.seq (.region [
 kO 20 (.mv 2),
 kO 21 (.mv 1),
 kO 22 (.mget false [2] (.bool false) false 20 21)])
 (.cond 22
 (.seq (.region [
  kO 6 (.mv (.c (.bool false)))])
  .ret)
 .skip))
 yl0)
def ykk : CCode :=
  (.seq (.seq (.region [
 kO 13 (.mv 0),
 kO 14 (.nilchk 13),
 kO 15 (.fa 2 14),
 kO 16 (.ld false 1 15),
 kO 17 (.mv 1),
 kO 18 (.mget false [2] .nilm false 16 17),
 kO 19 (.eqn 2 true 18 (.c .nilm))])
 (.cond 19
 (.seq (.region [
  kO 6 (.mv (.c (.bool true)))])
  .ret)
 .skip))
 yka)
def yj9 : CCode :=
  (.seq (.region [
 kO 6 (.mv (.c (.bool false)))])
 ykk)
def y19v : CFunc :=
  ⟨3, false, 5, yj9, [.t 6]⟩
def y09 : CCode :=
  (.seq (.region [
 kO 2 (.mv (ci 0))])
 .ret)
def y114 : CCode :=
  (.seq (.block 0 (.seq (.region [
 kO 4 (.mv 0),
 kO 5 (.bin .eql 4 (.c (.str [73]))),
 kO 3 (.mv 5)])
 (.cond 3
 (.seq (.region [
  kO 2 (.mv (ci 1))])
  .ret)
 (.seq (.region [
  kO 7 (.mv 0),
  kO 8 (.bin .eql 7 (.c (.str [74]))),
  kO 6 (.mv 8)])
  (.cond 6
  (.seq (.region [
   kO 2 (.mv (ci 2))])
   .ret)
  (.seq (.region [
   kO 10 (.mv 0),
   kO 11 (.bin .eql 10 (.c (.str [78]))),
   kO 12 (.mv 11),
   kG 13 (.mv 0) 12 false,
   kG 14 (.bin .neq 13 (.c (.str []))) 12 false,
   kG 15 (.mv 14) 12 false,
   kG 16 (.mv 0) 15 true,
   kG 17 (.ixstr 16 (ci 0)) 15 true,
   kG 18 (.bin .eql 17 (.c (.int .u8 76))) 15 true,
   kG 19 (.mv 18) 15 true,
   kG 20 (.mv 0) 19 false,
   kG 21 (.ixstr 20 (ci 0)) 19 false,
   kG 22 (.bin .eql 21 (.c (.int .u8 91))) 19 false,
   kG 23 (.pick 19 (.c (.bool true)) 22) 15 true,
   kG 24 (.pick 15 23 (.c (.bool false))) 12 false,
   kO 25 (.pick 12 (.c (.bool true)) 24),
   kO 9 (.mv 25)])
   (.cond 9
   (.seq (.region [
    kO 2 (.mv (ci 3))])
    .ret)
   .skip)))))))
 y09)
def y115 : CCode :=
  (.seq (.region [
 kO 2 (.mv (ci 0))])
 y114)
def c_q5 : CFunc :=
  ⟨1, true, 0, y115, [.t 2]⟩
def y116 : CCode :=
  (.seq (.region [
 kO 2 (.mv (.c (.str [])))])
 .ret)
def y0g : CCode :=
  (.seq (.seq (.region [
 kO 4 (.mv 0),
 kO 5 (.len 0 4),
 kO 3 (.mv 5)])
 (.seq (.region [
 kO 6 (.mv 3),
 kO 7 (.bin .gtr 6 (ci 2)),
 kO 8 (.mv 7),
 kG 9 (.mv 0) 8 true,
 kG 10 (.ixstr 9 (ci 0)) 8 true,
 kG 11 (.bin .eql 10 (.c (.int .u8 76))) 8 true,
 kO 12 (.pick 8 11 (.c (.bool false))),
 kO 13 (.mv 12),
 kG 14 (.mv 0) 13 true,
 kG 15 (.mv 3) 13 true,
 kG 16 (.bin .sub 15 (ci 1)) 13 true,
 kG 17 (.ixstr 14 16) 13 true,
 kG 18 (.bin .eql 17 (.c (.int .u8 59))) 13 true,
 kO 19 (.pick 13 18 (.c (.bool false)))])
 (.cond 19
 (.seq (.region [
  kO 20 (.mv 0),
  kO 21 (.mv 3),
  kO 22 (.bin .sub 21 (ci 1)),
  kO 23 (.sls 20 (some (ci 1)) (some 22)),
  kO 2 (.mv 23)])
  .ret)
 .skip)))
 y116)
def y0c : CCode :=
  (.seq (.region [
 kO 2 (.mv (.c (.str [])))])
 y0g)
def c_q3 : CFunc :=
  ⟨1, true, 0, y0c, [.t 2]⟩
def y0p : CCode :=
  (.seq (.region [
 kO 2 (.mv (.c (.str [])))])
 .ret)
def y0x : CCode :=
  (.seq (.seq (.region [
 kO 3 (.mv 0),
 kO 4 (.len 0 3),
 kO 5 (.bin .gtr 4 (ci 1)),
 kO 6 (.mv 5),
 kG 7 (.mv 0) 6 true,
 kG 8 (.ixstr 7 (ci 0)) 6 true,
 kG 9 (.bin .eql 8 (.c (.int .u8 91))) 6 true,
 kO 10 (.pick 6 9 (.c (.bool false)))])
 (.cond 10
 (.seq (.region [
  kO 11 (.mv 0),
  kO 12 (.sls 11 (some (ci 1)) none),
  kO 2 (.mv 12)])
  .ret)
 .skip))
 y0p)
def y0a : CCode :=
  (.seq (.region [
 kO 2 (.mv (.c (.str [])))])
 y0x)
def c_q4 : CFunc :=
  ⟨1, true, 0, y0a, [.t 2]⟩
def y1a9 : CCode :=
  (.seq (.region [
 kO 2 (.mv (.c (.bool false)))])
 (.seq (.region [
 kO 3 (.mv 0),
 kO 4 (.bin .neq 3 (.c (.str []))),
 kO 5 (.mv 4),
 kG 6 (.mv 0) 5 true,
 kG 7 (.call none true 44 [6]) 5 true,
 kG 8 (.mv 0) 5 true,
 kG 9 (.len 0 8) 5 true,
 kG 10 (.bin .eql 7 9) 5 true,
 kO 11 (.pick 5 10 (.c (.bool false))),
 kO 2 (.mv 11)])
 .ret))
def c_q7 : CFunc :=
  ⟨1, true, 0, y1a9, [.t 2]⟩
def y19r : CCode :=
  (.seq (.region [
 kO 2 (.mv (ci 0))])
 .ret)
def y1af : CCode :=
  (.region [
 kO 41 (.mv 4),
 kO 42 (.bin .add 41 (ci 1)),
 kO 4 (.mv 42)])
def y1a0 : CCode :=
  (.seq (.region [
 kO 2 (.mv (ci 0))])
 .ret)
def y19w : CCode :=
  (.seq (.seq (.region [
 kO 47 (.mv 0),
 kO 48 (.mv 3),
 kO 49 (.bin .add 48 (ci 1)),
 kO 50 (.mv 4),
 kO 51 (.sls 47 (some 49) (some 50)),
 kO 52 (.call none true 60 [51, (.c (.bool false))])])
 (.cond 52
 (.seq (.region [
  kO 53 (.mv 4),
  kO 54 (.bin .add 53 (ci 1)),
  kO 2 (.mv 54)])
  .ret)
 .skip))
 y1a0)
def y1ad : CCode :=
  (.cond 46
 y19w
 .skip)
def y18t : CCode :=
  (.seq (.region [
 kO 43 (.mv 0),
 kO 44 (.mv 4),
 kO 45 (.ixstr 43 44),
 kO 46 (.bin .eql 45 (.c (.int .u8 59)))])
 y1ad)
def y18b : CCode :=
  (.block 4 y18t)
def y19o : CCode :=
  (.seq y18b
 y1af)
def y11z : CCode :=
  (.seq (.seq (.region [
 kO 37 (.mv 4),
 kO 38 (.mv 0),
 kO 39 (.len 0 38),
 kO 40 (.bin .lss 37 39)])
 (.cond 40
 .skip
 (.exit 3)))
 y19o)
def y15w : CCode :=
  (.loop [0, 3, 4] y11z)
def y149 : CCode :=
  (.block 3 y15w)
def y148 : CCode :=
  (.seq (.region [
 kO 35 (.mv 3),
 kO 36 (.bin .add 35 (ci 1)),
 kO 4 (.mv 36)])
 y149)
def y15c : CCode :=
  (.cond 33
 y148
 .skip)
def y156 : CCode :=
  (.seq (.region [
 kO 34 (.bin .eql 27 (.c (.int .u8 76))),
 kO 33 (.mv 34)])
 y15c)
def y12t : CCode :=
  (.cond 28
 (.seq (.region [
  kO 31 (.mv 3),
  kO 32 (.bin .add 31 (ci 1)),
  kO 2 (.mv 32)])
  .ret)
 y156)
def y16b : CCode :=
  (.seq (.seq (.region [
 kO 29 (.bin .eql 27 (.c (.int .u8 73))),
 kO 28 (.mv 29)])
 (.cond 28
 .skip
 (.region [
  kO 30 (.bin .eql 27 (.c (.int .u8 74))),
  kO 28 (.mv 30)])))
 y12t)
def y12i : CCode :=
  (.block 2 y16b)
def y12q : CCode :=
  (.seq (.region [
 kO 25 (.mv 0),
 kO 26 (.mv 3),
 kO 27 (.ixstr 25 26)])
 y12i)
def y16c : CCode :=
  (.seq y12q
 y19r)
def y12y : CCode :=
  (.seq (.seq (.region [
 kO 17 (.mv 3),
 kO 18 (.bin .gtr 17 (ci 8)),
 kO 19 (.mv 18),
 kG 20 (.mv 3) 19 false,
 kG 21 (.mv 0) 19 false,
 kG 22 (.len 0 21) 19 false,
 kG 23 (.bin .eql 20 22) 19 false,
 kO 24 (.pick 19 (.c (.bool true)) 23)])
 (.cond 24
 (.seq (.region [
  kO 2 (.mv (ci 0))])
  .ret)
 .skip))
 y16c)
def y150 : CCode :=
  (.block 1 (.region [
 kO 15 (.mv 3),
 kO 16 (.bin .add 15 (ci 1)),
 kO 3 (.mv 16)]))
def y161 : CCode :=
  (.seq (.seq (.region [
 kO 5 (.mv 3),
 kO 6 (.mv 0),
 kO 7 (.len 0 6),
 kO 8 (.bin .lss 5 7),
 kO 9 (.mv 8),
 kG 10 (.mv 0) 9 true,
 kG 11 (.mv 3) 9 true,
 kG 12 (.ixstr 10 11) 9 true,
 kG 13 (.bin .eql 12 (.c (.int .u8 91))) 9 true,
 kO 14 (.pick 9 13 (.c (.bool false)))])
 (.cond 14
 .skip
 (.exit 0)))
 y150)
def yz8 : CCode :=
  (.loop [0, 3] y161)
def y16l : CCode :=
  (.block 0 yz8)
def y125 : CCode :=
  (.seq y16l
 y12y)
def y168 : CCode :=
  (.seq (.region [
 kO 3 (.mv (ci 0))])
 y125)
def y13d : CCode :=
  (.seq (.region [
 kO 2 (.mv (ci 0))])
 y168)
def c_q8 : CFunc :=
  ⟨1, true, 0, y13d, [.t 2]⟩
def tbl : List (Option Nat) := [none, none, none, none, some 176, none, none, some 0, some 1, some 2, some 3, some 59, some 177, some 178, some 179, none, none, none, none, none, none, none, none, none, none, none, none, some 31, some 32, some 33, some 43, some 60, some 61, some 62, some 34, some 35, some 36, some 37, some 180, none, none, none, none, none, none, none, none, none, none, none, none, none, none, some 44]
def fnE : Nat → Option CFunc
  | 0 => some y17h
  | 1 => some y186
  | 2 => some y17l
  | 3 => some y19b
  | 31 => some y1dc
  | 32 => some y1cw
  | 33 => some y1bg
  | 34 => some c_q5
  | 35 => some c_q3
  | 36 => some c_q4
  | 37 => some c_q7
  | 43 => some y185
  | 44 => some c_q8
  | 59 => some y1d1
  | 60 => some c_q6
  | 61 => some y17g
  | 62 => some y19v
  | 176 => some y18w
  | 177 => some y1ac
  | 178 => some y17z
  | 179 => some y19h
  | _ => none
abbrev nm : Nat → Option Nat := nmOf tbl
def E : Env := envI fnE [62, 180] (fun _ _ => none) (xiS 180)
abbrev T1 (c : CCode) (n : St → OX) (e : Nat → St → OX) (r : List CRes) (k : St → OX) : Prop := ∀ s, W E 0 c s n e (finP r) = k s
abbrev T0 (c : CCode) (r : List CRes) (k : St → OX) : Prop := T1 c (finP r) xN r k
theorem sq {a b : CCode} {n k k' : St → OX} {e : Nat → St → OX} {r : List CRes} (h : T1 b n e r k) (h' : T1 a k e r k') : T1 (.seq a b) n e r k' := fun s => (y6x h).trans (h' s)
theorem ok4 : FnOk Go.Proofs.Try.prog nm fnE 4 176 := .of Go.Proofs.Try.func4 (by kernel_rfl) (by kernel_rfl) rfl (by kernel_rfl)
theorem ok7 : FnOk Go.Proofs.Try.prog nm fnE 7 0 := .of Go.Proofs.Try.func7 (by kernel_rfl) (by kernel_rfl) rfl (by kernel_rfl)
theorem ok8 : FnOk Go.Proofs.Try.prog nm fnE 8 1 := .of Go.Proofs.Try.func8 (by kernel_rfl) (by kernel_rfl) rfl (by kernel_rfl)
theorem ok9 : FnOk Go.Proofs.Try.prog nm fnE 9 2 := .of Go.Proofs.Try.func9 (by kernel_rfl) (by kernel_rfl) rfl (by kernel_rfl)
theorem ok10 : FnOk Go.Proofs.Try.prog nm fnE 10 3 := .of Go.Proofs.Try.func10 (by kernel_rfl) (by kernel_rfl) rfl (by kernel_rfl)
theorem ok11 : FnOk Go.Proofs.Try.prog nm fnE 11 59 := .of Go.Proofs.Try.func11 (by kernel_rfl) (by kernel_rfl) rfl (by kernel_rfl)
theorem ok12 : FnOk Go.Proofs.Try.prog nm fnE 12 177 := .of Go.Proofs.Try.func12 (by kernel_rfl) (by kernel_rfl) rfl (by kernel_rfl)
theorem ok13 : FnOk Go.Proofs.Try.prog nm fnE 13 178 := .of Go.Proofs.Try.func13 (by kernel_rfl) (by kernel_rfl) rfl (by kernel_rfl)
theorem ok14 : FnOk Go.Proofs.Try.prog nm fnE 14 179 := .of Go.Proofs.Try.func14 (by kernel_rfl) (by kernel_rfl) rfl (by kernel_rfl)
theorem ok27 : FnOk Go.Proofs.Try.prog nm fnE 27 31 := .of Go.Proofs.Try.func27 (by kernel_rfl) (by kernel_rfl) rfl (by kernel_rfl)
theorem ok28 : FnOk Go.Proofs.Try.prog nm fnE 28 32 := .of Go.Proofs.Try.func28 (by kernel_rfl) (by kernel_rfl) rfl (by kernel_rfl)
theorem ok29 : FnOk Go.Proofs.Try.prog nm fnE 29 33 := .of Go.Proofs.Try.func29 (by kernel_rfl) (by kernel_rfl) rfl (by kernel_rfl)
theorem ok30 : FnOk Go.Proofs.Try.prog nm fnE 30 43 := .of Go.Proofs.Try.func30 (by kernel_rfl) (by kernel_rfl) rfl (by kernel_rfl)
theorem ok31 : FnOk Go.Proofs.Try.prog nm fnE 31 60 := .of Go.Proofs.Try.func31 (by kernel_rfl) (by kernel_rfl) rfl (by kernel_rfl)
theorem ok32 : FnOk Go.Proofs.Try.prog nm fnE 32 61 := .of Go.Proofs.Try.func32 (by kernel_rfl) (by kernel_rfl) rfl (by kernel_rfl)
theorem ok33 : FnOk Go.Proofs.Try.prog nm fnE 33 62 := .of Go.Proofs.Try.func33 (by kernel_rfl) (by kernel_rfl) rfl (by kernel_rfl)
theorem ok34 : FnOk Go.Proofs.Try.prog nm fnE 34 34 := .of Go.Proofs.Try.func34 (by kernel_rfl) (by kernel_rfl) rfl (by kernel_rfl)
theorem ok35 : FnOk Go.Proofs.Try.prog nm fnE 35 35 := .of Go.Proofs.Try.func35 (by kernel_rfl) (by kernel_rfl) rfl (by kernel_rfl)
theorem ok36 : FnOk Go.Proofs.Try.prog nm fnE 36 36 := .of Go.Proofs.Try.func36 (by kernel_rfl) (by kernel_rfl) rfl (by kernel_rfl)
theorem ok37 : FnOk Go.Proofs.Try.prog nm fnE 37 37 := .of Go.Proofs.Try.func37 (by kernel_rfl) (by kernel_rfl) rfl (by kernel_rfl)
theorem ok38 : FnOk Go.Proofs.Try.prog nm fnE 38 180 := .ext Go.Proofs.Try.func38 (by kernel_rfl) (by kernel_rfl) rfl
theorem ok53 : FnOk Go.Proofs.Try.prog nm fnE 53 44 := .of Go.Proofs.Try.func53 (by kernel_rfl) (by kernel_rfl) rfl (by kernel_rfl)
theorem y1c7 : AllF Go.Proofs.Try.prog nm fnE 0 tbl :=
  ⟨ok4, ok7, ok8, ok9, ok10, ok11, ok12, ok13, ok14, ok27, ok28, ok29, ok30, ok31, ok32, ok33, ok34, ok35, ok36, ok37, ok38, ok53, trivial⟩
section
open Go.Proofs Go.RowKit
set_option maxRecDepth 100000
theorem ywc (w : World) : Calls Go.Proofs.Try.prog 60 #[.slice none 0 0, .int .i64 0, .int .i64 0] w fun e w' => e = .returned (.tuple #[]) ∧ w' = w := by
  go_enter Go.Proofs.Try.func60, Go.Proofs.Try.ntmps60
  go_wp2
  refine wp_loop_rounds 1 ?_
  rw [rounds_succ]
  go_wp2
  go_end0
  exact ⟨rfl, rfl⟩
theorem yr5 (w : World) : Calls Go.Proofs.Try.prog 57 #[.slice none 0 0, .int .i64 0, .int .i64 0, .int .i64 0] w fun e w' => e = .returned (.tuple #[]) ∧ w' = w := by
  go_enter Go.Proofs.Try.func57, Go.Proofs.Try.ntmps57
  go_wp2
  refine wp_loop_rounds 1 ?_
  rw [rounds_succ]
  go_wp2_with (first | (go_at_call 60; refine (ywc _).mono ?_; rintro e w' ⟨rfl, rfl⟩))
  refine bodyPost_ret (results_none rfl _ _ _) rfl ?_
  exact ⟨rfl, rfl⟩
theorem yxw (w : World) : Calls Go.Proofs.Try.prog 58 #[.int .u64 0] w fun e w' => e = .returned (.int .i64 0) ∧ w' = w :=
  Go.calls_of_every_depth fun D => AnyS.bits_LenInS { Go.Proofs.Try.lays192 with } D 0 w (by omega) (by omega)
theorem yvz (w : World) : Calls Go.Proofs.Try.prog 54 #[.slice none 0 0] w fun e w' => e = .returned (.tuple #[]) ∧ w' = w := by
  go_enter Go.Proofs.Try.func54, Go.Proofs.Try.ntmps54
  go_wp2_with (first
    | (go_at_call 58; refine (yxw _).mono ?_; rintro e w' ⟨rfl, rfl⟩)
    | (go_at_call 57; refine (yr5 _).mono ?_; rintro e w' ⟨rfl, rfl⟩))
  go_end0
  exact ⟨rfl, rfl⟩
theorem yy8 (w : World) : Calls Go.Proofs.Try.prog 38 #[.slice none 0 0] w fun e w' => e = .returned (.tuple #[]) ∧ w' = w := by
  go_enter Go.Proofs.Try.func38, Go.Proofs.Try.ntmps38
  go_wp2_with (first | (go_at_call 54; refine (yvz _).mono ?_; rintro e w' ⟨rfl, rfl⟩))
  go_end0
  exact ⟨rfl, rfl⟩
end
theorem y1br : EnvOk Go.Proofs.Try.prog nm E := y13a (by kernel_rfl) y1c7 .nothing (yn5 Go.Proofs.Try.lays192 (y11y (by kernel_rfl)) yy8)
end Go.Vm
