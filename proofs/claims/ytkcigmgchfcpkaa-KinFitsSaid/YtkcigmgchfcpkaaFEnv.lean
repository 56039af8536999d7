/- The machine's form of functions, each checked against the translation, and the environment that they make. -/
import Derived.Test.YtkcigmgchfcpkaaVc
import Derived.Test.YtkcigmgchfcpkaaProg
import Derived.KernelRfl
set_option linter.unusedSimpArgs false
set_option linter.unusedVariables false
set_option linter.unusedSectionVars false
namespace Go.Vm
def yqo : CCode :=
  (.seq (.region [
 kO 4 (.mv (.c (.bool true)))])
 .ret)
def ysa : CCode :=
  (.region [
 kO 124 (.bin .add 70 (ci 1)),
 kO 70 (.mv 124)])
def yuo : CCode :=
  (.seq (.region [
 kO 78 (.mv 11),
 kO 79 (.ixstr 78 (ci 0)),
 kO 80 (.bin .eql 79 (.c (.int .u8 76))),
 kO 81 (.mv 80),
 kG 82 (.mv 11) 81 false,
 kG 83 (.ixstr 82 (ci 0)) 81 false,
 kG 84 (.bin .eql 83 (.c (.int .u8 91))) 81 false,
 kO 85 (.pick 81 (.c (.bool true)) 84),
 kO 12 (.mv 85)])
 (.seq (.region [
 kO 86 (.mv 8),
 kO 87 (.mv 11),
 kO 88 (.mv 11),
 kO 89 (.call none true 3 [86, 87, 88]),
 kO 90 (.un .not 89),
 kO 91 (.mv 90),
 kG 92 (.mv 8) 91 false,
 kG 93 (.mv 11) 91 false,
 kG 94 (.call none true 3 [92, 93, (.c (.str []))]) 91 false,
 kG 95 (.un .not 94) 91 false,
 kO 96 (.pick 91 (.c (.bool true)) 95),
 kO 97 (.mv 96),
 kG 98 (.mv 8) 97 false,
 kG 99 (.mv 11) 97 false,
 kG 100 (.call none true 3 [98, (.c (.str [78])), 99]) 97 false,
 kG 101 (.mv 12) 97 false,
 kG 102 (.eqb true 100 101) 97 false,
 kO 103 (.pick 97 (.c (.bool true)) 102),
 kO 104 (.mv 103),
 kG 105 (.mv 8) 104 false,
 kG 106 (.mv 11) 104 false,
 kG 107 (.call none true 3 [105, 106, (.c (.str [76, 79, 98, 106, 101, 99, 116, 59]))]) 104 false,
 kG 108 (.mv 12) 104 false,
 kG 109 (.eqb true 107 108) 104 false,
 kO 110 (.pick 104 (.c (.bool true)) 109),
 kO 111 (.mv 110),
 kG 112 (.mv 8) 111 false,
 kG 113 (.mv 11) 111 false,
 kG 114 (.call none true 3 [112, (.c (.str [])), 113]) 111 false,
 kO 115 (.pick 111 (.c (.bool true)) 114),
 kO 116 (.mv 115),
 kG 117 (.mv 8) 116 false,
 kG 118 (.mv 11) 116 false,
 kG 119 (.bin .add (.c (.str [91])) 118) 116 false,
 kG 120 (.call none true 3 [117, 119, (.c (.str [91, 76, 79, 98, 106, 101, 99, 116, 59]))]) 116 false,
 kG 121 (.mv 12) 116 false,
 kG 122 (.eqb true 120 121) 116 false,
 kO 123 (.pick 116 (.c (.bool true)) 122)])
 (.cond 123
 (.seq (.region [
  kO 4 (.mv (.c (.bool false)))])
  .ret)
 .skip)))
def ypb : CCode :=
  (.seq (.seq (.region [
 kO 74 (.mv 8),
 kO 75 (.mv 11),
 kO 76 (.call none true 59 [74, 75]),
 kO 77 (.un .not 76)])
 (.cond 77
 (.exit 1)
 .skip))
 yuo)
def yrd : CCode :=
  (.seq (.region [
 kO 72 (.ixs 1 68 70),
 kO 73 (.ld false 1 72),
 kO 11 (.mv 73)])
 ypb)
def yom : CCode :=
  (.block 1 yrd)
def ysi : CCode :=
  (.seq yom
 ysa)
def yss : CCode :=
  (.seq (.cond 71
 .skip
 (.exit 0))
 ysi)
def yhz : CCode :=
  (.seq (.region [
 kO 71 (.bin .lss 70 69)])
 yss)
def ydf : CCode :=
  (.loop [8, 68, 69, 70] yhz)
def ylk : CCode :=
  (.block 0 ydf)
def yib : CCode :=
  (.seq (.region [
 kO 65 (.mv 5),
 kO 66 (.mv 6),
 kO 67 (.mv 7),
 kO 68 (.buildS (some 1) 1 3 [(.str [])] [(0, 65), (1, 66), (2, 67)]),
 kO 69 (.len 1 68),
 kO 70 (.mv (ci 0))])
 ylk)
def yj1 : CCode :=
  (.seq yib
 yqo)
def yjs : CCode :=
  (.seq (.seq (.region [
 kO 44 (.mv 8),
 kO 45 (.mv 5),
 kO 46 (.mv 6),
 kO 47 (.call none true 3 [44, 45, 46]),
 kO 48 (.mv 47),
 kG 49 (.mv 8) 48 true,
 kG 50 (.mv 6) 48 true,
 kG 51 (.mv 7) 48 true,
 kG 52 (.call none true 3 [49, 50, 51]) 48 true,
 kO 53 (.pick 48 52 (.c (.bool false))),
 kO 54 (.mv 53),
 kG 55 (.mv 6) 54 true,
 kG 56 (.bin .neq 55 (.c (.str []))) 54 true,
 kO 57 (.pick 54 56 (.c (.bool false))),
 kO 58 (.mv 57),
 kG 59 (.mv 8) 58 true,
 kG 60 (.mv 5) 58 true,
 kG 61 (.mv 7) 58 true,
 kG 62 (.call none true 3 [59, 60, 61]) 58 true,
 kG 63 (.un .not 62) 58 true,
 kO 64 (.pick 58 63 (.c (.bool false)))])
 (.cond 64
 (.seq (.region [
  kO 4 (.mv (.c (.bool false)))])
  .ret)
 .skip))
 yj1)
def yk9 : CCode :=
  (.seq (.seq (.region [
 kO 26 (.mv 9),
 kO 27 (.bin .neq 26 (ci 0)),
 kO 28 (.mv 27),
 kG 29 (.mv 0) 28 false,
 kG 30 (.call none true 2 [29]) 28 false,
 kG 31 (.un .not 30) 28 false,
 kO 32 (.pick 28 (.c (.bool true)) 31),
 kO 33 (.mv 32),
 kG 34 (.mv 5) 33 false,
 kG 35 (.len 0 34) 33 false,
 kG 36 (.mv 6) 33 false,
 kG 37 (.len 0 36) 33 false,
 kG 38 (.bin .add 35 37) 33 false,
 kG 39 (.mv 7) 33 false,
 kG 40 (.len 0 39) 33 false,
 kG 41 (.bin .add 38 40) 33 false,
 kG 42 (.bin .gtr 41 (ci 1000)) 33 false,
 kO 43 (.pick 33 (.c (.bool true)) 42)])
 (.cond 43
 (.seq (.region [
  kO 4 (.mv (.c (.bool true)))])
  .ret)
 .skip))
 yjs)
def yi5 : CCode :=
  (.seq (.region [
 kO 22 (.mv 0),
 kO 23 (.call none true 1 [22]),
 kO 21 (.mv 23),
 kO 24 (.ext 0 21),
 kO 25 (.ext 1 21),
 kO 8 (.mv 24),
 kO 9 (.mv 25)])
 yk9)
def yi1 : CCode :=
  (.seq (.seq (.region [
 kO 19 (.call none true 0 []),
 kO 20 (.un .not 19)])
 (.cond 20
 (.seq (.region [
  kO 4 (.mv (.c (.bool false)))])
  .ret)
 .skip))
 yi5)
def yhy : CCode :=
  (.seq (.draw [
 kO 13 (.fa 3 3),
 kO 14 (.ld false 1 13),
 kO 15 (.fa 4 3),
 kO 16 (.ld false 1 15),
 kO 17 (.fa 2 3),
 kO 18 (.ld false 1 17),
 kO 5 (.mv 14),
 kO 6 (.mv 16),
 kO 7 (.mv 18)] [])
 yi1)
def yl1 : CCode :=
  (.seq (.region [
 kO 3 (.box (some 0) 1),
 kO 4 (.mv (.c (.bool false)))])
 yhy)
def y17c : CFunc :=
  ⟨2, true, 2, yl1, [.t 4]⟩
def yts : CCode :=
  (.seq (.region [
 kO 0 (.mv (.c (.bool false)))])
 (.seq (.region [
 kO 4 (.build [(.int .i64 0), (.str []), (.str []), .nils, .nils, .nils, .nils] [(1, 1, (.c (.str [97]))), (2, 1, (.c (.str [69, 120, 99, 101, 112, 116, 105, 111, 110])))]),
 kO 5 (.buildS (some 0) 7 1 [(.int .i64 0), (.str []), (.str []), .nils, .nils, .nils, .nils] [(0, 4)]),
 kO 6 (.call none true 1 [5]),
 kO 3 (.mv 6),
 kO 7 (.ext 0 3),
 kO 8 (.ext 1 3),
 kO 1 (.mv 7),
 kO 2 (.mv 8)])
 (.seq (.region [
 kO 9 (.mv 2),
 kO 10 (.bin .eql 9 (ci 0)),
 kO 11 (.mv 10),
 kG 12 (.mv 1) 11 true,
 kG 13 (.call none true 3 [12, (.c (.str [76, 97, 59])), (.c (.str [76, 84, 104, 114, 111, 119, 97, 98, 108, 101, 59]))]) 11 true,
 kO 14 (.pick 11 13 (.c (.bool false))),
 kO 15 (.mv 14),
 kG 16 (.mv 1) 15 true,
 kG 17 (.call none true 3 [16, (.c (.str [91, 76, 97, 59])), (.c (.str [91, 76, 79, 98, 106, 101, 99, 116, 59]))]) 15 true,
 kO 18 (.pick 15 17 (.c (.bool false))),
 kO 19 (.mv 18),
 kG 20 (.mv 1) 19 true,
 kG 21 (.call none true 3 [20, (.c (.str [91, 73])), (.c (.str [91, 76, 79, 98, 106, 101, 99, 116, 59]))]) 19 true,
 kG 22 (.un .not 21) 19 true,
 kO 23 (.pick 19 22 (.c (.bool false))),
 kO 24 (.mv 23),
 kG 25 (.mv 1) 24 true,
 kG 26 (.call none true 3 [25, (.c (.str [76, 79, 98, 106, 101, 99, 116, 59])), (.c (.str [76, 97, 59]))]) 24 true,
 kG 27 (.un .not 26) 24 true,
 kO 28 (.pick 24 27 (.c (.bool false))),
 kO 29 (.mv 28),
 kG 30 (.call none true 31 []) 29 true,
 kG 31 (.len 1 30) 29 true,
 kG 32 (.bin .eql 31 (ci 13)) 29 true,
 kO 33 (.pick 29 32 (.c (.bool false))),
 kO 34 (.mv 33),
 kG 35 (.call none true 32 [(.c (.str [83, 121, 115])), (.c (.str [101, 120, 105, 116])), (.c (.str [40, 73, 41, 86]))]) 34 true,
 kG 36 (.bin .eql 35 (ci 3)) 34 true,
 kO 37 (.pick 34 36 (.c (.bool false))),
 kO 0 (.mv 37)])
 .ret)))
def y171 : CFunc :=
  ⟨0, true, 1, yts, [.t 0]⟩
def ysm : CCode :=
  (.seq (.region [
 kO 129 (.mv 4),
 kO 2 (.mv 129),
 kO 3 (.mv (ci 0))])
 .ret)
def ypk : CCode :=
  (.region [
 kO 128 (.bin .add 119 (ci 1)),
 kO 119 (.mv 128)])
def yqz : CCode :=
  (.seq (.block 9 (.seq (.region [
 kO 121 (.ixs 1 117 119),
 kO 122 (.ld false 1 121),
 kO 16 (.mv 122)])
 (.seq (.region [
 kO 123 (.mv 4),
 kO 124 (.mv 16),
 kO 125 (.mkm (some 12)),
 kO 126 (.call none false 62 [123, 124, 125]),
 kO 127 (.un .not 126)])
 (.cond 127
 (.seq (.region [
  kO 2 (.mv (.c .nilp)),
  kO 3 (.mv (ci 51))])
  .ret)
 .skip))))
 ypk)
def yof : CCode :=
  (.seq (.cond 120
 .skip
 (.exit 8))
 yqz)
def ynb : CCode :=
  (.seq (.region [
 kO 120 (.bin .lss 119 118)])
 yof)
def yd7 : CCode :=
  (.loop [4, 117, 118, 119] ynb)
def ynk : CCode :=
  (.block 8 yd7)
def ynp : CCode :=
  (.seq (.region [
 kO 114 (.mv 4),
 kO 115 (.nilchk 114),
 kO 116 (.fa 1 115),
 kO 117 (.ld false 1 116),
 kO 118 (.len 1 117),
 kO 119 (.mv (ci 0))])
 ynk)
def ys1 : CCode :=
  (.seq ynp
 ysm)
def yj8 : CCode :=
  (.region [
 kO 113 (.bin .add 105 (ci 1)),
 kO 105 (.mv 113)])
def yl9 : CCode :=
  (.seq (.block 7 (.seq (.region [
 kO 107 (.ixs 7 103 105),
 kO 108 (.ld true 7 107),
 kO 14 (.new (some 11) [(.int .i64 0), (.str []), (.str []), .nils, .nils, .nils, .nils]),
 kU (.st 7 14 108)])
 (.seq (.region [
 kO 109 (.mv 4),
 kO 110 (.ld true 7 14),
 kO 111 (.call none true 61 [109, 110]),
 kO 112 (.un .not 111)])
 (.cond 112
 (.seq (.region [
  kO 2 (.mv (.c .nilp)),
  kO 3 (.mv (ci 50))])
  .ret)
 .skip))))
 yj8)
def yjg : CCode :=
  (.seq (.cond 106
 .skip
 (.exit 6))
 yl9)
def yii : CCode :=
  (.seq (.region [
 kO 106 (.bin .lss 105 104)])
 yjg)
def yb9 : CCode :=
  (.loop [4, 103, 104, 105] yii)
def yiu : CCode :=
  (.block 6 yb9)
def yiz : CCode :=
  (.seq (.region [
 kO 103 (.mv 0),
 kO 104 (.len 1 103),
 kO 105 (.mv (ci 0))])
 yiu)
def yk6 : CCode :=
  (.seq yiz
 ys1)
def yji : CCode :=
  (.region [
 kO 102 (.bin .add 69 (ci 1)),
 kO 69 (.mv 102)])
def yin : CCode :=
  (.seq (.draw [
 kO 84 (.mv 4),
 kO 85 (.nilchk 84),
 kO 86 (.fa 0 85),
 kO 87 (.ld false 1 86),
 kO 88 (.fa 1 10),
 kO 89 (.ld false 1 88),
 kO 90 (.ld true 7 10),
 kU (.mput false [2] 87 89 90)] [])
 (.draw [
 kO 91 (.mv 4),
 kO 92 (.mv 4),
 kO 93 (.nilchk 92),
 kO 94 (.fa 1 93),
 kO 95 (.ld false 1 94),
 kO 96 (.fa 1 10),
 kO 97 (.ld false 1 96),
 kO 98 (.buildS (some 9) 1 1 [(.str [])] [(0, 97)]),
 kO 99 (.app (some 10) 1 16 95 98),
 kO 100 (.nilchk 91),
 kO 101 (.fa 1 100),
 kU (.st 1 101 99)] [(4, 7)]))
def yig : CCode :=
  (.seq (.seq (.draw [
 kO 74 (.mv 4),
 kO 75 (.nilchk 74),
 kO 76 (.fa 0 75),
 kO 77 (.ld false 1 76),
 kO 78 (.fa 1 10),
 kO 79 (.ld false 1 78),
 kO 80 (.mget false [2] (.agg [(.int .i64 0), (.str []), (.str []), .nils, .nils, .nils, .nils]) true 77 79),
 kO 73 (.mv 80),
 kO 81 (.ext 0 73),
 kO 82 (.ext 1 73),
 kO 11 (.new (some 8) [(.int .i64 0), (.str []), (.str []), .nils, .nils, .nils, .nils]),
 kU (.st 7 11 81),
 kO 12 (.mv 82)] [(3, 10), (5, 10), (6, 10)])
 (.seq (.region [
 kO 83 (.mv 12)])
 (.cond 83
 (.seq (.region [
  kO 2 (.mv (.c .nilp)),
  kO 3 (.mv (ci 23))])
  .ret)
 .skip)))
 yin)
def yk8 : CCode :=
  (.seq (.region [
 kO 71 (.ixs 7 67 69),
 kO 72 (.ld true 7 71),
 kO 10 (.new (some 7) [(.int .i64 0), (.str []), (.str []), .nils, .nils, .nils, .nils]),
 kU (.st 7 10 72)])
 yig)
def ylg : CCode :=
  (.block 5 yk8)
def ykx : CCode :=
  (.seq ylg
 yji)
def yir : CCode :=
  (.seq (.cond 70
 .skip
 (.exit 4))
 ykx)
def yhw : CCode :=
  (.seq (.region [
 kO 70 (.bin .lss 69 68)])
 yir)
def ya7 : CCode :=
  (.loop [0, 4, 67, 68, 69] yhw)
def yka : CCode :=
  (.block 4 ya7)
def yli : CCode :=
  (.seq (.region [
 kO 67 (.mv 0),
 kO 68 (.len 1 67),
 kO 69 (.mv (ci 0))])
 yka)
def yl6 : CCode :=
  (.seq yli
 yk6)
def ykl : CCode :=
  (.region [
 kO 66 (.bin .add 58 (ci 1)),
 kO 58 (.mv 66)])
def yk4 : CCode :=
  (.seq (.block 3 (.seq (.region [
 kO 60 (.ixs 7 56 58),
 kO 61 (.ld true 7 60),
 kO 8 (.new (some 6) [(.int .i64 0), (.str []), (.str []), .nils, .nils, .nils, .nils]),
 kU (.st 7 8 61)])
 (.seq (.region [
 kO 62 (.fa 1 8),
 kO 63 (.ld false 1 62),
 kO 64 (.call none true 60 [63, (.c (.bool false))]),
 kO 65 (.un .not 64)])
 (.cond 65
 (.seq (.region [
  kO 2 (.mv (.c .nilp)),
  kO 3 (.mv (ci 20))])
  .ret)
 .skip))))
 ykl)
def yke : CCode :=
  (.seq (.cond 59
 .skip
 (.exit 2))
 yk4)
def yi3 : CCode :=
  (.seq (.region [
 kO 59 (.bin .lss 58 57)])
 yke)
def ya9 : CCode :=
  (.loop [0, 4, 56, 57, 58] yi3)
def ykt : CCode :=
  (.block 2 ya9)
def yj0 : CCode :=
  (.seq (.region [
 kO 56 (.mv 0),
 kO 57 (.len 1 56),
 kO 58 (.mv (ci 0))])
 ykt)
def ykw : CCode :=
  (.seq yj0
 yl6)
def yi2 : CCode :=
  (.region [
 kO 55 (.bin .add 26 (ci 1)),
 kO 26 (.mv 55)])
def yie : CCode :=
  (.seq (.block 1 (.seq (.region [
 kO 28 (.ixs 2 24 26),
 kO 29 (.ld true 2 28),
 kO 6 (.new (some 3) [(.str []), (.str [])]),
 kU (.st 2 6 29)])
 (.seq (.draw [
 kO 30 (.mv 4),
 kO 31 (.nilchk 30),
 kO 32 (.fa 0 31),
 kO 33 (.ld false 1 32),
 kO 34 (.ixa 2 1 6 (ci 0)),
 kO 35 (.ld false 1 34),
 kO 36 (.ixa 2 1 6 (ci 0)),
 kO 37 (.ld false 1 36),
 kO 38 (.ixa 2 1 6 (ci 1)),
 kO 39 (.ld false 1 38),
 kO 40 (.ixa 2 1 6 (ci 0)),
 kO 41 (.ld false 1 40),
 kO 42 (.call none true 43 [41]),
 kO 43 (.build [(.int .i64 0), (.str []), (.str []), .nils, .nils, .nils, .nils] [(1, 1, 37), (2, 1, 39), (6, 1, 42)]),
 kU (.mput false [2] 33 35 43)] [(3, 12), (5, 12), (7, 12), (9, 12)])
 (.draw [
 kO 44 (.mv 4),
 kO 45 (.mv 4),
 kO 46 (.nilchk 45),
 kO 47 (.fa 1 46),
 kO 48 (.ld false 1 47),
 kO 49 (.ixa 2 1 6 (ci 0)),
 kO 50 (.ld false 1 49),
 kO 51 (.buildS (some 4) 1 1 [(.str [])] [(0, 50)]),
 kO 52 (.app (some 5) 1 16 48 51),
 kO 53 (.nilchk 44),
 kO 54 (.fa 1 53),
 kU (.st 1 54 52)] [(4, 7)]))))
 yi2)
def ykz : CCode :=
  (.seq (.cond 27
 .skip
 (.exit 0))
 yie)
def yjb : CCode :=
  (.seq (.region [
 kO 27 (.bin .lss 26 25)])
 ykz)
def yba : CCode :=
  (.loop [0, 4, 24, 25, 26] yjb)
def yle : CCode :=
  (.block 0 yba)
def yjw : CCode :=
  (.seq (.region [
 kO 24 (.call none true 33 []),
 kO 25 (.len 1 24),
 kO 26 (.mv (ci 0))])
 yle)
def yis : CCode :=
  (.seq yjw
 ykw)
def ylh : CCode :=
  (.seq (.region [
 kO 20 (.mkm (some 0)),
 kO 21 (.mkm (some 1)),
 kO 22 (.build [.nilm, .nils, .nilm] [(0, 1, 20), (2, 1, 21)]),
 kO 23 (.box (some 2) 22),
 kO 4 (.mv 23)])
 yis)
def yip : CCode :=
  (.seq (.seq (.region [
 kO 17 (.mv 0),
 kO 18 (.len 1 17),
 kO 19 (.bin .gtr 18 (ci 40))])
 (.cond 19
 (.seq (.region [
  kO 2 (.mv (.c .nilp)),
  kO 3 (.mv (ci 2))])
  .ret)
 .skip))
 ylh)
def yjp : CCode :=
  (.seq (.region [
 kO 2 (.mv (.c .nilp)),
 kO 3 (.mv (ci 0))])
 yip)
def y153 : CFunc :=
  ⟨1, true, 13, yjp, [.t 2, .t 3]⟩
def yow : CCode :=
  (.seq (.region [
 kO 27 (.mv 3),
 kO 28 (.bin .lss 27 (ci 3000)),
 kO 2 (.mv 28)])
 .ret)
def yrb : CCode :=
  (.region [
 kO 26 (.bin .add 8 (ci 1)),
 kO 8 (.mv 26)])
def ysr : CCode :=
  (.seq (.block 1 (.seq (.region [
 kO 10 (.ixs 7 6 8),
 kO 11 (.ld true 7 10),
 kO 5 (.new (some 0) [(.int .i64 0), (.str []), (.str []), .nils, .nils, .nils, .nils]),
 kU (.st 7 5 11)])
 (.region [
 kO 12 (.mv 3),
 kO 13 (.fa 3 5),
 kO 14 (.ld false 1 13),
 kO 15 (.len 1 14),
 kO 16 (.bin .add (ci 1) 15),
 kO 17 (.fa 5 5),
 kO 18 (.ld false 1 17),
 kO 19 (.len 1 18),
 kO 20 (.bin .add 16 19),
 kO 21 (.fa 6 5),
 kO 22 (.ld false 1 21),
 kO 23 (.len 1 22),
 kO 24 (.bin .add 20 23),
 kO 25 (.bin .add 12 24),
 kO 3 (.mv 25)])))
 yrb)
def yuq : CCode :=
  (.seq (.cond 9
 .skip
 (.exit 0))
 ysr)
def yrf : CCode :=
  (.seq (.region [
 kO 9 (.bin .lss 8 7)])
 yuq)
def yde : CCode :=
  (.loop [3, 6, 7, 8] yrf)
def ysq : CCode :=
  (.block 0 yde)
def yn0 : CCode :=
  (.seq (.region [
 kO 6 (.mv 0),
 kO 7 (.len 1 6),
 kO 8 (.mv (ci 0))])
 ysq)
def yud : CCode :=
  (.seq yn0
 yow)
def yix : CCode :=
  (.seq (.region [
 kO 3 (.mv (ci 0))])
 yud)
def ykd : CCode :=
  (.seq (.region [
 kO 2 (.mv (.c (.bool false)))])
 yix)
def y17b : CFunc :=
  ⟨1, true, 1, ykd, [.t 2]⟩
def ys2 : CCode :=
  (.seq (.region [
 kO 54 (.mv 1),
 kO 55 (.call none true 36 [54]),
 kO 56 (.mv 2),
 kO 57 (.call none true 36 [56]),
 kO 9 (.mv 55),
 kO 10 (.mv 57)])
 (.seq (.region [
 kO 58 (.mv 9),
 kO 59 (.bin .neq 58 (.c (.str []))),
 kO 60 (.mv 59),
 kG 61 (.mv 10) 60 true,
 kG 62 (.bin .neq 61 (.c (.str []))) 60 true,
 kO 63 (.pick 60 62 (.c (.bool false))),
 kO 64 (.mv 63),
 kG 65 (.mv 9) 64 true,
 kG 66 (.call none true 34 [65]) 64 true,
 kG 67 (.bin .eql 66 (ci 3)) 64 true,
 kO 68 (.pick 64 67 (.c (.bool false))),
 kO 69 (.mv 68),
 kG 70 (.mv 0) 69 true,
 kG 71 (.mv 9) 69 true,
 kG 72 (.mv 10) 69 true,
 kG 73 (.call none true 3 [70, 71, 72]) 69 true,
 kO 74 (.pick 69 73 (.c (.bool false))),
 kO 6 (.mv 74)])
 .ret))
def yuk : CCode :=
  (.seq (.region [
 kO 40 (.mv 1),
 kO 41 (.call none true 35 [40]),
 kO 8 (.mv 41)])
 (.seq (.region [
 kO 42 (.mv 8),
 kO 43 (.bin .neq 42 (.c (.str []))),
 kO 44 (.mv 43),
 kG 45 (.mv 0) 44 true,
 kG 46 (.nilchk 45) 44 true,
 kG 47 (.fa 2 46) 44 true,
 kG 48 (.ld false 1 47) 44 true,
 kG 49 (.mv 8) 44 true,
 kG 50 (.mget false [2] .nilm false 48 49) 44 true,
 kG 51 (.mv 7) 44 true,
 kG 52 (.mget false [2] (.bool false) false 50 51) 44 true,
 kO 53 (.pick 44 52 (.c (.bool false))),
 kO 6 (.mv 53)])
 .ret))
def ymz : CCode :=
  (.seq (.seq (.region [
 kO 35 (.mv 1),
 kO 36 (.ixstr 35 (ci 0)),
 kO 37 (.bin .eql 36 (.c (.int .u8 91)))])
 (.cond 37
 (.seq (.region [
  kO 38 (.mv 7),
  kO 39 (.bin .eql 38 (.c (.str [79, 98, 106, 101, 99, 116]))),
  kO 6 (.mv 39)])
  .ret)
 .skip))
 yuk)
def ynu : CCode :=
  (.cond 34
 ymz
 .skip)
def ys5 : CCode :=
  (.seq (.region [
 kO 33 (.mv 7),
 kO 34 (.bin .neq 33 (.c (.str [])))])
 ynu)
def ytt : CCode :=
  (.seq (.region [
 kO 31 (.mv 2),
 kO 32 (.call none true 35 [31]),
 kO 7 (.mv 32)])
 ys5)
def yrt : CCode :=
  (.seq ytt
 ys2)
def ytb : CCode :=
  (.seq (.block 0 (.seq (.region [
 kO 12 (.mv 2),
 kO 13 (.bin .eql 12 (.c (.str []))),
 kO 11 (.mv 13)])
 (.cond 11
 (.seq (.region [
  kO 6 (.mv (.c (.bool true)))])
  .ret)
 (.seq (.region [
  kO 15 (.mv 0),
  kO 16 (.eqn 0 false 15 (.c .nilp)),
  kO 17 (.mv 16),
  kG 18 (.mv 1) 17 false,
  kG 19 (.bin .eql 18 (.c (.str []))) 17 false,
  kO 20 (.pick 17 (.c (.bool true)) 19),
  kO 14 (.mv 20)])
  (.cond 14
  (.seq (.region [
   kO 6 (.mv (.c (.bool false)))])
   .ret)
  (.seq (.region [
   kO 22 (.mv 1),
   kO 23 (.mv 2),
   kO 24 (.bin .eql 22 23),
   kO 21 (.mv 24)])
   (.cond 21
   (.seq (.region [
    kO 6 (.mv (.c (.bool true)))])
    .ret)
   (.seq (.region [
    kO 26 (.mv 1),
    kO 27 (.bin .eql 26 (.c (.str [78]))),
    kO 25 (.mv 27)])
    (.cond 25
    (.seq (.region [
     kO 28 (.mv 2),
     kO 29 (.call none true 34 [28]),
     kO 30 (.bin .eql 29 (ci 3)),
     kO 6 (.mv 30)])
     .ret)
    .skip)))))))))
 yrt)
def yp1 : CCode :=
  (.seq (.region [
 kO 6 (.mv (.c (.bool false)))])
 ytb)
def y172 : CFunc :=
  ⟨3, true, 0, yp1, [.t 6]⟩
def yr0 : CCode :=
  (.seq (.region [
 kO 4 (.mv (.c (.bool true)))])
 .ret)
def yqi : CCode :=
  (.seq (.seq (.region [
 kO 20 (.mv 1),
 kO 21 (.call none true 35 [20]),
 kO 5 (.mv 21)])
 (.seq (.region [
 kO 22 (.mv 5),
 kO 23 (.bin .neq 22 (.c (.str [])))])
 (.cond 23
 (.seq (.region [
  kO 25 (.mv 0),
  kO 26 (.nilchk 25),
  kO 27 (.fa 0 26),
  kO 28 (.ld false 1 27),
  kO 29 (.mv 5),
  kO 30 (.mget false [2] (.agg [(.int .i64 0), (.str []), (.str []), .nils, .nils, .nils, .nils]) true 28 29),
  kO 24 (.mv 30),
  kO 31 (.ext 0 24),
  kO 32 (.ext 1 24),
  kO 6 (.new (some 0) [(.int .i64 0), (.str []), (.str []), .nils, .nils, .nils, .nils]),
  kU (.st 7 6 31),
  kO 7 (.mv 32)])
  (.seq (.region [
  kO 33 (.mv 7),
  kO 4 (.mv 33)])
  .ret))
 .skip)))
 yr0)
def ynz : CCode :=
  (.block 1 (.region [
 kO 18 (.mv 1),
 kO 19 (.sls 18 (some (ci 1)) none),
 kO 1 (.mv 19)]))
def yte : CCode :=
  (.seq (.seq (.region [
 kO 15 (.mv 1),
 kO 16 (.ixstr 15 (ci 0)),
 kO 17 (.bin .eql 16 (.c (.int .u8 91)))])
 (.cond 17
 .skip
 (.exit 0)))
 ynz)
def ydi : CCode :=
  (.loop [0, 1] yte)
def ytx : CCode :=
  (.block 0 ydi)
def ysn : CCode :=
  (.seq ytx
 yqi)
def yoz : CCode :=
  (.seq (.seq (.region [
 kO 8 (.mv 0),
 kO 9 (.eqn 0 false 8 (.c .nilp)),
 kO 10 (.mv 9),
 kG 11 (.mv 1) 10 false,
 kG 12 (.call none true 37 [11]) 10 false,
 kG 13 (.un .not 12) 10 false,
 kO 14 (.pick 10 (.c (.bool true)) 13)])
 (.cond 14
 (.seq (.region [
  kO 4 (.mv (.c (.bool false)))])
  .ret)
 .skip))
 ysn)
def ypx : CCode :=
  (.seq (.region [
 kO 4 (.mv (.c (.bool false)))])
 yoz)
def y16m : CFunc :=
  ⟨2, true, 1, ypx, [.t 4]⟩
def y19j : CFunc :=
  ⟨0, true, 3, (.seq (.region [
    kO 0 (.mv (.c .nils))])
  (.seq (.region [
    kO 1 (.mv (.c .nils))])
  (.seq (.seq (.region [
    kO 4 (.call none true 33 []),
    kO 5 (.len 1 4),
    kO 6 (.mv (ci 0))])
  (.block 0 (.loop [1, 4, 5, 6] (.seq (.region [
      kO 7 (.bin .lss 6 5)])
    (.seq (.cond 7
    .skip
    (.exit 0))
    (.seq (.block 1 (.seq (.region [
      kO 8 (.ixs 2 4 6),
      kO 9 (.ld true 2 8),
      kO 3 (.new (some 0) [(.str []), (.str [])]),
      kU (.st 2 3 9)])
    (.region [
      kO 10 (.mv 1),
      kO 11 (.ixa 2 1 3 (ci 0)),
      kO 12 (.ld false 1 11),
      kO 13 (.buildS (some 1) 1 1 [(.str [])] [(0, 12)]),
      kO 14 (.app (some 2) 1 16 10 13),
      kO 1 (.mv 14)])))
    (.region [
      kO 15 (.bin .add 6 (ci 1)),
      kO 6 (.mv 15)])))))))
  (.seq (.region [
    kO 16 (.mv 1),
    kO 0 (.mv 16)])
  .ret)))), [.t 0]⟩
def y19k : CFunc :=
  ⟨3, true, 1, (.seq (.region [
    kO 6 (.mv (ci 0))])
  (.seq (.region [
    kO 7 (.mv (ci 0))])
  (.seq (.seq (.region [
    kO 10 (.mv 0),
    kO 11 (.bin .eql 10 (.c (.str [83, 116, 114, 105, 110, 103])))])
  (.cond 11
  (.region [
      kO 7 (.mv (ci 4))])
  .skip))
  (.seq (.seq (.region [
    kO 12 (.mv 0),
    kO 13 (.call none true 43 [12]),
    kO 14 (.len 1 13),
    kO 15 (.mv (ci 0))])
  (.block 0 (.loop [1, 2, 7, 13, 14, 15] (.seq (.region [
      kO 16 (.bin .lss 15 14)])
    (.seq (.cond 16
    .skip
    (.exit 0))
    (.seq (.block 1 (.seq (.region [
      kO 17 (.mv 15),
      kO 18 (.ixs 8 13 15),
      kO 19 (.ld true 8 18),
      kO 9 (.new (some 0) [(.int .i64 0), (.str []), (.str []), (.int .i64 0), (.int .i64 0), .nils, .nils, .nils]),
      kO 8 (.mv 17),
      kU (.st 8 9 19)])
    (.seq (.region [
      kO 20 (.fa 1 9),
      kO 21 (.ld false 1 20),
      kO 22 (.mv 1),
      kO 23 (.bin .eql 21 22),
      kO 24 (.mv 23),
      kG 25 (.fa 2 9) 24 true,
      kG 26 (.ld false 1 25) 24 true,
      kG 27 (.mv 2) 24 true,
      kG 28 (.bin .eql 26 27) 24 true,
      kO 29 (.pick 24 28 (.c (.bool false)))])
    (.cond 29
    (.seq (.region [
        kO 30 (.mv 7),
        kO 31 (.mv 8),
        kO 32 (.bin .add 30 31),
        kO 6 (.mv 32)])
      .ret)
    .skip))))
    (.region [
      kO 33 (.bin .add 15 (ci 1)),
      kO 15 (.mv 33)])))))))
  (.seq (.region [
    kO 6 (.mv (ci (-1)))])
  .ret))))), [.t 6]⟩
def y195 : CFunc :=
  ⟨0, true, 1, (.seq (.region [
    kO 0 (.mv (.c .nils))])
  (.seq (.region [
    kO 1 (.build [(.str []), (.str [])] [(0, 1, (.c (.str [79, 98, 106, 101, 99, 116]))), (1, 1, (.c (.str [])))]),
    kO 2 (.build [(.str []), (.str [])] [(0, 1, (.c (.str [83, 116, 114, 105, 110, 103]))), (1, 1, (.c (.str [79, 98, 106, 101, 99, 116])))]),
    kO 3 (.build [(.str []), (.str [])] [(0, 1, (.c (.str [83, 121, 115]))), (1, 1, (.c (.str [79, 98, 106, 101, 99, 116])))]),
    kO 4 (.build [(.str []), (.str [])] [(0, 1, (.c (.str [84, 104, 114, 111, 119, 97, 98, 108, 101]))), (1, 1, (.c (.str [79, 98, 106, 101, 99, 116])))]),
    kO 5 (.build [(.str []), (.str [])] [(0, 1, (.c (.str [69, 120, 99, 101, 112, 116, 105, 111, 110]))), (1, 1, (.c (.str [84, 104, 114, 111, 119, 97, 98, 108, 101])))]),
    kO 6 (.build [(.str []), (.str [])] [(0, 1, (.c (.str [78, 117, 108, 108, 70, 97, 117, 108, 116]))), (1, 1, (.c (.str [69, 120, 99, 101, 112, 116, 105, 111, 110])))]),
    kO 7 (.build [(.str []), (.str [])] [(0, 1, (.c (.str [90, 101, 114, 111, 70, 97, 117, 108, 116]))), (1, 1, (.c (.str [69, 120, 99, 101, 112, 116, 105, 111, 110])))]),
    kO 8 (.build [(.str []), (.str [])] [(0, 1, (.c (.str [66, 111, 117, 110, 100, 115, 70, 97, 117, 108, 116]))), (1, 1, (.c (.str [69, 120, 99, 101, 112, 116, 105, 111, 110])))]),
    kO 9 (.build [(.str []), (.str [])] [(0, 1, (.c (.str [83, 105, 122, 101, 70, 97, 117, 108, 116]))), (1, 1, (.c (.str [69, 120, 99, 101, 112, 116, 105, 111, 110])))]),
    kO 10 (.build [(.str []), (.str [])] [(0, 1, (.c (.str [67, 97, 115, 116, 70, 97, 117, 108, 116]))), (1, 1, (.c (.str [69, 120, 99, 101, 112, 116, 105, 111, 110])))]),
    kO 11 (.build [(.str []), (.str [])] [(0, 1, (.c (.str [83, 116, 111, 114, 101, 70, 97, 117, 108, 116]))), (1, 1, (.c (.str [69, 120, 99, 101, 112, 116, 105, 111, 110])))]),
    kO 12 (.build [(.str []), (.str [])] [(0, 1, (.c (.str [77, 101, 109, 111, 114, 121, 70, 97, 117, 108, 116]))), (1, 1, (.c (.str [84, 104, 114, 111, 119, 97, 98, 108, 101])))]),
    kO 13 (.build [(.str []), (.str [])] [(0, 1, (.c (.str [68, 101, 112, 116, 104, 70, 97, 117, 108, 116]))), (1, 1, (.c (.str [84, 104, 114, 111, 119, 97, 98, 108, 101])))]),
    kO 14 (.buildS (some 0) 2 13 [(.str []), (.str [])] [(0, 1), (1, 2), (2, 3), (3, 4), (4, 5), (5, 6), (6, 7), (7, 8), (8, 9), (9, 10), (10, 11), (11, 12), (12, 13)]),
    kO 0 (.mv 14)])
  .ret)), [.t 0]⟩
def ysy : CCode :=
  (.seq (.region [
 kO 2 (.mv (.c .nils))])
 .ret)
def yrc : CCode :=
  (.seq (.seq (.region [
 kO 3 (.mv 0)])
 (.block 0 (.seq (.region [
 kO 5 (.bin .eql 3 (.c (.str [83, 121, 115]))),
 kO 4 (.mv 5)])
 (.cond 4
 (.seq (.region [
  kO 6 (.build [(.int .i64 0), (.str []), (.str []), (.int .i64 0), (.int .i64 0), .nils, .nils, .nils] [(0, 1, (ci 8)), (1, 1, (.c (.str [112, 114, 105, 110, 116]))), (2, 1, (.c (.str [40, 73, 41, 86])))]),
  kO 7 (.build [(.int .i64 0), (.str []), (.str []), (.int .i64 0), (.int .i64 0), .nils, .nils, .nils] [(0, 1, (ci 8)), (1, 1, (.c (.str [112, 114, 105, 110, 116]))), (2, 1, (.c (.str [40, 74, 41, 86])))]),
  kO 8 (.build [(.int .i64 0), (.str []), (.str []), (.int .i64 0), (.int .i64 0), .nils, .nils, .nils] [(0, 1, (ci 8)), (1, 1, (.c (.str [112, 114, 105, 110, 116]))), (2, 1, (.c (.str [40, 76, 83, 116, 114, 105, 110, 103, 59, 41, 86])))]),
  kO 9 (.build [(.int .i64 0), (.str []), (.str []), (.int .i64 0), (.int .i64 0), .nils, .nils, .nils] [(0, 1, (ci 8)), (1, 1, (.c (.str [101, 120, 105, 116]))), (2, 1, (.c (.str [40, 73, 41, 86])))]),
  kO 10 (.buildS (some 0) 8 4 [(.int .i64 0), (.str []), (.str []), (.int .i64 0), (.int .i64 0), .nils, .nils, .nils] [(0, 6), (1, 7), (2, 8), (3, 9)]),
  kO 2 (.mv 10)])
  .ret)
 (.seq (.region [
  kO 12 (.bin .eql 3 (.c (.str [83, 116, 114, 105, 110, 103]))),
  kO 11 (.mv 12)])
  (.cond 11
  (.seq (.region [
   kO 13 (.build [(.int .i64 0), (.str []), (.str []), (.int .i64 0), (.int .i64 0), .nils, .nils, .nils] [(1, 1, (.c (.str [108, 101, 110, 103, 116, 104]))), (2, 1, (.c (.str [40, 41, 73])))]),
   kO 14 (.build [(.int .i64 0), (.str []), (.str []), (.int .i64 0), (.int .i64 0), .nils, .nils, .nils] [(1, 1, (.c (.str [99, 104, 97, 114, 65, 116]))), (2, 1, (.c (.str [40, 73, 41, 73])))]),
   kO 15 (.buildS (some 1) 8 2 [(.int .i64 0), (.str []), (.str []), (.int .i64 0), (.int .i64 0), .nils, .nils, .nils] [(0, 13), (1, 14)]),
   kO 2 (.mv 15)])
   .ret)
  .skip))))))
 ysy)
def yt3 : CCode :=
  (.seq (.region [
 kO 2 (.mv (.c .nils))])
 yrc)
def y15k : CFunc :=
  ⟨1, true, 2, yt3, [.t 2]⟩
def y01 : CCode :=
  (.seq (.region [
 kO 4 (.mv (.c (.bool true)))])
 .ret)
def yzo : CCode :=
  (.region [
 kO 71 (.bin .add 19 (ci 1)),
 kO 19 (.mv 71)])
def yz3 : CCode :=
  (.seq (.block 1 (.seq (.region [
 kO 21 (.ixs 1 17 19),
 kO 22 (.ld false 1 21),
 kO 6 (.mv 22)])
 (.seq (.region [
 kO 23 (.mv 6),
 kO 24 (.bin .geq 23 (.c (.int .u8 97))),
 kO 25 (.mv 24),
 kG 26 (.mv 6) 25 true,
 kG 27 (.bin .leq 26 (.c (.int .u8 122))) 25 true,
 kO 28 (.pick 25 27 (.c (.bool false))),
 kO 29 (.mv 28),
 kG 30 (.mv 6) 29 false,
 kG 31 (.bin .geq 30 (.c (.int .u8 65))) 29 false,
 kG 32 (.mv 31) 29 false,
 kG 33 (.mv 6) 32 true,
 kG 34 (.bin .leq 33 (.c (.int .u8 90))) 32 true,
 kG 35 (.pick 32 34 (.c (.bool false))) 29 false,
 kO 36 (.pick 29 (.c (.bool true)) 35),
 kO 37 (.mv 36),
 kG 38 (.mv 6) 37 false,
 kG 39 (.bin .geq 38 (.c (.int .u8 48))) 37 false,
 kG 40 (.mv 39) 37 false,
 kG 41 (.mv 6) 40 true,
 kG 42 (.bin .leq 41 (.c (.int .u8 57))) 40 true,
 kG 43 (.pick 40 42 (.c (.bool false))) 37 false,
 kO 44 (.pick 37 (.c (.bool true)) 43),
 kO 45 (.mv 44),
 kG 46 (.mv 6) 45 false,
 kG 47 (.bin .eql 46 (.c (.int .u8 95))) 45 false,
 kO 48 (.pick 45 (.c (.bool true)) 47),
 kO 49 (.mv 48),
 kG 50 (.mv 6) 49 false,
 kG 51 (.bin .eql 50 (.c (.int .u8 36))) 49 false,
 kO 52 (.pick 49 (.c (.bool true)) 51),
 kO 53 (.mv 52),
 kG 54 (.mv 6) 53 false,
 kG 55 (.bin .eql 54 (.c (.int .u8 47))) 53 false,
 kO 56 (.pick 53 (.c (.bool true)) 55),
 kO 7 (.mv 56)])
 (.seq (.region [
 kO 57 (.mv 7),
 kO 58 (.un .not 57),
 kO 59 (.mv 58),
 kG 60 (.mv 1) 59 true,
 kG 61 (.mv 60) 59 true,
 kG 62 (.mv 6) 61 true,
 kG 63 (.bin .eql 62 (.c (.int .u8 60))) 61 true,
 kG 64 (.mv 63) 61 true,
 kG 65 (.mv 6) 64 false,
 kG 66 (.bin .eql 65 (.c (.int .u8 62))) 64 false,
 kG 67 (.pick 64 (.c (.bool true)) 66) 61 true,
 kG 68 (.pick 61 67 (.c (.bool false))) 59 true,
 kG 69 (.un .not 68) 59 true,
 kO 70 (.pick 59 69 (.c (.bool false)))])
 (.cond 70
 (.seq (.region [
  kO 4 (.mv (.c (.bool false)))])
  .ret)
 .skip)))))
 yzo)
def yzm : CCode :=
  (.seq (.cond 20
 .skip
 (.exit 0))
 yz3)
def yzz : CCode :=
  (.seq (.region [
 kO 20 (.bin .lss 19 18)])
 yzm)
def ygx : CCode :=
  (.loop [1, 17, 18, 19] yzz)
def yzb : CCode :=
  (.block 0 ygx)
def y03 : CCode :=
  (.seq (.region [
 kO 16 (.mv 0),
 kO 17 (.s2b (some 0) 16),
 kO 18 (.len 1 17),
 kO 19 (.mv (ci 0))])
 yzb)
def yzd : CCode :=
  (.seq y03
 y01)
def yol : CCode :=
  (.seq (.seq (.region [
 kO 8 (.mv 0),
 kO 9 (.len 0 8),
 kO 10 (.bin .lss 9 (ci 1)),
 kO 11 (.mv 10),
 kG 12 (.mv 0) 11 false,
 kG 13 (.len 0 12) 11 false,
 kG 14 (.bin .gtr 13 (ci 60)) 11 false,
 kO 15 (.pick 11 (.c (.bool true)) 14)])
 (.cond 15
 (.seq (.region [
  kO 4 (.mv (.c (.bool false)))])
  .ret)
 .skip))
 yzd)
def yr9 : CCode :=
  (.seq (.region [
 kO 4 (.mv (.c (.bool false)))])
 yol)
def c_q6 : CFunc :=
  ⟨2, true, 1, yr9, [.t 4]⟩
def yps : CCode :=
  (.seq (.region [
 kO 4 (.mv (.c (.bool true)))])
 .ret)
def yu3 : CCode :=
  (.region [
 kO 92 (.bin .add 57 (ci 1)),
 kO 57 (.mv 92)])
def yrl : CCode :=
  (.region [
 kO 91 (.bin .add 84 (ci 1)),
 kO 84 (.mv 91)])
def yul : CCode :=
  (.seq (.block 3 (.seq (.region [
 kO 86 (.ixs 1 82 84),
 kO 87 (.ld false 1 86),
 kO 13 (.mv 87)])
 (.seq (.region [
 kO 88 (.mv 13),
 kO 89 (.mv 9),
 kO 90 (.bin .eql 88 89)])
 (.cond 90
 (.seq (.region [
  kO 4 (.mv (.c (.bool false)))])
  .ret)
 .skip))))
 yrl)
def ypa : CCode :=
  (.seq (.cond 85
 .skip
 (.exit 2))
 yul)
def ytk : CCode :=
  (.seq (.region [
 kO 85 (.bin .lss 84 83)])
 ypa)
def yda : CCode :=
  (.loop [0, 3, 9, 55, 56, 57, 82, 83, 84] ytk)
def yqy : CCode :=
  (.block 2 yda)
def yiv : CCode :=
  (.seq (.region [
 kO 79 (.fa 3 3),
 kO 80 (.ld false 1 79),
 kO 81 (.mv 8),
 kO 82 (.slc 1 80 none (some 81)),
 kO 83 (.len 1 82),
 kO 84 (.mv (ci 0))])
 yqy)
def yki : CCode :=
  (.seq (.seq (.region [
 kO 71 (.mv 11),
 kO 72 (.un .not 71),
 kO 73 (.mv 72),
 kG 74 (.fa 0 10) 73 false,
 kG 75 (.ld false 1 74) 73 false,
 kG 76 (.bin .and 75 (ci 512)) 73 false,
 kG 77 (.bin .eql 76 (ci 0)) 73 false,
 kO 78 (.pick 73 (.c (.bool true)) 77)])
 (.cond 78
 (.seq (.region [
  kO 4 (.mv (.c (.bool false)))])
  .ret)
 .skip))
 yiv)
def yja : CCode :=
  (.seq (.region [
 kO 63 (.mv 0),
 kO 64 (.nilchk 63),
 kO 65 (.fa 0 64),
 kO 66 (.ld false 1 65),
 kO 67 (.mv 9),
 kO 68 (.mget false [2] (.agg [(.int .i64 0), (.str []), (.str []), .nils, .nils, .nils, .nils]) true 66 67),
 kO 62 (.mv 68),
 kO 69 (.ext 0 62),
 kO 70 (.ext 1 62),
 kO 10 (.new (some 2) [(.int .i64 0), (.str []), (.str []), .nils, .nils, .nils, .nils]),
 kU (.st 7 10 69),
 kO 11 (.mv 70)])
 yki)
def yij : CCode :=
  (.seq (.region [
 kO 59 (.mv 57),
 kO 60 (.ixs 1 55 57),
 kO 61 (.ld false 1 60),
 kO 8 (.mv 59),
 kO 9 (.mv 61)])
 yja)
def yk1 : CCode :=
  (.block 1 yij)
def yi6 : CCode :=
  (.seq yk1
 yu3)
def yks : CCode :=
  (.seq (.cond 58
 .skip
 (.exit 0))
 yi6)
def yko : CCode :=
  (.seq (.region [
 kO 58 (.bin .lss 57 56)])
 yks)
def ye1 : CCode :=
  (.loop [0, 3, 55, 56, 57] yko)
def yj5 : CCode :=
  (.block 0 ye1)
def yk7 : CCode :=
  (.seq (.region [
 kO 54 (.fa 3 3),
 kO 55 (.ld false 1 54),
 kO 56 (.len 1 55),
 kO 57 (.mv (ci 0))])
 yj5)
def yi9 : CCode :=
  (.seq yk7
 yps)
def ylb : CCode :=
  (.seq (.seq (.region [
 kO 28 (.mv 6),
 kO 29 (.un .not 28),
 kO 30 (.mv 29),
 kG 31 (.fa 0 5) 30 false,
 kG 32 (.ld false 1 31) 30 false,
 kG 33 (.bin .and 32 (ci 512)) 30 false,
 kG 34 (.bin .neq 33 (ci 0)) 30 false,
 kO 35 (.pick 30 (.c (.bool true)) 34),
 kO 36 (.mv 35),
 kG 37 (.fa 2 3) 36 false,
 kG 38 (.ld false 1 37) 36 false,
 kG 39 (.bin .eql 38 (.c (.str [83, 116, 114, 105, 110, 103]))) 36 false,
 kO 40 (.pick 36 (.c (.bool true)) 39),
 kO 41 (.mv 40),
 kG 42 (.fa 2 3) 41 false,
 kG 43 (.ld false 1 42) 41 false,
 kG 44 (.bin .eql 43 (.c (.str [83, 121, 115]))) 41 false,
 kO 45 (.pick 41 (.c (.bool true)) 44),
 kO 46 (.mv 45),
 kG 47 (.mv 7) 46 false,
 kG 48 (.mv 47) 46 false,
 kG 49 (.fa 2 3) 48 true,
 kG 50 (.ld false 1 49) 48 true,
 kG 51 (.bin .neq 50 (.c (.str [79, 98, 106, 101, 99, 116]))) 48 true,
 kG 52 (.pick 48 51 (.c (.bool false))) 46 false,
 kO 53 (.pick 46 (.c (.bool true)) 52)])
 (.cond 53
 (.seq (.region [
  kO 4 (.mv (.c (.bool false)))])
  .ret)
 .skip))
 yi9)
def yhx : CCode :=
  (.seq (.region [
 kO 24 (.fa 0 3),
 kO 25 (.ld false 1 24),
 kO 26 (.bin .and 25 (ci 512)),
 kO 27 (.bin .neq 26 (ci 0)),
 kO 7 (.mv 27)])
 ylb)
def yi7 : CCode :=
  (.seq (.draw [
 kO 15 (.mv 0),
 kO 16 (.nilchk 15),
 kO 17 (.fa 0 16),
 kO 18 (.ld false 1 17),
 kO 19 (.fa 2 3),
 kO 20 (.ld false 1 19),
 kO 21 (.mget false [2] (.agg [(.int .i64 0), (.str []), (.str []), .nils, .nils, .nils, .nils]) true 18 20),
 kO 14 (.mv 21),
 kO 22 (.ext 0 14),
 kO 23 (.ext 1 14),
 kO 5 (.new (some 1) [(.int .i64 0), (.str []), (.str []), .nils, .nils, .nils, .nils]),
 kU (.st 7 5 22),
 kO 6 (.mv 23)] [(3, 10), (5, 10), (6, 10)])
 yhx)
def yjo : CCode :=
  (.seq (.region [
 kO 3 (.box (some 0) 1),
 kO 4 (.mv (.c (.bool false)))])
 yi7)
def y150 : CFunc :=
  ⟨2, true, 3, yjo, [.t 4]⟩
def ypw : CCode :=
  (.seq (.region [
 kO 70 (.mv 0),
 kO 71 (.nilchk 70),
 kO 72 (.fa 2 71),
 kO 73 (.ld false 1 72),
 kO 74 (.mv 1),
 kO 75 (.mv 7),
 kU (.mput false [2] 73 74 75)])
 (.seq (.region [
 kO 6 (.mv (.c (.bool true)))])
 .ret))
def yo8 : CCode :=
  (.region [
 kO 69 (.bin .add 47 (ci 1)),
 kO 47 (.mv 69)])
def yr3 : CCode :=
  (.region [
 kO 67 (.mv 7),
 kO 68 (.mv 12),
 kU (.mput false [2] 67 68 (.c (.bool true)))])
def yqd : CCode :=
  (.mrange [
 kO 56 (.mv 0),
 kO 57 (.nilchk 56),
 kO 58 (.fa 2 57),
 kO 59 (.ld false 1 58),
 kO 60 (.mv 11),
 kO 61 (.mget false [2] .nilm false 59 60)] 61 [0, 1, 2, 7, 45, 46, 47] [] 65 [
 kO 66 (.ext 0 65),
 kO 12 (.mv 66)] (.kill [] yr3) [] .skip)
def yt1 : CCode :=
  (.seq (.seq (.region [
 kO 51 (.mv 0),
 kO 52 (.mv 11),
 kO 53 (.mv 2),
 kO 54 (.call none false 62 [51, 52, 53]),
 kO 55 (.un .not 54)])
 (.cond 55
 (.seq (.region [
  kO 6 (.mv (.c (.bool false)))])
  .ret)
 .skip))
 yqd)
def yok : CCode :=
  (.seq (.region [
 kO 49 (.ixs 1 45 47),
 kO 50 (.ld false 1 49),
 kO 11 (.mv 50)])
 yt1)
def ysx : CCode :=
  (.block 1 yok)
def yq2 : CCode :=
  (.seq ysx
 yo8)
def yj6 : CCode :=
  (.seq (.cond 48
 .skip
 (.exit 0))
 yq2)
def yj4 : CCode :=
  (.seq (.region [
 kO 48 (.bin .lss 47 46)])
 yj6)
def ydz : CCode :=
  (.loop [0, 1, 2, 7, 45, 46, 47] yj4)
def yih : CCode :=
  (.block 0 ydz)
def ylf : CCode :=
  (.seq (.region [
 kO 45 (.mv 9),
 kO 46 (.len 1 45),
 kO 47 (.mv (ci 0))])
 yih)
def yit : CCode :=
  (.seq ylf
 ypw)
def yjf : CCode :=
  (.seq (.seq (.region [
 kO 37 (.fa 2 8),
 kO 38 (.ld false 1 37),
 kO 39 (.bin .neq 38 (.c (.str [])))])
 (.cond 39
 (.region [
  kO 40 (.mv 9),
  kO 41 (.fa 2 8),
  kO 42 (.ld false 1 41),
  kO 43 (.buildS (some 3) 1 1 [(.str [])] [(0, 42)]),
  kO 44 (.app (some 4) 1 16 40 43),
  kO 9 (.mv 44)])
 .skip))
 yit)
def yjk : CCode :=
  (.seq (.region [
 kO 34 (.fa 3 8),
 kO 35 (.ld false 1 34),
 kO 36 (.app (some 2) 1 16 (.c .nils) 35),
 kO 9 (.mv 36)])
 yjf)
def yk2 : CCode :=
  (.seq (.region [
 kO 28 (.mv 0),
 kO 29 (.nilchk 28),
 kO 30 (.fa 0 29),
 kO 31 (.ld false 1 30),
 kO 32 (.mv 1),
 kO 33 (.mget false [2] (.agg [(.int .i64 0), (.str []), (.str []), .nils, .nils, .nils, .nils]) false 31 32),
 kO 8 (.new (some 1) [(.int .i64 0), (.str []), (.str []), .nils, .nils, .nils, .nils]),
 kU (.st 7 8 33)])
 yjk)
def ylj : CCode :=
  (.seq (.region [
 kO 25 (.mkm (some 0)),
 kO 26 (.mv 1),
 kU (.mput false [2] 25 26 (.c (.bool true))),
 kO 27 (.mv 25),
 kO 7 (.mv 27)])
 yk2)
def yj3 : CCode :=
  (.seq (.region [
 kO 23 (.mv 2),
 kO 24 (.mv 1),
 kU (.mput false [2] 23 24 (.c (.bool true)))])
 ylj)
def yla : CCode :=
  (.seq (.seq (.region [
 kO 20 (.mv 2),
 kO 21 (.mv 1),
 kO 22 (.mget false [2] (.bool false) false 20 21)])
 (.cond 22
 (.seq (.region [
  kO 6 (.mv (.c (.bool false)))])
  .ret)
 .skip))
 yj3)
def yk0 : CCode :=
  (.seq (.seq (.region [
 kO 13 (.mv 0),
 kO 14 (.nilchk 13),
 kO 15 (.fa 2 14),
 kO 16 (.ld false 1 15),
 kO 17 (.mv 1),
 kO 18 (.mget false [2] .nilm false 16 17),
 kO 19 (.eqn 2 true 18 (.c .nilm))])
 (.cond 19
 (.seq (.region [
  kO 6 (.mv (.c (.bool true)))])
  .ret)
 .skip))
 yla)
def yl5 : CCode :=
  (.seq (.region [
 kO 6 (.mv (.c (.bool false)))])
 yk0)
def y15u : CFunc :=
  ⟨3, false, 5, yl5, [.t 6]⟩
def yz7 : CCode :=
  (.seq (.region [
 kO 2 (.mv (ci 0))])
 .ret)
def yzh : CCode :=
  (.seq (.block 0 (.seq (.region [
 kO 4 (.mv 0),
 kO 5 (.bin .eql 4 (.c (.str [73]))),
 kO 3 (.mv 5)])
 (.cond 3
 (.seq (.region [
  kO 2 (.mv (ci 1))])
  .ret)
 (.seq (.region [
  kO 7 (.mv 0),
  kO 8 (.bin .eql 7 (.c (.str [74]))),
  kO 6 (.mv 8)])
  (.cond 6
  (.seq (.region [
   kO 2 (.mv (ci 2))])
   .ret)
  (.seq (.region [
   kO 10 (.mv 0),
   kO 11 (.bin .eql 10 (.c (.str [78]))),
   kO 12 (.mv 11),
   kG 13 (.mv 0) 12 false,
   kG 14 (.bin .neq 13 (.c (.str []))) 12 false,
   kG 15 (.mv 14) 12 false,
   kG 16 (.mv 0) 15 true,
   kG 17 (.ixstr 16 (ci 0)) 15 true,
   kG 18 (.bin .eql 17 (.c (.int .u8 76))) 15 true,
   kG 19 (.mv 18) 15 true,
   kG 20 (.mv 0) 19 false,
   kG 21 (.ixstr 20 (ci 0)) 19 false,
   kG 22 (.bin .eql 21 (.c (.int .u8 91))) 19 false,
   kG 23 (.pick 19 (.c (.bool true)) 22) 15 true,
   kG 24 (.pick 15 23 (.c (.bool false))) 12 false,
   kO 25 (.pick 12 (.c (.bool true)) 24),
   kO 9 (.mv 25)])
   (.cond 9
   (.seq (.region [
    kO 2 (.mv (ci 3))])
    .ret)
   .skip)))))))
 yz7)
def yz0 : CCode :=
  (.seq (.region [
 kO 2 (.mv (ci 0))])
 yzh)
def c_q5 : CFunc :=
  ⟨1, true, 0, yz0, [.t 2]⟩
def yz2 : CCode :=
  (.seq (.region [
 kO 2 (.mv (.c (.str [])))])
 .ret)
def yzw : CCode :=
  (.seq (.seq (.region [
 kO 4 (.mv 0),
 kO 5 (.len 0 4),
 kO 3 (.mv 5)])
 (.seq (.region [
 kO 6 (.mv 3),
 kO 7 (.bin .gtr 6 (ci 2)),
 kO 8 (.mv 7),
 kG 9 (.mv 0) 8 true,
 kG 10 (.ixstr 9 (ci 0)) 8 true,
 kG 11 (.bin .eql 10 (.c (.int .u8 76))) 8 true,
 kO 12 (.pick 8 11 (.c (.bool false))),
 kO 13 (.mv 12),
 kG 14 (.mv 0) 13 true,
 kG 15 (.mv 3) 13 true,
 kG 16 (.bin .sub 15 (ci 1)) 13 true,
 kG 17 (.ixstr 14 16) 13 true,
 kG 18 (.bin .eql 17 (.c (.int .u8 59))) 13 true,
 kO 19 (.pick 13 18 (.c (.bool false)))])
 (.cond 19
 (.seq (.region [
  kO 20 (.mv 0),
  kO 21 (.mv 3),
  kO 22 (.bin .sub 21 (ci 1)),
  kO 23 (.sls 20 (some (ci 1)) (some 22)),
  kO 2 (.mv 23)])
  .ret)
 .skip)))
 yz2)
def yyw : CCode :=
  (.seq (.region [
 kO 2 (.mv (.c (.str [])))])
 yzw)
def c_q3 : CFunc :=
  ⟨1, true, 0, yyw, [.t 2]⟩
def yyz : CCode :=
  (.seq (.region [
 kO 2 (.mv (.c (.str [])))])
 .ret)
def yz4 : CCode :=
  (.seq (.seq (.region [
 kO 3 (.mv 0),
 kO 4 (.len 0 3),
 kO 5 (.bin .gtr 4 (ci 1)),
 kO 6 (.mv 5),
 kG 7 (.mv 0) 6 true,
 kG 8 (.ixstr 7 (ci 0)) 6 true,
 kG 9 (.bin .eql 8 (.c (.int .u8 91))) 6 true,
 kO 10 (.pick 6 9 (.c (.bool false)))])
 (.cond 10
 (.seq (.region [
  kO 11 (.mv 0),
  kO 12 (.sls 11 (some (ci 1)) none),
  kO 2 (.mv 12)])
  .ret)
 .skip))
 yyz)
def y04 : CCode :=
  (.seq (.region [
 kO 2 (.mv (.c (.str [])))])
 yz4)
def c_q4 : CFunc :=
  ⟨1, true, 0, y04, [.t 2]⟩
def yzi : CCode :=
  (.seq (.region [
 kO 2 (.mv (.c (.bool false)))])
 (.seq (.region [
 kO 3 (.mv 0),
 kO 4 (.bin .neq 3 (.c (.str []))),
 kO 5 (.mv 4),
 kG 6 (.mv 0) 5 true,
 kG 7 (.call none true 44 [6]) 5 true,
 kG 8 (.mv 0) 5 true,
 kG 9 (.len 0 8) 5 true,
 kG 10 (.bin .eql 7 9) 5 true,
 kO 11 (.pick 5 10 (.c (.bool false))),
 kO 2 (.mv 11)])
 .ret))
def c_q7 : CFunc :=
  ⟨1, true, 0, yzi, [.t 2]⟩
def yzp : CCode :=
  (.seq (.region [
 kO 2 (.mv (ci 0))])
 .ret)
def yzq : CCode :=
  (.region [
 kO 41 (.mv 4),
 kO 42 (.bin .add 41 (ci 1)),
 kO 4 (.mv 42)])
def yza : CCode :=
  (.seq (.region [
 kO 2 (.mv (ci 0))])
 .ret)
def yyt : CCode :=
  (.seq (.seq (.region [
 kO 47 (.mv 0),
 kO 48 (.mv 3),
 kO 49 (.bin .add 48 (ci 1)),
 kO 50 (.mv 4),
 kO 51 (.sls 47 (some 49) (some 50)),
 kO 52 (.call none true 60 [51, (.c (.bool false))])])
 (.cond 52
 (.seq (.region [
  kO 53 (.mv 4),
  kO 54 (.bin .add 53 (ci 1)),
  kO 2 (.mv 54)])
  .ret)
 .skip))
 yza)
def y00 : CCode :=
  (.cond 46
 yyt
 .skip)
def yys : CCode :=
  (.seq (.region [
 kO 43 (.mv 0),
 kO 44 (.mv 4),
 kO 45 (.ixstr 43 44),
 kO 46 (.bin .eql 45 (.c (.int .u8 59)))])
 y00)
def yyv : CCode :=
  (.block 4 yys)
def yyy : CCode :=
  (.seq yyv
 yzq)
def yu6 : CCode :=
  (.seq (.seq (.region [
 kO 37 (.mv 4),
 kO 38 (.mv 0),
 kO 39 (.len 0 38),
 kO 40 (.bin .lss 37 39)])
 (.cond 40
 .skip
 (.exit 3)))
 yyy)
def yh1 : CCode :=
  (.loop [0, 3, 4] yu6)
def yrh : CCode :=
  (.block 3 yh1)
def ysp : CCode :=
  (.seq (.region [
 kO 35 (.mv 3),
 kO 36 (.bin .add 35 (ci 1)),
 kO 4 (.mv 36)])
 yrh)
def yoy : CCode :=
  (.cond 33
 ysp
 .skip)
def yna : CCode :=
  (.seq (.region [
 kO 34 (.bin .eql 27 (.c (.int .u8 76))),
 kO 33 (.mv 34)])
 yoy)
def yto : CCode :=
  (.cond 28
 (.seq (.region [
  kO 31 (.mv 3),
  kO 32 (.bin .add 31 (ci 1)),
  kO 2 (.mv 32)])
  .ret)
 yna)
def ypg : CCode :=
  (.seq (.seq (.region [
 kO 29 (.bin .eql 27 (.c (.int .u8 73))),
 kO 28 (.mv 29)])
 (.cond 28
 .skip
 (.region [
  kO 30 (.bin .eql 27 (.c (.int .u8 74))),
  kO 28 (.mv 30)])))
 yto)
def yr5 : CCode :=
  (.block 2 ypg)
def yr4 : CCode :=
  (.seq (.region [
 kO 25 (.mv 0),
 kO 26 (.mv 3),
 kO 27 (.ixstr 25 26)])
 yr5)
def ytp : CCode :=
  (.seq yr4
 yzp)
def ynd : CCode :=
  (.seq (.seq (.region [
 kO 17 (.mv 3),
 kO 18 (.bin .gtr 17 (ci 8)),
 kO 19 (.mv 18),
 kG 20 (.mv 3) 19 false,
 kG 21 (.mv 0) 19 false,
 kG 22 (.len 0 21) 19 false,
 kG 23 (.bin .eql 20 22) 19 false,
 kO 24 (.pick 19 (.c (.bool true)) 23)])
 (.cond 24
 (.seq (.region [
  kO 2 (.mv (ci 0))])
  .ret)
 .skip))
 ytp)
def yta : CCode :=
  (.block 1 (.region [
 kO 15 (.mv 3),
 kO 16 (.bin .add 15 (ci 1)),
 kO 3 (.mv 16)]))
def ytu : CCode :=
  (.seq (.seq (.region [
 kO 5 (.mv 3),
 kO 6 (.mv 0),
 kO 7 (.len 0 6),
 kO 8 (.bin .lss 5 7),
 kO 9 (.mv 8),
 kG 10 (.mv 0) 9 true,
 kG 11 (.mv 3) 9 true,
 kG 12 (.ixstr 10 11) 9 true,
 kG 13 (.bin .eql 12 (.c (.int .u8 91))) 9 true,
 kO 14 (.pick 9 13 (.c (.bool false)))])
 (.cond 14
 .skip
 (.exit 0)))
 yta)
def ydm : CCode :=
  (.loop [0, 3] ytu)
def yt9 : CCode :=
  (.block 0 ydm)
def yqx : CCode :=
  (.seq yt9
 ynd)
def ymw : CCode :=
  (.seq (.region [
 kO 3 (.mv (ci 0))])
 yqx)
def ypo : CCode :=
  (.seq (.region [
 kO 2 (.mv (ci 0))])
 ymw)
def c_q8 : CFunc :=
  ⟨1, true, 0, ypo, [.t 2]⟩
def tbl : List (Option Nat) := [none, none, none, some 70, none, none, none, some 0, some 1, some 2, some 3, some 59, none, none, none, none, none, none, none, none, none, none, none, none, none, none, none, some 31, some 32, some 33, some 43, some 60, some 61, some 62, some 34, some 35, some 36, some 37, none, none, none, none, none, none, none, none, none, none, none, none, none, none, none, some 44]
def fnE : Nat → Option CFunc
  | 0 => some y171
  | 1 => some y153
  | 2 => some y17b
  | 3 => some y172
  | 31 => some y19j
  | 32 => some y19k
  | 33 => some y195
  | 34 => some c_q5
  | 35 => some c_q3
  | 36 => some c_q4
  | 37 => some c_q7
  | 43 => some y15k
  | 44 => some c_q8
  | 59 => some y16m
  | 60 => some c_q6
  | 61 => some y150
  | 62 => some y15u
  | 70 => some y17c
  | _ => none
abbrev nm : Nat → Option Nat := nmOf tbl
def E : Env := envX fnE [62] (fun _ _ => none)
abbrev T1 (c : CCode) (n : St → OX) (e : Nat → St → OX) (r : List CRes) (k : St → OX) : Prop := ∀ s, W E 0 c s n e (finP r) = k s
abbrev T0 (c : CCode) (r : List CRes) (k : St → OX) : Prop := T1 c (finP r) xN r k
theorem sq {a b : CCode} {n k k' : St → OX} {e : Nat → St → OX} {r : List CRes} (h : T1 b n e r k) (h' : T1 a k e r k') : T1 (.seq a b) n e r k' := fun s => (y6s h).trans (h' s)
theorem ok3 : FnOk Go.Proofs.Try.prog nm fnE 3 70 := .of Go.Proofs.Try.func3 (by kernel_rfl) (by kernel_rfl) rfl (by kernel_rfl)
theorem ok7 : FnOk Go.Proofs.Try.prog nm fnE 7 0 := .of Go.Proofs.Try.func7 (by kernel_rfl) (by kernel_rfl) rfl (by kernel_rfl)
theorem ok8 : FnOk Go.Proofs.Try.prog nm fnE 8 1 := .of Go.Proofs.Try.func8 (by kernel_rfl) (by kernel_rfl) rfl (by kernel_rfl)
theorem ok9 : FnOk Go.Proofs.Try.prog nm fnE 9 2 := .of Go.Proofs.Try.func9 (by kernel_rfl) (by kernel_rfl) rfl (by kernel_rfl)
theorem ok10 : FnOk Go.Proofs.Try.prog nm fnE 10 3 := .of Go.Proofs.Try.func10 (by kernel_rfl) (by kernel_rfl) rfl (by kernel_rfl)
theorem ok11 : FnOk Go.Proofs.Try.prog nm fnE 11 59 := .of Go.Proofs.Try.func11 (by kernel_rfl) (by kernel_rfl) rfl (by kernel_rfl)
theorem ok27 : FnOk Go.Proofs.Try.prog nm fnE 27 31 := .of Go.Proofs.Try.func27 (by kernel_rfl) (by kernel_rfl) rfl (by kernel_rfl)
theorem ok28 : FnOk Go.Proofs.Try.prog nm fnE 28 32 := .of Go.Proofs.Try.func28 (by kernel_rfl) (by kernel_rfl) rfl (by kernel_rfl)
theorem ok29 : FnOk Go.Proofs.Try.prog nm fnE 29 33 := .of Go.Proofs.Try.func29 (by kernel_rfl) (by kernel_rfl) rfl (by kernel_rfl)
theorem ok30 : FnOk Go.Proofs.Try.prog nm fnE 30 43 := .of Go.Proofs.Try.func30 (by kernel_rfl) (by kernel_rfl) rfl (by kernel_rfl)
theorem ok31 : FnOk Go.Proofs.Try.prog nm fnE 31 60 := .of Go.Proofs.Try.func31 (by kernel_rfl) (by kernel_rfl) rfl (by kernel_rfl)
theorem ok32 : FnOk Go.Proofs.Try.prog nm fnE 32 61 := .of Go.Proofs.Try.func32 (by kernel_rfl) (by kernel_rfl) rfl (by kernel_rfl)
theorem ok33 : FnOk Go.Proofs.Try.prog nm fnE 33 62 := .of Go.Proofs.Try.func33 (by kernel_rfl) (by kernel_rfl) rfl (by kernel_rfl)
theorem ok34 : FnOk Go.Proofs.Try.prog nm fnE 34 34 := .of Go.Proofs.Try.func34 (by kernel_rfl) (by kernel_rfl) rfl (by kernel_rfl)
theorem ok35 : FnOk Go.Proofs.Try.prog nm fnE 35 35 := .of Go.Proofs.Try.func35 (by kernel_rfl) (by kernel_rfl) rfl (by kernel_rfl)
theorem ok36 : FnOk Go.Proofs.Try.prog nm fnE 36 36 := .of Go.Proofs.Try.func36 (by kernel_rfl) (by kernel_rfl) rfl (by kernel_rfl)
theorem ok37 : FnOk Go.Proofs.Try.prog nm fnE 37 37 := .of Go.Proofs.Try.func37 (by kernel_rfl) (by kernel_rfl) rfl (by kernel_rfl)
theorem ok53 : FnOk Go.Proofs.Try.prog nm fnE 53 44 := .of Go.Proofs.Try.func53 (by kernel_rfl) (by kernel_rfl) rfl (by kernel_rfl)
theorem y1a8 : AllF Go.Proofs.Try.prog nm fnE 0 tbl :=
  ⟨ok3, ok7, ok8, ok9, ok10, ok11, ok27, ok28, ok29, ok30, ok31, ok32, ok33, ok34, ok35, ok36, ok37, ok53, trivial⟩
theorem y19x : EnvOk Go.Proofs.Try.prog nm E := y0p (by kernel_rfl) y1a8 .nothing
end Go.Vm
