/- The machine's form of functions, each checked against the translation, and the environment that they make. -/
import Derived.Test.YtgbajicpokolcaaVc
import Derived.Test.YtgbajicpokolcaaProg
import Derived.KernelRfl
set_option linter.unusedSimpArgs false
set_option linter.unusedVariables false
set_option linter.unusedSectionVars false
namespace Go.Vm
def ywm : CCode :=
  (.seq (.region [
 kO 107 (.ld true 5 1),
 kO 108 (.ld true 5 4),
 kO 109 (.call none true 14 [107, 108]),
 kO 2 (.mv 109)])
 .ret)
def yyt : CCode :=
  (.region [
 kO 106 (.bin .add 99 (ci 1)),
 kO 99 (.mv 106)])
def yvo : CCode :=
  (.seq (.block 9 (.seq (.region [
 kO 101 (.mv 99),
 kO 9 (.mv 101)])
 (.region [
 kO 102 (.fa 1 3),
 kO 103 (.ld false 1 102),
 kO 104 (.mv 9),
 kO 105 (.ixs 1 103 104),
 kU (.st 1 105 (ci (-9)))])))
 yyt)
def yzi : CCode :=
  (.seq (.cond 100
 .skip
 (.exit 8))
 yvo)
def yvw : CCode :=
  (.seq (.region [
 kO 100 (.bin .lss 99 98)])
 yzi)
def ygw : CCode :=
  (.loop [1, 3, 4, 98, 99] yvw)
def ytw : CCode :=
  (.block 8 ygw)
def y12a : CCode :=
  (.seq (.region [
 kO 96 (.fa 1 3),
 kO 97 (.ld false 1 96),
 kO 98 (.len 1 97),
 kO 99 (.mv (ci 0))])
 ytw)
def yyx : CCode :=
  (.seq y12a
 ywm)
def ypv : CCode :=
  (.region [
 kO 95 (.bin .add 87 (ci 1)),
 kO 87 (.mv 95)])
def yom : CCode :=
  (.seq (.block 7 (.seq (.region [
 kO 89 (.mv 87),
 kO 8 (.mv 89)])
 (.region [
 kO 90 (.fa 4 3),
 kO 91 (.ld false 1 90),
 kO 92 (.mv 8),
 kO 93 (.ixs 4 91 92),
 kO 94 (.fa 2 93),
 kU (.st 1 94 (ci (-9)))])))
 ypv)
def yn6 : CCode :=
  (.seq (.cond 88
 .skip
 (.exit 6))
 yom)
def yoi : CCode :=
  (.seq (.region [
 kO 88 (.bin .lss 87 86)])
 yn6)
def yd4 : CCode :=
  (.loop [1, 3, 4, 86, 87] yoi)
def ymx : CCode :=
  (.block 6 yd4)
def ypz : CCode :=
  (.seq (.region [
 kO 84 (.fa 4 3),
 kO 85 (.ld false 1 84),
 kO 86 (.len 1 85),
 kO 87 (.mv (ci 0))])
 ymx)
def ymu : CCode :=
  (.seq ypz
 yyx)
def yqn : CCode :=
  (.region [
 kO 83 (.bin .add 76 (ci 1)),
 kO 76 (.mv 83)])
def yrm : CCode :=
  (.seq (.block 5 (.seq (.region [
 kO 78 (.mv 76),
 kO 7 (.mv 78)])
 (.region [
 kO 79 (.fa 0 3),
 kO 80 (.ld false 1 79),
 kO 81 (.mv 7),
 kO 82 (.ixs 1 80 81),
 kU (.st 1 82 (ci 9))])))
 yqn)
def yno : CCode :=
  (.seq (.cond 77
 .skip
 (.exit 4))
 yrm)
def yr9 : CCode :=
  (.seq (.region [
 kO 77 (.bin .lss 76 75)])
 yno)
def yda : CCode :=
  (.loop [1, 3, 4, 75, 76] yr9)
def yqu : CCode :=
  (.block 4 yda)
def ym1 : CCode :=
  (.seq (.region [
 kO 73 (.fa 0 3),
 kO 74 (.ld false 1 73),
 kO 75 (.len 1 74),
 kO 76 (.mv (ci 0))])
 yqu)
def yq4 : CCode :=
  (.seq ym1
 ymu)
def ymm : CCode :=
  (.region [
 kO 72 (.bin .add 40 (ci 1)),
 kO 40 (.mv 72)])
def ym5 : CCode :=
  (.region [
 kO 71 (.bin .add 60 (ci 1)),
 kO 60 (.mv 71)])
def yoy : CCode :=
  (.seq (.block 3 (.seq (.region [
 kO 62 (.mv 60),
 kO 6 (.mv 62)])
 (.region [
 kO 63 (.fa 3 3),
 kO 64 (.ld false 1 63),
 kO 65 (.mv 5),
 kO 66 (.ixs 9 64 65),
 kO 67 (.fa 8 66),
 kO 68 (.ld false 1 67),
 kO 69 (.mv 6),
 kO 70 (.ixs 1 68 69),
 kU (.st 1 70 (ci (-9)))])))
 ym5)
def ynm : CCode :=
  (.seq (.cond 61
 .skip
 (.exit 2))
 yoy)
def yl6 : CCode :=
  (.seq (.region [
 kO 61 (.bin .lss 60 59)])
 ynm)
def ycf : CCode :=
  (.loop [1, 3, 4, 5, 39, 40, 59, 60] yl6)
def ylk : CCode :=
  (.block 2 ycf)
def yor : CCode :=
  (.seq (.region [
 kO 53 (.fa 3 3),
 kO 54 (.ld false 1 53),
 kO 55 (.mv 5),
 kO 56 (.ixs 9 54 55),
 kO 57 (.fa 8 56),
 kO 58 (.ld false 1 57),
 kO 59 (.len 1 58),
 kO 60 (.mv (ci 0))])
 ylk)
def ylu : CCode :=
  (.seq (.draw [
 kO 43 (.fa 3 3),
 kO 44 (.ld false 1 43),
 kO 45 (.mv 5),
 kO 46 (.fa 3 3),
 kO 47 (.ld false 1 46),
 kO 48 (.mv 5),
 kO 49 (.ixs 9 44 45),
 kO 50 (.fa 0 49),
 kU (.st 1 50 (ci 99)),
 kO 51 (.ixs 9 47 48),
 kO 52 (.fa 5 51),
 kU (.st 1 52 (ci 99))] [(4, 8)])
 yor)
def yqc : CCode :=
  (.seq (.region [
 kO 42 (.mv 40),
 kO 5 (.mv 42)])
 ylu)
def ynk : CCode :=
  (.block 1 yqc)
def yos : CCode :=
  (.seq ynk
 ymm)
def ylg : CCode :=
  (.seq (.cond 41
 .skip
 (.exit 0))
 yos)
def yl8 : CCode :=
  (.seq (.region [
 kO 41 (.bin .lss 40 39)])
 ylg)
def ycb : CCode :=
  (.loop [1, 3, 4, 39, 40] yl8)
def yqg : CCode :=
  (.block 0 ycb)
def yl9 : CCode :=
  (.seq (.region [
 kO 37 (.fa 3 3),
 kO 38 (.ld false 1 37),
 kO 39 (.len 1 38),
 kO 40 (.mv (ci 0))])
 yqg)
def ypp : CCode :=
  (.seq yl9
 yq4)
def yqo : CCode :=
  (.seq (.seq (.draw [
 kO 26 (.ld true 5 1),
 kO 27 (.ld true 5 3),
 kO 28 (.call none true 14 [26, 27]),
 kO 29 (.un .not 28),
 kO 30 (.mv 29),
 kG 31 (.ld true 5 1) 30 false,
 kG 32 (.call none true 8 [31]) 30 false,
 kG 33 (.ld true 5 3) 30 false,
 kG 34 (.call none true 8 [33]) 30 false,
 kG 35 (.bin .neq 32 34) 30 false,
 kO 36 (.pick 30 (.c (.bool true)) 35)] [(6, 7)])
 (.cond 36
 (.seq (.region [
  kO 2 (.mv (.c (.bool false)))])
  .ret)
 .skip))
 ypp)
def yls : CCode :=
  (.seq (.region [
 kO 24 (.ld true 5 3),
 kO 25 (.call none true 13 [24]),
 kO 4 (.new (some 9) [.nils, .nils, (.int .i64 0), .nils, .nils]),
 kU (.st 5 4 25)])
 yqo)
def yrl : CCode :=
  (.seq (.region [
 kO 22 (.ld true 5 1),
 kO 23 (.call (some 1) true 13 [22]),
 kO 3 (.new (some 8) [.nils, .nils, (.int .i64 0), .nils, .nils]),
 kU (.st 5 3 23)])
 yls)
def yol : CCode :=
  (.seq (.seq (.region [
 kO 12 (.fa 3 1),
 kO 13 (.ld false 1 12),
 kO 14 (.len 1 13),
 kO 15 (.bin .gtr 14 (ci 30000)),
 kO 16 (.mv 15),
 kG 17 (.fa 0 1) 16 false,
 kG 18 (.ld false 1 17) 16 false,
 kG 19 (.len 1 18) 16 false,
 kG 20 (.bin .gtr 19 (ci 30000)) 16 false,
 kO 21 (.pick 16 (.c (.bool true)) 20)])
 (.cond 21
 (.seq (.region [
  kO 2 (.mv (.c (.bool true)))])
  .ret)
 .skip))
 yrl)
def yn3 : CCode :=
  (.seq (.seq (.region [
 kO 10 (.call none true 4 []),
 kO 11 (.un .not 10)])
 (.cond 11
 (.seq (.region [
  kO 2 (.mv (.c (.bool false)))])
  .ret)
 .skip))
 yol)
def ynt : CCode :=
  (.seq (.region [
 kO 1 (.box (some 0) 0),
 kO 2 (.mv (.c (.bool false)))])
 yn3)
def y1fi : CFunc :=
  ⟨1, true, 10, ynt, [.t 2]⟩
def y1if : CFunc :=
  ⟨0, true, 2, (.seq (.region [
    kO 0 (.mv (.c (.bool false)))])
  (.seq (.region [
    kO 2 (.build [(.int .i64 0), (.int .i64 0), (.int .i64 0), (.int .i64 0), (.int .i64 0), (.int .i64 0), (.int .i64 0), (.str []), .nils] [(0, 1, (ci 14)), (2, 1, (ci 1)), (3, 1, (ci 2)), (4, 1, (ci 3))]),
    kO 3 (.call none true 10 [2]),
    kO 1 (.mv 3)])
  (.seq (.region [
    kO 4 (.mv 1),
    kO 5 (.len 1 4),
    kO 6 (.bin .eql 5 (ci 3)),
    kO 7 (.mv 6),
    kG 8 (.mv 1) 7 true,
    kG 9 (.ixs 1 8 (ci 2)) 7 true,
    kG 10 (.ld false 1 9) 7 true,
    kG 11 (.bin .eql 10 (ci 3)) 7 true,
    kO 12 (.pick 7 11 (.c (.bool false))),
    kO 13 (.mv 12),
    kG 14 (.build [(.int .i64 0), (.int .i64 0), (.int .i64 0), (.int .i64 0), (.int .i64 0), (.int .i64 0), (.int .i64 0), (.str []), .nils] [(0, 1, (ci 23)), (1, 1, (ci (-1)))]) 13 true,
    kG 15 (.call none true 9 [14]) 13 true,
    kG 16 (.bin .eql 15 (ci (-1))) 13 true,
    kO 17 (.pick 13 16 (.c (.bool false))),
    kO 18 (.mv 17),
    kG 19 (.build [(.int .i64 0), (.int .i64 0), (.int .i64 0), (.int .i64 0), (.int .i64 0), (.int .i64 0), (.int .i64 0), (.str []), .nils] [(0, 1, (ci 33))]) 18 true,
    kG 20 (.buildS (some 0) 9 1 [(.int .i64 0), (.int .i64 0), (.int .i64 0), (.int .i64 0), (.int .i64 0), (.int .i64 0), (.int .i64 0), (.str []), .nils] [(0, 19)]) 18 true,
    kG 21 (.build [.nils, .nils, (.int .i64 0), .nils, .nils] [(3, 1, 20)]) 18 true,
    kG 22 (.call none true 8 [21]) 18 true,
    kG 23 (.bin .eql 22 (ci 80)) 18 true,
    kO 24 (.pick 18 23 (.c (.bool false))),
    kO 25 (.mv 24),
    kG 26 (.build [(.int .i64 0), (.int .i64 0), (.int .i64 0), (.int .i64 0), (.int .i64 0), (.int .i64 0), (.int .i64 0), (.str []), .nils] [(0, 1, (ci 30)), (2, 1, (ci (-1)))]) 25 true,
    kG 27 (.buildS (some 1) 9 1 [(.int .i64 0), (.int .i64 0), (.int .i64 0), (.int .i64 0), (.int .i64 0), (.int .i64 0), (.int .i64 0), (.str []), .nils] [(0, 26)]) 25 true,
    kG 28 (.build [.nils, .nils, (.int .i64 0), .nils, .nils] [(3, 1, 27)]) 25 true,
    kG 29 (.call none true 8 [28]) 25 true,
    kG 30 (.bin .eql 29 (ci 0)) 25 true,
    kO 31 (.pick 25 30 (.c (.bool false))),
    kO 0 (.mv 31)])
  .ret))), [.t 0]⟩
def y08 : CCode :=
  (.seq (.region [
 kO 39 (.ld true 5 3),
 kU (.st 5 2 39)])
 .ret)
def y123 : CCode :=
  (.region [
 kO 38 (.bin .add 23 (ci 1)),
 kO 23 (.mv 38)])
def yw2 : CCode :=
  (.seq (.block 1 (.seq (.region [
 kO 25 (.mv 23),
 kO 4 (.mv 25)])
 (.drawN 1 [
 kO 26 (.fa 3 3),
 kO 27 (.ld false 1 26),
 kO 28 (.mv 4),
 kO 29 (.fa 3 3),
 kO 30 (.ld false 1 29),
 kO 31 (.mv 4),
 kO 32 (.ixs 9 30 31),
 kO 33 (.fa 8 32),
 kO 34 (.ld false 1 33),
 kO 35 (.call (some 0) false 39 [34]),
 kO 36 (.ixs 9 27 28),
 kO 37 (.fa 8 36),
 kU (.st 1 37 35)] [(1, 9)])))
 y123)
def y12w : CCode :=
  (.seq (.cond 24
 .skip
 (.exit 0))
 yw2)
def yzu : CCode :=
  (.seq (.region [
 kO 24 (.bin .lss 23 22)])
 y12w)
def ygv : CCode :=
  (.loop [2, 3, 22, 23] yzu)
def ywd : CCode :=
  (.block 0 ygv)
def yw1 : CCode :=
  (.seq (.region [
 kO 20 (.fa 3 3),
 kO 21 (.ld false 1 20),
 kO 22 (.len 1 21),
 kO 23 (.mv (ci 0))])
 ywd)
def yzz : CCode :=
  (.seq yw1
 y08)
def yq9 : CCode :=
  (.seq (.draw [
 kO 5 (.fa 0 1),
 kO 6 (.ld false 1 5),
 kO 7 (.call (some 2) false 39 [6]),
 kO 8 (.fa 1 1),
 kO 9 (.ld false 1 8),
 kO 10 (.call (some 3) false 39 [9]),
 kO 11 (.fa 2 1),
 kO 12 (.ld false 1 11),
 kO 13 (.fa 3 1),
 kO 14 (.ld false 1 13),
 kO 15 (.call (some 4) false 40 [14]),
 kO 16 (.fa 4 1),
 kO 17 (.ld false 1 16),
 kO 18 (.call (some 5) false 41 [17]),
 kO 19 (.build [.nils, .nils, (.int .i64 0), .nils, .nils] [(0, 1, 7), (1, 1, 10), (2, 1, 12), (3, 1, 15), (4, 1, 18)]),
 kO 3 (.new (some 6) [.nils, .nils, (.int .i64 0), .nils, .nils]),
 kU (.st 5 3 19)] [(2, 4), (2, 7), (5, 7), (2, 9), (5, 9), (7, 10), (2, 12), (5, 12), (10, 12), (7, 13), (1, 15), (2, 15), (4, 15), (5, 15), (7, 15), (9, 15), (10, 15), (12, 15), (13, 15)])
 yzz)
def yn5 : CCode :=
  (.seq (.region [
 kO 1 (.box (some 0) 0),
 kO 2 (.new (some 1) [.nils, .nils, (.int .i64 0), .nils, .nils])])
 yq9)
def y1ez : CFunc :=
  ⟨1, true, 7, yn5, [.cell 2 true 5]⟩
def yr4 : CCode :=
  (.seq (.region [
 kO 4 (.mv (.c (.bool true)))])
 .ret)
def yn7 : CCode :=
  (.region [
 kO 70 (.mv 6),
 kO 71 (.bin .add 70 (ci 1)),
 kO 6 (.mv 71)])
def yoo : CCode :=
  (.seq (.block 3 (.seq (.draw [
 kO 72 (.fa 4 2),
 kO 73 (.ld false 1 72),
 kO 74 (.mv 6),
 kO 75 (.ixs 4 73 74),
 kO 76 (.ld true 4 75),
 kO 77 (.fa 4 3),
 kO 78 (.ld false 1 77),
 kO 79 (.mv 6),
 kO 80 (.ixs 4 78 79),
 kO 81 (.ld true 4 80),
 kO 82 (.eqa true [0, 0, 0, 2] 76 81)] [])
 (.cond 82
 (.seq (.region [
  kO 4 (.mv (.c (.bool false)))])
  .ret)
 .skip)))
 yn7)
def yq6 : CCode :=
  (.seq (.seq (.region [
 kO 65 (.mv 6),
 kO 66 (.fa 4 2),
 kO 67 (.ld false 1 66),
 kO 68 (.len 1 67),
 kO 69 (.bin .lss 65 68)])
 (.cond 69
 .skip
 (.exit 2)))
 yoo)
def ycs : CCode :=
  (.loop [2, 3, 6] yq6)
def yma : CCode :=
  (.block 2 ycs)
def yqe : CCode :=
  (.seq (.region [
 kO 6 (.mv (ci 0))])
 yma)
def yr7 : CCode :=
  (.seq yqe
 yr4)
def yhz : CCode :=
  (.region [
 kO 51 (.mv 5),
 kO 52 (.bin .add 51 (ci 1)),
 kO 5 (.mv 52)])
def yi7 : CCode :=
  (.seq (.block 1 (.seq (.draw [
 kO 53 (.fa 3 2),
 kO 54 (.ld false 1 53),
 kO 55 (.mv 5),
 kO 56 (.ixs 9 54 55),
 kO 57 (.ld true 9 56),
 kO 58 (.fa 3 3),
 kO 59 (.ld false 1 58),
 kO 60 (.mv 5),
 kO 61 (.ixs 9 59 60),
 kO 62 (.ld true 9 61),
 kO 63 (.call none true 28 [57, 62]),
 kO 64 (.un .not 63)] [])
 (.cond 64
 (.seq (.region [
  kO 4 (.mv (.c (.bool false)))])
  .ret)
 .skip)))
 yhz)
def yiy : CCode :=
  (.seq (.seq (.region [
 kO 46 (.mv 5),
 kO 47 (.fa 3 2),
 kO 48 (.ld false 1 47),
 kO 49 (.len 1 48),
 kO 50 (.bin .lss 46 49)])
 (.cond 50
 .skip
 (.exit 0)))
 yi7)
def yde : CCode :=
  (.loop [2, 3, 5] yiy)
def yic : CCode :=
  (.block 0 yde)
def yjb : CCode :=
  (.seq (.region [
 kO 5 (.mv (ci 0))])
 yic)
def yjl : CCode :=
  (.seq yjb
 yr7)
def yin : CCode :=
  (.seq (.seq (.region [
 kO 7 (.fa 0 2),
 kO 8 (.ld false 1 7),
 kO 9 (.fa 0 3),
 kO 10 (.ld false 1 9),
 kO 11 (.call none true 11 [8, 10]),
 kO 12 (.un .not 11),
 kO 13 (.mv 12),
 kG 14 (.fa 1 2) 13 false,
 kG 15 (.ld false 1 14) 13 false,
 kG 16 (.fa 1 3) 13 false,
 kG 17 (.ld false 1 16) 13 false,
 kG 18 (.call none true 11 [15, 17]) 13 false,
 kG 19 (.un .not 18) 13 false,
 kO 20 (.pick 13 (.c (.bool true)) 19),
 kO 21 (.mv 20),
 kG 22 (.fa 2 2) 21 false,
 kG 23 (.ld false 1 22) 21 false,
 kG 24 (.fa 2 3) 21 false,
 kG 25 (.ld false 1 24) 21 false,
 kG 26 (.bin .neq 23 25) 21 false,
 kO 27 (.pick 21 (.c (.bool true)) 26),
 kO 28 (.mv 27),
 kG 29 (.fa 3 2) 28 false,
 kG 30 (.ld false 1 29) 28 false,
 kG 31 (.len 1 30) 28 false,
 kG 32 (.fa 3 3) 28 false,
 kG 33 (.ld false 1 32) 28 false,
 kG 34 (.len 1 33) 28 false,
 kG 35 (.bin .neq 31 34) 28 false,
 kO 36 (.pick 28 (.c (.bool true)) 35),
 kO 37 (.mv 36),
 kG 38 (.fa 4 2) 37 false,
 kG 39 (.ld false 1 38) 37 false,
 kG 40 (.len 1 39) 37 false,
 kG 41 (.fa 4 3) 37 false,
 kG 42 (.ld false 1 41) 37 false,
 kG 43 (.len 1 42) 37 false,
 kG 44 (.bin .neq 40 43) 37 false,
 kO 45 (.pick 37 (.c (.bool true)) 44)])
 (.cond 45
 (.seq (.region [
  kO 4 (.mv (.c (.bool false)))])
  .ret)
 .skip))
 yjl)
def yhw : CCode :=
  (.seq (.region [
 kO 2 (.box (some 0) 0),
 kO 3 (.box (some 1) 1),
 kO 4 (.mv (.c (.bool false)))])
 yin)
def y17n : CFunc :=
  ⟨2, true, 2, yhw, [.t 4]⟩
def ywr : CCode :=
  (.seq (.region [
 kO 2 (.mv (ci 0))])
 .ret)
def yyz : CCode :=
  (.region [
 kO 179 (.bin .add 138 (ci 1)),
 kO 138 (.mv 179)])
def y12e : CCode :=
  (.seq (.block 7 (.seq (.region [
 kO 140 (.ixs 4 136 138),
 kO 141 (.ld true 4 140),
 kO 11 (.new (some 2) [(.int .i64 0), (.int .i64 0), (.int .i64 0), (.str [])]),
 kU (.st 4 11 141)])
 (.seq (.region [
 kO 142 (.fa 0 11),
 kO 143 (.ld false 1 142),
 kO 144 (.bin .lss 143 (ci 0)),
 kO 145 (.mv 144),
 kG 146 (.fa 0 11) 145 false,
 kG 147 (.ld false 1 146) 145 false,
 kG 148 (.fa 1 11) 145 false,
 kG 149 (.ld false 1 148) 145 false,
 kG 150 (.bin .geq 147 149) 145 false,
 kO 151 (.pick 145 (.c (.bool true)) 150),
 kO 152 (.mv 151),
 kG 153 (.fa 1 11) 152 false,
 kG 154 (.ld false 1 153) 152 false,
 kG 155 (.mv 3) 152 false,
 kG 156 (.bin .gtr 154 155) 152 false,
 kO 157 (.pick 152 (.c (.bool true)) 156),
 kO 158 (.mv 157),
 kG 159 (.fa 2 11) 158 false,
 kG 160 (.ld false 1 159) 158 false,
 kG 161 (.bin .lss 160 (ci 0)) 158 false,
 kO 162 (.pick 158 (.c (.bool true)) 161),
 kO 163 (.mv 162),
 kG 164 (.fa 2 11) 163 false,
 kG 165 (.ld false 1 164) 163 false,
 kG 166 (.mv 3) 163 false,
 kG 167 (.bin .geq 165 166) 163 false,
 kO 168 (.pick 163 (.c (.bool true)) 167),
 kO 169 (.mv 168),
 kG 170 (.fa 3 1) 169 false,
 kG 171 (.ld false 1 170) 169 false,
 kG 172 (.fa 2 11) 169 false,
 kG 173 (.ld false 1 172) 169 false,
 kG 174 (.ixs 9 171 173) 169 false,
 kG 175 (.fa 0 174) 169 false,
 kG 176 (.ld false 1 175) 169 false,
 kG 177 (.bin .neq 176 (ci 32)) 169 false,
 kO 178 (.pick 169 (.c (.bool true)) 177)])
 (.cond 178
 (.seq (.region [
  kO 2 (.mv (ci 80))])
  .ret)
 .skip))))
 yyz)
def y00 : CCode :=
  (.seq (.cond 139
 .skip
 (.exit 6))
 y12e)
def ywq : CCode :=
  (.seq (.region [
 kO 139 (.bin .lss 138 137)])
 y00)
def yh1 : CCode :=
  (.loop [1, 3, 136, 137, 138] ywq)
def y0u : CCode :=
  (.block 6 yh1)
def y12i : CCode :=
  (.seq (.region [
 kO 135 (.fa 4 1),
 kO 136 (.ld false 1 135),
 kO 137 (.len 1 136),
 kO 138 (.mv (ci 0))])
 y0u)
def yxt : CCode :=
  (.seq y12i
 ywr)
def ypu : CCode :=
  (.region [
 kO 134 (.bin .add 94 (ci 1)),
 kO 94 (.mv 134)])
def yq0 : CCode :=
  (.seq (.region [
 kO 103 (.fa 0 9),
 kO 104 (.ld false 1 103),
 kO 105 (.bin .eql 104 (ci 32)),
 kO 106 (.mv 105),
 kG 107 (.mv 8) 106 true,
 kG 108 (.bin .eql 107 (ci 0)) 106 true,
 kG 109 (.mv 108) 106 true,
 kG 110 (.fa 3 1) 109 false,
 kG 111 (.ld false 1 110) 109 false,
 kG 112 (.mv 8) 109 false,
 kG 113 (.bin .sub 112 (ci 1)) 109 false,
 kG 114 (.ixs 9 111 113) 109 false,
 kG 115 (.ld true 9 114) 109 false,
 kG 116 (.call none true 24 [115]) 109 false,
 kG 117 (.un .not 116) 109 false,
 kG 118 (.pick 109 (.c (.bool true)) 117) 106 true,
 kO 119 (.pick 106 118 (.c (.bool false))),
 kO 120 (.mv 119),
 kG 121 (.ld true 9 9) 120 false,
 kG 122 (.call none true 22 [121]) 120 false,
 kG 123 (.mv 122) 120 false,
 kG 124 (.fa 3 1) 123 true,
 kG 125 (.ld false 1 124) 123 true,
 kG 126 (.fa 6 9) 123 true,
 kG 127 (.ld false 1 126) 123 true,
 kG 128 (.ixs 9 125 127) 123 true,
 kG 129 (.fa 0 128) 123 true,
 kG 130 (.ld false 1 129) 123 true,
 kG 131 (.bin .eql 130 (ci 32)) 123 true,
 kG 132 (.pick 123 131 (.c (.bool false))) 120 false,
 kO 133 (.pick 120 (.c (.bool true)) 132)])
 (.cond 133
 (.seq (.region [
  kO 2 (.mv (ci 80))])
  .ret)
 .skip))
def yrd : CCode :=
  (.seq (.seq (.region [
 kO 99 (.ld true 5 1),
 kO 100 (.ld true 9 9),
 kO 101 (.call none true 63 [99, 100]),
 kO 102 (.un .not 101)])
 (.cond 102
 (.seq (.region [
  kO 2 (.mv (ci 80))])
  .ret)
 .skip))
 yq0)
def yon : CCode :=
  (.seq (.region [
 kO 96 (.mv 94),
 kO 97 (.ixs 9 92 94),
 kO 98 (.ld true 9 97),
 kO 9 (.new (some 1) [(.int .i64 0), (.int .i64 0), (.int .i64 0), (.int .i64 0), (.int .i64 0), (.int .i64 0), (.int .i64 0), (.str []), .nils]),
 kO 8 (.mv 96),
 kU (.st 9 9 98)])
 yrd)
def yq5 : CCode :=
  (.block 5 yon)
def ylc : CCode :=
  (.seq yq5
 ypu)
def yp6 : CCode :=
  (.seq (.cond 95
 .skip
 (.exit 4))
 ylc)
def yne : CCode :=
  (.seq (.region [
 kO 95 (.bin .lss 94 93)])
 yp6)
def ydr : CCode :=
  (.loop [1, 3, 92, 93, 94] yne)
def ypl : CCode :=
  (.block 4 ydr)
def ypy : CCode :=
  (.seq (.region [
 kO 91 (.fa 3 1),
 kO 92 (.ld false 1 91),
 kO 93 (.len 1 92),
 kO 94 (.mv (ci 0))])
 ypl)
def ynu : CCode :=
  (.seq ypy
 yxt)
def ymh : CCode :=
  (.region [
 kO 90 (.bin .add 64 (ci 1)),
 kO 64 (.mv 90)])
def ypi : CCode :=
  (.seq (.block 3 (.seq (.region [
 kO 66 (.mv 64),
 kO 67 (.ixs 1 62 64),
 kO 68 (.ld false 1 67),
 kO 6 (.mv 66),
 kO 7 (.mv 68)])
 (.seq (.region [
 kO 69 (.mv 7),
 kO 70 (.bin .lss 69 (ci 0)),
 kO 71 (.mv 70),
 kG 72 (.mv 7) 71 false,
 kG 73 (.fa 0 1) 71 false,
 kG 74 (.ld false 1 73) 71 false,
 kG 75 (.len 1 74) 71 false,
 kG 76 (.bin .geq 72 75) 71 false,
 kO 77 (.pick 71 (.c (.bool true)) 76),
 kO 78 (.mv 77),
 kG 79 (.fa 1 1) 78 false,
 kG 80 (.ld false 1 79) 78 false,
 kG 81 (.mv 6) 78 false,
 kG 82 (.slc 1 80 none (some 81)) 78 false,
 kG 83 (.mv 7) 78 false,
 kG 84 (.call none true 46 [82, 83]) 78 false,
 kO 85 (.pick 78 (.c (.bool true)) 84),
 kO 86 (.mv 85),
 kG 87 (.mv 6) 86 false,
 kG 88 (.bin .gtr 87 (ci 20)) 86 false,
 kO 89 (.pick 86 (.c (.bool true)) 88)])
 (.cond 89
 (.seq (.region [
  kO 2 (.mv (ci 80))])
  .ret)
 .skip))))
 ymh)
def yob : CCode :=
  (.seq (.cond 65
 .skip
 (.exit 2))
 ypi)
def yr2 : CCode :=
  (.seq (.region [
 kO 65 (.bin .lss 64 63)])
 yob)
def ydv : CCode :=
  (.loop [1, 3, 62, 63, 64] yr2)
def yqk : CCode :=
  (.block 2 ydv)
def yqx : CCode :=
  (.seq (.region [
 kO 61 (.fa 1 1),
 kO 62 (.ld false 1 61),
 kO 63 (.len 1 62),
 kO 64 (.mv (ci 0))])
 yqk)
def yri : CCode :=
  (.seq yqx
 ynu)
def yro : CCode :=
  (.region [
 kO 60 (.bin .add 50 (ci 1)),
 kO 50 (.mv 60)])
def yrf : CCode :=
  (.seq (.block 1 (.seq (.region [
 kO 52 (.ixs 1 48 50),
 kO 53 (.ld false 1 52),
 kO 5 (.mv 53)])
 (.seq (.region [
 kO 54 (.mv 5),
 kO 55 (.bin .lss 54 (ci 1)),
 kO 56 (.mv 55),
 kG 57 (.mv 5) 56 false,
 kG 58 (.bin .gtr 57 (ci 3)) 56 false,
 kO 59 (.pick 56 (.c (.bool true)) 58)])
 (.cond 59
 (.seq (.region [
  kO 2 (.mv (ci 80))])
  .ret)
 .skip))))
 yro)
def yns : CCode :=
  (.seq (.cond 51
 .skip
 (.exit 0))
 yrf)
def yqj : CCode :=
  (.seq (.region [
 kO 51 (.bin .lss 50 49)])
 yns)
def ycp : CCode :=
  (.loop [1, 3, 48, 49, 50] yqj)
def yp9 : CCode :=
  (.block 0 ycp)
def ymt : CCode :=
  (.seq (.region [
 kO 47 (.fa 0 1),
 kO 48 (.ld false 1 47),
 kO 49 (.len 1 48),
 kO 50 (.mv (ci 0))])
 yp9)
def yq8 : CCode :=
  (.seq ymt
 yri)
def yo1 : CCode :=
  (.seq (.seq (.region [
 kO 15 (.mv 3),
 kO 16 (.bin .lss 15 (ci 1)),
 kO 17 (.mv 16),
 kG 18 (.mv 3) 17 false,
 kG 19 (.bin .gtr 18 (ci 20000)) 17 false,
 kO 20 (.pick 17 (.c (.bool true)) 19),
 kO 21 (.mv 20),
 kG 22 (.fa 0 1) 21 false,
 kG 23 (.ld false 1 22) 21 false,
 kG 24 (.len 1 23) 21 false,
 kG 25 (.bin .gtr 24 (ci 20000)) 21 false,
 kO 26 (.pick 21 (.c (.bool true)) 25),
 kO 27 (.mv 26),
 kG 28 (.fa 2 1) 27 false,
 kG 29 (.ld false 1 28) 27 false,
 kG 30 (.bin .lss 29 (ci 0)) 27 false,
 kO 31 (.pick 27 (.c (.bool true)) 30),
 kO 32 (.mv 31),
 kG 33 (.fa 2 1) 32 false,
 kG 34 (.ld false 1 33) 32 false,
 kG 35 (.bin .gtr 34 (ci 3)) 32 false,
 kO 36 (.pick 32 (.c (.bool true)) 35),
 kO 37 (.mv 36),
 kG 38 (.fa 3 1) 37 false,
 kG 39 (.ld false 1 38) 37 false,
 kG 40 (.mv 3) 37 false,
 kG 41 (.bin .sub 40 (ci 1)) 37 false,
 kG 42 (.ixs 9 39 41) 37 false,
 kG 43 (.ld true 9 42) 37 false,
 kG 44 (.call none true 24 [43]) 37 false,
 kG 45 (.un .not 44) 37 false,
 kO 46 (.pick 37 (.c (.bool true)) 45)])
 (.cond 46
 (.seq (.region [
  kO 2 (.mv (ci 80))])
  .ret)
 .skip))
 yq8)
def ymc : CCode :=
  (.seq (.region [
 kO 12 (.fa 3 1),
 kO 13 (.ld false 1 12),
 kO 14 (.len 1 13),
 kO 3 (.mv 14)])
 yo1)
def ylm : CCode :=
  (.seq (.region [
 kO 1 (.box (some 0) 0),
 kO 2 (.mv (ci 0))])
 ymc)
def y1gu : CFunc :=
  ⟨1, true, 3, ylm, [.t 2]⟩
def y1j5 : CFunc :=
  ⟨1, true, 8, (.seq (.region [
    kO 1 (.box (some 0) 0),
    kO 2 (.mv (.c .nils))])
  (.seq (.seq (.region [
    kO 3 (.fa 0 1),
    kO 4 (.ld false 1 3)])
  (.block 0 (.seq (.seq (.region [
    kO 6 (.bin .eql 4 (ci 4)),
    kO 5 (.mv 6)])
  (.cond 5
  .skip
  (.seq (.region [
      kO 7 (.bin .eql 4 (ci 6)),
      kO 5 (.mv 7)])
    (.cond 5
    .skip
    (.seq (.region [
        kO 8 (.bin .eql 4 (ci 7)),
        kO 5 (.mv 8)])
      (.cond 5
      .skip
      (.seq (.region [
          kO 9 (.bin .eql 4 (ci 8)),
          kO 5 (.mv 9)])
        (.cond 5
        .skip
        (.seq (.region [
            kO 10 (.bin .eql 4 (ci 10)),
            kO 5 (.mv 10)])
          (.cond 5
          .skip
          (.seq (.region [
              kO 11 (.bin .eql 4 (ci 12)),
              kO 5 (.mv 11)])
            (.cond 5
            .skip
            (.seq (.region [
                kO 12 (.bin .eql 4 (ci 15)),
                kO 5 (.mv 12)])
              (.cond 5
              .skip
              (.seq (.region [
                  kO 13 (.bin .eql 4 (ci 16)),
                  kO 5 (.mv 13)])
                (.cond 5
                .skip
                (.seq (.region [
                    kO 14 (.bin .eql 4 (ci 19)),
                    kO 5 (.mv 14)])
                  (.cond 5
                  .skip
                  (.seq (.region [
                      kO 15 (.bin .eql 4 (ci 21)),
                      kO 5 (.mv 15)])
                    (.cond 5
                    .skip
                    (.seq (.region [
                        kO 16 (.bin .eql 4 (ci 22)),
                        kO 5 (.mv 16)])
                      (.cond 5
                      .skip
                      (.region [
                          kO 17 (.bin .eql 4 (ci 31)),
                          kO 5 (.mv 17)])))))))))))))))))))))))
  (.cond 5
  (.seq (.region [
      kO 18 (.fa 2 1),
      kO 19 (.ld false 1 18),
      kO 20 (.buildS (some 1) 1 1 [(.int .i64 0)] [(0, 19)]),
      kO 2 (.mv 20)])
    .ret)
  (.seq (.seq (.region [
      kO 22 (.bin .eql 4 (ci 5)),
      kO 21 (.mv 22)])
    (.cond 21
    .skip
    (.seq (.region [
        kO 23 (.bin .eql 4 (ci 9)),
        kO 21 (.mv 23)])
      (.cond 21
      .skip
      (.seq (.region [
          kO 24 (.bin .eql 4 (ci 11)),
          kO 21 (.mv 24)])
        (.cond 21
        .skip
        (.seq (.region [
            kO 25 (.bin .eql 4 (ci 13)),
            kO 21 (.mv 25)])
          (.cond 21
          .skip
          (.seq (.region [
              kO 26 (.bin .eql 4 (ci 17)),
              kO 21 (.mv 26)])
            (.cond 21
            .skip
            (.region [
                kO 27 (.bin .eql 4 (ci 28)),
                kO 21 (.mv 27)])))))))))))
    (.cond 21
    (.seq (.region [
        kO 28 (.fa 2 1),
        kO 29 (.ld false 1 28),
        kO 30 (.fa 3 1),
        kO 31 (.ld false 1 30),
        kO 32 (.buildS (some 2) 1 2 [(.int .i64 0)] [(0, 29), (1, 31)]),
        kO 2 (.mv 32)])
      .ret)
    (.seq (.region [
        kO 34 (.bin .eql 4 (ci 14)),
        kO 33 (.mv 34)])
      (.cond 33
      (.seq (.region [
          kO 35 (.fa 2 1),
          kO 36 (.ld false 1 35),
          kO 37 (.fa 3 1),
          kO 38 (.ld false 1 37),
          kO 39 (.fa 4 1),
          kO 40 (.ld false 1 39),
          kO 41 (.buildS (some 3) 1 3 [(.int .i64 0)] [(0, 36), (1, 38), (2, 40)]),
          kO 2 (.mv 41)])
        .ret)
      (.seq (.seq (.region [
          kO 43 (.bin .eql 4 (ci 23)),
          kO 42 (.mv 43)])
        (.cond 42
        .skip
        (.seq (.region [
            kO 44 (.bin .eql 4 (ci 24)),
            kO 42 (.mv 44)])
          (.cond 42
          .skip
          (.seq (.region [
              kO 45 (.bin .eql 4 (ci 25)),
              kO 42 (.mv 45)])
            (.cond 42
            .skip
            (.region [
                kO 46 (.bin .eql 4 (ci 26)),
                kO 42 (.mv 46)])))))))
        (.cond 42
        (.seq (.region [
            kO 47 (.fa 8 1),
            kO 48 (.ld false 1 47),
            kO 49 (.call (some 4) false 39 [48]),
            kO 2 (.mv 49)])
          .ret)
        (.seq (.region [
            kO 51 (.bin .eql 4 (ci 29)),
            kO 50 (.mv 51)])
          (.cond 50
          (.seq (.seq (.region [
              kO 52 (.fa 3 1),
              kO 53 (.ld false 1 52),
              kO 54 (.bin .lss 53 (ci 0))])
            (.cond 54
            (.seq (.region [
                kO 55 (.fa 2 1),
                kO 56 (.ld false 1 55),
                kO 57 (.buildS (some 5) 1 1 [(.int .i64 0)] [(0, 56)]),
                kO 2 (.mv 57)])
              .ret)
            .skip))
            (.seq (.region [
              kO 58 (.fa 2 1),
              kO 59 (.ld false 1 58),
              kO 60 (.fa 3 1),
              kO 61 (.ld false 1 60),
              kO 62 (.buildS (some 6) 1 2 [(.int .i64 0)] [(0, 59), (1, 61)]),
              kO 2 (.mv 62)])
            .ret))
          (.seq (.region [
              kO 64 (.bin .eql 4 (ci 30)),
              kO 63 (.mv 64)])
            (.cond 63
            (.seq (.region [
                kO 65 (.fa 2 1),
                kO 66 (.ld false 1 65),
                kO 67 (.bin .geq 66 (ci 0))])
              (.cond 67
              (.seq (.region [
                  kO 68 (.fa 2 1),
                  kO 69 (.ld false 1 68),
                  kO 70 (.buildS (some 7) 1 1 [(.int .i64 0)] [(0, 69)]),
                  kO 2 (.mv 70)])
                .ret)
              .skip))
            .skip))))))))))))))
  (.seq (.region [
    kO 2 (.mv (.c .nils))])
  .ret))), [.t 2]⟩
def y1jl : CFunc :=
  ⟨1, true, 1, (.seq (.region [
    kO 1 (.box (some 0) 0),
    kO 2 (.mv (ci 0))])
  (.seq (.seq (.region [
    kO 3 (.fa 0 1),
    kO 4 (.ld false 1 3)])
  (.block 0 (.seq (.seq (.region [
    kO 6 (.bin .eql 4 (ci 1)),
    kO 5 (.mv 6)])
  (.cond 5
  .skip
  (.seq (.region [
      kO 7 (.bin .eql 4 (ci 2)),
      kO 5 (.mv 7)])
    (.cond 5
    .skip
    (.seq (.region [
        kO 8 (.bin .eql 4 (ci 3)),
        kO 5 (.mv 8)])
      (.cond 5
      .skip
      (.seq (.region [
          kO 9 (.bin .eql 4 (ci 4)),
          kO 5 (.mv 9)])
        (.cond 5
        .skip
        (.seq (.region [
            kO 10 (.bin .eql 4 (ci 5)),
            kO 5 (.mv 10)])
          (.cond 5
          .skip
          (.seq (.region [
              kO 11 (.bin .eql 4 (ci 6)),
              kO 5 (.mv 11)])
            (.cond 5
            .skip
            (.seq (.region [
                kO 12 (.bin .eql 4 (ci 13)),
                kO 5 (.mv 12)])
              (.cond 5
              .skip
              (.seq (.region [
                  kO 13 (.bin .eql 4 (ci 15)),
                  kO 5 (.mv 13)])
                (.cond 5
                .skip
                (.seq (.region [
                    kO 14 (.bin .eql 4 (ci 16)),
                    kO 5 (.mv 14)])
                  (.cond 5
                  .skip
                  (.seq (.region [
                      kO 15 (.bin .eql 4 (ci 18)),
                      kO 5 (.mv 15)])
                    (.cond 5
                    .skip
                    (.seq (.region [
                        kO 16 (.bin .eql 4 (ci 20)),
                        kO 5 (.mv 16)])
                      (.cond 5
                      .skip
                      (.seq (.region [
                          kO 17 (.bin .eql 4 (ci 21)),
                          kO 5 (.mv 17)])
                        (.cond 5
                        .skip
                        (.seq (.region [
                            kO 18 (.bin .eql 4 (ci 22)),
                            kO 5 (.mv 18)])
                          (.cond 5
                          .skip
                          (.region [
                              kO 19 (.bin .eql 4 (ci 32)),
                              kO 5 (.mv 19)])))))))))))))))))))))))))))
  (.cond 5
  (.seq (.region [
      kO 20 (.fa 1 1),
      kO 21 (.ld false 1 20),
      kO 2 (.mv 21)])
    .ret)
  .skip))))
  (.seq (.seq (.region [
    kO 22 (.ld true 9 1),
    kO 23 (.call none true 17 [22])])
  (.cond 23
  (.seq (.region [
      kO 24 (.fa 1 1),
      kO 25 (.ld false 1 24),
      kO 2 (.mv 25)])
    .ret)
  .skip))
  (.seq (.region [
    kO 2 (.mv (ci (-1)))])
  .ret)))), [.t 2]⟩
def ylt : CCode :=
  (.seq (.region [
 kO 5 (.buildS (some 0) 1 0 [(.int .i64 0)] []),
 kO 6 (.mv 0),
 kO 7 (.app (some 1) 1 8 5 6),
 kO 2 (.mv 7)])
 .ret)
def ylb : CCode :=
  (.seq (.seq (.region [
 kO 3 (.mv 0),
 kO 4 (.eqn 1 false 3 (.c .nils))])
 (.cond 4
 (.seq (.region [
  kO 2 (.mv (.c .nils))])
  .ret)
 .skip))
 ylt)
def yqr : CCode :=
  (.seq (.region [
 kO 2 (.mv (.c .nils))])
 ylb)
def y17m : CFunc :=
  ⟨1, true, 2, yqr, [.t 2]⟩
def yqh : CCode :=
  (.seq (.region [
 kO 5 (.buildS (some 0) 9 0 [(.int .i64 0), (.int .i64 0), (.int .i64 0), (.int .i64 0), (.int .i64 0), (.int .i64 0), (.int .i64 0), (.str []), .nils] []),
 kO 6 (.mv 0),
 kO 7 (.app (some 1) 9 96 5 6),
 kO 2 (.mv 7)])
 .ret)
def yo5 : CCode :=
  (.seq (.seq (.region [
 kO 3 (.mv 0),
 kO 4 (.eqn 1 false 3 (.c .nils))])
 (.cond 4
 (.seq (.region [
  kO 2 (.mv (.c .nils))])
  .ret)
 .skip))
 yqh)
def yle : CCode :=
  (.seq (.region [
 kO 2 (.mv (.c .nils))])
 yo5)
def y17d : CFunc :=
  ⟨1, true, 2, yle, [.t 2]⟩
def ym4 : CCode :=
  (.seq (.region [
 kO 5 (.buildS (some 0) 4 0 [(.int .i64 0), (.int .i64 0), (.int .i64 0), (.str [])] []),
 kO 6 (.mv 0),
 kO 7 (.app (some 1) 4 40 5 6),
 kO 2 (.mv 7)])
 .ret)
def yp1 : CCode :=
  (.seq (.seq (.region [
 kO 3 (.mv 0),
 kO 4 (.eqn 1 false 3 (.c .nils))])
 (.cond 4
 (.seq (.region [
  kO 2 (.mv (.c .nils))])
  .ret)
 .skip))
 ym4)
def ypa : CCode :=
  (.seq (.region [
 kO 2 (.mv (.c .nils))])
 yp1)
def y17i : CFunc :=
  ⟨1, true, 2, ypa, [.t 2]⟩
def ypb : CCode :=
  (.seq (.region [
 kO 4 (.mv (.c (.bool true)))])
 .ret)
def yly : CCode :=
  (.region [
 kO 15 (.mv 5),
 kO 16 (.bin .add 15 (ci 1)),
 kO 5 (.mv 16)])
def ylw : CCode :=
  (.seq (.block 1 (.seq (.draw [
 kO 17 (.mv 0),
 kO 18 (.mv 5),
 kO 19 (.ixs 1 17 18),
 kO 20 (.ld false 1 19),
 kO 21 (.mv 1),
 kO 22 (.mv 5),
 kO 23 (.ixs 1 21 22),
 kO 24 (.ld false 1 23),
 kO 25 (.bin .neq 20 24)] [])
 (.cond 25
 (.seq (.region [
  kO 4 (.mv (.c (.bool false)))])
  .ret)
 .skip)))
 yly)
def yn0 : CCode :=
  (.seq (.seq (.region [
 kO 11 (.mv 5),
 kO 12 (.mv 0),
 kO 13 (.len 1 12),
 kO 14 (.bin .lss 11 13)])
 (.cond 14
 .skip
 (.exit 0)))
 ylw)
def yeg : CCode :=
  (.loop [0, 1, 5] yn0)
def yoe : CCode :=
  (.block 0 yeg)
def ym3 : CCode :=
  (.seq (.region [
 kO 5 (.mv (ci 0))])
 yoe)
def ypj : CCode :=
  (.seq ym3
 ypb)
def yqv : CCode :=
  (.seq (.seq (.region [
 kO 6 (.mv 0),
 kO 7 (.len 1 6),
 kO 8 (.mv 1),
 kO 9 (.len 1 8),
 kO 10 (.bin .neq 7 9)])
 (.cond 10
 (.seq (.region [
  kO 4 (.mv (.c (.bool false)))])
  .ret)
 .skip))
 ypj)
def yjk : CCode :=
  (.seq (.region [
 kO 4 (.mv (.c (.bool false)))])
 yqv)
def y17j : CFunc :=
  ⟨2, true, 0, yjk, [.t 4]⟩
def yod : CCode :=
  (.seq (.region [
 kO 2 (.box (some 0) 0),
 kO 3 (.box (some 1) 1),
 kO 4 (.mv (.c (.bool false)))])
 (.seq (.region [
 kO 5 (.fa 0 2),
 kO 6 (.ld false 1 5),
 kO 7 (.fa 0 3),
 kO 8 (.ld false 1 7),
 kO 9 (.bin .eql 6 8),
 kO 10 (.mv 9),
 kG 11 (.fa 1 2) 10 true,
 kG 12 (.ld false 1 11) 10 true,
 kG 13 (.fa 1 3) 10 true,
 kG 14 (.ld false 1 13) 10 true,
 kG 15 (.bin .eql 12 14) 10 true,
 kO 16 (.pick 10 15 (.c (.bool false))),
 kO 17 (.mv 16),
 kG 18 (.fa 2 2) 17 true,
 kG 19 (.ld false 1 18) 17 true,
 kG 20 (.fa 2 3) 17 true,
 kG 21 (.ld false 1 20) 17 true,
 kG 22 (.bin .eql 19 21) 17 true,
 kO 23 (.pick 17 22 (.c (.bool false))),
 kO 24 (.mv 23),
 kG 25 (.fa 3 2) 24 true,
 kG 26 (.ld false 1 25) 24 true,
 kG 27 (.fa 3 3) 24 true,
 kG 28 (.ld false 1 27) 24 true,
 kG 29 (.bin .eql 26 28) 24 true,
 kO 30 (.pick 24 29 (.c (.bool false))),
 kO 31 (.mv 30),
 kG 32 (.fa 4 2) 31 true,
 kG 33 (.ld false 1 32) 31 true,
 kG 34 (.fa 4 3) 31 true,
 kG 35 (.ld false 1 34) 31 true,
 kG 36 (.bin .eql 33 35) 31 true,
 kO 37 (.pick 31 36 (.c (.bool false))),
 kO 38 (.mv 37),
 kG 39 (.fa 5 2) 38 true,
 kG 40 (.ld false 1 39) 38 true,
 kG 41 (.fa 5 3) 38 true,
 kG 42 (.ld false 1 41) 38 true,
 kG 43 (.bin .eql 40 42) 38 true,
 kO 44 (.pick 38 43 (.c (.bool false))),
 kO 45 (.mv 44),
 kG 46 (.fa 6 2) 45 true,
 kG 47 (.ld false 1 46) 45 true,
 kG 48 (.fa 6 3) 45 true,
 kG 49 (.ld false 1 48) 45 true,
 kG 50 (.bin .eql 47 49) 45 true,
 kO 51 (.pick 45 50 (.c (.bool false))),
 kO 52 (.mv 51),
 kG 53 (.fa 7 2) 52 true,
 kG 54 (.ld false 1 53) 52 true,
 kG 55 (.fa 7 3) 52 true,
 kG 56 (.ld false 1 55) 52 true,
 kG 57 (.bin .eql 54 56) 52 true,
 kO 58 (.pick 52 57 (.c (.bool false))),
 kO 59 (.mv 58),
 kG 60 (.fa 8 2) 59 true,
 kG 61 (.ld false 1 60) 59 true,
 kG 62 (.fa 8 3) 59 true,
 kG 63 (.ld false 1 62) 59 true,
 kG 64 (.call none true 11 [61, 63]) 59 true,
 kO 65 (.pick 59 64 (.c (.bool false))),
 kO 4 (.mv 65)])
 .ret))
def y17c : CFunc :=
  ⟨2, true, 2, yod, [.t 4]⟩
def yth : CCode :=
  (.seq (.region [
 kO 1 (.box (some 0) 0),
 kO 2 (.mv (.c (.bool false)))])
 (.seq (.region [
 kO 3 (.fa 0 1),
 kO 4 (.ld false 1 3),
 kO 5 (.bin .eql 4 (ci 27)),
 kO 6 (.mv 5),
 kG 7 (.fa 0 1) 6 false,
 kG 8 (.ld false 1 7) 6 false,
 kG 9 (.bin .eql 8 (ci 30)) 6 false,
 kO 10 (.pick 6 (.c (.bool true)) 9),
 kO 11 (.mv 10),
 kG 12 (.fa 0 1) 11 false,
 kG 13 (.ld false 1 12) 11 false,
 kG 14 (.bin .eql 13 (ci 31)) 11 false,
 kO 15 (.pick 11 (.c (.bool true)) 14),
 kO 2 (.mv 15)])
 .ret))
def y1f9 : CFunc :=
  ⟨1, true, 1, yth, [.t 2]⟩
def yla : CCode :=
  (.seq (.region [
 kO 4 (.mv (.c (.bool false)))])
 (.seq (.region [
 kO 5 (.mv 0),
 kO 6 (.mv 1),
 kO 7 (.call none true 45 [5, 6]),
 kO 8 (.bin .geq 7 (ci 0)),
 kO 4 (.mv 8)])
 .ret))
def y17o : CFunc :=
  ⟨2, true, 0, yla, [.t 4]⟩
def yzy : CCode :=
  (.seq (.region [
 kO 183 (.ld true 9 3),
 kO 184 (.call none true 22 [183]),
 kO 185 (.un .not 184),
 kO 186 (.mv 185),
 kG 187 (.fa 6 3) 186 false,
 kG 188 (.ld false 1 187) 186 false,
 kG 189 (.bin .geq 188 (ci 0)) 186 false,
 kG 190 (.mv 189) 186 false,
 kG 191 (.fa 6 3) 190 true,
 kG 192 (.ld false 1 191) 190 true,
 kG 193 (.fa 3 2) 190 true,
 kG 194 (.ld false 1 193) 190 true,
 kG 195 (.len 1 194) 190 true,
 kG 196 (.bin .lss 192 195) 190 true,
 kG 197 (.pick 190 196 (.c (.bool false))) 186 false,
 kO 198 (.pick 186 (.c (.bool true)) 197),
 kO 4 (.mv 198)])
 .ret)
def y06 : CCode :=
  (.seq (.seq (.region [
 kO 105 (.fa 0 3),
 kO 106 (.ld false 1 105)])
 (.block 4 (.seq (.region [
 kO 108 (.bin .eql 106 (ci 1)),
 kO 107 (.mv 108)])
 (.cond 107
 (.seq (.region [
  kO 109 (.fa 0 2),
  kO 110 (.ld false 1 109),
  kO 111 (.fa 1 3),
  kO 112 (.ld false 1 111),
  kO 113 (.ixs 1 110 112),
  kO 114 (.ld false 1 113),
  kO 115 (.bin .neq 114 (ci 3)),
  kO 116 (.mv 115),
  kG 117 (.fa 0 2) 116 true,
  kG 118 (.ld false 1 117) 116 true,
  kG 119 (.fa 1 3) 116 true,
  kG 120 (.ld false 1 119) 116 true,
  kG 121 (.ixs 1 118 120) 116 true,
  kG 122 (.ld false 1 121) 116 true,
  kG 123 (.bin .eql 122 (ci 2)) 116 true,
  kG 124 (.mv 123) 116 true,
  kG 125 (.fa 5 3) 124 false,
  kG 126 (.ld false 1 125) 124 false,
  kG 127 (.fa 5 3) 124 false,
  kG 128 (.ld false 1 127) 124 false,
  kG 129 (.cvi .i32 128) 124 false,
  kG 130 (.cvi .i64 129) 124 false,
  kG 131 (.bin .eql 126 130) 124 false,
  kG 132 (.pick 124 (.c (.bool true)) 131) 116 true,
  kO 133 (.pick 116 132 (.c (.bool false))),
  kO 4 (.mv 133)])
  .ret)
 (.seq (.region [
  kO 135 (.bin .eql 106 (ci 4)),
  kO 134 (.mv 135)])
  (.cond 134
  (.seq (.draw [
   kO 136 (.fa 0 2),
   kO 137 (.ld false 1 136),
   kO 138 (.fa 1 3),
   kO 139 (.ld false 1 138),
   kO 140 (.ixs 1 137 139),
   kO 141 (.ld false 1 140),
   kO 142 (.fa 0 2),
   kO 143 (.ld false 1 142),
   kO 144 (.fa 2 3),
   kO 145 (.ld false 1 144),
   kO 146 (.ixs 1 143 145),
   kO 147 (.ld false 1 146),
   kO 148 (.bin .eql 141 147),
   kO 4 (.mv 148)] [])
   .ret)
  (.seq (.region [
   kO 150 (.bin .eql 106 (ci 7)),
   kO 149 (.mv 150)])
   (.cond 149
   (.seq (.region [
    kO 151 (.fa 0 2),
    kO 152 (.ld false 1 151),
    kO 153 (.fa 2 3),
    kO 154 (.ld false 1 153),
    kO 155 (.ixs 1 152 154),
    kO 156 (.ld false 1 155),
    kO 157 (.bin .neq 156 (ci 3)),
    kO 4 (.mv 157)])
    .ret)
   (.seq (.region [
    kO 159 (.bin .eql 106 (ci 30)),
    kO 158 (.mv 159)])
    (.cond 158
    (.seq (.draw [
     kO 160 (.fa 2 3),
     kO 161 (.ld false 1 160),
     kO 162 (.bin .eql 161 (ci (-1))),
     kO 163 (.fa 2 2),
     kO 164 (.ld false 1 163),
     kO 165 (.bin .eql 164 (ci 0)),
     kO 166 (.eqb false 162 165),
     kO 167 (.mv 166),
     kG 168 (.fa 2 3) 167 true,
     kG 169 (.ld false 1 168) 167 true,
     kG 170 (.bin .eql 169 (ci (-1))) 167 true,
     kG 171 (.mv 170) 167 true,
     kG 172 (.fa 0 2) 171 false,
     kG 173 (.ld false 1 172) 171 false,
     kG 174 (.fa 2 3) 171 false,
     kG 175 (.ld false 1 174) 171 false,
     kG 176 (.ixs 1 173 175) 171 false,
     kG 177 (.ld false 1 176) 171 false,
     kG 178 (.fa 2 2) 171 false,
     kG 179 (.ld false 1 178) 171 false,
     kG 180 (.bin .eql 177 179) 171 false,
     kG 181 (.pick 171 (.c (.bool true)) 180) 167 true,
     kO 182 (.pick 167 181 (.c (.bool false))),
     kO 4 (.mv 182)] [])
     .ret)
    .skip))))))))))
 yzy)
def yxo : CCode :=
  (.region [
 kO 104 (.bin .add 65 (ci 1)),
 kO 65 (.mv 104)])
def y12b : CCode :=
  (.seq (.region [
 kO 73 (.mv 10),
 kO 74 (.bin .lss 73 (ci 0)),
 kO 75 (.mv 74),
 kG 76 (.mv 10) 75 false,
 kG 77 (.fa 0 2) 75 false,
 kG 78 (.ld false 1 77) 75 false,
 kG 79 (.len 1 78) 75 false,
 kG 80 (.bin .geq 76 79) 75 false,
 kO 81 (.pick 75 (.c (.bool true)) 80),
 kO 82 (.mv 81),
 kG 83 (.mv 9) 82 false,
 kG 84 (.bin .eql 83 (ci 0)) 82 false,
 kG 85 (.mv 84) 82 false,
 kG 86 (.fa 0 3) 85 true,
 kG 87 (.ld false 1 86) 85 true,
 kG 88 (.bin .eql 87 (ci 24)) 85 true,
 kG 89 (.mv 88) 85 true,
 kG 90 (.fa 0 3) 89 false,
 kG 91 (.ld false 1 90) 89 false,
 kG 92 (.bin .eql 91 (ci 25)) 89 false,
 kG 93 (.pick 89 (.c (.bool true)) 92) 85 true,
 kG 94 (.pick 85 93 (.c (.bool false))) 82 false,
 kG 95 (.mv 94) 82 false,
 kG 96 (.fa 0 2) 95 true,
 kG 97 (.ld false 1 96) 95 true,
 kG 98 (.mv 10) 95 true,
 kG 99 (.ixs 1 97 98) 95 true,
 kG 100 (.ld false 1 99) 95 true,
 kG 101 (.bin .neq 100 (ci 3)) 95 true,
 kG 102 (.pick 95 101 (.c (.bool false))) 82 false,
 kO 103 (.pick 82 (.c (.bool true)) 102)])
 (.cond 103
 (.seq (.region [
  kO 4 (.mv (.c (.bool false)))])
  .ret)
 .skip))
def y09 : CCode :=
  (.seq (.seq (.region [
 kO 70 (.ld true 9 3),
 kO 71 (.call none true 17 [70]),
 kO 72 (.un .not 71)])
 (.cond 72
 (.exit 2)
 .skip))
 y12b)
def y0n : CCode :=
  (.seq (.region [
 kO 67 (.mv 65),
 kO 68 (.ixs 1 63 65),
 kO 69 (.ld false 1 68),
 kO 9 (.mv 67),
 kO 10 (.mv 69)])
 y09)
def ywb : CCode :=
  (.block 3 y0n)
def ytx : CCode :=
  (.seq ywb
 yxo)
def yo6 : CCode :=
  (.seq (.cond 66
 .skip
 (.exit 2))
 ytx)
def yln : CCode :=
  (.seq (.region [
 kO 66 (.bin .lss 65 64)])
 yo6)
def yhk : CCode :=
  (.loop [2, 3, 63, 64, 65] yln)
def ynz : CCode :=
  (.block 2 yhk)
def yrr : CCode :=
  (.seq (.region [
 kO 62 (.fa 8 3),
 kO 63 (.ld false 1 62),
 kO 64 (.len 1 63),
 kO 65 (.mv (ci 0))])
 ynz)
def ylv : CCode :=
  (.seq yrr
 y06)
def yrj : CCode :=
  (.region [
 kO 61 (.bin .add 27 (ci 1)),
 kO 27 (.mv 61)])
def yq1 : CCode :=
  (.seq (.draw [
 kO 35 (.mv 8),
 kO 36 (.bin .lss 35 (ci 0)),
 kO 37 (.mv 36),
 kG 38 (.mv 8) 37 false,
 kG 39 (.fa 0 2) 37 false,
 kG 40 (.ld false 1 39) 37 false,
 kG 41 (.len 1 40) 37 false,
 kG 42 (.bin .geq 38 41) 37 false,
 kO 43 (.pick 37 (.c (.bool true)) 42),
 kO 44 (.mv 43),
 kG 45 (.mv 7) 44 false,
 kG 46 (.ixa 4 1 5 45) 44 false,
 kG 47 (.ld false 1 46) 44 false,
 kG 48 (.bin .gtr 47 (ci 0)) 44 false,
 kG 49 (.mv 48) 44 false,
 kG 50 (.fa 0 2) 49 true,
 kG 51 (.ld false 1 50) 49 true,
 kG 52 (.mv 8) 49 true,
 kG 53 (.ixs 1 51 52) 49 true,
 kG 54 (.ld false 1 53) 49 true,
 kG 55 (.mv 7) 49 true,
 kG 56 (.ixa 4 1 5 55) 49 true,
 kG 57 (.ld false 1 56) 49 true,
 kG 58 (.bin .neq 54 57) 49 true,
 kG 59 (.pick 49 58 (.c (.bool false))) 44 false,
 kO 60 (.pick 44 (.c (.bool true)) 59)] [])
 (.cond 60
 (.seq (.region [
  kO 4 (.mv (.c (.bool false)))])
  .ret)
 .skip))
def yo4 : CCode :=
  (.seq (.seq (.region [
 kO 31 (.mv 7),
 kO 32 (.ixa 4 1 5 31),
 kO 33 (.ld false 1 32),
 kO 34 (.bin .lss 33 (ci 0))])
 (.cond 34
 (.exit 1)
 .skip))
 yq1)
def yoc : CCode :=
  (.seq (.region [
 kO 29 (.mv 27),
 kO 30 (.ixv false 4 1 26 27),
 kO 7 (.mv 29),
 kO 8 (.mv 30)])
 yo4)
def yr5 : CCode :=
  (.block 1 yoc)
def ylj : CCode :=
  (.seq yr5
 yrj)
def yph : CCode :=
  (.seq (.cond 28
 .skip
 (.exit 0))
 ylj)
def ym2 : CCode :=
  (.seq (.region [
 kO 28 (.bin .lss 27 (ci 4))])
 yph)
def ydq : CCode :=
  (.loop [2, 3, 5, 26, 27] ym2)
def yp5 : CCode :=
  (.block 0 ydq)
def you : CCode :=
  (.seq (.region [
 kO 18 (.fa 1 3),
 kO 19 (.ld false 1 18),
 kO 20 (.fa 2 3),
 kO 21 (.ld false 1 20),
 kO 22 (.fa 3 3),
 kO 23 (.ld false 1 22),
 kO 24 (.fa 4 3),
 kO 25 (.ld false 1 24),
 kO 26 (.build [(.int .i64 0), (.int .i64 0), (.int .i64 0), (.int .i64 0)] [(0, 1, 19), (1, 1, 21), (2, 1, 23), (3, 1, 25)]),
 kO 27 (.mv (ci 0))])
 yp5)
def yr3 : CCode :=
  (.seq you
 ylv)
def ypf : CCode :=
  (.seq (.seq (.region [
 kO 16 (.mv 6),
 kO 17 (.un .not 16)])
 (.cond 17
 (.seq (.region [
  kO 4 (.mv (.c (.bool false)))])
  .ret)
 .skip))
 yr3)
def yqy : CCode :=
  (.seq (.region [
 kO 12 (.ld true 9 3),
 kO 13 (.call none true 47 [12]),
 kO 11 (.mv 13),
 kO 14 (.ext 0 11),
 kO 15 (.ext 1 11),
 kO 5 (.new (some 2) [(.int .i64 0), (.int .i64 0), (.int .i64 0), (.int .i64 0)]),
 kU (.st 4 5 14),
 kO 6 (.mv 15)])
 ypf)
def yqq : CCode :=
  (.seq (.region [
 kO 2 (.box (some 0) 0),
 kO 3 (.box (some 1) 1),
 kO 4 (.mv (.c (.bool false)))])
 yqy)
def y1gy : CFunc :=
  ⟨2, true, 3, yqq, [.t 4]⟩
def y01 : CCode :=
  (.seq (.region [
 kO 1 (.box (some 0) 0),
 kO 2 (.mv (.c (.bool false)))])
 (.seq (.region [
 kO 3 (.fa 0 1),
 kO 4 (.ld false 1 3),
 kO 5 (.bin .eql 4 (ci 27)),
 kO 6 (.mv 5),
 kG 7 (.fa 0 1) 6 false,
 kG 8 (.ld false 1 7) 6 false,
 kG 9 (.bin .eql 8 (ci 28)) 6 false,
 kO 10 (.pick 6 (.c (.bool true)) 9),
 kO 11 (.mv 10),
 kG 12 (.fa 0 1) 11 false,
 kG 13 (.ld false 1 12) 11 false,
 kG 14 (.bin .eql 13 (ci 29)) 11 false,
 kO 15 (.pick 11 (.c (.bool true)) 14),
 kO 2 (.mv 15)])
 .ret))
def y1gw : CFunc :=
  ⟨1, true, 1, y01, [.t 2]⟩
def y11t : CCode :=
  (.seq (.region [
 kO 1 (.box (some 0) 0),
 kO 2 (.mv (.c (.bool false)))])
 (.seq (.region [
 kO 3 (.fa 0 1),
 kO 4 (.ld false 1 3),
 kO 5 (.bin .geq 4 (ci 23)),
 kO 6 (.mv 5),
 kG 7 (.fa 0 1) 6 true,
 kG 8 (.ld false 1 7) 6 true,
 kG 9 (.bin .leq 8 (ci 26)) 6 true,
 kO 10 (.pick 6 9 (.c (.bool false))),
 kO 2 (.mv 10)])
 .ret))
def y1fh : CFunc :=
  ⟨1, true, 1, y11t, [.t 2]⟩
def ylp : CCode :=
  (.seq (.region [
 kO 4 (.mv (ci (-1)))])
 .ret)
def yn2 : CCode :=
  (.region [
 kO 18 (.bin .add 8 (ci 1)),
 kO 8 (.mv 18)])
def ypo : CCode :=
  (.seq (.block 1 (.seq (.region [
 kO 10 (.mv 8),
 kO 5 (.mv 10)])
 (.seq (.region [
 kO 11 (.mv 1),
 kO 12 (.mv 0),
 kO 13 (.mv 5),
 kO 14 (.ixs 1 12 13),
 kO 15 (.ld false 1 14),
 kO 16 (.bin .eql 11 15)])
 (.cond 16
 (.seq (.region [
  kO 17 (.mv 5),
  kO 4 (.mv 17)])
  .ret)
 .skip))))
 yn2)
def yl5 : CCode :=
  (.seq (.cond 9
 .skip
 (.exit 0))
 ypo)
def ymn : CCode :=
  (.seq (.region [
 kO 9 (.bin .lss 8 7)])
 yl5)
def ye0 : CCode :=
  (.loop [0, 1, 7, 8] ymn)
def yqt : CCode :=
  (.block 0 ye0)
def yqw : CCode :=
  (.seq (.region [
 kO 6 (.mv 0),
 kO 7 (.len 1 6),
 kO 8 (.mv (ci 0))])
 yqt)
def yni : CCode :=
  (.seq yqw
 ylp)
def yii : CCode :=
  (.seq (.region [
 kO 4 (.mv (ci 0))])
 yni)
def y17w : CFunc :=
  ⟨2, true, 0, yii, [.t 4]⟩
def ywn : CCode :=
  (.seq (.region [
 kO 138 (.ld true 9 1),
 kO 139 (.call none true 51 [138]),
 kO 140 (.ext 0 139),
 kO 141 (.ext 1 139),
 kU (.st 4 2 140),
 kO 3 (.mv 141)])
 .ret)
def y0p : CCode :=
  (.cond 134
 (.seq (.region [
  kO 137 (.build [(.int .i64 0), (.int .i64 0), (.int .i64 0), (.int .i64 0)] [(0, 1, (ci (-1))), (1, 1, (ci (-1))), (2, 1, (ci (-1))), (3, 1, (ci (-1)))]),
  kU (.st 4 2 137),
  kO 3 (.mv (.c (.bool true)))])
  .ret)
 .skip)
def y135 : CCode :=
  (.seq (.seq (.region [
 kO 135 (.bin .eql 11 (ci 27)),
 kO 134 (.mv 135)])
 (.cond 134
 .skip
 (.region [
  kO 136 (.bin .eql 11 (ci 33)),
  kO 134 (.mv 136)])))
 y0p)
def yx9 : CCode :=
  (.cond 123
 (.seq (.draw [
  kO 125 (.build [(.int .i64 0), (.int .i64 0), (.int .i64 0), (.int .i64 0)] [(0, 1, (ci (-1))), (1, 1, (ci 1)), (2, 1, (ci 1)), (3, 1, (ci (-1)))]),
  kO 126 (.fa 5 1),
  kO 127 (.ld false 1 126),
  kO 128 (.bin .geq 127 (ci 0)),
  kO 129 (.mv 128),
  kG 130 (.fa 5 1) 129 true,
  kG 131 (.ld false 1 130) 129 true,
  kG 132 (.bin .leq 131 (ci 5)) 129 true,
  kO 133 (.pick 129 132 (.c (.bool false))),
  kU (.st 4 2 125),
  kO 3 (.mv 133)] [(6, 9)])
  .ret)
 y135)
def ywu : CCode :=
  (.seq (.region [
 kO 124 (.bin .eql 11 (ci 28)),
 kO 123 (.mv 124)])
 yx9)
def yzt : CCode :=
  (.cond 117
 (.seq (.region [
  kO 119 (.build [(.int .i64 0), (.int .i64 0), (.int .i64 0), (.int .i64 0)] [(0, 1, (ci 3)), (1, 1, (ci 1)), (2, 1, (ci (-1))), (3, 1, (ci (-1)))]),
  kO 120 (.fa 7 1),
  kO 121 (.ld false 1 120),
  kO 122 (.call none true 37 [121]),
  kU (.st 4 2 119),
  kO 3 (.mv 122)])
  .ret)
 ywu)
def yzv : CCode :=
  (.seq (.region [
 kO 118 (.bin .eql 11 (ci 21)),
 kO 117 (.mv 118)])
 yzt)
def yw3 : CCode :=
  (.cond 114
 (.seq (.region [
  kO 116 (.build [(.int .i64 0), (.int .i64 0), (.int .i64 0), (.int .i64 0)] [(0, 1, (ci (-1))), (1, 1, (ci 0)), (2, 1, (ci (-1))), (3, 1, (ci (-1)))]),
  kU (.st 4 2 116),
  kO 3 (.mv (.c (.bool true)))])
  .ret)
 yzv)
def yv2 : CCode :=
  (.seq (.region [
 kO 115 (.bin .eql 11 (ci 19)),
 kO 114 (.mv 115)])
 yw3)
def yqb : CCode :=
  (.cond 108
 (.seq (.draw [
  kO 110 (.build [(.int .i64 0), (.int .i64 0), (.int .i64 0), (.int .i64 0)] [(0, 1, (ci (-1))), (1, 1, (ci 3)), (2, 1, (ci 0)), (3, 1, (ci (-1)))]),
  kO 111 (.fa 5 1),
  kO 112 (.ld false 1 111),
  kO 113 (.bin .geq 112 (ci 0)),
  kU (.st 4 2 110),
  kO 3 (.mv 113)] [(2, 4)])
  .ret)
 yv2)
def ynr : CCode :=
  (.seq (.region [
 kO 109 (.bin .eql 11 (ci 17)),
 kO 108 (.mv 109)])
 yqb)
def yqd : CCode :=
  (.cond 102
 (.seq (.draw [
  kO 104 (.build [(.int .i64 0), (.int .i64 0), (.int .i64 0), (.int .i64 0)] [(0, 1, (ci 0)), (1, 1, (ci 3)), (2, 1, (ci (-1))), (3, 1, (ci (-1)))]),
  kO 105 (.fa 5 1),
  kO 106 (.ld false 1 105),
  kO 107 (.bin .geq 106 (ci 0)),
  kU (.st 4 2 104),
  kO 3 (.mv 107)] [(2, 4)])
  .ret)
 ynr)
def yqf : CCode :=
  (.seq (.region [
 kO 103 (.bin .eql 11 (ci 16)),
 kO 102 (.mv 103)])
 yqd)
def yp2 : CCode :=
  (.cond 99
 (.seq (.region [
  kO 101 (.build [(.int .i64 0), (.int .i64 0), (.int .i64 0), (.int .i64 0)] [(0, 1, (ci 1)), (1, 1, (ci 3)), (2, 1, (ci (-1))), (3, 1, (ci (-1)))]),
  kU (.st 4 2 101),
  kO 3 (.mv (.c (.bool true)))])
  .ret)
 yqf)
def ynb : CCode :=
  (.seq (.region [
 kO 100 (.bin .eql 11 (ci 15)),
 kO 99 (.mv 100)])
 yp2)
def ypg : CCode :=
  (.cond 96
 (.seq (.region [
  kO 98 (.build [(.int .i64 0), (.int .i64 0), (.int .i64 0), (.int .i64 0)] [(0, 1, (ci (-1))), (1, 1, (ci 3)), (2, 1, (ci 1)), (3, 1, (ci 0))]),
  kU (.st 4 2 98),
  kO 3 (.mv (.c (.bool true)))])
  .ret)
 ynb)
def ymb : CCode :=
  (.seq (.region [
 kO 97 (.bin .eql 11 (ci 14)),
 kO 96 (.mv 97)])
 ypg)
def yo2 : CCode :=
  (.cond 93
 (.seq (.region [
  kO 95 (.build [(.int .i64 0), (.int .i64 0), (.int .i64 0), (.int .i64 0)] [(0, 1, (ci 0)), (1, 1, (ci 3)), (2, 1, (ci 1)), (3, 1, (ci (-1)))]),
  kU (.st 4 2 95),
  kO 3 (.mv (.c (.bool true)))])
  .ret)
 ymb)
def yqi : CCode :=
  (.seq (.region [
 kO 94 (.bin .eql 11 (ci 13)),
 kO 93 (.mv 94)])
 yo2)
def yl7 : CCode :=
  (.cond 90
 (.seq (.region [
  kO 92 (.build [(.int .i64 0), (.int .i64 0), (.int .i64 0), (.int .i64 0)] [(0, 1, (ci (-1))), (1, 1, (ci 3)), (2, 1, (ci 3)), (3, 1, (ci (-1)))]),
  kU (.st 4 2 92),
  kO 3 (.mv (.c (.bool true)))])
  .ret)
 yqi)
def yr0 : CCode :=
  (.seq (.region [
 kO 91 (.bin .eql 11 (ci 11)),
 kO 90 (.mv 91)])
 yl7)
def yow : CCode :=
  (.cond 87
 (.seq (.region [
  kO 89 (.build [(.int .i64 0), (.int .i64 0), (.int .i64 0), (.int .i64 0)] [(0, 1, (ci (-1))), (1, 1, (ci 1)), (2, 1, (ci (-1))), (3, 1, (ci (-1)))]),
  kU (.st 4 2 89),
  kO 3 (.mv (.c (.bool true)))])
  .ret)
 yr0)
def yo7 : CCode :=
  (.seq (.region [
 kO 88 (.bin .eql 11 (ci 10)),
 kO 87 (.mv 88)])
 yow)
def ymz : CCode :=
  (.cond 84
 (.seq (.region [
  kO 86 (.build [(.int .i64 0), (.int .i64 0), (.int .i64 0), (.int .i64 0)] [(0, 1, (ci (-1))), (1, 1, (ci 3)), (2, 1, (ci 1)), (3, 1, (ci (-1)))]),
  kU (.st 4 2 86),
  kO 3 (.mv (.c (.bool true)))])
  .ret)
 yo7)
def ypt : CCode :=
  (.seq (.region [
 kO 85 (.bin .eql 11 (ci 9)),
 kO 84 (.mv 85)])
 ymz)
def ynj : CCode :=
  (.cond 78
 (.seq (.region [
  kO 80 (.build [(.int .i64 0), (.int .i64 0), (.int .i64 0), (.int .i64 0)] [(0, 1, (ci 1)), (1, 1, (ci 3)), (2, 1, (ci (-1))), (3, 1, (ci (-1)))]),
  kO 81 (.fa 7 1),
  kO 82 (.ld false 1 81),
  kO 83 (.call none true 37 [82]),
  kU (.st 4 2 80),
  kO 3 (.mv 83)])
  .ret)
 ypt)
def ype : CCode :=
  (.seq (.region [
 kO 79 (.bin .eql 11 (ci 22)),
 kO 78 (.mv 79)])
 ynj)
def ym0 : CCode :=
  (.cond 72
 (.seq (.region [
  kO 74 (.build [(.int .i64 0), (.int .i64 0), (.int .i64 0), (.int .i64 0)] [(0, 1, (ci (-1))), (1, 1, (ci 3)), (2, 1, (ci (-1))), (3, 1, (ci (-1)))]),
  kO 75 (.fa 7 1),
  kO 76 (.ld false 1 75),
  kO 77 (.call none true 37 [76]),
  kU (.st 4 2 74),
  kO 3 (.mv 77)])
  .ret)
 ype)
def yp7 : CCode :=
  (.seq (.region [
 kO 73 (.bin .eql 11 (ci 12)),
 kO 72 (.mv 73)])
 ym0)
def ymo : CCode :=
  (.cond 68
 (.seq (.region [
  kO 71 (.build [(.int .i64 0), (.int .i64 0), (.int .i64 0), (.int .i64 0)] [(0, 1, (ci (-1))), (1, 1, (ci 3)), (2, 1, (ci (-1))), (3, 1, (ci (-1)))]),
  kU (.st 4 2 71),
  kO 3 (.mv (.c (.bool true)))])
  .ret)
 yp7)
def ynw : CCode :=
  (.seq (.seq (.region [
 kO 69 (.bin .eql 11 (ci 8)),
 kO 68 (.mv 69)])
 (.cond 68
 .skip
 (.region [
  kO 70 (.bin .eql 11 (ci 31)),
  kO 68 (.mv 70)])))
 ymo)
def yo8 : CCode :=
  (.cond 65
 (.seq (.region [
  kO 67 (.build [(.int .i64 0), (.int .i64 0), (.int .i64 0), (.int .i64 0)] [(0, 1, (ci (-1))), (1, 1, (ci 0)), (2, 1, (ci (-1))), (3, 1, (ci (-1)))]),
  kU (.st 4 2 67),
  kO 3 (.mv (.c (.bool true)))])
  .ret)
 ynw)
def ymr : CCode :=
  (.seq (.region [
 kO 66 (.bin .eql 11 (ci 7)),
 kO 65 (.mv 66)])
 yo8)
def yq3 : CCode :=
  (.cond 47
 (.seq (.region [
  kO 50 (.fa 5 1),
  kO 51 (.ld false 1 50),
  kO 52 (.call none true 50 [51]),
  kO 49 (.mv 52),
  kO 53 (.ext 0 49),
  kO 54 (.ext 1 49),
  kO 55 (.ext 2 49),
  kO 7 (.mv 53),
  kO 8 (.mv 54),
  kO 9 (.mv 55)])
  (.seq (.region [
  kO 56 (.mv 9),
  kO 57 (.mv 7),
  kO 58 (.build [(.int .i64 0), (.int .i64 0), (.int .i64 0), (.int .i64 0)] [(0, 1, 56), (1, 1, 57), (2, 1, (ci (-1))), (3, 1, (ci (-1)))]),
  kO 59 (.mv 7),
  kO 60 (.bin .neq 59 (ci 0)),
  kO 61 (.mv 60),
  kG 62 (.mv 8) 61 true,
  kG 63 (.bin .eql 62 (ci 0)) 61 true,
  kO 64 (.pick 61 63 (.c (.bool false))),
  kU (.st 4 2 58),
  kO 3 (.mv 64)])
  .ret))
 ymr)
def yog : CCode :=
  (.seq (.region [
 kO 48 (.bin .eql 11 (ci 6)),
 kO 47 (.mv 48)])
 yq3)
def yop : CCode :=
  (.cond 25
 (.seq (.region [
  kO 28 (.fa 5 1),
  kO 29 (.ld false 1 28),
  kO 30 (.call none true 50 [29]),
  kO 27 (.mv 30),
  kO 31 (.ext 0 27),
  kO 32 (.ext 1 27),
  kO 33 (.ext 2 27),
  kO 4 (.mv 31),
  kO 5 (.mv 32),
  kO 6 (.mv 33)])
  (.seq (.region [
  kO 34 (.mv 6),
  kO 35 (.mv 4),
  kO 36 (.mv 5),
  kO 37 (.build [(.int .i64 0), (.int .i64 0), (.int .i64 0), (.int .i64 0)] [(0, 1, 34), (1, 1, 35), (2, 1, 36), (3, 1, (ci (-1)))]),
  kO 38 (.fa 5 1),
  kO 39 (.ld false 1 38),
  kO 40 (.fa 5 1),
  kO 41 (.ld false 1 40),
  kO 42 (.bin .eql 39 41),
  kO 43 (.mv 42),
  kG 44 (.mv 5) 43 true,
  kG 45 (.bin .neq 44 (ci 0)) 43 true,
  kO 46 (.pick 43 45 (.c (.bool false))),
  kU (.st 4 2 37),
  kO 3 (.mv 46)])
  .ret))
 yog)
def ynp : CCode :=
  (.seq (.region [
 kO 26 (.bin .eql 11 (ci 5)),
 kO 25 (.mv 26)])
 yop)
def yn9 : CCode :=
  (.cond 22
 (.seq (.region [
  kO 24 (.build [(.int .i64 0), (.int .i64 0), (.int .i64 0), (.int .i64 0)] [(0, 1, (ci 0)), (1, 1, (ci 0)), (2, 1, (ci (-1))), (3, 1, (ci (-1)))]),
  kU (.st 4 2 24),
  kO 3 (.mv (.c (.bool true)))])
  .ret)
 ynp)
def ypw : CCode :=
  (.seq (.region [
 kO 23 (.bin .eql 11 (ci 4)),
 kO 22 (.mv 23)])
 yn9)
def yms : CCode :=
  (.cond 16
 (.seq (.region [
  kO 21 (.build [(.int .i64 0), (.int .i64 0), (.int .i64 0), (.int .i64 0)] [(0, 1, (ci 3)), (1, 1, (ci (-1))), (2, 1, (ci (-1))), (3, 1, (ci (-1)))]),
  kU (.st 4 2 21),
  kO 3 (.mv (.c (.bool true)))])
  .ret)
 ypw)
def ypn : CCode :=
  (.seq (.seq (.region [
 kO 17 (.bin .eql 11 (ci 2)),
 kO 16 (.mv 17)])
 (.cond 16
 .skip
 (.seq (.region [
  kO 18 (.bin .eql 11 (ci 3)),
  kO 16 (.mv 18)])
  (.cond 16
  .skip
  (.seq (.region [
   kO 19 (.bin .eql 11 (ci 20)),
   kO 16 (.mv 19)])
   (.cond 16
   .skip
   (.region [
    kO 20 (.bin .eql 11 (ci 32)),
    kO 16 (.mv 20)])))))))
 yms)
def yps : CCode :=
  (.cond 12
 (.seq (.region [
  kO 15 (.build [(.int .i64 0), (.int .i64 0), (.int .i64 0), (.int .i64 0)] [(0, 1, (ci 0)), (1, 1, (ci (-1))), (2, 1, (ci (-1))), (3, 1, (ci (-1)))]),
  kU (.st 4 2 15),
  kO 3 (.mv (.c (.bool true)))])
  .ret)
 ypn)
def yox : CCode :=
  (.seq (.seq (.region [
 kO 13 (.bin .eql 11 (ci 1)),
 kO 12 (.mv 13)])
 (.cond 12
 .skip
 (.region [
  kO 14 (.bin .eql 11 (ci 18)),
  kO 12 (.mv 14)])))
 yps)
def ynn : CCode :=
  (.block 0 yox)
def yn4 : CCode :=
  (.seq (.region [
 kO 10 (.fa 0 1),
 kO 11 (.ld false 1 10)])
 ynn)
def yoq : CCode :=
  (.seq yn4
 ywn)
def yrc : CCode :=
  (.seq (.region [
 kO 1 (.box (some 0) 0),
 kO 2 (.new (some 1) [(.int .i64 0), (.int .i64 0), (.int .i64 0), (.int .i64 0)]),
 kO 3 (.mv (.c (.bool false)))])
 yoq)
def y1g4 : CFunc :=
  ⟨1, true, 2, yrc, [.cell 2 true 4, .t 3]⟩
def y12n : CCode :=
  (.seq (.region [
 kO 2 (.mv (ci 0)),
 kO 3 (.mv (ci 0)),
 kO 4 (.mv (ci 0))])
 .ret)
def yyf : CCode :=
  (.cond 33
 (.seq (.region [
  kO 2 (.mv (ci 1)),
  kO 3 (.mv (ci 0)),
  kO 4 (.mv (ci 1))])
  .ret)
 (.seq (.region [
  kO 39 (.bin .eql 5 (ci 117)),
  kO 38 (.mv 39)])
  (.cond 38
  (.seq (.region [
   kO 2 (.mv (ci 2)),
   kO 3 (.mv (ci 0)),
   kO 4 (.mv (ci 2))])
   .ret)
  (.seq (.region [
   kO 41 (.bin .eql 5 (ci 133)),
   kO 40 (.mv 41)])
   (.cond 40
   (.seq (.region [
    kO 2 (.mv (ci 1)),
    kO 3 (.mv (ci 0)),
    kO 4 (.mv (ci 2))])
    .ret)
   (.seq (.region [
    kO 43 (.bin .eql 5 (ci 136)),
    kO 42 (.mv 43)])
    (.cond 42
    (.seq (.region [
     kO 2 (.mv (ci 2)),
     kO 3 (.mv (ci 0)),
     kO 4 (.mv (ci 1))])
     .ret)
    .skip)))))))
def yup : CCode :=
  (.seq (.seq (.region [
 kO 34 (.bin .eql 5 (ci 116)),
 kO 33 (.mv 34)])
 (.cond 33
 .skip
 (.seq (.region [
  kO 35 (.bin .eql 5 (ci 145)),
  kO 33 (.mv 35)])
  (.cond 33
  .skip
  (.seq (.region [
   kO 36 (.bin .eql 5 (ci 146)),
   kO 33 (.mv 36)])
   (.cond 33
   .skip
   (.region [
    kO 37 (.bin .eql 5 (ci 147)),
    kO 33 (.mv 37)])))))))
 yyf)
def yug : CCode :=
  (.cond 31
 (.seq (.region [
  kO 2 (.mv (ci 2)),
  kO 3 (.mv (ci 2)),
  kO 4 (.mv (ci 1))])
  .ret)
 yup)
def y11n : CCode :=
  (.seq (.region [
 kO 32 (.bin .eql 5 (ci 148)),
 kO 31 (.mv 32)])
 yug)
def yz2 : CCode :=
  (.cond 27
 (.seq (.region [
  kO 2 (.mv (ci 2)),
  kO 3 (.mv (ci 1)),
  kO 4 (.mv (ci 2))])
  .ret)
 y11n)
def yz7 : CCode :=
  (.seq (.seq (.region [
 kO 28 (.bin .eql 5 (ci 121)),
 kO 27 (.mv 28)])
 (.cond 27
 .skip
 (.seq (.region [
  kO 29 (.bin .eql 5 (ci 123)),
  kO 27 (.mv 29)])
  (.cond 27
  .skip
  (.region [
   kO 30 (.bin .eql 5 (ci 125)),
   kO 27 (.mv 30)])))))
 yz2)
def yzr : CCode :=
  (.cond 18
 (.seq (.region [
  kO 2 (.mv (ci 2)),
  kO 3 (.mv (ci 2)),
  kO 4 (.mv (ci 2))])
  .ret)
 yz7)
def yye : CCode :=
  (.seq (.seq (.region [
 kO 19 (.bin .eql 5 (ci 97)),
 kO 18 (.mv 19)])
 (.cond 18
 .skip
 (.seq (.region [
  kO 20 (.bin .eql 5 (ci 101)),
  kO 18 (.mv 20)])
  (.cond 18
  .skip
  (.seq (.region [
   kO 21 (.bin .eql 5 (ci 105)),
   kO 18 (.mv 21)])
   (.cond 18
   .skip
   (.seq (.region [
    kO 22 (.bin .eql 5 (ci 109)),
    kO 18 (.mv 22)])
    (.cond 18
    .skip
    (.seq (.region [
     kO 23 (.bin .eql 5 (ci 113)),
     kO 18 (.mv 23)])
     (.cond 18
     .skip
     (.seq (.region [
      kO 24 (.bin .eql 5 (ci 127)),
      kO 18 (.mv 24)])
      (.cond 18
      .skip
      (.seq (.region [
       kO 25 (.bin .eql 5 (ci 129)),
       kO 18 (.mv 25)])
       (.cond 18
       .skip
       (.region [
        kO 26 (.bin .eql 5 (ci 131)),
        kO 18 (.mv 26)])))))))))))))))
 yzr)
def yrs : CCode :=
  (.cond 6
 (.seq (.region [
  kO 2 (.mv (ci 1)),
  kO 3 (.mv (ci 1)),
  kO 4 (.mv (ci 1))])
  .ret)
 yye)
def ym6 : CCode :=
  (.seq (.seq (.region [
 kO 7 (.bin .eql 5 (ci 96)),
 kO 6 (.mv 7)])
 (.cond 6
 .skip
 (.seq (.region [
  kO 8 (.bin .eql 5 (ci 100)),
  kO 6 (.mv 8)])
  (.cond 6
  .skip
  (.seq (.region [
   kO 9 (.bin .eql 5 (ci 104)),
   kO 6 (.mv 9)])
   (.cond 6
   .skip
   (.seq (.region [
    kO 10 (.bin .eql 5 (ci 108)),
    kO 6 (.mv 10)])
    (.cond 6
    .skip
    (.seq (.region [
     kO 11 (.bin .eql 5 (ci 112)),
     kO 6 (.mv 11)])
     (.cond 6
     .skip
     (.seq (.region [
      kO 12 (.bin .eql 5 (ci 120)),
      kO 6 (.mv 12)])
      (.cond 6
      .skip
      (.seq (.region [
       kO 13 (.bin .eql 5 (ci 122)),
       kO 6 (.mv 13)])
       (.cond 6
       .skip
       (.seq (.region [
        kO 14 (.bin .eql 5 (ci 124)),
        kO 6 (.mv 14)])
        (.cond 6
        .skip
        (.seq (.region [
         kO 15 (.bin .eql 5 (ci 126)),
         kO 6 (.mv 15)])
         (.cond 6
         .skip
         (.seq (.region [
          kO 16 (.bin .eql 5 (ci 128)),
          kO 6 (.mv 16)])
          (.cond 6
          .skip
          (.region [
           kO 17 (.bin .eql 5 (ci 130)),
           kO 6 (.mv 17)])))))))))))))))))))))
 yrs)
def ym8 : CCode :=
  (.block 0 ym6)
def ymd : CCode :=
  (.seq (.region [
 kO 5 (.mv 0)])
 ym8)
def yme : CCode :=
  (.seq ymd
 y12n)
def yr8 : CCode :=
  (.seq (.region [
 kO 2 (.mv (ci 0)),
 kO 3 (.mv (ci 0)),
 kO 4 (.mv (ci 0))])
 yme)
def y1h4 : CFunc :=
  ⟨1, true, 0, yr8, [.t 2, .t 3, .t 4]⟩
def y17x : CCode :=
  (.seq (.region [
 kO 2 (.mv (.c (.bool false)))])
 (.seq (.region [
 kO 3 (.mv 0),
 kO 4 (.bin .neq 3 (.c (.str []))),
 kO 5 (.mv 4),
 kG 6 (.mv 0) 5 true,
 kG 7 (.call none true 44 [6]) 5 true,
 kG 8 (.mv 0) 5 true,
 kG 9 (.len 0 8) 5 true,
 kG 10 (.bin .eql 7 9) 5 true,
 kO 11 (.pick 5 10 (.c (.bool false))),
 kO 2 (.mv 11)])
 .ret))
def c_q8 : CFunc :=
  ⟨1, true, 0, y17x, [.t 2]⟩
def y11y : CCode :=
  (.seq (.region [
 kO 73 (.build [(.int .i64 0), (.int .i64 0), (.int .i64 0), (.int .i64 0)] []),
 kU (.st 4 2 73),
 kO 3 (.mv (.c (.bool false)))])
 .ret)
def y11q : CCode :=
  (.seq (.draw [
 kO 15 (.mv 4),
 kO 16 (.build [(.int .i64 0), (.int .i64 0), (.int .i64 0), (.int .i64 0)] [(0, 1, (ci (-1))), (1, 1, (ci 3)), (2, 1, 15), (3, 1, (ci (-1)))]),
 kO 17 (.fa 5 1),
 kO 18 (.ld false 1 17),
 kO 19 (.bin .eql 18 (ci 0)),
 kO 20 (.mv 19),
 kG 21 (.fa 5 1) 20 false,
 kG 22 (.ld false 1 21) 20 false,
 kG 23 (.bin .eql 22 (ci 1)) 20 false,
 kO 24 (.pick 20 (.c (.bool true)) 23),
 kU (.st 4 2 16),
 kO 3 (.mv 24)] [(7, 10)])
 .ret)
def yua : CCode :=
  (.seq (.seq (.region [
 kO 12 (.fa 3 1),
 kO 13 (.ld false 1 12),
 kO 14 (.bin .neq 13 (ci (-1)))])
 (.cond 14
 (.region [
  kO 4 (.mv (ci 3))])
 .skip))
 y11q)
def y12q : CCode :=
  (.seq (.region [
 kO 4 (.mv (ci (-1)))])
 yua)
def y130 : CCode :=
  (.seq (.region [
 kO 30 (.mv 5),
 kO 31 (.build [(.int .i64 0), (.int .i64 0), (.int .i64 0), (.int .i64 0)] [(0, 1, (ci (-1))), (1, 1, 30), (2, 1, (ci (-1))), (3, 1, (ci (-1)))]),
 kU (.st 4 2 31),
 kO 3 (.mv (.c (.bool true)))])
 .ret)
def yu4 : CCode :=
  (.seq (.seq (.region [
 kO 27 (.fa 2 1),
 kO 28 (.ld false 1 27),
 kO 29 (.bin .neq 28 (ci (-1)))])
 (.cond 29
 (.region [
  kO 5 (.mv (ci 0))])
 .skip))
 y130)
def yyw : CCode :=
  (.seq (.region [
 kO 5 (.mv (ci (-1)))])
 yu4)
def y12f : CCode :=
  (.seq (.region [
 kO 40 (.fa 0 1),
 kO 41 (.ld false 1 40),
 kO 42 (.bin .eql 41 (ci 23)),
 kO 43 (.mv 42),
 kG 44 (.fa 0 1) 43 false,
 kG 45 (.ld false 1 44) 43 false,
 kG 46 (.bin .eql 45 (ci 26)) 43 false,
 kO 47 (.pick 43 (.c (.bool true)) 46),
 kO 48 (.mv 47),
 kG 49 (.fa 8 1) 48 false,
 kG 50 (.ld false 1 49) 48 false,
 kG 51 (.len 1 50) 48 false,
 kG 52 (.bin .gtr 51 (ci 0)) 48 false,
 kO 53 (.pick 48 (.c (.bool true)) 52),
 kO 7 (.mv 53)])
 (.seq (.draw [
 kO 54 (.mv 6),
 kO 55 (.build [(.int .i64 0), (.int .i64 0), (.int .i64 0), (.int .i64 0)] [(0, 1, 54), (1, 1, (ci (-1))), (2, 1, (ci (-1))), (3, 1, (ci (-1)))]),
 kO 56 (.mv 7),
 kO 57 (.mv 56),
 kG 58 (.fa 5 1) 57 true,
 kG 59 (.ld false 1 58) 57 true,
 kG 60 (.bin .geq 59 (ci 0)) 57 true,
 kG 61 (.mv 60) 57 true,
 kG 62 (.fa 0 1) 61 false,
 kG 63 (.ld false 1 62) 61 false,
 kG 64 (.bin .eql 63 (ci 25)) 61 false,
 kG 65 (.pick 61 (.c (.bool true)) 64) 57 true,
 kO 66 (.pick 57 65 (.c (.bool false))),
 kO 67 (.mv 66),
 kG 68 (.fa 8 1) 67 true,
 kG 69 (.ld false 1 68) 67 true,
 kG 70 (.len 1 69) 67 true,
 kG 71 (.bin .leq 70 (ci 21)) 67 true,
 kO 72 (.pick 67 71 (.c (.bool false))),
 kU (.st 4 2 55),
 kO 3 (.mv 72)] [(15, 19), (16, 19)])
 .ret))
def yzm : CCode :=
  (.seq (.seq (.region [
 kO 37 (.fa 1 1),
 kO 38 (.ld false 1 37),
 kO 39 (.bin .neq 38 (ci (-1)))])
 (.cond 39
 (.region [
  kO 6 (.mv (ci 0))])
 .skip))
 y12f)
def ylf : CCode :=
  (.seq (.region [
 kO 6 (.mv (ci (-1)))])
 yzm)
def yov : CCode :=
  (.cond 32
 ylf
 .skip)
def ynd : CCode :=
  (.seq (.seq (.region [
 kO 33 (.bin .eql 9 (ci 23)),
 kO 32 (.mv 33)])
 (.cond 32
 .skip
 (.seq (.region [
  kO 34 (.bin .eql 9 (ci 24)),
  kO 32 (.mv 34)])
  (.cond 32
  .skip
  (.seq (.region [
   kO 35 (.bin .eql 9 (ci 25)),
   kO 32 (.mv 35)])
   (.cond 32
   .skip
   (.region [
    kO 36 (.bin .eql 9 (ci 26)),
    kO 32 (.mv 36)])))))))
 yov)
def yp4 : CCode :=
  (.cond 25
 yyw
 ynd)
def yq2 : CCode :=
  (.seq (.region [
 kO 26 (.bin .eql 9 (ci 30)),
 kO 25 (.mv 26)])
 yp4)
def ymk : CCode :=
  (.cond 10
 y12q
 yq2)
def yna : CCode :=
  (.seq (.region [
 kO 11 (.bin .eql 9 (ci 29)),
 kO 10 (.mv 11)])
 ymk)
def yrg : CCode :=
  (.block 0 yna)
def ymf : CCode :=
  (.seq (.region [
 kO 8 (.fa 0 1),
 kO 9 (.ld false 1 8)])
 yrg)
def yqp : CCode :=
  (.seq ymf
 y11y)
def ymp : CCode :=
  (.seq (.region [
 kO 1 (.box (some 0) 0),
 kO 2 (.new (some 1) [(.int .i64 0), (.int .i64 0), (.int .i64 0), (.int .i64 0)]),
 kO 3 (.mv (.c (.bool false)))])
 yqp)
def y1h8 : CFunc :=
  ⟨1, true, 2, ymp, [.cell 2 true 4, .t 3]⟩
def y17p : CCode :=
  (.seq (.region [
 kO 2 (.mv (ci 0))])
 .ret)
def y18c : CCode :=
  (.region [
 kO 41 (.mv 4),
 kO 42 (.bin .add 41 (ci 1)),
 kO 4 (.mv 42)])
def y17f : CCode :=
  (.seq (.region [
 kO 2 (.mv (ci 0))])
 .ret)
def y17q : CCode :=
  (.seq (.seq (.region [
 kO 47 (.mv 0),
 kO 48 (.mv 3),
 kO 49 (.bin .add 48 (ci 1)),
 kO 50 (.mv 4),
 kO 51 (.sls 47 (some 49) (some 50)),
 kO 52 (.call none true 60 [51, (.c (.bool false))])])
 (.cond 52
 (.seq (.region [
  kO 53 (.mv 4),
  kO 54 (.bin .add 53 (ci 1)),
  kO 2 (.mv 54)])
  .ret)
 .skip))
 y17f)
def y182 : CCode :=
  (.cond 46
 y17q
 .skip)
def y180 : CCode :=
  (.seq (.region [
 kO 43 (.mv 0),
 kO 44 (.mv 4),
 kO 45 (.ixstr 43 44),
 kO 46 (.bin .eql 45 (.c (.int .u8 59)))])
 y182)
def y17r : CCode :=
  (.block 4 y180)
def y17y : CCode :=
  (.seq y17r
 y18c)
def y0z : CCode :=
  (.seq (.seq (.region [
 kO 37 (.mv 4),
 kO 38 (.mv 0),
 kO 39 (.len 0 38),
 kO 40 (.bin .lss 37 39)])
 (.cond 40
 .skip
 (.exit 3)))
 y17y)
def yks : CCode :=
  (.loop [0, 3, 4] y0z)
def yvr : CCode :=
  (.block 3 yks)
def y13e : CCode :=
  (.seq (.region [
 kO 35 (.mv 3),
 kO 36 (.bin .add 35 (ci 1)),
 kO 4 (.mv 36)])
 yvr)
def y0w : CCode :=
  (.cond 33
 y13e
 .skip)
def yyl : CCode :=
  (.seq (.region [
 kO 34 (.bin .eql 27 (.c (.int .u8 76))),
 kO 33 (.mv 34)])
 y0w)
def yti : CCode :=
  (.cond 28
 (.seq (.region [
  kO 31 (.mv 3),
  kO 32 (.bin .add 31 (ci 1)),
  kO 2 (.mv 32)])
  .ret)
 yyl)
def yun : CCode :=
  (.seq (.seq (.region [
 kO 29 (.bin .eql 27 (.c (.int .u8 73))),
 kO 28 (.mv 29)])
 (.cond 28
 .skip
 (.region [
  kO 30 (.bin .eql 27 (.c (.int .u8 74))),
  kO 28 (.mv 30)])))
 yti)
def y11z : CCode :=
  (.block 2 yun)
def yvf : CCode :=
  (.seq (.region [
 kO 25 (.mv 0),
 kO 26 (.mv 3),
 kO 27 (.ixstr 25 26)])
 y11z)
def yw7 : CCode :=
  (.seq yvf
 y17p)
def yw8 : CCode :=
  (.seq (.seq (.region [
 kO 17 (.mv 3),
 kO 18 (.bin .gtr 17 (ci 8)),
 kO 19 (.mv 18),
 kG 20 (.mv 3) 19 false,
 kG 21 (.mv 0) 19 false,
 kG 22 (.len 0 21) 19 false,
 kG 23 (.bin .eql 20 22) 19 false,
 kO 24 (.pick 19 (.c (.bool true)) 23)])
 (.cond 24
 (.seq (.region [
  kO 2 (.mv (ci 0))])
  .ret)
 .skip))
 yw7)
def yxs : CCode :=
  (.block 1 (.region [
 kO 15 (.mv 3),
 kO 16 (.bin .add 15 (ci 1)),
 kO 3 (.mv 16)]))
def yw4 : CCode :=
  (.seq (.seq (.region [
 kO 5 (.mv 3),
 kO 6 (.mv 0),
 kO 7 (.len 0 6),
 kO 8 (.bin .lss 5 7),
 kO 9 (.mv 8),
 kG 10 (.mv 0) 9 true,
 kG 11 (.mv 3) 9 true,
 kG 12 (.ixstr 10 11) 9 true,
 kG 13 (.bin .eql 12 (.c (.int .u8 91))) 9 true,
 kO 14 (.pick 9 13 (.c (.bool false)))])
 (.cond 14
 .skip
 (.exit 0)))
 yxs)
def yh0 : CCode :=
  (.loop [0, 3] yw4)
def yvd : CCode :=
  (.block 0 yh0)
def yxl : CCode :=
  (.seq yvd
 yw8)
def yxv : CCode :=
  (.seq (.region [
 kO 3 (.mv (ci 0))])
 yxl)
def y0k : CCode :=
  (.seq (.region [
 kO 2 (.mv (ci 0))])
 yxv)
def c_q9 : CFunc :=
  ⟨1, true, 0, y0k, [.t 2]⟩
def y18f : CCode :=
  (.seq (.region [
 kO 4 (.mv (.c (.bool true)))])
 .ret)
def y17e : CCode :=
  (.region [
 kO 71 (.bin .add 19 (ci 1)),
 kO 19 (.mv 71)])
def y17k : CCode :=
  (.seq (.block 1 (.seq (.region [
 kO 21 (.ixs 1 17 19),
 kO 22 (.ld false 1 21),
 kO 6 (.mv 22)])
 (.seq (.region [
 kO 23 (.mv 6),
 kO 24 (.bin .geq 23 (.c (.int .u8 97))),
 kO 25 (.mv 24),
 kG 26 (.mv 6) 25 true,
 kG 27 (.bin .leq 26 (.c (.int .u8 122))) 25 true,
 kO 28 (.pick 25 27 (.c (.bool false))),
 kO 29 (.mv 28),
 kG 30 (.mv 6) 29 false,
 kG 31 (.bin .geq 30 (.c (.int .u8 65))) 29 false,
 kG 32 (.mv 31) 29 false,
 kG 33 (.mv 6) 32 true,
 kG 34 (.bin .leq 33 (.c (.int .u8 90))) 32 true,
 kG 35 (.pick 32 34 (.c (.bool false))) 29 false,
 kO 36 (.pick 29 (.c (.bool true)) 35),
 kO 37 (.mv 36),
 kG 38 (.mv 6) 37 false,
 kG 39 (.bin .geq 38 (.c (.int .u8 48))) 37 false,
 kG 40 (.mv 39) 37 false,
 kG 41 (.mv 6) 40 true,
 kG 42 (.bin .leq 41 (.c (.int .u8 57))) 40 true,
 kG 43 (.pick 40 42 (.c (.bool false))) 37 false,
 kO 44 (.pick 37 (.c (.bool true)) 43),
 kO 45 (.mv 44),
 kG 46 (.mv 6) 45 false,
 kG 47 (.bin .eql 46 (.c (.int .u8 95))) 45 false,
 kO 48 (.pick 45 (.c (.bool true)) 47),
 kO 49 (.mv 48),
 kG 50 (.mv 6) 49 false,
 kG 51 (.bin .eql 50 (.c (.int .u8 36))) 49 false,
 kO 52 (.pick 49 (.c (.bool true)) 51),
 kO 53 (.mv 52),
 kG 54 (.mv 6) 53 false,
 kG 55 (.bin .eql 54 (.c (.int .u8 47))) 53 false,
 kO 56 (.pick 53 (.c (.bool true)) 55),
 kO 7 (.mv 56)])
 (.seq (.region [
 kO 57 (.mv 7),
 kO 58 (.un .not 57),
 kO 59 (.mv 58),
 kG 60 (.mv 1) 59 true,
 kG 61 (.mv 60) 59 true,
 kG 62 (.mv 6) 61 true,
 kG 63 (.bin .eql 62 (.c (.int .u8 60))) 61 true,
 kG 64 (.mv 63) 61 true,
 kG 65 (.mv 6) 64 false,
 kG 66 (.bin .eql 65 (.c (.int .u8 62))) 64 false,
 kG 67 (.pick 64 (.c (.bool true)) 66) 61 true,
 kG 68 (.pick 61 67 (.c (.bool false))) 59 true,
 kG 69 (.un .not 68) 59 true,
 kO 70 (.pick 59 69 (.c (.bool false)))])
 (.cond 70
 (.seq (.region [
  kO 4 (.mv (.c (.bool false)))])
  .ret)
 .skip)))))
 y17e)
def y187 : CCode :=
  (.seq (.cond 20
 .skip
 (.exit 0))
 y17k)
def y189 : CCode :=
  (.seq (.region [
 kO 20 (.bin .lss 19 18)])
 y187)
def yjr : CCode :=
  (.loop [1, 17, 18, 19] y189)
def y17g : CCode :=
  (.block 0 yjr)
def y18b : CCode :=
  (.seq (.region [
 kO 16 (.mv 0),
 kO 17 (.s2b (some 0) 16),
 kO 18 (.len 1 17),
 kO 19 (.mv (ci 0))])
 y17g)
def y188 : CCode :=
  (.seq y18b
 y18f)
def yv7 : CCode :=
  (.seq (.seq (.region [
 kO 8 (.mv 0),
 kO 9 (.len 0 8),
 kO 10 (.bin .lss 9 (ci 1)),
 kO 11 (.mv 10),
 kG 12 (.mv 0) 11 false,
 kG 13 (.len 0 12) 11 false,
 kG 14 (.bin .gtr 13 (ci 60)) 11 false,
 kO 15 (.pick 11 (.c (.bool true)) 14)])
 (.cond 15
 (.seq (.region [
  kO 4 (.mv (.c (.bool false)))])
  .ret)
 .skip))
 y188)
def y11f : CCode :=
  (.seq (.region [
 kO 4 (.mv (.c (.bool false)))])
 yv7)
def c_q7 : CFunc :=
  ⟨2, true, 1, y11f, [.t 4]⟩
def tbl : List (Option Nat) := [none, none, none, some 71, none, none, none, none, none, none, none, none, none, none, none, some 4, some 13, some 14, some 8, none, none, none, none, none, none, none, none, none, none, none, none, none, none, none, none, none, some 10, some 9, some 39, some 40, some 41, some 11, some 28, some 24, some 46, some 63, some 22, none, none, none, none, none, none, none, none, none, none, none, none, none, none, none, none, none, none, none, none, none, none, none, none, none, none, none, none, none, none, none, none, none, none, none, some 17, some 45, some 47, none, none, none, none, none, none, none, none, none, none, none, none, none, none, none, none, none, none, none, none, none, none, none, none, none, none, none, none, some 50, some 37, some 51, none, none, none, none, none, none, none, none, none, none, none, none, none, none, some 44, none, none, none, none, some 60]
def fnE : Nat → Option CFunc
  | 4 => some y1if
  | 8 => some y1gu
  | 9 => some y1jl
  | 10 => some y1j5
  | 11 => some y17j
  | 13 => some y1ez
  | 14 => some y17n
  | 17 => some y1fh
  | 22 => some y1gw
  | 24 => some y1f9
  | 28 => some y17c
  | 37 => some c_q8
  | 39 => some y17m
  | 40 => some y17d
  | 41 => some y17i
  | 44 => some c_q9
  | 45 => some y17w
  | 46 => some y17o
  | 47 => some y1g4
  | 50 => some y1h4
  | 51 => some y1h8
  | 60 => some c_q7
  | 63 => some y1gy
  | 71 => some y1fi
  | _ => none
abbrev nm : Nat → Option Nat := nmOf tbl
def E : Env := envX fnE [] (fun _ _ => none)
abbrev T1 (c : CCode) (n : St → OX) (e : Nat → St → OX) (r : List CRes) (k : St → OX) : Prop := ∀ s, W E 0 c s n e (finP r) = k s
abbrev T0 (c : CCode) (r : List CRes) (k : St → OX) : Prop := T1 c (finP r) xN r k
theorem sq {a b : CCode} {n k k' : St → OX} {e : Nat → St → OX} {r : List CRes} (h : T1 b n e r k) (h' : T1 a k e r k') : T1 (.seq a b) n e r k' := fun s => (yj3 h).trans (h' s)
theorem ok3 : FnOk Go.Proofs.Try.prog nm fnE 3 71 := .of Go.Proofs.Try.func3 (by kernel_rfl) (by kernel_rfl) rfl (by kernel_rfl)
theorem ok15 : FnOk Go.Proofs.Try.prog nm fnE 15 4 := .of Go.Proofs.Try.func15 (by kernel_rfl) (by kernel_rfl) rfl (by kernel_rfl)
theorem ok16 : FnOk Go.Proofs.Try.prog nm fnE 16 13 := .of Go.Proofs.Try.func16 (by kernel_rfl) (by kernel_rfl) rfl (by kernel_rfl)
theorem ok17 : FnOk Go.Proofs.Try.prog nm fnE 17 14 := .of Go.Proofs.Try.func17 (by kernel_rfl) (by kernel_rfl) rfl (by kernel_rfl)
theorem ok18 : FnOk Go.Proofs.Try.prog nm fnE 18 8 := .of Go.Proofs.Try.func18 (by kernel_rfl) (by kernel_rfl) rfl (by kernel_rfl)
theorem ok36 : FnOk Go.Proofs.Try.prog nm fnE 36 10 := .of Go.Proofs.Try.func36 (by kernel_rfl) (by kernel_rfl) rfl (by kernel_rfl)
theorem ok37 : FnOk Go.Proofs.Try.prog nm fnE 37 9 := .of Go.Proofs.Try.func37 (by kernel_rfl) (by kernel_rfl) rfl (by kernel_rfl)
theorem ok38 : FnOk Go.Proofs.Try.prog nm fnE 38 39 := .of Go.Proofs.Try.func38 (by kernel_rfl) (by kernel_rfl) rfl (by kernel_rfl)
theorem ok39 : FnOk Go.Proofs.Try.prog nm fnE 39 40 := .of Go.Proofs.Try.func39 (by kernel_rfl) (by kernel_rfl) rfl (by kernel_rfl)
theorem ok40 : FnOk Go.Proofs.Try.prog nm fnE 40 41 := .of Go.Proofs.Try.func40 (by kernel_rfl) (by kernel_rfl) rfl (by kernel_rfl)
theorem ok41 : FnOk Go.Proofs.Try.prog nm fnE 41 11 := .of Go.Proofs.Try.func41 (by kernel_rfl) (by kernel_rfl) rfl (by kernel_rfl)
theorem ok42 : FnOk Go.Proofs.Try.prog nm fnE 42 28 := .of Go.Proofs.Try.func42 (by kernel_rfl) (by kernel_rfl) rfl (by kernel_rfl)
theorem ok43 : FnOk Go.Proofs.Try.prog nm fnE 43 24 := .of Go.Proofs.Try.func43 (by kernel_rfl) (by kernel_rfl) rfl (by kernel_rfl)
theorem ok44 : FnOk Go.Proofs.Try.prog nm fnE 44 46 := .of Go.Proofs.Try.func44 (by kernel_rfl) (by kernel_rfl) rfl (by kernel_rfl)
theorem ok45 : FnOk Go.Proofs.Try.prog nm fnE 45 63 := .of Go.Proofs.Try.func45 (by kernel_rfl) (by kernel_rfl) rfl (by kernel_rfl)
theorem ok46 : FnOk Go.Proofs.Try.prog nm fnE 46 22 := .of Go.Proofs.Try.func46 (by kernel_rfl) (by kernel_rfl) rfl (by kernel_rfl)
theorem ok82 : FnOk Go.Proofs.Try.prog nm fnE 82 17 := .of Go.Proofs.Try.func82 (by kernel_rfl) (by kernel_rfl) rfl (by kernel_rfl)
theorem ok83 : FnOk Go.Proofs.Try.prog nm fnE 83 45 := .of Go.Proofs.Try.func83 (by kernel_rfl) (by kernel_rfl) rfl (by kernel_rfl)
theorem ok84 : FnOk Go.Proofs.Try.prog nm fnE 84 47 := .of Go.Proofs.Try.func84 (by kernel_rfl) (by kernel_rfl) rfl (by kernel_rfl)
theorem y1i7 : FnOk Go.Proofs.Try.prog nm fnE 113 50 := .of Go.Proofs.Try.func113 (by kernel_rfl) (by kernel_rfl) rfl (by kernel_rfl)
theorem y1iw : FnOk Go.Proofs.Try.prog nm fnE 114 37 := .of Go.Proofs.Try.func114 (by kernel_rfl) (by kernel_rfl) rfl (by kernel_rfl)
theorem y1k5 : FnOk Go.Proofs.Try.prog nm fnE 115 51 := .of Go.Proofs.Try.func115 (by kernel_rfl) (by kernel_rfl) rfl (by kernel_rfl)
theorem y1i4 : FnOk Go.Proofs.Try.prog nm fnE 130 44 := .of Go.Proofs.Try.func130 (by kernel_rfl) (by kernel_rfl) rfl (by kernel_rfl)
theorem y1id : FnOk Go.Proofs.Try.prog nm fnE 135 60 := .of Go.Proofs.Try.func135 (by kernel_rfl) (by kernel_rfl) rfl (by kernel_rfl)
theorem y1it : AllF Go.Proofs.Try.prog nm fnE 0 tbl :=
  ⟨ok3, ok15, ok16, ok17, ok18, ok36, ok37, ok38, ok39, ok40, ok41, ok42, ok43, ok44, ok45, ok46, ok82, ok83, ok84, y1i7, y1iw, y1k5, y1i4, y1id, trivial⟩
theorem y1j4 : EnvOk Go.Proofs.Try.prog nm E := y1ae (by kernel_rfl) y1it .nothing
end Go.Vm
