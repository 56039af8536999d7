/- The machine's form of functions, each checked against the translation, and the environment that they make. -/
import Derived.Test.YthemfgeagohdhaaVc
import Derived.Test.YthemfgeagohdhaaProg
import Derived.Test.YthemfgeagohdhaaSd
import Derived.KernelRfl
set_option linter.unusedSimpArgs false
set_option linter.unusedVariables false
set_option linter.unusedSectionVars false
namespace Go.Vm
def c_q53_1 : CCode :=
  (.seq (.region [
 kO 59 (.mv 7),
 kO 60 (.ld true 5 1),
 kO 61 (.call none true 77 [60]),
 kO 62 (.eqb false 59 61),
 kO 2 (.mv 62)])
 .ret)
def c_q53_3 : CCode :=
  (.region [
 kO 58 (.bin .add 42 (ci 1)),
 kO 42 (.mv 58)])
def c_q53_4 : CCode :=
  (.seq (.block 3 (.seq (.region [
 kO 44 (.mv 42),
 kO 8 (.mv 44)])
 (.region [
 kO 45 (.mv 7),
 kO 46 (.mv 45),
 kG 47 (.mv 4) 46 true,
 kG 48 (.mv 8) 46 true,
 kG 49 (.mget false [0] (.int .i64 0) false 47 48) 46 true,
 kG 50 (.bin .eql 49 (ci 1)) 46 true,
 kG 51 (.mv 50) 46 true,
 kG 52 (.mv 3) 51 false,
 kG 53 (.mv 8) 51 false,
 kG 54 (.call none true 76 [52, (ci 0), 53]) 51 false,
 kG 55 (.un .not 54) 51 false,
 kG 56 (.pick 51 (.c (.bool true)) 55) 46 true,
 kO 57 (.pick 46 56 (.c (.bool false))),
 kO 7 (.mv 57)])))
 c_q53_3)
def c_q53_5 : CCode :=
  (.seq (.cond 43
 .skip
 (.exit 2))
 c_q53_4)
def c_q53_6 : CCode :=
  (.seq (.region [
 kO 43 (.bin .lss 42 41)])
 c_q53_5)
def c_q53_L2 : CCode :=
  (.loop [1, 3, 4, 7, 41, 42] c_q53_6)
def c_q53_7 : CCode :=
  (.block 2 c_q53_L2)
def c_q53_8 : CCode :=
  (.seq (.region [
 kO 39 (.fa 0 1),
 kO 40 (.ld false 1 39),
 kO 41 (.len 1 40),
 kO 42 (.mv (ci 0))])
 c_q53_7)
def c_q53_9 : CCode :=
  (.seq c_q53_8
 c_q53_1)
def c_q53_10 : CCode :=
  (.seq (.region [
 kO 7 (.mv (.c (.bool true)))])
 c_q53_9)
def c_q53_12 : CCode :=
  (.region [
 kO 38 (.bin .add 32 (ci 1)),
 kO 32 (.mv 38)])
def c_q53_13 : CCode :=
  (.seq (.block 1 (.seq (.region [
 kO 34 (.ixs 1 30 32),
 kO 35 (.ld false 1 34),
 kO 6 (.mv 35)])
 (.region [
 kO 36 (.mv 4),
 kO 37 (.mv 6),
 kU (.mput false [0] 36 37 (ci 1))])))
 c_q53_12)
def c_q53_14 : CCode :=
  (.seq (.cond 33
 .skip
 (.exit 0))
 c_q53_13)
def c_q53_15 : CCode :=
  (.seq (.region [
 kO 33 (.bin .lss 32 31)])
 c_q53_14)
def c_q53_L11 : CCode :=
  (.loop [1, 3, 4, 30, 31, 32] c_q53_15)
def c_q53_16 : CCode :=
  (.block 0 c_q53_L11)
def c_q53_17 : CCode :=
  (.seq (.region [
 kO 29 (.fa 1 1),
 kO 30 (.ld false 1 29),
 kO 31 (.len 1 30),
 kO 32 (.mv (ci 0))])
 c_q53_16)
def c_q53_18 : CCode :=
  (.seq c_q53_17
 c_q53_10)
def c_q53_19 : CCode :=
  (.seq (.region [
 kO 28 (.mkm (some 1)),
 kO 4 (.mv 28)])
 c_q53_18)
def c_q53_20 : CCode :=
  (.seq (.region [
 kO 26 (.ld true 5 1),
 kO 27 (.call none true 75 [26]),
 kO 3 (.mv 27)])
 c_q53_19)
def c_q53_21 : CCode :=
  (.seq (.seq (.region [
 kO 11 (.fa 3 1),
 kO 12 (.ld false 1 11),
 kO 13 (.len 1 12),
 kO 14 (.bin .gtr 13 (ci 400)),
 kO 15 (.mv 14),
 kG 16 (.fa 0 1) 15 false,
 kG 17 (.ld false 1 16) 15 false,
 kG 18 (.len 1 17) 15 false,
 kG 19 (.bin .gtr 18 (ci 60)) 15 false,
 kO 20 (.pick 15 (.c (.bool true)) 19),
 kO 21 (.mv 20),
 kG 22 (.ld true 5 1) 21 false,
 kG 23 (.call none true 29 [22]) 21 false,
 kG 24 (.bin .neq 23 (ci 0)) 21 false,
 kO 25 (.pick 21 (.c (.bool true)) 24)])
 (.cond 25
 (.seq (.region [
  kO 2 (.mv (.c (.bool true)))])
  .ret)
 .skip))
 c_q53_20)
def c_q53_22 : CCode :=
  (.seq (.seq (.region [
 kO 9 (.call none true 74 []),
 kO 10 (.un .not 9)])
 (.cond 10
 (.seq (.region [
  kO 2 (.mv (.c (.bool false)))])
  .ret)
 .skip))
 c_q53_21)
def c_q53_23 : CCode :=
  (.seq (.region [
 kO 1 (.box (some 0) 0),
 kO 2 (.mv (.c (.bool false)))])
 c_q53_22)
def c_q53 : CFunc :=
  ⟨1, true, 2, c_q53_23, [.t 2]⟩
def c_q6_1 : CCode :=
  (.seq (.region [
 kO 43 (.mv 6),
 kO 4 (.mv 43)])
 .ret)
def c_q6_2 : CCode :=
  (.seq (.seq (.region [
 kO 29 (.ld true 9 5),
 kO 30 (.call none true 22 [29]),
 kO 31 (.mv 30),
 kG 32 (.mv 6) 31 true,
 kG 33 (.fa 6 5) 31 true,
 kG 34 (.ld false 1 33) 31 true,
 kG 35 (.call none true 46 [32, 34]) 31 true,
 kG 36 (.un .not 35) 31 true,
 kO 37 (.pick 31 36 (.c (.bool false)))])
 (.cond 37
 (.region [
  kO 38 (.mv 6),
  kO 39 (.fa 6 5),
  kO 40 (.ld false 1 39),
  kO 41 (.buildS (some 4) 1 1 [(.int .i64 0)] [(0, 40)]),
  kO 42 (.app (some 5) 1 8 38 41),
  kO 6 (.mv 42)])
 .skip))
 c_q6_1)
def c_q6_3 : CCode :=
  (.seq (.seq (.region [
 kO 21 (.ld true 9 5),
 kO 22 (.call none true 24 [21]),
 kO 23 (.un .not 22)])
 (.cond 23
 (.region [
  kO 24 (.mv 6),
  kO 25 (.mv 1),
  kO 26 (.bin .add 25 (ci 1)),
  kO 27 (.buildS (some 2) 1 1 [(.int .i64 0)] [(0, 26)]),
  kO 28 (.app (some 3) 1 8 24 27),
  kO 6 (.mv 28)])
 .skip))
 c_q6_2)
def c_q6_4 : CCode :=
  (.seq (.region [
 kO 6 (.mv (.c .nils))])
 c_q6_3)
def c_q6_5 : CCode :=
  (.seq (.region [
 kO 16 (.fa 3 2),
 kO 17 (.ld false 1 16),
 kO 18 (.mv 1),
 kO 19 (.ixs 9 17 18),
 kO 20 (.ld true 9 19),
 kO 5 (.new (some 1) [(.int .i64 0), (.int .i64 0), (.int .i64 0), (.int .i64 0), (.int .i64 0), (.int .i64 0), (.int .i64 0), (.str []), .nils]),
 kU (.st 9 5 20)])
 c_q6_4)
def c_q6_6 : CCode :=
  (.seq (.seq (.region [
 kO 7 (.mv 1),
 kO 8 (.bin .lss 7 (ci 0)),
 kO 9 (.mv 8),
 kG 10 (.mv 1) 9 false,
 kG 11 (.fa 3 2) 9 false,
 kG 12 (.ld false 1 11) 9 false,
 kG 13 (.len 1 12) 9 false,
 kG 14 (.bin .geq 10 13) 9 false,
 kO 15 (.pick 9 (.c (.bool true)) 14)])
 (.cond 15
 (.seq (.region [
  kO 4 (.mv (.c .nils))])
  .ret)
 .skip))
 c_q6_5)
def c_q6_7 : CCode :=
  (.seq (.region [
 kO 2 (.box (some 0) 0),
 kO 4 (.mv (.c .nils))])
 c_q6_6)
def c_q6 : CFunc :=
  ⟨2, true, 6, c_q6_7, [.t 4]⟩
def c_q79_1 : CCode :=
  (.seq (.region [
 kO 43 (.mv 6),
 kO 4 (.mv 43)])
 .ret)
def c_q79_2 : CCode :=
  (.seq (.seq (.region [
 kO 28 (.fa 0 5),
 kO 29 (.ld false 1 28),
 kO 30 (.call none true 23 [29]),
 kO 31 (.mv 30),
 kG 32 (.mv 6) 31 true,
 kG 33 (.fa 6 5) 31 true,
 kG 34 (.ld false 1 33) 31 true,
 kG 35 (.call none true 96 [32, 34]) 31 true,
 kG 36 (.un .not 35) 31 true,
 kO 37 (.pick 31 36 (.c (.bool false)))])
 (.cond 37
 (.region [
  kO 38 (.mv 6),
  kO 39 (.fa 6 5),
  kO 40 (.ld false 1 39),
  kO 41 (.buildS (some 3) 1 1 [(.int .i64 0)] [(0, 40)]),
  kO 42 (.app (some 4) 1 8 38 41),
  kO 6 (.mv 42)])
 .skip))
 c_q79_1)
def c_q79_3 : CCode :=
  (.seq (.seq (.region [
 kO 21 (.fa 0 5),
 kO 22 (.ld false 1 21),
 kO 23 (.call none true 25 [22]),
 kO 24 (.un .not 23)])
 (.cond 24
 (.region [
  kO 25 (.mv 1),
  kO 26 (.bin .add 25 (ci 1)),
  kO 27 (.buildS (some 2) 1 1 [(.int .i64 0)] [(0, 26)]),
  kO 6 (.mv 27)])
 .skip))
 c_q79_2)
def c_q79_4 : CCode :=
  (.seq (.region [
 kO 6 (.mv (.c .nils))])
 c_q79_3)
def c_q79_5 : CCode :=
  (.seq (.region [
 kO 16 (.fa 3 2),
 kO 17 (.ld false 1 16),
 kO 18 (.mv 1),
 kO 19 (.ixs 9 17 18),
 kO 20 (.ld true 9 19),
 kO 5 (.new (some 1) [(.int .i64 0), (.int .i64 0), (.int .i64 0), (.int .i64 0), (.int .i64 0), (.int .i64 0), (.int .i64 0), (.str []), .nils]),
 kU (.st 9 5 20)])
 c_q79_4)
def c_q79_6 : CCode :=
  (.seq (.seq (.region [
 kO 7 (.mv 1),
 kO 8 (.bin .lss 7 (ci 0)),
 kO 9 (.mv 8),
 kG 10 (.mv 1) 9 false,
 kG 11 (.fa 3 2) 9 false,
 kG 12 (.ld false 1 11) 9 false,
 kG 13 (.len 1 12) 9 false,
 kG 14 (.bin .geq 10 13) 9 false,
 kO 15 (.pick 9 (.c (.bool true)) 14)])
 (.cond 15
 (.seq (.region [
  kO 4 (.mv (.c .nils))])
  .ret)
 .skip))
 c_q79_5)
def c_q79_7 : CCode :=
  (.seq (.region [
 kO 2 (.box (some 0) 0),
 kO 4 (.mv (.c .nils))])
 c_q79_6)
def c_q79 : CFunc :=
  ⟨2, true, 5, c_q79_7, [.t 4]⟩
def c_q4_1 : CCode :=
  (.seq (.region [
 kO 57 (.mv 5),
 kO 4 (.mv 57)])
 .ret)
def c_q4_3 : CCode :=
  (.region [
 kO 56 (.bin .add 29 (ci 1)),
 kO 29 (.mv 56)])
def c_q4_4 : CCode :=
  (.seq (.region [
 kO 53 (.fa 3 7),
 kO 54 (.ld false 1 53),
 kO 55 (.bin .eql 54 (.c (.str [])))])
 (.cond 55
 (.exit 0)
 .skip))
def c_q4_5 : CCode :=
  (.seq (.seq (.region [
 kO 43 (.mv 5),
 kO 44 (.fa 2 7),
 kO 45 (.ld false 1 44),
 kO 46 (.call none true 46 [43, 45]),
 kO 47 (.un .not 46)])
 (.cond 47
 (.region [
  kO 48 (.mv 5),
  kO 49 (.fa 2 7),
  kO 50 (.ld false 1 49),
  kO 51 (.buildS (some 2) 1 1 [(.int .i64 0)] [(0, 50)]),
  kO 52 (.app (some 3) 1 8 48 51),
  kO 5 (.mv 52)])
 .skip))
 c_q4_4)
def c_q4_6 : CCode :=
  (.seq (.seq (.region [
 kO 33 (.mv 1),
 kO 34 (.fa 0 7),
 kO 35 (.ld false 1 34),
 kO 36 (.bin .lss 33 35),
 kO 37 (.mv 36),
 kG 38 (.mv 1) 37 false,
 kG 39 (.fa 1 7) 37 false,
 kG 40 (.ld false 1 39) 37 false,
 kG 41 (.bin .geq 38 40) 37 false,
 kO 42 (.pick 37 (.c (.bool true)) 41)])
 (.cond 42
 (.exit 1)
 .skip))
 c_q4_5)
def c_q4_7 : CCode :=
  (.seq (.region [
 kO 31 (.ixs 4 27 29),
 kO 32 (.ld true 4 31),
 kO 7 (.new (some 1) [(.int .i64 0), (.int .i64 0), (.int .i64 0), (.str [])]),
 kU (.st 4 7 32)])
 c_q4_6)
def c_q4_8 : CCode :=
  (.block 1 c_q4_7)
def c_q4_9 : CCode :=
  (.seq c_q4_8
 c_q4_3)
def c_q4_10 : CCode :=
  (.seq (.cond 30
 .skip
 (.exit 0))
 c_q4_9)
def c_q4_11 : CCode :=
  (.seq (.region [
 kO 30 (.bin .lss 29 28)])
 c_q4_10)
def c_q4_L2 : CCode :=
  (.loop [1, 5, 27, 28, 29] c_q4_11)
def c_q4_12 : CCode :=
  (.block 0 c_q4_L2)
def c_q4_13 : CCode :=
  (.seq (.region [
 kO 26 (.fa 4 2),
 kO 27 (.ld false 1 26),
 kO 28 (.len 1 27),
 kO 29 (.mv (ci 0))])
 c_q4_12)
def c_q4_14 : CCode :=
  (.seq c_q4_13
 c_q4_1)
def c_q4_15 : CCode :=
  (.seq (.region [
 kO 5 (.mv (.c .nils))])
 c_q4_14)
def c_q4_16 : CCode :=
  (.seq (.seq (.region [
 kO 8 (.mv 1),
 kO 9 (.bin .lss 8 (ci 0)),
 kO 10 (.mv 9),
 kG 11 (.mv 1) 10 false,
 kG 12 (.fa 3 2) 10 false,
 kG 13 (.ld false 1 12) 10 false,
 kG 14 (.len 1 13) 10 false,
 kG 15 (.bin .geq 11 14) 10 false,
 kO 16 (.pick 10 (.c (.bool true)) 15),
 kO 17 (.mv 16),
 kG 18 (.fa 3 2) 17 false,
 kG 19 (.ld false 1 18) 17 false,
 kG 20 (.mv 1) 17 false,
 kG 21 (.ixs 9 19 20) 17 false,
 kG 22 (.ld true 9 21) 17 false,
 kG 23 (.call none true 18 [22]) 17 false,
 kG 24 (.un .not 23) 17 false,
 kO 25 (.pick 17 (.c (.bool true)) 24)])
 (.cond 25
 (.seq (.region [
  kO 4 (.mv (.c .nils))])
  .ret)
 .skip))
 c_q4_15)
def c_q4_17 : CCode :=
  (.seq (.region [
 kO 2 (.box (some 0) 0),
 kO 4 (.mv (.c .nils))])
 c_q4_16)
def c_q4 : CFunc :=
  ⟨2, true, 4, c_q4_17, [.t 4]⟩
def c_q77_1 : CCode :=
  (.seq (.region [
 kO 63 (.mv 5),
 kO 4 (.mv 63)])
 .ret)
def c_q77_3 : CCode :=
  (.region [
 kO 32 (.mv 6),
 kO 33 (.bin .add 32 (ci 1)),
 kO 6 (.mv 33)])
def c_q77_4 : CCode :=
  (.seq (.region [
 kO 59 (.fa 3 7),
 kO 60 (.ld false 1 59),
 kO 61 (.bin .eql 60 (.c (.str [])))])
 (.cond 61
 (.seq (.region [
  kO 62 (.mv 5),
  kO 4 (.mv 62)])
  .ret)
 .skip))
def c_q77_5 : CCode :=
  (.seq (.seq (.region [
 kO 49 (.mv 5),
 kO 50 (.fa 2 7),
 kO 51 (.ld false 1 50),
 kO 52 (.call none true 96 [49, 51]),
 kO 53 (.un .not 52)])
 (.cond 53
 (.region [
  kO 54 (.mv 5),
  kO 55 (.fa 2 7),
  kO 56 (.ld false 1 55),
  kO 57 (.buildS (some 2) 1 1 [(.int .i64 0)] [(0, 56)]),
  kO 58 (.app (some 3) 1 8 54 57),
  kO 5 (.mv 58)])
 .skip))
 c_q77_4)
def c_q77_6 : CCode :=
  (.cond 48
 c_q77_5
 .skip)
def c_q77_7 : CCode :=
  (.seq (.region [
 kO 39 (.fa 0 7),
 kO 40 (.ld false 1 39),
 kO 41 (.mv 1),
 kO 42 (.bin .leq 40 41),
 kO 43 (.mv 42),
 kG 44 (.mv 1) 43 true,
 kG 45 (.fa 1 7) 43 true,
 kG 46 (.ld false 1 45) 43 true,
 kG 47 (.bin .lss 44 46) 43 true,
 kO 48 (.pick 43 47 (.c (.bool false)))])
 c_q77_6)
def c_q77_8 : CCode :=
  (.seq (.region [
 kO 34 (.fa 4 2),
 kO 35 (.ld false 1 34),
 kO 36 (.mv 6),
 kO 37 (.ixs 4 35 36),
 kO 38 (.ld true 4 37),
 kO 7 (.new (some 1) [(.int .i64 0), (.int .i64 0), (.int .i64 0), (.str [])]),
 kU (.st 4 7 38)])
 c_q77_7)
def c_q77_9 : CCode :=
  (.block 1 c_q77_8)
def c_q77_10 : CCode :=
  (.seq c_q77_9
 c_q77_3)
def c_q77_11 : CCode :=
  (.seq (.seq (.region [
 kO 27 (.mv 6),
 kO 28 (.fa 4 2),
 kO 29 (.ld false 1 28),
 kO 30 (.len 1 29),
 kO 31 (.bin .lss 27 30)])
 (.cond 31
 .skip
 (.exit 0)))
 c_q77_10)
def c_q77_L2 : CCode :=
  (.loop [1, 2, 5, 6] c_q77_11)
def c_q77_12 : CCode :=
  (.block 0 c_q77_L2)
def c_q77_13 : CCode :=
  (.seq (.region [
 kO 6 (.mv (ci 0))])
 c_q77_12)
def c_q77_14 : CCode :=
  (.seq c_q77_13
 c_q77_1)
def c_q77_15 : CCode :=
  (.seq (.seq (.region [
 kO 8 (.mv 1),
 kO 9 (.bin .lss 8 (ci 0)),
 kO 10 (.mv 9),
 kG 11 (.mv 1) 10 false,
 kG 12 (.fa 3 2) 10 false,
 kG 13 (.ld false 1 12) 10 false,
 kG 14 (.len 1 13) 10 false,
 kG 15 (.bin .geq 11 14) 10 false,
 kO 16 (.pick 10 (.c (.bool true)) 15),
 kO 17 (.mv 16),
 kG 18 (.fa 3 2) 17 false,
 kG 19 (.ld false 1 18) 17 false,
 kG 20 (.mv 1) 17 false,
 kG 21 (.ixs 9 19 20) 17 false,
 kG 22 (.fa 0 21) 17 false,
 kG 23 (.ld false 1 22) 17 false,
 kG 24 (.call none true 19 [23]) 17 false,
 kG 25 (.un .not 24) 17 false,
 kO 26 (.pick 17 (.c (.bool true)) 25)])
 (.cond 26
 (.seq (.region [
  kO 4 (.mv (.c .nils))])
  .ret)
 .skip))
 c_q77_14)
def c_q77_16 : CCode :=
  (.seq (.region [
 kO 5 (.mv (.c .nils))])
 c_q77_15)
def c_q77_17 : CCode :=
  (.seq (.region [
 kO 2 (.box (some 0) 0),
 kO 4 (.mv (.c .nils))])
 c_q77_16)
def c_q77 : CFunc :=
  ⟨2, true, 4, c_q77_17, [.t 4]⟩
def c_q55 : CFunc :=
  ⟨0, true, 3, (.seq (.region [
    kO 0 (.mv (.c (.bool false)))])
  (.seq (.region [
    kO 3 (.buildS (some 0) 1 2 [(.int .i64 0)] [(0, (ci 1)), (1, (ci 1))]),
    kO 4 (.build [(.int .i64 0), (.int .i64 0), (.int .i64 0), (.int .i64 0), (.int .i64 0), (.int .i64 0), (.int .i64 0), (.str []), .nils] [(0, 1, (ci 1)), (1, 1, (ci 0))]),
    kO 5 (.build [(.int .i64 0), (.int .i64 0), (.int .i64 0), (.int .i64 0), (.int .i64 0), (.int .i64 0), (.int .i64 0), (.str []), .nils] [(0, 1, (ci 1)), (1, 1, (ci 1))]),
    kO 6 (.build [(.int .i64 0), (.int .i64 0), (.int .i64 0), (.int .i64 0), (.int .i64 0), (.int .i64 0), (.int .i64 0), (.str []), .nils] [(0, 1, (ci 28)), (2, 1, (ci 0)), (3, 1, (ci 1))]),
    kO 7 (.build [(.int .i64 0), (.int .i64 0), (.int .i64 0), (.int .i64 0), (.int .i64 0), (.int .i64 0), (.int .i64 0), (.str []), .nils] [(0, 1, (ci 30)), (2, 1, (ci (-1)))]),
    kO 8 (.buildS (some 1) 9 4 [(.int .i64 0), (.int .i64 0), (.int .i64 0), (.int .i64 0), (.int .i64 0), (.int .i64 0), (.int .i64 0), (.str []), .nils] [(0, 4), (1, 5), (2, 6), (3, 7)]),
    kO 9 (.build [.nils, .nils, (.int .i64 0), .nils, .nils] [(0, 1, 3), (3, 1, 8)]),
    kO 1 (.new (some 2) [.nils, .nils, (.int .i64 0), .nils, .nils]),
    kU (.st 5 1 9)])
  (.seq (.region [
    kO 10 (.ld true 5 1),
    kO 11 (.call none true 75 [10]),
    kO 2 (.mv 11)])
  (.seq (.region [
    kO 12 (.mv 2),
    kO 13 (.eqn 0 true 12 (.c .nilp)),
    kO 14 (.mv 13),
    kG 15 (.mv 2) 14 true,
    kG 16 (.call none true 87 [15, (ci 0), (ci 0)]) 14 true,
    kO 17 (.pick 14 16 (.c (.bool false))),
    kO 18 (.mv 17),
    kG 19 (.mv 2) 18 true,
    kG 20 (.call none true 87 [19, (ci 0), (ci 1)]) 18 true,
    kG 21 (.un .not 20) 18 true,
    kO 22 (.pick 18 21 (.c (.bool false))),
    kO 23 (.mv 22),
    kG 24 (.mv 2) 23 true,
    kG 25 (.call none true 76 [24, (ci 2), (ci 1)]) 23 true,
    kO 26 (.pick 23 25 (.c (.bool false))),
    kO 27 (.mv 26),
    kG 28 (.mv 2) 27 true,
    kG 29 (.call none true 76 [28, (ci 0), (ci 0)]) 27 true,
    kG 30 (.un .not 29) 27 true,
    kO 31 (.pick 27 30 (.c (.bool false))),
    kO 32 (.mv 31),
    kG 33 (.mv 2) 32 true,
    kG 34 (.ld true 5 1) 32 true,
    kG 35 (.call none true 88 [33, 34, (ci 1), (ci 0)]) 32 true,
    kO 36 (.pick 32 35 (.c (.bool false))),
    kO 37 (.mv 36),
    kG 38 (.mv 2) 37 true,
    kG 39 (.ld true 5 1) 37 true,
    kG 40 (.call none true 88 [38, 39, (ci 1), (ci 1)]) 37 true,
    kG 41 (.un .not 40) 37 true,
    kO 42 (.pick 37 41 (.c (.bool false))),
    kO 43 (.mv 42),
    kG 44 (.build [.nils, .nils, (.int .i64 0), .nils, .nils] []) 43 true,
    kG 45 (.call none true 75 [44]) 43 true,
    kG 46 (.eqn 0 false 45 (.c .nilp)) 43 true,
    kO 47 (.pick 43 46 (.c (.bool false))),
    kO 0 (.mv 47)])
  .ret)))), [.t 0]⟩
def c_q35_1 : CCode :=
  (.seq (.region [
 kO 179 (.mv 5),
 kO 2 (.mv 179)])
 .ret)
def c_q35_4 : CCode :=
  (.region [
 kO 74 (.mv 7),
 kO 75 (.bin .sub 74 (ci 1)),
 kO 7 (.mv 75)])
def c_q35_5 : CCode :=
  (.region [
 kO 167 (.mv 5),
 kO 168 (.nilchk 167),
 kO 169 (.fa 0 168),
 kO 170 (.ld false 1 169),
 kO 171 (.mv 7),
 kO 172 (.ixs 1 170 171),
 kO 173 (.ld false 1 172),
 kO 174 (.mv 12),
 kO 175 (.call none false 84 [173, 174]),
 kO 176 (.mv 175),
 kG 177 (.mv 6) 176 false,
 kO 178 (.pick 176 (.c (.bool true)) 177),
 kO 6 (.mv 178)])
def c_q35_7 : CCode :=
  (.region [
 kO 166 (.bin .add 159 (ci 1)),
 kO 159 (.mv 166)])
def c_q35_8 : CCode :=
  (.seq (.block 11 (.seq (.region [
 kO 161 (.ixs 1 157 159),
 kO 162 (.ld false 1 161),
 kO 15 (.mv 162)])
 (.region [
 kO 163 (.mv 12),
 kO 164 (.mv 15),
 kO 165 (.call none false 86 [163, 164])])))
 c_q35_7)
def c_q35_9 : CCode :=
  (.seq (.cond 160
 .skip
 (.exit 10))
 c_q35_8)
def c_q35_10 : CCode :=
  (.seq (.region [
 kO 160 (.bin .lss 159 158)])
 c_q35_9)
def c_q35_L6 : CCode :=
  (.loop [1, 3, 5, 6, 7, 12, 157, 158, 159] c_q35_10)
def c_q35_11 : CCode :=
  (.block 10 c_q35_L6)
def c_q35_12 : CCode :=
  (.seq (.region [
 kO 152 (.fa 3 1),
 kO 153 (.ld false 1 152),
 kO 154 (.mv 7),
 kO 155 (.ixs 9 153 154),
 kO 156 (.ld true 9 155),
 kO 157 (.call none true 10 [156]),
 kO 158 (.len 1 157),
 kO 159 (.mv (ci 0))])
 c_q35_11)
def c_q35_13 : CCode :=
  (.seq c_q35_12
 c_q35_5)
def c_q35_14 : CCode :=
  (.seq (.region [
 kO 143 (.mv 12),
 kO 144 (.mv 5),
 kO 145 (.nilchk 144),
 kO 146 (.fa 2 145),
 kO 147 (.ld false 1 146),
 kO 148 (.mv 7),
 kO 149 (.ixs 1 147 148),
 kO 150 (.ld false 1 149),
 kO 151 (.call none false 84 [143, 150])])
 c_q35_13)
def c_q35_15 : CCode :=
  (.seq (.seq (.region [
 kO 132 (.fa 3 1),
 kO 133 (.ld false 1 132),
 kO 134 (.mv 7),
 kO 135 (.ixs 9 133 134),
 kO 136 (.ld true 9 135),
 kO 137 (.call none true 9 [136]),
 kO 13 (.mv 137)])
 (.seq (.region [
 kO 138 (.mv 13),
 kO 139 (.bin .geq 138 (ci 0))])
 (.cond 139
 (.region [
  kO 140 (.mv 12),
  kO 141 (.mv 13),
  kO 142 (.call none false 85 [140, 141])])
 .skip)))
 c_q35_14)
def c_q35_16 : CCode :=
  (.seq (.region [
 kO 124 (.mv 5),
 kO 125 (.nilchk 124),
 kO 126 (.fa 1 125),
 kO 127 (.ld false 1 126),
 kO 128 (.mv 7),
 kO 129 (.ixs 1 127 128),
 kO 130 (.ld false 1 129),
 kO 131 (.app (some 2) 1 8 (.c .nils) 130),
 kO 12 (.mv 131)])
 c_q35_15)
def c_q35_18 : CCode :=
  (.region [
 kO 123 (.bin .add 104 (ci 1)),
 kO 104 (.mv 123)])
def c_q35_19 : CCode :=
  (.seq (.block 9 (.seq (.region [
 kO 106 (.ixs 1 102 104),
 kO 107 (.ld false 1 106),
 kO 11 (.mv 107)])
 (.draw [
 kO 108 (.mv 5),
 kO 109 (.nilchk 108),
 kO 110 (.fa 2 109),
 kO 111 (.ld false 1 110),
 kO 112 (.mv 7),
 kO 113 (.ixs 1 111 112),
 kO 114 (.ld false 1 113),
 kO 115 (.mv 5),
 kO 116 (.nilchk 115),
 kO 117 (.fa 0 116),
 kO 118 (.ld false 1 117),
 kO 119 (.mv 11),
 kO 120 (.ixs 1 118 119),
 kO 121 (.ld false 1 120),
 kO 122 (.call none false 84 [114, 121])] [])))
 c_q35_18)
def c_q35_20 : CCode :=
  (.seq (.cond 105
 .skip
 (.exit 8))
 c_q35_19)
def c_q35_21 : CCode :=
  (.seq (.region [
 kO 105 (.bin .lss 104 103)])
 c_q35_20)
def c_q35_L17 : CCode :=
  (.loop [1, 3, 5, 6, 7, 102, 103, 104] c_q35_21)
def c_q35_22 : CCode :=
  (.block 8 c_q35_L17)
def c_q35_23 : CCode :=
  (.seq (.region [
 kO 100 (.ld true 5 1),
 kO 101 (.mv 7),
 kO 102 (.call none true 79 [100, 101]),
 kO 103 (.len 1 102),
 kO 104 (.mv (ci 0))])
 c_q35_22)
def c_q35_24 : CCode :=
  (.seq c_q35_23
 c_q35_16)
def c_q35_26 : CCode :=
  (.region [
 kO 99 (.bin .add 80 (ci 1)),
 kO 80 (.mv 99)])
def c_q35_27 : CCode :=
  (.seq (.block 7 (.seq (.region [
 kO 82 (.ixs 1 78 80),
 kO 83 (.ld false 1 82),
 kO 9 (.mv 83)])
 (.draw [
 kO 84 (.mv 5),
 kO 85 (.nilchk 84),
 kO 86 (.fa 1 85),
 kO 87 (.ld false 1 86),
 kO 88 (.mv 7),
 kO 89 (.ixs 1 87 88),
 kO 90 (.ld false 1 89),
 kO 91 (.mv 5),
 kO 92 (.nilchk 91),
 kO 93 (.fa 0 92),
 kO 94 (.ld false 1 93),
 kO 95 (.mv 9),
 kO 96 (.ixs 1 94 95),
 kO 97 (.ld false 1 96),
 kO 98 (.call none false 84 [90, 97])] [])))
 c_q35_26)
def c_q35_28 : CCode :=
  (.seq (.cond 81
 .skip
 (.exit 6))
 c_q35_27)
def c_q35_29 : CCode :=
  (.seq (.region [
 kO 81 (.bin .lss 80 79)])
 c_q35_28)
def c_q35_L25 : CCode :=
  (.loop [1, 3, 5, 6, 7, 78, 79, 80] c_q35_29)
def c_q35_30 : CCode :=
  (.block 6 c_q35_L25)
def c_q35_31 : CCode :=
  (.seq (.region [
 kO 76 (.ld true 5 1),
 kO 77 (.mv 7),
 kO 78 (.call none true 81 [76, 77]),
 kO 79 (.len 1 78),
 kO 80 (.mv (ci 0))])
 c_q35_30)
def c_q35_32 : CCode :=
  (.seq c_q35_31
 c_q35_24)
def c_q35_33 : CCode :=
  (.block 5 c_q35_32)
def c_q35_34 : CCode :=
  (.seq c_q35_33
 c_q35_4)
def c_q35_35 : CCode :=
  (.seq (.seq (.region [
 kO 72 (.mv 7),
 kO 73 (.bin .geq 72 (ci 0))])
 (.cond 73
 .skip
 (.exit 4)))
 c_q35_34)
def c_q35_L3 : CCode :=
  (.loop [1, 3, 5, 6, 7] c_q35_35)
def c_q35_36 : CCode :=
  (.block 4 c_q35_L3)
def c_q35_37 : CCode :=
  (.seq (.region [
 kO 70 (.mv 3),
 kO 71 (.bin .sub 70 (ci 1)),
 kO 7 (.mv 71)])
 c_q35_36)
def c_q35_38 : CCode :=
  (.seq (.region [
 kO 6 (.mv (.c (.bool false)))])
 c_q35_37)
def c_q35_39 : CCode :=
  (.block 3 c_q35_38)
def c_q35_40 : CCode :=
  (.seq (.seq (.region [
 kO 69 (.mv 6)])
 (.cond 69
 .skip
 (.exit 2)))
 c_q35_39)
def c_q35_L2 : CCode :=
  (.loop [1, 3, 5, 6] c_q35_40)
def c_q35_41 : CCode :=
  (.block 2 c_q35_L2)
def c_q35_42 : CCode :=
  (.seq (.region [
 kO 6 (.mv (.c (.bool true)))])
 c_q35_41)
def c_q35_43 : CCode :=
  (.seq c_q35_42
 c_q35_1)
def c_q35_45 : CCode :=
  (.region [
 kO 68 (.bin .add 33 (ci 1)),
 kO 33 (.mv 68)])
def c_q35_46 : CCode :=
  (.seq (.block 1 (.drawN 9 [
 kO 35 (.mv 5),
 kO 36 (.mv 5),
 kO 37 (.mv 5),
 kO 38 (.mv 5),
 kO 39 (.nilchk 38),
 kO 40 (.fa 0 39),
 kO 41 (.ld false 1 40),
 kO 42 (.mv 4),
 kO 43 (.mkS (some 0) 1 8 [(.int .u64 0)] 42 42),
 kO 44 (.buildS (some 1) 1 1 [.nils] [(0, 43)]),
 kO 45 (.app (some 2) 1 24 41 44),
 kO 46 (.mv 5),
 kO 47 (.nilchk 46),
 kO 48 (.fa 1 47),
 kO 49 (.ld false 1 48),
 kO 50 (.mv 4),
 kO 51 (.mkS (some 3) 1 8 [(.int .u64 0)] 50 50),
 kO 52 (.buildS (some 4) 1 1 [.nils] [(0, 51)]),
 kO 53 (.app (some 5) 1 24 49 52),
 kO 54 (.mv 5),
 kO 55 (.nilchk 54),
 kO 56 (.fa 2 55),
 kO 57 (.ld false 1 56),
 kO 58 (.mv 4),
 kO 59 (.mkS (some 6) 1 8 [(.int .u64 0)] 58 58),
 kO 60 (.buildS (some 7) 1 1 [.nils] [(0, 59)]),
 kO 61 (.app (some 8) 1 24 57 60),
 kO 62 (.nilchk 35),
 kO 63 (.fa 0 62),
 kU (.st 1 63 45),
 kO 64 (.nilchk 36),
 kO 65 (.fa 1 64),
 kU (.st 1 65 53),
 kO 66 (.nilchk 37),
 kO 67 (.fa 2 66),
 kU (.st 1 67 61)] [(6, 8), (6, 9), (8, 14), (9, 14), (10, 14), (6, 16), (8, 16), (9, 16), (10, 16), (14, 16), (6, 17), (8, 17), (9, 17), (10, 17), (14, 17), (8, 22), (9, 22), (10, 22), (16, 22), (17, 22), (18, 22), (6, 24), (8, 24), (9, 24), (10, 24), (14, 24), (16, 24), (17, 24), (18, 24), (22, 24), (6, 25), (8, 25), (9, 25), (10, 25), (14, 25), (16, 25), (17, 25), (18, 25), (22, 25)]))
 c_q35_45)
def c_q35_47 : CCode :=
  (.seq (.cond 34
 .skip
 (.exit 0))
 c_q35_46)
def c_q35_48 : CCode :=
  (.seq (.region [
 kO 34 (.bin .lss 33 32)])
 c_q35_47)
def c_q35_L44 : CCode :=
  (.loop [1, 3, 4, 5, 32, 33] c_q35_48)
def c_q35_49 : CCode :=
  (.block 0 c_q35_L44)
def c_q35_50 : CCode :=
  (.seq (.region [
 kO 32 (.mv 3),
 kO 33 (.mv (ci 0))])
 c_q35_49)
def c_q35_51 : CCode :=
  (.seq c_q35_50
 c_q35_43)
def c_q35_52 : CCode :=
  (.seq (.region [
 kO 27 (.fa 0 1),
 kO 28 (.ld false 1 27),
 kO 29 (.len 1 28),
 kO 30 (.build [.nils, .nils, .nils, (.int .i64 0)] [(3, 1, 29)]),
 kO 31 (.box (some 1) 30),
 kO 5 (.mv 31)])
 c_q35_51)
def c_q35_53 : CCode :=
  (.seq (.draw [
 kO 19 (.fa 3 1),
 kO 20 (.ld false 1 19),
 kO 21 (.len 1 20),
 kO 22 (.fa 0 1),
 kO 23 (.ld false 1 22),
 kO 24 (.len 1 23),
 kO 25 (.bin .quo 24 (ci 64)),
 kO 26 (.bin .add 25 (ci 1)),
 kO 3 (.mv 21),
 kO 4 (.mv 26)] [])
 c_q35_52)
def c_q35_54 : CCode :=
  (.seq (.seq (.region [
 kO 16 (.ld true 5 1),
 kO 17 (.call none true 8 [16]),
 kO 18 (.bin .neq 17 (ci 0))])
 (.cond 18
 (.seq (.region [
  kO 2 (.mv (.c .nilp))])
  .ret)
 .skip))
 c_q35_53)
def c_q35_55 : CCode :=
  (.seq (.region [
 kO 1 (.box (some 0) 0),
 kO 2 (.mv (.c .nilp))])
 c_q35_54)
def c_q35 : CFunc :=
  ⟨1, true, 3, c_q35_55, [.t 2]⟩
def c_q60_1 : CCode :=
  (.seq (.region [
 kO 2 (.mv (ci 0))])
 .ret)
def c_q60_3 : CCode :=
  (.region [
 kO 154 (.mv 8),
 kO 155 (.bin .add 154 (ci 1)),
 kO 8 (.mv 155)])
def c_q60_4 : CCode :=
  (.seq (.block 7 (.seq (.region [
 kO 156 (.fa 4 1),
 kO 157 (.ld false 1 156),
 kO 158 (.mv 8),
 kO 159 (.ixs 4 157 158),
 kO 160 (.ld true 4 159),
 kO 9 (.new (some 2) [(.int .i64 0), (.int .i64 0), (.int .i64 0), (.str [])]),
 kU (.st 4 9 160)])
 (.seq (.region [
 kO 161 (.fa 0 9),
 kO 162 (.ld false 1 161),
 kO 163 (.bin .lss 162 (ci 0)),
 kO 164 (.mv 163),
 kG 165 (.fa 0 9) 164 false,
 kG 166 (.ld false 1 165) 164 false,
 kG 167 (.fa 1 9) 164 false,
 kG 168 (.ld false 1 167) 164 false,
 kG 169 (.bin .geq 166 168) 164 false,
 kO 170 (.pick 164 (.c (.bool true)) 169),
 kO 171 (.mv 170),
 kG 172 (.fa 1 9) 171 false,
 kG 173 (.ld false 1 172) 171 false,
 kG 174 (.mv 3) 171 false,
 kG 175 (.bin .gtr 173 174) 171 false,
 kO 176 (.pick 171 (.c (.bool true)) 175),
 kO 177 (.mv 176),
 kG 178 (.ld true 5 1) 177 false,
 kG 179 (.fa 2 9) 177 false,
 kG 180 (.ld false 1 179) 177 false,
 kG 181 (.call none true 49 [178, 180]) 177 false,
 kG 182 (.un .not 181) 177 false,
 kO 183 (.pick 177 (.c (.bool true)) 182),
 kO 184 (.mv 183),
 kG 185 (.fa 3 1) 184 false,
 kG 186 (.ld false 1 185) 184 false,
 kG 187 (.fa 2 9) 184 false,
 kG 188 (.ld false 1 187) 184 false,
 kG 189 (.ixs 9 186 188) 184 false,
 kG 190 (.fa 0 189) 184 false,
 kG 191 (.ld false 1 190) 184 false,
 kG 192 (.bin .neq 191 (ci 32)) 184 false,
 kO 193 (.pick 184 (.c (.bool true)) 192)])
 (.cond 193
 (.seq (.region [
  kO 2 (.mv (ci 80))])
  .ret)
 .skip))))
 c_q60_3)
def c_q60_5 : CCode :=
  (.seq (.seq (.region [
 kO 149 (.mv 8),
 kO 150 (.fa 4 1),
 kO 151 (.ld false 1 150),
 kO 152 (.len 1 151),
 kO 153 (.bin .lss 149 152)])
 (.cond 153
 .skip
 (.exit 6)))
 c_q60_4)
def c_q60_L2 : CCode :=
  (.loop [1, 3, 8] c_q60_5)
def c_q60_6 : CCode :=
  (.block 6 c_q60_L2)
def c_q60_7 : CCode :=
  (.seq (.region [
 kO 8 (.mv (ci 0))])
 c_q60_6)
def c_q60_8 : CCode :=
  (.seq c_q60_7
 c_q60_1)
def c_q60_10 : CCode :=
  (.region [
 kO 103 (.mv 6),
 kO 104 (.bin .add 103 (ci 1)),
 kO 6 (.mv 104)])
def c_q60_11 : CCode :=
  (.seq (.block 5 (.seq (.region [
 kO 105 (.fa 3 1),
 kO 106 (.ld false 1 105),
 kO 107 (.mv 6),
 kO 108 (.ixs 9 106 107),
 kO 109 (.ld true 9 108),
 kO 7 (.new (some 1) [(.int .i64 0), (.int .i64 0), (.int .i64 0), (.int .i64 0), (.int .i64 0), (.int .i64 0), (.int .i64 0), (.str []), .nils]),
 kU (.st 9 7 109)])
 (.seq (.region [
 kO 110 (.ld true 5 1),
 kO 111 (.ld true 9 7),
 kO 112 (.call none true 64 [110, 111]),
 kO 113 (.un .not 112),
 kO 114 (.mv 113),
 kG 115 (.fa 0 7) 114 false,
 kG 116 (.ld false 1 115) 114 false,
 kG 117 (.bin .eql 116 (ci 32)) 114 false,
 kG 118 (.mv 117) 114 false,
 kG 119 (.mv 6) 118 true,
 kG 120 (.bin .eql 119 (ci 0)) 118 true,
 kG 121 (.mv 120) 118 true,
 kG 122 (.fa 3 1) 121 false,
 kG 123 (.ld false 1 122) 121 false,
 kG 124 (.mv 6) 121 false,
 kG 125 (.bin .sub 124 (ci 1)) 121 false,
 kG 126 (.ixs 9 123 125) 121 false,
 kG 127 (.fa 0 126) 121 false,
 kG 128 (.ld false 1 127) 121 false,
 kG 129 (.call none true 25 [128]) 121 false,
 kG 130 (.un .not 129) 121 false,
 kG 131 (.pick 121 (.c (.bool true)) 130) 118 true,
 kG 132 (.pick 118 131 (.c (.bool false))) 114 false,
 kO 133 (.pick 114 (.c (.bool true)) 132),
 kO 134 (.mv 133),
 kG 135 (.fa 0 7) 134 false,
 kG 136 (.ld false 1 135) 134 false,
 kG 137 (.call none true 23 [136]) 134 false,
 kG 138 (.mv 137) 134 false,
 kG 139 (.fa 3 1) 138 true,
 kG 140 (.ld false 1 139) 138 true,
 kG 141 (.fa 6 7) 138 true,
 kG 142 (.ld false 1 141) 138 true,
 kG 143 (.ixs 9 140 142) 138 true,
 kG 144 (.fa 0 143) 138 true,
 kG 145 (.ld false 1 144) 138 true,
 kG 146 (.bin .eql 145 (ci 32)) 138 true,
 kG 147 (.pick 138 146 (.c (.bool false))) 134 false,
 kO 148 (.pick 134 (.c (.bool true)) 147)])
 (.cond 148
 (.seq (.region [
  kO 2 (.mv (ci 80))])
  .ret)
 .skip))))
 c_q60_10)
def c_q60_12 : CCode :=
  (.seq (.seq (.region [
 kO 100 (.mv 6),
 kO 101 (.mv 3),
 kO 102 (.bin .lss 100 101)])
 (.cond 102
 .skip
 (.exit 4)))
 c_q60_11)
def c_q60_L9 : CCode :=
  (.loop [1, 3, 6] c_q60_12)
def c_q60_13 : CCode :=
  (.block 4 c_q60_L9)
def c_q60_14 : CCode :=
  (.seq (.region [
 kO 6 (.mv (ci 0))])
 c_q60_13)
def c_q60_15 : CCode :=
  (.seq c_q60_14
 c_q60_8)
def c_q60_17 : CCode :=
  (.region [
 kO 78 (.mv 5),
 kO 79 (.bin .add 78 (ci 1)),
 kO 5 (.mv 79)])
def c_q60_18 : CCode :=
  (.seq (.block 3 (.seq (.draw [
 kO 80 (.ld true 5 1),
 kO 81 (.fa 1 1),
 kO 82 (.ld false 1 81),
 kO 83 (.mv 5),
 kO 84 (.ixs 1 82 83),
 kO 85 (.ld false 1 84),
 kO 86 (.call none true 48 [80, 85]),
 kO 87 (.bin .eql 86 (ci 0)),
 kO 88 (.mv 87),
 kG 89 (.fa 1 1) 88 false,
 kG 90 (.ld false 1 89) 88 false,
 kG 91 (.mv 5) 88 false,
 kG 92 (.ixs 1 90 91) 88 false,
 kG 93 (.ld false 1 92) 88 false,
 kG 94 (.fa 1 1) 88 false,
 kG 95 (.ld false 1 94) 88 false,
 kG 96 (.mv 5) 88 false,
 kG 97 (.slc 1 95 none (some 96)) 88 false,
 kG 98 (.call none true 42 [93, 97]) 88 false,
 kO 99 (.pick 88 (.c (.bool true)) 98)] [])
 (.cond 99
 (.seq (.region [
  kO 2 (.mv (ci 80))])
  .ret)
 .skip)))
 c_q60_17)
def c_q60_19 : CCode :=
  (.seq (.seq (.region [
 kO 73 (.mv 5),
 kO 74 (.fa 1 1),
 kO 75 (.ld false 1 74),
 kO 76 (.len 1 75),
 kO 77 (.bin .lss 73 76)])
 (.cond 77
 .skip
 (.exit 2)))
 c_q60_18)
def c_q60_L16 : CCode :=
  (.loop [1, 3, 5] c_q60_19)
def c_q60_20 : CCode :=
  (.block 2 c_q60_L16)
def c_q60_21 : CCode :=
  (.seq (.region [
 kO 5 (.mv (ci 0))])
 c_q60_20)
def c_q60_22 : CCode :=
  (.seq c_q60_21
 c_q60_15)
def c_q60_24 : CCode :=
  (.region [
 kO 57 (.mv 4),
 kO 58 (.bin .add 57 (ci 1)),
 kO 4 (.mv 58)])
def c_q60_25 : CCode :=
  (.seq (.block 1 (.seq (.region [
 kO 59 (.fa 0 1),
 kO 60 (.ld false 1 59),
 kO 61 (.mv 4),
 kO 62 (.ixs 1 60 61),
 kO 63 (.ld false 1 62),
 kO 64 (.bin .lss 63 (ci 1)),
 kO 65 (.mv 64),
 kG 66 (.fa 0 1) 65 false,
 kG 67 (.ld false 1 66) 65 false,
 kG 68 (.mv 4) 65 false,
 kG 69 (.ixs 1 67 68) 65 false,
 kG 70 (.ld false 1 69) 65 false,
 kG 71 (.bin .gtr 70 (ci 3)) 65 false,
 kO 72 (.pick 65 (.c (.bool true)) 71)])
 (.cond 72
 (.seq (.region [
  kO 2 (.mv (ci 80))])
  .ret)
 .skip)))
 c_q60_24)
def c_q60_26 : CCode :=
  (.seq (.seq (.region [
 kO 52 (.mv 4),
 kO 53 (.fa 0 1),
 kO 54 (.ld false 1 53),
 kO 55 (.len 1 54),
 kO 56 (.bin .lss 52 55)])
 (.cond 56
 .skip
 (.exit 0)))
 c_q60_25)
def c_q60_L23 : CCode :=
  (.loop [1, 3, 4] c_q60_26)
def c_q60_27 : CCode :=
  (.block 0 c_q60_L23)
def c_q60_28 : CCode :=
  (.seq (.region [
 kO 4 (.mv (ci 0))])
 c_q60_27)
def c_q60_29 : CCode :=
  (.seq c_q60_28
 c_q60_22)
def c_q60_30 : CCode :=
  (.seq (.seq (.region [
 kO 13 (.mv 3),
 kO 14 (.bin .eql 13 (ci 0)),
 kO 15 (.mv 14),
 kG 16 (.mv 3) 15 false,
 kG 17 (.bin .gtr 16 (ci 20000)) 15 false,
 kO 18 (.pick 15 (.c (.bool true)) 17),
 kO 19 (.mv 18),
 kG 20 (.fa 0 1) 19 false,
 kG 21 (.ld false 1 20) 19 false,
 kG 22 (.len 1 21) 19 false,
 kG 23 (.bin .gtr 22 (ci 20000)) 19 false,
 kO 24 (.pick 19 (.c (.bool true)) 23),
 kO 25 (.mv 24),
 kG 26 (.fa 1 1) 25 false,
 kG 27 (.ld false 1 26) 25 false,
 kG 28 (.len 1 27) 25 false,
 kG 29 (.bin .gtr 28 (ci 21)) 25 false,
 kO 30 (.pick 25 (.c (.bool true)) 29),
 kO 31 (.mv 30),
 kG 32 (.fa 2 1) 31 false,
 kG 33 (.ld false 1 32) 31 false,
 kG 34 (.bin .lss 33 (ci 0)) 31 false,
 kO 35 (.pick 31 (.c (.bool true)) 34),
 kO 36 (.mv 35),
 kG 37 (.fa 2 1) 36 false,
 kG 38 (.ld false 1 37) 36 false,
 kG 39 (.bin .gtr 38 (ci 3)) 36 false,
 kO 40 (.pick 36 (.c (.bool true)) 39),
 kO 41 (.mv 40),
 kG 42 (.fa 3 1) 41 false,
 kG 43 (.ld false 1 42) 41 false,
 kG 44 (.mv 3) 41 false,
 kG 45 (.bin .sub 44 (ci 1)) 41 false,
 kG 46 (.ixs 9 43 45) 41 false,
 kG 47 (.fa 0 46) 41 false,
 kG 48 (.ld false 1 47) 41 false,
 kG 49 (.call none true 25 [48]) 41 false,
 kG 50 (.un .not 49) 41 false,
 kO 51 (.pick 41 (.c (.bool true)) 50)])
 (.cond 51
 (.seq (.region [
  kO 2 (.mv (ci 80))])
  .ret)
 .skip))
 c_q60_29)
def c_q60_31 : CCode :=
  (.seq (.region [
 kO 10 (.fa 3 1),
 kO 11 (.ld false 1 10),
 kO 12 (.len 1 11),
 kO 3 (.mv 12)])
 c_q60_30)
def c_q60_32 : CCode :=
  (.seq (.region [
 kO 1 (.box (some 0) 0),
 kO 2 (.mv (ci 0))])
 c_q60_31)
def c_q60 : CFunc :=
  ⟨1, true, 3, c_q60_32, [.t 2]⟩
def c_q38_1 : CCode :=
  (.seq (.region [
 kO 6 (.mv (.c (.bool false)))])
 (.seq (.region [
 kO 7 (.mv 0),
 kO 8 (.eqn 0 true 7 (.c .nilp)),
 kO 9 (.mv 8),
 kG 10 (.mv 0) 9 true,
 kG 11 (.mv 0) 9 true,
 kG 12 (.nilchk 11) 9 true,
 kG 13 (.fa 0 12) 9 true,
 kG 14 (.ld false 1 13) 9 true,
 kG 15 (.mv 1) 9 true,
 kG 16 (.mv 2) 9 true,
 kG 17 (.call none true 82 [10, 14, 15, 16]) 9 true,
 kO 18 (.pick 9 17 (.c (.bool false))),
 kO 6 (.mv 18)])
 .ret))
def c_q38 : CFunc :=
  ⟨3, true, 0, c_q38_1, [.t 6]⟩
def c_q37 : CFunc :=
  ⟨3, true, 0, (.seq (.region [
    kO 6 (.mv (.c (.bool false)))])
  (.seq (.region [
    kO 7 (.mv 0),
    kO 8 (.eqn 0 true 7 (.c .nilp)),
    kO 9 (.mv 8),
    kG 10 (.mv 0) 9 true,
    kG 11 (.mv 0) 9 true,
    kG 12 (.nilchk 11) 9 true,
    kG 13 (.fa 1 12) 9 true,
    kG 14 (.ld false 1 13) 9 true,
    kG 15 (.mv 1) 9 true,
    kG 16 (.mv 2) 9 true,
    kG 17 (.call none true 82 [10, 14, 15, 16]) 9 true,
    kO 18 (.pick 9 17 (.c (.bool false))),
    kO 6 (.mv 18)])
  .ret)), [.t 6]⟩
def c_q36 : CFunc :=
  ⟨4, true, 1, (.seq (.region [
    kO 5 (.box (some 0) 1),
    kO 8 (.mv (.c (.bool false)))])
  (.seq (.seq (.region [
    kO 9 (.mv 0),
    kO 10 (.eqn 0 false 9 (.c .nilp)),
    kO 11 (.mv 10),
    kG 12 (.mv 2) 11 false,
    kG 13 (.bin .lss 12 (ci 0)) 11 false,
    kO 14 (.pick 11 (.c (.bool true)) 13),
    kO 15 (.mv 14),
    kG 16 (.mv 2) 15 false,
    kG 17 (.fa 3 5) 15 false,
    kG 18 (.ld false 1 17) 15 false,
    kG 19 (.len 1 18) 15 false,
    kG 20 (.bin .geq 16 19) 15 false,
    kO 21 (.pick 15 (.c (.bool true)) 20),
    kO 22 (.mv 21),
    kG 23 (.mv 2) 22 false,
    kG 24 (.mv 0) 22 false,
    kG 25 (.nilchk 24) 22 false,
    kG 26 (.fa 1 25) 22 false,
    kG 27 (.ld false 1 26) 22 false,
    kG 28 (.len 1 27) 22 false,
    kG 29 (.bin .geq 23 28) 22 false,
    kO 30 (.pick 22 (.c (.bool true)) 29)])
  (.cond 30
  (.seq (.region [
      kO 8 (.mv (.c (.bool false)))])
    .ret)
  .skip))
  (.seq (.region [
    kO 31 (.mv 0),
    kO 32 (.mv 0),
    kO 33 (.nilchk 32),
    kO 34 (.fa 2 33),
    kO 35 (.ld false 1 34),
    kO 36 (.mv 2),
    kO 37 (.mv 3),
    kO 38 (.call none true 82 [31, 35, 36, 37]),
    kO 39 (.mv 38),
    kG 40 (.mv 0) 39 false,
    kG 41 (.mv 0) 39 false,
    kG 42 (.nilchk 41) 39 false,
    kG 43 (.fa 1 42) 39 false,
    kG 44 (.ld false 1 43) 39 false,
    kG 45 (.mv 2) 39 false,
    kG 46 (.mv 3) 39 false,
    kG 47 (.call none true 82 [40, 44, 45, 46]) 39 false,
    kG 48 (.mv 47) 39 false,
    kG 49 (.fa 3 5) 48 true,
    kG 50 (.ld false 1 49) 48 true,
    kG 51 (.mv 2) 48 true,
    kG 52 (.ixs 9 50 51) 48 true,
    kG 53 (.ld true 9 52) 48 true,
    kG 54 (.call none true 9 [53]) 48 true,
    kG 55 (.mv 3) 48 true,
    kG 56 (.bin .neq 54 55) 48 true,
    kG 57 (.pick 48 56 (.c (.bool false))) 39 false,
    kO 58 (.pick 39 (.c (.bool true)) 57),
    kO 8 (.mv 58)])
  .ret))), [.t 8]⟩
def c_q68_1 : CCode :=
  (.seq (.region [
 kO 61 (.mv 3),
 kO 2 (.mv 61)])
 .ret)
def c_q68_3 : CCode :=
  (.region [
 kO 35 (.mv 6),
 kO 36 (.bin .add 35 (ci 1)),
 kO 6 (.mv 36)])
def c_q68_4 : CCode :=
  (.seq (.block 1 (.seq (.region [
 kO 37 (.mv 4),
 kO 38 (.mv 6),
 kO 39 (.ixstr 37 38),
 kO 40 (.bin .neq 39 (.c (.int .u8 45))),
 kO 41 (.mv 40),
 kG 42 (.mv 4) 41 true,
 kG 43 (.mv 6) 41 true,
 kG 44 (.ixstr 42 43) 41 true,
 kG 45 (.bin .neq 44 (.c (.int .u8 63))) 41 true,
 kG 46 (.mv 45) 41 true,
 kG 47 (.mv 5) 46 false,
 kG 48 (.mv 6) 46 false,
 kG 49 (.ixs 1 47 48) 46 false,
 kG 50 (.ld false 1 49) 46 false,
 kG 51 (.bin .geq 50 (ci 0)) 46 false,
 kG 52 (.pick 46 (.c (.bool true)) 51) 41 true,
 kO 53 (.pick 41 52 (.c (.bool false)))])
 (.cond 53
 (.region [
  kO 54 (.mv 3),
  kO 55 (.mv 5),
  kO 56 (.mv 6),
  kO 57 (.ixs 1 55 56),
  kO 58 (.ld false 1 57),
  kO 59 (.buildS (some 3) 1 1 [(.int .i64 0)] [(0, 58)]),
  kO 60 (.app (some 4) 1 8 54 59),
  kO 3 (.mv 60)])
 .skip)))
 c_q68_3)
def c_q68_5 : CCode :=
  (.seq (.seq (.region [
 kO 31 (.mv 6),
 kO 32 (.mv 4),
 kO 33 (.len 0 32),
 kO 34 (.bin .lss 31 33)])
 (.cond 34
 .skip
 (.exit 0)))
 c_q68_4)
def c_q68_L2 : CCode :=
  (.loop [3, 4, 5, 6] c_q68_5)
def c_q68_6 : CCode :=
  (.block 0 c_q68_L2)
def c_q68_7 : CCode :=
  (.seq (.region [
 kO 6 (.mv (ci 1))])
 c_q68_6)
def c_q68_8 : CCode :=
  (.seq c_q68_7
 c_q68_1)
def c_q68_9 : CCode :=
  (.seq (.region [
 kO 22 (.fa 1 1),
 kO 23 (.ld false 1 22),
 kO 24 (.fa 2 1),
 kO 25 (.ld false 1 24),
 kO 26 (.fa 3 1),
 kO 27 (.ld false 1 26),
 kO 28 (.fa 4 1),
 kO 29 (.ld false 1 28),
 kO 30 (.buildS (some 2) 1 4 [(.int .i64 0)] [(0, 23), (1, 25), (2, 27), (3, 29)]),
 kO 5 (.mv 30)])
 c_q68_8)
def c_q68_10 : CCode :=
  (.seq (.seq (.region [
 kO 19 (.fa 0 1),
 kO 20 (.ld false 1 19),
 kO 21 (.bin .eql 20 (ci 6))])
 (.cond 21
 (.region [
  kO 4 (.mv (.c (.str [45, 42, 45, 45])))])
 .skip))
 c_q68_9)
def c_q68_11 : CCode :=
  (.seq (.seq (.region [
 kO 16 (.fa 0 1),
 kO 17 (.ld false 1 16),
 kO 18 (.bin .eql 17 (ci 5))])
 (.cond 18
 (.region [
  kO 4 (.mv (.c (.str [45, 42, 42, 45])))])
 .skip))
 c_q68_10)
def c_q68_12 : CCode :=
  (.seq (.region [
 kO 13 (.fa 0 1),
 kO 14 (.ld false 1 13),
 kO 15 (.call none true 38 [14]),
 kO 4 (.mv 15)])
 c_q68_11)
def c_q68_13 : CCode :=
  (.seq (.region [
 kO 3 (.mv (.c .nils))])
 c_q68_12)
def c_q68_14 : CCode :=
  (.seq (.seq (.region [
 kO 7 (.fa 0 1),
 kO 8 (.ld false 1 7),
 kO 9 (.call none true 7 [8])])
 (.cond 9
 (.seq (.region [
  kO 10 (.fa 8 1),
  kO 11 (.ld false 1 10),
  kO 12 (.app (some 1) 1 8 (.c .nils) 11),
  kO 2 (.mv 12)])
  .ret)
 .skip))
 c_q68_13)
def c_q68_15 : CCode :=
  (.seq (.region [
 kO 1 (.box (some 0) 0),
 kO 2 (.mv (.c .nils))])
 c_q68_14)
def c_q68 : CFunc :=
  ⟨1, true, 5, c_q68_15, [.t 2]⟩
def c_q61_1 : CCode :=
  (.seq (.region [
 kO 14 (.fa 1 1),
 kO 15 (.ld false 1 14),
 kO 2 (.mv 15)])
 .ret)
def c_q61_2 : CCode :=
  (.seq (.seq (.region [
 kO 7 (.mv 3),
 kO 8 (.bin .eql 7 (.c (.str []))),
 kO 9 (.mv 8),
 kG 10 (.mv 3) 9 false,
 kG 11 (.ixstr 10 (ci 0)) 9 false,
 kG 12 (.bin .eql 11 (.c (.int .u8 45))) 9 false,
 kO 13 (.pick 9 (.c (.bool true)) 12)])
 (.cond 13
 (.seq (.region [
  kO 2 (.mv (ci (-1)))])
  .ret)
 .skip))
 c_q61_1)
def c_q61_3 : CCode :=
  (.seq (.region [
 kO 4 (.fa 0 1),
 kO 5 (.ld false 1 4),
 kO 6 (.call none true 38 [5]),
 kO 3 (.mv 6)])
 c_q61_2)
def c_q61_4 : CCode :=
  (.seq (.region [
 kO 1 (.box (some 0) 0),
 kO 2 (.mv (ci 0))])
 c_q61_3)
def c_q61 : CFunc :=
  ⟨1, true, 1, c_q61_4, [.t 2]⟩
def c_q67_1 : CCode :=
  (.seq (.region [
 kO 2 (.mv (.c (.bool false)))])
 (.seq (.region [
 kO 3 (.mv 0),
 kO 4 (.bin .geq 3 (ci 7)),
 kO 5 (.mv 4),
 kG 6 (.mv 0) 5 true,
 kG 7 (.bin .leq 6 (ci 12)) 5 true,
 kO 8 (.pick 5 7 (.c (.bool false))),
 kO 9 (.mv 8),
 kG 10 (.mv 0) 9 false,
 kG 11 (.buildS (some 0) 1 3 [(.int .i64 0)] [(0, (ci 20)), (1, (ci 21)), (2, (ci 31))]) 9 false,
 kG 12 (.call none true 42 [10, 11]) 9 false,
 kO 13 (.pick 9 (.c (.bool true)) 12),
 kO 14 (.mv 13),
 kG 15 (.mv 0) 14 false,
 kG 16 (.call none true 7 [15]) 14 false,
 kO 17 (.pick 14 (.c (.bool true)) 16),
 kO 2 (.mv 17)])
 .ret))
def c_q67 : CFunc :=
  ⟨1, true, 1, c_q67_1, [.t 2]⟩
def c_q64_1 : CCode :=
  (.seq (.region [
 kO 2 (.mv (.c (.bool false)))])
 (.seq (.region [
 kO 3 (.mv 0),
 kO 4 (.buildS (some 0) 1 3 [(.int .i64 0)] [(0, (ci 27)), (1, (ci 28)), (2, (ci 29))]),
 kO 5 (.call none true 42 [3, 4]),
 kO 2 (.mv 5)])
 .ret))
def c_q64 : CFunc :=
  ⟨1, true, 1, c_q64_1, [.t 2]⟩
def c_q62_1 : CCode :=
  (.seq (.region [
 kO 2 (.mv (.c (.bool false)))])
 (.seq (.region [
 kO 3 (.mv 0),
 kO 4 (.buildS (some 0) 1 3 [(.int .i64 0)] [(0, (ci 27)), (1, (ci 30)), (2, (ci 31))]),
 kO 5 (.call none true 42 [3, 4]),
 kO 2 (.mv 5)])
 .ret))
def c_q62 : CFunc :=
  ⟨1, true, 1, c_q62_1, [.t 2]⟩
def c_q8_1 : CCode :=
  (.seq (.region [
 kO 2 (.mv (.c (.bool true)))])
 .ret)
def c_q8_3 : CCode :=
  (.region [
 kO 134 (.bin .add 106 (ci 1)),
 kO 106 (.mv 134)])
def c_q8_5 : CCode :=
  (.region [
 kO 133 (.bin .add 114 (ci 1)),
 kO 114 (.mv 133)])
def c_q8_6 : CCode :=
  (.seq (.block 11 (.seq (.region [
 kO 116 (.ixs 1 112 114),
 kO 117 (.ld false 1 116),
 kO 18 (.mv 117)])
 (.seq (.region [
 kO 118 (.mv 3),
 kO 119 (.mv 15),
 kO 120 (.ixs 1 118 119),
 kO 121 (.ld false 1 120),
 kO 122 (.eqn 1 true 121 (.c .nils)),
 kO 123 (.mv 122),
 kG 124 (.mv 3) 123 true,
 kG 125 (.mv 15) 123 true,
 kG 126 (.ixs 1 124 125) 123 true,
 kG 127 (.ld false 1 126) 123 true,
 kG 128 (.mv 18) 123 true,
 kG 129 (.ixs 1 127 128) 123 true,
 kG 130 (.ld false 1 129) 123 true,
 kG 131 (.un .not 130) 123 true,
 kO 132 (.pick 123 131 (.c (.bool false)))])
 (.cond 132
 (.seq (.region [
  kO 2 (.mv (.c (.bool false)))])
  .ret)
 .skip))))
 c_q8_5)
def c_q8_7 : CCode :=
  (.seq (.cond 115
 .skip
 (.exit 10))
 c_q8_6)
def c_q8_8 : CCode :=
  (.seq (.region [
 kO 115 (.bin .lss 114 113)])
 c_q8_7)
def c_q8_L4 : CCode :=
  (.loop [3, 15, 104, 105, 106, 112, 113, 114] c_q8_8)
def c_q8_9 : CCode :=
  (.block 10 c_q8_L4)
def c_q8_10 : CCode :=
  (.seq (.region [
 kO 111 (.ld true 9 16),
 kO 112 (.call none true 10 [111]),
 kO 113 (.len 1 112),
 kO 114 (.mv (ci 0))])
 c_q8_9)
def c_q8_11 : CCode :=
  (.seq (.region [
 kO 108 (.mv 106),
 kO 109 (.ixs 9 104 106),
 kO 110 (.ld true 9 109),
 kO 16 (.new (some 5) [(.int .i64 0), (.int .i64 0), (.int .i64 0), (.int .i64 0), (.int .i64 0), (.int .i64 0), (.int .i64 0), (.str []), .nils]),
 kO 15 (.mv 108),
 kU (.st 9 16 110)])
 c_q8_10)
def c_q8_12 : CCode :=
  (.block 9 c_q8_11)
def c_q8_13 : CCode :=
  (.seq c_q8_12
 c_q8_3)
def c_q8_14 : CCode :=
  (.seq (.cond 107
 .skip
 (.exit 8))
 c_q8_13)
def c_q8_15 : CCode :=
  (.seq (.region [
 kO 107 (.bin .lss 106 105)])
 c_q8_14)
def c_q8_L2 : CCode :=
  (.loop [3, 104, 105, 106] c_q8_15)
def c_q8_16 : CCode :=
  (.block 8 c_q8_L2)
def c_q8_17 : CCode :=
  (.seq (.region [
 kO 103 (.fa 3 1),
 kO 104 (.ld false 1 103),
 kO 105 (.len 1 104),
 kO 106 (.mv (ci 0))])
 c_q8_16)
def c_q8_18 : CCode :=
  (.seq c_q8_17
 c_q8_1)
def c_q8_21 : CCode :=
  (.region [
 kO 102 (.bin .add 93 (ci 1)),
 kO 93 (.mv 102)])
def c_q8_22 : CCode :=
  (.seq (.block 7 (.seq (.region [
 kO 95 (.ixs 1 91 93),
 kO 96 (.ld false 1 95),
 kO 14 (.mv 96)])
 (.region [
 kO 97 (.mv 3),
 kO 98 (.mv 14),
 kO 99 (.mv 9),
 kO 100 (.mv 7),
 kO 101 (.call none false 80 [97, 98, 99, 100]),
 kO 7 (.mv 101)])))
 c_q8_21)
def c_q8_23 : CCode :=
  (.seq (.cond 94
 .skip
 (.exit 6))
 c_q8_22)
def c_q8_24 : CCode :=
  (.seq (.region [
 kO 94 (.bin .lss 93 92)])
 c_q8_23)
def c_q8_L20 : CCode :=
  (.loop [1, 3, 7, 9, 91, 92, 93] c_q8_24)
def c_q8_25 : CCode :=
  (.block 6 c_q8_L20)
def c_q8_26 : CCode :=
  (.seq (.region [
 kO 89 (.ld true 5 1),
 kO 90 (.mv 8),
 kO 91 (.call none true 81 [89, 90]),
 kO 92 (.len 1 91),
 kO 93 (.mv (ci 0))])
 c_q8_25)
def c_q8_27 : CCode :=
  (.seq (.seq (.region [
 kO 78 (.fa 3 1),
 kO 79 (.ld false 1 78),
 kO 80 (.mv 8),
 kO 81 (.ixs 9 79 80),
 kO 82 (.ld true 9 81),
 kO 83 (.call none true 9 [82]),
 kO 12 (.mv 83)])
 (.seq (.region [
 kO 84 (.mv 12),
 kO 85 (.bin .geq 84 (ci 0))])
 (.cond 85
 (.region [
  kO 86 (.mv 9),
  kO 87 (.mv 12),
  kO 88 (.ixs 1 86 87),
  kU (.st 1 88 (.c (.bool true)))])
 .skip)))
 c_q8_26)
def c_q8_29 : CCode :=
  (.region [
 kO 77 (.bin .add 68 (ci 1)),
 kO 68 (.mv 77)])
def c_q8_30 : CCode :=
  (.seq (.block 5 (.seq (.region [
 kO 70 (.ixs 1 66 68),
 kO 71 (.ld false 1 70),
 kO 11 (.mv 71)])
 (.region [
 kO 72 (.mv 3),
 kO 73 (.mv 11),
 kO 74 (.mv 9),
 kO 75 (.mv 7),
 kO 76 (.call none false 80 [72, 73, 74, 75]),
 kO 7 (.mv 76)])))
 c_q8_29)
def c_q8_31 : CCode :=
  (.seq (.cond 69
 .skip
 (.exit 4))
 c_q8_30)
def c_q8_32 : CCode :=
  (.seq (.region [
 kO 69 (.bin .lss 68 67)])
 c_q8_31)
def c_q8_L28 : CCode :=
  (.loop [1, 3, 7, 8, 9, 66, 67, 68] c_q8_32)
def c_q8_33 : CCode :=
  (.block 4 c_q8_L28)
def c_q8_34 : CCode :=
  (.seq (.region [
 kO 64 (.ld true 5 1),
 kO 65 (.mv 8),
 kO 66 (.call none true 79 [64, 65]),
 kO 67 (.len 1 66),
 kO 68 (.mv (ci 0))])
 c_q8_33)
def c_q8_35 : CCode :=
  (.seq c_q8_34
 c_q8_27)
def c_q8_36 : CCode :=
  (.seq (.region [
 kO 59 (.mv 3),
 kO 60 (.mv 8),
 kO 61 (.ixs 1 59 60),
 kO 62 (.ld false 1 61),
 kO 63 (.call (some 4) false 78 [62]),
 kO 9 (.mv 63)])
 c_q8_35)
def c_q8_37 : CCode :=
  (.seq (.region [
 kO 54 (.mv 7),
 kO 55 (.mv 7),
 kO 56 (.len 1 55),
 kO 57 (.bin .sub 56 (ci 1)),
 kO 58 (.slc 1 54 none (some 57)),
 kO 7 (.mv 58)])
 c_q8_36)
def c_q8_38 : CCode :=
  (.seq (.region [
 kO 48 (.mv 7),
 kO 49 (.mv 7),
 kO 50 (.len 1 49),
 kO 51 (.bin .sub 50 (ci 1)),
 kO 52 (.ixs 1 48 51),
 kO 53 (.ld false 1 52),
 kO 8 (.mv 53)])
 c_q8_37)
def c_q8_39 : CCode :=
  (.block 3 c_q8_38)
def c_q8_40 : CCode :=
  (.seq (.seq (.region [
 kO 45 (.mv 7),
 kO 46 (.len 1 45),
 kO 47 (.bin .gtr 46 (ci 0))])
 (.cond 47
 .skip
 (.exit 2)))
 c_q8_39)
def c_q8_L19 : CCode :=
  (.loop [1, 3, 7] c_q8_40)
def c_q8_41 : CCode :=
  (.block 2 c_q8_L19)
def c_q8_42 : CCode :=
  (.seq c_q8_41
 c_q8_18)
def c_q8_43 : CCode :=
  (.seq (.region [
 kO 42 (.mv 3),
 kO 43 (.mv 4),
 kO 44 (.ixs 1 42 (ci 0)),
 kU (.st 1 44 43)])
 c_q8_42)
def c_q8_44 : CCode :=
  (.seq (.region [
 kO 41 (.buildS (some 3) 1 1 [(.int .i64 0)] [(0, (ci 0))]),
 kO 7 (.mv 41)])
 c_q8_43)
def c_q8_46 : CCode :=
  (.region [
 kO 40 (.bin .add 33 (ci 1)),
 kO 33 (.mv 40)])
def c_q8_47 : CCode :=
  (.seq (.block 1 (.seq (.region [
 kO 35 (.ixs 1 31 33),
 kO 36 (.ld false 1 35),
 kO 6 (.mv 36)])
 (.region [
 kO 37 (.mv 4),
 kO 38 (.mv 6),
 kO 39 (.ixs 1 37 38),
 kU (.st 1 39 (.c (.bool true)))])))
 c_q8_46)
def c_q8_48 : CCode :=
  (.seq (.cond 34
 .skip
 (.exit 0))
 c_q8_47)
def c_q8_49 : CCode :=
  (.seq (.region [
 kO 34 (.bin .lss 33 32)])
 c_q8_48)
def c_q8_L45 : CCode :=
  (.loop [1, 3, 4, 31, 32, 33] c_q8_49)
def c_q8_50 : CCode :=
  (.block 0 c_q8_L45)
def c_q8_51 : CCode :=
  (.seq (.region [
 kO 30 (.fa 1 1),
 kO 31 (.ld false 1 30),
 kO 32 (.len 1 31),
 kO 33 (.mv (ci 0))])
 c_q8_50)
def c_q8_52 : CCode :=
  (.seq c_q8_51
 c_q8_44)
def c_q8_53 : CCode :=
  (.seq (.region [
 kO 26 (.fa 0 1),
 kO 27 (.ld false 1 26),
 kO 28 (.len 1 27),
 kO 29 (.mkS (some 2) 1 1 [(.bool false)] 28 28),
 kO 4 (.mv 29)])
 c_q8_52)
def c_q8_54 : CCode :=
  (.seq (.region [
 kO 22 (.fa 3 1),
 kO 23 (.ld false 1 22),
 kO 24 (.len 1 23),
 kO 25 (.mkS (some 1) 1 24 [.nils] 24 24),
 kO 3 (.mv 25)])
 c_q8_53)
def c_q8_55 : CCode :=
  (.seq (.seq (.region [
 kO 19 (.ld true 5 1),
 kO 20 (.call none true 8 [19]),
 kO 21 (.bin .neq 20 (ci 0))])
 (.cond 21
 (.seq (.region [
  kO 2 (.mv (.c (.bool false)))])
  .ret)
 .skip))
 c_q8_54)
def c_q8_56 : CCode :=
  (.seq (.region [
 kO 1 (.box (some 0) 0),
 kO 2 (.mv (.c (.bool false)))])
 c_q8_55)
def c_q8 : CFunc :=
  ⟨1, true, 6, c_q8_56, [.t 2]⟩
def c_q17_1 : CCode :=
  (.seq (.region [
 kO 1 (.box (some 0) 0),
 kO 2 (.mv (.c (.bool false)))])
 (.seq (.region [
 kO 3 (.fa 0 1),
 kO 4 (.ld false 1 3),
 kO 5 (.bin .eql 4 (ci 27)),
 kO 6 (.mv 5),
 kG 7 (.fa 0 1) 6 false,
 kG 8 (.ld false 1 7) 6 false,
 kG 9 (.bin .eql 8 (ci 30)) 6 false,
 kO 10 (.pick 6 (.c (.bool true)) 9),
 kO 11 (.mv 10),
 kG 12 (.fa 0 1) 11 false,
 kG 13 (.ld false 1 12) 11 false,
 kG 14 (.bin .eql 13 (ci 31)) 11 false,
 kO 15 (.pick 11 (.c (.bool true)) 14),
 kO 2 (.mv 15)])
 .ret))
def c_q17 : CFunc :=
  ⟨1, true, 1, c_q17_1, [.t 2]⟩
def c_q18_1 : CCode :=
  (.seq (.region [
 kO 1 (.box (some 0) 0),
 kO 2 (.mv (.c (.bool false)))])
 (.seq (.region [
 kO 3 (.fa 0 1),
 kO 4 (.ld false 1 3),
 kO 5 (.bin .eql 4 (ci 27)),
 kO 6 (.mv 5),
 kG 7 (.fa 0 1) 6 false,
 kG 8 (.ld false 1 7) 6 false,
 kG 9 (.bin .eql 8 (ci 28)) 6 false,
 kO 10 (.pick 6 (.c (.bool true)) 9),
 kO 11 (.mv 10),
 kG 12 (.fa 0 1) 11 false,
 kG 13 (.ld false 1 12) 11 false,
 kG 14 (.bin .eql 13 (ci 29)) 11 false,
 kO 15 (.pick 11 (.c (.bool true)) 14),
 kO 2 (.mv 15)])
 .ret))
def c_q18 : CFunc :=
  ⟨1, true, 1, c_q18_1, [.t 2]⟩
def c_q105_1 : CCode :=
  (.seq (.region [
 kO 4 (.mv (.c (.bool false)))])
 (.seq (.region [
 kO 5 (.mv 0),
 kO 6 (.mv 1),
 kO 7 (.call none true 45 [5, 6]),
 kO 8 (.bin .geq 7 (ci 0)),
 kO 4 (.mv 8)])
 .ret))
def c_q105 : CFunc :=
  ⟨2, true, 0, c_q105_1, [.t 4]⟩
def c_q83_1 : CCode :=
  (.seq (.region [
 kO 4 (.mv (.c (.bool false)))])
 .ret)
def c_q83_3 : CCode :=
  (.region [
 kO 10 (.mv 5),
 kO 11 (.bin .add 10 (ci 1)),
 kO 5 (.mv 11)])
def c_q83_4 : CCode :=
  (.seq (.block 1 (.seq (.region [
 kO 12 (.mv 0),
 kO 13 (.mv 5),
 kO 14 (.ixs 1 12 13),
 kO 15 (.ld false 1 14),
 kO 16 (.mv 1),
 kO 17 (.bin .eql 15 16)])
 (.cond 17
 (.seq (.region [
  kO 4 (.mv (.c (.bool true)))])
  .ret)
 .skip)))
 c_q83_3)
def c_q83_5 : CCode :=
  (.seq (.seq (.region [
 kO 6 (.mv 5),
 kO 7 (.mv 0),
 kO 8 (.len 1 7),
 kO 9 (.bin .lss 6 8)])
 (.cond 9
 .skip
 (.exit 0)))
 c_q83_4)
def c_q83_L2 : CCode :=
  (.loop [0, 1, 5] c_q83_5)
def c_q83_6 : CCode :=
  (.block 0 c_q83_L2)
def c_q83_7 : CCode :=
  (.seq (.region [
 kO 5 (.mv (ci 0))])
 c_q83_6)
def c_q83_8 : CCode :=
  (.seq c_q83_7
 c_q83_1)
def c_q83_9 : CCode :=
  (.seq (.region [
 kO 4 (.mv (.c (.bool false)))])
 c_q83_8)
def c_q83 : CFunc :=
  ⟨2, true, 0, c_q83_9, [.t 4]⟩
def c_q19_1 : CCode :=
  (.seq (.region [
 kO 1 (.box (some 0) 0),
 kO 2 (.mv (.c (.bool false)))])
 (.seq (.region [
 kO 3 (.fa 0 1),
 kO 4 (.ld false 1 3),
 kO 5 (.bin .geq 4 (ci 7)),
 kO 6 (.mv 5),
 kG 7 (.fa 0 1) 6 true,
 kG 8 (.ld false 1 7) 6 true,
 kG 9 (.bin .leq 8 (ci 12)) 6 true,
 kO 10 (.pick 6 9 (.c (.bool false))),
 kO 11 (.mv 10),
 kG 12 (.fa 0 1) 11 false,
 kG 13 (.ld false 1 12) 11 false,
 kG 14 (.bin .eql 13 (ci 20)) 11 false,
 kO 15 (.pick 11 (.c (.bool true)) 14),
 kO 16 (.mv 15),
 kG 17 (.fa 0 1) 16 false,
 kG 18 (.ld false 1 17) 16 false,
 kG 19 (.bin .eql 18 (ci 21)) 16 false,
 kO 20 (.pick 16 (.c (.bool true)) 19),
 kO 21 (.mv 20),
 kG 22 (.fa 0 1) 21 false,
 kG 23 (.ld false 1 22) 21 false,
 kG 24 (.bin .eql 23 (ci 31)) 21 false,
 kO 25 (.pick 21 (.c (.bool true)) 24),
 kO 26 (.mv 25),
 kG 27 (.ld true 9 1) 26 false,
 kG 28 (.call none true 17 [27]) 26 false,
 kO 29 (.pick 26 (.c (.bool true)) 28),
 kO 2 (.mv 29)])
 .ret))
def c_q19 : CFunc :=
  ⟨1, true, 1, c_q19_1, [.t 2]⟩
def c_q14_1 : CCode :=
  (.seq (.region [
 kO 2 (.mv (ci 0))])
 .ret)
def c_q14_3 : CCode :=
  (.region [
 kO 179 (.bin .add 138 (ci 1)),
 kO 138 (.mv 179)])
def c_q14_4 : CCode :=
  (.seq (.block 7 (.seq (.region [
 kO 140 (.ixs 4 136 138),
 kO 141 (.ld true 4 140),
 kO 11 (.new (some 2) [(.int .i64 0), (.int .i64 0), (.int .i64 0), (.str [])]),
 kU (.st 4 11 141)])
 (.seq (.region [
 kO 142 (.fa 0 11),
 kO 143 (.ld false 1 142),
 kO 144 (.bin .lss 143 (ci 0)),
 kO 145 (.mv 144),
 kG 146 (.fa 0 11) 145 false,
 kG 147 (.ld false 1 146) 145 false,
 kG 148 (.fa 1 11) 145 false,
 kG 149 (.ld false 1 148) 145 false,
 kG 150 (.bin .geq 147 149) 145 false,
 kO 151 (.pick 145 (.c (.bool true)) 150),
 kO 152 (.mv 151),
 kG 153 (.fa 1 11) 152 false,
 kG 154 (.ld false 1 153) 152 false,
 kG 155 (.mv 3) 152 false,
 kG 156 (.bin .gtr 154 155) 152 false,
 kO 157 (.pick 152 (.c (.bool true)) 156),
 kO 158 (.mv 157),
 kG 159 (.fa 2 11) 158 false,
 kG 160 (.ld false 1 159) 158 false,
 kG 161 (.bin .lss 160 (ci 0)) 158 false,
 kO 162 (.pick 158 (.c (.bool true)) 161),
 kO 163 (.mv 162),
 kG 164 (.fa 2 11) 163 false,
 kG 165 (.ld false 1 164) 163 false,
 kG 166 (.mv 3) 163 false,
 kG 167 (.bin .geq 165 166) 163 false,
 kO 168 (.pick 163 (.c (.bool true)) 167),
 kO 169 (.mv 168),
 kG 170 (.fa 3 1) 169 false,
 kG 171 (.ld false 1 170) 169 false,
 kG 172 (.fa 2 11) 169 false,
 kG 173 (.ld false 1 172) 169 false,
 kG 174 (.ixs 9 171 173) 169 false,
 kG 175 (.fa 0 174) 169 false,
 kG 176 (.ld false 1 175) 169 false,
 kG 177 (.bin .neq 176 (ci 32)) 169 false,
 kO 178 (.pick 169 (.c (.bool true)) 177)])
 (.cond 178
 (.seq (.region [
  kO 2 (.mv (ci 80))])
  .ret)
 .skip))))
 c_q14_3)
def c_q14_5 : CCode :=
  (.seq (.cond 139
 .skip
 (.exit 6))
 c_q14_4)
def c_q14_6 : CCode :=
  (.seq (.region [
 kO 139 (.bin .lss 138 137)])
 c_q14_5)
def c_q14_L2 : CCode :=
  (.loop [1, 3, 136, 137, 138] c_q14_6)
def c_q14_7 : CCode :=
  (.block 6 c_q14_L2)
def c_q14_8 : CCode :=
  (.seq (.region [
 kO 135 (.fa 4 1),
 kO 136 (.ld false 1 135),
 kO 137 (.len 1 136),
 kO 138 (.mv (ci 0))])
 c_q14_7)
def c_q14_9 : CCode :=
  (.seq c_q14_8
 c_q14_1)
def c_q14_11 : CCode :=
  (.region [
 kO 134 (.bin .add 94 (ci 1)),
 kO 94 (.mv 134)])
def c_q14_12 : CCode :=
  (.seq (.region [
 kO 103 (.fa 0 9),
 kO 104 (.ld false 1 103),
 kO 105 (.bin .eql 104 (ci 32)),
 kO 106 (.mv 105),
 kG 107 (.mv 8) 106 true,
 kG 108 (.bin .eql 107 (ci 0)) 106 true,
 kG 109 (.mv 108) 106 true,
 kG 110 (.fa 3 1) 109 false,
 kG 111 (.ld false 1 110) 109 false,
 kG 112 (.mv 8) 109 false,
 kG 113 (.bin .sub 112 (ci 1)) 109 false,
 kG 114 (.ixs 9 111 113) 109 false,
 kG 115 (.ld true 9 114) 109 false,
 kG 116 (.call none true 24 [115]) 109 false,
 kG 117 (.un .not 116) 109 false,
 kG 118 (.pick 109 (.c (.bool true)) 117) 106 true,
 kO 119 (.pick 106 118 (.c (.bool false))),
 kO 120 (.mv 119),
 kG 121 (.ld true 9 9) 120 false,
 kG 122 (.call none true 22 [121]) 120 false,
 kG 123 (.mv 122) 120 false,
 kG 124 (.fa 3 1) 123 true,
 kG 125 (.ld false 1 124) 123 true,
 kG 126 (.fa 6 9) 123 true,
 kG 127 (.ld false 1 126) 123 true,
 kG 128 (.ixs 9 125 127) 123 true,
 kG 129 (.fa 0 128) 123 true,
 kG 130 (.ld false 1 129) 123 true,
 kG 131 (.bin .eql 130 (ci 32)) 123 true,
 kG 132 (.pick 123 131 (.c (.bool false))) 120 false,
 kO 133 (.pick 120 (.c (.bool true)) 132)])
 (.cond 133
 (.seq (.region [
  kO 2 (.mv (ci 80))])
  .ret)
 .skip))
def c_q14_13 : CCode :=
  (.seq (.seq (.region [
 kO 99 (.ld true 5 1),
 kO 100 (.ld true 9 9),
 kO 101 (.call none true 63 [99, 100]),
 kO 102 (.un .not 101)])
 (.cond 102
 (.seq (.region [
  kO 2 (.mv (ci 80))])
  .ret)
 .skip))
 c_q14_12)
def c_q14_14 : CCode :=
  (.seq (.region [
 kO 96 (.mv 94),
 kO 97 (.ixs 9 92 94),
 kO 98 (.ld true 9 97),
 kO 9 (.new (some 1) [(.int .i64 0), (.int .i64 0), (.int .i64 0), (.int .i64 0), (.int .i64 0), (.int .i64 0), (.int .i64 0), (.str []), .nils]),
 kO 8 (.mv 96),
 kU (.st 9 9 98)])
 c_q14_13)
def c_q14_15 : CCode :=
  (.block 5 c_q14_14)
def c_q14_16 : CCode :=
  (.seq c_q14_15
 c_q14_11)
def c_q14_17 : CCode :=
  (.seq (.cond 95
 .skip
 (.exit 4))
 c_q14_16)
def c_q14_18 : CCode :=
  (.seq (.region [
 kO 95 (.bin .lss 94 93)])
 c_q14_17)
def c_q14_L10 : CCode :=
  (.loop [1, 3, 92, 93, 94] c_q14_18)
def c_q14_19 : CCode :=
  (.block 4 c_q14_L10)
def c_q14_20 : CCode :=
  (.seq (.region [
 kO 91 (.fa 3 1),
 kO 92 (.ld false 1 91),
 kO 93 (.len 1 92),
 kO 94 (.mv (ci 0))])
 c_q14_19)
def c_q14_21 : CCode :=
  (.seq c_q14_20
 c_q14_9)
def c_q14_23 : CCode :=
  (.region [
 kO 90 (.bin .add 64 (ci 1)),
 kO 64 (.mv 90)])
def c_q14_24 : CCode :=
  (.seq (.block 3 (.seq (.region [
 kO 66 (.mv 64),
 kO 67 (.ixs 1 62 64),
 kO 68 (.ld false 1 67),
 kO 6 (.mv 66),
 kO 7 (.mv 68)])
 (.seq (.region [
 kO 69 (.mv 7),
 kO 70 (.bin .lss 69 (ci 0)),
 kO 71 (.mv 70),
 kG 72 (.mv 7) 71 false,
 kG 73 (.fa 0 1) 71 false,
 kG 74 (.ld false 1 73) 71 false,
 kG 75 (.len 1 74) 71 false,
 kG 76 (.bin .geq 72 75) 71 false,
 kO 77 (.pick 71 (.c (.bool true)) 76),
 kO 78 (.mv 77),
 kG 79 (.fa 1 1) 78 false,
 kG 80 (.ld false 1 79) 78 false,
 kG 81 (.mv 6) 78 false,
 kG 82 (.slc 1 80 none (some 81)) 78 false,
 kG 83 (.mv 7) 78 false,
 kG 84 (.call none true 46 [82, 83]) 78 false,
 kO 85 (.pick 78 (.c (.bool true)) 84),
 kO 86 (.mv 85),
 kG 87 (.mv 6) 86 false,
 kG 88 (.bin .gtr 87 (ci 20)) 86 false,
 kO 89 (.pick 86 (.c (.bool true)) 88)])
 (.cond 89
 (.seq (.region [
  kO 2 (.mv (ci 80))])
  .ret)
 .skip))))
 c_q14_23)
def c_q14_25 : CCode :=
  (.seq (.cond 65
 .skip
 (.exit 2))
 c_q14_24)
def c_q14_26 : CCode :=
  (.seq (.region [
 kO 65 (.bin .lss 64 63)])
 c_q14_25)
def c_q14_L22 : CCode :=
  (.loop [1, 3, 62, 63, 64] c_q14_26)
def c_q14_27 : CCode :=
  (.block 2 c_q14_L22)
def c_q14_28 : CCode :=
  (.seq (.region [
 kO 61 (.fa 1 1),
 kO 62 (.ld false 1 61),
 kO 63 (.len 1 62),
 kO 64 (.mv (ci 0))])
 c_q14_27)
def c_q14_29 : CCode :=
  (.seq c_q14_28
 c_q14_21)
def c_q14_31 : CCode :=
  (.region [
 kO 60 (.bin .add 50 (ci 1)),
 kO 50 (.mv 60)])
def c_q14_32 : CCode :=
  (.seq (.block 1 (.seq (.region [
 kO 52 (.ixs 1 48 50),
 kO 53 (.ld false 1 52),
 kO 5 (.mv 53)])
 (.seq (.region [
 kO 54 (.mv 5),
 kO 55 (.bin .lss 54 (ci 1)),
 kO 56 (.mv 55),
 kG 57 (.mv 5) 56 false,
 kG 58 (.bin .gtr 57 (ci 3)) 56 false,
 kO 59 (.pick 56 (.c (.bool true)) 58)])
 (.cond 59
 (.seq (.region [
  kO 2 (.mv (ci 80))])
  .ret)
 .skip))))
 c_q14_31)
def c_q14_33 : CCode :=
  (.seq (.cond 51
 .skip
 (.exit 0))
 c_q14_32)
def c_q14_34 : CCode :=
  (.seq (.region [
 kO 51 (.bin .lss 50 49)])
 c_q14_33)
def c_q14_L30 : CCode :=
  (.loop [1, 3, 48, 49, 50] c_q14_34)
def c_q14_35 : CCode :=
  (.block 0 c_q14_L30)
def c_q14_36 : CCode :=
  (.seq (.region [
 kO 47 (.fa 0 1),
 kO 48 (.ld false 1 47),
 kO 49 (.len 1 48),
 kO 50 (.mv (ci 0))])
 c_q14_35)
def c_q14_37 : CCode :=
  (.seq c_q14_36
 c_q14_29)
def c_q14_38 : CCode :=
  (.seq (.seq (.region [
 kO 15 (.mv 3),
 kO 16 (.bin .lss 15 (ci 1)),
 kO 17 (.mv 16),
 kG 18 (.mv 3) 17 false,
 kG 19 (.bin .gtr 18 (ci 20000)) 17 false,
 kO 20 (.pick 17 (.c (.bool true)) 19),
 kO 21 (.mv 20),
 kG 22 (.fa 0 1) 21 false,
 kG 23 (.ld false 1 22) 21 false,
 kG 24 (.len 1 23) 21 false,
 kG 25 (.bin .gtr 24 (ci 20000)) 21 false,
 kO 26 (.pick 21 (.c (.bool true)) 25),
 kO 27 (.mv 26),
 kG 28 (.fa 2 1) 27 false,
 kG 29 (.ld false 1 28) 27 false,
 kG 30 (.bin .lss 29 (ci 0)) 27 false,
 kO 31 (.pick 27 (.c (.bool true)) 30),
 kO 32 (.mv 31),
 kG 33 (.fa 2 1) 32 false,
 kG 34 (.ld false 1 33) 32 false,
 kG 35 (.bin .gtr 34 (ci 3)) 32 false,
 kO 36 (.pick 32 (.c (.bool true)) 35),
 kO 37 (.mv 36),
 kG 38 (.fa 3 1) 37 false,
 kG 39 (.ld false 1 38) 37 false,
 kG 40 (.mv 3) 37 false,
 kG 41 (.bin .sub 40 (ci 1)) 37 false,
 kG 42 (.ixs 9 39 41) 37 false,
 kG 43 (.ld true 9 42) 37 false,
 kG 44 (.call none true 24 [43]) 37 false,
 kG 45 (.un .not 44) 37 false,
 kO 46 (.pick 37 (.c (.bool true)) 45)])
 (.cond 46
 (.seq (.region [
  kO 2 (.mv (ci 80))])
  .ret)
 .skip))
 c_q14_37)
def c_q14_39 : CCode :=
  (.seq (.region [
 kO 12 (.fa 3 1),
 kO 13 (.ld false 1 12),
 kO 14 (.len 1 13),
 kO 3 (.mv 14)])
 c_q14_38)
def c_q14_40 : CCode :=
  (.seq (.region [
 kO 1 (.box (some 0) 0),
 kO 2 (.mv (ci 0))])
 c_q14_39)
def c_q14 : CFunc :=
  ⟨1, true, 3, c_q14_40, [.t 2]⟩
def c_q43_1 : CCode :=
  (.seq (.region [
 kO 33 (.mv 5),
 kO 4 (.mv 33)])
 .ret)
def c_q43_3 : CCode :=
  (.region [
 kO 32 (.bin .add 10 (ci 1)),
 kO 10 (.mv 32)])
def c_q43_4 : CCode :=
  (.seq (.block 1 (.seq (.region [
 kO 12 (.mv 10),
 kO 13 (.ixs 1 8 10),
 kO 14 (.ld false 1 13),
 kO 6 (.mv 12),
 kO 7 (.mv 14)])
 (.seq (.region [
 kO 15 (.mv 5),
 kO 16 (.mv 15),
 kG 17 (.mv 7) 16 false,
 kG 18 (.mv 0) 16 false,
 kG 19 (.mv 6) 16 false,
 kG 20 (.ixs 1 18 19) 16 false,
 kG 21 (.ld false 1 20) 16 false,
 kG 22 (.bin .andNot 17 21) 16 false,
 kG 23 (.bin .neq 22 (.c (.int .u64 0))) 16 false,
 kO 24 (.pick 16 (.c (.bool true)) 23),
 kO 5 (.mv 24)])
 (.region [
 kO 25 (.mv 0),
 kO 26 (.mv 6),
 kO 27 (.ixs 1 25 26),
 kO 28 (.ld false 1 27),
 kO 29 (.mv 7),
 kO 30 (.bin .or 28 29),
 kO 31 (.ixs 1 25 26),
 kU (.st 1 31 30)]))))
 c_q43_3)
def c_q43_5 : CCode :=
  (.seq (.cond 11
 .skip
 (.exit 0))
 c_q43_4)
def c_q43_6 : CCode :=
  (.seq (.region [
 kO 11 (.bin .lss 10 9)])
 c_q43_5)
def c_q43_L2 : CCode :=
  (.loop [0, 5, 8, 9, 10] c_q43_6)
def c_q43_7 : CCode :=
  (.block 0 c_q43_L2)
def c_q43_8 : CCode :=
  (.seq (.region [
 kO 8 (.mv 1),
 kO 9 (.len 1 8),
 kO 10 (.mv (ci 0))])
 c_q43_7)
def c_q43_9 : CCode :=
  (.seq c_q43_8
 c_q43_1)
def c_q43_10 : CCode :=
  (.seq (.region [
 kO 5 (.mv (.c (.bool false)))])
 c_q43_9)
def c_q43_11 : CCode :=
  (.seq (.region [
 kO 4 (.mv (.c (.bool false)))])
 c_q43_10)
def c_q43 : CFunc :=
  ⟨2, false, 0, c_q43_11, [.t 4]⟩
def c_q16_1 : CCode :=
  (.seq (.region [
 kO 2 (.mv (ci (-1)))])
 .ret)
def c_q16_2 : CCode :=
  (.seq (.seq (.region [
 kO 22 (.ld true 9 1),
 kO 23 (.call none true 17 [22])])
 (.cond 23
 (.seq (.region [
  kO 24 (.fa 1 1),
  kO 25 (.ld false 1 24),
  kO 2 (.mv 25)])
  .ret)
 .skip))
 c_q16_1)
def c_q16_3 : CCode :=
  (.cond 5
 (.seq (.region [
  kO 20 (.fa 1 1),
  kO 21 (.ld false 1 20),
  kO 2 (.mv 21)])
  .ret)
 .skip)
def c_q16_4 : CCode :=
  (.seq (.seq (.region [
 kO 6 (.bin .eql 4 (ci 1)),
 kO 5 (.mv 6)])
 (.cond 5
 .skip
 (.seq (.region [
  kO 7 (.bin .eql 4 (ci 2)),
  kO 5 (.mv 7)])
  (.cond 5
  .skip
  (.seq (.region [
   kO 8 (.bin .eql 4 (ci 3)),
   kO 5 (.mv 8)])
   (.cond 5
   .skip
   (.seq (.region [
    kO 9 (.bin .eql 4 (ci 4)),
    kO 5 (.mv 9)])
    (.cond 5
    .skip
    (.seq (.region [
     kO 10 (.bin .eql 4 (ci 5)),
     kO 5 (.mv 10)])
     (.cond 5
     .skip
     (.seq (.region [
      kO 11 (.bin .eql 4 (ci 6)),
      kO 5 (.mv 11)])
      (.cond 5
      .skip
      (.seq (.region [
       kO 12 (.bin .eql 4 (ci 13)),
       kO 5 (.mv 12)])
       (.cond 5
       .skip
       (.seq (.region [
        kO 13 (.bin .eql 4 (ci 15)),
        kO 5 (.mv 13)])
        (.cond 5
        .skip
        (.seq (.region [
         kO 14 (.bin .eql 4 (ci 16)),
         kO 5 (.mv 14)])
         (.cond 5
         .skip
         (.seq (.region [
          kO 15 (.bin .eql 4 (ci 18)),
          kO 5 (.mv 15)])
          (.cond 5
          .skip
          (.seq (.region [
           kO 16 (.bin .eql 4 (ci 20)),
           kO 5 (.mv 16)])
           (.cond 5
           .skip
           (.seq (.region [
            kO 17 (.bin .eql 4 (ci 21)),
            kO 5 (.mv 17)])
            (.cond 5
            .skip
            (.seq (.region [
             kO 18 (.bin .eql 4 (ci 22)),
             kO 5 (.mv 18)])
             (.cond 5
             .skip
             (.region [
              kO 19 (.bin .eql 4 (ci 32)),
              kO 5 (.mv 19)])))))))))))))))))))))))))))
 c_q16_3)
def c_q16_5 : CCode :=
  (.block 0 c_q16_4)
def c_q16_6 : CCode :=
  (.seq (.region [
 kO 3 (.fa 0 1),
 kO 4 (.ld false 1 3)])
 c_q16_5)
def c_q16_7 : CCode :=
  (.seq c_q16_6
 c_q16_2)
def c_q16_8 : CCode :=
  (.seq (.region [
 kO 1 (.box (some 0) 0),
 kO 2 (.mv (ci 0))])
 c_q16_7)
def c_q16 : CFunc :=
  ⟨1, true, 1, c_q16_8, [.t 2]⟩
def c_q41_1 : CCode :=
  (.draw [
 kO 4 (.mv 0),
 kO 5 (.mv 1),
 kO 6 (.bin .quo 5 (ci 64)),
 kO 7 (.ixs 1 4 6),
 kO 8 (.ld false 1 7),
 kO 9 (.mv 1),
 kO 10 (.bin .rem 9 (ci 64)),
 kO 11 (.bin .shl (.c (.int .u64 1)) 10),
 kO 12 (.bin .andNot 8 11),
 kO 13 (.ixs 1 4 6),
 kU (.st 1 13 12)] [])
def c_q41 : CFunc :=
  ⟨2, false, 0, c_q41_1, []⟩
def c_q20_1 : CCode :=
  (.seq (.region [
 kO 2 (.mv (.c .nils))])
 .ret)
def c_q20_2 : CCode :=
  (.seq (.region [
 kO 58 (.fa 2 1),
 kO 59 (.ld false 1 58),
 kO 60 (.fa 3 1),
 kO 61 (.ld false 1 60),
 kO 62 (.buildS (some 6) 1 2 [(.int .i64 0)] [(0, 59), (1, 61)]),
 kO 2 (.mv 62)])
 .ret)
def c_q20_3 : CCode :=
  (.seq (.seq (.region [
 kO 52 (.fa 3 1),
 kO 53 (.ld false 1 52),
 kO 54 (.bin .lss 53 (ci 0))])
 (.cond 54
 (.seq (.region [
  kO 55 (.fa 2 1),
  kO 56 (.ld false 1 55),
  kO 57 (.buildS (some 5) 1 1 [(.int .i64 0)] [(0, 56)]),
  kO 2 (.mv 57)])
  .ret)
 .skip))
 c_q20_2)
def c_q20_4 : CCode :=
  (.cond 50
 c_q20_3
 (.seq (.region [
  kO 64 (.bin .eql 4 (ci 30)),
  kO 63 (.mv 64)])
  (.cond 63
  (.seq (.region [
   kO 65 (.fa 2 1),
   kO 66 (.ld false 1 65),
   kO 67 (.bin .geq 66 (ci 0))])
   (.cond 67
   (.seq (.region [
    kO 68 (.fa 2 1),
    kO 69 (.ld false 1 68),
    kO 70 (.buildS (some 7) 1 1 [(.int .i64 0)] [(0, 69)]),
    kO 2 (.mv 70)])
    .ret)
   .skip))
  .skip)))
def c_q20_5 : CCode :=
  (.seq (.region [
 kO 51 (.bin .eql 4 (ci 29)),
 kO 50 (.mv 51)])
 c_q20_4)
def c_q20_6 : CCode :=
  (.cond 42
 (.seq (.region [
  kO 47 (.fa 8 1),
  kO 48 (.ld false 1 47),
  kO 49 (.call (some 4) false 39 [48]),
  kO 2 (.mv 49)])
  .ret)
 c_q20_5)
def c_q20_7 : CCode :=
  (.seq (.seq (.region [
 kO 43 (.bin .eql 4 (ci 23)),
 kO 42 (.mv 43)])
 (.cond 42
 .skip
 (.seq (.region [
  kO 44 (.bin .eql 4 (ci 24)),
  kO 42 (.mv 44)])
  (.cond 42
  .skip
  (.seq (.region [
   kO 45 (.bin .eql 4 (ci 25)),
   kO 42 (.mv 45)])
   (.cond 42
   .skip
   (.region [
    kO 46 (.bin .eql 4 (ci 26)),
    kO 42 (.mv 46)])))))))
 c_q20_6)
def c_q20_8 : CCode :=
  (.cond 33
 (.seq (.region [
  kO 35 (.fa 2 1),
  kO 36 (.ld false 1 35),
  kO 37 (.fa 3 1),
  kO 38 (.ld false 1 37),
  kO 39 (.fa 4 1),
  kO 40 (.ld false 1 39),
  kO 41 (.buildS (some 3) 1 3 [(.int .i64 0)] [(0, 36), (1, 38), (2, 40)]),
  kO 2 (.mv 41)])
  .ret)
 c_q20_7)
def c_q20_9 : CCode :=
  (.seq (.region [
 kO 34 (.bin .eql 4 (ci 14)),
 kO 33 (.mv 34)])
 c_q20_8)
def c_q20_10 : CCode :=
  (.cond 21
 (.seq (.region [
  kO 28 (.fa 2 1),
  kO 29 (.ld false 1 28),
  kO 30 (.fa 3 1),
  kO 31 (.ld false 1 30),
  kO 32 (.buildS (some 2) 1 2 [(.int .i64 0)] [(0, 29), (1, 31)]),
  kO 2 (.mv 32)])
  .ret)
 c_q20_9)
def c_q20_11 : CCode :=
  (.seq (.seq (.region [
 kO 22 (.bin .eql 4 (ci 5)),
 kO 21 (.mv 22)])
 (.cond 21
 .skip
 (.seq (.region [
  kO 23 (.bin .eql 4 (ci 9)),
  kO 21 (.mv 23)])
  (.cond 21
  .skip
  (.seq (.region [
   kO 24 (.bin .eql 4 (ci 11)),
   kO 21 (.mv 24)])
   (.cond 21
   .skip
   (.seq (.region [
    kO 25 (.bin .eql 4 (ci 13)),
    kO 21 (.mv 25)])
    (.cond 21
    .skip
    (.seq (.region [
     kO 26 (.bin .eql 4 (ci 17)),
     kO 21 (.mv 26)])
     (.cond 21
     .skip
     (.region [
      kO 27 (.bin .eql 4 (ci 28)),
      kO 21 (.mv 27)])))))))))))
 c_q20_10)
def c_q20_12 : CCode :=
  (.cond 5
 (.seq (.region [
  kO 18 (.fa 2 1),
  kO 19 (.ld false 1 18),
  kO 20 (.buildS (some 1) 1 1 [(.int .i64 0)] [(0, 19)]),
  kO 2 (.mv 20)])
  .ret)
 c_q20_11)
def c_q20_13 : CCode :=
  (.seq (.seq (.region [
 kO 6 (.bin .eql 4 (ci 4)),
 kO 5 (.mv 6)])
 (.cond 5
 .skip
 (.seq (.region [
  kO 7 (.bin .eql 4 (ci 6)),
  kO 5 (.mv 7)])
  (.cond 5
  .skip
  (.seq (.region [
   kO 8 (.bin .eql 4 (ci 7)),
   kO 5 (.mv 8)])
   (.cond 5
   .skip
   (.seq (.region [
    kO 9 (.bin .eql 4 (ci 8)),
    kO 5 (.mv 9)])
    (.cond 5
    .skip
    (.seq (.region [
     kO 10 (.bin .eql 4 (ci 10)),
     kO 5 (.mv 10)])
     (.cond 5
     .skip
     (.seq (.region [
      kO 11 (.bin .eql 4 (ci 12)),
      kO 5 (.mv 11)])
      (.cond 5
      .skip
      (.seq (.region [
       kO 12 (.bin .eql 4 (ci 15)),
       kO 5 (.mv 12)])
       (.cond 5
       .skip
       (.seq (.region [
        kO 13 (.bin .eql 4 (ci 16)),
        kO 5 (.mv 13)])
        (.cond 5
        .skip
        (.seq (.region [
         kO 14 (.bin .eql 4 (ci 19)),
         kO 5 (.mv 14)])
         (.cond 5
         .skip
         (.seq (.region [
          kO 15 (.bin .eql 4 (ci 21)),
          kO 5 (.mv 15)])
          (.cond 5
          .skip
          (.seq (.region [
           kO 16 (.bin .eql 4 (ci 22)),
           kO 5 (.mv 16)])
           (.cond 5
           .skip
           (.region [
            kO 17 (.bin .eql 4 (ci 31)),
            kO 5 (.mv 17)])))))))))))))))))))))))
 c_q20_12)
def c_q20_14 : CCode :=
  (.block 0 c_q20_13)
def c_q20_15 : CCode :=
  (.seq (.region [
 kO 3 (.fa 0 1),
 kO 4 (.ld false 1 3)])
 c_q20_14)
def c_q20_16 : CCode :=
  (.seq c_q20_15
 c_q20_1)
def c_q20_17 : CCode :=
  (.seq (.region [
 kO 1 (.box (some 0) 0),
 kO 2 (.mv (.c .nils))])
 c_q20_16)
def c_q20 : CFunc :=
  ⟨1, true, 8, c_q20_17, [.t 2]⟩
def c_q40_1 : CCode :=
  (.draw [
 kO 4 (.mv 0),
 kO 5 (.mv 1),
 kO 6 (.bin .quo 5 (ci 64)),
 kO 7 (.ixs 1 4 6),
 kO 8 (.ld false 1 7),
 kO 9 (.mv 1),
 kO 10 (.bin .rem 9 (ci 64)),
 kO 11 (.bin .shl (.c (.int .u64 1)) 10),
 kO 12 (.bin .or 8 11),
 kO 13 (.ixs 1 4 6),
 kU (.st 1 13 12)] [])
def c_q40 : CFunc :=
  ⟨2, false, 0, c_q40_1, []⟩
def c_q71_1 : CCode :=
  (.seq (.region [
 kO 14 (.fa 0 2),
 kO 15 (.ld false 1 14),
 kO 16 (.mv 1),
 kO 17 (.ixs 1 15 16),
 kO 18 (.ld false 1 17),
 kO 4 (.mv 18)])
 .ret)
def c_q71_2 : CCode :=
  (.seq (.seq (.region [
 kO 5 (.mv 1),
 kO 6 (.bin .lss 5 (ci 0)),
 kO 7 (.mv 6),
 kG 8 (.mv 1) 7 false,
 kG 9 (.fa 0 2) 7 false,
 kG 10 (.ld false 1 9) 7 false,
 kG 11 (.len 1 10) 7 false,
 kG 12 (.bin .geq 8 11) 7 false,
 kO 13 (.pick 7 (.c (.bool true)) 12)])
 (.cond 13
 (.seq (.region [
  kO 4 (.mv (ci 0))])
  .ret)
 .skip))
 c_q71_1)
def c_q71_3 : CCode :=
  (.seq (.region [
 kO 2 (.box (some 0) 0),
 kO 4 (.mv (ci 0))])
 c_q71_2)
def c_q71 : CFunc :=
  ⟨2, true, 1, c_q71_3, [.t 4]⟩
def c_q70_1 : CCode :=
  (.seq (.region [
 kO 4 (.mv (.c (.bool false)))])
 .ret)
def c_q70_3 : CCode :=
  (.region [
 kO 10 (.mv 5),
 kO 11 (.bin .add 10 (ci 1)),
 kO 5 (.mv 11)])
def c_q70_4 : CCode :=
  (.seq (.block 1 (.seq (.region [
 kO 12 (.mv 1),
 kO 13 (.mv 5),
 kO 14 (.ixs 1 12 13),
 kO 15 (.ld false 1 14),
 kO 16 (.mv 0),
 kO 17 (.bin .eql 15 16)])
 (.cond 17
 (.seq (.region [
  kO 4 (.mv (.c (.bool true)))])
  .ret)
 .skip)))
 c_q70_3)
def c_q70_5 : CCode :=
  (.seq (.seq (.region [
 kO 6 (.mv 5),
 kO 7 (.mv 1),
 kO 8 (.len 1 7),
 kO 9 (.bin .lss 6 8)])
 (.cond 9
 .skip
 (.exit 0)))
 c_q70_4)
def c_q70_L2 : CCode :=
  (.loop [0, 1, 5] c_q70_5)
def c_q70_6 : CCode :=
  (.block 0 c_q70_L2)
def c_q70_7 : CCode :=
  (.seq (.region [
 kO 5 (.mv (ci 0))])
 c_q70_6)
def c_q70_8 : CCode :=
  (.seq c_q70_7
 c_q70_1)
def c_q70_9 : CCode :=
  (.seq (.region [
 kO 4 (.mv (.c (.bool false)))])
 c_q70_8)
def c_q70 : CFunc :=
  ⟨2, true, 0, c_q70_9, [.t 4]⟩
def c_q72_1 : CCode :=
  (.seq (.region [
 kO 4 (.mv (.c (.bool true)))])
 .ret)
def c_q72_2 : CCode :=
  (.seq (.draw [
 kO 215 (.fa 2 3),
 kO 216 (.ld false 1 215),
 kO 217 (.bin .neq 216 (ci (-1))),
 kO 218 (.mv 217),
 kG 219 (.ld true 5 2) 218 true,
 kG 220 (.fa 2 3) 218 true,
 kG 221 (.ld false 1 220) 218 true,
 kG 222 (.call none true 48 [219, 221]) 218 true,
 kG 223 (.fa 2 2) 218 true,
 kG 224 (.ld false 1 223) 218 true,
 kG 225 (.bin .eql 222 224) 218 true,
 kO 226 (.pick 218 225 (.c (.bool false))),
 kO 4 (.mv 226)] [(7, 9)])
 .ret)
def c_q72_3 : CCode :=
  (.seq (.seq (.region [
 kO 209 (.fa 2 2),
 kO 210 (.ld false 1 209),
 kO 211 (.bin .eql 210 (ci 0))])
 (.cond 211
 (.seq (.region [
  kO 212 (.fa 2 3),
  kO 213 (.ld false 1 212),
  kO 214 (.bin .eql 213 (ci (-1))),
  kO 4 (.mv 214)])
  .ret)
 .skip))
 c_q72_2)
def c_q72_4 : CCode :=
  (.cond 207
 c_q72_3
 .skip)
def c_q72_5 : CCode :=
  (.seq (.region [
 kO 208 (.bin .eql 55 (ci 30)),
 kO 207 (.mv 208)])
 c_q72_4)
def c_q72_6 : CCode :=
  (.cond 179
 (.seq (.region [
  kO 181 (.fa 5 3),
  kO 182 (.ld false 1 181),
  kO 183 (.bin .eql 182 (ci 0)),
  kO 184 (.mv 183),
  kG 185 (.fa 5 3) 184 false,
  kG 186 (.ld false 1 185) 184 false,
  kG 187 (.bin .eql 186 (ci 1)) 184 false,
  kO 188 (.pick 184 (.c (.bool true)) 187),
  kO 189 (.mv 188),
  kG 190 (.fa 3 3) 189 true,
  kG 191 (.ld false 1 190) 189 true,
  kG 192 (.bin .eql 191 (ci (-1))) 189 true,
  kG 193 (.mv 192) 189 true,
  kG 194 (.ld true 5 2) 193 false,
  kG 195 (.fa 3 3) 193 false,
  kG 196 (.ld false 1 195) 193 false,
  kG 197 (.call none true 48 [194, 196]) 193 false,
  kG 198 (.bin .eql 197 (ci 3)) 193 false,
  kG 199 (.pick 193 (.c (.bool true)) 198) 189 true,
  kO 200 (.pick 189 199 (.c (.bool false))),
  kO 201 (.mv 200),
  kG 202 (.ld true 5 2) 201 true,
  kG 203 (.fa 6 3) 201 true,
  kG 204 (.ld false 1 203) 201 true,
  kG 205 (.call none true 49 [202, 204]) 201 true,
  kO 206 (.pick 201 205 (.c (.bool false))),
  kO 4 (.mv 206)])
  .ret)
 c_q72_5)
def c_q72_7 : CCode :=
  (.seq (.region [
 kO 180 (.bin .eql 55 (ci 29)),
 kO 179 (.mv 180)])
 c_q72_6)
def c_q72_8 : CCode :=
  (.cond 173
 (.seq (.region [
  kO 175 (.ld true 5 2),
  kO 176 (.fa 6 3),
  kO 177 (.ld false 1 176),
  kO 178 (.call none true 49 [175, 177]),
  kO 4 (.mv 178)])
  .ret)
 c_q72_7)
def c_q72_9 : CCode :=
  (.seq (.region [
 kO 174 (.bin .eql 55 (ci 27)),
 kO 173 (.mv 174)])
 c_q72_8)
def c_q72_10 : CCode :=
  (.cond 157
 (.seq (.region [
  kO 159 (.fa 5 3),
  kO 160 (.ld false 1 159),
  kO 161 (.bin .geq 160 (ci 0)),
  kO 162 (.mv 161),
  kG 163 (.fa 5 3) 162 true,
  kG 164 (.ld false 1 163) 162 true,
  kG 165 (.bin .leq 164 (ci 5)) 162 true,
  kO 166 (.pick 162 165 (.c (.bool false))),
  kO 167 (.mv 166),
  kG 168 (.ld true 5 2) 167 true,
  kG 169 (.fa 6 3) 167 true,
  kG 170 (.ld false 1 169) 167 true,
  kG 171 (.call none true 49 [168, 170]) 167 true,
  kO 172 (.pick 167 171 (.c (.bool false))),
  kO 4 (.mv 172)])
  .ret)
 c_q72_9)
def c_q72_11 : CCode :=
  (.seq (.region [
 kO 158 (.bin .eql 55 (ci 28)),
 kO 157 (.mv 158)])
 c_q72_10)
def c_q72_12 : CCode :=
  (.cond 149
 (.seq (.region [
  kO 154 (.ld true 5 2),
  kO 155 (.ld true 9 3),
  kO 156 (.call none true 68 [154, 155]),
  kO 4 (.mv 156)])
  .ret)
 c_q72_11)
def c_q72_13 : CCode :=
  (.seq (.seq (.region [
 kO 150 (.bin .eql 55 (ci 23)),
 kO 149 (.mv 150)])
 (.cond 149
 .skip
 (.seq (.region [
  kO 151 (.bin .eql 55 (ci 24)),
  kO 149 (.mv 151)])
  (.cond 149
  .skip
  (.seq (.region [
   kO 152 (.bin .eql 55 (ci 25)),
   kO 149 (.mv 152)])
   (.cond 149
   .skip
   (.region [
    kO 153 (.bin .eql 55 (ci 26)),
    kO 149 (.mv 153)])))))))
 c_q72_12)
def c_q72_14 : CCode :=
  (.cond 143
 (.seq (.region [
  kO 146 (.fa 5 3),
  kO 147 (.ld false 1 146),
  kO 148 (.bin .geq 147 (ci 0)),
  kO 4 (.mv 148)])
  .ret)
 c_q72_13)
def c_q72_15 : CCode :=
  (.seq (.seq (.region [
 kO 144 (.bin .eql 55 (ci 16)),
 kO 143 (.mv 144)])
 (.cond 143
 .skip
 (.region [
  kO 145 (.bin .eql 55 (ci 17)),
  kO 143 (.mv 145)])))
 c_q72_14)
def c_q72_16 : CCode :=
  (.cond 136
 (.seq (.region [
  kO 140 (.fa 7 3),
  kO 141 (.ld false 1 140),
  kO 142 (.call none true 67 [141]),
  kO 4 (.mv 142)])
  .ret)
 c_q72_15)
def c_q72_17 : CCode :=
  (.seq (.seq (.region [
 kO 137 (.bin .eql 55 (ci 12)),
 kO 136 (.mv 137)])
 (.cond 136
 .skip
 (.seq (.region [
  kO 138 (.bin .eql 55 (ci 21)),
  kO 136 (.mv 138)])
  (.cond 136
  .skip
  (.region [
   kO 139 (.bin .eql 55 (ci 22)),
   kO 136 (.mv 139)])))))
 c_q72_16)
def c_q72_18 : CCode :=
  (.cond 112
 (.seq (.region [
  kO 114 (.mv 8),
  kO 115 (.bin .gtr 114 (ci 0)),
  kO 116 (.mv 115),
  kG 117 (.mv 9) 116 true,
  kG 118 (.bin .eql 117 (ci 0)) 116 true,
  kO 119 (.pick 116 118 (.c (.bool false))),
  kO 120 (.mv 119),
  kG 121 (.ld true 5 2) 120 true,
  kG 122 (.fa 1 3) 120 true,
  kG 123 (.ld false 1 122) 120 true,
  kG 124 (.call none true 48 [121, 123]) 120 true,
  kG 125 (.mv 10) 120 true,
  kG 126 (.bin .eql 124 125) 120 true,
  kO 127 (.pick 120 126 (.c (.bool false))),
  kO 128 (.mv 127),
  kG 129 (.ld true 5 2) 128 true,
  kG 130 (.fa 2 3) 128 true,
  kG 131 (.ld false 1 130) 128 true,
  kG 132 (.call none true 48 [129, 131]) 128 true,
  kG 133 (.mv 8) 128 true,
  kG 134 (.bin .eql 132 133) 128 true,
  kO 135 (.pick 128 134 (.c (.bool false))),
  kO 4 (.mv 135)])
  .ret)
 c_q72_17)
def c_q72_19 : CCode :=
  (.seq (.region [
 kO 113 (.bin .eql 55 (ci 6)),
 kO 112 (.mv 113)])
 c_q72_18)
def c_q72_20 : CCode :=
  (.cond 84
 (.seq (.region [
  kO 86 (.mv 9),
  kO 87 (.bin .gtr 86 (ci 0)),
  kO 88 (.mv 87),
  kG 89 (.ld true 5 2) 88 true,
  kG 90 (.fa 1 3) 88 true,
  kG 91 (.ld false 1 90) 88 true,
  kG 92 (.call none true 48 [89, 91]) 88 true,
  kG 93 (.mv 10) 88 true,
  kG 94 (.bin .eql 92 93) 88 true,
  kO 95 (.pick 88 94 (.c (.bool false))),
  kO 96 (.mv 95),
  kG 97 (.ld true 5 2) 96 true,
  kG 98 (.fa 2 3) 96 true,
  kG 99 (.ld false 1 98) 96 true,
  kG 100 (.call none true 48 [97, 99]) 96 true,
  kG 101 (.mv 8) 96 true,
  kG 102 (.bin .eql 100 101) 96 true,
  kO 103 (.pick 96 102 (.c (.bool false))),
  kO 104 (.mv 103),
  kG 105 (.ld true 5 2) 104 true,
  kG 106 (.fa 3 3) 104 true,
  kG 107 (.ld false 1 106) 104 true,
  kG 108 (.call none true 48 [105, 107]) 104 true,
  kG 109 (.mv 9) 104 true,
  kG 110 (.bin .eql 108 109) 104 true,
  kO 111 (.pick 104 110 (.c (.bool false))),
  kO 4 (.mv 111)])
  .ret)
 c_q72_19)
def c_q72_21 : CCode :=
  (.seq (.region [
 kO 85 (.bin .eql 55 (ci 5)),
 kO 84 (.mv 85)])
 c_q72_20)
def c_q72_22 : CCode :=
  (.cond 73
 (.seq (.draw [
  kO 75 (.ld true 5 2),
  kO 76 (.fa 1 3),
  kO 77 (.ld false 1 76),
  kO 78 (.call none true 48 [75, 77]),
  kO 79 (.ld true 5 2),
  kO 80 (.fa 2 3),
  kO 81 (.ld false 1 80),
  kO 82 (.call none true 48 [79, 81]),
  kO 83 (.bin .eql 78 82),
  kO 4 (.mv 83)] [(3, 4), (3, 6)])
  .ret)
 c_q72_21)
def c_q72_23 : CCode :=
  (.seq (.region [
 kO 74 (.bin .eql 55 (ci 4)),
 kO 73 (.mv 74)])
 c_q72_22)
def c_q72_24 : CCode :=
  (.cond 56
 (.seq (.region [
  kO 58 (.ld true 5 2),
  kO 59 (.fa 1 3),
  kO 60 (.ld false 1 59),
  kO 61 (.call none true 48 [58, 60]),
  kO 62 (.bin .eql 61 (ci 2)),
  kO 63 (.mv 62),
  kG 64 (.fa 5 3) 63 false,
  kG 65 (.ld false 1 64) 63 false,
  kG 66 (.bin .geq 65 (ci (-2147483648))) 63 false,
  kG 67 (.mv 66) 63 false,
  kG 68 (.fa 5 3) 67 true,
  kG 69 (.ld false 1 68) 67 true,
  kG 70 (.bin .lss 69 (ci 2147483648)) 67 true,
  kG 71 (.pick 67 70 (.c (.bool false))) 63 false,
  kO 72 (.pick 63 (.c (.bool true)) 71),
  kO 4 (.mv 72)])
  .ret)
 c_q72_23)
def c_q72_25 : CCode :=
  (.seq (.region [
 kO 57 (.bin .eql 55 (ci 1)),
 kO 56 (.mv 57)])
 c_q72_24)
def c_q72_26 : CCode :=
  (.block 2 c_q72_25)
def c_q72_27 : CCode :=
  (.seq (.region [
 kO 54 (.fa 0 3),
 kO 55 (.ld false 1 54)])
 c_q72_26)
def c_q72_28 : CCode :=
  (.seq c_q72_27
 c_q72_1)
def c_q72_29 : CCode :=
  (.seq (.seq (.region [
 kO 39 (.fa 5 3),
 kO 40 (.ld false 1 39),
 kO 41 (.bin .geq 40 (ci 0)),
 kO 42 (.mv 41),
 kG 43 (.fa 5 3) 42 true,
 kG 44 (.ld false 1 43) 42 true,
 kG 45 (.bin .lss 44 (ci 1000)) 42 true,
 kO 46 (.pick 42 45 (.c (.bool false)))])
 (.cond 46
 (.region [
  kO 48 (.fa 5 3),
  kO 49 (.ld false 1 48),
  kO 50 (.call none true 66 [49]),
  kO 47 (.mv 50),
  kO 51 (.ext 0 47),
  kO 52 (.ext 1 47),
  kO 53 (.ext 2 47),
  kO 8 (.mv 51),
  kO 9 (.mv 52),
  kO 10 (.mv 53)])
 .skip))
 c_q72_28)
def c_q72_30 : CCode :=
  (.seq (.region [
 kO 8 (.mv (ci 0)),
 kO 9 (.mv (ci 0)),
 kO 10 (.mv (ci 0))])
 c_q72_29)
def c_q72_32 : CCode :=
  (.region [
 kO 27 (.mv 7),
 kO 28 (.bin .add 27 (ci 1)),
 kO 7 (.mv 28)])
def c_q72_33 : CCode :=
  (.seq (.block 1 (.seq (.draw [
 kO 29 (.ld true 5 2),
 kO 30 (.mv 6),
 kO 31 (.mv 7),
 kO 32 (.ixs 1 30 31),
 kO 33 (.ld false 1 32),
 kO 34 (.mv 5),
 kO 35 (.mv 7),
 kO 36 (.ixstr 34 35),
 kO 37 (.call none true 65 [29, 33, 36]),
 kO 38 (.un .not 37)] [])
 (.cond 38
 (.seq (.region [
  kO 4 (.mv (.c (.bool false)))])
  .ret)
 .skip)))
 c_q72_32)
def c_q72_34 : CCode :=
  (.seq (.seq (.region [
 kO 25 (.mv 7),
 kO 26 (.bin .lss 25 (ci 4))])
 (.cond 26
 .skip
 (.exit 0)))
 c_q72_33)
def c_q72_L31 : CCode :=
  (.loop [2, 3, 5, 6, 7] c_q72_34)
def c_q72_35 : CCode :=
  (.block 0 c_q72_L31)
def c_q72_36 : CCode :=
  (.seq (.region [
 kO 7 (.mv (ci 0))])
 c_q72_35)
def c_q72_37 : CCode :=
  (.seq c_q72_36
 c_q72_30)
def c_q72_38 : CCode :=
  (.seq (.region [
 kO 16 (.fa 1 3),
 kO 17 (.ld false 1 16),
 kO 18 (.fa 2 3),
 kO 19 (.ld false 1 18),
 kO 20 (.fa 3 3),
 kO 21 (.ld false 1 20),
 kO 22 (.fa 4 3),
 kO 23 (.ld false 1 22),
 kO 24 (.buildS (some 2) 1 4 [(.int .i64 0)] [(0, 17), (1, 19), (2, 21), (3, 23)]),
 kO 6 (.mv 24)])
 c_q72_37)
def c_q72_39 : CCode :=
  (.seq (.seq (.region [
 kO 14 (.mv 5),
 kO 15 (.bin .eql 14 (.c (.str [])))])
 (.cond 15
 (.seq (.region [
  kO 4 (.mv (.c (.bool false)))])
  .ret)
 .skip))
 c_q72_38)
def c_q72_40 : CCode :=
  (.seq (.region [
 kO 11 (.fa 0 3),
 kO 12 (.ld false 1 11),
 kO 13 (.call none true 38 [12]),
 kO 5 (.mv 13)])
 c_q72_39)
def c_q72_41 : CCode :=
  (.seq (.region [
 kO 2 (.box (some 0) 0),
 kO 3 (.box (some 1) 1),
 kO 4 (.mv (.c (.bool false)))])
 c_q72_40)
def c_q72 : CFunc :=
  ⟨2, true, 3, c_q72_41, [.t 4]⟩
def c_q73_1 : CCode :=
  (.seq (.region [
 kO 2 (.box (some 0) 0),
 kO 4 (.mv (.c (.bool false)))])
 (.seq (.region [
 kO 5 (.mv 1),
 kO 6 (.bin .geq 5 (ci 0)),
 kO 7 (.mv 6),
 kG 8 (.mv 1) 7 true,
 kG 9 (.fa 3 2) 7 true,
 kG 10 (.ld false 1 9) 7 true,
 kG 11 (.len 1 10) 7 true,
 kG 12 (.bin .lss 8 11) 7 true,
 kO 13 (.pick 7 12 (.c (.bool false))),
 kO 4 (.mv 13)])
 .ret))
def c_q73 : CFunc :=
  ⟨2, true, 1, c_q73_1, [.t 4]⟩
def c_q39_1 : CCode :=
  (.seq (.region [
 kO 8 (.mv (.c (.bool false)))])
 (.seq (.region [
 kO 9 (.mv 0),
 kO 10 (.eqn 0 true 9 (.c .nilp)),
 kO 11 (.mv 10),
 kG 12 (.mv 2) 11 true,
 kG 13 (.bin .geq 12 (ci 0)) 11 true,
 kO 14 (.pick 11 13 (.c (.bool false))),
 kO 15 (.mv 14),
 kG 16 (.mv 2) 15 true,
 kG 17 (.mv 1) 15 true,
 kG 18 (.len 1 17) 15 true,
 kG 19 (.bin .lss 16 18) 15 true,
 kO 20 (.pick 15 19 (.c (.bool false))),
 kO 21 (.mv 20),
 kG 22 (.mv 3) 21 true,
 kG 23 (.bin .geq 22 (ci 0)) 21 true,
 kO 24 (.pick 21 23 (.c (.bool false))),
 kO 25 (.mv 24),
 kG 26 (.mv 3) 25 true,
 kG 27 (.mv 0) 25 true,
 kG 28 (.nilchk 27) 25 true,
 kG 29 (.fa 3 28) 25 true,
 kG 30 (.ld false 1 29) 25 true,
 kG 31 (.bin .lss 26 30) 25 true,
 kO 32 (.pick 25 31 (.c (.bool false))),
 kO 33 (.mv 32),
 kG 34 (.mv 1) 33 true,
 kG 35 (.mv 2) 33 true,
 kG 36 (.ixs 1 34 35) 33 true,
 kG 37 (.ld false 1 36) 33 true,
 kG 38 (.mv 3) 33 true,
 kG 39 (.call none true 83 [37, 38]) 33 true,
 kO 40 (.pick 33 39 (.c (.bool false))),
 kO 8 (.mv 40)])
 .ret))
def c_q39 : CFunc :=
  ⟨4, true, 0, c_q39_1, [.t 8]⟩
def c_q59_1 : CCode :=
  (.seq (.region [
 kO 2 (.mv (.c (.bool false)))])
 (.seq (.region [
 kO 3 (.mv 0),
 kO 4 (.bin .geq 3 (ci 23)),
 kO 5 (.mv 4),
 kG 6 (.mv 0) 5 true,
 kG 7 (.bin .leq 6 (ci 26)) 5 true,
 kO 8 (.pick 5 7 (.c (.bool false))),
 kO 2 (.mv 8)])
 .ret))
def c_q59 : CFunc :=
  ⟨1, true, 0, c_q59_1, [.t 2]⟩
def c_q74_1 : CCode :=
  (.seq (.region [
 kO 13 (.mv 3),
 kO 14 (.mv 0),
 kO 15 (.ixs 1 13 14),
 kO 16 (.ld false 1 15),
 kO 2 (.mv 16)])
 .ret)
def c_q74_2 : CCode :=
  (.seq (.seq (.region [
 kO 5 (.mv 0),
 kO 6 (.bin .lss 5 (ci 1)),
 kO 7 (.mv 6),
 kG 8 (.mv 0) 7 false,
 kG 9 (.mv 3) 7 false,
 kG 10 (.len 1 9) 7 false,
 kG 11 (.bin .geq 8 10) 7 false,
 kO 12 (.pick 7 (.c (.bool true)) 11)])
 (.cond 12
 (.seq (.region [
  kO 2 (.mv (.c (.str [])))])
  .ret)
 .skip))
 c_q74_1)
def c_q74_3 : CCode :=
  (.seq (.region [
 kO 4 (.buildS (some 0) 1 34 [(.str [])] [(0, (.c (.str []))), (1, (.c (.str [110, 45, 45, 45]))), (2, (.c (.str [51, 45, 45, 45]))), (3, (.c (.str [51, 45, 45, 45]))), (4, (.c (.str [42, 61, 45, 45]))), (5, (.c (.str [63, 63, 63, 63]))), (6, (.c (.str [63, 63, 63, 63]))), (7, (.c (.str [45, 110, 45, 45]))), (8, (.c (.str [45, 51, 45, 45]))), (9, (.c (.str [45, 51, 49, 45]))), (10, (.c (.str [45, 49, 45, 45]))), (11, (.c (.str [45, 51, 51, 45]))), (12, (.c (.str [45, 51, 45, 45]))), (13, (.c (.str [42, 51, 49, 45]))), (14, (.c (.str [45, 51, 49, 42]))), (15, (.c (.str [49, 51, 45, 45]))), (16, (.c (.str [42, 51, 45, 45]))), (17, (.c (.str [45, 51, 42, 45]))), (18, (.c (.str [42, 45, 45, 45]))), (19, (.c (.str [45, 42, 45, 45]))), (20, (.c (.str [51, 45, 45, 45]))), (21, (.c (.str [51, 49, 45, 45]))), (22, (.c (.str [49, 51, 45, 45]))), (23, (.c (.str [63, 63, 63, 63]))), (24, (.c (.str [63, 63, 63, 63]))), (25, (.c (.str [63, 63, 63, 63]))), (26, (.c (.str [63, 63, 63, 63]))), (27, (.c (.str [45, 45, 45, 45]))), (28, (.c (.str [45, 49, 49, 45]))), (29, (.c (.str [45, 51, 63, 45]))), (30, (.c (.str [45, 63, 45, 45]))), (31, (.c (.str [45, 51, 45, 45]))), (32, (.c (.str [51, 45, 45, 45]))), (33, (.c (.str [45, 45, 45, 45])))]),
 kO 3 (.mv 4)])
 c_q74_2)
def c_q74_4 : CCode :=
  (.seq (.region [
 kO 2 (.mv (.c (.str [])))])
 c_q74_3)
def c_q74 : CFunc :=
  ⟨1, true, 1, c_q74_4, [.t 2]⟩
def c_q103_1 : CCode :=
  (.seq (.region [
 kO 5 (.buildS (some 0) 1 0 [(.bool false)] []),
 kO 6 (.mv 0),
 kO 7 (.app (some 1) 1 1 5 6),
 kO 2 (.mv 7)])
 .ret)
def c_q103_2 : CCode :=
  (.seq (.seq (.region [
 kO 3 (.mv 0),
 kO 4 (.eqn 1 false 3 (.c .nils))])
 (.cond 4
 (.seq (.region [
  kO 2 (.mv (.c .nils))])
  .ret)
 .skip))
 c_q103_1)
def c_q103_3 : CCode :=
  (.seq (.region [
 kO 2 (.mv (.c .nils))])
 c_q103_2)
def c_q103 : CFunc :=
  ⟨1, true, 2, c_q103_3, [.t 2]⟩
def c_q10_1 : CCode :=
  (.seq (.region [
 kO 56 (.mv 3),
 kO 8 (.mv 56)])
 .ret)
def c_q10_2 : CCode :=
  (.seq (.seq (.region [
 kO 51 (.mv 9)])
 (.cond 51
 (.region [
  kO 52 (.mv 3),
  kO 53 (.mv 1),
  kO 54 (.buildS (some 3) 1 1 [(.int .i64 0)] [(0, 53)]),
  kO 55 (.app (some 4) 1 8 52 54),
  kO 3 (.mv 55)])
 .skip))
 c_q10_1)
def c_q10_4 : CCode :=
  (.region [
 kO 50 (.bin .add 31 (ci 1)),
 kO 31 (.mv 50)])
def c_q10_5 : CCode :=
  (.seq (.block 1 (.seq (.region [
 kO 33 (.mv 31),
 kO 34 (.ixs 1 29 31),
 kO 35 (.ld false 1 34),
 kO 10 (.mv 33),
 kO 11 (.mv 35)])
 (.seq (.region [
 kO 36 (.mv 11),
 kO 37 (.mv 36),
 kG 38 (.mv 2) 37 true,
 kG 39 (.mv 10) 37 true,
 kG 40 (.ixs 1 38 39) 37 true,
 kG 41 (.ld false 1 40) 37 true,
 kG 42 (.un .not 41) 37 true,
 kO 43 (.pick 37 42 (.c (.bool false)))])
 (.cond 43
 (.seq (.region [
  kO 44 (.mv 0),
  kO 45 (.mv 1),
  kO 46 (.ixs 1 44 45),
  kO 47 (.ld false 1 46),
  kO 48 (.mv 10),
  kO 49 (.ixs 1 47 48),
  kU (.st 1 49 (.c (.bool false)))])
  (.region [
  kO 9 (.mv (.c (.bool true)))]))
 .skip))))
 c_q10_4)
def c_q10_6 : CCode :=
  (.seq (.cond 32
 .skip
 (.exit 0))
 c_q10_5)
def c_q10_7 : CCode :=
  (.seq (.region [
 kO 32 (.bin .lss 31 30)])
 c_q10_6)
def c_q10_L3 : CCode :=
  (.loop [0, 1, 2, 3, 9, 29, 30, 31] c_q10_7)
def c_q10_8 : CCode :=
  (.block 0 c_q10_L3)
def c_q10_9 : CCode :=
  (.seq (.region [
 kO 26 (.mv 0),
 kO 27 (.mv 1),
 kO 28 (.ixs 1 26 27),
 kO 29 (.ld false 1 28),
 kO 30 (.len 1 29),
 kO 31 (.mv (ci 0))])
 c_q10_8)
def c_q10_10 : CCode :=
  (.seq c_q10_9
 c_q10_2)
def c_q10_11 : CCode :=
  (.seq (.region [
 kO 9 (.mv (.c (.bool false)))])
 c_q10_10)
def c_q10_12 : CCode :=
  (.seq (.seq (.region [
 kO 12 (.mv 0),
 kO 13 (.mv 1),
 kO 14 (.ixs 1 12 13),
 kO 15 (.ld false 1 14),
 kO 16 (.eqn 1 false 15 (.c .nils))])
 (.cond 16
 (.seq (.region [
  kO 17 (.mv 0),
  kO 18 (.mv 1),
  kO 19 (.mv 2),
  kO 20 (.call (some 0) false 78 [19]),
  kO 21 (.ixs 1 17 18),
  kU (.st 1 21 20)])
  (.seq (.region [
  kO 22 (.mv 3),
  kO 23 (.mv 1),
  kO 24 (.buildS (some 1) 1 1 [(.int .i64 0)] [(0, 23)]),
  kO 25 (.app (some 2) 1 8 22 24),
  kO 8 (.mv 25)])
  .ret))
 .skip))
 c_q10_11)
def c_q10_13 : CCode :=
  (.seq (.region [
 kO 8 (.mv (.c .nils))])
 c_q10_12)
def c_q10 : CFunc :=
  ⟨4, false, 5, c_q10_13, [.t 8]⟩
def c_q106_1 : CCode :=
  (.seq (.region [
 kO 4 (.mv (ci (-1)))])
 .ret)
def c_q106_3 : CCode :=
  (.region [
 kO 18 (.bin .add 8 (ci 1)),
 kO 8 (.mv 18)])
def c_q106_4 : CCode :=
  (.seq (.block 1 (.seq (.region [
 kO 10 (.mv 8),
 kO 5 (.mv 10)])
 (.seq (.region [
 kO 11 (.mv 1),
 kO 12 (.mv 0),
 kO 13 (.mv 5),
 kO 14 (.ixs 1 12 13),
 kO 15 (.ld false 1 14),
 kO 16 (.bin .eql 11 15)])
 (.cond 16
 (.seq (.region [
  kO 17 (.mv 5),
  kO 4 (.mv 17)])
  .ret)
 .skip))))
 c_q106_3)
def c_q106_5 : CCode :=
  (.seq (.cond 9
 .skip
 (.exit 0))
 c_q106_4)
def c_q106_6 : CCode :=
  (.seq (.region [
 kO 9 (.bin .lss 8 7)])
 c_q106_5)
def c_q106_L2 : CCode :=
  (.loop [0, 1, 7, 8] c_q106_6)
def c_q106_7 : CCode :=
  (.block 0 c_q106_L2)
def c_q106_8 : CCode :=
  (.seq (.region [
 kO 6 (.mv 0),
 kO 7 (.len 1 6),
 kO 8 (.mv (ci 0))])
 c_q106_7)
def c_q106_9 : CCode :=
  (.seq c_q106_8
 c_q106_1)
def c_q106_10 : CCode :=
  (.seq (.region [
 kO 4 (.mv (ci 0))])
 c_q106_9)
def c_q106 : CFunc :=
  ⟨2, true, 0, c_q106_10, [.t 4]⟩
def c_q13_1 : CCode :=
  (.seq (.region [
 kO 1 (.box (some 0) 0),
 kO 2 (.mv (.c (.bool false)))])
 (.seq (.region [
 kO 3 (.fa 0 1),
 kO 4 (.ld false 1 3),
 kO 5 (.bin .geq 4 (ci 23)),
 kO 6 (.mv 5),
 kG 7 (.fa 0 1) 6 true,
 kG 8 (.ld false 1 7) 6 true,
 kG 9 (.bin .leq 8 (ci 26)) 6 true,
 kO 10 (.pick 6 9 (.c (.bool false))),
 kO 2 (.mv 10)])
 .ret))
def c_q13 : CFunc :=
  ⟨1, true, 1, c_q13_1, [.t 2]⟩
def c_q104_1 : CCode :=
  (.seq (.region [
 kO 5 (.buildS (some 0) 1 0 [(.int .i64 0)] []),
 kO 6 (.mv 0),
 kO 7 (.app (some 1) 1 8 5 6),
 kO 2 (.mv 7)])
 .ret)
def c_q104_2 : CCode :=
  (.seq (.seq (.region [
 kO 3 (.mv 0),
 kO 4 (.eqn 1 false 3 (.c .nils))])
 (.cond 4
 (.seq (.region [
  kO 2 (.mv (.c .nils))])
  .ret)
 .skip))
 c_q104_1)
def c_q104_3 : CCode :=
  (.seq (.region [
 kO 2 (.mv (.c .nils))])
 c_q104_2)
def c_q104 : CFunc :=
  ⟨1, true, 2, c_q104_3, [.t 2]⟩
def c_q23_1 : CCode :=
  (.seq (.region [
 kO 183 (.ld true 9 3),
 kO 184 (.call none true 22 [183]),
 kO 185 (.un .not 184),
 kO 186 (.mv 185),
 kG 187 (.fa 6 3) 186 false,
 kG 188 (.ld false 1 187) 186 false,
 kG 189 (.bin .geq 188 (ci 0)) 186 false,
 kG 190 (.mv 189) 186 false,
 kG 191 (.fa 6 3) 190 true,
 kG 192 (.ld false 1 191) 190 true,
 kG 193 (.fa 3 2) 190 true,
 kG 194 (.ld false 1 193) 190 true,
 kG 195 (.len 1 194) 190 true,
 kG 196 (.bin .lss 192 195) 190 true,
 kG 197 (.pick 190 196 (.c (.bool false))) 186 false,
 kO 198 (.pick 186 (.c (.bool true)) 197),
 kO 4 (.mv 198)])
 .ret)
def c_q23_2 : CCode :=
  (.seq (.seq (.region [
 kO 105 (.fa 0 3),
 kO 106 (.ld false 1 105)])
 (.block 4 (.seq (.region [
 kO 108 (.bin .eql 106 (ci 1)),
 kO 107 (.mv 108)])
 (.cond 107
 (.seq (.region [
  kO 109 (.fa 0 2),
  kO 110 (.ld false 1 109),
  kO 111 (.fa 1 3),
  kO 112 (.ld false 1 111),
  kO 113 (.ixs 1 110 112),
  kO 114 (.ld false 1 113),
  kO 115 (.bin .neq 114 (ci 3)),
  kO 116 (.mv 115),
  kG 117 (.fa 0 2) 116 true,
  kG 118 (.ld false 1 117) 116 true,
  kG 119 (.fa 1 3) 116 true,
  kG 120 (.ld false 1 119) 116 true,
  kG 121 (.ixs 1 118 120) 116 true,
  kG 122 (.ld false 1 121) 116 true,
  kG 123 (.bin .eql 122 (ci 2)) 116 true,
  kG 124 (.mv 123) 116 true,
  kG 125 (.fa 5 3) 124 false,
  kG 126 (.ld false 1 125) 124 false,
  kG 127 (.fa 5 3) 124 false,
  kG 128 (.ld false 1 127) 124 false,
  kG 129 (.cvi .i32 128) 124 false,
  kG 130 (.cvi .i64 129) 124 false,
  kG 131 (.bin .eql 126 130) 124 false,
  kG 132 (.pick 124 (.c (.bool true)) 131) 116 true,
  kO 133 (.pick 116 132 (.c (.bool false))),
  kO 4 (.mv 133)])
  .ret)
 (.seq (.region [
  kO 135 (.bin .eql 106 (ci 4)),
  kO 134 (.mv 135)])
  (.cond 134
  (.seq (.draw [
   kO 136 (.fa 0 2),
   kO 137 (.ld false 1 136),
   kO 138 (.fa 1 3),
   kO 139 (.ld false 1 138),
   kO 140 (.ixs 1 137 139),
   kO 141 (.ld false 1 140),
   kO 142 (.fa 0 2),
   kO 143 (.ld false 1 142),
   kO 144 (.fa 2 3),
   kO 145 (.ld false 1 144),
   kO 146 (.ixs 1 143 145),
   kO 147 (.ld false 1 146),
   kO 148 (.bin .eql 141 147),
   kO 4 (.mv 148)] [])
   .ret)
  (.seq (.region [
   kO 150 (.bin .eql 106 (ci 7)),
   kO 149 (.mv 150)])
   (.cond 149
   (.seq (.region [
    kO 151 (.fa 0 2),
    kO 152 (.ld false 1 151),
    kO 153 (.fa 2 3),
    kO 154 (.ld false 1 153),
    kO 155 (.ixs 1 152 154),
    kO 156 (.ld false 1 155),
    kO 157 (.bin .neq 156 (ci 3)),
    kO 4 (.mv 157)])
    .ret)
   (.seq (.region [
    kO 159 (.bin .eql 106 (ci 30)),
    kO 158 (.mv 159)])
    (.cond 158
    (.seq (.draw [
     kO 160 (.fa 2 3),
     kO 161 (.ld false 1 160),
     kO 162 (.bin .eql 161 (ci (-1))),
     kO 163 (.fa 2 2),
     kO 164 (.ld false 1 163),
     kO 165 (.bin .eql 164 (ci 0)),
     kO 166 (.eqb false 162 165),
     kO 167 (.mv 166),
     kG 168 (.fa 2 3) 167 true,
     kG 169 (.ld false 1 168) 167 true,
     kG 170 (.bin .eql 169 (ci (-1))) 167 true,
     kG 171 (.mv 170) 167 true,
     kG 172 (.fa 0 2) 171 false,
     kG 173 (.ld false 1 172) 171 false,
     kG 174 (.fa 2 3) 171 false,
     kG 175 (.ld false 1 174) 171 false,
     kG 176 (.ixs 1 173 175) 171 false,
     kG 177 (.ld false 1 176) 171 false,
     kG 178 (.fa 2 2) 171 false,
     kG 179 (.ld false 1 178) 171 false,
     kG 180 (.bin .eql 177 179) 171 false,
     kG 181 (.pick 171 (.c (.bool true)) 180) 167 true,
     kO 182 (.pick 167 181 (.c (.bool false))),
     kO 4 (.mv 182)] [])
     .ret)
    .skip))))))))))
 c_q23_1)
def c_q23_4 : CCode :=
  (.region [
 kO 104 (.bin .add 65 (ci 1)),
 kO 65 (.mv 104)])
def c_q23_5 : CCode :=
  (.seq (.region [
 kO 73 (.mv 10),
 kO 74 (.bin .lss 73 (ci 0)),
 kO 75 (.mv 74),
 kG 76 (.mv 10) 75 false,
 kG 77 (.fa 0 2) 75 false,
 kG 78 (.ld false 1 77) 75 false,
 kG 79 (.len 1 78) 75 false,
 kG 80 (.bin .geq 76 79) 75 false,
 kO 81 (.pick 75 (.c (.bool true)) 80),
 kO 82 (.mv 81),
 kG 83 (.mv 9) 82 false,
 kG 84 (.bin .eql 83 (ci 0)) 82 false,
 kG 85 (.mv 84) 82 false,
 kG 86 (.fa 0 3) 85 true,
 kG 87 (.ld false 1 86) 85 true,
 kG 88 (.bin .eql 87 (ci 24)) 85 true,
 kG 89 (.mv 88) 85 true,
 kG 90 (.fa 0 3) 89 false,
 kG 91 (.ld false 1 90) 89 false,
 kG 92 (.bin .eql 91 (ci 25)) 89 false,
 kG 93 (.pick 89 (.c (.bool true)) 92) 85 true,
 kG 94 (.pick 85 93 (.c (.bool false))) 82 false,
 kG 95 (.mv 94) 82 false,
 kG 96 (.fa 0 2) 95 true,
 kG 97 (.ld false 1 96) 95 true,
 kG 98 (.mv 10) 95 true,
 kG 99 (.ixs 1 97 98) 95 true,
 kG 100 (.ld false 1 99) 95 true,
 kG 101 (.bin .neq 100 (ci 3)) 95 true,
 kG 102 (.pick 95 101 (.c (.bool false))) 82 false,
 kO 103 (.pick 82 (.c (.bool true)) 102)])
 (.cond 103
 (.seq (.region [
  kO 4 (.mv (.c (.bool false)))])
  .ret)
 .skip))
def c_q23_6 : CCode :=
  (.seq (.seq (.region [
 kO 70 (.ld true 9 3),
 kO 71 (.call none true 17 [70]),
 kO 72 (.un .not 71)])
 (.cond 72
 (.exit 2)
 .skip))
 c_q23_5)
def c_q23_7 : CCode :=
  (.seq (.region [
 kO 67 (.mv 65),
 kO 68 (.ixs 1 63 65),
 kO 69 (.ld false 1 68),
 kO 9 (.mv 67),
 kO 10 (.mv 69)])
 c_q23_6)
def c_q23_8 : CCode :=
  (.block 3 c_q23_7)
def c_q23_9 : CCode :=
  (.seq c_q23_8
 c_q23_4)
def c_q23_10 : CCode :=
  (.seq (.cond 66
 .skip
 (.exit 2))
 c_q23_9)
def c_q23_11 : CCode :=
  (.seq (.region [
 kO 66 (.bin .lss 65 64)])
 c_q23_10)
def c_q23_L3 : CCode :=
  (.loop [2, 3, 63, 64, 65] c_q23_11)
def c_q23_12 : CCode :=
  (.block 2 c_q23_L3)
def c_q23_13 : CCode :=
  (.seq (.region [
 kO 62 (.fa 8 3),
 kO 63 (.ld false 1 62),
 kO 64 (.len 1 63),
 kO 65 (.mv (ci 0))])
 c_q23_12)
def c_q23_14 : CCode :=
  (.seq c_q23_13
 c_q23_2)
def c_q23_16 : CCode :=
  (.region [
 kO 61 (.bin .add 27 (ci 1)),
 kO 27 (.mv 61)])
def c_q23_17 : CCode :=
  (.seq (.draw [
 kO 35 (.mv 8),
 kO 36 (.bin .lss 35 (ci 0)),
 kO 37 (.mv 36),
 kG 38 (.mv 8) 37 false,
 kG 39 (.fa 0 2) 37 false,
 kG 40 (.ld false 1 39) 37 false,
 kG 41 (.len 1 40) 37 false,
 kG 42 (.bin .geq 38 41) 37 false,
 kO 43 (.pick 37 (.c (.bool true)) 42),
 kO 44 (.mv 43),
 kG 45 (.mv 7) 44 false,
 kG 46 (.ixa 4 1 5 45) 44 false,
 kG 47 (.ld false 1 46) 44 false,
 kG 48 (.bin .gtr 47 (ci 0)) 44 false,
 kG 49 (.mv 48) 44 false,
 kG 50 (.fa 0 2) 49 true,
 kG 51 (.ld false 1 50) 49 true,
 kG 52 (.mv 8) 49 true,
 kG 53 (.ixs 1 51 52) 49 true,
 kG 54 (.ld false 1 53) 49 true,
 kG 55 (.mv 7) 49 true,
 kG 56 (.ixa 4 1 5 55) 49 true,
 kG 57 (.ld false 1 56) 49 true,
 kG 58 (.bin .neq 54 57) 49 true,
 kG 59 (.pick 49 58 (.c (.bool false))) 44 false,
 kO 60 (.pick 44 (.c (.bool true)) 59)] [])
 (.cond 60
 (.seq (.region [
  kO 4 (.mv (.c (.bool false)))])
  .ret)
 .skip))
def c_q23_18 : CCode :=
  (.seq (.seq (.region [
 kO 31 (.mv 7),
 kO 32 (.ixa 4 1 5 31),
 kO 33 (.ld false 1 32),
 kO 34 (.bin .lss 33 (ci 0))])
 (.cond 34
 (.exit 1)
 .skip))
 c_q23_17)
def c_q23_19 : CCode :=
  (.seq (.region [
 kO 29 (.mv 27),
 kO 30 (.ixv false 4 1 26 27),
 kO 7 (.mv 29),
 kO 8 (.mv 30)])
 c_q23_18)
def c_q23_20 : CCode :=
  (.block 1 c_q23_19)
def c_q23_21 : CCode :=
  (.seq c_q23_20
 c_q23_16)
def c_q23_22 : CCode :=
  (.seq (.cond 28
 .skip
 (.exit 0))
 c_q23_21)
def c_q23_23 : CCode :=
  (.seq (.region [
 kO 28 (.bin .lss 27 (ci 4))])
 c_q23_22)
def c_q23_L15 : CCode :=
  (.loop [2, 3, 5, 26, 27] c_q23_23)
def c_q23_24 : CCode :=
  (.block 0 c_q23_L15)
def c_q23_25 : CCode :=
  (.seq (.region [
 kO 18 (.fa 1 3),
 kO 19 (.ld false 1 18),
 kO 20 (.fa 2 3),
 kO 21 (.ld false 1 20),
 kO 22 (.fa 3 3),
 kO 23 (.ld false 1 22),
 kO 24 (.fa 4 3),
 kO 25 (.ld false 1 24),
 kO 26 (.build [(.int .i64 0), (.int .i64 0), (.int .i64 0), (.int .i64 0)] [(0, 1, 19), (1, 1, 21), (2, 1, 23), (3, 1, 25)]),
 kO 27 (.mv (ci 0))])
 c_q23_24)
def c_q23_26 : CCode :=
  (.seq c_q23_25
 c_q23_14)
def c_q23_27 : CCode :=
  (.seq (.seq (.region [
 kO 16 (.mv 6),
 kO 17 (.un .not 16)])
 (.cond 17
 (.seq (.region [
  kO 4 (.mv (.c (.bool false)))])
  .ret)
 .skip))
 c_q23_26)
def c_q23_28 : CCode :=
  (.seq (.region [
 kO 12 (.ld true 9 3),
 kO 13 (.call none true 47 [12]),
 kO 11 (.mv 13),
 kO 14 (.ext 0 11),
 kO 15 (.ext 1 11),
 kO 5 (.new (some 2) [(.int .i64 0), (.int .i64 0), (.int .i64 0), (.int .i64 0)]),
 kU (.st 4 5 14),
 kO 6 (.mv 15)])
 c_q23_27)
def c_q23_29 : CCode :=
  (.seq (.region [
 kO 2 (.box (some 0) 0),
 kO 3 (.box (some 1) 1),
 kO 4 (.mv (.c (.bool false)))])
 c_q23_28)
def c_q23 : CFunc :=
  ⟨2, true, 3, c_q23_29, [.t 4]⟩
def c_q75_1 : CCode :=
  (.seq (.region [
 kO 28 (.mv 7),
 kO 29 (.mv 2),
 kO 30 (.bin .sub 29 (.c (.int .u8 48))),
 kO 31 (.cvi .i64 30),
 kO 32 (.bin .eql 28 31),
 kO 6 (.mv 32)])
 .ret)
def c_q75_2 : CCode :=
  (.cond 15
 (.seq (.region [
  kO 18 (.mv 7),
  kO 19 (.bin .gtr 18 (ci 0)),
  kO 6 (.mv 19)])
  .ret)
 (.seq (.region [
  kO 21 (.bin .eql 11 (.c (.int .u8 110))),
  kO 20 (.mv 21)])
  (.cond 20
  (.seq (.region [
   kO 22 (.mv 7),
   kO 23 (.bin .eql 22 (ci 1)),
   kO 24 (.mv 23),
   kG 25 (.mv 7) 24 false,
   kG 26 (.bin .eql 25 (ci 2)) 24 false,
   kO 27 (.pick 24 (.c (.bool true)) 26),
   kO 6 (.mv 27)])
   .ret)
  .skip)))
def c_q75_3 : CCode :=
  (.seq (.seq (.region [
 kO 16 (.bin .eql 11 (.c (.int .u8 42))),
 kO 15 (.mv 16)])
 (.cond 15
 .skip
 (.region [
  kO 17 (.bin .eql 11 (.c (.int .u8 61))),
  kO 15 (.mv 17)])))
 c_q75_2)
def c_q75_4 : CCode :=
  (.cond 12
 (.seq (.region [
  kO 6 (.mv (.c (.bool true)))])
  .ret)
 c_q75_3)
def c_q75_5 : CCode :=
  (.seq (.seq (.region [
 kO 13 (.bin .eql 11 (.c (.int .u8 45))),
 kO 12 (.mv 13)])
 (.cond 12
 .skip
 (.region [
  kO 14 (.bin .eql 11 (.c (.int .u8 63))),
  kO 12 (.mv 14)])))
 c_q75_4)
def c_q75_6 : CCode :=
  (.block 0 c_q75_5)
def c_q75_7 : CCode :=
  (.seq (.region [
 kO 11 (.mv 2)])
 c_q75_6)
def c_q75_8 : CCode :=
  (.seq c_q75_7
 c_q75_1)
def c_q75_9 : CCode :=
  (.seq (.region [
 kO 8 (.ld true 5 3),
 kO 9 (.mv 1),
 kO 10 (.call none true 48 [8, 9]),
 kO 7 (.mv 10)])
 c_q75_8)
def c_q75_10 : CCode :=
  (.seq (.region [
 kO 3 (.box (some 0) 0),
 kO 6 (.mv (.c (.bool false)))])
 c_q75_9)
def c_q75 : CFunc :=
  ⟨3, true, 1, c_q75_10, [.t 6]⟩
def c_q56_1 : CCode :=
  (.seq (.region [
 kO 2 (.mv (ci 0)),
 kO 3 (.mv (ci 0)),
 kO 4 (.mv (ci 0))])
 .ret)
def c_q56_2 : CCode :=
  (.seq (.block 0 (.seq (.region [
 kO 26 (.mv 5),
 kO 27 (.mv 26),
 kG 28 (.mv 0) 27 true,
 kG 29 (.bin .rem 28 (ci 2)) 27 true,
 kG 30 (.bin .eql 29 (ci 0)) 27 true,
 kO 31 (.pick 27 30 (.c (.bool false))),
 kO 25 (.mv 31)])
 (.cond 25
 (.seq (.region [
  kO 2 (.mv (ci 1)),
  kO 3 (.mv (ci 1)),
  kO 4 (.mv (ci 1))])
  .ret)
 (.seq (.region [
  kO 33 (.mv 0),
  kO 34 (.bin .eql 33 (ci 121)),
  kO 35 (.mv 34),
  kG 36 (.mv 0) 35 false,
  kG 37 (.bin .eql 36 (ci 123)) 35 false,
  kO 38 (.pick 35 (.c (.bool true)) 37),
  kO 39 (.mv 38),
  kG 40 (.mv 0) 39 false,
  kG 41 (.bin .eql 40 (ci 125)) 39 false,
  kO 42 (.pick 39 (.c (.bool true)) 41),
  kO 32 (.mv 42)])
  (.cond 32
  (.seq (.region [
   kO 2 (.mv (ci 2)),
   kO 3 (.mv (ci 1)),
   kO 4 (.mv (ci 2))])
   .ret)
  (.seq (.region [
   kO 44 (.mv 5),
   kO 43 (.mv 44)])
   (.cond 43
   (.seq (.region [
    kO 2 (.mv (ci 2)),
    kO 3 (.mv (ci 2)),
    kO 4 (.mv (ci 2))])
    .ret)
   (.seq (.region [
    kO 46 (.mv 0),
    kO 47 (.bin .eql 46 (ci 148)),
    kO 45 (.mv 47)])
    (.cond 45
    (.seq (.region [
     kO 2 (.mv (ci 2)),
     kO 3 (.mv (ci 2)),
     kO 4 (.mv (ci 1))])
     .ret)
    (.seq (.region [
     kO 49 (.mv 0),
     kO 50 (.bin .eql 49 (ci 116)),
     kO 51 (.mv 50),
     kG 52 (.mv 0) 51 false,
     kG 53 (.bin .geq 52 (ci 145)) 51 false,
     kG 54 (.mv 53) 51 false,
     kG 55 (.mv 0) 54 true,
     kG 56 (.bin .leq 55 (ci 147)) 54 true,
     kG 57 (.pick 54 56 (.c (.bool false))) 51 false,
     kO 58 (.pick 51 (.c (.bool true)) 57),
     kO 48 (.mv 58)])
     (.cond 48
     (.seq (.region [
      kO 2 (.mv (ci 1)),
      kO 3 (.mv (ci 0)),
      kO 4 (.mv (ci 1))])
      .ret)
     (.seq (.region [
      kO 60 (.mv 0),
      kO 61 (.bin .eql 60 (ci 117)),
      kO 59 (.mv 61)])
      (.cond 59
      (.seq (.region [
       kO 2 (.mv (ci 2)),
       kO 3 (.mv (ci 0)),
       kO 4 (.mv (ci 2))])
       .ret)
      (.seq (.region [
       kO 63 (.mv 0),
       kO 64 (.bin .eql 63 (ci 133)),
       kO 62 (.mv 64)])
       (.cond 62
       (.seq (.region [
        kO 2 (.mv (ci 1)),
        kO 3 (.mv (ci 0)),
        kO 4 (.mv (ci 2))])
        .ret)
       (.seq (.region [
        kO 66 (.mv 0),
        kO 67 (.bin .eql 66 (ci 136)),
        kO 65 (.mv 67)])
        (.cond 65
        (.seq (.region [
         kO 2 (.mv (ci 2)),
         kO 3 (.mv (ci 0)),
         kO 4 (.mv (ci 1))])
         .ret)
        .skip)))))))))))))))))
 c_q56_1)
def c_q56_3 : CCode :=
  (.seq (.region [
 kO 6 (.mv 0),
 kO 7 (.bin .geq 6 (ci 96)),
 kO 8 (.mv 7),
 kG 9 (.mv 0) 8 true,
 kG 10 (.bin .leq 9 (ci 113)) 8 true,
 kO 11 (.pick 8 10 (.c (.bool false))),
 kO 12 (.mv 11),
 kG 13 (.mv 0) 12 true,
 kG 14 (.bin .rem 13 (ci 4)) 12 true,
 kG 15 (.bin .lss 14 (ci 2)) 12 true,
 kO 16 (.pick 12 15 (.c (.bool false))),
 kO 17 (.mv 16),
 kG 18 (.mv 0) 17 false,
 kG 19 (.bin .geq 18 (ci 120)) 17 false,
 kG 20 (.mv 19) 17 false,
 kG 21 (.mv 0) 20 true,
 kG 22 (.bin .leq 21 (ci 131)) 20 true,
 kG 23 (.pick 20 22 (.c (.bool false))) 17 false,
 kO 24 (.pick 17 (.c (.bool true)) 23),
 kO 5 (.mv 24)])
 c_q56_2)
def c_q56_4 : CCode :=
  (.seq (.region [
 kO 2 (.mv (ci 0)),
 kO 3 (.mv (ci 0)),
 kO 4 (.mv (ci 0))])
 c_q56_3)
def c_q56 : CFunc :=
  ⟨1, true, 0, c_q56_4, [.t 2, .t 3, .t 4]⟩
def c_q58_1 : CCode :=
  (.seq (.region [
 kO 27 (.mv 0),
 kO 28 (.len 0 27),
 kO 29 (.bin .gtr 28 (ci 2)),
 kO 30 (.mv 29),
 kG 31 (.mv 0) 30 true,
 kG 32 (.ixstr 31 (ci 0)) 30 true,
 kG 33 (.bin .eql 32 (.c (.int .u8 76))) 30 true,
 kO 34 (.pick 30 33 (.c (.bool false))),
 kO 35 (.mv 34),
 kG 36 (.mv 0) 35 true,
 kG 37 (.mv 0) 35 true,
 kG 38 (.len 0 37) 35 true,
 kG 39 (.bin .sub 38 (ci 1)) 35 true,
 kG 40 (.ixstr 36 39) 35 true,
 kG 41 (.bin .eql 40 (.c (.int .u8 59))) 35 true,
 kO 42 (.pick 35 41 (.c (.bool false))),
 kO 43 (.mv 42),
 kG 44 (.mv 0) 43 true,
 kG 45 (.mv 0) 43 true,
 kG 46 (.len 0 45) 43 true,
 kG 47 (.bin .sub 46 (ci 1)) 43 true,
 kG 48 (.sls 44 (some (ci 1)) (some 47)) 43 true,
 kG 49 (.call none true 69 [48, (.c (.bool false))]) 43 true,
 kO 50 (.pick 43 49 (.c (.bool false))),
 kO 2 (.mv 50)])
 .ret)
def c_q58_2 : CCode :=
  (.seq (.seq (.region [
 kO 21 (.mv 0),
 kO 22 (.bin .eql 21 (.c (.str [73]))),
 kO 23 (.mv 22),
 kG 24 (.mv 0) 23 false,
 kG 25 (.bin .eql 24 (.c (.str [74]))) 23 false,
 kO 26 (.pick 23 (.c (.bool true)) 25)])
 (.cond 26
 (.seq (.region [
  kO 2 (.mv (.c (.bool true)))])
  .ret)
 .skip))
 c_q58_1)
def c_q58_3 : CCode :=
  (.seq (.seq (.region [
 kO 19 (.mv 3),
 kO 20 (.bin .gtr 19 (ci 8))])
 (.cond 20
 (.seq (.region [
  kO 2 (.mv (.c (.bool false)))])
  .ret)
 .skip))
 c_q58_2)
def c_q58_4 : CCode :=
  (.seq (.region [
 kO 16 (.mv 0),
 kO 17 (.mv 3),
 kO 18 (.sls 16 (some 17) none),
 kO 0 (.mv 18)])
 c_q58_3)
def c_q58_6 : CCode :=
  (.block 1 (.region [
 kO 14 (.mv 3),
 kO 15 (.bin .add 14 (ci 1)),
 kO 3 (.mv 15)]))
def c_q58_7 : CCode :=
  (.seq (.seq (.region [
 kO 4 (.mv 3),
 kO 5 (.mv 0),
 kO 6 (.len 0 5),
 kO 7 (.bin .lss 4 6),
 kO 8 (.mv 7),
 kG 9 (.mv 0) 8 true,
 kG 10 (.mv 3) 8 true,
 kG 11 (.ixstr 9 10) 8 true,
 kG 12 (.bin .eql 11 (.c (.int .u8 91))) 8 true,
 kO 13 (.pick 8 12 (.c (.bool false)))])
 (.cond 13
 .skip
 (.exit 0)))
 c_q58_6)
def c_q58_L5 : CCode :=
  (.loop [0, 3] c_q58_7)
def c_q58_8 : CCode :=
  (.block 0 c_q58_L5)
def c_q58_9 : CCode :=
  (.seq c_q58_8
 c_q58_4)
def c_q58_10 : CCode :=
  (.seq (.region [
 kO 3 (.mv (ci 0))])
 c_q58_9)
def c_q58_11 : CCode :=
  (.seq (.region [
 kO 2 (.mv (.c (.bool false)))])
 c_q58_10)
def c_q58 : CFunc :=
  ⟨1, true, 0, c_q58_11, [.t 2]⟩
def c_q69_1 : CCode :=
  (.seq (.draw [
 kO 47 (.fa 0 3),
 kO 48 (.ld false 1 47),
 kO 49 (.bin .neq 48 (ci 24)),
 kO 50 (.mv 49),
 kG 51 (.fa 0 3) 50 true,
 kG 52 (.ld false 1 51) 50 true,
 kG 53 (.bin .neq 52 (ci 25)) 50 true,
 kO 54 (.pick 50 53 (.c (.bool false))),
 kO 55 (.mv 54),
 kG 56 (.fa 8 3) 55 false,
 kG 57 (.ld false 1 56) 55 false,
 kG 58 (.len 1 57) 55 false,
 kG 59 (.bin .gtr 58 (ci 0)) 55 false,
 kG 60 (.mv 59) 55 false,
 kG 61 (.ld true 5 2) 60 true,
 kG 62 (.fa 8 3) 60 true,
 kG 63 (.ld false 1 62) 60 true,
 kG 64 (.ixs 1 63 (ci 0)) 60 true,
 kG 65 (.ld false 1 64) 60 true,
 kG 66 (.call none true 48 [61, 65]) 60 true,
 kG 67 (.bin .eql 66 (ci 3)) 60 true,
 kG 68 (.pick 60 67 (.c (.bool false))) 55 false,
 kO 69 (.pick 55 (.c (.bool true)) 68),
 kO 4 (.mv 69)] [])
 .ret)
def c_q69_3 : CCode :=
  (.region [
 kO 37 (.mv 5),
 kO 38 (.bin .add 37 (ci 1)),
 kO 5 (.mv 38)])
def c_q69_4 : CCode :=
  (.seq (.block 1 (.seq (.draw [
 kO 39 (.ld true 5 2),
 kO 40 (.fa 8 3),
 kO 41 (.ld false 1 40),
 kO 42 (.mv 5),
 kO 43 (.ixs 1 41 42),
 kO 44 (.ld false 1 43),
 kO 45 (.call none true 48 [39, 44]),
 kO 46 (.bin .eql 45 (ci 0))] [])
 (.cond 46
 (.seq (.region [
  kO 4 (.mv (.c (.bool false)))])
  .ret)
 .skip)))
 c_q69_3)
def c_q69_5 : CCode :=
  (.seq (.seq (.region [
 kO 32 (.mv 5),
 kO 33 (.fa 8 3),
 kO 34 (.ld false 1 33),
 kO 35 (.len 1 34),
 kO 36 (.bin .lss 32 35)])
 (.cond 36
 .skip
 (.exit 0)))
 c_q69_4)
def c_q69_L2 : CCode :=
  (.loop [2, 3, 5] c_q69_5)
def c_q69_6 : CCode :=
  (.block 0 c_q69_L2)
def c_q69_7 : CCode :=
  (.seq (.region [
 kO 5 (.mv (ci 0))])
 c_q69_6)
def c_q69_8 : CCode :=
  (.seq c_q69_7
 c_q69_1)
def c_q69_9 : CCode :=
  (.seq (.seq (.region [
 kO 6 (.fa 5 3),
 kO 7 (.ld false 1 6),
 kO 8 (.bin .lss 7 (ci 0)),
 kO 9 (.mv 8),
 kG 10 (.fa 0 3) 9 true,
 kG 11 (.ld false 1 10) 9 true,
 kG 12 (.bin .neq 11 (ci 25)) 9 true,
 kO 13 (.pick 9 12 (.c (.bool false))),
 kO 14 (.mv 13),
 kG 15 (.fa 8 3) 14 false,
 kG 16 (.ld false 1 15) 14 false,
 kG 17 (.len 1 16) 14 false,
 kG 18 (.bin .gtr 17 (ci 21)) 14 false,
 kO 19 (.pick 14 (.c (.bool true)) 18),
 kO 20 (.mv 19),
 kG 21 (.fa 1 3) 20 false,
 kG 22 (.ld false 1 21) 20 false,
 kG 23 (.bin .neq 22 (ci (-1))) 20 false,
 kG 24 (.mv 23) 20 false,
 kG 25 (.ld true 5 2) 24 true,
 kG 26 (.fa 1 3) 24 true,
 kG 27 (.ld false 1 26) 24 true,
 kG 28 (.call none true 48 [25, 27]) 24 true,
 kG 29 (.bin .eql 28 (ci 0)) 24 true,
 kG 30 (.pick 24 29 (.c (.bool false))) 20 false,
 kO 31 (.pick 20 (.c (.bool true)) 30)])
 (.cond 31
 (.seq (.region [
  kO 4 (.mv (.c (.bool false)))])
  .ret)
 .skip))
 c_q69_8)
def c_q69_10 : CCode :=
  (.seq (.region [
 kO 2 (.box (some 0) 0),
 kO 3 (.box (some 1) 1),
 kO 4 (.mv (.c (.bool false)))])
 c_q69_9)
def c_q69 : CFunc :=
  ⟨2, true, 2, c_q69_10, [.t 4]⟩
def c_q42_1 : CCode :=
  (.seq (.region [
 kO 4 (.mv (.c (.bool false)))])
 (.seq (.region [
 kO 5 (.mv 0),
 kO 6 (.mv 1),
 kO 7 (.bin .quo 6 (ci 64)),
 kO 8 (.ixs 1 5 7),
 kO 9 (.ld false 1 8),
 kO 10 (.mv 1),
 kO 11 (.bin .rem 10 (ci 64)),
 kO 12 (.bin .shr 9 11),
 kO 13 (.bin .and 12 (.c (.int .u64 1))),
 kO 14 (.bin .eql 13 (.c (.int .u64 1))),
 kO 4 (.mv 14)])
 .ret))
def c_q42 : CFunc :=
  ⟨2, true, 0, c_q42_1, [.t 4]⟩
def c_q21_1 : CCode :=
  (.seq (.region [
 kO 138 (.ld true 9 1),
 kO 139 (.call none true 51 [138]),
 kO 140 (.ext 0 139),
 kO 141 (.ext 1 139),
 kU (.st 4 2 140),
 kO 3 (.mv 141)])
 .ret)
def c_q21_2 : CCode :=
  (.cond 134
 (.seq (.region [
  kO 137 (.build [(.int .i64 0), (.int .i64 0), (.int .i64 0), (.int .i64 0)] [(0, 1, (ci (-1))), (1, 1, (ci (-1))), (2, 1, (ci (-1))), (3, 1, (ci (-1)))]),
  kU (.st 4 2 137),
  kO 3 (.mv (.c (.bool true)))])
  .ret)
 .skip)
def c_q21_3 : CCode :=
  (.seq (.seq (.region [
 kO 135 (.bin .eql 11 (ci 27)),
 kO 134 (.mv 135)])
 (.cond 134
 .skip
 (.region [
  kO 136 (.bin .eql 11 (ci 33)),
  kO 134 (.mv 136)])))
 c_q21_2)
def c_q21_4 : CCode :=
  (.cond 123
 (.seq (.draw [
  kO 125 (.build [(.int .i64 0), (.int .i64 0), (.int .i64 0), (.int .i64 0)] [(0, 1, (ci (-1))), (1, 1, (ci 1)), (2, 1, (ci 1)), (3, 1, (ci (-1)))]),
  kO 126 (.fa 5 1),
  kO 127 (.ld false 1 126),
  kO 128 (.bin .geq 127 (ci 0)),
  kO 129 (.mv 128),
  kG 130 (.fa 5 1) 129 true,
  kG 131 (.ld false 1 130) 129 true,
  kG 132 (.bin .leq 131 (ci 5)) 129 true,
  kO 133 (.pick 129 132 (.c (.bool false))),
  kU (.st 4 2 125),
  kO 3 (.mv 133)] [(6, 9)])
  .ret)
 c_q21_3)
def c_q21_5 : CCode :=
  (.seq (.region [
 kO 124 (.bin .eql 11 (ci 28)),
 kO 123 (.mv 124)])
 c_q21_4)
def c_q21_6 : CCode :=
  (.cond 117
 (.seq (.region [
  kO 119 (.build [(.int .i64 0), (.int .i64 0), (.int .i64 0), (.int .i64 0)] [(0, 1, (ci 3)), (1, 1, (ci 1)), (2, 1, (ci (-1))), (3, 1, (ci (-1)))]),
  kO 120 (.fa 7 1),
  kO 121 (.ld false 1 120),
  kO 122 (.call none true 37 [121]),
  kU (.st 4 2 119),
  kO 3 (.mv 122)])
  .ret)
 c_q21_5)
def c_q21_7 : CCode :=
  (.seq (.region [
 kO 118 (.bin .eql 11 (ci 21)),
 kO 117 (.mv 118)])
 c_q21_6)
def c_q21_8 : CCode :=
  (.cond 114
 (.seq (.region [
  kO 116 (.build [(.int .i64 0), (.int .i64 0), (.int .i64 0), (.int .i64 0)] [(0, 1, (ci (-1))), (1, 1, (ci 0)), (2, 1, (ci (-1))), (3, 1, (ci (-1)))]),
  kU (.st 4 2 116),
  kO 3 (.mv (.c (.bool true)))])
  .ret)
 c_q21_7)
def c_q21_9 : CCode :=
  (.seq (.region [
 kO 115 (.bin .eql 11 (ci 19)),
 kO 114 (.mv 115)])
 c_q21_8)
def c_q21_10 : CCode :=
  (.cond 108
 (.seq (.draw [
  kO 110 (.build [(.int .i64 0), (.int .i64 0), (.int .i64 0), (.int .i64 0)] [(0, 1, (ci (-1))), (1, 1, (ci 3)), (2, 1, (ci 0)), (3, 1, (ci (-1)))]),
  kO 111 (.fa 5 1),
  kO 112 (.ld false 1 111),
  kO 113 (.bin .geq 112 (ci 0)),
  kU (.st 4 2 110),
  kO 3 (.mv 113)] [(2, 4)])
  .ret)
 c_q21_9)
def c_q21_11 : CCode :=
  (.seq (.region [
 kO 109 (.bin .eql 11 (ci 17)),
 kO 108 (.mv 109)])
 c_q21_10)
def c_q21_12 : CCode :=
  (.cond 102
 (.seq (.draw [
  kO 104 (.build [(.int .i64 0), (.int .i64 0), (.int .i64 0), (.int .i64 0)] [(0, 1, (ci 0)), (1, 1, (ci 3)), (2, 1, (ci (-1))), (3, 1, (ci (-1)))]),
  kO 105 (.fa 5 1),
  kO 106 (.ld false 1 105),
  kO 107 (.bin .geq 106 (ci 0)),
  kU (.st 4 2 104),
  kO 3 (.mv 107)] [(2, 4)])
  .ret)
 c_q21_11)
def c_q21_13 : CCode :=
  (.seq (.region [
 kO 103 (.bin .eql 11 (ci 16)),
 kO 102 (.mv 103)])
 c_q21_12)
def c_q21_14 : CCode :=
  (.cond 99
 (.seq (.region [
  kO 101 (.build [(.int .i64 0), (.int .i64 0), (.int .i64 0), (.int .i64 0)] [(0, 1, (ci 1)), (1, 1, (ci 3)), (2, 1, (ci (-1))), (3, 1, (ci (-1)))]),
  kU (.st 4 2 101),
  kO 3 (.mv (.c (.bool true)))])
  .ret)
 c_q21_13)
def c_q21_15 : CCode :=
  (.seq (.region [
 kO 100 (.bin .eql 11 (ci 15)),
 kO 99 (.mv 100)])
 c_q21_14)
def c_q21_16 : CCode :=
  (.cond 96
 (.seq (.region [
  kO 98 (.build [(.int .i64 0), (.int .i64 0), (.int .i64 0), (.int .i64 0)] [(0, 1, (ci (-1))), (1, 1, (ci 3)), (2, 1, (ci 1)), (3, 1, (ci 0))]),
  kU (.st 4 2 98),
  kO 3 (.mv (.c (.bool true)))])
  .ret)
 c_q21_15)
def c_q21_17 : CCode :=
  (.seq (.region [
 kO 97 (.bin .eql 11 (ci 14)),
 kO 96 (.mv 97)])
 c_q21_16)
def c_q21_18 : CCode :=
  (.cond 93
 (.seq (.region [
  kO 95 (.build [(.int .i64 0), (.int .i64 0), (.int .i64 0), (.int .i64 0)] [(0, 1, (ci 0)), (1, 1, (ci 3)), (2, 1, (ci 1)), (3, 1, (ci (-1)))]),
  kU (.st 4 2 95),
  kO 3 (.mv (.c (.bool true)))])
  .ret)
 c_q21_17)
def c_q21_19 : CCode :=
  (.seq (.region [
 kO 94 (.bin .eql 11 (ci 13)),
 kO 93 (.mv 94)])
 c_q21_18)
def c_q21_20 : CCode :=
  (.cond 90
 (.seq (.region [
  kO 92 (.build [(.int .i64 0), (.int .i64 0), (.int .i64 0), (.int .i64 0)] [(0, 1, (ci (-1))), (1, 1, (ci 3)), (2, 1, (ci 3)), (3, 1, (ci (-1)))]),
  kU (.st 4 2 92),
  kO 3 (.mv (.c (.bool true)))])
  .ret)
 c_q21_19)
def c_q21_21 : CCode :=
  (.seq (.region [
 kO 91 (.bin .eql 11 (ci 11)),
 kO 90 (.mv 91)])
 c_q21_20)
def c_q21_22 : CCode :=
  (.cond 87
 (.seq (.region [
  kO 89 (.build [(.int .i64 0), (.int .i64 0), (.int .i64 0), (.int .i64 0)] [(0, 1, (ci (-1))), (1, 1, (ci 1)), (2, 1, (ci (-1))), (3, 1, (ci (-1)))]),
  kU (.st 4 2 89),
  kO 3 (.mv (.c (.bool true)))])
  .ret)
 c_q21_21)
def c_q21_23 : CCode :=
  (.seq (.region [
 kO 88 (.bin .eql 11 (ci 10)),
 kO 87 (.mv 88)])
 c_q21_22)
def c_q21_24 : CCode :=
  (.cond 84
 (.seq (.region [
  kO 86 (.build [(.int .i64 0), (.int .i64 0), (.int .i64 0), (.int .i64 0)] [(0, 1, (ci (-1))), (1, 1, (ci 3)), (2, 1, (ci 1)), (3, 1, (ci (-1)))]),
  kU (.st 4 2 86),
  kO 3 (.mv (.c (.bool true)))])
  .ret)
 c_q21_23)
def c_q21_25 : CCode :=
  (.seq (.region [
 kO 85 (.bin .eql 11 (ci 9)),
 kO 84 (.mv 85)])
 c_q21_24)
def c_q21_26 : CCode :=
  (.cond 78
 (.seq (.region [
  kO 80 (.build [(.int .i64 0), (.int .i64 0), (.int .i64 0), (.int .i64 0)] [(0, 1, (ci 1)), (1, 1, (ci 3)), (2, 1, (ci (-1))), (3, 1, (ci (-1)))]),
  kO 81 (.fa 7 1),
  kO 82 (.ld false 1 81),
  kO 83 (.call none true 37 [82]),
  kU (.st 4 2 80),
  kO 3 (.mv 83)])
  .ret)
 c_q21_25)
def c_q21_27 : CCode :=
  (.seq (.region [
 kO 79 (.bin .eql 11 (ci 22)),
 kO 78 (.mv 79)])
 c_q21_26)
def c_q21_28 : CCode :=
  (.cond 72
 (.seq (.region [
  kO 74 (.build [(.int .i64 0), (.int .i64 0), (.int .i64 0), (.int .i64 0)] [(0, 1, (ci (-1))), (1, 1, (ci 3)), (2, 1, (ci (-1))), (3, 1, (ci (-1)))]),
  kO 75 (.fa 7 1),
  kO 76 (.ld false 1 75),
  kO 77 (.call none true 37 [76]),
  kU (.st 4 2 74),
  kO 3 (.mv 77)])
  .ret)
 c_q21_27)
def c_q21_29 : CCode :=
  (.seq (.region [
 kO 73 (.bin .eql 11 (ci 12)),
 kO 72 (.mv 73)])
 c_q21_28)
def c_q21_30 : CCode :=
  (.cond 68
 (.seq (.region [
  kO 71 (.build [(.int .i64 0), (.int .i64 0), (.int .i64 0), (.int .i64 0)] [(0, 1, (ci (-1))), (1, 1, (ci 3)), (2, 1, (ci (-1))), (3, 1, (ci (-1)))]),
  kU (.st 4 2 71),
  kO 3 (.mv (.c (.bool true)))])
  .ret)
 c_q21_29)
def c_q21_31 : CCode :=
  (.seq (.seq (.region [
 kO 69 (.bin .eql 11 (ci 8)),
 kO 68 (.mv 69)])
 (.cond 68
 .skip
 (.region [
  kO 70 (.bin .eql 11 (ci 31)),
  kO 68 (.mv 70)])))
 c_q21_30)
def c_q21_32 : CCode :=
  (.cond 65
 (.seq (.region [
  kO 67 (.build [(.int .i64 0), (.int .i64 0), (.int .i64 0), (.int .i64 0)] [(0, 1, (ci (-1))), (1, 1, (ci 0)), (2, 1, (ci (-1))), (3, 1, (ci (-1)))]),
  kU (.st 4 2 67),
  kO 3 (.mv (.c (.bool true)))])
  .ret)
 c_q21_31)
def c_q21_33 : CCode :=
  (.seq (.region [
 kO 66 (.bin .eql 11 (ci 7)),
 kO 65 (.mv 66)])
 c_q21_32)
def c_q21_34 : CCode :=
  (.cond 47
 (.seq (.region [
  kO 50 (.fa 5 1),
  kO 51 (.ld false 1 50),
  kO 52 (.call none true 50 [51]),
  kO 49 (.mv 52),
  kO 53 (.ext 0 49),
  kO 54 (.ext 1 49),
  kO 55 (.ext 2 49),
  kO 7 (.mv 53),
  kO 8 (.mv 54),
  kO 9 (.mv 55)])
  (.seq (.region [
  kO 56 (.mv 9),
  kO 57 (.mv 7),
  kO 58 (.build [(.int .i64 0), (.int .i64 0), (.int .i64 0), (.int .i64 0)] [(0, 1, 56), (1, 1, 57), (2, 1, (ci (-1))), (3, 1, (ci (-1)))]),
  kO 59 (.mv 7),
  kO 60 (.bin .neq 59 (ci 0)),
  kO 61 (.mv 60),
  kG 62 (.mv 8) 61 true,
  kG 63 (.bin .eql 62 (ci 0)) 61 true,
  kO 64 (.pick 61 63 (.c (.bool false))),
  kU (.st 4 2 58),
  kO 3 (.mv 64)])
  .ret))
 c_q21_33)
def c_q21_35 : CCode :=
  (.seq (.region [
 kO 48 (.bin .eql 11 (ci 6)),
 kO 47 (.mv 48)])
 c_q21_34)
def c_q21_36 : CCode :=
  (.cond 25
 (.seq (.region [
  kO 28 (.fa 5 1),
  kO 29 (.ld false 1 28),
  kO 30 (.call none true 50 [29]),
  kO 27 (.mv 30),
  kO 31 (.ext 0 27),
  kO 32 (.ext 1 27),
  kO 33 (.ext 2 27),
  kO 4 (.mv 31),
  kO 5 (.mv 32),
  kO 6 (.mv 33)])
  (.seq (.region [
  kO 34 (.mv 6),
  kO 35 (.mv 4),
  kO 36 (.mv 5),
  kO 37 (.build [(.int .i64 0), (.int .i64 0), (.int .i64 0), (.int .i64 0)] [(0, 1, 34), (1, 1, 35), (2, 1, 36), (3, 1, (ci (-1)))]),
  kO 38 (.fa 5 1),
  kO 39 (.ld false 1 38),
  kO 40 (.fa 5 1),
  kO 41 (.ld false 1 40),
  kO 42 (.bin .eql 39 41),
  kO 43 (.mv 42),
  kG 44 (.mv 5) 43 true,
  kG 45 (.bin .neq 44 (ci 0)) 43 true,
  kO 46 (.pick 43 45 (.c (.bool false))),
  kU (.st 4 2 37),
  kO 3 (.mv 46)])
  .ret))
 c_q21_35)
def c_q21_37 : CCode :=
  (.seq (.region [
 kO 26 (.bin .eql 11 (ci 5)),
 kO 25 (.mv 26)])
 c_q21_36)
def c_q21_38 : CCode :=
  (.cond 22
 (.seq (.region [
  kO 24 (.build [(.int .i64 0), (.int .i64 0), (.int .i64 0), (.int .i64 0)] [(0, 1, (ci 0)), (1, 1, (ci 0)), (2, 1, (ci (-1))), (3, 1, (ci (-1)))]),
  kU (.st 4 2 24),
  kO 3 (.mv (.c (.bool true)))])
  .ret)
 c_q21_37)
def c_q21_39 : CCode :=
  (.seq (.region [
 kO 23 (.bin .eql 11 (ci 4)),
 kO 22 (.mv 23)])
 c_q21_38)
def c_q21_40 : CCode :=
  (.cond 16
 (.seq (.region [
  kO 21 (.build [(.int .i64 0), (.int .i64 0), (.int .i64 0), (.int .i64 0)] [(0, 1, (ci 3)), (1, 1, (ci (-1))), (2, 1, (ci (-1))), (3, 1, (ci (-1)))]),
  kU (.st 4 2 21),
  kO 3 (.mv (.c (.bool true)))])
  .ret)
 c_q21_39)
def c_q21_41 : CCode :=
  (.seq (.seq (.region [
 kO 17 (.bin .eql 11 (ci 2)),
 kO 16 (.mv 17)])
 (.cond 16
 .skip
 (.seq (.region [
  kO 18 (.bin .eql 11 (ci 3)),
  kO 16 (.mv 18)])
  (.cond 16
  .skip
  (.seq (.region [
   kO 19 (.bin .eql 11 (ci 20)),
   kO 16 (.mv 19)])
   (.cond 16
   .skip
   (.region [
    kO 20 (.bin .eql 11 (ci 32)),
    kO 16 (.mv 20)])))))))
 c_q21_40)
def c_q21_42 : CCode :=
  (.cond 12
 (.seq (.region [
  kO 15 (.build [(.int .i64 0), (.int .i64 0), (.int .i64 0), (.int .i64 0)] [(0, 1, (ci 0)), (1, 1, (ci (-1))), (2, 1, (ci (-1))), (3, 1, (ci (-1)))]),
  kU (.st 4 2 15),
  kO 3 (.mv (.c (.bool true)))])
  .ret)
 c_q21_41)
def c_q21_43 : CCode :=
  (.seq (.seq (.region [
 kO 13 (.bin .eql 11 (ci 1)),
 kO 12 (.mv 13)])
 (.cond 12
 .skip
 (.region [
  kO 14 (.bin .eql 11 (ci 18)),
  kO 12 (.mv 14)])))
 c_q21_42)
def c_q21_44 : CCode :=
  (.block 0 c_q21_43)
def c_q21_45 : CCode :=
  (.seq (.region [
 kO 10 (.fa 0 1),
 kO 11 (.ld false 1 10)])
 c_q21_44)
def c_q21_46 : CCode :=
  (.seq c_q21_45
 c_q21_1)
def c_q21_47 : CCode :=
  (.seq (.region [
 kO 1 (.box (some 0) 0),
 kO 2 (.new (some 1) [(.int .i64 0), (.int .i64 0), (.int .i64 0), (.int .i64 0)]),
 kO 3 (.mv (.c (.bool false)))])
 c_q21_46)
def c_q21 : CFunc :=
  ⟨1, true, 2, c_q21_47, [.cell 2 true 4, .t 3]⟩
def c_q57_1 : CCode :=
  (.seq (.region [
 kO 24 (.mv 0),
 kO 25 (.bin .neq 24 (.c (.str []))),
 kO 26 (.mv 25),
 kG 27 (.mv 0) 26 true,
 kG 28 (.len 0 27) 26 true,
 kG 29 (.bin .leq 28 (ci 60)) 26 true,
 kO 30 (.pick 26 29 (.c (.bool false))),
 kO 4 (.mv 30)])
 .ret)
def c_q57_3 : CCode :=
  (.region [
 kO 14 (.mv 6),
 kO 15 (.bin .add 14 (ci 1)),
 kO 6 (.mv 15)])
def c_q57_4 : CCode :=
  (.seq (.block 1 (.seq (.region [
 kO 16 (.mv 5),
 kO 17 (.mv 0),
 kO 18 (.mv 6),
 kO 19 (.mv 6),
 kO 20 (.bin .add 19 (ci 1)),
 kO 21 (.sls 17 (some 18) (some 20)),
 kO 22 (.call none true 53 [16, 21]),
 kO 23 (.un .not 22)])
 (.cond 23
 (.seq (.region [
  kO 4 (.mv (.c (.bool false)))])
  .ret)
 .skip)))
 c_q57_3)
def c_q57_5 : CCode :=
  (.seq (.seq (.region [
 kO 10 (.mv 6),
 kO 11 (.mv 0),
 kO 12 (.len 0 11),
 kO 13 (.bin .lss 10 12)])
 (.cond 13
 .skip
 (.exit 0)))
 c_q57_4)
def c_q57_L2 : CCode :=
  (.loop [0, 5, 6] c_q57_5)
def c_q57_6 : CCode :=
  (.block 0 c_q57_L2)
def c_q57_7 : CCode :=
  (.seq (.region [
 kO 6 (.mv (ci 0))])
 c_q57_6)
def c_q57_8 : CCode :=
  (.seq c_q57_7
 c_q57_1)
def c_q57_9 : CCode :=
  (.seq (.seq (.region [
 kO 7 (.mv 1)])
 (.cond 7
 (.region [
  kO 8 (.mv 5),
  kO 9 (.bin .add 8 (.c (.str [60, 62]))),
  kO 5 (.mv 9)])
 .skip))
 c_q57_8)
def c_q57_10 : CCode :=
  (.seq (.region [
 kO 5 (.mv (.c (.str [97, 98, 99, 100, 101, 102, 103, 104, 105, 106, 107, 108, 109, 110, 111, 112, 113, 114, 115, 116, 117, 118, 119, 120, 121, 122, 65, 66, 67, 68, 69, 70, 71, 72, 73, 74, 75, 76, 77, 78, 79, 80, 81, 82, 83, 84, 85, 86, 87, 88, 89, 90, 48, 49, 50, 51, 52, 53, 54, 55, 56, 57, 95, 36, 47])))])
 c_q57_9)
def c_q57_11 : CCode :=
  (.seq (.region [
 kO 4 (.mv (.c (.bool false)))])
 c_q57_10)
def c_q57 : CFunc :=
  ⟨2, true, 0, c_q57_11, [.t 4]⟩
def c_q45_1 : CCode :=
  (.seq (.region [
 kO 2 (.mv (ci 0)),
 kO 3 (.mv (ci 0)),
 kO 4 (.mv (ci 0))])
 .ret)
def c_q45_2 : CCode :=
  (.cond 33
 (.seq (.region [
  kO 2 (.mv (ci 1)),
  kO 3 (.mv (ci 0)),
  kO 4 (.mv (ci 1))])
  .ret)
 (.seq (.region [
  kO 39 (.bin .eql 5 (ci 117)),
  kO 38 (.mv 39)])
  (.cond 38
  (.seq (.region [
   kO 2 (.mv (ci 2)),
   kO 3 (.mv (ci 0)),
   kO 4 (.mv (ci 2))])
   .ret)
  (.seq (.region [
   kO 41 (.bin .eql 5 (ci 133)),
   kO 40 (.mv 41)])
   (.cond 40
   (.seq (.region [
    kO 2 (.mv (ci 1)),
    kO 3 (.mv (ci 0)),
    kO 4 (.mv (ci 2))])
    .ret)
   (.seq (.region [
    kO 43 (.bin .eql 5 (ci 136)),
    kO 42 (.mv 43)])
    (.cond 42
    (.seq (.region [
     kO 2 (.mv (ci 2)),
     kO 3 (.mv (ci 0)),
     kO 4 (.mv (ci 1))])
     .ret)
    .skip)))))))
def c_q45_3 : CCode :=
  (.seq (.seq (.region [
 kO 34 (.bin .eql 5 (ci 116)),
 kO 33 (.mv 34)])
 (.cond 33
 .skip
 (.seq (.region [
  kO 35 (.bin .eql 5 (ci 145)),
  kO 33 (.mv 35)])
  (.cond 33
  .skip
  (.seq (.region [
   kO 36 (.bin .eql 5 (ci 146)),
   kO 33 (.mv 36)])
   (.cond 33
   .skip
   (.region [
    kO 37 (.bin .eql 5 (ci 147)),
    kO 33 (.mv 37)])))))))
 c_q45_2)
def c_q45_4 : CCode :=
  (.cond 31
 (.seq (.region [
  kO 2 (.mv (ci 2)),
  kO 3 (.mv (ci 2)),
  kO 4 (.mv (ci 1))])
  .ret)
 c_q45_3)
def c_q45_5 : CCode :=
  (.seq (.region [
 kO 32 (.bin .eql 5 (ci 148)),
 kO 31 (.mv 32)])
 c_q45_4)
def c_q45_6 : CCode :=
  (.cond 27
 (.seq (.region [
  kO 2 (.mv (ci 2)),
  kO 3 (.mv (ci 1)),
  kO 4 (.mv (ci 2))])
  .ret)
 c_q45_5)
def c_q45_7 : CCode :=
  (.seq (.seq (.region [
 kO 28 (.bin .eql 5 (ci 121)),
 kO 27 (.mv 28)])
 (.cond 27
 .skip
 (.seq (.region [
  kO 29 (.bin .eql 5 (ci 123)),
  kO 27 (.mv 29)])
  (.cond 27
  .skip
  (.region [
   kO 30 (.bin .eql 5 (ci 125)),
   kO 27 (.mv 30)])))))
 c_q45_6)
def c_q45_8 : CCode :=
  (.cond 18
 (.seq (.region [
  kO 2 (.mv (ci 2)),
  kO 3 (.mv (ci 2)),
  kO 4 (.mv (ci 2))])
  .ret)
 c_q45_7)
def c_q45_9 : CCode :=
  (.seq (.seq (.region [
 kO 19 (.bin .eql 5 (ci 97)),
 kO 18 (.mv 19)])
 (.cond 18
 .skip
 (.seq (.region [
  kO 20 (.bin .eql 5 (ci 101)),
  kO 18 (.mv 20)])
  (.cond 18
  .skip
  (.seq (.region [
   kO 21 (.bin .eql 5 (ci 105)),
   kO 18 (.mv 21)])
   (.cond 18
   .skip
   (.seq (.region [
    kO 22 (.bin .eql 5 (ci 109)),
    kO 18 (.mv 22)])
    (.cond 18
    .skip
    (.seq (.region [
     kO 23 (.bin .eql 5 (ci 113)),
     kO 18 (.mv 23)])
     (.cond 18
     .skip
     (.seq (.region [
      kO 24 (.bin .eql 5 (ci 127)),
      kO 18 (.mv 24)])
      (.cond 18
      .skip
      (.seq (.region [
       kO 25 (.bin .eql 5 (ci 129)),
       kO 18 (.mv 25)])
       (.cond 18
       .skip
       (.region [
        kO 26 (.bin .eql 5 (ci 131)),
        kO 18 (.mv 26)])))))))))))))))
 c_q45_8)
def c_q45_10 : CCode :=
  (.cond 6
 (.seq (.region [
  kO 2 (.mv (ci 1)),
  kO 3 (.mv (ci 1)),
  kO 4 (.mv (ci 1))])
  .ret)
 c_q45_9)
def c_q45_11 : CCode :=
  (.seq (.seq (.region [
 kO 7 (.bin .eql 5 (ci 96)),
 kO 6 (.mv 7)])
 (.cond 6
 .skip
 (.seq (.region [
  kO 8 (.bin .eql 5 (ci 100)),
  kO 6 (.mv 8)])
  (.cond 6
  .skip
  (.seq (.region [
   kO 9 (.bin .eql 5 (ci 104)),
   kO 6 (.mv 9)])
   (.cond 6
   .skip
   (.seq (.region [
    kO 10 (.bin .eql 5 (ci 108)),
    kO 6 (.mv 10)])
    (.cond 6
    .skip
    (.seq (.region [
     kO 11 (.bin .eql 5 (ci 112)),
     kO 6 (.mv 11)])
     (.cond 6
     .skip
     (.seq (.region [
      kO 12 (.bin .eql 5 (ci 120)),
      kO 6 (.mv 12)])
      (.cond 6
      .skip
      (.seq (.region [
       kO 13 (.bin .eql 5 (ci 122)),
       kO 6 (.mv 13)])
       (.cond 6
       .skip
       (.seq (.region [
        kO 14 (.bin .eql 5 (ci 124)),
        kO 6 (.mv 14)])
        (.cond 6
        .skip
        (.seq (.region [
         kO 15 (.bin .eql 5 (ci 126)),
         kO 6 (.mv 15)])
         (.cond 6
         .skip
         (.seq (.region [
          kO 16 (.bin .eql 5 (ci 128)),
          kO 6 (.mv 16)])
          (.cond 6
          .skip
          (.region [
           kO 17 (.bin .eql 5 (ci 130)),
           kO 6 (.mv 17)])))))))))))))))))))))
 c_q45_10)
def c_q45_12 : CCode :=
  (.block 0 c_q45_11)
def c_q45_13 : CCode :=
  (.seq (.region [
 kO 5 (.mv 0)])
 c_q45_12)
def c_q45_14 : CCode :=
  (.seq c_q45_13
 c_q45_1)
def c_q45_15 : CCode :=
  (.seq (.region [
 kO 2 (.mv (ci 0)),
 kO 3 (.mv (ci 0)),
 kO 4 (.mv (ci 0))])
 c_q45_14)
def c_q45 : CFunc :=
  ⟨1, true, 0, c_q45_15, [.t 2, .t 3, .t 4]⟩
def c_q2_1 : CCode :=
  (.seq (.region [
 kO 2 (.mv (.c (.bool false)))])
 (.seq (.region [
 kO 3 (.mv 0),
 kO 4 (.bin .neq 3 (.c (.str []))),
 kO 5 (.mv 4),
 kG 6 (.mv 0) 5 true,
 kG 7 (.call none true 44 [6]) 5 true,
 kG 8 (.mv 0) 5 true,
 kG 9 (.len 0 8) 5 true,
 kG 10 (.bin .eql 7 9) 5 true,
 kO 11 (.pick 5 10 (.c (.bool false))),
 kO 2 (.mv 11)])
 .ret))
def c_q2 : CFunc :=
  ⟨1, true, 0, c_q2_1, [.t 2]⟩
def c_q22_1 : CCode :=
  (.seq (.region [
 kO 73 (.build [(.int .i64 0), (.int .i64 0), (.int .i64 0), (.int .i64 0)] []),
 kU (.st 4 2 73),
 kO 3 (.mv (.c (.bool false)))])
 .ret)
def c_q22_2 : CCode :=
  (.seq (.draw [
 kO 15 (.mv 4),
 kO 16 (.build [(.int .i64 0), (.int .i64 0), (.int .i64 0), (.int .i64 0)] [(0, 1, (ci (-1))), (1, 1, (ci 3)), (2, 1, 15), (3, 1, (ci (-1)))]),
 kO 17 (.fa 5 1),
 kO 18 (.ld false 1 17),
 kO 19 (.bin .eql 18 (ci 0)),
 kO 20 (.mv 19),
 kG 21 (.fa 5 1) 20 false,
 kG 22 (.ld false 1 21) 20 false,
 kG 23 (.bin .eql 22 (ci 1)) 20 false,
 kO 24 (.pick 20 (.c (.bool true)) 23),
 kU (.st 4 2 16),
 kO 3 (.mv 24)] [(7, 10)])
 .ret)
def c_q22_3 : CCode :=
  (.seq (.seq (.region [
 kO 12 (.fa 3 1),
 kO 13 (.ld false 1 12),
 kO 14 (.bin .neq 13 (ci (-1)))])
 (.cond 14
 (.region [
  kO 4 (.mv (ci 3))])
 .skip))
 c_q22_2)
def c_q22_4 : CCode :=
  (.seq (.region [
 kO 4 (.mv (ci (-1)))])
 c_q22_3)
def c_q22_5 : CCode :=
  (.seq (.region [
 kO 30 (.mv 5),
 kO 31 (.build [(.int .i64 0), (.int .i64 0), (.int .i64 0), (.int .i64 0)] [(0, 1, (ci (-1))), (1, 1, 30), (2, 1, (ci (-1))), (3, 1, (ci (-1)))]),
 kU (.st 4 2 31),
 kO 3 (.mv (.c (.bool true)))])
 .ret)
def c_q22_6 : CCode :=
  (.seq (.seq (.region [
 kO 27 (.fa 2 1),
 kO 28 (.ld false 1 27),
 kO 29 (.bin .neq 28 (ci (-1)))])
 (.cond 29
 (.region [
  kO 5 (.mv (ci 0))])
 .skip))
 c_q22_5)
def c_q22_7 : CCode :=
  (.seq (.region [
 kO 5 (.mv (ci (-1)))])
 c_q22_6)
def c_q22_8 : CCode :=
  (.seq (.region [
 kO 40 (.fa 0 1),
 kO 41 (.ld false 1 40),
 kO 42 (.bin .eql 41 (ci 23)),
 kO 43 (.mv 42),
 kG 44 (.fa 0 1) 43 false,
 kG 45 (.ld false 1 44) 43 false,
 kG 46 (.bin .eql 45 (ci 26)) 43 false,
 kO 47 (.pick 43 (.c (.bool true)) 46),
 kO 48 (.mv 47),
 kG 49 (.fa 8 1) 48 false,
 kG 50 (.ld false 1 49) 48 false,
 kG 51 (.len 1 50) 48 false,
 kG 52 (.bin .gtr 51 (ci 0)) 48 false,
 kO 53 (.pick 48 (.c (.bool true)) 52),
 kO 7 (.mv 53)])
 (.seq (.draw [
 kO 54 (.mv 6),
 kO 55 (.build [(.int .i64 0), (.int .i64 0), (.int .i64 0), (.int .i64 0)] [(0, 1, 54), (1, 1, (ci (-1))), (2, 1, (ci (-1))), (3, 1, (ci (-1)))]),
 kO 56 (.mv 7),
 kO 57 (.mv 56),
 kG 58 (.fa 5 1) 57 true,
 kG 59 (.ld false 1 58) 57 true,
 kG 60 (.bin .geq 59 (ci 0)) 57 true,
 kG 61 (.mv 60) 57 true,
 kG 62 (.fa 0 1) 61 false,
 kG 63 (.ld false 1 62) 61 false,
 kG 64 (.bin .eql 63 (ci 25)) 61 false,
 kG 65 (.pick 61 (.c (.bool true)) 64) 57 true,
 kO 66 (.pick 57 65 (.c (.bool false))),
 kO 67 (.mv 66),
 kG 68 (.fa 8 1) 67 true,
 kG 69 (.ld false 1 68) 67 true,
 kG 70 (.len 1 69) 67 true,
 kG 71 (.bin .leq 70 (ci 21)) 67 true,
 kO 72 (.pick 67 71 (.c (.bool false))),
 kU (.st 4 2 55),
 kO 3 (.mv 72)] [(15, 19), (16, 19)])
 .ret))
def c_q22_9 : CCode :=
  (.seq (.seq (.region [
 kO 37 (.fa 1 1),
 kO 38 (.ld false 1 37),
 kO 39 (.bin .neq 38 (ci (-1)))])
 (.cond 39
 (.region [
  kO 6 (.mv (ci 0))])
 .skip))
 c_q22_8)
def c_q22_10 : CCode :=
  (.seq (.region [
 kO 6 (.mv (ci (-1)))])
 c_q22_9)
def c_q22_11 : CCode :=
  (.cond 32
 c_q22_10
 .skip)
def c_q22_12 : CCode :=
  (.seq (.seq (.region [
 kO 33 (.bin .eql 9 (ci 23)),
 kO 32 (.mv 33)])
 (.cond 32
 .skip
 (.seq (.region [
  kO 34 (.bin .eql 9 (ci 24)),
  kO 32 (.mv 34)])
  (.cond 32
  .skip
  (.seq (.region [
   kO 35 (.bin .eql 9 (ci 25)),
   kO 32 (.mv 35)])
   (.cond 32
   .skip
   (.region [
    kO 36 (.bin .eql 9 (ci 26)),
    kO 32 (.mv 36)])))))))
 c_q22_11)
def c_q22_13 : CCode :=
  (.cond 25
 c_q22_7
 c_q22_12)
def c_q22_14 : CCode :=
  (.seq (.region [
 kO 26 (.bin .eql 9 (ci 30)),
 kO 25 (.mv 26)])
 c_q22_13)
def c_q22_15 : CCode :=
  (.cond 10
 c_q22_4
 c_q22_14)
def c_q22_16 : CCode :=
  (.seq (.region [
 kO 11 (.bin .eql 9 (ci 29)),
 kO 10 (.mv 11)])
 c_q22_15)
def c_q22_17 : CCode :=
  (.block 0 c_q22_16)
def c_q22_18 : CCode :=
  (.seq (.region [
 kO 8 (.fa 0 1),
 kO 9 (.ld false 1 8)])
 c_q22_17)
def c_q22_19 : CCode :=
  (.seq c_q22_18
 c_q22_1)
def c_q22_20 : CCode :=
  (.seq (.region [
 kO 1 (.box (some 0) 0),
 kO 2 (.new (some 1) [(.int .i64 0), (.int .i64 0), (.int .i64 0), (.int .i64 0)]),
 kO 3 (.mv (.c (.bool false)))])
 c_q22_19)
def c_q22 : CFunc :=
  ⟨1, true, 2, c_q22_20, [.cell 2 true 4, .t 3]⟩
def c_q3_1 : CCode :=
  (.seq (.region [
 kO 2 (.mv (ci 0))])
 .ret)
def c_q3_3 : CCode :=
  (.region [
 kO 41 (.mv 4),
 kO 42 (.bin .add 41 (ci 1)),
 kO 4 (.mv 42)])
def c_q3_4 : CCode :=
  (.seq (.region [
 kO 2 (.mv (ci 0))])
 .ret)
def c_q3_5 : CCode :=
  (.seq (.seq (.region [
 kO 47 (.mv 0),
 kO 48 (.mv 3),
 kO 49 (.bin .add 48 (ci 1)),
 kO 50 (.mv 4),
 kO 51 (.sls 47 (some 49) (some 50)),
 kO 52 (.call none true 60 [51, (.c (.bool false))])])
 (.cond 52
 (.seq (.region [
  kO 53 (.mv 4),
  kO 54 (.bin .add 53 (ci 1)),
  kO 2 (.mv 54)])
  .ret)
 .skip))
 c_q3_4)
def c_q3_6 : CCode :=
  (.cond 46
 c_q3_5
 .skip)
def c_q3_7 : CCode :=
  (.seq (.region [
 kO 43 (.mv 0),
 kO 44 (.mv 4),
 kO 45 (.ixstr 43 44),
 kO 46 (.bin .eql 45 (.c (.int .u8 59)))])
 c_q3_6)
def c_q3_8 : CCode :=
  (.block 4 c_q3_7)
def c_q3_9 : CCode :=
  (.seq c_q3_8
 c_q3_3)
def c_q3_10 : CCode :=
  (.seq (.seq (.region [
 kO 37 (.mv 4),
 kO 38 (.mv 0),
 kO 39 (.len 0 38),
 kO 40 (.bin .lss 37 39)])
 (.cond 40
 .skip
 (.exit 3)))
 c_q3_9)
def c_q3_L2 : CCode :=
  (.loop [0, 3, 4] c_q3_10)
def c_q3_11 : CCode :=
  (.block 3 c_q3_L2)
def c_q3_12 : CCode :=
  (.seq (.region [
 kO 35 (.mv 3),
 kO 36 (.bin .add 35 (ci 1)),
 kO 4 (.mv 36)])
 c_q3_11)
def c_q3_13 : CCode :=
  (.cond 33
 c_q3_12
 .skip)
def c_q3_14 : CCode :=
  (.seq (.region [
 kO 34 (.bin .eql 27 (.c (.int .u8 76))),
 kO 33 (.mv 34)])
 c_q3_13)
def c_q3_15 : CCode :=
  (.cond 28
 (.seq (.region [
  kO 31 (.mv 3),
  kO 32 (.bin .add 31 (ci 1)),
  kO 2 (.mv 32)])
  .ret)
 c_q3_14)
def c_q3_16 : CCode :=
  (.seq (.seq (.region [
 kO 29 (.bin .eql 27 (.c (.int .u8 73))),
 kO 28 (.mv 29)])
 (.cond 28
 .skip
 (.region [
  kO 30 (.bin .eql 27 (.c (.int .u8 74))),
  kO 28 (.mv 30)])))
 c_q3_15)
def c_q3_17 : CCode :=
  (.block 2 c_q3_16)
def c_q3_18 : CCode :=
  (.seq (.region [
 kO 25 (.mv 0),
 kO 26 (.mv 3),
 kO 27 (.ixstr 25 26)])
 c_q3_17)
def c_q3_19 : CCode :=
  (.seq c_q3_18
 c_q3_1)
def c_q3_20 : CCode :=
  (.seq (.seq (.region [
 kO 17 (.mv 3),
 kO 18 (.bin .gtr 17 (ci 8)),
 kO 19 (.mv 18),
 kG 20 (.mv 3) 19 false,
 kG 21 (.mv 0) 19 false,
 kG 22 (.len 0 21) 19 false,
 kG 23 (.bin .eql 20 22) 19 false,
 kO 24 (.pick 19 (.c (.bool true)) 23)])
 (.cond 24
 (.seq (.region [
  kO 2 (.mv (ci 0))])
  .ret)
 .skip))
 c_q3_19)
def c_q3_22 : CCode :=
  (.block 1 (.region [
 kO 15 (.mv 3),
 kO 16 (.bin .add 15 (ci 1)),
 kO 3 (.mv 16)]))
def c_q3_23 : CCode :=
  (.seq (.seq (.region [
 kO 5 (.mv 3),
 kO 6 (.mv 0),
 kO 7 (.len 0 6),
 kO 8 (.bin .lss 5 7),
 kO 9 (.mv 8),
 kG 10 (.mv 0) 9 true,
 kG 11 (.mv 3) 9 true,
 kG 12 (.ixstr 10 11) 9 true,
 kG 13 (.bin .eql 12 (.c (.int .u8 91))) 9 true,
 kO 14 (.pick 9 13 (.c (.bool false)))])
 (.cond 14
 .skip
 (.exit 0)))
 c_q3_22)
def c_q3_L21 : CCode :=
  (.loop [0, 3] c_q3_23)
def c_q3_24 : CCode :=
  (.block 0 c_q3_L21)
def c_q3_25 : CCode :=
  (.seq c_q3_24
 c_q3_20)
def c_q3_26 : CCode :=
  (.seq (.region [
 kO 3 (.mv (ci 0))])
 c_q3_25)
def c_q3_27 : CCode :=
  (.seq (.region [
 kO 2 (.mv (ci 0))])
 c_q3_26)
def c_q3 : CFunc :=
  ⟨1, true, 0, c_q3_27, [.t 2]⟩
def c_q1_1 : CCode :=
  (.seq (.region [
 kO 4 (.mv (.c (.bool true)))])
 .ret)
def c_q1_3 : CCode :=
  (.region [
 kO 71 (.bin .add 19 (ci 1)),
 kO 19 (.mv 71)])
def c_q1_4 : CCode :=
  (.seq (.block 1 (.seq (.region [
 kO 21 (.ixs 1 17 19),
 kO 22 (.ld false 1 21),
 kO 6 (.mv 22)])
 (.seq (.region [
 kO 23 (.mv 6),
 kO 24 (.bin .geq 23 (.c (.int .u8 97))),
 kO 25 (.mv 24),
 kG 26 (.mv 6) 25 true,
 kG 27 (.bin .leq 26 (.c (.int .u8 122))) 25 true,
 kO 28 (.pick 25 27 (.c (.bool false))),
 kO 29 (.mv 28),
 kG 30 (.mv 6) 29 false,
 kG 31 (.bin .geq 30 (.c (.int .u8 65))) 29 false,
 kG 32 (.mv 31) 29 false,
 kG 33 (.mv 6) 32 true,
 kG 34 (.bin .leq 33 (.c (.int .u8 90))) 32 true,
 kG 35 (.pick 32 34 (.c (.bool false))) 29 false,
 kO 36 (.pick 29 (.c (.bool true)) 35),
 kO 37 (.mv 36),
 kG 38 (.mv 6) 37 false,
 kG 39 (.bin .geq 38 (.c (.int .u8 48))) 37 false,
 kG 40 (.mv 39) 37 false,
 kG 41 (.mv 6) 40 true,
 kG 42 (.bin .leq 41 (.c (.int .u8 57))) 40 true,
 kG 43 (.pick 40 42 (.c (.bool false))) 37 false,
 kO 44 (.pick 37 (.c (.bool true)) 43),
 kO 45 (.mv 44),
 kG 46 (.mv 6) 45 false,
 kG 47 (.bin .eql 46 (.c (.int .u8 95))) 45 false,
 kO 48 (.pick 45 (.c (.bool true)) 47),
 kO 49 (.mv 48),
 kG 50 (.mv 6) 49 false,
 kG 51 (.bin .eql 50 (.c (.int .u8 36))) 49 false,
 kO 52 (.pick 49 (.c (.bool true)) 51),
 kO 53 (.mv 52),
 kG 54 (.mv 6) 53 false,
 kG 55 (.bin .eql 54 (.c (.int .u8 47))) 53 false,
 kO 56 (.pick 53 (.c (.bool true)) 55),
 kO 7 (.mv 56)])
 (.seq (.region [
 kO 57 (.mv 7),
 kO 58 (.un .not 57),
 kO 59 (.mv 58),
 kG 60 (.mv 1) 59 true,
 kG 61 (.mv 60) 59 true,
 kG 62 (.mv 6) 61 true,
 kG 63 (.bin .eql 62 (.c (.int .u8 60))) 61 true,
 kG 64 (.mv 63) 61 true,
 kG 65 (.mv 6) 64 false,
 kG 66 (.bin .eql 65 (.c (.int .u8 62))) 64 false,
 kG 67 (.pick 64 (.c (.bool true)) 66) 61 true,
 kG 68 (.pick 61 67 (.c (.bool false))) 59 true,
 kG 69 (.un .not 68) 59 true,
 kO 70 (.pick 59 69 (.c (.bool false)))])
 (.cond 70
 (.seq (.region [
  kO 4 (.mv (.c (.bool false)))])
  .ret)
 .skip)))))
 c_q1_3)
def c_q1_5 : CCode :=
  (.seq (.cond 20
 .skip
 (.exit 0))
 c_q1_4)
def c_q1_6 : CCode :=
  (.seq (.region [
 kO 20 (.bin .lss 19 18)])
 c_q1_5)
def c_q1_L2 : CCode :=
  (.loop [1, 17, 18, 19] c_q1_6)
def c_q1_7 : CCode :=
  (.block 0 c_q1_L2)
def c_q1_8 : CCode :=
  (.seq (.region [
 kO 16 (.mv 0),
 kO 17 (.s2b (some 0) 16),
 kO 18 (.len 1 17),
 kO 19 (.mv (ci 0))])
 c_q1_7)
def c_q1_9 : CCode :=
  (.seq c_q1_8
 c_q1_1)
def c_q1_10 : CCode :=
  (.seq (.seq (.region [
 kO 8 (.mv 0),
 kO 9 (.len 0 8),
 kO 10 (.bin .lss 9 (ci 1)),
 kO 11 (.mv 10),
 kG 12 (.mv 0) 11 false,
 kG 13 (.len 0 12) 11 false,
 kG 14 (.bin .gtr 13 (ci 60)) 11 false,
 kO 15 (.pick 11 (.c (.bool true)) 14)])
 (.cond 15
 (.seq (.region [
  kO 4 (.mv (.c (.bool false)))])
  .ret)
 .skip))
 c_q1_9)
def c_q1_11 : CCode :=
  (.seq (.region [
 kO 4 (.mv (.c (.bool false)))])
 c_q1_10)
def c_q1 : CFunc :=
  ⟨2, true, 1, c_q1_11, [.t 4]⟩
def tbl : List (Option Nat) := [none, none, none, none, none, none, none, none, some 113, none, none, none, none, some 81, some 95, some 79, some 92, none, none, none, none, none, none, none, some 74, some 75, some 29, some 76, none, some 87, none, some 88, none, some 15, some 16, some 19, some 23, some 25, some 77, none, some 24, some 22, some 46, some 96, some 18, none, none, none, some 8, some 84, some 9, some 85, some 10, some 86, some 48, some 42, some 64, some 49, some 82, none, some 7, some 38, some 78, some 80, some 45, some 17, some 39, none, none, some 63, some 65, some 66, some 67, some 68, some 83, none, some 47, some 69, some 50, some 37, some 51, some 53, some 44, none, some 60]
def fnE : Nat → Option CFunc
  | 7 => some c_q59
  | 8 => some c_q14
  | 9 => some c_q16
  | 10 => some c_q20
  | 15 => some c_q68
  | 16 => some c_q61
  | 17 => some c_q13
  | 18 => some c_q19
  | 19 => some c_q67
  | 22 => some c_q18
  | 23 => some c_q64
  | 24 => some c_q17
  | 25 => some c_q62
  | 29 => some c_q60
  | 37 => some c_q2
  | 38 => some c_q74
  | 39 => some c_q104
  | 42 => some c_q70
  | 44 => some c_q3
  | 45 => some c_q106
  | 46 => some c_q105
  | 47 => some c_q21
  | 48 => some c_q71
  | 49 => some c_q73
  | 50 => some c_q45
  | 51 => some c_q22
  | 60 => some c_q1
  | 63 => some c_q23
  | 64 => some c_q72
  | 65 => some c_q75
  | 66 => some c_q56
  | 67 => some c_q58
  | 68 => some c_q69
  | 69 => some c_q57
  | 74 => some c_q55
  | 75 => some c_q35
  | 76 => some c_q38
  | 77 => some c_q8
  | 78 => some c_q103
  | 79 => some c_q4
  | 80 => some c_q10
  | 81 => some c_q6
  | 82 => some c_q39
  | 83 => some c_q42
  | 84 => some c_q43
  | 85 => some c_q41
  | 86 => some c_q40
  | 87 => some c_q37
  | 88 => some c_q36
  | 92 => some c_q77
  | 95 => some c_q79
  | 96 => some c_q83
  | 113 => some c_q53
  | _ => none
abbrev nm : Nat → Option Nat := nmOf tbl
def E : Env := envX fnE [80, 84, 85, 86] xpC
theorem ok8 : FnOk Go.Proofs.Try.prog nm fnE 8 113 := .of Go.Proofs.Try.func8 (by kernel_rfl) (by kernel_rfl) rfl (by kernel_rfl)
theorem ok13 : FnOk Go.Proofs.Try.prog nm fnE 13 81 := .of Go.Proofs.Try.func13 (by kernel_rfl) (by kernel_rfl) rfl (by kernel_rfl)
theorem ok14 : FnOk Go.Proofs.Try.prog nm fnE 14 95 := .of Go.Proofs.Try.func14 (by kernel_rfl) (by kernel_rfl) rfl (by kernel_rfl)
theorem ok15 : FnOk Go.Proofs.Try.prog nm fnE 15 79 := .of Go.Proofs.Try.func15 (by kernel_rfl) (by kernel_rfl) rfl (by kernel_rfl)
theorem ok16 : FnOk Go.Proofs.Try.prog nm fnE 16 92 := .of Go.Proofs.Try.func16 (by kernel_rfl) (by kernel_rfl) rfl (by kernel_rfl)
theorem ok24 : FnOk Go.Proofs.Try.prog nm fnE 24 74 := .of Go.Proofs.Try.func24 (by kernel_rfl) (by kernel_rfl) rfl (by kernel_rfl)
theorem ok25 : FnOk Go.Proofs.Try.prog nm fnE 25 75 := .of Go.Proofs.Try.func25 (by kernel_rfl) (by kernel_rfl) rfl (by kernel_rfl)
theorem ok26 : FnOk Go.Proofs.Try.prog nm fnE 26 29 := .of Go.Proofs.Try.func26 (by kernel_rfl) (by kernel_rfl) rfl (by kernel_rfl)
theorem ok27 : FnOk Go.Proofs.Try.prog nm fnE 27 76 := .of Go.Proofs.Try.func27 (by kernel_rfl) (by kernel_rfl) rfl (by kernel_rfl)
theorem ok29 : FnOk Go.Proofs.Try.prog nm fnE 29 87 := .of Go.Proofs.Try.func29 (by kernel_rfl) (by kernel_rfl) rfl (by kernel_rfl)
theorem ok31 : FnOk Go.Proofs.Try.prog nm fnE 31 88 := .of Go.Proofs.Try.func31 (by kernel_rfl) (by kernel_rfl) rfl (by kernel_rfl)
theorem ok33 : FnOk Go.Proofs.Try.prog nm fnE 33 15 := .of Go.Proofs.Try.func33 (by kernel_rfl) (by kernel_rfl) rfl (by kernel_rfl)
theorem ok34 : FnOk Go.Proofs.Try.prog nm fnE 34 16 := .of Go.Proofs.Try.func34 (by kernel_rfl) (by kernel_rfl) rfl (by kernel_rfl)
theorem ok35 : FnOk Go.Proofs.Try.prog nm fnE 35 19 := .of Go.Proofs.Try.func35 (by kernel_rfl) (by kernel_rfl) rfl (by kernel_rfl)
theorem ok36 : FnOk Go.Proofs.Try.prog nm fnE 36 23 := .of Go.Proofs.Try.func36 (by kernel_rfl) (by kernel_rfl) rfl (by kernel_rfl)
theorem ok37 : FnOk Go.Proofs.Try.prog nm fnE 37 25 := .of Go.Proofs.Try.func37 (by kernel_rfl) (by kernel_rfl) rfl (by kernel_rfl)
theorem ok38 : FnOk Go.Proofs.Try.prog nm fnE 38 77 := .of Go.Proofs.Try.func38 (by kernel_rfl) (by kernel_rfl) rfl (by kernel_rfl)
theorem ok40 : FnOk Go.Proofs.Try.prog nm fnE 40 24 := .of Go.Proofs.Try.func40 (by kernel_rfl) (by kernel_rfl) rfl (by kernel_rfl)
theorem ok41 : FnOk Go.Proofs.Try.prog nm fnE 41 22 := .of Go.Proofs.Try.func41 (by kernel_rfl) (by kernel_rfl) rfl (by kernel_rfl)
theorem ok42 : FnOk Go.Proofs.Try.prog nm fnE 42 46 := .of Go.Proofs.Try.func42 (by kernel_rfl) (by kernel_rfl) rfl (by kernel_rfl)
theorem ok43 : FnOk Go.Proofs.Try.prog nm fnE 43 96 := .of Go.Proofs.Try.func43 (by kernel_rfl) (by kernel_rfl) rfl (by kernel_rfl)
theorem ok44 : FnOk Go.Proofs.Try.prog nm fnE 44 18 := .of Go.Proofs.Try.func44 (by kernel_rfl) (by kernel_rfl) rfl (by kernel_rfl)
theorem ok48 : FnOk Go.Proofs.Try.prog nm fnE 48 8 := .of Go.Proofs.Try.func48 (by kernel_rfl) (by kernel_rfl) rfl (by kernel_rfl)
theorem ok49 : FnOk Go.Proofs.Try.prog nm fnE 49 84 := .of Go.Proofs.Try.func49 (by kernel_rfl) (by kernel_rfl) rfl (by kernel_rfl)
theorem ok50 : FnOk Go.Proofs.Try.prog nm fnE 50 9 := .of Go.Proofs.Try.func50 (by kernel_rfl) (by kernel_rfl) rfl (by kernel_rfl)
theorem ok51 : FnOk Go.Proofs.Try.prog nm fnE 51 85 := .of Go.Proofs.Try.func51 (by kernel_rfl) (by kernel_rfl) rfl (by kernel_rfl)
theorem ok52 : FnOk Go.Proofs.Try.prog nm fnE 52 10 := .of Go.Proofs.Try.func52 (by kernel_rfl) (by kernel_rfl) rfl (by kernel_rfl)
theorem ok53 : FnOk Go.Proofs.Try.prog nm fnE 53 86 := .of Go.Proofs.Try.func53 (by kernel_rfl) (by kernel_rfl) rfl (by kernel_rfl)
theorem ok54 : FnOk Go.Proofs.Try.prog nm fnE 54 48 := .of Go.Proofs.Try.func54 (by kernel_rfl) (by kernel_rfl) rfl (by kernel_rfl)
theorem ok55 : FnOk Go.Proofs.Try.prog nm fnE 55 42 := .of Go.Proofs.Try.func55 (by kernel_rfl) (by kernel_rfl) rfl (by kernel_rfl)
theorem ok56 : FnOk Go.Proofs.Try.prog nm fnE 56 64 := .of Go.Proofs.Try.func56 (by kernel_rfl) (by kernel_rfl) rfl (by kernel_rfl)
theorem ok57 : FnOk Go.Proofs.Try.prog nm fnE 57 49 := .of Go.Proofs.Try.func57 (by kernel_rfl) (by kernel_rfl) rfl (by kernel_rfl)
theorem ok58 : FnOk Go.Proofs.Try.prog nm fnE 58 82 := .of Go.Proofs.Try.func58 (by kernel_rfl) (by kernel_rfl) rfl (by kernel_rfl)
theorem ok60 : FnOk Go.Proofs.Try.prog nm fnE 60 7 := .of Go.Proofs.Try.func60 (by kernel_rfl) (by kernel_rfl) rfl (by kernel_rfl)
theorem ok61 : FnOk Go.Proofs.Try.prog nm fnE 61 38 := .of Go.Proofs.Try.func61 (by kernel_rfl) (by kernel_rfl) rfl (by kernel_rfl)
theorem ok62 : FnOk Go.Proofs.Try.prog nm fnE 62 78 := .of Go.Proofs.Try.func62 (by kernel_rfl) (by kernel_rfl) rfl (by kernel_rfl)
theorem ok63 : FnOk Go.Proofs.Try.prog nm fnE 63 80 := .of Go.Proofs.Try.func63 (by kernel_rfl) (by kernel_rfl) rfl (by kernel_rfl)
theorem ok64 : FnOk Go.Proofs.Try.prog nm fnE 64 45 := .of Go.Proofs.Try.func64 (by kernel_rfl) (by kernel_rfl) rfl (by kernel_rfl)
theorem ok65 : FnOk Go.Proofs.Try.prog nm fnE 65 17 := .of Go.Proofs.Try.func65 (by kernel_rfl) (by kernel_rfl) rfl (by kernel_rfl)
theorem ok66 : FnOk Go.Proofs.Try.prog nm fnE 66 39 := .of Go.Proofs.Try.func66 (by kernel_rfl) (by kernel_rfl) rfl (by kernel_rfl)
theorem ok69 : FnOk Go.Proofs.Try.prog nm fnE 69 63 := .of Go.Proofs.Try.func69 (by kernel_rfl) (by kernel_rfl) rfl (by kernel_rfl)
theorem ok70 : FnOk Go.Proofs.Try.prog nm fnE 70 65 := .of Go.Proofs.Try.func70 (by kernel_rfl) (by kernel_rfl) rfl (by kernel_rfl)
theorem ok71 : FnOk Go.Proofs.Try.prog nm fnE 71 66 := .of Go.Proofs.Try.func71 (by kernel_rfl) (by kernel_rfl) rfl (by kernel_rfl)
theorem ok72 : FnOk Go.Proofs.Try.prog nm fnE 72 67 := .of Go.Proofs.Try.func72 (by kernel_rfl) (by kernel_rfl) rfl (by kernel_rfl)
theorem ok73 : FnOk Go.Proofs.Try.prog nm fnE 73 68 := .of Go.Proofs.Try.func73 (by kernel_rfl) (by kernel_rfl) rfl (by kernel_rfl)
theorem ok74 : FnOk Go.Proofs.Try.prog nm fnE 74 83 := .of Go.Proofs.Try.func74 (by kernel_rfl) (by kernel_rfl) rfl (by kernel_rfl)
theorem ok76 : FnOk Go.Proofs.Try.prog nm fnE 76 47 := .of Go.Proofs.Try.func76 (by kernel_rfl) (by kernel_rfl) rfl (by kernel_rfl)
theorem ok77 : FnOk Go.Proofs.Try.prog nm fnE 77 69 := .of Go.Proofs.Try.func77 (by kernel_rfl) (by kernel_rfl) rfl (by kernel_rfl)
theorem ok78 : FnOk Go.Proofs.Try.prog nm fnE 78 50 := .of Go.Proofs.Try.func78 (by kernel_rfl) (by kernel_rfl) rfl (by kernel_rfl)
theorem ok79 : FnOk Go.Proofs.Try.prog nm fnE 79 37 := .of Go.Proofs.Try.func79 (by kernel_rfl) (by kernel_rfl) rfl (by kernel_rfl)
theorem ok80 : FnOk Go.Proofs.Try.prog nm fnE 80 51 := .of Go.Proofs.Try.func80 (by kernel_rfl) (by kernel_rfl) rfl (by kernel_rfl)
theorem ok81 : FnOk Go.Proofs.Try.prog nm fnE 81 53 := .ext Go.Proofs.Try.func81 (by kernel_rfl) (by kernel_rfl) rfl
theorem ok82 : FnOk Go.Proofs.Try.prog nm fnE 82 44 := .of Go.Proofs.Try.func82 (by kernel_rfl) (by kernel_rfl) rfl (by kernel_rfl)
theorem ok84 : FnOk Go.Proofs.Try.prog nm fnE 84 60 := .of Go.Proofs.Try.func84 (by kernel_rfl) (by kernel_rfl) rfl (by kernel_rfl)
theorem allOk : AllF Go.Proofs.Try.prog nm fnE 0 tbl :=
  ⟨ok8, ok13, ok14, ok15, ok16, ok24, ok25, ok26, ok27, ok29, ok31, ok33, ok34, ok35, ok36, ok37, ok38, ok40, ok41, ok42, ok43, ok44, ok48, ok49, ok50, ok51, ok52, ok53, ok54, ok55, ok56, ok57, ok58, ok60, ok61, ok62, ok63, ok64, ok65, ok66, ok69, ok70, ok71, ok72, ok73, ok74, ok76, ok77, ok78, ok79, ok80, ok81, ok82, ok84, trivial⟩
theorem envOk : EnvOk Go.Proofs.Try.prog nm E := envX_ok (by kernel_rfl) allOk (.contains (f := 81) (uniq_of (by kernel_rfl)) Go.Proofs.Try.strings_Contains_one)
end Go.Vm
