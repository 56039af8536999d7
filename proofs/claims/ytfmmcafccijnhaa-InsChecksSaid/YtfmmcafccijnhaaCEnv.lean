/- The machine's form of functions, each checked against the translation, and the environment that they make. -/
import Derived.Test.YtfmmcafccijnhaaVc
import Derived.Test.YtfmmcafccijnhaaProg
import Derived.Test.YtfmmcafccijnhaaSd
import Derived.KernelRfl
namespace Go.Vm

def c_regletlaw10_InsChecks_1 : CCode :=
  (.seq (.draw [
 ⟨(some 27), .ld true 5 (.t 1), none⟩,
 ⟨(some 28), .call none true 8 [(.t 27)], none⟩,
 ⟨(some 29), .ld true 5 (.t 1), none⟩,
 ⟨(some 30), .call none true 29 [(.t 29)], none⟩,
 ⟨(some 31), .bin .eql (.t 28) (.t 30), none⟩,
 ⟨(some 2), .mv (.t 31), none⟩] [(1, 2)])
 .ret)

def c_regletlaw10_InsChecks_2 : CCode :=
  (.seq (.seq (.region [
 ⟨(some 5), .fa 3 (.t 1), none⟩,
 ⟨(some 6), .ld false 1 (.t 5), none⟩,
 ⟨(some 7), .len 1 (.t 6), none⟩,
 ⟨(some 8), .bin .gtr (.t 7) (.c (.int .i64 30000)), none⟩,
 ⟨(some 9), .mv (.t 8), none⟩,
 ⟨(some 10), .fa 0 (.t 1), (some (9, false))⟩,
 ⟨(some 11), .ld false 1 (.t 10), (some (9, false))⟩,
 ⟨(some 12), .len 1 (.t 11), (some (9, false))⟩,
 ⟨(some 13), .bin .gtr (.t 12) (.c (.int .i64 30000)), (some (9, false))⟩,
 ⟨(some 14), .pick (.t 9) (.c (.bool true)) (.t 13), none⟩,
 ⟨(some 15), .mv (.t 14), none⟩,
 ⟨(some 16), .fa 1 (.t 1), (some (15, false))⟩,
 ⟨(some 17), .ld false 1 (.t 16), (some (15, false))⟩,
 ⟨(some 18), .len 1 (.t 17), (some (15, false))⟩,
 ⟨(some 19), .bin .gtr (.t 18) (.c (.int .i64 1000)), (some (15, false))⟩,
 ⟨(some 20), .pick (.t 15) (.c (.bool true)) (.t 19), none⟩,
 ⟨(some 21), .mv (.t 20), none⟩,
 ⟨(some 22), .fa 4 (.t 1), (some (21, false))⟩,
 ⟨(some 23), .ld false 1 (.t 22), (some (21, false))⟩,
 ⟨(some 24), .len 1 (.t 23), (some (21, false))⟩,
 ⟨(some 25), .bin .gtr (.t 24) (.c (.int .i64 10000)), (some (21, false))⟩,
 ⟨(some 26), .pick (.t 21) (.c (.bool true)) (.t 25), none⟩])
 (.cond (.t 26)
 (.seq (.region [
  ⟨(some 2), .mv (.c (.bool true)), none⟩])
  .ret)
 .skip))
 c_regletlaw10_InsChecks_1)

def c_regletlaw10_InsChecks_3 : CCode :=
  (.seq (.seq (.region [
 ⟨(some 3), .call none true 4 [], none⟩,
 ⟨(some 4), .un .not (.t 3), none⟩])
 (.cond (.t 4)
 (.seq (.region [
  ⟨(some 2), .mv (.c (.bool false)), none⟩])
  .ret)
 .skip))
 c_regletlaw10_InsChecks_2)

def c_regletlaw10_InsChecks_4 : CCode :=
  (.seq (.region [
 ⟨(some 1), .box (some 0) (.t 0), none⟩,
 ⟨(some 2), .mv (.c (.bool false)), none⟩])
 c_regletlaw10_InsChecks_3)

def c_regletlaw10_InsChecks : CFunc :=
  ⟨1, true, 1, c_regletlaw10_InsChecks_4, [.t 2]⟩

def c_regletlaw10_holds_1 : CCode :=
  (.seq (.region [
 ⟨(some 0), .mv (.c (.bool false)), none⟩])
 (.seq (.region [
 ⟨(some 2), .build [(.int .i64 0), (.int .i64 0), (.int .i64 0), (.int .i64 0), (.int .i64 0), (.int .i64 0), (.int .i64 0), (.str []), .nils] [(0, 1, (.c (.int .i64 14))), (2, 1, (.c (.int .i64 1))), (3, 1, (.c (.int .i64 2))), (4, 1, (.c (.int .i64 3)))], none⟩,
 ⟨(some 3), .call none true 10 [(.t 2)], none⟩,
 ⟨(some 1), .mv (.t 3), none⟩])
 (.seq (.region [
 ⟨(some 4), .mv (.t 1), none⟩,
 ⟨(some 5), .len 1 (.t 4), none⟩,
 ⟨(some 6), .bin .eql (.t 5) (.c (.int .i64 3)), none⟩,
 ⟨(some 7), .mv (.t 6), none⟩,
 ⟨(some 8), .mv (.t 1), (some (7, true))⟩,
 ⟨(some 9), .ixs 1 (.t 8) (.c (.int .i64 2)), (some (7, true))⟩,
 ⟨(some 10), .ld false 1 (.t 9), (some (7, true))⟩,
 ⟨(some 11), .bin .eql (.t 10) (.c (.int .i64 3)), (some (7, true))⟩,
 ⟨(some 12), .pick (.t 7) (.t 11) (.c (.bool false)), none⟩,
 ⟨(some 13), .mv (.t 12), none⟩,
 ⟨(some 14), .build [(.int .i64 0), (.int .i64 0), (.int .i64 0), (.int .i64 0), (.int .i64 0), (.int .i64 0), (.int .i64 0), (.str []), .nils] [(0, 1, (.c (.int .i64 23))), (1, 1, (.c (.int .i64 (-1))))], (some (13, true))⟩,
 ⟨(some 15), .call none true 9 [(.t 14)], (some (13, true))⟩,
 ⟨(some 16), .bin .eql (.t 15) (.c (.int .i64 (-1))), (some (13, true))⟩,
 ⟨(some 17), .pick (.t 13) (.t 16) (.c (.bool false)), none⟩,
 ⟨(some 18), .mv (.t 17), none⟩,
 ⟨(some 19), .build [(.int .i64 0), (.int .i64 0), (.int .i64 0), (.int .i64 0), (.int .i64 0), (.int .i64 0), (.int .i64 0), (.str []), .nils] [(0, 1, (.c (.int .i64 33)))], (some (18, true))⟩,
 ⟨(some 20), .buildS (some 0) 9 1 [(.int .i64 0), (.int .i64 0), (.int .i64 0), (.int .i64 0), (.int .i64 0), (.int .i64 0), (.int .i64 0), (.str []), .nils] [(0, (.t 19))], (some (18, true))⟩,
 ⟨(some 21), .build [.nils, .nils, (.int .i64 0), .nils, .nils] [(3, 1, (.t 20))], (some (18, true))⟩,
 ⟨(some 22), .call none true 8 [(.t 21)], (some (18, true))⟩,
 ⟨(some 23), .bin .eql (.t 22) (.c (.int .i64 80)), (some (18, true))⟩,
 ⟨(some 24), .pick (.t 18) (.t 23) (.c (.bool false)), none⟩,
 ⟨(some 25), .mv (.t 24), none⟩,
 ⟨(some 26), .build [(.int .i64 0), (.int .i64 0), (.int .i64 0), (.int .i64 0), (.int .i64 0), (.int .i64 0), (.int .i64 0), (.str []), .nils] [(0, 1, (.c (.int .i64 30))), (2, 1, (.c (.int .i64 (-1))))], (some (25, true))⟩,
 ⟨(some 27), .buildS (some 1) 9 1 [(.int .i64 0), (.int .i64 0), (.int .i64 0), (.int .i64 0), (.int .i64 0), (.int .i64 0), (.int .i64 0), (.str []), .nils] [(0, (.t 26))], (some (25, true))⟩,
 ⟨(some 28), .build [.nils, .nils, (.int .i64 0), .nils, .nils] [(3, 1, (.t 27))], (some (25, true))⟩,
 ⟨(some 29), .call none true 8 [(.t 28)], (some (25, true))⟩,
 ⟨(some 30), .bin .eql (.t 29) (.c (.int .i64 0)), (some (25, true))⟩,
 ⟨(some 31), .pick (.t 25) (.t 30) (.c (.bool false)), none⟩,
 ⟨(some 0), .mv (.t 31), none⟩])
 .ret)))

def c_regletlaw10_holds : CFunc :=
  ⟨0, true, 2, c_regletlaw10_holds_1, [.t 0]⟩

def c_ins_Check_1 : CCode :=
  (.seq (.region [
 ⟨(some 2), .mv (.c (.int .i64 0)), none⟩])
 .ret)

def c_ins_Check_3 : CCode :=
  (.region [
 ⟨(some 179), .bin .add (.t 138) (.c (.int .i64 1)), none⟩,
 ⟨(some 138), .mv (.t 179), none⟩])

def c_ins_Check_4 : CCode :=
  (.seq (.block 7 (.seq (.region [
 ⟨(some 140), .ixs 4 (.t 136) (.t 138), none⟩,
 ⟨(some 141), .ld true 4 (.t 140), none⟩,
 ⟨(some 11), .new (some 2) [(.int .i64 0), (.int .i64 0), (.int .i64 0), (.str [])], none⟩,
 ⟨none, .st 4 (.t 11) (.t 141), none⟩])
 (.seq (.region [
 ⟨(some 142), .fa 0 (.t 11), none⟩,
 ⟨(some 143), .ld false 1 (.t 142), none⟩,
 ⟨(some 144), .bin .lss (.t 143) (.c (.int .i64 0)), none⟩,
 ⟨(some 145), .mv (.t 144), none⟩,
 ⟨(some 146), .fa 0 (.t 11), (some (145, false))⟩,
 ⟨(some 147), .ld false 1 (.t 146), (some (145, false))⟩,
 ⟨(some 148), .fa 1 (.t 11), (some (145, false))⟩,
 ⟨(some 149), .ld false 1 (.t 148), (some (145, false))⟩,
 ⟨(some 150), .bin .geq (.t 147) (.t 149), (some (145, false))⟩,
 ⟨(some 151), .pick (.t 145) (.c (.bool true)) (.t 150), none⟩,
 ⟨(some 152), .mv (.t 151), none⟩,
 ⟨(some 153), .fa 1 (.t 11), (some (152, false))⟩,
 ⟨(some 154), .ld false 1 (.t 153), (some (152, false))⟩,
 ⟨(some 155), .mv (.t 3), (some (152, false))⟩,
 ⟨(some 156), .bin .gtr (.t 154) (.t 155), (some (152, false))⟩,
 ⟨(some 157), .pick (.t 152) (.c (.bool true)) (.t 156), none⟩,
 ⟨(some 158), .mv (.t 157), none⟩,
 ⟨(some 159), .fa 2 (.t 11), (some (158, false))⟩,
 ⟨(some 160), .ld false 1 (.t 159), (some (158, false))⟩,
 ⟨(some 161), .bin .lss (.t 160) (.c (.int .i64 0)), (some (158, false))⟩,
 ⟨(some 162), .pick (.t 158) (.c (.bool true)) (.t 161), none⟩,
 ⟨(some 163), .mv (.t 162), none⟩,
 ⟨(some 164), .fa 2 (.t 11), (some (163, false))⟩,
 ⟨(some 165), .ld false 1 (.t 164), (some (163, false))⟩,
 ⟨(some 166), .mv (.t 3), (some (163, false))⟩,
 ⟨(some 167), .bin .geq (.t 165) (.t 166), (some (163, false))⟩,
 ⟨(some 168), .pick (.t 163) (.c (.bool true)) (.t 167), none⟩,
 ⟨(some 169), .mv (.t 168), none⟩,
 ⟨(some 170), .fa 3 (.t 1), (some (169, false))⟩,
 ⟨(some 171), .ld false 1 (.t 170), (some (169, false))⟩,
 ⟨(some 172), .fa 2 (.t 11), (some (169, false))⟩,
 ⟨(some 173), .ld false 1 (.t 172), (some (169, false))⟩,
 ⟨(some 174), .ixs 9 (.t 171) (.t 173), (some (169, false))⟩,
 ⟨(some 175), .fa 0 (.t 174), (some (169, false))⟩,
 ⟨(some 176), .ld false 1 (.t 175), (some (169, false))⟩,
 ⟨(some 177), .bin .neq (.t 176) (.c (.int .i64 32)), (some (169, false))⟩,
 ⟨(some 178), .pick (.t 169) (.c (.bool true)) (.t 177), none⟩])
 (.cond (.t 178)
 (.seq (.region [
  ⟨(some 2), .mv (.c (.int .i64 80)), none⟩])
  .ret)
 .skip))))
 c_ins_Check_3)

def c_ins_Check_5 : CCode :=
  (.seq (.cond (.t 139)
 .skip
 (.exit 6))
 c_ins_Check_4)

def c_ins_Check_6 : CCode :=
  (.seq (.region [
 ⟨(some 139), .bin .lss (.t 138) (.t 137), none⟩])
 c_ins_Check_5)

def c_ins_Check_L2 : CCode :=
  (.loop [1, 3, 136, 137, 138] c_ins_Check_6)

def c_ins_Check_7 : CCode :=
  (.block 6 c_ins_Check_L2)

def c_ins_Check_8 : CCode :=
  (.seq (.region [
 ⟨(some 135), .fa 4 (.t 1), none⟩,
 ⟨(some 136), .ld false 1 (.t 135), none⟩,
 ⟨(some 137), .len 1 (.t 136), none⟩,
 ⟨(some 138), .mv (.c (.int .i64 0)), none⟩])
 c_ins_Check_7)

def c_ins_Check_9 : CCode :=
  (.seq c_ins_Check_8
 c_ins_Check_1)

def c_ins_Check_11 : CCode :=
  (.region [
 ⟨(some 134), .bin .add (.t 94) (.c (.int .i64 1)), none⟩,
 ⟨(some 94), .mv (.t 134), none⟩])

def c_ins_Check_12 : CCode :=
  (.seq (.region [
 ⟨(some 103), .fa 0 (.t 9), none⟩,
 ⟨(some 104), .ld false 1 (.t 103), none⟩,
 ⟨(some 105), .bin .eql (.t 104) (.c (.int .i64 32)), none⟩,
 ⟨(some 106), .mv (.t 105), none⟩,
 ⟨(some 107), .mv (.t 8), (some (106, true))⟩,
 ⟨(some 108), .bin .eql (.t 107) (.c (.int .i64 0)), (some (106, true))⟩,
 ⟨(some 109), .mv (.t 108), (some (106, true))⟩,
 ⟨(some 110), .fa 3 (.t 1), (some (109, false))⟩,
 ⟨(some 111), .ld false 1 (.t 110), (some (109, false))⟩,
 ⟨(some 112), .mv (.t 8), (some (109, false))⟩,
 ⟨(some 113), .bin .sub (.t 112) (.c (.int .i64 1)), (some (109, false))⟩,
 ⟨(some 114), .ixs 9 (.t 111) (.t 113), (some (109, false))⟩,
 ⟨(some 115), .ld true 9 (.t 114), (some (109, false))⟩,
 ⟨(some 116), .call none true 24 [(.t 115)], (some (109, false))⟩,
 ⟨(some 117), .un .not (.t 116), (some (109, false))⟩,
 ⟨(some 118), .pick (.t 109) (.c (.bool true)) (.t 117), (some (106, true))⟩,
 ⟨(some 119), .pick (.t 106) (.t 118) (.c (.bool false)), none⟩,
 ⟨(some 120), .mv (.t 119), none⟩,
 ⟨(some 121), .ld true 9 (.t 9), (some (120, false))⟩,
 ⟨(some 122), .call none true 22 [(.t 121)], (some (120, false))⟩,
 ⟨(some 123), .mv (.t 122), (some (120, false))⟩,
 ⟨(some 124), .fa 3 (.t 1), (some (123, true))⟩,
 ⟨(some 125), .ld false 1 (.t 124), (some (123, true))⟩,
 ⟨(some 126), .fa 6 (.t 9), (some (123, true))⟩,
 ⟨(some 127), .ld false 1 (.t 126), (some (123, true))⟩,
 ⟨(some 128), .ixs 9 (.t 125) (.t 127), (some (123, true))⟩,
 ⟨(some 129), .fa 0 (.t 128), (some (123, true))⟩,
 ⟨(some 130), .ld false 1 (.t 129), (some (123, true))⟩,
 ⟨(some 131), .bin .eql (.t 130) (.c (.int .i64 32)), (some (123, true))⟩,
 ⟨(some 132), .pick (.t 123) (.t 131) (.c (.bool false)), (some (120, false))⟩,
 ⟨(some 133), .pick (.t 120) (.c (.bool true)) (.t 132), none⟩])
 (.cond (.t 133)
 (.seq (.region [
  ⟨(some 2), .mv (.c (.int .i64 80)), none⟩])
  .ret)
 .skip))

def c_ins_Check_13 : CCode :=
  (.seq (.seq (.region [
 ⟨(some 99), .ld true 5 (.t 1), none⟩,
 ⟨(some 100), .ld true 9 (.t 9), none⟩,
 ⟨(some 101), .call none true 63 [(.t 99), (.t 100)], none⟩,
 ⟨(some 102), .un .not (.t 101), none⟩])
 (.cond (.t 102)
 (.seq (.region [
  ⟨(some 2), .mv (.c (.int .i64 80)), none⟩])
  .ret)
 .skip))
 c_ins_Check_12)

def c_ins_Check_14 : CCode :=
  (.seq (.region [
 ⟨(some 96), .mv (.t 94), none⟩,
 ⟨(some 97), .ixs 9 (.t 92) (.t 94), none⟩,
 ⟨(some 98), .ld true 9 (.t 97), none⟩,
 ⟨(some 9), .new (some 1) [(.int .i64 0), (.int .i64 0), (.int .i64 0), (.int .i64 0), (.int .i64 0), (.int .i64 0), (.int .i64 0), (.str []), .nils], none⟩,
 ⟨(some 8), .mv (.t 96), none⟩,
 ⟨none, .st 9 (.t 9) (.t 98), none⟩])
 c_ins_Check_13)

def c_ins_Check_15 : CCode :=
  (.block 5 c_ins_Check_14)

def c_ins_Check_16 : CCode :=
  (.seq c_ins_Check_15
 c_ins_Check_11)

def c_ins_Check_17 : CCode :=
  (.seq (.cond (.t 95)
 .skip
 (.exit 4))
 c_ins_Check_16)

def c_ins_Check_18 : CCode :=
  (.seq (.region [
 ⟨(some 95), .bin .lss (.t 94) (.t 93), none⟩])
 c_ins_Check_17)

def c_ins_Check_L10 : CCode :=
  (.loop [1, 3, 92, 93, 94] c_ins_Check_18)

def c_ins_Check_19 : CCode :=
  (.block 4 c_ins_Check_L10)

def c_ins_Check_20 : CCode :=
  (.seq (.region [
 ⟨(some 91), .fa 3 (.t 1), none⟩,
 ⟨(some 92), .ld false 1 (.t 91), none⟩,
 ⟨(some 93), .len 1 (.t 92), none⟩,
 ⟨(some 94), .mv (.c (.int .i64 0)), none⟩])
 c_ins_Check_19)

def c_ins_Check_21 : CCode :=
  (.seq c_ins_Check_20
 c_ins_Check_9)

def c_ins_Check_23 : CCode :=
  (.region [
 ⟨(some 90), .bin .add (.t 64) (.c (.int .i64 1)), none⟩,
 ⟨(some 64), .mv (.t 90), none⟩])

def c_ins_Check_24 : CCode :=
  (.seq (.block 3 (.seq (.region [
 ⟨(some 66), .mv (.t 64), none⟩,
 ⟨(some 67), .ixs 1 (.t 62) (.t 64), none⟩,
 ⟨(some 68), .ld false 1 (.t 67), none⟩,
 ⟨(some 6), .mv (.t 66), none⟩,
 ⟨(some 7), .mv (.t 68), none⟩])
 (.seq (.region [
 ⟨(some 69), .mv (.t 7), none⟩,
 ⟨(some 70), .bin .lss (.t 69) (.c (.int .i64 0)), none⟩,
 ⟨(some 71), .mv (.t 70), none⟩,
 ⟨(some 72), .mv (.t 7), (some (71, false))⟩,
 ⟨(some 73), .fa 0 (.t 1), (some (71, false))⟩,
 ⟨(some 74), .ld false 1 (.t 73), (some (71, false))⟩,
 ⟨(some 75), .len 1 (.t 74), (some (71, false))⟩,
 ⟨(some 76), .bin .geq (.t 72) (.t 75), (some (71, false))⟩,
 ⟨(some 77), .pick (.t 71) (.c (.bool true)) (.t 76), none⟩,
 ⟨(some 78), .mv (.t 77), none⟩,
 ⟨(some 79), .fa 1 (.t 1), (some (78, false))⟩,
 ⟨(some 80), .ld false 1 (.t 79), (some (78, false))⟩,
 ⟨(some 81), .mv (.t 6), (some (78, false))⟩,
 ⟨(some 82), .slc 1 (.t 80) none (some (.t 81)), (some (78, false))⟩,
 ⟨(some 83), .mv (.t 7), (some (78, false))⟩,
 ⟨(some 84), .call none true 46 [(.t 82), (.t 83)], (some (78, false))⟩,
 ⟨(some 85), .pick (.t 78) (.c (.bool true)) (.t 84), none⟩,
 ⟨(some 86), .mv (.t 85), none⟩,
 ⟨(some 87), .mv (.t 6), (some (86, false))⟩,
 ⟨(some 88), .bin .gtr (.t 87) (.c (.int .i64 20)), (some (86, false))⟩,
 ⟨(some 89), .pick (.t 86) (.c (.bool true)) (.t 88), none⟩])
 (.cond (.t 89)
 (.seq (.region [
  ⟨(some 2), .mv (.c (.int .i64 80)), none⟩])
  .ret)
 .skip))))
 c_ins_Check_23)

def c_ins_Check_25 : CCode :=
  (.seq (.cond (.t 65)
 .skip
 (.exit 2))
 c_ins_Check_24)

def c_ins_Check_26 : CCode :=
  (.seq (.region [
 ⟨(some 65), .bin .lss (.t 64) (.t 63), none⟩])
 c_ins_Check_25)

def c_ins_Check_L22 : CCode :=
  (.loop [1, 3, 62, 63, 64] c_ins_Check_26)

def c_ins_Check_27 : CCode :=
  (.block 2 c_ins_Check_L22)

def c_ins_Check_28 : CCode :=
  (.seq (.region [
 ⟨(some 61), .fa 1 (.t 1), none⟩,
 ⟨(some 62), .ld false 1 (.t 61), none⟩,
 ⟨(some 63), .len 1 (.t 62), none⟩,
 ⟨(some 64), .mv (.c (.int .i64 0)), none⟩])
 c_ins_Check_27)

def c_ins_Check_29 : CCode :=
  (.seq c_ins_Check_28
 c_ins_Check_21)

def c_ins_Check_31 : CCode :=
  (.region [
 ⟨(some 60), .bin .add (.t 50) (.c (.int .i64 1)), none⟩,
 ⟨(some 50), .mv (.t 60), none⟩])

def c_ins_Check_32 : CCode :=
  (.seq (.block 1 (.seq (.region [
 ⟨(some 52), .ixs 1 (.t 48) (.t 50), none⟩,
 ⟨(some 53), .ld false 1 (.t 52), none⟩,
 ⟨(some 5), .mv (.t 53), none⟩])
 (.seq (.region [
 ⟨(some 54), .mv (.t 5), none⟩,
 ⟨(some 55), .bin .lss (.t 54) (.c (.int .i64 1)), none⟩,
 ⟨(some 56), .mv (.t 55), none⟩,
 ⟨(some 57), .mv (.t 5), (some (56, false))⟩,
 ⟨(some 58), .bin .gtr (.t 57) (.c (.int .i64 3)), (some (56, false))⟩,
 ⟨(some 59), .pick (.t 56) (.c (.bool true)) (.t 58), none⟩])
 (.cond (.t 59)
 (.seq (.region [
  ⟨(some 2), .mv (.c (.int .i64 80)), none⟩])
  .ret)
 .skip))))
 c_ins_Check_31)

def c_ins_Check_33 : CCode :=
  (.seq (.cond (.t 51)
 .skip
 (.exit 0))
 c_ins_Check_32)

def c_ins_Check_34 : CCode :=
  (.seq (.region [
 ⟨(some 51), .bin .lss (.t 50) (.t 49), none⟩])
 c_ins_Check_33)

def c_ins_Check_L30 : CCode :=
  (.loop [1, 3, 48, 49, 50] c_ins_Check_34)

def c_ins_Check_35 : CCode :=
  (.block 0 c_ins_Check_L30)

def c_ins_Check_36 : CCode :=
  (.seq (.region [
 ⟨(some 47), .fa 0 (.t 1), none⟩,
 ⟨(some 48), .ld false 1 (.t 47), none⟩,
 ⟨(some 49), .len 1 (.t 48), none⟩,
 ⟨(some 50), .mv (.c (.int .i64 0)), none⟩])
 c_ins_Check_35)

def c_ins_Check_37 : CCode :=
  (.seq c_ins_Check_36
 c_ins_Check_29)

def c_ins_Check_38 : CCode :=
  (.seq (.seq (.region [
 ⟨(some 15), .mv (.t 3), none⟩,
 ⟨(some 16), .bin .lss (.t 15) (.c (.int .i64 1)), none⟩,
 ⟨(some 17), .mv (.t 16), none⟩,
 ⟨(some 18), .mv (.t 3), (some (17, false))⟩,
 ⟨(some 19), .bin .gtr (.t 18) (.c (.int .i64 20000)), (some (17, false))⟩,
 ⟨(some 20), .pick (.t 17) (.c (.bool true)) (.t 19), none⟩,
 ⟨(some 21), .mv (.t 20), none⟩,
 ⟨(some 22), .fa 0 (.t 1), (some (21, false))⟩,
 ⟨(some 23), .ld false 1 (.t 22), (some (21, false))⟩,
 ⟨(some 24), .len 1 (.t 23), (some (21, false))⟩,
 ⟨(some 25), .bin .gtr (.t 24) (.c (.int .i64 20000)), (some (21, false))⟩,
 ⟨(some 26), .pick (.t 21) (.c (.bool true)) (.t 25), none⟩,
 ⟨(some 27), .mv (.t 26), none⟩,
 ⟨(some 28), .fa 2 (.t 1), (some (27, false))⟩,
 ⟨(some 29), .ld false 1 (.t 28), (some (27, false))⟩,
 ⟨(some 30), .bin .lss (.t 29) (.c (.int .i64 0)), (some (27, false))⟩,
 ⟨(some 31), .pick (.t 27) (.c (.bool true)) (.t 30), none⟩,
 ⟨(some 32), .mv (.t 31), none⟩,
 ⟨(some 33), .fa 2 (.t 1), (some (32, false))⟩,
 ⟨(some 34), .ld false 1 (.t 33), (some (32, false))⟩,
 ⟨(some 35), .bin .gtr (.t 34) (.c (.int .i64 3)), (some (32, false))⟩,
 ⟨(some 36), .pick (.t 32) (.c (.bool true)) (.t 35), none⟩,
 ⟨(some 37), .mv (.t 36), none⟩,
 ⟨(some 38), .fa 3 (.t 1), (some (37, false))⟩,
 ⟨(some 39), .ld false 1 (.t 38), (some (37, false))⟩,
 ⟨(some 40), .mv (.t 3), (some (37, false))⟩,
 ⟨(some 41), .bin .sub (.t 40) (.c (.int .i64 1)), (some (37, false))⟩,
 ⟨(some 42), .ixs 9 (.t 39) (.t 41), (some (37, false))⟩,
 ⟨(some 43), .ld true 9 (.t 42), (some (37, false))⟩,
 ⟨(some 44), .call none true 24 [(.t 43)], (some (37, false))⟩,
 ⟨(some 45), .un .not (.t 44), (some (37, false))⟩,
 ⟨(some 46), .pick (.t 37) (.c (.bool true)) (.t 45), none⟩])
 (.cond (.t 46)
 (.seq (.region [
  ⟨(some 2), .mv (.c (.int .i64 80)), none⟩])
  .ret)
 .skip))
 c_ins_Check_37)

def c_ins_Check_39 : CCode :=
  (.seq (.region [
 ⟨(some 12), .fa 3 (.t 1), none⟩,
 ⟨(some 13), .ld false 1 (.t 12), none⟩,
 ⟨(some 14), .len 1 (.t 13), none⟩,
 ⟨(some 3), .mv (.t 14), none⟩])
 c_ins_Check_38)

def c_ins_Check_40 : CCode :=
  (.seq (.region [
 ⟨(some 1), .box (some 0) (.t 0), none⟩,
 ⟨(some 2), .mv (.c (.int .i64 0)), none⟩])
 c_ins_Check_39)

def c_ins_Check : CFunc :=
  ⟨1, true, 3, c_ins_Check_40, [.t 2]⟩

def c_ins_Def_1 : CCode :=
  (.seq (.region [
 ⟨(some 2), .mv (.c (.int .i64 (-1))), none⟩])
 .ret)

def c_ins_Def_2 : CCode :=
  (.seq (.seq (.region [
 ⟨(some 22), .ld true 9 (.t 1), none⟩,
 ⟨(some 23), .call none true 17 [(.t 22)], none⟩])
 (.cond (.t 23)
 (.seq (.region [
  ⟨(some 24), .fa 1 (.t 1), none⟩,
  ⟨(some 25), .ld false 1 (.t 24), none⟩,
  ⟨(some 2), .mv (.t 25), none⟩])
  .ret)
 .skip))
 c_ins_Def_1)

def c_ins_Def_3 : CCode :=
  (.cond (.t 5)
 (.seq (.region [
  ⟨(some 20), .fa 1 (.t 1), none⟩,
  ⟨(some 21), .ld false 1 (.t 20), none⟩,
  ⟨(some 2), .mv (.t 21), none⟩])
  .ret)
 .skip)

def c_ins_Def_4 : CCode :=
  (.seq (.seq (.region [
 ⟨(some 6), .bin .eql (.t 4) (.c (.int .i64 1)), none⟩,
 ⟨(some 5), .mv (.t 6), none⟩])
 (.cond (.t 5)
 .skip
 (.seq (.region [
  ⟨(some 7), .bin .eql (.t 4) (.c (.int .i64 2)), none⟩,
  ⟨(some 5), .mv (.t 7), none⟩])
  (.cond (.t 5)
  .skip
  (.seq (.region [
   ⟨(some 8), .bin .eql (.t 4) (.c (.int .i64 3)), none⟩,
   ⟨(some 5), .mv (.t 8), none⟩])
   (.cond (.t 5)
   .skip
   (.seq (.region [
    ⟨(some 9), .bin .eql (.t 4) (.c (.int .i64 4)), none⟩,
    ⟨(some 5), .mv (.t 9), none⟩])
    (.cond (.t 5)
    .skip
    (.seq (.region [
     ⟨(some 10), .bin .eql (.t 4) (.c (.int .i64 5)), none⟩,
     ⟨(some 5), .mv (.t 10), none⟩])
     (.cond (.t 5)
     .skip
     (.seq (.region [
      ⟨(some 11), .bin .eql (.t 4) (.c (.int .i64 6)), none⟩,
      ⟨(some 5), .mv (.t 11), none⟩])
      (.cond (.t 5)
      .skip
      (.seq (.region [
       ⟨(some 12), .bin .eql (.t 4) (.c (.int .i64 13)), none⟩,
       ⟨(some 5), .mv (.t 12), none⟩])
       (.cond (.t 5)
       .skip
       (.seq (.region [
        ⟨(some 13), .bin .eql (.t 4) (.c (.int .i64 15)), none⟩,
        ⟨(some 5), .mv (.t 13), none⟩])
        (.cond (.t 5)
        .skip
        (.seq (.region [
         ⟨(some 14), .bin .eql (.t 4) (.c (.int .i64 16)), none⟩,
         ⟨(some 5), .mv (.t 14), none⟩])
         (.cond (.t 5)
         .skip
         (.seq (.region [
          ⟨(some 15), .bin .eql (.t 4) (.c (.int .i64 18)), none⟩,
          ⟨(some 5), .mv (.t 15), none⟩])
          (.cond (.t 5)
          .skip
          (.seq (.region [
           ⟨(some 16), .bin .eql (.t 4) (.c (.int .i64 20)), none⟩,
           ⟨(some 5), .mv (.t 16), none⟩])
           (.cond (.t 5)
           .skip
           (.seq (.region [
            ⟨(some 17), .bin .eql (.t 4) (.c (.int .i64 21)), none⟩,
            ⟨(some 5), .mv (.t 17), none⟩])
            (.cond (.t 5)
            .skip
            (.seq (.region [
             ⟨(some 18), .bin .eql (.t 4) (.c (.int .i64 22)), none⟩,
             ⟨(some 5), .mv (.t 18), none⟩])
             (.cond (.t 5)
             .skip
             (.region [
              ⟨(some 19), .bin .eql (.t 4) (.c (.int .i64 32)), none⟩,
              ⟨(some 5), .mv (.t 19), none⟩])))))))))))))))))))))))))))
 c_ins_Def_3)

def c_ins_Def_5 : CCode :=
  (.block 0 c_ins_Def_4)

def c_ins_Def_6 : CCode :=
  (.seq (.region [
 ⟨(some 3), .fa 0 (.t 1), none⟩,
 ⟨(some 4), .ld false 1 (.t 3), none⟩])
 c_ins_Def_5)

def c_ins_Def_7 : CCode :=
  (.seq c_ins_Def_6
 c_ins_Def_2)

def c_ins_Def_8 : CCode :=
  (.seq (.region [
 ⟨(some 1), .box (some 0) (.t 0), none⟩,
 ⟨(some 2), .mv (.c (.int .i64 0)), none⟩])
 c_ins_Def_7)

def c_ins_Def : CFunc :=
  ⟨1, true, 1, c_ins_Def_8, [.t 2]⟩

def c_ins_Uses_1 : CCode :=
  (.seq (.region [
 ⟨(some 2), .mv (.c .nils), none⟩])
 .ret)

def c_ins_Uses_2 : CCode :=
  (.seq (.region [
 ⟨(some 58), .fa 2 (.t 1), none⟩,
 ⟨(some 59), .ld false 1 (.t 58), none⟩,
 ⟨(some 60), .fa 3 (.t 1), none⟩,
 ⟨(some 61), .ld false 1 (.t 60), none⟩,
 ⟨(some 62), .buildS (some 6) 1 2 [(.int .i64 0)] [(0, (.t 59)), (1, (.t 61))], none⟩,
 ⟨(some 2), .mv (.t 62), none⟩])
 .ret)

def c_ins_Uses_3 : CCode :=
  (.seq (.seq (.region [
 ⟨(some 52), .fa 3 (.t 1), none⟩,
 ⟨(some 53), .ld false 1 (.t 52), none⟩,
 ⟨(some 54), .bin .lss (.t 53) (.c (.int .i64 0)), none⟩])
 (.cond (.t 54)
 (.seq (.region [
  ⟨(some 55), .fa 2 (.t 1), none⟩,
  ⟨(some 56), .ld false 1 (.t 55), none⟩,
  ⟨(some 57), .buildS (some 5) 1 1 [(.int .i64 0)] [(0, (.t 56))], none⟩,
  ⟨(some 2), .mv (.t 57), none⟩])
  .ret)
 .skip))
 c_ins_Uses_2)

def c_ins_Uses_4 : CCode :=
  (.cond (.t 50)
 c_ins_Uses_3
 (.seq (.region [
  ⟨(some 64), .bin .eql (.t 4) (.c (.int .i64 30)), none⟩,
  ⟨(some 63), .mv (.t 64), none⟩])
  (.cond (.t 63)
  (.seq (.region [
   ⟨(some 65), .fa 2 (.t 1), none⟩,
   ⟨(some 66), .ld false 1 (.t 65), none⟩,
   ⟨(some 67), .bin .geq (.t 66) (.c (.int .i64 0)), none⟩])
   (.cond (.t 67)
   (.seq (.region [
    ⟨(some 68), .fa 2 (.t 1), none⟩,
    ⟨(some 69), .ld false 1 (.t 68), none⟩,
    ⟨(some 70), .buildS (some 7) 1 1 [(.int .i64 0)] [(0, (.t 69))], none⟩,
    ⟨(some 2), .mv (.t 70), none⟩])
    .ret)
   .skip))
  .skip)))

def c_ins_Uses_5 : CCode :=
  (.seq (.region [
 ⟨(some 51), .bin .eql (.t 4) (.c (.int .i64 29)), none⟩,
 ⟨(some 50), .mv (.t 51), none⟩])
 c_ins_Uses_4)

def c_ins_Uses_6 : CCode :=
  (.cond (.t 42)
 (.seq (.region [
  ⟨(some 47), .fa 8 (.t 1), none⟩,
  ⟨(some 48), .ld false 1 (.t 47), none⟩,
  ⟨(some 49), .call (some 4) false 39 [(.t 48)], none⟩,
  ⟨(some 2), .mv (.t 49), none⟩])
  .ret)
 c_ins_Uses_5)

def c_ins_Uses_7 : CCode :=
  (.seq (.seq (.region [
 ⟨(some 43), .bin .eql (.t 4) (.c (.int .i64 23)), none⟩,
 ⟨(some 42), .mv (.t 43), none⟩])
 (.cond (.t 42)
 .skip
 (.seq (.region [
  ⟨(some 44), .bin .eql (.t 4) (.c (.int .i64 24)), none⟩,
  ⟨(some 42), .mv (.t 44), none⟩])
  (.cond (.t 42)
  .skip
  (.seq (.region [
   ⟨(some 45), .bin .eql (.t 4) (.c (.int .i64 25)), none⟩,
   ⟨(some 42), .mv (.t 45), none⟩])
   (.cond (.t 42)
   .skip
   (.region [
    ⟨(some 46), .bin .eql (.t 4) (.c (.int .i64 26)), none⟩,
    ⟨(some 42), .mv (.t 46), none⟩])))))))
 c_ins_Uses_6)

def c_ins_Uses_8 : CCode :=
  (.cond (.t 33)
 (.seq (.region [
  ⟨(some 35), .fa 2 (.t 1), none⟩,
  ⟨(some 36), .ld false 1 (.t 35), none⟩,
  ⟨(some 37), .fa 3 (.t 1), none⟩,
  ⟨(some 38), .ld false 1 (.t 37), none⟩,
  ⟨(some 39), .fa 4 (.t 1), none⟩,
  ⟨(some 40), .ld false 1 (.t 39), none⟩,
  ⟨(some 41), .buildS (some 3) 1 3 [(.int .i64 0)] [(0, (.t 36)), (1, (.t 38)), (2, (.t 40))], none⟩,
  ⟨(some 2), .mv (.t 41), none⟩])
  .ret)
 c_ins_Uses_7)

def c_ins_Uses_9 : CCode :=
  (.seq (.region [
 ⟨(some 34), .bin .eql (.t 4) (.c (.int .i64 14)), none⟩,
 ⟨(some 33), .mv (.t 34), none⟩])
 c_ins_Uses_8)

def c_ins_Uses_10 : CCode :=
  (.cond (.t 21)
 (.seq (.region [
  ⟨(some 28), .fa 2 (.t 1), none⟩,
  ⟨(some 29), .ld false 1 (.t 28), none⟩,
  ⟨(some 30), .fa 3 (.t 1), none⟩,
  ⟨(some 31), .ld false 1 (.t 30), none⟩,
  ⟨(some 32), .buildS (some 2) 1 2 [(.int .i64 0)] [(0, (.t 29)), (1, (.t 31))], none⟩,
  ⟨(some 2), .mv (.t 32), none⟩])
  .ret)
 c_ins_Uses_9)

def c_ins_Uses_11 : CCode :=
  (.seq (.seq (.region [
 ⟨(some 22), .bin .eql (.t 4) (.c (.int .i64 5)), none⟩,
 ⟨(some 21), .mv (.t 22), none⟩])
 (.cond (.t 21)
 .skip
 (.seq (.region [
  ⟨(some 23), .bin .eql (.t 4) (.c (.int .i64 9)), none⟩,
  ⟨(some 21), .mv (.t 23), none⟩])
  (.cond (.t 21)
  .skip
  (.seq (.region [
   ⟨(some 24), .bin .eql (.t 4) (.c (.int .i64 11)), none⟩,
   ⟨(some 21), .mv (.t 24), none⟩])
   (.cond (.t 21)
   .skip
   (.seq (.region [
    ⟨(some 25), .bin .eql (.t 4) (.c (.int .i64 13)), none⟩,
    ⟨(some 21), .mv (.t 25), none⟩])
    (.cond (.t 21)
    .skip
    (.seq (.region [
     ⟨(some 26), .bin .eql (.t 4) (.c (.int .i64 17)), none⟩,
     ⟨(some 21), .mv (.t 26), none⟩])
     (.cond (.t 21)
     .skip
     (.region [
      ⟨(some 27), .bin .eql (.t 4) (.c (.int .i64 28)), none⟩,
      ⟨(some 21), .mv (.t 27), none⟩])))))))))))
 c_ins_Uses_10)

def c_ins_Uses_12 : CCode :=
  (.cond (.t 5)
 (.seq (.region [
  ⟨(some 18), .fa 2 (.t 1), none⟩,
  ⟨(some 19), .ld false 1 (.t 18), none⟩,
  ⟨(some 20), .buildS (some 1) 1 1 [(.int .i64 0)] [(0, (.t 19))], none⟩,
  ⟨(some 2), .mv (.t 20), none⟩])
  .ret)
 c_ins_Uses_11)

def c_ins_Uses_13 : CCode :=
  (.seq (.seq (.region [
 ⟨(some 6), .bin .eql (.t 4) (.c (.int .i64 4)), none⟩,
 ⟨(some 5), .mv (.t 6), none⟩])
 (.cond (.t 5)
 .skip
 (.seq (.region [
  ⟨(some 7), .bin .eql (.t 4) (.c (.int .i64 6)), none⟩,
  ⟨(some 5), .mv (.t 7), none⟩])
  (.cond (.t 5)
  .skip
  (.seq (.region [
   ⟨(some 8), .bin .eql (.t 4) (.c (.int .i64 7)), none⟩,
   ⟨(some 5), .mv (.t 8), none⟩])
   (.cond (.t 5)
   .skip
   (.seq (.region [
    ⟨(some 9), .bin .eql (.t 4) (.c (.int .i64 8)), none⟩,
    ⟨(some 5), .mv (.t 9), none⟩])
    (.cond (.t 5)
    .skip
    (.seq (.region [
     ⟨(some 10), .bin .eql (.t 4) (.c (.int .i64 10)), none⟩,
     ⟨(some 5), .mv (.t 10), none⟩])
     (.cond (.t 5)
     .skip
     (.seq (.region [
      ⟨(some 11), .bin .eql (.t 4) (.c (.int .i64 12)), none⟩,
      ⟨(some 5), .mv (.t 11), none⟩])
      (.cond (.t 5)
      .skip
      (.seq (.region [
       ⟨(some 12), .bin .eql (.t 4) (.c (.int .i64 15)), none⟩,
       ⟨(some 5), .mv (.t 12), none⟩])
       (.cond (.t 5)
       .skip
       (.seq (.region [
        ⟨(some 13), .bin .eql (.t 4) (.c (.int .i64 16)), none⟩,
        ⟨(some 5), .mv (.t 13), none⟩])
        (.cond (.t 5)
        .skip
        (.seq (.region [
         ⟨(some 14), .bin .eql (.t 4) (.c (.int .i64 19)), none⟩,
         ⟨(some 5), .mv (.t 14), none⟩])
         (.cond (.t 5)
         .skip
         (.seq (.region [
          ⟨(some 15), .bin .eql (.t 4) (.c (.int .i64 21)), none⟩,
          ⟨(some 5), .mv (.t 15), none⟩])
          (.cond (.t 5)
          .skip
          (.seq (.region [
           ⟨(some 16), .bin .eql (.t 4) (.c (.int .i64 22)), none⟩,
           ⟨(some 5), .mv (.t 16), none⟩])
           (.cond (.t 5)
           .skip
           (.region [
            ⟨(some 17), .bin .eql (.t 4) (.c (.int .i64 31)), none⟩,
            ⟨(some 5), .mv (.t 17), none⟩])))))))))))))))))))))))
 c_ins_Uses_12)

def c_ins_Uses_14 : CCode :=
  (.block 0 c_ins_Uses_13)

def c_ins_Uses_15 : CCode :=
  (.seq (.region [
 ⟨(some 3), .fa 0 (.t 1), none⟩,
 ⟨(some 4), .ld false 1 (.t 3), none⟩])
 c_ins_Uses_14)

def c_ins_Uses_16 : CCode :=
  (.seq c_ins_Uses_15
 c_ins_Uses_1)

def c_ins_Uses_17 : CCode :=
  (.seq (.region [
 ⟨(some 1), .box (some 0) (.t 0), none⟩,
 ⟨(some 2), .mv (.c .nils), none⟩])
 c_ins_Uses_16)

def c_ins_Uses : CFunc :=
  ⟨1, true, 8, c_ins_Uses_17, [.t 2]⟩

def c_ins_Calls_1 : CCode :=
  (.seq (.region [
 ⟨(some 1), .box (some 0) (.t 0), none⟩,
 ⟨(some 2), .mv (.c (.bool false)), none⟩])
 (.seq (.region [
 ⟨(some 3), .fa 0 (.t 1), none⟩,
 ⟨(some 4), .ld false 1 (.t 3), none⟩,
 ⟨(some 5), .bin .geq (.t 4) (.c (.int .i64 23)), none⟩,
 ⟨(some 6), .mv (.t 5), none⟩,
 ⟨(some 7), .fa 0 (.t 1), (some (6, true))⟩,
 ⟨(some 8), .ld false 1 (.t 7), (some (6, true))⟩,
 ⟨(some 9), .bin .leq (.t 8) (.c (.int .i64 26)), (some (6, true))⟩,
 ⟨(some 10), .pick (.t 6) (.t 9) (.c (.bool false)), none⟩,
 ⟨(some 2), .mv (.t 10), none⟩])
 .ret))

def c_ins_Calls : CFunc :=
  ⟨1, true, 1, c_ins_Calls_1, [.t 2]⟩

def c_ins_Leads_1 : CCode :=
  (.seq (.region [
 ⟨(some 1), .box (some 0) (.t 0), none⟩,
 ⟨(some 2), .mv (.c (.bool false)), none⟩])
 (.seq (.region [
 ⟨(some 3), .fa 0 (.t 1), none⟩,
 ⟨(some 4), .ld false 1 (.t 3), none⟩,
 ⟨(some 5), .bin .eql (.t 4) (.c (.int .i64 27)), none⟩,
 ⟨(some 6), .mv (.t 5), none⟩,
 ⟨(some 7), .fa 0 (.t 1), (some (6, false))⟩,
 ⟨(some 8), .ld false 1 (.t 7), (some (6, false))⟩,
 ⟨(some 9), .bin .eql (.t 8) (.c (.int .i64 28)), (some (6, false))⟩,
 ⟨(some 10), .pick (.t 6) (.c (.bool true)) (.t 9), none⟩,
 ⟨(some 11), .mv (.t 10), none⟩,
 ⟨(some 12), .fa 0 (.t 1), (some (11, false))⟩,
 ⟨(some 13), .ld false 1 (.t 12), (some (11, false))⟩,
 ⟨(some 14), .bin .eql (.t 13) (.c (.int .i64 29)), (some (11, false))⟩,
 ⟨(some 15), .pick (.t 11) (.c (.bool true)) (.t 14), none⟩,
 ⟨(some 2), .mv (.t 15), none⟩])
 .ret))

def c_ins_Leads : CFunc :=
  ⟨1, true, 1, c_ins_Leads_1, [.t 2]⟩

def c_regletref10_Leads_1 : CCode :=
  (.seq (.region [
 ⟨(some 2), .mv (.c (.bool false)), none⟩])
 (.seq (.region [
 ⟨(some 3), .mv (.t 0), none⟩,
 ⟨(some 4), .buildS (some 0) 1 3 [(.int .i64 0)] [(0, (.c (.int .i64 27))), (1, (.c (.int .i64 28))), (2, (.c (.int .i64 29)))], none⟩,
 ⟨(some 5), .call none true 42 [(.t 3), (.t 4)], none⟩,
 ⟨(some 2), .mv (.t 5), none⟩])
 .ret))

def c_regletref10_Leads : CFunc :=
  ⟨1, true, 1, c_regletref10_Leads_1, [.t 2]⟩

def c_ins_Ends_1 : CCode :=
  (.seq (.region [
 ⟨(some 1), .box (some 0) (.t 0), none⟩,
 ⟨(some 2), .mv (.c (.bool false)), none⟩])
 (.seq (.region [
 ⟨(some 3), .fa 0 (.t 1), none⟩,
 ⟨(some 4), .ld false 1 (.t 3), none⟩,
 ⟨(some 5), .bin .eql (.t 4) (.c (.int .i64 27)), none⟩,
 ⟨(some 6), .mv (.t 5), none⟩,
 ⟨(some 7), .fa 0 (.t 1), (some (6, false))⟩,
 ⟨(some 8), .ld false 1 (.t 7), (some (6, false))⟩,
 ⟨(some 9), .bin .eql (.t 8) (.c (.int .i64 30)), (some (6, false))⟩,
 ⟨(some 10), .pick (.t 6) (.c (.bool true)) (.t 9), none⟩,
 ⟨(some 11), .mv (.t 10), none⟩,
 ⟨(some 12), .fa 0 (.t 1), (some (11, false))⟩,
 ⟨(some 13), .ld false 1 (.t 12), (some (11, false))⟩,
 ⟨(some 14), .bin .eql (.t 13) (.c (.int .i64 31)), (some (11, false))⟩,
 ⟨(some 15), .pick (.t 11) (.c (.bool true)) (.t 14), none⟩,
 ⟨(some 2), .mv (.t 15), none⟩])
 .ret))

def c_ins_Ends : CFunc :=
  ⟨1, true, 1, c_ins_Ends_1, [.t 2]⟩

def c_regletref10_Ends_1 : CCode :=
  (.seq (.region [
 ⟨(some 2), .mv (.c (.bool false)), none⟩])
 (.seq (.region [
 ⟨(some 3), .mv (.t 0), none⟩,
 ⟨(some 4), .buildS (some 0) 1 3 [(.int .i64 0)] [(0, (.c (.int .i64 27))), (1, (.c (.int .i64 30))), (2, (.c (.int .i64 31)))], none⟩,
 ⟨(some 5), .call none true 42 [(.t 3), (.t 4)], none⟩,
 ⟨(some 2), .mv (.t 5), none⟩])
 .ret))

def c_regletref10_Ends : CFunc :=
  ⟨1, true, 1, c_regletref10_Ends_1, [.t 2]⟩

def c_regletref10_Check_1 : CCode :=
  (.seq (.region [
 ⟨(some 2), .mv (.c (.int .i64 0)), none⟩])
 .ret)

def c_regletref10_Check_3 : CCode :=
  (.region [
 ⟨(some 154), .mv (.t 8), none⟩,
 ⟨(some 155), .bin .add (.t 154) (.c (.int .i64 1)), none⟩,
 ⟨(some 8), .mv (.t 155), none⟩])

def c_regletref10_Check_4 : CCode :=
  (.seq (.block 7 (.seq (.region [
 ⟨(some 156), .fa 4 (.t 1), none⟩,
 ⟨(some 157), .ld false 1 (.t 156), none⟩,
 ⟨(some 158), .mv (.t 8), none⟩,
 ⟨(some 159), .ixs 4 (.t 157) (.t 158), none⟩,
 ⟨(some 160), .ld true 4 (.t 159), none⟩,
 ⟨(some 9), .new (some 2) [(.int .i64 0), (.int .i64 0), (.int .i64 0), (.str [])], none⟩,
 ⟨none, .st 4 (.t 9) (.t 160), none⟩])
 (.seq (.region [
 ⟨(some 161), .fa 0 (.t 9), none⟩,
 ⟨(some 162), .ld false 1 (.t 161), none⟩,
 ⟨(some 163), .bin .lss (.t 162) (.c (.int .i64 0)), none⟩,
 ⟨(some 164), .mv (.t 163), none⟩,
 ⟨(some 165), .fa 0 (.t 9), (some (164, false))⟩,
 ⟨(some 166), .ld false 1 (.t 165), (some (164, false))⟩,
 ⟨(some 167), .fa 1 (.t 9), (some (164, false))⟩,
 ⟨(some 168), .ld false 1 (.t 167), (some (164, false))⟩,
 ⟨(some 169), .bin .geq (.t 166) (.t 168), (some (164, false))⟩,
 ⟨(some 170), .pick (.t 164) (.c (.bool true)) (.t 169), none⟩,
 ⟨(some 171), .mv (.t 170), none⟩,
 ⟨(some 172), .fa 1 (.t 9), (some (171, false))⟩,
 ⟨(some 173), .ld false 1 (.t 172), (some (171, false))⟩,
 ⟨(some 174), .mv (.t 3), (some (171, false))⟩,
 ⟨(some 175), .bin .gtr (.t 173) (.t 174), (some (171, false))⟩,
 ⟨(some 176), .pick (.t 171) (.c (.bool true)) (.t 175), none⟩,
 ⟨(some 177), .mv (.t 176), none⟩,
 ⟨(some 178), .ld true 5 (.t 1), (some (177, false))⟩,
 ⟨(some 179), .fa 2 (.t 9), (some (177, false))⟩,
 ⟨(some 180), .ld false 1 (.t 179), (some (177, false))⟩,
 ⟨(some 181), .call none true 49 [(.t 178), (.t 180)], (some (177, false))⟩,
 ⟨(some 182), .un .not (.t 181), (some (177, false))⟩,
 ⟨(some 183), .pick (.t 177) (.c (.bool true)) (.t 182), none⟩,
 ⟨(some 184), .mv (.t 183), none⟩,
 ⟨(some 185), .fa 3 (.t 1), (some (184, false))⟩,
 ⟨(some 186), .ld false 1 (.t 185), (some (184, false))⟩,
 ⟨(some 187), .fa 2 (.t 9), (some (184, false))⟩,
 ⟨(some 188), .ld false 1 (.t 187), (some (184, false))⟩,
 ⟨(some 189), .ixs 9 (.t 186) (.t 188), (some (184, false))⟩,
 ⟨(some 190), .fa 0 (.t 189), (some (184, false))⟩,
 ⟨(some 191), .ld false 1 (.t 190), (some (184, false))⟩,
 ⟨(some 192), .bin .neq (.t 191) (.c (.int .i64 32)), (some (184, false))⟩,
 ⟨(some 193), .pick (.t 184) (.c (.bool true)) (.t 192), none⟩])
 (.cond (.t 193)
 (.seq (.region [
  ⟨(some 2), .mv (.c (.int .i64 80)), none⟩])
  .ret)
 .skip))))
 c_regletref10_Check_3)

def c_regletref10_Check_5 : CCode :=
  (.seq (.seq (.region [
 ⟨(some 149), .mv (.t 8), none⟩,
 ⟨(some 150), .fa 4 (.t 1), none⟩,
 ⟨(some 151), .ld false 1 (.t 150), none⟩,
 ⟨(some 152), .len 1 (.t 151), none⟩,
 ⟨(some 153), .bin .lss (.t 149) (.t 152), none⟩])
 (.cond (.t 153)
 .skip
 (.exit 6)))
 c_regletref10_Check_4)

def c_regletref10_Check_L2 : CCode :=
  (.loop [1, 3, 8] c_regletref10_Check_5)

def c_regletref10_Check_6 : CCode :=
  (.block 6 c_regletref10_Check_L2)

def c_regletref10_Check_7 : CCode :=
  (.seq (.region [
 ⟨(some 8), .mv (.c (.int .i64 0)), none⟩])
 c_regletref10_Check_6)

def c_regletref10_Check_8 : CCode :=
  (.seq c_regletref10_Check_7
 c_regletref10_Check_1)

def c_regletref10_Check_10 : CCode :=
  (.region [
 ⟨(some 103), .mv (.t 6), none⟩,
 ⟨(some 104), .bin .add (.t 103) (.c (.int .i64 1)), none⟩,
 ⟨(some 6), .mv (.t 104), none⟩])

def c_regletref10_Check_11 : CCode :=
  (.seq (.block 5 (.seq (.region [
 ⟨(some 105), .fa 3 (.t 1), none⟩,
 ⟨(some 106), .ld false 1 (.t 105), none⟩,
 ⟨(some 107), .mv (.t 6), none⟩,
 ⟨(some 108), .ixs 9 (.t 106) (.t 107), none⟩,
 ⟨(some 109), .ld true 9 (.t 108), none⟩,
 ⟨(some 7), .new (some 1) [(.int .i64 0), (.int .i64 0), (.int .i64 0), (.int .i64 0), (.int .i64 0), (.int .i64 0), (.int .i64 0), (.str []), .nils], none⟩,
 ⟨none, .st 9 (.t 7) (.t 109), none⟩])
 (.seq (.region [
 ⟨(some 110), .ld true 5 (.t 1), none⟩,
 ⟨(some 111), .ld true 9 (.t 7), none⟩,
 ⟨(some 112), .call none true 64 [(.t 110), (.t 111)], none⟩,
 ⟨(some 113), .un .not (.t 112), none⟩,
 ⟨(some 114), .mv (.t 113), none⟩,
 ⟨(some 115), .fa 0 (.t 7), (some (114, false))⟩,
 ⟨(some 116), .ld false 1 (.t 115), (some (114, false))⟩,
 ⟨(some 117), .bin .eql (.t 116) (.c (.int .i64 32)), (some (114, false))⟩,
 ⟨(some 118), .mv (.t 117), (some (114, false))⟩,
 ⟨(some 119), .mv (.t 6), (some (118, true))⟩,
 ⟨(some 120), .bin .eql (.t 119) (.c (.int .i64 0)), (some (118, true))⟩,
 ⟨(some 121), .mv (.t 120), (some (118, true))⟩,
 ⟨(some 122), .fa 3 (.t 1), (some (121, false))⟩,
 ⟨(some 123), .ld false 1 (.t 122), (some (121, false))⟩,
 ⟨(some 124), .mv (.t 6), (some (121, false))⟩,
 ⟨(some 125), .bin .sub (.t 124) (.c (.int .i64 1)), (some (121, false))⟩,
 ⟨(some 126), .ixs 9 (.t 123) (.t 125), (some (121, false))⟩,
 ⟨(some 127), .fa 0 (.t 126), (some (121, false))⟩,
 ⟨(some 128), .ld false 1 (.t 127), (some (121, false))⟩,
 ⟨(some 129), .call none true 25 [(.t 128)], (some (121, false))⟩,
 ⟨(some 130), .un .not (.t 129), (some (121, false))⟩,
 ⟨(some 131), .pick (.t 121) (.c (.bool true)) (.t 130), (some (118, true))⟩,
 ⟨(some 132), .pick (.t 118) (.t 131) (.c (.bool false)), (some (114, false))⟩,
 ⟨(some 133), .pick (.t 114) (.c (.bool true)) (.t 132), none⟩,
 ⟨(some 134), .mv (.t 133), none⟩,
 ⟨(some 135), .fa 0 (.t 7), (some (134, false))⟩,
 ⟨(some 136), .ld false 1 (.t 135), (some (134, false))⟩,
 ⟨(some 137), .call none true 23 [(.t 136)], (some (134, false))⟩,
 ⟨(some 138), .mv (.t 137), (some (134, false))⟩,
 ⟨(some 139), .fa 3 (.t 1), (some (138, true))⟩,
 ⟨(some 140), .ld false 1 (.t 139), (some (138, true))⟩,
 ⟨(some 141), .fa 6 (.t 7), (some (138, true))⟩,
 ⟨(some 142), .ld false 1 (.t 141), (some (138, true))⟩,
 ⟨(some 143), .ixs 9 (.t 140) (.t 142), (some (138, true))⟩,
 ⟨(some 144), .fa 0 (.t 143), (some (138, true))⟩,
 ⟨(some 145), .ld false 1 (.t 144), (some (138, true))⟩,
 ⟨(some 146), .bin .eql (.t 145) (.c (.int .i64 32)), (some (138, true))⟩,
 ⟨(some 147), .pick (.t 138) (.t 146) (.c (.bool false)), (some (134, false))⟩,
 ⟨(some 148), .pick (.t 134) (.c (.bool true)) (.t 147), none⟩])
 (.cond (.t 148)
 (.seq (.region [
  ⟨(some 2), .mv (.c (.int .i64 80)), none⟩])
  .ret)
 .skip))))
 c_regletref10_Check_10)

def c_regletref10_Check_12 : CCode :=
  (.seq (.seq (.region [
 ⟨(some 100), .mv (.t 6), none⟩,
 ⟨(some 101), .mv (.t 3), none⟩,
 ⟨(some 102), .bin .lss (.t 100) (.t 101), none⟩])
 (.cond (.t 102)
 .skip
 (.exit 4)))
 c_regletref10_Check_11)

def c_regletref10_Check_L9 : CCode :=
  (.loop [1, 3, 6] c_regletref10_Check_12)

def c_regletref10_Check_13 : CCode :=
  (.block 4 c_regletref10_Check_L9)

def c_regletref10_Check_14 : CCode :=
  (.seq (.region [
 ⟨(some 6), .mv (.c (.int .i64 0)), none⟩])
 c_regletref10_Check_13)

def c_regletref10_Check_15 : CCode :=
  (.seq c_regletref10_Check_14
 c_regletref10_Check_8)

def c_regletref10_Check_17 : CCode :=
  (.region [
 ⟨(some 78), .mv (.t 5), none⟩,
 ⟨(some 79), .bin .add (.t 78) (.c (.int .i64 1)), none⟩,
 ⟨(some 5), .mv (.t 79), none⟩])

def c_regletref10_Check_18 : CCode :=
  (.seq (.block 3 (.seq (.draw [
 ⟨(some 80), .ld true 5 (.t 1), none⟩,
 ⟨(some 81), .fa 1 (.t 1), none⟩,
 ⟨(some 82), .ld false 1 (.t 81), none⟩,
 ⟨(some 83), .mv (.t 5), none⟩,
 ⟨(some 84), .ixs 1 (.t 82) (.t 83), none⟩,
 ⟨(some 85), .ld false 1 (.t 84), none⟩,
 ⟨(some 86), .call none true 48 [(.t 80), (.t 85)], none⟩,
 ⟨(some 87), .bin .eql (.t 86) (.c (.int .i64 0)), none⟩,
 ⟨(some 88), .mv (.t 87), none⟩,
 ⟨(some 89), .fa 1 (.t 1), (some (88, false))⟩,
 ⟨(some 90), .ld false 1 (.t 89), (some (88, false))⟩,
 ⟨(some 91), .mv (.t 5), (some (88, false))⟩,
 ⟨(some 92), .ixs 1 (.t 90) (.t 91), (some (88, false))⟩,
 ⟨(some 93), .ld false 1 (.t 92), (some (88, false))⟩,
 ⟨(some 94), .fa 1 (.t 1), (some (88, false))⟩,
 ⟨(some 95), .ld false 1 (.t 94), (some (88, false))⟩,
 ⟨(some 96), .mv (.t 5), (some (88, false))⟩,
 ⟨(some 97), .slc 1 (.t 95) none (some (.t 96)), (some (88, false))⟩,
 ⟨(some 98), .call none true 42 [(.t 93), (.t 97)], (some (88, false))⟩,
 ⟨(some 99), .pick (.t 88) (.c (.bool true)) (.t 98), none⟩] [])
 (.cond (.t 99)
 (.seq (.region [
  ⟨(some 2), .mv (.c (.int .i64 80)), none⟩])
  .ret)
 .skip)))
 c_regletref10_Check_17)

def c_regletref10_Check_19 : CCode :=
  (.seq (.seq (.region [
 ⟨(some 73), .mv (.t 5), none⟩,
 ⟨(some 74), .fa 1 (.t 1), none⟩,
 ⟨(some 75), .ld false 1 (.t 74), none⟩,
 ⟨(some 76), .len 1 (.t 75), none⟩,
 ⟨(some 77), .bin .lss (.t 73) (.t 76), none⟩])
 (.cond (.t 77)
 .skip
 (.exit 2)))
 c_regletref10_Check_18)

def c_regletref10_Check_L16 : CCode :=
  (.loop [1, 3, 5] c_regletref10_Check_19)

def c_regletref10_Check_20 : CCode :=
  (.block 2 c_regletref10_Check_L16)

def c_regletref10_Check_21 : CCode :=
  (.seq (.region [
 ⟨(some 5), .mv (.c (.int .i64 0)), none⟩])
 c_regletref10_Check_20)

def c_regletref10_Check_22 : CCode :=
  (.seq c_regletref10_Check_21
 c_regletref10_Check_15)

def c_regletref10_Check_24 : CCode :=
  (.region [
 ⟨(some 57), .mv (.t 4), none⟩,
 ⟨(some 58), .bin .add (.t 57) (.c (.int .i64 1)), none⟩,
 ⟨(some 4), .mv (.t 58), none⟩])

def c_regletref10_Check_25 : CCode :=
  (.seq (.block 1 (.seq (.region [
 ⟨(some 59), .fa 0 (.t 1), none⟩,
 ⟨(some 60), .ld false 1 (.t 59), none⟩,
 ⟨(some 61), .mv (.t 4), none⟩,
 ⟨(some 62), .ixs 1 (.t 60) (.t 61), none⟩,
 ⟨(some 63), .ld false 1 (.t 62), none⟩,
 ⟨(some 64), .bin .lss (.t 63) (.c (.int .i64 1)), none⟩,
 ⟨(some 65), .mv (.t 64), none⟩,
 ⟨(some 66), .fa 0 (.t 1), (some (65, false))⟩,
 ⟨(some 67), .ld false 1 (.t 66), (some (65, false))⟩,
 ⟨(some 68), .mv (.t 4), (some (65, false))⟩,
 ⟨(some 69), .ixs 1 (.t 67) (.t 68), (some (65, false))⟩,
 ⟨(some 70), .ld false 1 (.t 69), (some (65, false))⟩,
 ⟨(some 71), .bin .gtr (.t 70) (.c (.int .i64 3)), (some (65, false))⟩,
 ⟨(some 72), .pick (.t 65) (.c (.bool true)) (.t 71), none⟩])
 (.cond (.t 72)
 (.seq (.region [
  ⟨(some 2), .mv (.c (.int .i64 80)), none⟩])
  .ret)
 .skip)))
 c_regletref10_Check_24)

def c_regletref10_Check_26 : CCode :=
  (.seq (.seq (.region [
 ⟨(some 52), .mv (.t 4), none⟩,
 ⟨(some 53), .fa 0 (.t 1), none⟩,
 ⟨(some 54), .ld false 1 (.t 53), none⟩,
 ⟨(some 55), .len 1 (.t 54), none⟩,
 ⟨(some 56), .bin .lss (.t 52) (.t 55), none⟩])
 (.cond (.t 56)
 .skip
 (.exit 0)))
 c_regletref10_Check_25)

def c_regletref10_Check_L23 : CCode :=
  (.loop [1, 3, 4] c_regletref10_Check_26)

def c_regletref10_Check_27 : CCode :=
  (.block 0 c_regletref10_Check_L23)

def c_regletref10_Check_28 : CCode :=
  (.seq (.region [
 ⟨(some 4), .mv (.c (.int .i64 0)), none⟩])
 c_regletref10_Check_27)

def c_regletref10_Check_29 : CCode :=
  (.seq c_regletref10_Check_28
 c_regletref10_Check_22)

def c_regletref10_Check_30 : CCode :=
  (.seq (.seq (.region [
 ⟨(some 13), .mv (.t 3), none⟩,
 ⟨(some 14), .bin .eql (.t 13) (.c (.int .i64 0)), none⟩,
 ⟨(some 15), .mv (.t 14), none⟩,
 ⟨(some 16), .mv (.t 3), (some (15, false))⟩,
 ⟨(some 17), .bin .gtr (.t 16) (.c (.int .i64 20000)), (some (15, false))⟩,
 ⟨(some 18), .pick (.t 15) (.c (.bool true)) (.t 17), none⟩,
 ⟨(some 19), .mv (.t 18), none⟩,
 ⟨(some 20), .fa 0 (.t 1), (some (19, false))⟩,
 ⟨(some 21), .ld false 1 (.t 20), (some (19, false))⟩,
 ⟨(some 22), .len 1 (.t 21), (some (19, false))⟩,
 ⟨(some 23), .bin .gtr (.t 22) (.c (.int .i64 20000)), (some (19, false))⟩,
 ⟨(some 24), .pick (.t 19) (.c (.bool true)) (.t 23), none⟩,
 ⟨(some 25), .mv (.t 24), none⟩,
 ⟨(some 26), .fa 1 (.t 1), (some (25, false))⟩,
 ⟨(some 27), .ld false 1 (.t 26), (some (25, false))⟩,
 ⟨(some 28), .len 1 (.t 27), (some (25, false))⟩,
 ⟨(some 29), .bin .gtr (.t 28) (.c (.int .i64 21)), (some (25, false))⟩,
 ⟨(some 30), .pick (.t 25) (.c (.bool true)) (.t 29), none⟩,
 ⟨(some 31), .mv (.t 30), none⟩,
 ⟨(some 32), .fa 2 (.t 1), (some (31, false))⟩,
 ⟨(some 33), .ld false 1 (.t 32), (some (31, false))⟩,
 ⟨(some 34), .bin .lss (.t 33) (.c (.int .i64 0)), (some (31, false))⟩,
 ⟨(some 35), .pick (.t 31) (.c (.bool true)) (.t 34), none⟩,
 ⟨(some 36), .mv (.t 35), none⟩,
 ⟨(some 37), .fa 2 (.t 1), (some (36, false))⟩,
 ⟨(some 38), .ld false 1 (.t 37), (some (36, false))⟩,
 ⟨(some 39), .bin .gtr (.t 38) (.c (.int .i64 3)), (some (36, false))⟩,
 ⟨(some 40), .pick (.t 36) (.c (.bool true)) (.t 39), none⟩,
 ⟨(some 41), .mv (.t 40), none⟩,
 ⟨(some 42), .fa 3 (.t 1), (some (41, false))⟩,
 ⟨(some 43), .ld false 1 (.t 42), (some (41, false))⟩,
 ⟨(some 44), .mv (.t 3), (some (41, false))⟩,
 ⟨(some 45), .bin .sub (.t 44) (.c (.int .i64 1)), (some (41, false))⟩,
 ⟨(some 46), .ixs 9 (.t 43) (.t 45), (some (41, false))⟩,
 ⟨(some 47), .fa 0 (.t 46), (some (41, false))⟩,
 ⟨(some 48), .ld false 1 (.t 47), (some (41, false))⟩,
 ⟨(some 49), .call none true 25 [(.t 48)], (some (41, false))⟩,
 ⟨(some 50), .un .not (.t 49), (some (41, false))⟩,
 ⟨(some 51), .pick (.t 41) (.c (.bool true)) (.t 50), none⟩])
 (.cond (.t 51)
 (.seq (.region [
  ⟨(some 2), .mv (.c (.int .i64 80)), none⟩])
  .ret)
 .skip))
 c_regletref10_Check_29)

def c_regletref10_Check_31 : CCode :=
  (.seq (.region [
 ⟨(some 10), .fa 3 (.t 1), none⟩,
 ⟨(some 11), .ld false 1 (.t 10), none⟩,
 ⟨(some 12), .len 1 (.t 11), none⟩,
 ⟨(some 3), .mv (.t 12), none⟩])
 c_regletref10_Check_30)

def c_regletref10_Check_32 : CCode :=
  (.seq (.region [
 ⟨(some 1), .box (some 0) (.t 0), none⟩,
 ⟨(some 2), .mv (.c (.int .i64 0)), none⟩])
 c_regletref10_Check_31)

def c_regletref10_Check : CFunc :=
  ⟨1, true, 3, c_regletref10_Check_32, [.t 2]⟩

def c_desc_Name_1 : CCode :=
  (.seq (.region [
 ⟨(some 4), .mv (.c (.bool true)), none⟩])
 .ret)

def c_desc_Name_3 : CCode :=
  (.region [
 ⟨(some 71), .bin .add (.t 19) (.c (.int .i64 1)), none⟩,
 ⟨(some 19), .mv (.t 71), none⟩])

def c_desc_Name_4 : CCode :=
  (.seq (.block 1 (.seq (.region [
 ⟨(some 21), .ixs 1 (.t 17) (.t 19), none⟩,
 ⟨(some 22), .ld false 1 (.t 21), none⟩,
 ⟨(some 6), .mv (.t 22), none⟩])
 (.seq (.region [
 ⟨(some 23), .mv (.t 6), none⟩,
 ⟨(some 24), .bin .geq (.t 23) (.c (.int .u8 97)), none⟩,
 ⟨(some 25), .mv (.t 24), none⟩,
 ⟨(some 26), .mv (.t 6), (some (25, true))⟩,
 ⟨(some 27), .bin .leq (.t 26) (.c (.int .u8 122)), (some (25, true))⟩,
 ⟨(some 28), .pick (.t 25) (.t 27) (.c (.bool false)), none⟩,
 ⟨(some 29), .mv (.t 28), none⟩,
 ⟨(some 30), .mv (.t 6), (some (29, false))⟩,
 ⟨(some 31), .bin .geq (.t 30) (.c (.int .u8 65)), (some (29, false))⟩,
 ⟨(some 32), .mv (.t 31), (some (29, false))⟩,
 ⟨(some 33), .mv (.t 6), (some (32, true))⟩,
 ⟨(some 34), .bin .leq (.t 33) (.c (.int .u8 90)), (some (32, true))⟩,
 ⟨(some 35), .pick (.t 32) (.t 34) (.c (.bool false)), (some (29, false))⟩,
 ⟨(some 36), .pick (.t 29) (.c (.bool true)) (.t 35), none⟩,
 ⟨(some 37), .mv (.t 36), none⟩,
 ⟨(some 38), .mv (.t 6), (some (37, false))⟩,
 ⟨(some 39), .bin .geq (.t 38) (.c (.int .u8 48)), (some (37, false))⟩,
 ⟨(some 40), .mv (.t 39), (some (37, false))⟩,
 ⟨(some 41), .mv (.t 6), (some (40, true))⟩,
 ⟨(some 42), .bin .leq (.t 41) (.c (.int .u8 57)), (some (40, true))⟩,
 ⟨(some 43), .pick (.t 40) (.t 42) (.c (.bool false)), (some (37, false))⟩,
 ⟨(some 44), .pick (.t 37) (.c (.bool true)) (.t 43), none⟩,
 ⟨(some 45), .mv (.t 44), none⟩,
 ⟨(some 46), .mv (.t 6), (some (45, false))⟩,
 ⟨(some 47), .bin .eql (.t 46) (.c (.int .u8 95)), (some (45, false))⟩,
 ⟨(some 48), .pick (.t 45) (.c (.bool true)) (.t 47), none⟩,
 ⟨(some 49), .mv (.t 48), none⟩,
 ⟨(some 50), .mv (.t 6), (some (49, false))⟩,
 ⟨(some 51), .bin .eql (.t 50) (.c (.int .u8 36)), (some (49, false))⟩,
 ⟨(some 52), .pick (.t 49) (.c (.bool true)) (.t 51), none⟩,
 ⟨(some 53), .mv (.t 52), none⟩,
 ⟨(some 54), .mv (.t 6), (some (53, false))⟩,
 ⟨(some 55), .bin .eql (.t 54) (.c (.int .u8 47)), (some (53, false))⟩,
 ⟨(some 56), .pick (.t 53) (.c (.bool true)) (.t 55), none⟩,
 ⟨(some 7), .mv (.t 56), none⟩])
 (.seq (.region [
 ⟨(some 57), .mv (.t 7), none⟩,
 ⟨(some 58), .un .not (.t 57), none⟩,
 ⟨(some 59), .mv (.t 58), none⟩,
 ⟨(some 60), .mv (.t 1), (some (59, true))⟩,
 ⟨(some 61), .mv (.t 60), (some (59, true))⟩,
 ⟨(some 62), .mv (.t 6), (some (61, true))⟩,
 ⟨(some 63), .bin .eql (.t 62) (.c (.int .u8 60)), (some (61, true))⟩,
 ⟨(some 64), .mv (.t 63), (some (61, true))⟩,
 ⟨(some 65), .mv (.t 6), (some (64, false))⟩,
 ⟨(some 66), .bin .eql (.t 65) (.c (.int .u8 62)), (some (64, false))⟩,
 ⟨(some 67), .pick (.t 64) (.c (.bool true)) (.t 66), (some (61, true))⟩,
 ⟨(some 68), .pick (.t 61) (.t 67) (.c (.bool false)), (some (59, true))⟩,
 ⟨(some 69), .un .not (.t 68), (some (59, true))⟩,
 ⟨(some 70), .pick (.t 59) (.t 69) (.c (.bool false)), none⟩])
 (.cond (.t 70)
 (.seq (.region [
  ⟨(some 4), .mv (.c (.bool false)), none⟩])
  .ret)
 .skip)))))
 c_desc_Name_3)

def c_desc_Name_5 : CCode :=
  (.seq (.cond (.t 20)
 .skip
 (.exit 0))
 c_desc_Name_4)

def c_desc_Name_6 : CCode :=
  (.seq (.region [
 ⟨(some 20), .bin .lss (.t 19) (.t 18), none⟩])
 c_desc_Name_5)

def c_desc_Name_L2 : CCode :=
  (.loop [1, 17, 18, 19] c_desc_Name_6)

def c_desc_Name_7 : CCode :=
  (.block 0 c_desc_Name_L2)

def c_desc_Name_8 : CCode :=
  (.seq (.region [
 ⟨(some 16), .mv (.t 0), none⟩,
 ⟨(some 17), .s2b (some 0) (.t 16), none⟩,
 ⟨(some 18), .len 1 (.t 17), none⟩,
 ⟨(some 19), .mv (.c (.int .i64 0)), none⟩])
 c_desc_Name_7)

def c_desc_Name_9 : CCode :=
  (.seq c_desc_Name_8
 c_desc_Name_1)

def c_desc_Name_10 : CCode :=
  (.seq (.seq (.region [
 ⟨(some 8), .mv (.t 0), none⟩,
 ⟨(some 9), .len 0 (.t 8), none⟩,
 ⟨(some 10), .bin .lss (.t 9) (.c (.int .i64 1)), none⟩,
 ⟨(some 11), .mv (.t 10), none⟩,
 ⟨(some 12), .mv (.t 0), (some (11, false))⟩,
 ⟨(some 13), .len 0 (.t 12), (some (11, false))⟩,
 ⟨(some 14), .bin .gtr (.t 13) (.c (.int .i64 60)), (some (11, false))⟩,
 ⟨(some 15), .pick (.t 11) (.c (.bool true)) (.t 14), none⟩])
 (.cond (.t 15)
 (.seq (.region [
  ⟨(some 4), .mv (.c (.bool false)), none⟩])
  .ret)
 .skip))
 c_desc_Name_9)

def c_desc_Name_11 : CCode :=
  (.seq (.region [
 ⟨(some 4), .mv (.c (.bool false)), none⟩])
 c_desc_Name_10)

def c_desc_Name : CFunc :=
  ⟨2, true, 1, c_desc_Name_11, [.t 4]⟩

def c_desc_Type_1 : CCode :=
  (.seq (.region [
 ⟨(some 2), .mv (.c (.bool false)), none⟩])
 (.seq (.region [
 ⟨(some 3), .mv (.t 0), none⟩,
 ⟨(some 4), .bin .neq (.t 3) (.c (.str [])), none⟩,
 ⟨(some 5), .mv (.t 4), none⟩,
 ⟨(some 6), .mv (.t 0), (some (5, true))⟩,
 ⟨(some 7), .call none true 44 [(.t 6)], (some (5, true))⟩,
 ⟨(some 8), .mv (.t 0), (some (5, true))⟩,
 ⟨(some 9), .len 0 (.t 8), (some (5, true))⟩,
 ⟨(some 10), .bin .eql (.t 7) (.t 9), (some (5, true))⟩,
 ⟨(some 11), .pick (.t 5) (.t 10) (.c (.bool false)), none⟩,
 ⟨(some 2), .mv (.t 11), none⟩])
 .ret))

def c_desc_Type : CFunc :=
  ⟨1, true, 0, c_desc_Type_1, [.t 2]⟩

def c_regletref10_row_1 : CCode :=
  (.seq (.region [
 ⟨(some 13), .mv (.t 3), none⟩,
 ⟨(some 14), .mv (.t 0), none⟩,
 ⟨(some 15), .ixs 1 (.t 13) (.t 14), none⟩,
 ⟨(some 16), .ld false 1 (.t 15), none⟩,
 ⟨(some 2), .mv (.t 16), none⟩])
 .ret)

def c_regletref10_row_2 : CCode :=
  (.seq (.seq (.region [
 ⟨(some 5), .mv (.t 0), none⟩,
 ⟨(some 6), .bin .lss (.t 5) (.c (.int .i64 1)), none⟩,
 ⟨(some 7), .mv (.t 6), none⟩,
 ⟨(some 8), .mv (.t 0), (some (7, false))⟩,
 ⟨(some 9), .mv (.t 3), (some (7, false))⟩,
 ⟨(some 10), .len 1 (.t 9), (some (7, false))⟩,
 ⟨(some 11), .bin .geq (.t 8) (.t 10), (some (7, false))⟩,
 ⟨(some 12), .pick (.t 7) (.c (.bool true)) (.t 11), none⟩])
 (.cond (.t 12)
 (.seq (.region [
  ⟨(some 2), .mv (.c (.str [])), none⟩])
  .ret)
 .skip))
 c_regletref10_row_1)

def c_regletref10_row_3 : CCode :=
  (.seq (.region [
 ⟨(some 4), .buildS (some 0) 1 34 [(.str [])] [(0, (.c (.str []))), (1, (.c (.str [110, 45, 45, 45]))), (2, (.c (.str [51, 45, 45, 45]))), (3, (.c (.str [51, 45, 45, 45]))), (4, (.c (.str [42, 61, 45, 45]))), (5, (.c (.str [63, 63, 63, 63]))), (6, (.c (.str [63, 63, 63, 63]))), (7, (.c (.str [45, 110, 45, 45]))), (8, (.c (.str [45, 51, 45, 45]))), (9, (.c (.str [45, 51, 49, 45]))), (10, (.c (.str [45, 49, 45, 45]))), (11, (.c (.str [45, 51, 51, 45]))), (12, (.c (.str [45, 51, 45, 45]))), (13, (.c (.str [42, 51, 49, 45]))), (14, (.c (.str [45, 51, 49, 42]))), (15, (.c (.str [49, 51, 45, 45]))), (16, (.c (.str [42, 51, 45, 45]))), (17, (.c (.str [45, 51, 42, 45]))), (18, (.c (.str [42, 45, 45, 45]))), (19, (.c (.str [45, 42, 45, 45]))), (20, (.c (.str [51, 45, 45, 45]))), (21, (.c (.str [51, 49, 45, 45]))), (22, (.c (.str [49, 51, 45, 45]))), (23, (.c (.str [63, 63, 63, 63]))), (24, (.c (.str [63, 63, 63, 63]))), (25, (.c (.str [63, 63, 63, 63]))), (26, (.c (.str [63, 63, 63, 63]))), (27, (.c (.str [45, 45, 45, 45]))), (28, (.c (.str [45, 49, 49, 45]))), (29, (.c (.str [45, 51, 63, 45]))), (30, (.c (.str [45, 63, 45, 45]))), (31, (.c (.str [45, 51, 45, 45]))), (32, (.c (.str [51, 45, 45, 45]))), (33, (.c (.str [45, 45, 45, 45])))], none⟩,
 ⟨(some 3), .mv (.t 4), none⟩])
 c_regletref10_row_2)

def c_regletref10_row_4 : CCode :=
  (.seq (.region [
 ⟨(some 2), .mv (.c (.str [])), none⟩])
 c_regletref10_row_3)

def c_regletref10_row : CFunc :=
  ⟨1, true, 1, c_regletref10_row_4, [.t 2]⟩

def c_slices_Contains_int_int_1 : CCode :=
  (.seq (.region [
 ⟨(some 4), .mv (.c (.bool false)), none⟩])
 (.seq (.region [
 ⟨(some 5), .mv (.t 0), none⟩,
 ⟨(some 6), .mv (.t 1), none⟩,
 ⟨(some 7), .call none true 45 [(.t 5), (.t 6)], none⟩,
 ⟨(some 8), .bin .geq (.t 7) (.c (.int .i64 0)), none⟩,
 ⟨(some 4), .mv (.t 8), none⟩])
 .ret))

def c_slices_Contains_int_int : CFunc :=
  ⟨2, true, 0, c_slices_Contains_int_int_1, [.t 4]⟩

def c_ins_right_1 : CCode :=
  (.seq (.region [
 ⟨(some 183), .ld true 9 (.t 3), none⟩,
 ⟨(some 184), .call none true 22 [(.t 183)], none⟩,
 ⟨(some 185), .un .not (.t 184), none⟩,
 ⟨(some 186), .mv (.t 185), none⟩,
 ⟨(some 187), .fa 6 (.t 3), (some (186, false))⟩,
 ⟨(some 188), .ld false 1 (.t 187), (some (186, false))⟩,
 ⟨(some 189), .bin .geq (.t 188) (.c (.int .i64 0)), (some (186, false))⟩,
 ⟨(some 190), .mv (.t 189), (some (186, false))⟩,
 ⟨(some 191), .fa 6 (.t 3), (some (190, true))⟩,
 ⟨(some 192), .ld false 1 (.t 191), (some (190, true))⟩,
 ⟨(some 193), .fa 3 (.t 2), (some (190, true))⟩,
 ⟨(some 194), .ld false 1 (.t 193), (some (190, true))⟩,
 ⟨(some 195), .len 1 (.t 194), (some (190, true))⟩,
 ⟨(some 196), .bin .lss (.t 192) (.t 195), (some (190, true))⟩,
 ⟨(some 197), .pick (.t 190) (.t 196) (.c (.bool false)), (some (186, false))⟩,
 ⟨(some 198), .pick (.t 186) (.c (.bool true)) (.t 197), none⟩,
 ⟨(some 4), .mv (.t 198), none⟩])
 .ret)

def c_ins_right_2 : CCode :=
  (.seq (.seq (.region [
 ⟨(some 105), .fa 0 (.t 3), none⟩,
 ⟨(some 106), .ld false 1 (.t 105), none⟩])
 (.block 4 (.seq (.region [
 ⟨(some 108), .bin .eql (.t 106) (.c (.int .i64 1)), none⟩,
 ⟨(some 107), .mv (.t 108), none⟩])
 (.cond (.t 107)
 (.seq (.region [
  ⟨(some 109), .fa 0 (.t 2), none⟩,
  ⟨(some 110), .ld false 1 (.t 109), none⟩,
  ⟨(some 111), .fa 1 (.t 3), none⟩,
  ⟨(some 112), .ld false 1 (.t 111), none⟩,
  ⟨(some 113), .ixs 1 (.t 110) (.t 112), none⟩,
  ⟨(some 114), .ld false 1 (.t 113), none⟩,
  ⟨(some 115), .bin .neq (.t 114) (.c (.int .i64 3)), none⟩,
  ⟨(some 116), .mv (.t 115), none⟩,
  ⟨(some 117), .fa 0 (.t 2), (some (116, true))⟩,
  ⟨(some 118), .ld false 1 (.t 117), (some (116, true))⟩,
  ⟨(some 119), .fa 1 (.t 3), (some (116, true))⟩,
  ⟨(some 120), .ld false 1 (.t 119), (some (116, true))⟩,
  ⟨(some 121), .ixs 1 (.t 118) (.t 120), (some (116, true))⟩,
  ⟨(some 122), .ld false 1 (.t 121), (some (116, true))⟩,
  ⟨(some 123), .bin .eql (.t 122) (.c (.int .i64 2)), (some (116, true))⟩,
  ⟨(some 124), .mv (.t 123), (some (116, true))⟩,
  ⟨(some 125), .fa 5 (.t 3), (some (124, false))⟩,
  ⟨(some 126), .ld false 1 (.t 125), (some (124, false))⟩,
  ⟨(some 127), .fa 5 (.t 3), (some (124, false))⟩,
  ⟨(some 128), .ld false 1 (.t 127), (some (124, false))⟩,
  ⟨(some 129), .cvi .i32 (.t 128), (some (124, false))⟩,
  ⟨(some 130), .cvi .i64 (.t 129), (some (124, false))⟩,
  ⟨(some 131), .bin .eql (.t 126) (.t 130), (some (124, false))⟩,
  ⟨(some 132), .pick (.t 124) (.c (.bool true)) (.t 131), (some (116, true))⟩,
  ⟨(some 133), .pick (.t 116) (.t 132) (.c (.bool false)), none⟩,
  ⟨(some 4), .mv (.t 133), none⟩])
  .ret)
 (.seq (.region [
  ⟨(some 135), .bin .eql (.t 106) (.c (.int .i64 4)), none⟩,
  ⟨(some 134), .mv (.t 135), none⟩])
  (.cond (.t 134)
  (.seq (.draw [
   ⟨(some 136), .fa 0 (.t 2), none⟩,
   ⟨(some 137), .ld false 1 (.t 136), none⟩,
   ⟨(some 138), .fa 1 (.t 3), none⟩,
   ⟨(some 139), .ld false 1 (.t 138), none⟩,
   ⟨(some 140), .ixs 1 (.t 137) (.t 139), none⟩,
   ⟨(some 141), .ld false 1 (.t 140), none⟩,
   ⟨(some 142), .fa 0 (.t 2), none⟩,
   ⟨(some 143), .ld false 1 (.t 142), none⟩,
   ⟨(some 144), .fa 2 (.t 3), none⟩,
   ⟨(some 145), .ld false 1 (.t 144), none⟩,
   ⟨(some 146), .ixs 1 (.t 143) (.t 145), none⟩,
   ⟨(some 147), .ld false 1 (.t 146), none⟩,
   ⟨(some 148), .bin .eql (.t 141) (.t 147), none⟩,
   ⟨(some 4), .mv (.t 148), none⟩] [])
   .ret)
  (.seq (.region [
   ⟨(some 150), .bin .eql (.t 106) (.c (.int .i64 7)), none⟩,
   ⟨(some 149), .mv (.t 150), none⟩])
   (.cond (.t 149)
   (.seq (.region [
    ⟨(some 151), .fa 0 (.t 2), none⟩,
    ⟨(some 152), .ld false 1 (.t 151), none⟩,
    ⟨(some 153), .fa 2 (.t 3), none⟩,
    ⟨(some 154), .ld false 1 (.t 153), none⟩,
    ⟨(some 155), .ixs 1 (.t 152) (.t 154), none⟩,
    ⟨(some 156), .ld false 1 (.t 155), none⟩,
    ⟨(some 157), .bin .neq (.t 156) (.c (.int .i64 3)), none⟩,
    ⟨(some 4), .mv (.t 157), none⟩])
    .ret)
   (.seq (.region [
    ⟨(some 159), .bin .eql (.t 106) (.c (.int .i64 30)), none⟩,
    ⟨(some 158), .mv (.t 159), none⟩])
    (.cond (.t 158)
    (.seq (.draw [
     ⟨(some 160), .fa 2 (.t 3), none⟩,
     ⟨(some 161), .ld false 1 (.t 160), none⟩,
     ⟨(some 162), .bin .eql (.t 161) (.c (.int .i64 (-1))), none⟩,
     ⟨(some 163), .fa 2 (.t 2), none⟩,
     ⟨(some 164), .ld false 1 (.t 163), none⟩,
     ⟨(some 165), .bin .eql (.t 164) (.c (.int .i64 0)), none⟩,
     ⟨(some 166), .eqb false (.t 162) (.t 165), none⟩,
     ⟨(some 167), .mv (.t 166), none⟩,
     ⟨(some 168), .fa 2 (.t 3), (some (167, true))⟩,
     ⟨(some 169), .ld false 1 (.t 168), (some (167, true))⟩,
     ⟨(some 170), .bin .eql (.t 169) (.c (.int .i64 (-1))), (some (167, true))⟩,
     ⟨(some 171), .mv (.t 170), (some (167, true))⟩,
     ⟨(some 172), .fa 0 (.t 2), (some (171, false))⟩,
     ⟨(some 173), .ld false 1 (.t 172), (some (171, false))⟩,
     ⟨(some 174), .fa 2 (.t 3), (some (171, false))⟩,
     ⟨(some 175), .ld false 1 (.t 174), (some (171, false))⟩,
     ⟨(some 176), .ixs 1 (.t 173) (.t 175), (some (171, false))⟩,
     ⟨(some 177), .ld false 1 (.t 176), (some (171, false))⟩,
     ⟨(some 178), .fa 2 (.t 2), (some (171, false))⟩,
     ⟨(some 179), .ld false 1 (.t 178), (some (171, false))⟩,
     ⟨(some 180), .bin .eql (.t 177) (.t 179), (some (171, false))⟩,
     ⟨(some 181), .pick (.t 171) (.c (.bool true)) (.t 180), (some (167, true))⟩,
     ⟨(some 182), .pick (.t 167) (.t 181) (.c (.bool false)), none⟩,
     ⟨(some 4), .mv (.t 182), none⟩] [])
     .ret)
    .skip))))))))))
 c_ins_right_1)

def c_ins_right_4 : CCode :=
  (.region [
 ⟨(some 104), .bin .add (.t 65) (.c (.int .i64 1)), none⟩,
 ⟨(some 65), .mv (.t 104), none⟩])

def c_ins_right_5 : CCode :=
  (.seq (.region [
 ⟨(some 73), .mv (.t 10), none⟩,
 ⟨(some 74), .bin .lss (.t 73) (.c (.int .i64 0)), none⟩,
 ⟨(some 75), .mv (.t 74), none⟩,
 ⟨(some 76), .mv (.t 10), (some (75, false))⟩,
 ⟨(some 77), .fa 0 (.t 2), (some (75, false))⟩,
 ⟨(some 78), .ld false 1 (.t 77), (some (75, false))⟩,
 ⟨(some 79), .len 1 (.t 78), (some (75, false))⟩,
 ⟨(some 80), .bin .geq (.t 76) (.t 79), (some (75, false))⟩,
 ⟨(some 81), .pick (.t 75) (.c (.bool true)) (.t 80), none⟩,
 ⟨(some 82), .mv (.t 81), none⟩,
 ⟨(some 83), .mv (.t 9), (some (82, false))⟩,
 ⟨(some 84), .bin .eql (.t 83) (.c (.int .i64 0)), (some (82, false))⟩,
 ⟨(some 85), .mv (.t 84), (some (82, false))⟩,
 ⟨(some 86), .fa 0 (.t 3), (some (85, true))⟩,
 ⟨(some 87), .ld false 1 (.t 86), (some (85, true))⟩,
 ⟨(some 88), .bin .eql (.t 87) (.c (.int .i64 24)), (some (85, true))⟩,
 ⟨(some 89), .mv (.t 88), (some (85, true))⟩,
 ⟨(some 90), .fa 0 (.t 3), (some (89, false))⟩,
 ⟨(some 91), .ld false 1 (.t 90), (some (89, false))⟩,
 ⟨(some 92), .bin .eql (.t 91) (.c (.int .i64 25)), (some (89, false))⟩,
 ⟨(some 93), .pick (.t 89) (.c (.bool true)) (.t 92), (some (85, true))⟩,
 ⟨(some 94), .pick (.t 85) (.t 93) (.c (.bool false)), (some (82, false))⟩,
 ⟨(some 95), .mv (.t 94), (some (82, false))⟩,
 ⟨(some 96), .fa 0 (.t 2), (some (95, true))⟩,
 ⟨(some 97), .ld false 1 (.t 96), (some (95, true))⟩,
 ⟨(some 98), .mv (.t 10), (some (95, true))⟩,
 ⟨(some 99), .ixs 1 (.t 97) (.t 98), (some (95, true))⟩,
 ⟨(some 100), .ld false 1 (.t 99), (some (95, true))⟩,
 ⟨(some 101), .bin .neq (.t 100) (.c (.int .i64 3)), (some (95, true))⟩,
 ⟨(some 102), .pick (.t 95) (.t 101) (.c (.bool false)), (some (82, false))⟩,
 ⟨(some 103), .pick (.t 82) (.c (.bool true)) (.t 102), none⟩])
 (.cond (.t 103)
 (.seq (.region [
  ⟨(some 4), .mv (.c (.bool false)), none⟩])
  .ret)
 .skip))

def c_ins_right_6 : CCode :=
  (.seq (.seq (.region [
 ⟨(some 70), .ld true 9 (.t 3), none⟩,
 ⟨(some 71), .call none true 17 [(.t 70)], none⟩,
 ⟨(some 72), .un .not (.t 71), none⟩])
 (.cond (.t 72)
 (.exit 2)
 .skip))
 c_ins_right_5)

def c_ins_right_7 : CCode :=
  (.seq (.region [
 ⟨(some 67), .mv (.t 65), none⟩,
 ⟨(some 68), .ixs 1 (.t 63) (.t 65), none⟩,
 ⟨(some 69), .ld false 1 (.t 68), none⟩,
 ⟨(some 9), .mv (.t 67), none⟩,
 ⟨(some 10), .mv (.t 69), none⟩])
 c_ins_right_6)

def c_ins_right_8 : CCode :=
  (.block 3 c_ins_right_7)

def c_ins_right_9 : CCode :=
  (.seq c_ins_right_8
 c_ins_right_4)

def c_ins_right_10 : CCode :=
  (.seq (.cond (.t 66)
 .skip
 (.exit 2))
 c_ins_right_9)

def c_ins_right_11 : CCode :=
  (.seq (.region [
 ⟨(some 66), .bin .lss (.t 65) (.t 64), none⟩])
 c_ins_right_10)

def c_ins_right_L3 : CCode :=
  (.loop [2, 3, 63, 64, 65] c_ins_right_11)

def c_ins_right_12 : CCode :=
  (.block 2 c_ins_right_L3)

def c_ins_right_13 : CCode :=
  (.seq (.region [
 ⟨(some 62), .fa 8 (.t 3), none⟩,
 ⟨(some 63), .ld false 1 (.t 62), none⟩,
 ⟨(some 64), .len 1 (.t 63), none⟩,
 ⟨(some 65), .mv (.c (.int .i64 0)), none⟩])
 c_ins_right_12)

def c_ins_right_14 : CCode :=
  (.seq c_ins_right_13
 c_ins_right_2)

def c_ins_right_16 : CCode :=
  (.region [
 ⟨(some 61), .bin .add (.t 27) (.c (.int .i64 1)), none⟩,
 ⟨(some 27), .mv (.t 61), none⟩])

def c_ins_right_17 : CCode :=
  (.seq (.draw [
 ⟨(some 35), .mv (.t 8), none⟩,
 ⟨(some 36), .bin .lss (.t 35) (.c (.int .i64 0)), none⟩,
 ⟨(some 37), .mv (.t 36), none⟩,
 ⟨(some 38), .mv (.t 8), (some (37, false))⟩,
 ⟨(some 39), .fa 0 (.t 2), (some (37, false))⟩,
 ⟨(some 40), .ld false 1 (.t 39), (some (37, false))⟩,
 ⟨(some 41), .len 1 (.t 40), (some (37, false))⟩,
 ⟨(some 42), .bin .geq (.t 38) (.t 41), (some (37, false))⟩,
 ⟨(some 43), .pick (.t 37) (.c (.bool true)) (.t 42), none⟩,
 ⟨(some 44), .mv (.t 43), none⟩,
 ⟨(some 45), .mv (.t 7), (some (44, false))⟩,
 ⟨(some 46), .ixa 4 1 (.t 5) (.t 45), (some (44, false))⟩,
 ⟨(some 47), .ld false 1 (.t 46), (some (44, false))⟩,
 ⟨(some 48), .bin .gtr (.t 47) (.c (.int .i64 0)), (some (44, false))⟩,
 ⟨(some 49), .mv (.t 48), (some (44, false))⟩,
 ⟨(some 50), .fa 0 (.t 2), (some (49, true))⟩,
 ⟨(some 51), .ld false 1 (.t 50), (some (49, true))⟩,
 ⟨(some 52), .mv (.t 8), (some (49, true))⟩,
 ⟨(some 53), .ixs 1 (.t 51) (.t 52), (some (49, true))⟩,
 ⟨(some 54), .ld false 1 (.t 53), (some (49, true))⟩,
 ⟨(some 55), .mv (.t 7), (some (49, true))⟩,
 ⟨(some 56), .ixa 4 1 (.t 5) (.t 55), (some (49, true))⟩,
 ⟨(some 57), .ld false 1 (.t 56), (some (49, true))⟩,
 ⟨(some 58), .bin .neq (.t 54) (.t 57), (some (49, true))⟩,
 ⟨(some 59), .pick (.t 49) (.t 58) (.c (.bool false)), (some (44, false))⟩,
 ⟨(some 60), .pick (.t 44) (.c (.bool true)) (.t 59), none⟩] [])
 (.cond (.t 60)
 (.seq (.region [
  ⟨(some 4), .mv (.c (.bool false)), none⟩])
  .ret)
 .skip))

def c_ins_right_18 : CCode :=
  (.seq (.seq (.region [
 ⟨(some 31), .mv (.t 7), none⟩,
 ⟨(some 32), .ixa 4 1 (.t 5) (.t 31), none⟩,
 ⟨(some 33), .ld false 1 (.t 32), none⟩,
 ⟨(some 34), .bin .lss (.t 33) (.c (.int .i64 0)), none⟩])
 (.cond (.t 34)
 (.exit 1)
 .skip))
 c_ins_right_17)

def c_ins_right_19 : CCode :=
  (.seq (.region [
 ⟨(some 29), .mv (.t 27), none⟩,
 ⟨(some 30), .ixv false 4 1 (.t 26) (.t 27), none⟩,
 ⟨(some 7), .mv (.t 29), none⟩,
 ⟨(some 8), .mv (.t 30), none⟩])
 c_ins_right_18)

def c_ins_right_20 : CCode :=
  (.block 1 c_ins_right_19)

def c_ins_right_21 : CCode :=
  (.seq c_ins_right_20
 c_ins_right_16)

def c_ins_right_22 : CCode :=
  (.seq (.cond (.t 28)
 .skip
 (.exit 0))
 c_ins_right_21)

def c_ins_right_23 : CCode :=
  (.seq (.region [
 ⟨(some 28), .bin .lss (.t 27) (.c (.int .i64 4)), none⟩])
 c_ins_right_22)

def c_ins_right_L15 : CCode :=
  (.loop [2, 3, 5, 26, 27] c_ins_right_23)

def c_ins_right_24 : CCode :=
  (.block 0 c_ins_right_L15)

def c_ins_right_25 : CCode :=
  (.seq (.region [
 ⟨(some 18), .fa 1 (.t 3), none⟩,
 ⟨(some 19), .ld false 1 (.t 18), none⟩,
 ⟨(some 20), .fa 2 (.t 3), none⟩,
 ⟨(some 21), .ld false 1 (.t 20), none⟩,
 ⟨(some 22), .fa 3 (.t 3), none⟩,
 ⟨(some 23), .ld false 1 (.t 22), none⟩,
 ⟨(some 24), .fa 4 (.t 3), none⟩,
 ⟨(some 25), .ld false 1 (.t 24), none⟩,
 ⟨(some 26), .build [(.int .i64 0), (.int .i64 0), (.int .i64 0), (.int .i64 0)] [(0, 1, (.t 19)), (1, 1, (.t 21)), (2, 1, (.t 23)), (3, 1, (.t 25))], none⟩,
 ⟨(some 27), .mv (.c (.int .i64 0)), none⟩])
 c_ins_right_24)

def c_ins_right_26 : CCode :=
  (.seq c_ins_right_25
 c_ins_right_14)

def c_ins_right_27 : CCode :=
  (.seq (.seq (.region [
 ⟨(some 16), .mv (.t 6), none⟩,
 ⟨(some 17), .un .not (.t 16), none⟩])
 (.cond (.t 17)
 (.seq (.region [
  ⟨(some 4), .mv (.c (.bool false)), none⟩])
  .ret)
 .skip))
 c_ins_right_26)

def c_ins_right_28 : CCode :=
  (.seq (.region [
 ⟨(some 12), .ld true 9 (.t 3), none⟩,
 ⟨(some 13), .call none true 47 [(.t 12)], none⟩,
 ⟨(some 11), .mv (.t 13), none⟩,
 ⟨(some 14), .ext 0 (.t 11), none⟩,
 ⟨(some 15), .ext 1 (.t 11), none⟩,
 ⟨(some 5), .new (some 2) [(.int .i64 0), (.int .i64 0), (.int .i64 0), (.int .i64 0)], none⟩,
 ⟨none, .st 4 (.t 5) (.t 14), none⟩,
 ⟨(some 6), .mv (.t 15), none⟩])
 c_ins_right_27)

def c_ins_right_29 : CCode :=
  (.seq (.region [
 ⟨(some 2), .box (some 0) (.t 0), none⟩,
 ⟨(some 3), .box (some 1) (.t 1), none⟩,
 ⟨(some 4), .mv (.c (.bool false)), none⟩])
 c_ins_right_28)

def c_ins_right : CFunc :=
  ⟨2, true, 3, c_ins_right_29, [.t 4]⟩

def c_slices_Clone_int_int_1 : CCode :=
  (.seq (.region [
 ⟨(some 5), .buildS (some 0) 1 0 [(.int .i64 0)] [], none⟩,
 ⟨(some 6), .mv (.t 0), none⟩,
 ⟨(some 7), .app (some 1) 1 8 (.t 5) (.t 6), none⟩,
 ⟨(some 2), .mv (.t 7), none⟩])
 .ret)

def c_slices_Clone_int_int_2 : CCode :=
  (.seq (.seq (.region [
 ⟨(some 3), .mv (.t 0), none⟩,
 ⟨(some 4), .eqn 1 false (.t 3) (.c .nils), none⟩])
 (.cond (.t 4)
 (.seq (.region [
  ⟨(some 2), .mv (.c .nils), none⟩])
  .ret)
 .skip))
 c_slices_Clone_int_int_1)

def c_slices_Clone_int_int_3 : CCode :=
  (.seq (.region [
 ⟨(some 2), .mv (.c .nils), none⟩])
 c_slices_Clone_int_int_2)

def c_slices_Clone_int_int : CFunc :=
  ⟨1, true, 2, c_slices_Clone_int_int_3, [.t 2]⟩

def c_regletref10_in_1 : CCode :=
  (.seq (.region [
 ⟨(some 4), .mv (.c (.bool false)), none⟩])
 .ret)

def c_regletref10_in_3 : CCode :=
  (.region [
 ⟨(some 10), .mv (.t 5), none⟩,
 ⟨(some 11), .bin .add (.t 10) (.c (.int .i64 1)), none⟩,
 ⟨(some 5), .mv (.t 11), none⟩])

def c_regletref10_in_4 : CCode :=
  (.seq (.block 1 (.seq (.region [
 ⟨(some 12), .mv (.t 1), none⟩,
 ⟨(some 13), .mv (.t 5), none⟩,
 ⟨(some 14), .ixs 1 (.t 12) (.t 13), none⟩,
 ⟨(some 15), .ld false 1 (.t 14), none⟩,
 ⟨(some 16), .mv (.t 0), none⟩,
 ⟨(some 17), .bin .eql (.t 15) (.t 16), none⟩])
 (.cond (.t 17)
 (.seq (.region [
  ⟨(some 4), .mv (.c (.bool true)), none⟩])
  .ret)
 .skip)))
 c_regletref10_in_3)

def c_regletref10_in_5 : CCode :=
  (.seq (.seq (.region [
 ⟨(some 6), .mv (.t 5), none⟩,
 ⟨(some 7), .mv (.t 1), none⟩,
 ⟨(some 8), .len 1 (.t 7), none⟩,
 ⟨(some 9), .bin .lss (.t 6) (.t 8), none⟩])
 (.cond (.t 9)
 .skip
 (.exit 0)))
 c_regletref10_in_4)

def c_regletref10_in_L2 : CCode :=
  (.loop [0, 1, 5] c_regletref10_in_5)

def c_regletref10_in_6 : CCode :=
  (.block 0 c_regletref10_in_L2)

def c_regletref10_in_7 : CCode :=
  (.seq (.region [
 ⟨(some 5), .mv (.c (.int .i64 0)), none⟩])
 c_regletref10_in_6)

def c_regletref10_in_8 : CCode :=
  (.seq c_regletref10_in_7
 c_regletref10_in_1)

def c_regletref10_in_9 : CCode :=
  (.seq (.region [
 ⟨(some 4), .mv (.c (.bool false)), none⟩])
 c_regletref10_in_8)

def c_regletref10_in : CFunc :=
  ⟨2, true, 0, c_regletref10_in_9, [.t 4]⟩

def c_regletref10_kind_1 : CCode :=
  (.seq (.region [
 ⟨(some 14), .fa 0 (.t 2), none⟩,
 ⟨(some 15), .ld false 1 (.t 14), none⟩,
 ⟨(some 16), .mv (.t 1), none⟩,
 ⟨(some 17), .ixs 1 (.t 15) (.t 16), none⟩,
 ⟨(some 18), .ld false 1 (.t 17), none⟩,
 ⟨(some 4), .mv (.t 18), none⟩])
 .ret)

def c_regletref10_kind_2 : CCode :=
  (.seq (.seq (.region [
 ⟨(some 5), .mv (.t 1), none⟩,
 ⟨(some 6), .bin .lss (.t 5) (.c (.int .i64 0)), none⟩,
 ⟨(some 7), .mv (.t 6), none⟩,
 ⟨(some 8), .mv (.t 1), (some (7, false))⟩,
 ⟨(some 9), .fa 0 (.t 2), (some (7, false))⟩,
 ⟨(some 10), .ld false 1 (.t 9), (some (7, false))⟩,
 ⟨(some 11), .len 1 (.t 10), (some (7, false))⟩,
 ⟨(some 12), .bin .geq (.t 8) (.t 11), (some (7, false))⟩,
 ⟨(some 13), .pick (.t 7) (.c (.bool true)) (.t 12), none⟩])
 (.cond (.t 13)
 (.seq (.region [
  ⟨(some 4), .mv (.c (.int .i64 0)), none⟩])
  .ret)
 .skip))
 c_regletref10_kind_1)

def c_regletref10_kind_3 : CCode :=
  (.seq (.region [
 ⟨(some 2), .box (some 0) (.t 0), none⟩,
 ⟨(some 4), .mv (.c (.int .i64 0)), none⟩])
 c_regletref10_kind_2)

def c_regletref10_kind : CFunc :=
  ⟨2, true, 1, c_regletref10_kind_3, [.t 4]⟩

def c_regletref10_one_1 : CCode :=
  (.seq (.region [
 ⟨(some 4), .mv (.c (.bool true)), none⟩])
 .ret)

def c_regletref10_one_2 : CCode :=
  (.seq (.draw [
 ⟨(some 215), .fa 2 (.t 3), none⟩,
 ⟨(some 216), .ld false 1 (.t 215), none⟩,
 ⟨(some 217), .bin .neq (.t 216) (.c (.int .i64 (-1))), none⟩,
 ⟨(some 218), .mv (.t 217), none⟩,
 ⟨(some 219), .ld true 5 (.t 2), (some (218, true))⟩,
 ⟨(some 220), .fa 2 (.t 3), (some (218, true))⟩,
 ⟨(some 221), .ld false 1 (.t 220), (some (218, true))⟩,
 ⟨(some 222), .call none true 48 [(.t 219), (.t 221)], (some (218, true))⟩,
 ⟨(some 223), .fa 2 (.t 2), (some (218, true))⟩,
 ⟨(some 224), .ld false 1 (.t 223), (some (218, true))⟩,
 ⟨(some 225), .bin .eql (.t 222) (.t 224), (some (218, true))⟩,
 ⟨(some 226), .pick (.t 218) (.t 225) (.c (.bool false)), none⟩,
 ⟨(some 4), .mv (.t 226), none⟩] [(7, 9)])
 .ret)

def c_regletref10_one_3 : CCode :=
  (.seq (.seq (.region [
 ⟨(some 209), .fa 2 (.t 2), none⟩,
 ⟨(some 210), .ld false 1 (.t 209), none⟩,
 ⟨(some 211), .bin .eql (.t 210) (.c (.int .i64 0)), none⟩])
 (.cond (.t 211)
 (.seq (.region [
  ⟨(some 212), .fa 2 (.t 3), none⟩,
  ⟨(some 213), .ld false 1 (.t 212), none⟩,
  ⟨(some 214), .bin .eql (.t 213) (.c (.int .i64 (-1))), none⟩,
  ⟨(some 4), .mv (.t 214), none⟩])
  .ret)
 .skip))
 c_regletref10_one_2)

def c_regletref10_one_4 : CCode :=
  (.cond (.t 207)
 c_regletref10_one_3
 .skip)

def c_regletref10_one_5 : CCode :=
  (.seq (.region [
 ⟨(some 208), .bin .eql (.t 55) (.c (.int .i64 30)), none⟩,
 ⟨(some 207), .mv (.t 208), none⟩])
 c_regletref10_one_4)

def c_regletref10_one_6 : CCode :=
  (.cond (.t 179)
 (.seq (.region [
  ⟨(some 181), .fa 5 (.t 3), none⟩,
  ⟨(some 182), .ld false 1 (.t 181), none⟩,
  ⟨(some 183), .bin .eql (.t 182) (.c (.int .i64 0)), none⟩,
  ⟨(some 184), .mv (.t 183), none⟩,
  ⟨(some 185), .fa 5 (.t 3), (some (184, false))⟩,
  ⟨(some 186), .ld false 1 (.t 185), (some (184, false))⟩,
  ⟨(some 187), .bin .eql (.t 186) (.c (.int .i64 1)), (some (184, false))⟩,
  ⟨(some 188), .pick (.t 184) (.c (.bool true)) (.t 187), none⟩,
  ⟨(some 189), .mv (.t 188), none⟩,
  ⟨(some 190), .fa 3 (.t 3), (some (189, true))⟩,
  ⟨(some 191), .ld false 1 (.t 190), (some (189, true))⟩,
  ⟨(some 192), .bin .eql (.t 191) (.c (.int .i64 (-1))), (some (189, true))⟩,
  ⟨(some 193), .mv (.t 192), (some (189, true))⟩,
  ⟨(some 194), .ld true 5 (.t 2), (some (193, false))⟩,
  ⟨(some 195), .fa 3 (.t 3), (some (193, false))⟩,
  ⟨(some 196), .ld false 1 (.t 195), (some (193, false))⟩,
  ⟨(some 197), .call none true 48 [(.t 194), (.t 196)], (some (193, false))⟩,
  ⟨(some 198), .bin .eql (.t 197) (.c (.int .i64 3)), (some (193, false))⟩,
  ⟨(some 199), .pick (.t 193) (.c (.bool true)) (.t 198), (some (189, true))⟩,
  ⟨(some 200), .pick (.t 189) (.t 199) (.c (.bool false)), none⟩,
  ⟨(some 201), .mv (.t 200), none⟩,
  ⟨(some 202), .ld true 5 (.t 2), (some (201, true))⟩,
  ⟨(some 203), .fa 6 (.t 3), (some (201, true))⟩,
  ⟨(some 204), .ld false 1 (.t 203), (some (201, true))⟩,
  ⟨(some 205), .call none true 49 [(.t 202), (.t 204)], (some (201, true))⟩,
  ⟨(some 206), .pick (.t 201) (.t 205) (.c (.bool false)), none⟩,
  ⟨(some 4), .mv (.t 206), none⟩])
  .ret)
 c_regletref10_one_5)

def c_regletref10_one_7 : CCode :=
  (.seq (.region [
 ⟨(some 180), .bin .eql (.t 55) (.c (.int .i64 29)), none⟩,
 ⟨(some 179), .mv (.t 180), none⟩])
 c_regletref10_one_6)

def c_regletref10_one_8 : CCode :=
  (.cond (.t 173)
 (.seq (.region [
  ⟨(some 175), .ld true 5 (.t 2), none⟩,
  ⟨(some 176), .fa 6 (.t 3), none⟩,
  ⟨(some 177), .ld false 1 (.t 176), none⟩,
  ⟨(some 178), .call none true 49 [(.t 175), (.t 177)], none⟩,
  ⟨(some 4), .mv (.t 178), none⟩])
  .ret)
 c_regletref10_one_7)

def c_regletref10_one_9 : CCode :=
  (.seq (.region [
 ⟨(some 174), .bin .eql (.t 55) (.c (.int .i64 27)), none⟩,
 ⟨(some 173), .mv (.t 174), none⟩])
 c_regletref10_one_8)

def c_regletref10_one_10 : CCode :=
  (.cond (.t 157)
 (.seq (.region [
  ⟨(some 159), .fa 5 (.t 3), none⟩,
  ⟨(some 160), .ld false 1 (.t 159), none⟩,
  ⟨(some 161), .bin .geq (.t 160) (.c (.int .i64 0)), none⟩,
  ⟨(some 162), .mv (.t 161), none⟩,
  ⟨(some 163), .fa 5 (.t 3), (some (162, true))⟩,
  ⟨(some 164), .ld false 1 (.t 163), (some (162, true))⟩,
  ⟨(some 165), .bin .leq (.t 164) (.c (.int .i64 5)), (some (162, true))⟩,
  ⟨(some 166), .pick (.t 162) (.t 165) (.c (.bool false)), none⟩,
  ⟨(some 167), .mv (.t 166), none⟩,
  ⟨(some 168), .ld true 5 (.t 2), (some (167, true))⟩,
  ⟨(some 169), .fa 6 (.t 3), (some (167, true))⟩,
  ⟨(some 170), .ld false 1 (.t 169), (some (167, true))⟩,
  ⟨(some 171), .call none true 49 [(.t 168), (.t 170)], (some (167, true))⟩,
  ⟨(some 172), .pick (.t 167) (.t 171) (.c (.bool false)), none⟩,
  ⟨(some 4), .mv (.t 172), none⟩])
  .ret)
 c_regletref10_one_9)

def c_regletref10_one_11 : CCode :=
  (.seq (.region [
 ⟨(some 158), .bin .eql (.t 55) (.c (.int .i64 28)), none⟩,
 ⟨(some 157), .mv (.t 158), none⟩])
 c_regletref10_one_10)

def c_regletref10_one_12 : CCode :=
  (.cond (.t 149)
 (.seq (.region [
  ⟨(some 154), .ld true 5 (.t 2), none⟩,
  ⟨(some 155), .ld true 9 (.t 3), none⟩,
  ⟨(some 156), .call none true 68 [(.t 154), (.t 155)], none⟩,
  ⟨(some 4), .mv (.t 156), none⟩])
  .ret)
 c_regletref10_one_11)

def c_regletref10_one_13 : CCode :=
  (.seq (.seq (.region [
 ⟨(some 150), .bin .eql (.t 55) (.c (.int .i64 23)), none⟩,
 ⟨(some 149), .mv (.t 150), none⟩])
 (.cond (.t 149)
 .skip
 (.seq (.region [
  ⟨(some 151), .bin .eql (.t 55) (.c (.int .i64 24)), none⟩,
  ⟨(some 149), .mv (.t 151), none⟩])
  (.cond (.t 149)
  .skip
  (.seq (.region [
   ⟨(some 152), .bin .eql (.t 55) (.c (.int .i64 25)), none⟩,
   ⟨(some 149), .mv (.t 152), none⟩])
   (.cond (.t 149)
   .skip
   (.region [
    ⟨(some 153), .bin .eql (.t 55) (.c (.int .i64 26)), none⟩,
    ⟨(some 149), .mv (.t 153), none⟩])))))))
 c_regletref10_one_12)

def c_regletref10_one_14 : CCode :=
  (.cond (.t 143)
 (.seq (.region [
  ⟨(some 146), .fa 5 (.t 3), none⟩,
  ⟨(some 147), .ld false 1 (.t 146), none⟩,
  ⟨(some 148), .bin .geq (.t 147) (.c (.int .i64 0)), none⟩,
  ⟨(some 4), .mv (.t 148), none⟩])
  .ret)
 c_regletref10_one_13)

def c_regletref10_one_15 : CCode :=
  (.seq (.seq (.region [
 ⟨(some 144), .bin .eql (.t 55) (.c (.int .i64 16)), none⟩,
 ⟨(some 143), .mv (.t 144), none⟩])
 (.cond (.t 143)
 .skip
 (.region [
  ⟨(some 145), .bin .eql (.t 55) (.c (.int .i64 17)), none⟩,
  ⟨(some 143), .mv (.t 145), none⟩])))
 c_regletref10_one_14)

def c_regletref10_one_16 : CCode :=
  (.cond (.t 136)
 (.seq (.region [
  ⟨(some 140), .fa 7 (.t 3), none⟩,
  ⟨(some 141), .ld false 1 (.t 140), none⟩,
  ⟨(some 142), .call none true 67 [(.t 141)], none⟩,
  ⟨(some 4), .mv (.t 142), none⟩])
  .ret)
 c_regletref10_one_15)

def c_regletref10_one_17 : CCode :=
  (.seq (.seq (.region [
 ⟨(some 137), .bin .eql (.t 55) (.c (.int .i64 12)), none⟩,
 ⟨(some 136), .mv (.t 137), none⟩])
 (.cond (.t 136)
 .skip
 (.seq (.region [
  ⟨(some 138), .bin .eql (.t 55) (.c (.int .i64 21)), none⟩,
  ⟨(some 136), .mv (.t 138), none⟩])
  (.cond (.t 136)
  .skip
  (.region [
   ⟨(some 139), .bin .eql (.t 55) (.c (.int .i64 22)), none⟩,
   ⟨(some 136), .mv (.t 139), none⟩])))))
 c_regletref10_one_16)

def c_regletref10_one_18 : CCode :=
  (.cond (.t 112)
 (.seq (.region [
  ⟨(some 114), .mv (.t 8), none⟩,
  ⟨(some 115), .bin .gtr (.t 114) (.c (.int .i64 0)), none⟩,
  ⟨(some 116), .mv (.t 115), none⟩,
  ⟨(some 117), .mv (.t 9), (some (116, true))⟩,
  ⟨(some 118), .bin .eql (.t 117) (.c (.int .i64 0)), (some (116, true))⟩,
  ⟨(some 119), .pick (.t 116) (.t 118) (.c (.bool false)), none⟩,
  ⟨(some 120), .mv (.t 119), none⟩,
  ⟨(some 121), .ld true 5 (.t 2), (some (120, true))⟩,
  ⟨(some 122), .fa 1 (.t 3), (some (120, true))⟩,
  ⟨(some 123), .ld false 1 (.t 122), (some (120, true))⟩,
  ⟨(some 124), .call none true 48 [(.t 121), (.t 123)], (some (120, true))⟩,
  ⟨(some 125), .mv (.t 10), (some (120, true))⟩,
  ⟨(some 126), .bin .eql (.t 124) (.t 125), (some (120, true))⟩,
  ⟨(some 127), .pick (.t 120) (.t 126) (.c (.bool false)), none⟩,
  ⟨(some 128), .mv (.t 127), none⟩,
  ⟨(some 129), .ld true 5 (.t 2), (some (128, true))⟩,
  ⟨(some 130), .fa 2 (.t 3), (some (128, true))⟩,
  ⟨(some 131), .ld false 1 (.t 130), (some (128, true))⟩,
  ⟨(some 132), .call none true 48 [(.t 129), (.t 131)], (some (128, true))⟩,
  ⟨(some 133), .mv (.t 8), (some (128, true))⟩,
  ⟨(some 134), .bin .eql (.t 132) (.t 133), (some (128, true))⟩,
  ⟨(some 135), .pick (.t 128) (.t 134) (.c (.bool false)), none⟩,
  ⟨(some 4), .mv (.t 135), none⟩])
  .ret)
 c_regletref10_one_17)

def c_regletref10_one_19 : CCode :=
  (.seq (.region [
 ⟨(some 113), .bin .eql (.t 55) (.c (.int .i64 6)), none⟩,
 ⟨(some 112), .mv (.t 113), none⟩])
 c_regletref10_one_18)

def c_regletref10_one_20 : CCode :=
  (.cond (.t 84)
 (.seq (.region [
  ⟨(some 86), .mv (.t 9), none⟩,
  ⟨(some 87), .bin .gtr (.t 86) (.c (.int .i64 0)), none⟩,
  ⟨(some 88), .mv (.t 87), none⟩,
  ⟨(some 89), .ld true 5 (.t 2), (some (88, true))⟩,
  ⟨(some 90), .fa 1 (.t 3), (some (88, true))⟩,
  ⟨(some 91), .ld false 1 (.t 90), (some (88, true))⟩,
  ⟨(some 92), .call none true 48 [(.t 89), (.t 91)], (some (88, true))⟩,
  ⟨(some 93), .mv (.t 10), (some (88, true))⟩,
  ⟨(some 94), .bin .eql (.t 92) (.t 93), (some (88, true))⟩,
  ⟨(some 95), .pick (.t 88) (.t 94) (.c (.bool false)), none⟩,
  ⟨(some 96), .mv (.t 95), none⟩,
  ⟨(some 97), .ld true 5 (.t 2), (some (96, true))⟩,
  ⟨(some 98), .fa 2 (.t 3), (some (96, true))⟩,
  ⟨(some 99), .ld false 1 (.t 98), (some (96, true))⟩,
  ⟨(some 100), .call none true 48 [(.t 97), (.t 99)], (some (96, true))⟩,
  ⟨(some 101), .mv (.t 8), (some (96, true))⟩,
  ⟨(some 102), .bin .eql (.t 100) (.t 101), (some (96, true))⟩,
  ⟨(some 103), .pick (.t 96) (.t 102) (.c (.bool false)), none⟩,
  ⟨(some 104), .mv (.t 103), none⟩,
  ⟨(some 105), .ld true 5 (.t 2), (some (104, true))⟩,
  ⟨(some 106), .fa 3 (.t 3), (some (104, true))⟩,
  ⟨(some 107), .ld false 1 (.t 106), (some (104, true))⟩,
  ⟨(some 108), .call none true 48 [(.t 105), (.t 107)], (some (104, true))⟩,
  ⟨(some 109), .mv (.t 9), (some (104, true))⟩,
  ⟨(some 110), .bin .eql (.t 108) (.t 109), (some (104, true))⟩,
  ⟨(some 111), .pick (.t 104) (.t 110) (.c (.bool false)), none⟩,
  ⟨(some 4), .mv (.t 111), none⟩])
  .ret)
 c_regletref10_one_19)

def c_regletref10_one_21 : CCode :=
  (.seq (.region [
 ⟨(some 85), .bin .eql (.t 55) (.c (.int .i64 5)), none⟩,
 ⟨(some 84), .mv (.t 85), none⟩])
 c_regletref10_one_20)

def c_regletref10_one_22 : CCode :=
  (.cond (.t 73)
 (.seq (.draw [
  ⟨(some 75), .ld true 5 (.t 2), none⟩,
  ⟨(some 76), .fa 1 (.t 3), none⟩,
  ⟨(some 77), .ld false 1 (.t 76), none⟩,
  ⟨(some 78), .call none true 48 [(.t 75), (.t 77)], none⟩,
  ⟨(some 79), .ld true 5 (.t 2), none⟩,
  ⟨(some 80), .fa 2 (.t 3), none⟩,
  ⟨(some 81), .ld false 1 (.t 80), none⟩,
  ⟨(some 82), .call none true 48 [(.t 79), (.t 81)], none⟩,
  ⟨(some 83), .bin .eql (.t 78) (.t 82), none⟩,
  ⟨(some 4), .mv (.t 83), none⟩] [(3, 4), (3, 6)])
  .ret)
 c_regletref10_one_21)

def c_regletref10_one_23 : CCode :=
  (.seq (.region [
 ⟨(some 74), .bin .eql (.t 55) (.c (.int .i64 4)), none⟩,
 ⟨(some 73), .mv (.t 74), none⟩])
 c_regletref10_one_22)

def c_regletref10_one_24 : CCode :=
  (.cond (.t 56)
 (.seq (.region [
  ⟨(some 58), .ld true 5 (.t 2), none⟩,
  ⟨(some 59), .fa 1 (.t 3), none⟩,
  ⟨(some 60), .ld false 1 (.t 59), none⟩,
  ⟨(some 61), .call none true 48 [(.t 58), (.t 60)], none⟩,
  ⟨(some 62), .bin .eql (.t 61) (.c (.int .i64 2)), none⟩,
  ⟨(some 63), .mv (.t 62), none⟩,
  ⟨(some 64), .fa 5 (.t 3), (some (63, false))⟩,
  ⟨(some 65), .ld false 1 (.t 64), (some (63, false))⟩,
  ⟨(some 66), .bin .geq (.t 65) (.c (.int .i64 (-2147483648))), (some (63, false))⟩,
  ⟨(some 67), .mv (.t 66), (some (63, false))⟩,
  ⟨(some 68), .fa 5 (.t 3), (some (67, true))⟩,
  ⟨(some 69), .ld false 1 (.t 68), (some (67, true))⟩,
  ⟨(some 70), .bin .lss (.t 69) (.c (.int .i64 2147483648)), (some (67, true))⟩,
  ⟨(some 71), .pick (.t 67) (.t 70) (.c (.bool false)), (some (63, false))⟩,
  ⟨(some 72), .pick (.t 63) (.c (.bool true)) (.t 71), none⟩,
  ⟨(some 4), .mv (.t 72), none⟩])
  .ret)
 c_regletref10_one_23)

def c_regletref10_one_25 : CCode :=
  (.seq (.region [
 ⟨(some 57), .bin .eql (.t 55) (.c (.int .i64 1)), none⟩,
 ⟨(some 56), .mv (.t 57), none⟩])
 c_regletref10_one_24)

def c_regletref10_one_26 : CCode :=
  (.block 2 c_regletref10_one_25)

def c_regletref10_one_27 : CCode :=
  (.seq (.region [
 ⟨(some 54), .fa 0 (.t 3), none⟩,
 ⟨(some 55), .ld false 1 (.t 54), none⟩])
 c_regletref10_one_26)

def c_regletref10_one_28 : CCode :=
  (.seq c_regletref10_one_27
 c_regletref10_one_1)

def c_regletref10_one_29 : CCode :=
  (.seq (.seq (.region [
 ⟨(some 39), .fa 5 (.t 3), none⟩,
 ⟨(some 40), .ld false 1 (.t 39), none⟩,
 ⟨(some 41), .bin .geq (.t 40) (.c (.int .i64 0)), none⟩,
 ⟨(some 42), .mv (.t 41), none⟩,
 ⟨(some 43), .fa 5 (.t 3), (some (42, true))⟩,
 ⟨(some 44), .ld false 1 (.t 43), (some (42, true))⟩,
 ⟨(some 45), .bin .lss (.t 44) (.c (.int .i64 1000)), (some (42, true))⟩,
 ⟨(some 46), .pick (.t 42) (.t 45) (.c (.bool false)), none⟩])
 (.cond (.t 46)
 (.region [
  ⟨(some 48), .fa 5 (.t 3), none⟩,
  ⟨(some 49), .ld false 1 (.t 48), none⟩,
  ⟨(some 50), .call none true 66 [(.t 49)], none⟩,
  ⟨(some 47), .mv (.t 50), none⟩,
  ⟨(some 51), .ext 0 (.t 47), none⟩,
  ⟨(some 52), .ext 1 (.t 47), none⟩,
  ⟨(some 53), .ext 2 (.t 47), none⟩,
  ⟨(some 8), .mv (.t 51), none⟩,
  ⟨(some 9), .mv (.t 52), none⟩,
  ⟨(some 10), .mv (.t 53), none⟩])
 .skip))
 c_regletref10_one_28)

def c_regletref10_one_30 : CCode :=
  (.seq (.region [
 ⟨(some 8), .mv (.c (.int .i64 0)), none⟩,
 ⟨(some 9), .mv (.c (.int .i64 0)), none⟩,
 ⟨(some 10), .mv (.c (.int .i64 0)), none⟩])
 c_regletref10_one_29)

def c_regletref10_one_32 : CCode :=
  (.region [
 ⟨(some 27), .mv (.t 7), none⟩,
 ⟨(some 28), .bin .add (.t 27) (.c (.int .i64 1)), none⟩,
 ⟨(some 7), .mv (.t 28), none⟩])

def c_regletref10_one_33 : CCode :=
  (.seq (.block 1 (.seq (.draw [
 ⟨(some 29), .ld true 5 (.t 2), none⟩,
 ⟨(some 30), .mv (.t 6), none⟩,
 ⟨(some 31), .mv (.t 7), none⟩,
 ⟨(some 32), .ixs 1 (.t 30) (.t 31), none⟩,
 ⟨(some 33), .ld false 1 (.t 32), none⟩,
 ⟨(some 34), .mv (.t 5), none⟩,
 ⟨(some 35), .mv (.t 7), none⟩,
 ⟨(some 36), .ixstr (.t 34) (.t 35), none⟩,
 ⟨(some 37), .call none true 65 [(.t 29), (.t 33), (.t 36)], none⟩,
 ⟨(some 38), .un .not (.t 37), none⟩] [])
 (.cond (.t 38)
 (.seq (.region [
  ⟨(some 4), .mv (.c (.bool false)), none⟩])
  .ret)
 .skip)))
 c_regletref10_one_32)

def c_regletref10_one_34 : CCode :=
  (.seq (.seq (.region [
 ⟨(some 25), .mv (.t 7), none⟩,
 ⟨(some 26), .bin .lss (.t 25) (.c (.int .i64 4)), none⟩])
 (.cond (.t 26)
 .skip
 (.exit 0)))
 c_regletref10_one_33)

def c_regletref10_one_L31 : CCode :=
  (.loop [2, 3, 5, 6, 7] c_regletref10_one_34)

def c_regletref10_one_35 : CCode :=
  (.block 0 c_regletref10_one_L31)

def c_regletref10_one_36 : CCode :=
  (.seq (.region [
 ⟨(some 7), .mv (.c (.int .i64 0)), none⟩])
 c_regletref10_one_35)

def c_regletref10_one_37 : CCode :=
  (.seq c_regletref10_one_36
 c_regletref10_one_30)

def c_regletref10_one_38 : CCode :=
  (.seq (.region [
 ⟨(some 16), .fa 1 (.t 3), none⟩,
 ⟨(some 17), .ld false 1 (.t 16), none⟩,
 ⟨(some 18), .fa 2 (.t 3), none⟩,
 ⟨(some 19), .ld false 1 (.t 18), none⟩,
 ⟨(some 20), .fa 3 (.t 3), none⟩,
 ⟨(some 21), .ld false 1 (.t 20), none⟩,
 ⟨(some 22), .fa 4 (.t 3), none⟩,
 ⟨(some 23), .ld false 1 (.t 22), none⟩,
 ⟨(some 24), .buildS (some 2) 1 4 [(.int .i64 0)] [(0, (.t 17)), (1, (.t 19)), (2, (.t 21)), (3, (.t 23))], none⟩,
 ⟨(some 6), .mv (.t 24), none⟩])
 c_regletref10_one_37)

def c_regletref10_one_39 : CCode :=
  (.seq (.seq (.region [
 ⟨(some 14), .mv (.t 5), none⟩,
 ⟨(some 15), .bin .eql (.t 14) (.c (.str [])), none⟩])
 (.cond (.t 15)
 (.seq (.region [
  ⟨(some 4), .mv (.c (.bool false)), none⟩])
  .ret)
 .skip))
 c_regletref10_one_38)

def c_regletref10_one_40 : CCode :=
  (.seq (.region [
 ⟨(some 11), .fa 0 (.t 3), none⟩,
 ⟨(some 12), .ld false 1 (.t 11), none⟩,
 ⟨(some 13), .call none true 38 [(.t 12)], none⟩,
 ⟨(some 5), .mv (.t 13), none⟩])
 c_regletref10_one_39)

def c_regletref10_one_41 : CCode :=
  (.seq (.region [
 ⟨(some 2), .box (some 0) (.t 0), none⟩,
 ⟨(some 3), .box (some 1) (.t 1), none⟩,
 ⟨(some 4), .mv (.c (.bool false)), none⟩])
 c_regletref10_one_40)

def c_regletref10_one : CFunc :=
  ⟨2, true, 3, c_regletref10_one_41, [.t 4]⟩

def c_regletref10_place_1 : CCode :=
  (.seq (.region [
 ⟨(some 2), .box (some 0) (.t 0), none⟩,
 ⟨(some 4), .mv (.c (.bool false)), none⟩])
 (.seq (.region [
 ⟨(some 5), .mv (.t 1), none⟩,
 ⟨(some 6), .bin .geq (.t 5) (.c (.int .i64 0)), none⟩,
 ⟨(some 7), .mv (.t 6), none⟩,
 ⟨(some 8), .mv (.t 1), (some (7, true))⟩,
 ⟨(some 9), .fa 3 (.t 2), (some (7, true))⟩,
 ⟨(some 10), .ld false 1 (.t 9), (some (7, true))⟩,
 ⟨(some 11), .len 1 (.t 10), (some (7, true))⟩,
 ⟨(some 12), .bin .lss (.t 8) (.t 11), (some (7, true))⟩,
 ⟨(some 13), .pick (.t 7) (.t 12) (.c (.bool false)), none⟩,
 ⟨(some 4), .mv (.t 13), none⟩])
 .ret))

def c_regletref10_place : CFunc :=
  ⟨2, true, 1, c_regletref10_place_1, [.t 4]⟩

def c_regletref02_Name_1 : CCode :=
  (.seq (.region [
 ⟨(some 24), .mv (.t 0), none⟩,
 ⟨(some 25), .bin .neq (.t 24) (.c (.str [])), none⟩,
 ⟨(some 26), .mv (.t 25), none⟩,
 ⟨(some 27), .mv (.t 0), (some (26, true))⟩,
 ⟨(some 28), .len 0 (.t 27), (some (26, true))⟩,
 ⟨(some 29), .bin .leq (.t 28) (.c (.int .i64 60)), (some (26, true))⟩,
 ⟨(some 30), .pick (.t 26) (.t 29) (.c (.bool false)), none⟩,
 ⟨(some 4), .mv (.t 30), none⟩])
 .ret)

def c_regletref02_Name_3 : CCode :=
  (.region [
 ⟨(some 14), .mv (.t 6), none⟩,
 ⟨(some 15), .bin .add (.t 14) (.c (.int .i64 1)), none⟩,
 ⟨(some 6), .mv (.t 15), none⟩])

def c_regletref02_Name_4 : CCode :=
  (.seq (.block 1 (.seq (.region [
 ⟨(some 16), .mv (.t 5), none⟩,
 ⟨(some 17), .mv (.t 0), none⟩,
 ⟨(some 18), .mv (.t 6), none⟩,
 ⟨(some 19), .mv (.t 6), none⟩,
 ⟨(some 20), .bin .add (.t 19) (.c (.int .i64 1)), none⟩,
 ⟨(some 21), .sls (.t 17) (some (.t 18)) (some (.t 20)), none⟩,
 ⟨(some 22), .call none true 53 [(.t 16), (.t 21)], none⟩,
 ⟨(some 23), .un .not (.t 22), none⟩])
 (.cond (.t 23)
 (.seq (.region [
  ⟨(some 4), .mv (.c (.bool false)), none⟩])
  .ret)
 .skip)))
 c_regletref02_Name_3)

def c_regletref02_Name_5 : CCode :=
  (.seq (.seq (.region [
 ⟨(some 10), .mv (.t 6), none⟩,
 ⟨(some 11), .mv (.t 0), none⟩,
 ⟨(some 12), .len 0 (.t 11), none⟩,
 ⟨(some 13), .bin .lss (.t 10) (.t 12), none⟩])
 (.cond (.t 13)
 .skip
 (.exit 0)))
 c_regletref02_Name_4)

def c_regletref02_Name_L2 : CCode :=
  (.loop [0, 5, 6] c_regletref02_Name_5)

def c_regletref02_Name_6 : CCode :=
  (.block 0 c_regletref02_Name_L2)

def c_regletref02_Name_7 : CCode :=
  (.seq (.region [
 ⟨(some 6), .mv (.c (.int .i64 0)), none⟩])
 c_regletref02_Name_6)

def c_regletref02_Name_8 : CCode :=
  (.seq c_regletref02_Name_7
 c_regletref02_Name_1)

def c_regletref02_Name_9 : CCode :=
  (.seq (.seq (.region [
 ⟨(some 7), .mv (.t 1), none⟩])
 (.cond (.t 7)
 (.region [
  ⟨(some 8), .mv (.t 5), none⟩,
  ⟨(some 9), .bin .add (.t 8) (.c (.str [60, 62])), none⟩,
  ⟨(some 5), .mv (.t 9), none⟩])
 .skip))
 c_regletref02_Name_8)

def c_regletref02_Name_10 : CCode :=
  (.seq (.region [
 ⟨(some 5), .mv (.c (.str [97, 98, 99, 100, 101, 102, 103, 104, 105, 106, 107, 108, 109, 110, 111, 112, 113, 114, 115, 116, 117, 118, 119, 120, 121, 122, 65, 66, 67, 68, 69, 70, 71, 72, 73, 74, 75, 76, 77, 78, 79, 80, 81, 82, 83, 84, 85, 86, 87, 88, 89, 90, 48, 49, 50, 51, 52, 53, 54, 55, 56, 57, 95, 36, 47])), none⟩])
 c_regletref02_Name_9)

def c_regletref02_Name_11 : CCode :=
  (.seq (.region [
 ⟨(some 4), .mv (.c (.bool false)), none⟩])
 c_regletref02_Name_10)

def c_regletref02_Name : CFunc :=
  ⟨2, true, 0, c_regletref02_Name_11, [.t 4]⟩

def c_regletref02_Type_1 : CCode :=
  (.seq (.region [
 ⟨(some 27), .mv (.t 0), none⟩,
 ⟨(some 28), .len 0 (.t 27), none⟩,
 ⟨(some 29), .bin .gtr (.t 28) (.c (.int .i64 2)), none⟩,
 ⟨(some 30), .mv (.t 29), none⟩,
 ⟨(some 31), .mv (.t 0), (some (30, true))⟩,
 ⟨(some 32), .ixstr (.t 31) (.c (.int .i64 0)), (some (30, true))⟩,
 ⟨(some 33), .bin .eql (.t 32) (.c (.int .u8 76)), (some (30, true))⟩,
 ⟨(some 34), .pick (.t 30) (.t 33) (.c (.bool false)), none⟩,
 ⟨(some 35), .mv (.t 34), none⟩,
 ⟨(some 36), .mv (.t 0), (some (35, true))⟩,
 ⟨(some 37), .mv (.t 0), (some (35, true))⟩,
 ⟨(some 38), .len 0 (.t 37), (some (35, true))⟩,
 ⟨(some 39), .bin .sub (.t 38) (.c (.int .i64 1)), (some (35, true))⟩,
 ⟨(some 40), .ixstr (.t 36) (.t 39), (some (35, true))⟩,
 ⟨(some 41), .bin .eql (.t 40) (.c (.int .u8 59)), (some (35, true))⟩,
 ⟨(some 42), .pick (.t 35) (.t 41) (.c (.bool false)), none⟩,
 ⟨(some 43), .mv (.t 42), none⟩,
 ⟨(some 44), .mv (.t 0), (some (43, true))⟩,
 ⟨(some 45), .mv (.t 0), (some (43, true))⟩,
 ⟨(some 46), .len 0 (.t 45), (some (43, true))⟩,
 ⟨(some 47), .bin .sub (.t 46) (.c (.int .i64 1)), (some (43, true))⟩,
 ⟨(some 48), .sls (.t 44) (some (.c (.int .i64 1))) (some (.t 47)), (some (43, true))⟩,
 ⟨(some 49), .call none true 69 [(.t 48), (.c (.bool false))], (some (43, true))⟩,
 ⟨(some 50), .pick (.t 43) (.t 49) (.c (.bool false)), none⟩,
 ⟨(some 2), .mv (.t 50), none⟩])
 .ret)

def c_regletref02_Type_2 : CCode :=
  (.seq (.seq (.region [
 ⟨(some 21), .mv (.t 0), none⟩,
 ⟨(some 22), .bin .eql (.t 21) (.c (.str [73])), none⟩,
 ⟨(some 23), .mv (.t 22), none⟩,
 ⟨(some 24), .mv (.t 0), (some (23, false))⟩,
 ⟨(some 25), .bin .eql (.t 24) (.c (.str [74])), (some (23, false))⟩,
 ⟨(some 26), .pick (.t 23) (.c (.bool true)) (.t 25), none⟩])
 (.cond (.t 26)
 (.seq (.region [
  ⟨(some 2), .mv (.c (.bool true)), none⟩])
  .ret)
 .skip))
 c_regletref02_Type_1)

def c_regletref02_Type_3 : CCode :=
  (.seq (.seq (.region [
 ⟨(some 19), .mv (.t 3), none⟩,
 ⟨(some 20), .bin .gtr (.t 19) (.c (.int .i64 8)), none⟩])
 (.cond (.t 20)
 (.seq (.region [
  ⟨(some 2), .mv (.c (.bool false)), none⟩])
  .ret)
 .skip))
 c_regletref02_Type_2)

def c_regletref02_Type_4 : CCode :=
  (.seq (.region [
 ⟨(some 16), .mv (.t 0), none⟩,
 ⟨(some 17), .mv (.t 3), none⟩,
 ⟨(some 18), .sls (.t 16) (some (.t 17)) none, none⟩,
 ⟨(some 0), .mv (.t 18), none⟩])
 c_regletref02_Type_3)

def c_regletref02_Type_6 : CCode :=
  (.block 1 (.region [
 ⟨(some 14), .mv (.t 3), none⟩,
 ⟨(some 15), .bin .add (.t 14) (.c (.int .i64 1)), none⟩,
 ⟨(some 3), .mv (.t 15), none⟩]))

def c_regletref02_Type_7 : CCode :=
  (.seq (.seq (.region [
 ⟨(some 4), .mv (.t 3), none⟩,
 ⟨(some 5), .mv (.t 0), none⟩,
 ⟨(some 6), .len 0 (.t 5), none⟩,
 ⟨(some 7), .bin .lss (.t 4) (.t 6), none⟩,
 ⟨(some 8), .mv (.t 7), none⟩,
 ⟨(some 9), .mv (.t 0), (some (8, true))⟩,
 ⟨(some 10), .mv (.t 3), (some (8, true))⟩,
 ⟨(some 11), .ixstr (.t 9) (.t 10), (some (8, true))⟩,
 ⟨(some 12), .bin .eql (.t 11) (.c (.int .u8 91)), (some (8, true))⟩,
 ⟨(some 13), .pick (.t 8) (.t 12) (.c (.bool false)), none⟩])
 (.cond (.t 13)
 .skip
 (.exit 0)))
 c_regletref02_Type_6)

def c_regletref02_Type_L5 : CCode :=
  (.loop [0, 3] c_regletref02_Type_7)

def c_regletref02_Type_8 : CCode :=
  (.block 0 c_regletref02_Type_L5)

def c_regletref02_Type_9 : CCode :=
  (.seq c_regletref02_Type_8
 c_regletref02_Type_4)

def c_regletref02_Type_10 : CCode :=
  (.seq (.region [
 ⟨(some 3), .mv (.c (.int .i64 0)), none⟩])
 c_regletref02_Type_9)

def c_regletref02_Type_11 : CCode :=
  (.seq (.region [
 ⟨(some 2), .mv (.c (.bool false)), none⟩])
 c_regletref02_Type_10)

def c_regletref02_Type : CFunc :=
  ⟨1, true, 0, c_regletref02_Type_11, [.t 2]⟩

def c_desc_take_1 : CCode :=
  (.seq (.region [
 ⟨(some 2), .mv (.c (.int .i64 0)), none⟩])
 .ret)

def c_desc_take_3 : CCode :=
  (.region [
 ⟨(some 41), .mv (.t 4), none⟩,
 ⟨(some 42), .bin .add (.t 41) (.c (.int .i64 1)), none⟩,
 ⟨(some 4), .mv (.t 42), none⟩])

def c_desc_take_4 : CCode :=
  (.seq (.region [
 ⟨(some 2), .mv (.c (.int .i64 0)), none⟩])
 .ret)

def c_desc_take_5 : CCode :=
  (.seq (.seq (.region [
 ⟨(some 47), .mv (.t 0), none⟩,
 ⟨(some 48), .mv (.t 3), none⟩,
 ⟨(some 49), .bin .add (.t 48) (.c (.int .i64 1)), none⟩,
 ⟨(some 50), .mv (.t 4), none⟩,
 ⟨(some 51), .sls (.t 47) (some (.t 49)) (some (.t 50)), none⟩,
 ⟨(some 52), .call none true 60 [(.t 51), (.c (.bool false))], none⟩])
 (.cond (.t 52)
 (.seq (.region [
  ⟨(some 53), .mv (.t 4), none⟩,
  ⟨(some 54), .bin .add (.t 53) (.c (.int .i64 1)), none⟩,
  ⟨(some 2), .mv (.t 54), none⟩])
  .ret)
 .skip))
 c_desc_take_4)

def c_desc_take_6 : CCode :=
  (.cond (.t 46)
 c_desc_take_5
 .skip)

def c_desc_take_7 : CCode :=
  (.seq (.region [
 ⟨(some 43), .mv (.t 0), none⟩,
 ⟨(some 44), .mv (.t 4), none⟩,
 ⟨(some 45), .ixstr (.t 43) (.t 44), none⟩,
 ⟨(some 46), .bin .eql (.t 45) (.c (.int .u8 59)), none⟩])
 c_desc_take_6)

def c_desc_take_8 : CCode :=
  (.block 4 c_desc_take_7)

def c_desc_take_9 : CCode :=
  (.seq c_desc_take_8
 c_desc_take_3)

def c_desc_take_10 : CCode :=
  (.seq (.seq (.region [
 ⟨(some 37), .mv (.t 4), none⟩,
 ⟨(some 38), .mv (.t 0), none⟩,
 ⟨(some 39), .len 0 (.t 38), none⟩,
 ⟨(some 40), .bin .lss (.t 37) (.t 39), none⟩])
 (.cond (.t 40)
 .skip
 (.exit 3)))
 c_desc_take_9)

def c_desc_take_L2 : CCode :=
  (.loop [0, 3, 4] c_desc_take_10)

def c_desc_take_11 : CCode :=
  (.block 3 c_desc_take_L2)

def c_desc_take_12 : CCode :=
  (.seq (.region [
 ⟨(some 35), .mv (.t 3), none⟩,
 ⟨(some 36), .bin .add (.t 35) (.c (.int .i64 1)), none⟩,
 ⟨(some 4), .mv (.t 36), none⟩])
 c_desc_take_11)

def c_desc_take_13 : CCode :=
  (.cond (.t 33)
 c_desc_take_12
 .skip)

def c_desc_take_14 : CCode :=
  (.seq (.region [
 ⟨(some 34), .bin .eql (.t 27) (.c (.int .u8 76)), none⟩,
 ⟨(some 33), .mv (.t 34), none⟩])
 c_desc_take_13)

def c_desc_take_15 : CCode :=
  (.cond (.t 28)
 (.seq (.region [
  ⟨(some 31), .mv (.t 3), none⟩,
  ⟨(some 32), .bin .add (.t 31) (.c (.int .i64 1)), none⟩,
  ⟨(some 2), .mv (.t 32), none⟩])
  .ret)
 c_desc_take_14)

def c_desc_take_16 : CCode :=
  (.seq (.seq (.region [
 ⟨(some 29), .bin .eql (.t 27) (.c (.int .u8 73)), none⟩,
 ⟨(some 28), .mv (.t 29), none⟩])
 (.cond (.t 28)
 .skip
 (.region [
  ⟨(some 30), .bin .eql (.t 27) (.c (.int .u8 74)), none⟩,
  ⟨(some 28), .mv (.t 30), none⟩])))
 c_desc_take_15)

def c_desc_take_17 : CCode :=
  (.block 2 c_desc_take_16)

def c_desc_take_18 : CCode :=
  (.seq (.region [
 ⟨(some 25), .mv (.t 0), none⟩,
 ⟨(some 26), .mv (.t 3), none⟩,
 ⟨(some 27), .ixstr (.t 25) (.t 26), none⟩])
 c_desc_take_17)

def c_desc_take_19 : CCode :=
  (.seq c_desc_take_18
 c_desc_take_1)

def c_desc_take_20 : CCode :=
  (.seq (.seq (.region [
 ⟨(some 17), .mv (.t 3), none⟩,
 ⟨(some 18), .bin .gtr (.t 17) (.c (.int .i64 8)), none⟩,
 ⟨(some 19), .mv (.t 18), none⟩,
 ⟨(some 20), .mv (.t 3), (some (19, false))⟩,
 ⟨(some 21), .mv (.t 0), (some (19, false))⟩,
 ⟨(some 22), .len 0 (.t 21), (some (19, false))⟩,
 ⟨(some 23), .bin .eql (.t 20) (.t 22), (some (19, false))⟩,
 ⟨(some 24), .pick (.t 19) (.c (.bool true)) (.t 23), none⟩])
 (.cond (.t 24)
 (.seq (.region [
  ⟨(some 2), .mv (.c (.int .i64 0)), none⟩])
  .ret)
 .skip))
 c_desc_take_19)

def c_desc_take_22 : CCode :=
  (.block 1 (.region [
 ⟨(some 15), .mv (.t 3), none⟩,
 ⟨(some 16), .bin .add (.t 15) (.c (.int .i64 1)), none⟩,
 ⟨(some 3), .mv (.t 16), none⟩]))

def c_desc_take_23 : CCode :=
  (.seq (.seq (.region [
 ⟨(some 5), .mv (.t 3), none⟩,
 ⟨(some 6), .mv (.t 0), none⟩,
 ⟨(some 7), .len 0 (.t 6), none⟩,
 ⟨(some 8), .bin .lss (.t 5) (.t 7), none⟩,
 ⟨(some 9), .mv (.t 8), none⟩,
 ⟨(some 10), .mv (.t 0), (some (9, true))⟩,
 ⟨(some 11), .mv (.t 3), (some (9, true))⟩,
 ⟨(some 12), .ixstr (.t 10) (.t 11), (some (9, true))⟩,
 ⟨(some 13), .bin .eql (.t 12) (.c (.int .u8 91)), (some (9, true))⟩,
 ⟨(some 14), .pick (.t 9) (.t 13) (.c (.bool false)), none⟩])
 (.cond (.t 14)
 .skip
 (.exit 0)))
 c_desc_take_22)

def c_desc_take_L21 : CCode :=
  (.loop [0, 3] c_desc_take_23)

def c_desc_take_24 : CCode :=
  (.block 0 c_desc_take_L21)

def c_desc_take_25 : CCode :=
  (.seq c_desc_take_24
 c_desc_take_20)

def c_desc_take_26 : CCode :=
  (.seq (.region [
 ⟨(some 3), .mv (.c (.int .i64 0)), none⟩])
 c_desc_take_25)

def c_desc_take_27 : CCode :=
  (.seq (.region [
 ⟨(some 2), .mv (.c (.int .i64 0)), none⟩])
 c_desc_take_26)

def c_desc_take : CFunc :=
  ⟨1, true, 0, c_desc_take_27, [.t 2]⟩

def c_slices_Index_int_int_1 : CCode :=
  (.seq (.region [
 ⟨(some 4), .mv (.c (.int .i64 (-1))), none⟩])
 .ret)

def c_slices_Index_int_int_3 : CCode :=
  (.region [
 ⟨(some 18), .bin .add (.t 8) (.c (.int .i64 1)), none⟩,
 ⟨(some 8), .mv (.t 18), none⟩])

def c_slices_Index_int_int_4 : CCode :=
  (.seq (.block 1 (.seq (.region [
 ⟨(some 10), .mv (.t 8), none⟩,
 ⟨(some 5), .mv (.t 10), none⟩])
 (.seq (.region [
 ⟨(some 11), .mv (.t 1), none⟩,
 ⟨(some 12), .mv (.t 0), none⟩,
 ⟨(some 13), .mv (.t 5), none⟩,
 ⟨(some 14), .ixs 1 (.t 12) (.t 13), none⟩,
 ⟨(some 15), .ld false 1 (.t 14), none⟩,
 ⟨(some 16), .bin .eql (.t 11) (.t 15), none⟩])
 (.cond (.t 16)
 (.seq (.region [
  ⟨(some 17), .mv (.t 5), none⟩,
  ⟨(some 4), .mv (.t 17), none⟩])
  .ret)
 .skip))))
 c_slices_Index_int_int_3)

def c_slices_Index_int_int_5 : CCode :=
  (.seq (.cond (.t 9)
 .skip
 (.exit 0))
 c_slices_Index_int_int_4)

def c_slices_Index_int_int_6 : CCode :=
  (.seq (.region [
 ⟨(some 9), .bin .lss (.t 8) (.t 7), none⟩])
 c_slices_Index_int_int_5)

def c_slices_Index_int_int_L2 : CCode :=
  (.loop [0, 1, 7, 8] c_slices_Index_int_int_6)

def c_slices_Index_int_int_7 : CCode :=
  (.block 0 c_slices_Index_int_int_L2)

def c_slices_Index_int_int_8 : CCode :=
  (.seq (.region [
 ⟨(some 6), .mv (.t 0), none⟩,
 ⟨(some 7), .len 1 (.t 6), none⟩,
 ⟨(some 8), .mv (.c (.int .i64 0)), none⟩])
 c_slices_Index_int_int_7)

def c_slices_Index_int_int_9 : CCode :=
  (.seq c_slices_Index_int_int_8
 c_slices_Index_int_int_1)

def c_slices_Index_int_int_10 : CCode :=
  (.seq (.region [
 ⟨(some 4), .mv (.c (.int .i64 0)), none⟩])
 c_slices_Index_int_int_9)

def c_slices_Index_int_int : CFunc :=
  ⟨2, true, 0, c_slices_Index_int_int_10, [.t 4]⟩

def c_ins_kinds_1 : CCode :=
  (.seq (.region [
 ⟨(some 138), .ld true 9 (.t 1), none⟩,
 ⟨(some 139), .call none true 51 [(.t 138)], none⟩,
 ⟨(some 140), .ext 0 (.t 139), none⟩,
 ⟨(some 141), .ext 1 (.t 139), none⟩,
 ⟨none, .st 4 (.t 2) (.t 140), none⟩,
 ⟨(some 3), .mv (.t 141), none⟩])
 .ret)

def c_ins_kinds_2 : CCode :=
  (.cond (.t 134)
 (.seq (.region [
  ⟨(some 137), .build [(.int .i64 0), (.int .i64 0), (.int .i64 0), (.int .i64 0)] [(0, 1, (.c (.int .i64 (-1)))), (1, 1, (.c (.int .i64 (-1)))), (2, 1, (.c (.int .i64 (-1)))), (3, 1, (.c (.int .i64 (-1))))], none⟩,
  ⟨none, .st 4 (.t 2) (.t 137), none⟩,
  ⟨(some 3), .mv (.c (.bool true)), none⟩])
  .ret)
 .skip)

def c_ins_kinds_3 : CCode :=
  (.seq (.seq (.region [
 ⟨(some 135), .bin .eql (.t 11) (.c (.int .i64 27)), none⟩,
 ⟨(some 134), .mv (.t 135), none⟩])
 (.cond (.t 134)
 .skip
 (.region [
  ⟨(some 136), .bin .eql (.t 11) (.c (.int .i64 33)), none⟩,
  ⟨(some 134), .mv (.t 136), none⟩])))
 c_ins_kinds_2)

def c_ins_kinds_4 : CCode :=
  (.cond (.t 123)
 (.seq (.draw [
  ⟨(some 125), .build [(.int .i64 0), (.int .i64 0), (.int .i64 0), (.int .i64 0)] [(0, 1, (.c (.int .i64 (-1)))), (1, 1, (.c (.int .i64 1))), (2, 1, (.c (.int .i64 1))), (3, 1, (.c (.int .i64 (-1))))], none⟩,
  ⟨(some 126), .fa 5 (.t 1), none⟩,
  ⟨(some 127), .ld false 1 (.t 126), none⟩,
  ⟨(some 128), .bin .geq (.t 127) (.c (.int .i64 0)), none⟩,
  ⟨(some 129), .mv (.t 128), none⟩,
  ⟨(some 130), .fa 5 (.t 1), (some (129, true))⟩,
  ⟨(some 131), .ld false 1 (.t 130), (some (129, true))⟩,
  ⟨(some 132), .bin .leq (.t 131) (.c (.int .i64 5)), (some (129, true))⟩,
  ⟨(some 133), .pick (.t 129) (.t 132) (.c (.bool false)), none⟩,
  ⟨none, .st 4 (.t 2) (.t 125), none⟩,
  ⟨(some 3), .mv (.t 133), none⟩] [(6, 9)])
  .ret)
 c_ins_kinds_3)

def c_ins_kinds_5 : CCode :=
  (.seq (.region [
 ⟨(some 124), .bin .eql (.t 11) (.c (.int .i64 28)), none⟩,
 ⟨(some 123), .mv (.t 124), none⟩])
 c_ins_kinds_4)

def c_ins_kinds_6 : CCode :=
  (.cond (.t 117)
 (.seq (.region [
  ⟨(some 119), .build [(.int .i64 0), (.int .i64 0), (.int .i64 0), (.int .i64 0)] [(0, 1, (.c (.int .i64 3))), (1, 1, (.c (.int .i64 1))), (2, 1, (.c (.int .i64 (-1)))), (3, 1, (.c (.int .i64 (-1))))], none⟩,
  ⟨(some 120), .fa 7 (.t 1), none⟩,
  ⟨(some 121), .ld false 1 (.t 120), none⟩,
  ⟨(some 122), .call none true 37 [(.t 121)], none⟩,
  ⟨none, .st 4 (.t 2) (.t 119), none⟩,
  ⟨(some 3), .mv (.t 122), none⟩])
  .ret)
 c_ins_kinds_5)

def c_ins_kinds_7 : CCode :=
  (.seq (.region [
 ⟨(some 118), .bin .eql (.t 11) (.c (.int .i64 21)), none⟩,
 ⟨(some 117), .mv (.t 118), none⟩])
 c_ins_kinds_6)

def c_ins_kinds_8 : CCode :=
  (.cond (.t 114)
 (.seq (.region [
  ⟨(some 116), .build [(.int .i64 0), (.int .i64 0), (.int .i64 0), (.int .i64 0)] [(0, 1, (.c (.int .i64 (-1)))), (1, 1, (.c (.int .i64 0))), (2, 1, (.c (.int .i64 (-1)))), (3, 1, (.c (.int .i64 (-1))))], none⟩,
  ⟨none, .st 4 (.t 2) (.t 116), none⟩,
  ⟨(some 3), .mv (.c (.bool true)), none⟩])
  .ret)
 c_ins_kinds_7)

def c_ins_kinds_9 : CCode :=
  (.seq (.region [
 ⟨(some 115), .bin .eql (.t 11) (.c (.int .i64 19)), none⟩,
 ⟨(some 114), .mv (.t 115), none⟩])
 c_ins_kinds_8)

def c_ins_kinds_10 : CCode :=
  (.cond (.t 108)
 (.seq (.draw [
  ⟨(some 110), .build [(.int .i64 0), (.int .i64 0), (.int .i64 0), (.int .i64 0)] [(0, 1, (.c (.int .i64 (-1)))), (1, 1, (.c (.int .i64 3))), (2, 1, (.c (.int .i64 0))), (3, 1, (.c (.int .i64 (-1))))], none⟩,
  ⟨(some 111), .fa 5 (.t 1), none⟩,
  ⟨(some 112), .ld false 1 (.t 111), none⟩,
  ⟨(some 113), .bin .geq (.t 112) (.c (.int .i64 0)), none⟩,
  ⟨none, .st 4 (.t 2) (.t 110), none⟩,
  ⟨(some 3), .mv (.t 113), none⟩] [(2, 4)])
  .ret)
 c_ins_kinds_9)

def c_ins_kinds_11 : CCode :=
  (.seq (.region [
 ⟨(some 109), .bin .eql (.t 11) (.c (.int .i64 17)), none⟩,
 ⟨(some 108), .mv (.t 109), none⟩])
 c_ins_kinds_10)

def c_ins_kinds_12 : CCode :=
  (.cond (.t 102)
 (.seq (.draw [
  ⟨(some 104), .build [(.int .i64 0), (.int .i64 0), (.int .i64 0), (.int .i64 0)] [(0, 1, (.c (.int .i64 0))), (1, 1, (.c (.int .i64 3))), (2, 1, (.c (.int .i64 (-1)))), (3, 1, (.c (.int .i64 (-1))))], none⟩,
  ⟨(some 105), .fa 5 (.t 1), none⟩,
  ⟨(some 106), .ld false 1 (.t 105), none⟩,
  ⟨(some 107), .bin .geq (.t 106) (.c (.int .i64 0)), none⟩,
  ⟨none, .st 4 (.t 2) (.t 104), none⟩,
  ⟨(some 3), .mv (.t 107), none⟩] [(2, 4)])
  .ret)
 c_ins_kinds_11)

def c_ins_kinds_13 : CCode :=
  (.seq (.region [
 ⟨(some 103), .bin .eql (.t 11) (.c (.int .i64 16)), none⟩,
 ⟨(some 102), .mv (.t 103), none⟩])
 c_ins_kinds_12)

def c_ins_kinds_14 : CCode :=
  (.cond (.t 99)
 (.seq (.region [
  ⟨(some 101), .build [(.int .i64 0), (.int .i64 0), (.int .i64 0), (.int .i64 0)] [(0, 1, (.c (.int .i64 1))), (1, 1, (.c (.int .i64 3))), (2, 1, (.c (.int .i64 (-1)))), (3, 1, (.c (.int .i64 (-1))))], none⟩,
  ⟨none, .st 4 (.t 2) (.t 101), none⟩,
  ⟨(some 3), .mv (.c (.bool true)), none⟩])
  .ret)
 c_ins_kinds_13)

def c_ins_kinds_15 : CCode :=
  (.seq (.region [
 ⟨(some 100), .bin .eql (.t 11) (.c (.int .i64 15)), none⟩,
 ⟨(some 99), .mv (.t 100), none⟩])
 c_ins_kinds_14)

def c_ins_kinds_16 : CCode :=
  (.cond (.t 96)
 (.seq (.region [
  ⟨(some 98), .build [(.int .i64 0), (.int .i64 0), (.int .i64 0), (.int .i64 0)] [(0, 1, (.c (.int .i64 (-1)))), (1, 1, (.c (.int .i64 3))), (2, 1, (.c (.int .i64 1))), (3, 1, (.c (.int .i64 0)))], none⟩,
  ⟨none, .st 4 (.t 2) (.t 98), none⟩,
  ⟨(some 3), .mv (.c (.bool true)), none⟩])
  .ret)
 c_ins_kinds_15)

def c_ins_kinds_17 : CCode :=
  (.seq (.region [
 ⟨(some 97), .bin .eql (.t 11) (.c (.int .i64 14)), none⟩,
 ⟨(some 96), .mv (.t 97), none⟩])
 c_ins_kinds_16)

def c_ins_kinds_18 : CCode :=
  (.cond (.t 93)
 (.seq (.region [
  ⟨(some 95), .build [(.int .i64 0), (.int .i64 0), (.int .i64 0), (.int .i64 0)] [(0, 1, (.c (.int .i64 0))), (1, 1, (.c (.int .i64 3))), (2, 1, (.c (.int .i64 1))), (3, 1, (.c (.int .i64 (-1))))], none⟩,
  ⟨none, .st 4 (.t 2) (.t 95), none⟩,
  ⟨(some 3), .mv (.c (.bool true)), none⟩])
  .ret)
 c_ins_kinds_17)

def c_ins_kinds_19 : CCode :=
  (.seq (.region [
 ⟨(some 94), .bin .eql (.t 11) (.c (.int .i64 13)), none⟩,
 ⟨(some 93), .mv (.t 94), none⟩])
 c_ins_kinds_18)

def c_ins_kinds_20 : CCode :=
  (.cond (.t 90)
 (.seq (.region [
  ⟨(some 92), .build [(.int .i64 0), (.int .i64 0), (.int .i64 0), (.int .i64 0)] [(0, 1, (.c (.int .i64 (-1)))), (1, 1, (.c (.int .i64 3))), (2, 1, (.c (.int .i64 3))), (3, 1, (.c (.int .i64 (-1))))], none⟩,
  ⟨none, .st 4 (.t 2) (.t 92), none⟩,
  ⟨(some 3), .mv (.c (.bool true)), none⟩])
  .ret)
 c_ins_kinds_19)

def c_ins_kinds_21 : CCode :=
  (.seq (.region [
 ⟨(some 91), .bin .eql (.t 11) (.c (.int .i64 11)), none⟩,
 ⟨(some 90), .mv (.t 91), none⟩])
 c_ins_kinds_20)

def c_ins_kinds_22 : CCode :=
  (.cond (.t 87)
 (.seq (.region [
  ⟨(some 89), .build [(.int .i64 0), (.int .i64 0), (.int .i64 0), (.int .i64 0)] [(0, 1, (.c (.int .i64 (-1)))), (1, 1, (.c (.int .i64 1))), (2, 1, (.c (.int .i64 (-1)))), (3, 1, (.c (.int .i64 (-1))))], none⟩,
  ⟨none, .st 4 (.t 2) (.t 89), none⟩,
  ⟨(some 3), .mv (.c (.bool true)), none⟩])
  .ret)
 c_ins_kinds_21)

def c_ins_kinds_23 : CCode :=
  (.seq (.region [
 ⟨(some 88), .bin .eql (.t 11) (.c (.int .i64 10)), none⟩,
 ⟨(some 87), .mv (.t 88), none⟩])
 c_ins_kinds_22)

def c_ins_kinds_24 : CCode :=
  (.cond (.t 84)
 (.seq (.region [
  ⟨(some 86), .build [(.int .i64 0), (.int .i64 0), (.int .i64 0), (.int .i64 0)] [(0, 1, (.c (.int .i64 (-1)))), (1, 1, (.c (.int .i64 3))), (2, 1, (.c (.int .i64 1))), (3, 1, (.c (.int .i64 (-1))))], none⟩,
  ⟨none, .st 4 (.t 2) (.t 86), none⟩,
  ⟨(some 3), .mv (.c (.bool true)), none⟩])
  .ret)
 c_ins_kinds_23)

def c_ins_kinds_25 : CCode :=
  (.seq (.region [
 ⟨(some 85), .bin .eql (.t 11) (.c (.int .i64 9)), none⟩,
 ⟨(some 84), .mv (.t 85), none⟩])
 c_ins_kinds_24)

def c_ins_kinds_26 : CCode :=
  (.cond (.t 78)
 (.seq (.region [
  ⟨(some 80), .build [(.int .i64 0), (.int .i64 0), (.int .i64 0), (.int .i64 0)] [(0, 1, (.c (.int .i64 1))), (1, 1, (.c (.int .i64 3))), (2, 1, (.c (.int .i64 (-1)))), (3, 1, (.c (.int .i64 (-1))))], none⟩,
  ⟨(some 81), .fa 7 (.t 1), none⟩,
  ⟨(some 82), .ld false 1 (.t 81), none⟩,
  ⟨(some 83), .call none true 37 [(.t 82)], none⟩,
  ⟨none, .st 4 (.t 2) (.t 80), none⟩,
  ⟨(some 3), .mv (.t 83), none⟩])
  .ret)
 c_ins_kinds_25)

def c_ins_kinds_27 : CCode :=
  (.seq (.region [
 ⟨(some 79), .bin .eql (.t 11) (.c (.int .i64 22)), none⟩,
 ⟨(some 78), .mv (.t 79), none⟩])
 c_ins_kinds_26)

def c_ins_kinds_28 : CCode :=
  (.cond (.t 72)
 (.seq (.region [
  ⟨(some 74), .build [(.int .i64 0), (.int .i64 0), (.int .i64 0), (.int .i64 0)] [(0, 1, (.c (.int .i64 (-1)))), (1, 1, (.c (.int .i64 3))), (2, 1, (.c (.int .i64 (-1)))), (3, 1, (.c (.int .i64 (-1))))], none⟩,
  ⟨(some 75), .fa 7 (.t 1), none⟩,
  ⟨(some 76), .ld false 1 (.t 75), none⟩,
  ⟨(some 77), .call none true 37 [(.t 76)], none⟩,
  ⟨none, .st 4 (.t 2) (.t 74), none⟩,
  ⟨(some 3), .mv (.t 77), none⟩])
  .ret)
 c_ins_kinds_27)

def c_ins_kinds_29 : CCode :=
  (.seq (.region [
 ⟨(some 73), .bin .eql (.t 11) (.c (.int .i64 12)), none⟩,
 ⟨(some 72), .mv (.t 73), none⟩])
 c_ins_kinds_28)

def c_ins_kinds_30 : CCode :=
  (.cond (.t 68)
 (.seq (.region [
  ⟨(some 71), .build [(.int .i64 0), (.int .i64 0), (.int .i64 0), (.int .i64 0)] [(0, 1, (.c (.int .i64 (-1)))), (1, 1, (.c (.int .i64 3))), (2, 1, (.c (.int .i64 (-1)))), (3, 1, (.c (.int .i64 (-1))))], none⟩,
  ⟨none, .st 4 (.t 2) (.t 71), none⟩,
  ⟨(some 3), .mv (.c (.bool true)), none⟩])
  .ret)
 c_ins_kinds_29)

def c_ins_kinds_31 : CCode :=
  (.seq (.seq (.region [
 ⟨(some 69), .bin .eql (.t 11) (.c (.int .i64 8)), none⟩,
 ⟨(some 68), .mv (.t 69), none⟩])
 (.cond (.t 68)
 .skip
 (.region [
  ⟨(some 70), .bin .eql (.t 11) (.c (.int .i64 31)), none⟩,
  ⟨(some 68), .mv (.t 70), none⟩])))
 c_ins_kinds_30)

def c_ins_kinds_32 : CCode :=
  (.cond (.t 65)
 (.seq (.region [
  ⟨(some 67), .build [(.int .i64 0), (.int .i64 0), (.int .i64 0), (.int .i64 0)] [(0, 1, (.c (.int .i64 (-1)))), (1, 1, (.c (.int .i64 0))), (2, 1, (.c (.int .i64 (-1)))), (3, 1, (.c (.int .i64 (-1))))], none⟩,
  ⟨none, .st 4 (.t 2) (.t 67), none⟩,
  ⟨(some 3), .mv (.c (.bool true)), none⟩])
  .ret)
 c_ins_kinds_31)

def c_ins_kinds_33 : CCode :=
  (.seq (.region [
 ⟨(some 66), .bin .eql (.t 11) (.c (.int .i64 7)), none⟩,
 ⟨(some 65), .mv (.t 66), none⟩])
 c_ins_kinds_32)

def c_ins_kinds_34 : CCode :=
  (.cond (.t 47)
 (.seq (.region [
  ⟨(some 50), .fa 5 (.t 1), none⟩,
  ⟨(some 51), .ld false 1 (.t 50), none⟩,
  ⟨(some 52), .call none true 50 [(.t 51)], none⟩,
  ⟨(some 49), .mv (.t 52), none⟩,
  ⟨(some 53), .ext 0 (.t 49), none⟩,
  ⟨(some 54), .ext 1 (.t 49), none⟩,
  ⟨(some 55), .ext 2 (.t 49), none⟩,
  ⟨(some 7), .mv (.t 53), none⟩,
  ⟨(some 8), .mv (.t 54), none⟩,
  ⟨(some 9), .mv (.t 55), none⟩])
  (.seq (.region [
  ⟨(some 56), .mv (.t 9), none⟩,
  ⟨(some 57), .mv (.t 7), none⟩,
  ⟨(some 58), .build [(.int .i64 0), (.int .i64 0), (.int .i64 0), (.int .i64 0)] [(0, 1, (.t 56)), (1, 1, (.t 57)), (2, 1, (.c (.int .i64 (-1)))), (3, 1, (.c (.int .i64 (-1))))], none⟩,
  ⟨(some 59), .mv (.t 7), none⟩,
  ⟨(some 60), .bin .neq (.t 59) (.c (.int .i64 0)), none⟩,
  ⟨(some 61), .mv (.t 60), none⟩,
  ⟨(some 62), .mv (.t 8), (some (61, true))⟩,
  ⟨(some 63), .bin .eql (.t 62) (.c (.int .i64 0)), (some (61, true))⟩,
  ⟨(some 64), .pick (.t 61) (.t 63) (.c (.bool false)), none⟩,
  ⟨none, .st 4 (.t 2) (.t 58), none⟩,
  ⟨(some 3), .mv (.t 64), none⟩])
  .ret))
 c_ins_kinds_33)

def c_ins_kinds_35 : CCode :=
  (.seq (.region [
 ⟨(some 48), .bin .eql (.t 11) (.c (.int .i64 6)), none⟩,
 ⟨(some 47), .mv (.t 48), none⟩])
 c_ins_kinds_34)

def c_ins_kinds_36 : CCode :=
  (.cond (.t 25)
 (.seq (.region [
  ⟨(some 28), .fa 5 (.t 1), none⟩,
  ⟨(some 29), .ld false 1 (.t 28), none⟩,
  ⟨(some 30), .call none true 50 [(.t 29)], none⟩,
  ⟨(some 27), .mv (.t 30), none⟩,
  ⟨(some 31), .ext 0 (.t 27), none⟩,
  ⟨(some 32), .ext 1 (.t 27), none⟩,
  ⟨(some 33), .ext 2 (.t 27), none⟩,
  ⟨(some 4), .mv (.t 31), none⟩,
  ⟨(some 5), .mv (.t 32), none⟩,
  ⟨(some 6), .mv (.t 33), none⟩])
  (.seq (.region [
  ⟨(some 34), .mv (.t 6), none⟩,
  ⟨(some 35), .mv (.t 4), none⟩,
  ⟨(some 36), .mv (.t 5), none⟩,
  ⟨(some 37), .build [(.int .i64 0), (.int .i64 0), (.int .i64 0), (.int .i64 0)] [(0, 1, (.t 34)), (1, 1, (.t 35)), (2, 1, (.t 36)), (3, 1, (.c (.int .i64 (-1))))], none⟩,
  ⟨(some 38), .fa 5 (.t 1), none⟩,
  ⟨(some 39), .ld false 1 (.t 38), none⟩,
  ⟨(some 40), .fa 5 (.t 1), none⟩,
  ⟨(some 41), .ld false 1 (.t 40), none⟩,
  ⟨(some 42), .bin .eql (.t 39) (.t 41), none⟩,
  ⟨(some 43), .mv (.t 42), none⟩,
  ⟨(some 44), .mv (.t 5), (some (43, true))⟩,
  ⟨(some 45), .bin .neq (.t 44) (.c (.int .i64 0)), (some (43, true))⟩,
  ⟨(some 46), .pick (.t 43) (.t 45) (.c (.bool false)), none⟩,
  ⟨none, .st 4 (.t 2) (.t 37), none⟩,
  ⟨(some 3), .mv (.t 46), none⟩])
  .ret))
 c_ins_kinds_35)

def c_ins_kinds_37 : CCode :=
  (.seq (.region [
 ⟨(some 26), .bin .eql (.t 11) (.c (.int .i64 5)), none⟩,
 ⟨(some 25), .mv (.t 26), none⟩])
 c_ins_kinds_36)

def c_ins_kinds_38 : CCode :=
  (.cond (.t 22)
 (.seq (.region [
  ⟨(some 24), .build [(.int .i64 0), (.int .i64 0), (.int .i64 0), (.int .i64 0)] [(0, 1, (.c (.int .i64 0))), (1, 1, (.c (.int .i64 0))), (2, 1, (.c (.int .i64 (-1)))), (3, 1, (.c (.int .i64 (-1))))], none⟩,
  ⟨none, .st 4 (.t 2) (.t 24), none⟩,
  ⟨(some 3), .mv (.c (.bool true)), none⟩])
  .ret)
 c_ins_kinds_37)

def c_ins_kinds_39 : CCode :=
  (.seq (.region [
 ⟨(some 23), .bin .eql (.t 11) (.c (.int .i64 4)), none⟩,
 ⟨(some 22), .mv (.t 23), none⟩])
 c_ins_kinds_38)

def c_ins_kinds_40 : CCode :=
  (.cond (.t 16)
 (.seq (.region [
  ⟨(some 21), .build [(.int .i64 0), (.int .i64 0), (.int .i64 0), (.int .i64 0)] [(0, 1, (.c (.int .i64 3))), (1, 1, (.c (.int .i64 (-1)))), (2, 1, (.c (.int .i64 (-1)))), (3, 1, (.c (.int .i64 (-1))))], none⟩,
  ⟨none, .st 4 (.t 2) (.t 21), none⟩,
  ⟨(some 3), .mv (.c (.bool true)), none⟩])
  .ret)
 c_ins_kinds_39)

def c_ins_kinds_41 : CCode :=
  (.seq (.seq (.region [
 ⟨(some 17), .bin .eql (.t 11) (.c (.int .i64 2)), none⟩,
 ⟨(some 16), .mv (.t 17), none⟩])
 (.cond (.t 16)
 .skip
 (.seq (.region [
  ⟨(some 18), .bin .eql (.t 11) (.c (.int .i64 3)), none⟩,
  ⟨(some 16), .mv (.t 18), none⟩])
  (.cond (.t 16)
  .skip
  (.seq (.region [
   ⟨(some 19), .bin .eql (.t 11) (.c (.int .i64 20)), none⟩,
   ⟨(some 16), .mv (.t 19), none⟩])
   (.cond (.t 16)
   .skip
   (.region [
    ⟨(some 20), .bin .eql (.t 11) (.c (.int .i64 32)), none⟩,
    ⟨(some 16), .mv (.t 20), none⟩])))))))
 c_ins_kinds_40)

def c_ins_kinds_42 : CCode :=
  (.cond (.t 12)
 (.seq (.region [
  ⟨(some 15), .build [(.int .i64 0), (.int .i64 0), (.int .i64 0), (.int .i64 0)] [(0, 1, (.c (.int .i64 0))), (1, 1, (.c (.int .i64 (-1)))), (2, 1, (.c (.int .i64 (-1)))), (3, 1, (.c (.int .i64 (-1))))], none⟩,
  ⟨none, .st 4 (.t 2) (.t 15), none⟩,
  ⟨(some 3), .mv (.c (.bool true)), none⟩])
  .ret)
 c_ins_kinds_41)

def c_ins_kinds_43 : CCode :=
  (.seq (.seq (.region [
 ⟨(some 13), .bin .eql (.t 11) (.c (.int .i64 1)), none⟩,
 ⟨(some 12), .mv (.t 13), none⟩])
 (.cond (.t 12)
 .skip
 (.region [
  ⟨(some 14), .bin .eql (.t 11) (.c (.int .i64 18)), none⟩,
  ⟨(some 12), .mv (.t 14), none⟩])))
 c_ins_kinds_42)

def c_ins_kinds_44 : CCode :=
  (.block 0 c_ins_kinds_43)

def c_ins_kinds_45 : CCode :=
  (.seq (.region [
 ⟨(some 10), .fa 0 (.t 1), none⟩,
 ⟨(some 11), .ld false 1 (.t 10), none⟩])
 c_ins_kinds_44)

def c_ins_kinds_46 : CCode :=
  (.seq c_ins_kinds_45
 c_ins_kinds_1)

def c_ins_kinds_47 : CCode :=
  (.seq (.region [
 ⟨(some 1), .box (some 0) (.t 0), none⟩,
 ⟨(some 2), .new (some 1) [(.int .i64 0), (.int .i64 0), (.int .i64 0), (.int .i64 0)], none⟩,
 ⟨(some 3), .mv (.c (.bool false)), none⟩])
 c_ins_kinds_46)

def c_ins_kinds : CFunc :=
  ⟨1, true, 2, c_ins_kinds_47, [.cell 2 true 4, .t 3]⟩

def c_regletref10_wanted_1 : CCode :=
  (.seq (.region [
 ⟨(some 28), .mv (.t 7), none⟩,
 ⟨(some 29), .mv (.t 2), none⟩,
 ⟨(some 30), .bin .sub (.t 29) (.c (.int .u8 48)), none⟩,
 ⟨(some 31), .cvi .i64 (.t 30), none⟩,
 ⟨(some 32), .bin .eql (.t 28) (.t 31), none⟩,
 ⟨(some 6), .mv (.t 32), none⟩])
 .ret)

def c_regletref10_wanted_2 : CCode :=
  (.cond (.t 15)
 (.seq (.region [
  ⟨(some 18), .mv (.t 7), none⟩,
  ⟨(some 19), .bin .gtr (.t 18) (.c (.int .i64 0)), none⟩,
  ⟨(some 6), .mv (.t 19), none⟩])
  .ret)
 (.seq (.region [
  ⟨(some 21), .bin .eql (.t 11) (.c (.int .u8 110)), none⟩,
  ⟨(some 20), .mv (.t 21), none⟩])
  (.cond (.t 20)
  (.seq (.region [
   ⟨(some 22), .mv (.t 7), none⟩,
   ⟨(some 23), .bin .eql (.t 22) (.c (.int .i64 1)), none⟩,
   ⟨(some 24), .mv (.t 23), none⟩,
   ⟨(some 25), .mv (.t 7), (some (24, false))⟩,
   ⟨(some 26), .bin .eql (.t 25) (.c (.int .i64 2)), (some (24, false))⟩,
   ⟨(some 27), .pick (.t 24) (.c (.bool true)) (.t 26), none⟩,
   ⟨(some 6), .mv (.t 27), none⟩])
   .ret)
  .skip)))

def c_regletref10_wanted_3 : CCode :=
  (.seq (.seq (.region [
 ⟨(some 16), .bin .eql (.t 11) (.c (.int .u8 42)), none⟩,
 ⟨(some 15), .mv (.t 16), none⟩])
 (.cond (.t 15)
 .skip
 (.region [
  ⟨(some 17), .bin .eql (.t 11) (.c (.int .u8 61)), none⟩,
  ⟨(some 15), .mv (.t 17), none⟩])))
 c_regletref10_wanted_2)

def c_regletref10_wanted_4 : CCode :=
  (.cond (.t 12)
 (.seq (.region [
  ⟨(some 6), .mv (.c (.bool true)), none⟩])
  .ret)
 c_regletref10_wanted_3)

def c_regletref10_wanted_5 : CCode :=
  (.seq (.seq (.region [
 ⟨(some 13), .bin .eql (.t 11) (.c (.int .u8 45)), none⟩,
 ⟨(some 12), .mv (.t 13), none⟩])
 (.cond (.t 12)
 .skip
 (.region [
  ⟨(some 14), .bin .eql (.t 11) (.c (.int .u8 63)), none⟩,
  ⟨(some 12), .mv (.t 14), none⟩])))
 c_regletref10_wanted_4)

def c_regletref10_wanted_6 : CCode :=
  (.block 0 c_regletref10_wanted_5)

def c_regletref10_wanted_7 : CCode :=
  (.seq (.region [
 ⟨(some 11), .mv (.t 2), none⟩])
 c_regletref10_wanted_6)

def c_regletref10_wanted_8 : CCode :=
  (.seq c_regletref10_wanted_7
 c_regletref10_wanted_1)

def c_regletref10_wanted_9 : CCode :=
  (.seq (.region [
 ⟨(some 8), .ld true 5 (.t 3), none⟩,
 ⟨(some 9), .mv (.t 1), none⟩,
 ⟨(some 10), .call none true 48 [(.t 8), (.t 9)], none⟩,
 ⟨(some 7), .mv (.t 10), none⟩])
 c_regletref10_wanted_8)

def c_regletref10_wanted_10 : CCode :=
  (.seq (.region [
 ⟨(some 3), .box (some 0) (.t 0), none⟩,
 ⟨(some 6), .mv (.c (.bool false)), none⟩])
 c_regletref10_wanted_9)

def c_regletref10_wanted : CFunc :=
  ⟨3, true, 1, c_regletref10_wanted_10, [.t 6]⟩

def c_regletref01_Kinds_1 : CCode :=
  (.seq (.region [
 ⟨(some 2), .mv (.c (.int .i64 0)), none⟩,
 ⟨(some 3), .mv (.c (.int .i64 0)), none⟩,
 ⟨(some 4), .mv (.c (.int .i64 0)), none⟩])
 .ret)

def c_regletref01_Kinds_2 : CCode :=
  (.seq (.block 0 (.seq (.region [
 ⟨(some 26), .mv (.t 5), none⟩,
 ⟨(some 27), .mv (.t 26), none⟩,
 ⟨(some 28), .mv (.t 0), (some (27, true))⟩,
 ⟨(some 29), .bin .rem (.t 28) (.c (.int .i64 2)), (some (27, true))⟩,
 ⟨(some 30), .bin .eql (.t 29) (.c (.int .i64 0)), (some (27, true))⟩,
 ⟨(some 31), .pick (.t 27) (.t 30) (.c (.bool false)), none⟩,
 ⟨(some 25), .mv (.t 31), none⟩])
 (.cond (.t 25)
 (.seq (.region [
  ⟨(some 2), .mv (.c (.int .i64 1)), none⟩,
  ⟨(some 3), .mv (.c (.int .i64 1)), none⟩,
  ⟨(some 4), .mv (.c (.int .i64 1)), none⟩])
  .ret)
 (.seq (.region [
  ⟨(some 33), .mv (.t 0), none⟩,
  ⟨(some 34), .bin .eql (.t 33) (.c (.int .i64 121)), none⟩,
  ⟨(some 35), .mv (.t 34), none⟩,
  ⟨(some 36), .mv (.t 0), (some (35, false))⟩,
  ⟨(some 37), .bin .eql (.t 36) (.c (.int .i64 123)), (some (35, false))⟩,
  ⟨(some 38), .pick (.t 35) (.c (.bool true)) (.t 37), none⟩,
  ⟨(some 39), .mv (.t 38), none⟩,
  ⟨(some 40), .mv (.t 0), (some (39, false))⟩,
  ⟨(some 41), .bin .eql (.t 40) (.c (.int .i64 125)), (some (39, false))⟩,
  ⟨(some 42), .pick (.t 39) (.c (.bool true)) (.t 41), none⟩,
  ⟨(some 32), .mv (.t 42), none⟩])
  (.cond (.t 32)
  (.seq (.region [
   ⟨(some 2), .mv (.c (.int .i64 2)), none⟩,
   ⟨(some 3), .mv (.c (.int .i64 1)), none⟩,
   ⟨(some 4), .mv (.c (.int .i64 2)), none⟩])
   .ret)
  (.seq (.region [
   ⟨(some 44), .mv (.t 5), none⟩,
   ⟨(some 43), .mv (.t 44), none⟩])
   (.cond (.t 43)
   (.seq (.region [
    ⟨(some 2), .mv (.c (.int .i64 2)), none⟩,
    ⟨(some 3), .mv (.c (.int .i64 2)), none⟩,
    ⟨(some 4), .mv (.c (.int .i64 2)), none⟩])
    .ret)
   (.seq (.region [
    ⟨(some 46), .mv (.t 0), none⟩,
    ⟨(some 47), .bin .eql (.t 46) (.c (.int .i64 148)), none⟩,
    ⟨(some 45), .mv (.t 47), none⟩])
    (.cond (.t 45)
    (.seq (.region [
     ⟨(some 2), .mv (.c (.int .i64 2)), none⟩,
     ⟨(some 3), .mv (.c (.int .i64 2)), none⟩,
     ⟨(some 4), .mv (.c (.int .i64 1)), none⟩])
     .ret)
    (.seq (.region [
     ⟨(some 49), .mv (.t 0), none⟩,
     ⟨(some 50), .bin .eql (.t 49) (.c (.int .i64 116)), none⟩,
     ⟨(some 51), .mv (.t 50), none⟩,
     ⟨(some 52), .mv (.t 0), (some (51, false))⟩,
     ⟨(some 53), .bin .geq (.t 52) (.c (.int .i64 145)), (some (51, false))⟩,
     ⟨(some 54), .mv (.t 53), (some (51, false))⟩,
     ⟨(some 55), .mv (.t 0), (some (54, true))⟩,
     ⟨(some 56), .bin .leq (.t 55) (.c (.int .i64 147)), (some (54, true))⟩,
     ⟨(some 57), .pick (.t 54) (.t 56) (.c (.bool false)), (some (51, false))⟩,
     ⟨(some 58), .pick (.t 51) (.c (.bool true)) (.t 57), none⟩,
     ⟨(some 48), .mv (.t 58), none⟩])
     (.cond (.t 48)
     (.seq (.region [
      ⟨(some 2), .mv (.c (.int .i64 1)), none⟩,
      ⟨(some 3), .mv (.c (.int .i64 0)), none⟩,
      ⟨(some 4), .mv (.c (.int .i64 1)), none⟩])
      .ret)
     (.seq (.region [
      ⟨(some 60), .mv (.t 0), none⟩,
      ⟨(some 61), .bin .eql (.t 60) (.c (.int .i64 117)), none⟩,
      ⟨(some 59), .mv (.t 61), none⟩])
      (.cond (.t 59)
      (.seq (.region [
       ⟨(some 2), .mv (.c (.int .i64 2)), none⟩,
       ⟨(some 3), .mv (.c (.int .i64 0)), none⟩,
       ⟨(some 4), .mv (.c (.int .i64 2)), none⟩])
       .ret)
      (.seq (.region [
       ⟨(some 63), .mv (.t 0), none⟩,
       ⟨(some 64), .bin .eql (.t 63) (.c (.int .i64 133)), none⟩,
       ⟨(some 62), .mv (.t 64), none⟩])
       (.cond (.t 62)
       (.seq (.region [
        ⟨(some 2), .mv (.c (.int .i64 1)), none⟩,
        ⟨(some 3), .mv (.c (.int .i64 0)), none⟩,
        ⟨(some 4), .mv (.c (.int .i64 2)), none⟩])
        .ret)
       (.seq (.region [
        ⟨(some 66), .mv (.t 0), none⟩,
        ⟨(some 67), .bin .eql (.t 66) (.c (.int .i64 136)), none⟩,
        ⟨(some 65), .mv (.t 67), none⟩])
        (.cond (.t 65)
        (.seq (.region [
         ⟨(some 2), .mv (.c (.int .i64 2)), none⟩,
         ⟨(some 3), .mv (.c (.int .i64 0)), none⟩,
         ⟨(some 4), .mv (.c (.int .i64 1)), none⟩])
         .ret)
        .skip)))))))))))))))))
 c_regletref01_Kinds_1)

def c_regletref01_Kinds_3 : CCode :=
  (.seq (.region [
 ⟨(some 6), .mv (.t 0), none⟩,
 ⟨(some 7), .bin .geq (.t 6) (.c (.int .i64 96)), none⟩,
 ⟨(some 8), .mv (.t 7), none⟩,
 ⟨(some 9), .mv (.t 0), (some (8, true))⟩,
 ⟨(some 10), .bin .leq (.t 9) (.c (.int .i64 113)), (some (8, true))⟩,
 ⟨(some 11), .pick (.t 8) (.t 10) (.c (.bool false)), none⟩,
 ⟨(some 12), .mv (.t 11), none⟩,
 ⟨(some 13), .mv (.t 0), (some (12, true))⟩,
 ⟨(some 14), .bin .rem (.t 13) (.c (.int .i64 4)), (some (12, true))⟩,
 ⟨(some 15), .bin .lss (.t 14) (.c (.int .i64 2)), (some (12, true))⟩,
 ⟨(some 16), .pick (.t 12) (.t 15) (.c (.bool false)), none⟩,
 ⟨(some 17), .mv (.t 16), none⟩,
 ⟨(some 18), .mv (.t 0), (some (17, false))⟩,
 ⟨(some 19), .bin .geq (.t 18) (.c (.int .i64 120)), (some (17, false))⟩,
 ⟨(some 20), .mv (.t 19), (some (17, false))⟩,
 ⟨(some 21), .mv (.t 0), (some (20, true))⟩,
 ⟨(some 22), .bin .leq (.t 21) (.c (.int .i64 131)), (some (20, true))⟩,
 ⟨(some 23), .pick (.t 20) (.t 22) (.c (.bool false)), (some (17, false))⟩,
 ⟨(some 24), .pick (.t 17) (.c (.bool true)) (.t 23), none⟩,
 ⟨(some 5), .mv (.t 24), none⟩])
 c_regletref01_Kinds_2)

def c_regletref01_Kinds_4 : CCode :=
  (.seq (.region [
 ⟨(some 2), .mv (.c (.int .i64 0)), none⟩,
 ⟨(some 3), .mv (.c (.int .i64 0)), none⟩,
 ⟨(some 4), .mv (.c (.int .i64 0)), none⟩])
 c_regletref01_Kinds_3)

def c_regletref01_Kinds : CFunc :=
  ⟨1, true, 0, c_regletref01_Kinds_4, [.t 2, .t 3, .t 4]⟩

def c_regletref10_call_1 : CCode :=
  (.seq (.draw [
 ⟨(some 47), .fa 0 (.t 3), none⟩,
 ⟨(some 48), .ld false 1 (.t 47), none⟩,
 ⟨(some 49), .bin .neq (.t 48) (.c (.int .i64 24)), none⟩,
 ⟨(some 50), .mv (.t 49), none⟩,
 ⟨(some 51), .fa 0 (.t 3), (some (50, true))⟩,
 ⟨(some 52), .ld false 1 (.t 51), (some (50, true))⟩,
 ⟨(some 53), .bin .neq (.t 52) (.c (.int .i64 25)), (some (50, true))⟩,
 ⟨(some 54), .pick (.t 50) (.t 53) (.c (.bool false)), none⟩,
 ⟨(some 55), .mv (.t 54), none⟩,
 ⟨(some 56), .fa 8 (.t 3), (some (55, false))⟩,
 ⟨(some 57), .ld false 1 (.t 56), (some (55, false))⟩,
 ⟨(some 58), .len 1 (.t 57), (some (55, false))⟩,
 ⟨(some 59), .bin .gtr (.t 58) (.c (.int .i64 0)), (some (55, false))⟩,
 ⟨(some 60), .mv (.t 59), (some (55, false))⟩,
 ⟨(some 61), .ld true 5 (.t 2), (some (60, true))⟩,
 ⟨(some 62), .fa 8 (.t 3), (some (60, true))⟩,
 ⟨(some 63), .ld false 1 (.t 62), (some (60, true))⟩,
 ⟨(some 64), .ixs 1 (.t 63) (.c (.int .i64 0)), (some (60, true))⟩,
 ⟨(some 65), .ld false 1 (.t 64), (some (60, true))⟩,
 ⟨(some 66), .call none true 48 [(.t 61), (.t 65)], (some (60, true))⟩,
 ⟨(some 67), .bin .eql (.t 66) (.c (.int .i64 3)), (some (60, true))⟩,
 ⟨(some 68), .pick (.t 60) (.t 67) (.c (.bool false)), (some (55, false))⟩,
 ⟨(some 69), .pick (.t 55) (.c (.bool true)) (.t 68), none⟩,
 ⟨(some 4), .mv (.t 69), none⟩] [])
 .ret)

def c_regletref10_call_3 : CCode :=
  (.region [
 ⟨(some 37), .mv (.t 5), none⟩,
 ⟨(some 38), .bin .add (.t 37) (.c (.int .i64 1)), none⟩,
 ⟨(some 5), .mv (.t 38), none⟩])

def c_regletref10_call_4 : CCode :=
  (.seq (.block 1 (.seq (.draw [
 ⟨(some 39), .ld true 5 (.t 2), none⟩,
 ⟨(some 40), .fa 8 (.t 3), none⟩,
 ⟨(some 41), .ld false 1 (.t 40), none⟩,
 ⟨(some 42), .mv (.t 5), none⟩,
 ⟨(some 43), .ixs 1 (.t 41) (.t 42), none⟩,
 ⟨(some 44), .ld false 1 (.t 43), none⟩,
 ⟨(some 45), .call none true 48 [(.t 39), (.t 44)], none⟩,
 ⟨(some 46), .bin .eql (.t 45) (.c (.int .i64 0)), none⟩] [])
 (.cond (.t 46)
 (.seq (.region [
  ⟨(some 4), .mv (.c (.bool false)), none⟩])
  .ret)
 .skip)))
 c_regletref10_call_3)

def c_regletref10_call_5 : CCode :=
  (.seq (.seq (.region [
 ⟨(some 32), .mv (.t 5), none⟩,
 ⟨(some 33), .fa 8 (.t 3), none⟩,
 ⟨(some 34), .ld false 1 (.t 33), none⟩,
 ⟨(some 35), .len 1 (.t 34), none⟩,
 ⟨(some 36), .bin .lss (.t 32) (.t 35), none⟩])
 (.cond (.t 36)
 .skip
 (.exit 0)))
 c_regletref10_call_4)

def c_regletref10_call_L2 : CCode :=
  (.loop [2, 3, 5] c_regletref10_call_5)

def c_regletref10_call_6 : CCode :=
  (.block 0 c_regletref10_call_L2)

def c_regletref10_call_7 : CCode :=
  (.seq (.region [
 ⟨(some 5), .mv (.c (.int .i64 0)), none⟩])
 c_regletref10_call_6)

def c_regletref10_call_8 : CCode :=
  (.seq c_regletref10_call_7
 c_regletref10_call_1)

def c_regletref10_call_9 : CCode :=
  (.seq (.seq (.region [
 ⟨(some 6), .fa 5 (.t 3), none⟩,
 ⟨(some 7), .ld false 1 (.t 6), none⟩,
 ⟨(some 8), .bin .lss (.t 7) (.c (.int .i64 0)), none⟩,
 ⟨(some 9), .mv (.t 8), none⟩,
 ⟨(some 10), .fa 0 (.t 3), (some (9, true))⟩,
 ⟨(some 11), .ld false 1 (.t 10), (some (9, true))⟩,
 ⟨(some 12), .bin .neq (.t 11) (.c (.int .i64 25)), (some (9, true))⟩,
 ⟨(some 13), .pick (.t 9) (.t 12) (.c (.bool false)), none⟩,
 ⟨(some 14), .mv (.t 13), none⟩,
 ⟨(some 15), .fa 8 (.t 3), (some (14, false))⟩,
 ⟨(some 16), .ld false 1 (.t 15), (some (14, false))⟩,
 ⟨(some 17), .len 1 (.t 16), (some (14, false))⟩,
 ⟨(some 18), .bin .gtr (.t 17) (.c (.int .i64 21)), (some (14, false))⟩,
 ⟨(some 19), .pick (.t 14) (.c (.bool true)) (.t 18), none⟩,
 ⟨(some 20), .mv (.t 19), none⟩,
 ⟨(some 21), .fa 1 (.t 3), (some (20, false))⟩,
 ⟨(some 22), .ld false 1 (.t 21), (some (20, false))⟩,
 ⟨(some 23), .bin .neq (.t 22) (.c (.int .i64 (-1))), (some (20, false))⟩,
 ⟨(some 24), .mv (.t 23), (some (20, false))⟩,
 ⟨(some 25), .ld true 5 (.t 2), (some (24, true))⟩,
 ⟨(some 26), .fa 1 (.t 3), (some (24, true))⟩,
 ⟨(some 27), .ld false 1 (.t 26), (some (24, true))⟩,
 ⟨(some 28), .call none true 48 [(.t 25), (.t 27)], (some (24, true))⟩,
 ⟨(some 29), .bin .eql (.t 28) (.c (.int .i64 0)), (some (24, true))⟩,
 ⟨(some 30), .pick (.t 24) (.t 29) (.c (.bool false)), (some (20, false))⟩,
 ⟨(some 31), .pick (.t 20) (.c (.bool true)) (.t 30), none⟩])
 (.cond (.t 31)
 (.seq (.region [
  ⟨(some 4), .mv (.c (.bool false)), none⟩])
  .ret)
 .skip))
 c_regletref10_call_8)

def c_regletref10_call_10 : CCode :=
  (.seq (.region [
 ⟨(some 2), .box (some 0) (.t 0), none⟩,
 ⟨(some 3), .box (some 1) (.t 1), none⟩,
 ⟨(some 4), .mv (.c (.bool false)), none⟩])
 c_regletref10_call_9)

def c_regletref10_call : CFunc :=
  ⟨2, true, 2, c_regletref10_call_10, [.t 4]⟩

def c_num_Kinds_1 : CCode :=
  (.seq (.region [
 ⟨(some 2), .mv (.c (.int .i64 0)), none⟩,
 ⟨(some 3), .mv (.c (.int .i64 0)), none⟩,
 ⟨(some 4), .mv (.c (.int .i64 0)), none⟩])
 .ret)

def c_num_Kinds_2 : CCode :=
  (.cond (.t 33)
 (.seq (.region [
  ⟨(some 2), .mv (.c (.int .i64 1)), none⟩,
  ⟨(some 3), .mv (.c (.int .i64 0)), none⟩,
  ⟨(some 4), .mv (.c (.int .i64 1)), none⟩])
  .ret)
 (.seq (.region [
  ⟨(some 39), .bin .eql (.t 5) (.c (.int .i64 117)), none⟩,
  ⟨(some 38), .mv (.t 39), none⟩])
  (.cond (.t 38)
  (.seq (.region [
   ⟨(some 2), .mv (.c (.int .i64 2)), none⟩,
   ⟨(some 3), .mv (.c (.int .i64 0)), none⟩,
   ⟨(some 4), .mv (.c (.int .i64 2)), none⟩])
   .ret)
  (.seq (.region [
   ⟨(some 41), .bin .eql (.t 5) (.c (.int .i64 133)), none⟩,
   ⟨(some 40), .mv (.t 41), none⟩])
   (.cond (.t 40)
   (.seq (.region [
    ⟨(some 2), .mv (.c (.int .i64 1)), none⟩,
    ⟨(some 3), .mv (.c (.int .i64 0)), none⟩,
    ⟨(some 4), .mv (.c (.int .i64 2)), none⟩])
    .ret)
   (.seq (.region [
    ⟨(some 43), .bin .eql (.t 5) (.c (.int .i64 136)), none⟩,
    ⟨(some 42), .mv (.t 43), none⟩])
    (.cond (.t 42)
    (.seq (.region [
     ⟨(some 2), .mv (.c (.int .i64 2)), none⟩,
     ⟨(some 3), .mv (.c (.int .i64 0)), none⟩,
     ⟨(some 4), .mv (.c (.int .i64 1)), none⟩])
     .ret)
    .skip)))))))

def c_num_Kinds_3 : CCode :=
  (.seq (.seq (.region [
 ⟨(some 34), .bin .eql (.t 5) (.c (.int .i64 116)), none⟩,
 ⟨(some 33), .mv (.t 34), none⟩])
 (.cond (.t 33)
 .skip
 (.seq (.region [
  ⟨(some 35), .bin .eql (.t 5) (.c (.int .i64 145)), none⟩,
  ⟨(some 33), .mv (.t 35), none⟩])
  (.cond (.t 33)
  .skip
  (.seq (.region [
   ⟨(some 36), .bin .eql (.t 5) (.c (.int .i64 146)), none⟩,
   ⟨(some 33), .mv (.t 36), none⟩])
   (.cond (.t 33)
   .skip
   (.region [
    ⟨(some 37), .bin .eql (.t 5) (.c (.int .i64 147)), none⟩,
    ⟨(some 33), .mv (.t 37), none⟩])))))))
 c_num_Kinds_2)

def c_num_Kinds_4 : CCode :=
  (.cond (.t 31)
 (.seq (.region [
  ⟨(some 2), .mv (.c (.int .i64 2)), none⟩,
  ⟨(some 3), .mv (.c (.int .i64 2)), none⟩,
  ⟨(some 4), .mv (.c (.int .i64 1)), none⟩])
  .ret)
 c_num_Kinds_3)

def c_num_Kinds_5 : CCode :=
  (.seq (.region [
 ⟨(some 32), .bin .eql (.t 5) (.c (.int .i64 148)), none⟩,
 ⟨(some 31), .mv (.t 32), none⟩])
 c_num_Kinds_4)

def c_num_Kinds_6 : CCode :=
  (.cond (.t 27)
 (.seq (.region [
  ⟨(some 2), .mv (.c (.int .i64 2)), none⟩,
  ⟨(some 3), .mv (.c (.int .i64 1)), none⟩,
  ⟨(some 4), .mv (.c (.int .i64 2)), none⟩])
  .ret)
 c_num_Kinds_5)

def c_num_Kinds_7 : CCode :=
  (.seq (.seq (.region [
 ⟨(some 28), .bin .eql (.t 5) (.c (.int .i64 121)), none⟩,
 ⟨(some 27), .mv (.t 28), none⟩])
 (.cond (.t 27)
 .skip
 (.seq (.region [
  ⟨(some 29), .bin .eql (.t 5) (.c (.int .i64 123)), none⟩,
  ⟨(some 27), .mv (.t 29), none⟩])
  (.cond (.t 27)
  .skip
  (.region [
   ⟨(some 30), .bin .eql (.t 5) (.c (.int .i64 125)), none⟩,
   ⟨(some 27), .mv (.t 30), none⟩])))))
 c_num_Kinds_6)

def c_num_Kinds_8 : CCode :=
  (.cond (.t 18)
 (.seq (.region [
  ⟨(some 2), .mv (.c (.int .i64 2)), none⟩,
  ⟨(some 3), .mv (.c (.int .i64 2)), none⟩,
  ⟨(some 4), .mv (.c (.int .i64 2)), none⟩])
  .ret)
 c_num_Kinds_7)

def c_num_Kinds_9 : CCode :=
  (.seq (.seq (.region [
 ⟨(some 19), .bin .eql (.t 5) (.c (.int .i64 97)), none⟩,
 ⟨(some 18), .mv (.t 19), none⟩])
 (.cond (.t 18)
 .skip
 (.seq (.region [
  ⟨(some 20), .bin .eql (.t 5) (.c (.int .i64 101)), none⟩,
  ⟨(some 18), .mv (.t 20), none⟩])
  (.cond (.t 18)
  .skip
  (.seq (.region [
   ⟨(some 21), .bin .eql (.t 5) (.c (.int .i64 105)), none⟩,
   ⟨(some 18), .mv (.t 21), none⟩])
   (.cond (.t 18)
   .skip
   (.seq (.region [
    ⟨(some 22), .bin .eql (.t 5) (.c (.int .i64 109)), none⟩,
    ⟨(some 18), .mv (.t 22), none⟩])
    (.cond (.t 18)
    .skip
    (.seq (.region [
     ⟨(some 23), .bin .eql (.t 5) (.c (.int .i64 113)), none⟩,
     ⟨(some 18), .mv (.t 23), none⟩])
     (.cond (.t 18)
     .skip
     (.seq (.region [
      ⟨(some 24), .bin .eql (.t 5) (.c (.int .i64 127)), none⟩,
      ⟨(some 18), .mv (.t 24), none⟩])
      (.cond (.t 18)
      .skip
      (.seq (.region [
       ⟨(some 25), .bin .eql (.t 5) (.c (.int .i64 129)), none⟩,
       ⟨(some 18), .mv (.t 25), none⟩])
       (.cond (.t 18)
       .skip
       (.region [
        ⟨(some 26), .bin .eql (.t 5) (.c (.int .i64 131)), none⟩,
        ⟨(some 18), .mv (.t 26), none⟩])))))))))))))))
 c_num_Kinds_8)

def c_num_Kinds_10 : CCode :=
  (.cond (.t 6)
 (.seq (.region [
  ⟨(some 2), .mv (.c (.int .i64 1)), none⟩,
  ⟨(some 3), .mv (.c (.int .i64 1)), none⟩,
  ⟨(some 4), .mv (.c (.int .i64 1)), none⟩])
  .ret)
 c_num_Kinds_9)

def c_num_Kinds_11 : CCode :=
  (.seq (.seq (.region [
 ⟨(some 7), .bin .eql (.t 5) (.c (.int .i64 96)), none⟩,
 ⟨(some 6), .mv (.t 7), none⟩])
 (.cond (.t 6)
 .skip
 (.seq (.region [
  ⟨(some 8), .bin .eql (.t 5) (.c (.int .i64 100)), none⟩,
  ⟨(some 6), .mv (.t 8), none⟩])
  (.cond (.t 6)
  .skip
  (.seq (.region [
   ⟨(some 9), .bin .eql (.t 5) (.c (.int .i64 104)), none⟩,
   ⟨(some 6), .mv (.t 9), none⟩])
   (.cond (.t 6)
   .skip
   (.seq (.region [
    ⟨(some 10), .bin .eql (.t 5) (.c (.int .i64 108)), none⟩,
    ⟨(some 6), .mv (.t 10), none⟩])
    (.cond (.t 6)
    .skip
    (.seq (.region [
     ⟨(some 11), .bin .eql (.t 5) (.c (.int .i64 112)), none⟩,
     ⟨(some 6), .mv (.t 11), none⟩])
     (.cond (.t 6)
     .skip
     (.seq (.region [
      ⟨(some 12), .bin .eql (.t 5) (.c (.int .i64 120)), none⟩,
      ⟨(some 6), .mv (.t 12), none⟩])
      (.cond (.t 6)
      .skip
      (.seq (.region [
       ⟨(some 13), .bin .eql (.t 5) (.c (.int .i64 122)), none⟩,
       ⟨(some 6), .mv (.t 13), none⟩])
       (.cond (.t 6)
       .skip
       (.seq (.region [
        ⟨(some 14), .bin .eql (.t 5) (.c (.int .i64 124)), none⟩,
        ⟨(some 6), .mv (.t 14), none⟩])
        (.cond (.t 6)
        .skip
        (.seq (.region [
         ⟨(some 15), .bin .eql (.t 5) (.c (.int .i64 126)), none⟩,
         ⟨(some 6), .mv (.t 15), none⟩])
         (.cond (.t 6)
         .skip
         (.seq (.region [
          ⟨(some 16), .bin .eql (.t 5) (.c (.int .i64 128)), none⟩,
          ⟨(some 6), .mv (.t 16), none⟩])
          (.cond (.t 6)
          .skip
          (.region [
           ⟨(some 17), .bin .eql (.t 5) (.c (.int .i64 130)), none⟩,
           ⟨(some 6), .mv (.t 17), none⟩])))))))))))))))))))))
 c_num_Kinds_10)

def c_num_Kinds_12 : CCode :=
  (.block 0 c_num_Kinds_11)

def c_num_Kinds_13 : CCode :=
  (.seq (.region [
 ⟨(some 5), .mv (.t 0), none⟩])
 c_num_Kinds_12)

def c_num_Kinds_14 : CCode :=
  (.seq c_num_Kinds_13
 c_num_Kinds_1)

def c_num_Kinds_15 : CCode :=
  (.seq (.region [
 ⟨(some 2), .mv (.c (.int .i64 0)), none⟩,
 ⟨(some 3), .mv (.c (.int .i64 0)), none⟩,
 ⟨(some 4), .mv (.c (.int .i64 0)), none⟩])
 c_num_Kinds_14)

def c_num_Kinds : CFunc :=
  ⟨1, true, 0, c_num_Kinds_15, [.t 2, .t 3, .t 4]⟩

def c_ins_other_1 : CCode :=
  (.seq (.region [
 ⟨(some 73), .build [(.int .i64 0), (.int .i64 0), (.int .i64 0), (.int .i64 0)] [], none⟩,
 ⟨none, .st 4 (.t 2) (.t 73), none⟩,
 ⟨(some 3), .mv (.c (.bool false)), none⟩])
 .ret)

def c_ins_other_2 : CCode :=
  (.seq (.draw [
 ⟨(some 15), .mv (.t 4), none⟩,
 ⟨(some 16), .build [(.int .i64 0), (.int .i64 0), (.int .i64 0), (.int .i64 0)] [(0, 1, (.c (.int .i64 (-1)))), (1, 1, (.c (.int .i64 3))), (2, 1, (.t 15)), (3, 1, (.c (.int .i64 (-1))))], none⟩,
 ⟨(some 17), .fa 5 (.t 1), none⟩,
 ⟨(some 18), .ld false 1 (.t 17), none⟩,
 ⟨(some 19), .bin .eql (.t 18) (.c (.int .i64 0)), none⟩,
 ⟨(some 20), .mv (.t 19), none⟩,
 ⟨(some 21), .fa 5 (.t 1), (some (20, false))⟩,
 ⟨(some 22), .ld false 1 (.t 21), (some (20, false))⟩,
 ⟨(some 23), .bin .eql (.t 22) (.c (.int .i64 1)), (some (20, false))⟩,
 ⟨(some 24), .pick (.t 20) (.c (.bool true)) (.t 23), none⟩,
 ⟨none, .st 4 (.t 2) (.t 16), none⟩,
 ⟨(some 3), .mv (.t 24), none⟩] [(7, 10)])
 .ret)

def c_ins_other_3 : CCode :=
  (.seq (.seq (.region [
 ⟨(some 12), .fa 3 (.t 1), none⟩,
 ⟨(some 13), .ld false 1 (.t 12), none⟩,
 ⟨(some 14), .bin .neq (.t 13) (.c (.int .i64 (-1))), none⟩])
 (.cond (.t 14)
 (.region [
  ⟨(some 4), .mv (.c (.int .i64 3)), none⟩])
 .skip))
 c_ins_other_2)

def c_ins_other_4 : CCode :=
  (.seq (.region [
 ⟨(some 4), .mv (.c (.int .i64 (-1))), none⟩])
 c_ins_other_3)

def c_ins_other_5 : CCode :=
  (.seq (.region [
 ⟨(some 30), .mv (.t 5), none⟩,
 ⟨(some 31), .build [(.int .i64 0), (.int .i64 0), (.int .i64 0), (.int .i64 0)] [(0, 1, (.c (.int .i64 (-1)))), (1, 1, (.t 30)), (2, 1, (.c (.int .i64 (-1)))), (3, 1, (.c (.int .i64 (-1))))], none⟩,
 ⟨none, .st 4 (.t 2) (.t 31), none⟩,
 ⟨(some 3), .mv (.c (.bool true)), none⟩])
 .ret)

def c_ins_other_6 : CCode :=
  (.seq (.seq (.region [
 ⟨(some 27), .fa 2 (.t 1), none⟩,
 ⟨(some 28), .ld false 1 (.t 27), none⟩,
 ⟨(some 29), .bin .neq (.t 28) (.c (.int .i64 (-1))), none⟩])
 (.cond (.t 29)
 (.region [
  ⟨(some 5), .mv (.c (.int .i64 0)), none⟩])
 .skip))
 c_ins_other_5)

def c_ins_other_7 : CCode :=
  (.seq (.region [
 ⟨(some 5), .mv (.c (.int .i64 (-1))), none⟩])
 c_ins_other_6)

def c_ins_other_8 : CCode :=
  (.seq (.region [
 ⟨(some 40), .fa 0 (.t 1), none⟩,
 ⟨(some 41), .ld false 1 (.t 40), none⟩,
 ⟨(some 42), .bin .eql (.t 41) (.c (.int .i64 23)), none⟩,
 ⟨(some 43), .mv (.t 42), none⟩,
 ⟨(some 44), .fa 0 (.t 1), (some (43, false))⟩,
 ⟨(some 45), .ld false 1 (.t 44), (some (43, false))⟩,
 ⟨(some 46), .bin .eql (.t 45) (.c (.int .i64 26)), (some (43, false))⟩,
 ⟨(some 47), .pick (.t 43) (.c (.bool true)) (.t 46), none⟩,
 ⟨(some 48), .mv (.t 47), none⟩,
 ⟨(some 49), .fa 8 (.t 1), (some (48, false))⟩,
 ⟨(some 50), .ld false 1 (.t 49), (some (48, false))⟩,
 ⟨(some 51), .len 1 (.t 50), (some (48, false))⟩,
 ⟨(some 52), .bin .gtr (.t 51) (.c (.int .i64 0)), (some (48, false))⟩,
 ⟨(some 53), .pick (.t 48) (.c (.bool true)) (.t 52), none⟩,
 ⟨(some 7), .mv (.t 53), none⟩])
 (.seq (.draw [
 ⟨(some 54), .mv (.t 6), none⟩,
 ⟨(some 55), .build [(.int .i64 0), (.int .i64 0), (.int .i64 0), (.int .i64 0)] [(0, 1, (.t 54)), (1, 1, (.c (.int .i64 (-1)))), (2, 1, (.c (.int .i64 (-1)))), (3, 1, (.c (.int .i64 (-1))))], none⟩,
 ⟨(some 56), .mv (.t 7), none⟩,
 ⟨(some 57), .mv (.t 56), none⟩,
 ⟨(some 58), .fa 5 (.t 1), (some (57, true))⟩,
 ⟨(some 59), .ld false 1 (.t 58), (some (57, true))⟩,
 ⟨(some 60), .bin .geq (.t 59) (.c (.int .i64 0)), (some (57, true))⟩,
 ⟨(some 61), .mv (.t 60), (some (57, true))⟩,
 ⟨(some 62), .fa 0 (.t 1), (some (61, false))⟩,
 ⟨(some 63), .ld false 1 (.t 62), (some (61, false))⟩,
 ⟨(some 64), .bin .eql (.t 63) (.c (.int .i64 25)), (some (61, false))⟩,
 ⟨(some 65), .pick (.t 61) (.c (.bool true)) (.t 64), (some (57, true))⟩,
 ⟨(some 66), .pick (.t 57) (.t 65) (.c (.bool false)), none⟩,
 ⟨(some 67), .mv (.t 66), none⟩,
 ⟨(some 68), .fa 8 (.t 1), (some (67, true))⟩,
 ⟨(some 69), .ld false 1 (.t 68), (some (67, true))⟩,
 ⟨(some 70), .len 1 (.t 69), (some (67, true))⟩,
 ⟨(some 71), .bin .leq (.t 70) (.c (.int .i64 21)), (some (67, true))⟩,
 ⟨(some 72), .pick (.t 67) (.t 71) (.c (.bool false)), none⟩,
 ⟨none, .st 4 (.t 2) (.t 55), none⟩,
 ⟨(some 3), .mv (.t 72), none⟩] [(15, 19), (16, 19)])
 .ret))

def c_ins_other_9 : CCode :=
  (.seq (.seq (.region [
 ⟨(some 37), .fa 1 (.t 1), none⟩,
 ⟨(some 38), .ld false 1 (.t 37), none⟩,
 ⟨(some 39), .bin .neq (.t 38) (.c (.int .i64 (-1))), none⟩])
 (.cond (.t 39)
 (.region [
  ⟨(some 6), .mv (.c (.int .i64 0)), none⟩])
 .skip))
 c_ins_other_8)

def c_ins_other_10 : CCode :=
  (.seq (.region [
 ⟨(some 6), .mv (.c (.int .i64 (-1))), none⟩])
 c_ins_other_9)

def c_ins_other_11 : CCode :=
  (.cond (.t 32)
 c_ins_other_10
 .skip)

def c_ins_other_12 : CCode :=
  (.seq (.seq (.region [
 ⟨(some 33), .bin .eql (.t 9) (.c (.int .i64 23)), none⟩,
 ⟨(some 32), .mv (.t 33), none⟩])
 (.cond (.t 32)
 .skip
 (.seq (.region [
  ⟨(some 34), .bin .eql (.t 9) (.c (.int .i64 24)), none⟩,
  ⟨(some 32), .mv (.t 34), none⟩])
  (.cond (.t 32)
  .skip
  (.seq (.region [
   ⟨(some 35), .bin .eql (.t 9) (.c (.int .i64 25)), none⟩,
   ⟨(some 32), .mv (.t 35), none⟩])
   (.cond (.t 32)
   .skip
   (.region [
    ⟨(some 36), .bin .eql (.t 9) (.c (.int .i64 26)), none⟩,
    ⟨(some 32), .mv (.t 36), none⟩])))))))
 c_ins_other_11)

def c_ins_other_13 : CCode :=
  (.cond (.t 25)
 c_ins_other_7
 c_ins_other_12)

def c_ins_other_14 : CCode :=
  (.seq (.region [
 ⟨(some 26), .bin .eql (.t 9) (.c (.int .i64 30)), none⟩,
 ⟨(some 25), .mv (.t 26), none⟩])
 c_ins_other_13)

def c_ins_other_15 : CCode :=
  (.cond (.t 10)
 c_ins_other_4
 c_ins_other_14)

def c_ins_other_16 : CCode :=
  (.seq (.region [
 ⟨(some 11), .bin .eql (.t 9) (.c (.int .i64 29)), none⟩,
 ⟨(some 10), .mv (.t 11), none⟩])
 c_ins_other_15)

def c_ins_other_17 : CCode :=
  (.block 0 c_ins_other_16)

def c_ins_other_18 : CCode :=
  (.seq (.region [
 ⟨(some 8), .fa 0 (.t 1), none⟩,
 ⟨(some 9), .ld false 1 (.t 8), none⟩])
 c_ins_other_17)

def c_ins_other_19 : CCode :=
  (.seq c_ins_other_18
 c_ins_other_1)

def c_ins_other_20 : CCode :=
  (.seq (.region [
 ⟨(some 1), .box (some 0) (.t 0), none⟩,
 ⟨(some 2), .new (some 1) [(.int .i64 0), (.int .i64 0), (.int .i64 0), (.int .i64 0)], none⟩,
 ⟨(some 3), .mv (.c (.bool false)), none⟩])
 c_ins_other_19)

def c_ins_other : CFunc :=
  ⟨1, true, 2, c_ins_other_20, [.cell 2 true 4, .t 3]⟩

def tbl : List (Option Nat) := [none, none, none, none, none, none, none, none, some 30, none, none, none, none, none, none, none, none, some 4, none, none, none, some 8, some 9, none, some 10, none, none, none, none, some 17, none, none, none, none, some 22, some 23, some 24, some 25, none, none, some 29, none, none, none, none, none, none, none, none, none, none, none, none, none, none, none, none, none, none, none, some 60, none, none, none, none, none, some 37, some 38, some 46, some 63, some 39, none, none, some 42, some 48, some 64, some 49, none, none, none, some 69, none, none, none, none, none, none, none, some 67, none, none, none, some 44, some 45, some 47, some 65, some 66, some 68, none, some 53, none, some 50, some 51]

def fnE : Nat → Option CFunc
  | 4 => some c_regletlaw10_holds
  | 8 => some c_ins_Check
  | 9 => some c_ins_Def
  | 10 => some c_ins_Uses
  | 17 => some c_ins_Calls
  | 22 => some c_ins_Leads
  | 23 => some c_regletref10_Leads
  | 24 => some c_ins_Ends
  | 25 => some c_regletref10_Ends
  | 29 => some c_regletref10_Check
  | 30 => some c_regletlaw10_InsChecks
  | 37 => some c_desc_Type
  | 38 => some c_regletref10_row
  | 39 => some c_slices_Clone_int_int
  | 42 => some c_regletref10_in
  | 44 => some c_desc_take
  | 45 => some c_slices_Index_int_int
  | 46 => some c_slices_Contains_int_int
  | 47 => some c_ins_kinds
  | 48 => some c_regletref10_kind
  | 49 => some c_regletref10_place
  | 50 => some c_num_Kinds
  | 51 => some c_ins_other
  | 60 => some c_desc_Name
  | 63 => some c_ins_right
  | 64 => some c_regletref10_one
  | 65 => some c_regletref10_wanted
  | 66 => some c_regletref01_Kinds
  | 67 => some c_regletref02_Type
  | 68 => some c_regletref10_call
  | 69 => some c_regletref02_Name
  | _ => none

abbrev nm : Nat → Option Nat := nmOf tbl

def E : Env := envX fnE [] xpC

theorem ok8 : FnOk Go.Proofs.Try.prog nm fnE 8 30 := .of Go.Proofs.Try.func8 (by kernel_rfl) (by kernel_rfl) rfl (by kernel_rfl)
theorem ok17 : FnOk Go.Proofs.Try.prog nm fnE 17 4 := .of Go.Proofs.Try.func17 (by kernel_rfl) (by kernel_rfl) rfl (by kernel_rfl)
theorem ok21 : FnOk Go.Proofs.Try.prog nm fnE 21 8 := .of Go.Proofs.Try.func21 (by kernel_rfl) (by kernel_rfl) rfl (by kernel_rfl)
theorem ok22 : FnOk Go.Proofs.Try.prog nm fnE 22 9 := .of Go.Proofs.Try.func22 (by kernel_rfl) (by kernel_rfl) rfl (by kernel_rfl)
theorem ok24 : FnOk Go.Proofs.Try.prog nm fnE 24 10 := .of Go.Proofs.Try.func24 (by kernel_rfl) (by kernel_rfl) rfl (by kernel_rfl)
theorem ok29 : FnOk Go.Proofs.Try.prog nm fnE 29 17 := .of Go.Proofs.Try.func29 (by kernel_rfl) (by kernel_rfl) rfl (by kernel_rfl)
theorem ok34 : FnOk Go.Proofs.Try.prog nm fnE 34 22 := .of Go.Proofs.Try.func34 (by kernel_rfl) (by kernel_rfl) rfl (by kernel_rfl)
theorem ok35 : FnOk Go.Proofs.Try.prog nm fnE 35 23 := .of Go.Proofs.Try.func35 (by kernel_rfl) (by kernel_rfl) rfl (by kernel_rfl)
theorem ok36 : FnOk Go.Proofs.Try.prog nm fnE 36 24 := .of Go.Proofs.Try.func36 (by kernel_rfl) (by kernel_rfl) rfl (by kernel_rfl)
theorem ok37 : FnOk Go.Proofs.Try.prog nm fnE 37 25 := .of Go.Proofs.Try.func37 (by kernel_rfl) (by kernel_rfl) rfl (by kernel_rfl)
theorem ok40 : FnOk Go.Proofs.Try.prog nm fnE 40 29 := .of Go.Proofs.Try.func40 (by kernel_rfl) (by kernel_rfl) rfl (by kernel_rfl)
theorem ok60 : FnOk Go.Proofs.Try.prog nm fnE 60 60 := .of Go.Proofs.Try.func60 (by kernel_rfl) (by kernel_rfl) rfl (by kernel_rfl)
theorem ok66 : FnOk Go.Proofs.Try.prog nm fnE 66 37 := .of Go.Proofs.Try.func66 (by kernel_rfl) (by kernel_rfl) rfl (by kernel_rfl)
theorem ok67 : FnOk Go.Proofs.Try.prog nm fnE 67 38 := .of Go.Proofs.Try.func67 (by kernel_rfl) (by kernel_rfl) rfl (by kernel_rfl)
theorem ok68 : FnOk Go.Proofs.Try.prog nm fnE 68 46 := .of Go.Proofs.Try.func68 (by kernel_rfl) (by kernel_rfl) rfl (by kernel_rfl)
theorem ok69 : FnOk Go.Proofs.Try.prog nm fnE 69 63 := .of Go.Proofs.Try.func69 (by kernel_rfl) (by kernel_rfl) rfl (by kernel_rfl)
theorem ok70 : FnOk Go.Proofs.Try.prog nm fnE 70 39 := .of Go.Proofs.Try.func70 (by kernel_rfl) (by kernel_rfl) rfl (by kernel_rfl)
theorem ok73 : FnOk Go.Proofs.Try.prog nm fnE 73 42 := .of Go.Proofs.Try.func73 (by kernel_rfl) (by kernel_rfl) rfl (by kernel_rfl)
theorem ok74 : FnOk Go.Proofs.Try.prog nm fnE 74 48 := .of Go.Proofs.Try.func74 (by kernel_rfl) (by kernel_rfl) rfl (by kernel_rfl)
theorem ok75 : FnOk Go.Proofs.Try.prog nm fnE 75 64 := .of Go.Proofs.Try.func75 (by kernel_rfl) (by kernel_rfl) rfl (by kernel_rfl)
theorem ok76 : FnOk Go.Proofs.Try.prog nm fnE 76 49 := .of Go.Proofs.Try.func76 (by kernel_rfl) (by kernel_rfl) rfl (by kernel_rfl)
theorem ok80 : FnOk Go.Proofs.Try.prog nm fnE 80 69 := .of Go.Proofs.Try.func80 (by kernel_rfl) (by kernel_rfl) rfl (by kernel_rfl)
theorem ok88 : FnOk Go.Proofs.Try.prog nm fnE 88 67 := .of Go.Proofs.Try.func88 (by kernel_rfl) (by kernel_rfl) rfl (by kernel_rfl)
theorem ok92 : FnOk Go.Proofs.Try.prog nm fnE 92 44 := .of Go.Proofs.Try.func92 (by kernel_rfl) (by kernel_rfl) rfl (by kernel_rfl)
theorem ok93 : FnOk Go.Proofs.Try.prog nm fnE 93 45 := .of Go.Proofs.Try.func93 (by kernel_rfl) (by kernel_rfl) rfl (by kernel_rfl)
theorem ok94 : FnOk Go.Proofs.Try.prog nm fnE 94 47 := .of Go.Proofs.Try.func94 (by kernel_rfl) (by kernel_rfl) rfl (by kernel_rfl)
theorem ok95 : FnOk Go.Proofs.Try.prog nm fnE 95 65 := .of Go.Proofs.Try.func95 (by kernel_rfl) (by kernel_rfl) rfl (by kernel_rfl)
theorem ok96 : FnOk Go.Proofs.Try.prog nm fnE 96 66 := .of Go.Proofs.Try.func96 (by kernel_rfl) (by kernel_rfl) rfl (by kernel_rfl)
theorem ok97 : FnOk Go.Proofs.Try.prog nm fnE 97 68 := .of Go.Proofs.Try.func97 (by kernel_rfl) (by kernel_rfl) rfl (by kernel_rfl)
theorem ok99 : FnOk Go.Proofs.Try.prog nm fnE 99 53 := .ext Go.Proofs.Try.func99 (by kernel_rfl) (by kernel_rfl) rfl
theorem ok101 : FnOk Go.Proofs.Try.prog nm fnE 101 50 := .of Go.Proofs.Try.func101 (by kernel_rfl) (by kernel_rfl) rfl (by kernel_rfl)
theorem ok102 : FnOk Go.Proofs.Try.prog nm fnE 102 51 := .of Go.Proofs.Try.func102 (by kernel_rfl) (by kernel_rfl) rfl (by kernel_rfl)

theorem allOk : AllF Go.Proofs.Try.prog nm fnE 0 tbl :=
  ⟨ok8, ok17, ok21, ok22, ok24, ok29, ok34, ok35, ok36, ok37, ok40, ok60, ok66, ok67, ok68, ok69, ok70, ok73, ok74, ok75, ok76, ok80, ok88, ok92, ok93, ok94, ok95, ok96, ok97, ok99, ok101, ok102, trivial⟩

theorem envOk : EnvOk Go.Proofs.Try.prog nm E := envX_ok (by kernel_rfl) allOk (.contains (f := 99) (uniq_of (by kernel_rfl)) Go.Proofs.Try.strings_Contains_one)

end Go.Vm
