/- The machine's form of functions, each checked against the translation, and the environment that they make. -/
import Derived.Test.YthemfgeagohdhaaVc
import Derived.Test.YthemfgeagohdhaaProg
import Derived.KernelRfl
namespace Go.Vm

def c_regletlaw11_FlowLeads_1 : CCode :=
  (.seq (.draw [
 ⟨(some 63), .ld true 5 (.t 2), none⟩,
 ⟨(some 64), .call none true 102 [(.t 63)], none⟩,
 ⟨(some 65), .ld true 5 (.t 2), none⟩,
 ⟨(some 66), .call none true 106 [(.t 65)], none⟩,
 ⟨(some 67), .call none true 11 [(.t 64), (.t 66)], none⟩,
 ⟨(some 68), .mv (.t 67), none⟩,
 ⟨(some 69), .ld true 5 (.t 2), (some (68, true))⟩,
 ⟨(some 70), .mv (.t 1), (some (68, true))⟩,
 ⟨(some 71), .call none true 81 [(.t 69), (.t 70)], (some (68, true))⟩,
 ⟨(some 72), .ld true 5 (.t 2), (some (68, true))⟩,
 ⟨(some 73), .mv (.t 1), (some (68, true))⟩,
 ⟨(some 74), .call none true 95 [(.t 72), (.t 73)], (some (68, true))⟩,
 ⟨(some 75), .call none true 11 [(.t 71), (.t 74)], (some (68, true))⟩,
 ⟨(some 76), .pick (.t 68) (.t 75) (.c (.bool false)), none⟩,
 ⟨(some 4), .mv (.t 76), none⟩] [(1, 2), (8, 9)])
 .ret)

def c_regletlaw11_FlowLeads_3 : CCode :=
  (.region [
 ⟨(some 62), .bin .add (.t 50) (.c (.int .i64 1)), none⟩,
 ⟨(some 50), .mv (.t 62), none⟩])

def c_regletlaw11_FlowLeads_4 : CCode :=
  (.seq (.block 3 (.seq (.region [
 ⟨(some 52), .mv (.t 50), none⟩,
 ⟨(some 8), .mv (.t 52), none⟩])
 (.seq (.draw [
 ⟨(some 53), .mv (.t 6), none⟩,
 ⟨(some 54), .mv (.t 8), none⟩,
 ⟨(some 55), .ixs 1 (.t 53) (.t 54), none⟩,
 ⟨(some 56), .ld false 1 (.t 55), none⟩,
 ⟨(some 57), .mv (.t 7), none⟩,
 ⟨(some 58), .mv (.t 8), none⟩,
 ⟨(some 59), .ixs 1 (.t 57) (.t 58), none⟩,
 ⟨(some 60), .ld false 1 (.t 59), none⟩,
 ⟨(some 61), .eqb true (.t 56) (.t 60), none⟩] [])
 (.cond (.t 61)
 (.seq (.region [
  ⟨(some 4), .mv (.c (.bool false)), none⟩])
  .ret)
 .skip))))
 c_regletlaw11_FlowLeads_3)

def c_regletlaw11_FlowLeads_5 : CCode :=
  (.seq (.cond (.t 51)
 .skip
 (.exit 2))
 c_regletlaw11_FlowLeads_4)

def c_regletlaw11_FlowLeads_6 : CCode :=
  (.seq (.region [
 ⟨(some 51), .bin .lss (.t 50) (.t 49), none⟩])
 c_regletlaw11_FlowLeads_5)

def c_regletlaw11_FlowLeads_L2 : CCode :=
  (.loop [1, 2, 6, 7, 49, 50] c_regletlaw11_FlowLeads_6)

def c_regletlaw11_FlowLeads_7 : CCode :=
  (.block 2 c_regletlaw11_FlowLeads_L2)

def c_regletlaw11_FlowLeads_8 : CCode :=
  (.seq (.region [
 ⟨(some 48), .mv (.t 6), none⟩,
 ⟨(some 49), .len 1 (.t 48), none⟩,
 ⟨(some 50), .mv (.c (.int .i64 0)), none⟩])
 c_regletlaw11_FlowLeads_7)

def c_regletlaw11_FlowLeads_9 : CCode :=
  (.seq c_regletlaw11_FlowLeads_8
 c_regletlaw11_FlowLeads_1)

def c_regletlaw11_FlowLeads_10 : CCode :=
  (.seq (.seq (.region [
 ⟨(some 43), .mv (.t 6), none⟩,
 ⟨(some 44), .len 1 (.t 43), none⟩,
 ⟨(some 45), .mv (.t 7), none⟩,
 ⟨(some 46), .len 1 (.t 45), none⟩,
 ⟨(some 47), .bin .neq (.t 44) (.t 46), none⟩])
 (.cond (.t 47)
 (.seq (.region [
  ⟨(some 4), .mv (.c (.bool false)), none⟩])
  .ret)
 .skip))
 c_regletlaw11_FlowLeads_9)

def c_regletlaw11_FlowLeads_11 : CCode :=
  (.seq (.draw [
 ⟨(some 39), .ld true 5 (.t 2), none⟩,
 ⟨(some 40), .call none true 101 [(.t 39)], none⟩,
 ⟨(some 41), .ld true 5 (.t 2), none⟩,
 ⟨(some 42), .call none true 104 [(.t 41)], none⟩,
 ⟨(some 6), .mv (.t 40), none⟩,
 ⟨(some 7), .mv (.t 42), none⟩] [(1, 2)])
 c_regletlaw11_FlowLeads_10)

def c_regletlaw11_FlowLeads_13 : CCode :=
  (.region [
 ⟨(some 19), .mv (.t 5), none⟩,
 ⟨(some 20), .bin .add (.t 19) (.c (.int .i64 1)), none⟩,
 ⟨(some 5), .mv (.t 20), none⟩])

def c_regletlaw11_FlowLeads_14 : CCode :=
  (.seq (.block 1 (.seq (.draw [
 ⟨(some 21), .ld true 5 (.t 2), none⟩,
 ⟨(some 22), .mv (.t 5), none⟩,
 ⟨(some 23), .call none true 81 [(.t 21), (.t 22)], none⟩,
 ⟨(some 24), .ld true 5 (.t 2), none⟩,
 ⟨(some 25), .mv (.t 5), none⟩,
 ⟨(some 26), .call none true 95 [(.t 24), (.t 25)], none⟩,
 ⟨(some 27), .call none true 11 [(.t 23), (.t 26)], none⟩,
 ⟨(some 28), .un .not (.t 27), none⟩,
 ⟨(some 29), .mv (.t 28), none⟩,
 ⟨(some 30), .ld true 5 (.t 2), (some (29, false))⟩,
 ⟨(some 31), .mv (.t 5), (some (29, false))⟩,
 ⟨(some 32), .call none true 79 [(.t 30), (.t 31)], (some (29, false))⟩,
 ⟨(some 33), .ld true 5 (.t 2), (some (29, false))⟩,
 ⟨(some 34), .mv (.t 5), (some (29, false))⟩,
 ⟨(some 35), .call none true 92 [(.t 33), (.t 34)], (some (29, false))⟩,
 ⟨(some 36), .call none true 11 [(.t 32), (.t 35)], (some (29, false))⟩,
 ⟨(some 37), .un .not (.t 36), (some (29, false))⟩,
 ⟨(some 38), .pick (.t 29) (.c (.bool true)) (.t 37), none⟩] [(2, 3), (11, 12)])
 (.cond (.t 38)
 (.seq (.region [
  ⟨(some 4), .mv (.c (.bool false)), none⟩])
  .ret)
 .skip)))
 c_regletlaw11_FlowLeads_13)

def c_regletlaw11_FlowLeads_15 : CCode :=
  (.seq (.seq (.region [
 ⟨(some 14), .mv (.t 5), none⟩,
 ⟨(some 15), .fa 3 (.t 2), none⟩,
 ⟨(some 16), .ld false 1 (.t 15), none⟩,
 ⟨(some 17), .len 1 (.t 16), none⟩,
 ⟨(some 18), .bin .leq (.t 14) (.t 17), none⟩])
 (.cond (.t 18)
 .skip
 (.exit 0)))
 c_regletlaw11_FlowLeads_14)

def c_regletlaw11_FlowLeads_L12 : CCode :=
  (.loop [1, 2, 5] c_regletlaw11_FlowLeads_15)

def c_regletlaw11_FlowLeads_16 : CCode :=
  (.block 0 c_regletlaw11_FlowLeads_L12)

def c_regletlaw11_FlowLeads_17 : CCode :=
  (.seq (.region [
 ⟨(some 5), .mv (.c (.int .i64 (-1))), none⟩])
 c_regletlaw11_FlowLeads_16)

def c_regletlaw11_FlowLeads_18 : CCode :=
  (.seq c_regletlaw11_FlowLeads_17
 c_regletlaw11_FlowLeads_11)

def c_regletlaw11_FlowLeads_19 : CCode :=
  (.seq (.seq (.region [
 ⟨(some 11), .ld true 5 (.t 2), none⟩,
 ⟨(some 12), .call none true 98 [(.t 11)], none⟩,
 ⟨(some 13), .un .not (.t 12), none⟩])
 (.cond (.t 13)
 (.seq (.region [
  ⟨(some 4), .mv (.c (.bool true)), none⟩])
  .ret)
 .skip))
 c_regletlaw11_FlowLeads_18)

def c_regletlaw11_FlowLeads_20 : CCode :=
  (.seq (.seq (.region [
 ⟨(some 9), .call none true 97 [], none⟩,
 ⟨(some 10), .un .not (.t 9), none⟩])
 (.cond (.t 10)
 (.seq (.region [
  ⟨(some 4), .mv (.c (.bool false)), none⟩])
  .ret)
 .skip))
 c_regletlaw11_FlowLeads_19)

def c_regletlaw11_FlowLeads_21 : CCode :=
  (.seq (.region [
 ⟨(some 2), .box (some 0) (.t 0), none⟩,
 ⟨(some 4), .mv (.c (.bool false)), none⟩])
 c_regletlaw11_FlowLeads_20)

def c_regletlaw11_FlowLeads : CFunc :=
  ⟨2, true, 1, c_regletlaw11_FlowLeads_21, [.t 4]⟩

def c_regletlaw11_holds : CFunc :=
  ⟨0, true, 4, (.seq (.region [
    ⟨(some 0), .mv (.c (.bool false)), none⟩])
  (.seq (.region [
    ⟨(some 3), .build [(.int .i64 0), (.int .i64 0), (.int .i64 0), (.int .i64 0), (.int .i64 0), (.int .i64 0), (.int .i64 0), (.str []), .nils] [(0, 1, (.c (.int .i64 33)))], none⟩,
    ⟨(some 4), .build [(.int .i64 0), (.int .i64 0), (.int .i64 0), (.int .i64 0), (.int .i64 0), (.int .i64 0), (.int .i64 0), (.str []), .nils] [(0, 1, (.c (.int .i64 30))), (2, 1, (.c (.int .i64 (-1))))], none⟩,
    ⟨(some 5), .buildS (some 0) 9 2 [(.int .i64 0), (.int .i64 0), (.int .i64 0), (.int .i64 0), (.int .i64 0), (.int .i64 0), (.int .i64 0), (.str []), .nils] [(0, (.t 3)), (1, (.t 4))], none⟩,
    ⟨(some 6), .build [.nils, .nils, (.int .i64 0), .nils, .nils] [(3, 1, (.t 5))], none⟩,
    ⟨(some 7), .call none true 100 [(.t 6)], none⟩,
    ⟨(some 1), .new (some 1) [.nils, .nils, (.int .i64 0), .nils, .nils], none⟩,
    ⟨none, .st 5 (.t 1) (.t 7), none⟩])
  (.seq (.region [
    ⟨(some 8), .buildS (some 2) 1 1 [(.int .i64 0)] [(0, (.c (.int .i64 1)))], none⟩,
    ⟨(some 9), .build [(.int .i64 0), (.int .i64 0), (.int .i64 0), (.int .i64 0), (.int .i64 0), (.int .i64 0), (.int .i64 0), (.str []), .nils] [(0, 1, (.c (.int .i64 28))), (6, 1, (.c (.int .i64 2)))], none⟩,
    ⟨(some 10), .build [(.int .i64 0), (.int .i64 0), (.int .i64 0), (.int .i64 0), (.int .i64 0), (.int .i64 0), (.int .i64 0), (.str []), .nils] [(0, 1, (.c (.int .i64 33)))], none⟩,
    ⟨(some 11), .build [(.int .i64 0), (.int .i64 0), (.int .i64 0), (.int .i64 0), (.int .i64 0), (.int .i64 0), (.int .i64 0), (.str []), .nils] [(0, 1, (.c (.int .i64 30))), (2, 1, (.c (.int .i64 (-1))))], none⟩,
    ⟨(some 12), .buildS (some 3) 9 3 [(.int .i64 0), (.int .i64 0), (.int .i64 0), (.int .i64 0), (.int .i64 0), (.int .i64 0), (.int .i64 0), (.str []), .nils] [(0, (.t 9)), (1, (.t 10)), (2, (.t 11))], none⟩,
    ⟨(some 13), .build [.nils, .nils, (.int .i64 0), .nils, .nils] [(0, 1, (.t 8)), (3, 1, (.t 12))], none⟩,
    ⟨(some 14), .call none true 81 [(.t 13), (.c (.int .i64 0))], none⟩,
    ⟨(some 2), .mv (.t 14), none⟩])
  (.seq (.region [
    ⟨(some 15), .fa 3 (.t 1), none⟩,
    ⟨(some 16), .ld false 1 (.t 15), none⟩,
    ⟨(some 17), .len 1 (.t 16), none⟩,
    ⟨(some 18), .bin .eql (.t 17) (.c (.int .i64 1)), none⟩,
    ⟨(some 19), .mv (.t 18), none⟩,
    ⟨(some 20), .fa 3 (.t 1), (some (19, true))⟩,
    ⟨(some 21), .ld false 1 (.t 20), (some (19, true))⟩,
    ⟨(some 22), .ixs 9 (.t 21) (.c (.int .i64 0)), (some (19, true))⟩,
    ⟨(some 23), .fa 0 (.t 22), (some (19, true))⟩,
    ⟨(some 24), .ld false 1 (.t 23), (some (19, true))⟩,
    ⟨(some 25), .bin .eql (.t 24) (.c (.int .i64 30)), (some (19, true))⟩,
    ⟨(some 26), .pick (.t 19) (.t 25) (.c (.bool false)), none⟩,
    ⟨(some 27), .mv (.t 26), none⟩,
    ⟨(some 28), .mv (.t 2), (some (27, true))⟩,
    ⟨(some 29), .len 1 (.t 28), (some (27, true))⟩,
    ⟨(some 30), .bin .eql (.t 29) (.c (.int .i64 2)), (some (27, true))⟩,
    ⟨(some 31), .pick (.t 27) (.t 30) (.c (.bool false)), none⟩,
    ⟨(some 32), .mv (.t 31), none⟩,
    ⟨(some 33), .mv (.t 2), (some (32, true))⟩,
    ⟨(some 34), .ixs 1 (.t 33) (.c (.int .i64 1)), (some (32, true))⟩,
    ⟨(some 35), .ld false 1 (.t 34), (some (32, true))⟩,
    ⟨(some 36), .bin .eql (.t 35) (.c (.int .i64 2)), (some (32, true))⟩,
    ⟨(some 37), .pick (.t 32) (.t 36) (.c (.bool false)), none⟩,
    ⟨(some 0), .mv (.t 37), none⟩])
  .ret)))), [.t 0]⟩

def c_regletlaw11_light_1 : CCode :=
  (.seq (.region [
 ⟨(some 1), .box (some 0) (.t 0), none⟩,
 ⟨(some 2), .mv (.c (.bool false)), none⟩])
 (.seq (.region [
 ⟨(some 3), .fa 3 (.t 1), none⟩,
 ⟨(some 4), .ld false 1 (.t 3), none⟩,
 ⟨(some 5), .len 1 (.t 4), none⟩,
 ⟨(some 6), .bin .leq (.t 5) (.c (.int .i64 400)), none⟩,
 ⟨(some 7), .mv (.t 6), none⟩,
 ⟨(some 8), .fa 0 (.t 1), (some (7, true))⟩,
 ⟨(some 9), .ld false 1 (.t 8), (some (7, true))⟩,
 ⟨(some 10), .len 1 (.t 9), (some (7, true))⟩,
 ⟨(some 11), .bin .leq (.t 10) (.c (.int .i64 100)), (some (7, true))⟩,
 ⟨(some 12), .pick (.t 7) (.t 11) (.c (.bool false)), none⟩,
 ⟨(some 13), .mv (.t 12), none⟩,
 ⟨(some 14), .fa 4 (.t 1), (some (13, true))⟩,
 ⟨(some 15), .ld false 1 (.t 14), (some (13, true))⟩,
 ⟨(some 16), .len 1 (.t 15), (some (13, true))⟩,
 ⟨(some 17), .bin .leq (.t 16) (.c (.int .i64 100)), (some (13, true))⟩,
 ⟨(some 18), .pick (.t 13) (.t 17) (.c (.bool false)), none⟩,
 ⟨(some 2), .mv (.t 18), none⟩])
 .ret))

def c_regletlaw11_light : CFunc :=
  ⟨1, true, 1, c_regletlaw11_light_1, [.t 2]⟩

def c_regletref10_Ints_1 : CCode :=
  (.seq (.region [
 ⟨(some 4), .mv (.c (.bool true)), none⟩])
 .ret)

def c_regletref10_Ints_3 : CCode :=
  (.region [
 ⟨(some 15), .mv (.t 5), none⟩,
 ⟨(some 16), .bin .add (.t 15) (.c (.int .i64 1)), none⟩,
 ⟨(some 5), .mv (.t 16), none⟩])

def c_regletref10_Ints_4 : CCode :=
  (.seq (.block 1 (.seq (.draw [
 ⟨(some 17), .mv (.t 0), none⟩,
 ⟨(some 18), .mv (.t 5), none⟩,
 ⟨(some 19), .ixs 1 (.t 17) (.t 18), none⟩,
 ⟨(some 20), .ld false 1 (.t 19), none⟩,
 ⟨(some 21), .mv (.t 1), none⟩,
 ⟨(some 22), .mv (.t 5), none⟩,
 ⟨(some 23), .ixs 1 (.t 21) (.t 22), none⟩,
 ⟨(some 24), .ld false 1 (.t 23), none⟩,
 ⟨(some 25), .bin .neq (.t 20) (.t 24), none⟩] [])
 (.cond (.t 25)
 (.seq (.region [
  ⟨(some 4), .mv (.c (.bool false)), none⟩])
  .ret)
 .skip)))
 c_regletref10_Ints_3)

def c_regletref10_Ints_5 : CCode :=
  (.seq (.seq (.region [
 ⟨(some 11), .mv (.t 5), none⟩,
 ⟨(some 12), .mv (.t 0), none⟩,
 ⟨(some 13), .len 1 (.t 12), none⟩,
 ⟨(some 14), .bin .lss (.t 11) (.t 13), none⟩])
 (.cond (.t 14)
 .skip
 (.exit 0)))
 c_regletref10_Ints_4)

def c_regletref10_Ints_L2 : CCode :=
  (.loop [0, 1, 5] c_regletref10_Ints_5)

def c_regletref10_Ints_6 : CCode :=
  (.block 0 c_regletref10_Ints_L2)

def c_regletref10_Ints_7 : CCode :=
  (.seq (.region [
 ⟨(some 5), .mv (.c (.int .i64 0)), none⟩])
 c_regletref10_Ints_6)

def c_regletref10_Ints_8 : CCode :=
  (.seq c_regletref10_Ints_7
 c_regletref10_Ints_1)

def c_regletref10_Ints_9 : CCode :=
  (.seq (.seq (.region [
 ⟨(some 6), .mv (.t 0), none⟩,
 ⟨(some 7), .len 1 (.t 6), none⟩,
 ⟨(some 8), .mv (.t 1), none⟩,
 ⟨(some 9), .len 1 (.t 8), none⟩,
 ⟨(some 10), .bin .neq (.t 7) (.t 9), none⟩])
 (.cond (.t 10)
 (.seq (.region [
  ⟨(some 4), .mv (.c (.bool false)), none⟩])
  .ret)
 .skip))
 c_regletref10_Ints_8)

def c_regletref10_Ints_10 : CCode :=
  (.seq (.region [
 ⟨(some 4), .mv (.c (.bool false)), none⟩])
 c_regletref10_Ints_9)

def c_regletref10_Ints : CFunc :=
  ⟨2, true, 0, c_regletref10_Ints_10, [.t 4]⟩

def c_flow_Next_1 : CCode :=
  (.seq (.region [
 ⟨(some 43), .mv (.t 6), none⟩,
 ⟨(some 4), .mv (.t 43), none⟩])
 .ret)

def c_flow_Next_2 : CCode :=
  (.seq (.seq (.region [
 ⟨(some 29), .ld true 9 (.t 5), none⟩,
 ⟨(some 30), .call none true 22 [(.t 29)], none⟩,
 ⟨(some 31), .mv (.t 30), none⟩,
 ⟨(some 32), .mv (.t 6), (some (31, true))⟩,
 ⟨(some 33), .fa 6 (.t 5), (some (31, true))⟩,
 ⟨(some 34), .ld false 1 (.t 33), (some (31, true))⟩,
 ⟨(some 35), .call none true 46 [(.t 32), (.t 34)], (some (31, true))⟩,
 ⟨(some 36), .un .not (.t 35), (some (31, true))⟩,
 ⟨(some 37), .pick (.t 31) (.t 36) (.c (.bool false)), none⟩])
 (.cond (.t 37)
 (.region [
  ⟨(some 38), .mv (.t 6), none⟩,
  ⟨(some 39), .fa 6 (.t 5), none⟩,
  ⟨(some 40), .ld false 1 (.t 39), none⟩,
  ⟨(some 41), .buildS (some 4) 1 1 [(.int .i64 0)] [(0, (.t 40))], none⟩,
  ⟨(some 42), .app (some 5) 1 8 (.t 38) (.t 41), none⟩,
  ⟨(some 6), .mv (.t 42), none⟩])
 .skip))
 c_flow_Next_1)

def c_flow_Next_3 : CCode :=
  (.seq (.seq (.region [
 ⟨(some 21), .ld true 9 (.t 5), none⟩,
 ⟨(some 22), .call none true 24 [(.t 21)], none⟩,
 ⟨(some 23), .un .not (.t 22), none⟩])
 (.cond (.t 23)
 (.region [
  ⟨(some 24), .mv (.t 6), none⟩,
  ⟨(some 25), .mv (.t 1), none⟩,
  ⟨(some 26), .bin .add (.t 25) (.c (.int .i64 1)), none⟩,
  ⟨(some 27), .buildS (some 2) 1 1 [(.int .i64 0)] [(0, (.t 26))], none⟩,
  ⟨(some 28), .app (some 3) 1 8 (.t 24) (.t 27), none⟩,
  ⟨(some 6), .mv (.t 28), none⟩])
 .skip))
 c_flow_Next_2)

def c_flow_Next_4 : CCode :=
  (.seq (.region [
 ⟨(some 6), .mv (.c .nils), none⟩])
 c_flow_Next_3)

def c_flow_Next_5 : CCode :=
  (.seq (.region [
 ⟨(some 16), .fa 3 (.t 2), none⟩,
 ⟨(some 17), .ld false 1 (.t 16), none⟩,
 ⟨(some 18), .mv (.t 1), none⟩,
 ⟨(some 19), .ixs 9 (.t 17) (.t 18), none⟩,
 ⟨(some 20), .ld true 9 (.t 19), none⟩,
 ⟨(some 5), .new (some 1) [(.int .i64 0), (.int .i64 0), (.int .i64 0), (.int .i64 0), (.int .i64 0), (.int .i64 0), (.int .i64 0), (.str []), .nils], none⟩,
 ⟨none, .st 9 (.t 5) (.t 20), none⟩])
 c_flow_Next_4)

def c_flow_Next_6 : CCode :=
  (.seq (.seq (.region [
 ⟨(some 7), .mv (.t 1), none⟩,
 ⟨(some 8), .bin .lss (.t 7) (.c (.int .i64 0)), none⟩,
 ⟨(some 9), .mv (.t 8), none⟩,
 ⟨(some 10), .mv (.t 1), (some (9, false))⟩,
 ⟨(some 11), .fa 3 (.t 2), (some (9, false))⟩,
 ⟨(some 12), .ld false 1 (.t 11), (some (9, false))⟩,
 ⟨(some 13), .len 1 (.t 12), (some (9, false))⟩,
 ⟨(some 14), .bin .geq (.t 10) (.t 13), (some (9, false))⟩,
 ⟨(some 15), .pick (.t 9) (.c (.bool true)) (.t 14), none⟩])
 (.cond (.t 15)
 (.seq (.region [
  ⟨(some 4), .mv (.c .nils), none⟩])
  .ret)
 .skip))
 c_flow_Next_5)

def c_flow_Next_7 : CCode :=
  (.seq (.region [
 ⟨(some 2), .box (some 0) (.t 0), none⟩,
 ⟨(some 4), .mv (.c .nils), none⟩])
 c_flow_Next_6)

def c_flow_Next : CFunc :=
  ⟨2, true, 6, c_flow_Next_7, [.t 4]⟩

def c_regletref11_Next_1 : CCode :=
  (.seq (.region [
 ⟨(some 43), .mv (.t 6), none⟩,
 ⟨(some 4), .mv (.t 43), none⟩])
 .ret)

def c_regletref11_Next_2 : CCode :=
  (.seq (.seq (.region [
 ⟨(some 28), .fa 0 (.t 5), none⟩,
 ⟨(some 29), .ld false 1 (.t 28), none⟩,
 ⟨(some 30), .call none true 23 [(.t 29)], none⟩,
 ⟨(some 31), .mv (.t 30), none⟩,
 ⟨(some 32), .mv (.t 6), (some (31, true))⟩,
 ⟨(some 33), .fa 6 (.t 5), (some (31, true))⟩,
 ⟨(some 34), .ld false 1 (.t 33), (some (31, true))⟩,
 ⟨(some 35), .call none true 96 [(.t 32), (.t 34)], (some (31, true))⟩,
 ⟨(some 36), .un .not (.t 35), (some (31, true))⟩,
 ⟨(some 37), .pick (.t 31) (.t 36) (.c (.bool false)), none⟩])
 (.cond (.t 37)
 (.region [
  ⟨(some 38), .mv (.t 6), none⟩,
  ⟨(some 39), .fa 6 (.t 5), none⟩,
  ⟨(some 40), .ld false 1 (.t 39), none⟩,
  ⟨(some 41), .buildS (some 3) 1 1 [(.int .i64 0)] [(0, (.t 40))], none⟩,
  ⟨(some 42), .app (some 4) 1 8 (.t 38) (.t 41), none⟩,
  ⟨(some 6), .mv (.t 42), none⟩])
 .skip))
 c_regletref11_Next_1)

def c_regletref11_Next_3 : CCode :=
  (.seq (.seq (.region [
 ⟨(some 21), .fa 0 (.t 5), none⟩,
 ⟨(some 22), .ld false 1 (.t 21), none⟩,
 ⟨(some 23), .call none true 25 [(.t 22)], none⟩,
 ⟨(some 24), .un .not (.t 23), none⟩])
 (.cond (.t 24)
 (.region [
  ⟨(some 25), .mv (.t 1), none⟩,
  ⟨(some 26), .bin .add (.t 25) (.c (.int .i64 1)), none⟩,
  ⟨(some 27), .buildS (some 2) 1 1 [(.int .i64 0)] [(0, (.t 26))], none⟩,
  ⟨(some 6), .mv (.t 27), none⟩])
 .skip))
 c_regletref11_Next_2)

def c_regletref11_Next_4 : CCode :=
  (.seq (.region [
 ⟨(some 6), .mv (.c .nils), none⟩])
 c_regletref11_Next_3)

def c_regletref11_Next_5 : CCode :=
  (.seq (.region [
 ⟨(some 16), .fa 3 (.t 2), none⟩,
 ⟨(some 17), .ld false 1 (.t 16), none⟩,
 ⟨(some 18), .mv (.t 1), none⟩,
 ⟨(some 19), .ixs 9 (.t 17) (.t 18), none⟩,
 ⟨(some 20), .ld true 9 (.t 19), none⟩,
 ⟨(some 5), .new (some 1) [(.int .i64 0), (.int .i64 0), (.int .i64 0), (.int .i64 0), (.int .i64 0), (.int .i64 0), (.int .i64 0), (.str []), .nils], none⟩,
 ⟨none, .st 9 (.t 5) (.t 20), none⟩])
 c_regletref11_Next_4)

def c_regletref11_Next_6 : CCode :=
  (.seq (.seq (.region [
 ⟨(some 7), .mv (.t 1), none⟩,
 ⟨(some 8), .bin .lss (.t 7) (.c (.int .i64 0)), none⟩,
 ⟨(some 9), .mv (.t 8), none⟩,
 ⟨(some 10), .mv (.t 1), (some (9, false))⟩,
 ⟨(some 11), .fa 3 (.t 2), (some (9, false))⟩,
 ⟨(some 12), .ld false 1 (.t 11), (some (9, false))⟩,
 ⟨(some 13), .len 1 (.t 12), (some (9, false))⟩,
 ⟨(some 14), .bin .geq (.t 10) (.t 13), (some (9, false))⟩,
 ⟨(some 15), .pick (.t 9) (.c (.bool true)) (.t 14), none⟩])
 (.cond (.t 15)
 (.seq (.region [
  ⟨(some 4), .mv (.c .nils), none⟩])
  .ret)
 .skip))
 c_regletref11_Next_5)

def c_regletref11_Next_7 : CCode :=
  (.seq (.region [
 ⟨(some 2), .box (some 0) (.t 0), none⟩,
 ⟨(some 4), .mv (.c .nils), none⟩])
 c_regletref11_Next_6)

def c_regletref11_Next : CFunc :=
  ⟨2, true, 5, c_regletref11_Next_7, [.t 4]⟩

def c_flow_Caught_1 : CCode :=
  (.seq (.region [
 ⟨(some 57), .mv (.t 5), none⟩,
 ⟨(some 4), .mv (.t 57), none⟩])
 .ret)

def c_flow_Caught_3 : CCode :=
  (.region [
 ⟨(some 56), .bin .add (.t 29) (.c (.int .i64 1)), none⟩,
 ⟨(some 29), .mv (.t 56), none⟩])

def c_flow_Caught_4 : CCode :=
  (.seq (.region [
 ⟨(some 53), .fa 3 (.t 7), none⟩,
 ⟨(some 54), .ld false 1 (.t 53), none⟩,
 ⟨(some 55), .bin .eql (.t 54) (.c (.str [])), none⟩])
 (.cond (.t 55)
 (.exit 0)
 .skip))

def c_flow_Caught_5 : CCode :=
  (.seq (.seq (.region [
 ⟨(some 43), .mv (.t 5), none⟩,
 ⟨(some 44), .fa 2 (.t 7), none⟩,
 ⟨(some 45), .ld false 1 (.t 44), none⟩,
 ⟨(some 46), .call none true 46 [(.t 43), (.t 45)], none⟩,
 ⟨(some 47), .un .not (.t 46), none⟩])
 (.cond (.t 47)
 (.region [
  ⟨(some 48), .mv (.t 5), none⟩,
  ⟨(some 49), .fa 2 (.t 7), none⟩,
  ⟨(some 50), .ld false 1 (.t 49), none⟩,
  ⟨(some 51), .buildS (some 2) 1 1 [(.int .i64 0)] [(0, (.t 50))], none⟩,
  ⟨(some 52), .app (some 3) 1 8 (.t 48) (.t 51), none⟩,
  ⟨(some 5), .mv (.t 52), none⟩])
 .skip))
 c_flow_Caught_4)

def c_flow_Caught_6 : CCode :=
  (.seq (.seq (.region [
 ⟨(some 33), .mv (.t 1), none⟩,
 ⟨(some 34), .fa 0 (.t 7), none⟩,
 ⟨(some 35), .ld false 1 (.t 34), none⟩,
 ⟨(some 36), .bin .lss (.t 33) (.t 35), none⟩,
 ⟨(some 37), .mv (.t 36), none⟩,
 ⟨(some 38), .mv (.t 1), (some (37, false))⟩,
 ⟨(some 39), .fa 1 (.t 7), (some (37, false))⟩,
 ⟨(some 40), .ld false 1 (.t 39), (some (37, false))⟩,
 ⟨(some 41), .bin .geq (.t 38) (.t 40), (some (37, false))⟩,
 ⟨(some 42), .pick (.t 37) (.c (.bool true)) (.t 41), none⟩])
 (.cond (.t 42)
 (.exit 1)
 .skip))
 c_flow_Caught_5)

def c_flow_Caught_7 : CCode :=
  (.seq (.region [
 ⟨(some 31), .ixs 4 (.t 27) (.t 29), none⟩,
 ⟨(some 32), .ld true 4 (.t 31), none⟩,
 ⟨(some 7), .new (some 1) [(.int .i64 0), (.int .i64 0), (.int .i64 0), (.str [])], none⟩,
 ⟨none, .st 4 (.t 7) (.t 32), none⟩])
 c_flow_Caught_6)

def c_flow_Caught_8 : CCode :=
  (.block 1 c_flow_Caught_7)

def c_flow_Caught_9 : CCode :=
  (.seq c_flow_Caught_8
 c_flow_Caught_3)

def c_flow_Caught_10 : CCode :=
  (.seq (.cond (.t 30)
 .skip
 (.exit 0))
 c_flow_Caught_9)

def c_flow_Caught_11 : CCode :=
  (.seq (.region [
 ⟨(some 30), .bin .lss (.t 29) (.t 28), none⟩])
 c_flow_Caught_10)

def c_flow_Caught_L2 : CCode :=
  (.loop [1, 5, 27, 28, 29] c_flow_Caught_11)

def c_flow_Caught_12 : CCode :=
  (.block 0 c_flow_Caught_L2)

def c_flow_Caught_13 : CCode :=
  (.seq (.region [
 ⟨(some 26), .fa 4 (.t 2), none⟩,
 ⟨(some 27), .ld false 1 (.t 26), none⟩,
 ⟨(some 28), .len 1 (.t 27), none⟩,
 ⟨(some 29), .mv (.c (.int .i64 0)), none⟩])
 c_flow_Caught_12)

def c_flow_Caught_14 : CCode :=
  (.seq c_flow_Caught_13
 c_flow_Caught_1)

def c_flow_Caught_15 : CCode :=
  (.seq (.region [
 ⟨(some 5), .mv (.c .nils), none⟩])
 c_flow_Caught_14)

def c_flow_Caught_16 : CCode :=
  (.seq (.seq (.region [
 ⟨(some 8), .mv (.t 1), none⟩,
 ⟨(some 9), .bin .lss (.t 8) (.c (.int .i64 0)), none⟩,
 ⟨(some 10), .mv (.t 9), none⟩,
 ⟨(some 11), .mv (.t 1), (some (10, false))⟩,
 ⟨(some 12), .fa 3 (.t 2), (some (10, false))⟩,
 ⟨(some 13), .ld false 1 (.t 12), (some (10, false))⟩,
 ⟨(some 14), .len 1 (.t 13), (some (10, false))⟩,
 ⟨(some 15), .bin .geq (.t 11) (.t 14), (some (10, false))⟩,
 ⟨(some 16), .pick (.t 10) (.c (.bool true)) (.t 15), none⟩,
 ⟨(some 17), .mv (.t 16), none⟩,
 ⟨(some 18), .fa 3 (.t 2), (some (17, false))⟩,
 ⟨(some 19), .ld false 1 (.t 18), (some (17, false))⟩,
 ⟨(some 20), .mv (.t 1), (some (17, false))⟩,
 ⟨(some 21), .ixs 9 (.t 19) (.t 20), (some (17, false))⟩,
 ⟨(some 22), .ld true 9 (.t 21), (some (17, false))⟩,
 ⟨(some 23), .call none true 18 [(.t 22)], (some (17, false))⟩,
 ⟨(some 24), .un .not (.t 23), (some (17, false))⟩,
 ⟨(some 25), .pick (.t 17) (.c (.bool true)) (.t 24), none⟩])
 (.cond (.t 25)
 (.seq (.region [
  ⟨(some 4), .mv (.c .nils), none⟩])
  .ret)
 .skip))
 c_flow_Caught_15)

def c_flow_Caught_17 : CCode :=
  (.seq (.region [
 ⟨(some 2), .box (some 0) (.t 0), none⟩,
 ⟨(some 4), .mv (.c .nils), none⟩])
 c_flow_Caught_16)

def c_flow_Caught : CFunc :=
  ⟨2, true, 4, c_flow_Caught_17, [.t 4]⟩

def c_regletref11_Caught_1 : CCode :=
  (.seq (.region [
 ⟨(some 63), .mv (.t 5), none⟩,
 ⟨(some 4), .mv (.t 63), none⟩])
 .ret)

def c_regletref11_Caught_3 : CCode :=
  (.region [
 ⟨(some 32), .mv (.t 6), none⟩,
 ⟨(some 33), .bin .add (.t 32) (.c (.int .i64 1)), none⟩,
 ⟨(some 6), .mv (.t 33), none⟩])

def c_regletref11_Caught_4 : CCode :=
  (.seq (.region [
 ⟨(some 59), .fa 3 (.t 7), none⟩,
 ⟨(some 60), .ld false 1 (.t 59), none⟩,
 ⟨(some 61), .bin .eql (.t 60) (.c (.str [])), none⟩])
 (.cond (.t 61)
 (.seq (.region [
  ⟨(some 62), .mv (.t 5), none⟩,
  ⟨(some 4), .mv (.t 62), none⟩])
  .ret)
 .skip))

def c_regletref11_Caught_5 : CCode :=
  (.seq (.seq (.region [
 ⟨(some 49), .mv (.t 5), none⟩,
 ⟨(some 50), .fa 2 (.t 7), none⟩,
 ⟨(some 51), .ld false 1 (.t 50), none⟩,
 ⟨(some 52), .call none true 96 [(.t 49), (.t 51)], none⟩,
 ⟨(some 53), .un .not (.t 52), none⟩])
 (.cond (.t 53)
 (.region [
  ⟨(some 54), .mv (.t 5), none⟩,
  ⟨(some 55), .fa 2 (.t 7), none⟩,
  ⟨(some 56), .ld false 1 (.t 55), none⟩,
  ⟨(some 57), .buildS (some 2) 1 1 [(.int .i64 0)] [(0, (.t 56))], none⟩,
  ⟨(some 58), .app (some 3) 1 8 (.t 54) (.t 57), none⟩,
  ⟨(some 5), .mv (.t 58), none⟩])
 .skip))
 c_regletref11_Caught_4)

def c_regletref11_Caught_6 : CCode :=
  (.cond (.t 48)
 c_regletref11_Caught_5
 .skip)

def c_regletref11_Caught_7 : CCode :=
  (.seq (.region [
 ⟨(some 39), .fa 0 (.t 7), none⟩,
 ⟨(some 40), .ld false 1 (.t 39), none⟩,
 ⟨(some 41), .mv (.t 1), none⟩,
 ⟨(some 42), .bin .leq (.t 40) (.t 41), none⟩,
 ⟨(some 43), .mv (.t 42), none⟩,
 ⟨(some 44), .mv (.t 1), (some (43, true))⟩,
 ⟨(some 45), .fa 1 (.t 7), (some (43, true))⟩,
 ⟨(some 46), .ld false 1 (.t 45), (some (43, true))⟩,
 ⟨(some 47), .bin .lss (.t 44) (.t 46), (some (43, true))⟩,
 ⟨(some 48), .pick (.t 43) (.t 47) (.c (.bool false)), none⟩])
 c_regletref11_Caught_6)

def c_regletref11_Caught_8 : CCode :=
  (.seq (.region [
 ⟨(some 34), .fa 4 (.t 2), none⟩,
 ⟨(some 35), .ld false 1 (.t 34), none⟩,
 ⟨(some 36), .mv (.t 6), none⟩,
 ⟨(some 37), .ixs 4 (.t 35) (.t 36), none⟩,
 ⟨(some 38), .ld true 4 (.t 37), none⟩,
 ⟨(some 7), .new (some 1) [(.int .i64 0), (.int .i64 0), (.int .i64 0), (.str [])], none⟩,
 ⟨none, .st 4 (.t 7) (.t 38), none⟩])
 c_regletref11_Caught_7)

def c_regletref11_Caught_9 : CCode :=
  (.block 1 c_regletref11_Caught_8)

def c_regletref11_Caught_10 : CCode :=
  (.seq c_regletref11_Caught_9
 c_regletref11_Caught_3)

def c_regletref11_Caught_11 : CCode :=
  (.seq (.seq (.region [
 ⟨(some 27), .mv (.t 6), none⟩,
 ⟨(some 28), .fa 4 (.t 2), none⟩,
 ⟨(some 29), .ld false 1 (.t 28), none⟩,
 ⟨(some 30), .len 1 (.t 29), none⟩,
 ⟨(some 31), .bin .lss (.t 27) (.t 30), none⟩])
 (.cond (.t 31)
 .skip
 (.exit 0)))
 c_regletref11_Caught_10)

def c_regletref11_Caught_L2 : CCode :=
  (.loop [1, 2, 5, 6] c_regletref11_Caught_11)

def c_regletref11_Caught_12 : CCode :=
  (.block 0 c_regletref11_Caught_L2)

def c_regletref11_Caught_13 : CCode :=
  (.seq (.region [
 ⟨(some 6), .mv (.c (.int .i64 0)), none⟩])
 c_regletref11_Caught_12)

def c_regletref11_Caught_14 : CCode :=
  (.seq c_regletref11_Caught_13
 c_regletref11_Caught_1)

def c_regletref11_Caught_15 : CCode :=
  (.seq (.seq (.region [
 ⟨(some 8), .mv (.t 1), none⟩,
 ⟨(some 9), .bin .lss (.t 8) (.c (.int .i64 0)), none⟩,
 ⟨(some 10), .mv (.t 9), none⟩,
 ⟨(some 11), .mv (.t 1), (some (10, false))⟩,
 ⟨(some 12), .fa 3 (.t 2), (some (10, false))⟩,
 ⟨(some 13), .ld false 1 (.t 12), (some (10, false))⟩,
 ⟨(some 14), .len 1 (.t 13), (some (10, false))⟩,
 ⟨(some 15), .bin .geq (.t 11) (.t 14), (some (10, false))⟩,
 ⟨(some 16), .pick (.t 10) (.c (.bool true)) (.t 15), none⟩,
 ⟨(some 17), .mv (.t 16), none⟩,
 ⟨(some 18), .fa 3 (.t 2), (some (17, false))⟩,
 ⟨(some 19), .ld false 1 (.t 18), (some (17, false))⟩,
 ⟨(some 20), .mv (.t 1), (some (17, false))⟩,
 ⟨(some 21), .ixs 9 (.t 19) (.t 20), (some (17, false))⟩,
 ⟨(some 22), .fa 0 (.t 21), (some (17, false))⟩,
 ⟨(some 23), .ld false 1 (.t 22), (some (17, false))⟩,
 ⟨(some 24), .call none true 19 [(.t 23)], (some (17, false))⟩,
 ⟨(some 25), .un .not (.t 24), (some (17, false))⟩,
 ⟨(some 26), .pick (.t 17) (.c (.bool true)) (.t 25), none⟩])
 (.cond (.t 26)
 (.seq (.region [
  ⟨(some 4), .mv (.c .nils), none⟩])
  .ret)
 .skip))
 c_regletref11_Caught_14)

def c_regletref11_Caught_16 : CCode :=
  (.seq (.region [
 ⟨(some 5), .mv (.c .nils), none⟩])
 c_regletref11_Caught_15)

def c_regletref11_Caught_17 : CCode :=
  (.seq (.region [
 ⟨(some 2), .box (some 0) (.t 0), none⟩,
 ⟨(some 4), .mv (.c .nils), none⟩])
 c_regletref11_Caught_16)

def c_regletref11_Caught : CFunc :=
  ⟨2, true, 4, c_regletref11_Caught_17, [.t 4]⟩

def c_flow_Reach_1 : CCode :=
  (.seq (.region [
 ⟨(some 52), .mv (.t 3), none⟩,
 ⟨(some 2), .mv (.t 52), none⟩])
 .ret)

def c_flow_Reach_3 : CCode :=
  (.seq (.region [
 ⟨(some 39), .mv (.t 3), none⟩,
 ⟨(some 40), .mv (.t 5), none⟩,
 ⟨(some 41), .ixs 1 (.t 39) (.t 40), none⟩,
 ⟨none, .st 1 (.t 41) (.c (.bool true)), none⟩])
 (.seq (.region [
 ⟨(some 42), .mv (.t 4), none⟩,
 ⟨(some 43), .ld true 5 (.t 1), none⟩,
 ⟨(some 44), .mv (.t 5), none⟩,
 ⟨(some 45), .call none true 81 [(.t 43), (.t 44)], none⟩,
 ⟨(some 46), .app (some 3) 1 8 (.t 42) (.t 45), none⟩,
 ⟨(some 4), .mv (.t 46), none⟩])
 (.region [
 ⟨(some 47), .mv (.t 4), none⟩,
 ⟨(some 48), .ld true 5 (.t 1), none⟩,
 ⟨(some 49), .mv (.t 5), none⟩,
 ⟨(some 50), .call none true 79 [(.t 48), (.t 49)], none⟩,
 ⟨(some 51), .app (some 4) 1 8 (.t 47) (.t 50), none⟩,
 ⟨(some 4), .mv (.t 51), none⟩])))

def c_flow_Reach_4 : CCode :=
  (.seq (.seq (.region [
 ⟨(some 25), .mv (.t 5), none⟩,
 ⟨(some 26), .bin .lss (.t 25) (.c (.int .i64 0)), none⟩,
 ⟨(some 27), .mv (.t 26), none⟩,
 ⟨(some 28), .mv (.t 5), (some (27, false))⟩,
 ⟨(some 29), .mv (.t 3), (some (27, false))⟩,
 ⟨(some 30), .len 1 (.t 29), (some (27, false))⟩,
 ⟨(some 31), .bin .geq (.t 28) (.t 30), (some (27, false))⟩,
 ⟨(some 32), .pick (.t 27) (.c (.bool true)) (.t 31), none⟩,
 ⟨(some 33), .mv (.t 32), none⟩,
 ⟨(some 34), .mv (.t 3), (some (33, false))⟩,
 ⟨(some 35), .mv (.t 5), (some (33, false))⟩,
 ⟨(some 36), .ixs 1 (.t 34) (.t 35), (some (33, false))⟩,
 ⟨(some 37), .ld false 1 (.t 36), (some (33, false))⟩,
 ⟨(some 38), .pick (.t 33) (.c (.bool true)) (.t 37), none⟩])
 (.cond (.t 38)
 (.exit 1)
 .skip))
 c_flow_Reach_3)

def c_flow_Reach_5 : CCode :=
  (.seq (.region [
 ⟨(some 20), .mv (.t 4), none⟩,
 ⟨(some 21), .mv (.t 4), none⟩,
 ⟨(some 22), .len 1 (.t 21), none⟩,
 ⟨(some 23), .bin .sub (.t 22) (.c (.int .i64 1)), none⟩,
 ⟨(some 24), .slc 1 (.t 20) none (some (.t 23)), none⟩,
 ⟨(some 4), .mv (.t 24), none⟩])
 c_flow_Reach_4)

def c_flow_Reach_6 : CCode :=
  (.seq (.region [
 ⟨(some 14), .mv (.t 4), none⟩,
 ⟨(some 15), .mv (.t 4), none⟩,
 ⟨(some 16), .len 1 (.t 15), none⟩,
 ⟨(some 17), .bin .sub (.t 16) (.c (.int .i64 1)), none⟩,
 ⟨(some 18), .ixs 1 (.t 14) (.t 17), none⟩,
 ⟨(some 19), .ld false 1 (.t 18), none⟩,
 ⟨(some 5), .mv (.t 19), none⟩])
 c_flow_Reach_5)

def c_flow_Reach_7 : CCode :=
  (.block 1 c_flow_Reach_6)

def c_flow_Reach_8 : CCode :=
  (.seq (.seq (.region [
 ⟨(some 11), .mv (.t 4), none⟩,
 ⟨(some 12), .len 1 (.t 11), none⟩,
 ⟨(some 13), .bin .gtr (.t 12) (.c (.int .i64 0)), none⟩])
 (.cond (.t 13)
 .skip
 (.exit 0)))
 c_flow_Reach_7)

def c_flow_Reach_L2 : CCode :=
  (.loop [1, 3, 4] c_flow_Reach_8)

def c_flow_Reach_9 : CCode :=
  (.block 0 c_flow_Reach_L2)

def c_flow_Reach_10 : CCode :=
  (.seq c_flow_Reach_9
 c_flow_Reach_1)

def c_flow_Reach_11 : CCode :=
  (.seq (.region [
 ⟨(some 10), .buildS (some 2) 1 1 [(.int .i64 0)] [(0, (.c (.int .i64 0)))], none⟩,
 ⟨(some 4), .mv (.t 10), none⟩])
 c_flow_Reach_10)

def c_flow_Reach_12 : CCode :=
  (.seq (.region [
 ⟨(some 6), .fa 3 (.t 1), none⟩,
 ⟨(some 7), .ld false 1 (.t 6), none⟩,
 ⟨(some 8), .len 1 (.t 7), none⟩,
 ⟨(some 9), .mkS (some 1) 1 1 [(.bool false)] (.t 8) (.t 8), none⟩,
 ⟨(some 3), .mv (.t 9), none⟩])
 c_flow_Reach_11)

def c_flow_Reach_13 : CCode :=
  (.seq (.region [
 ⟨(some 1), .box (some 0) (.t 0), none⟩,
 ⟨(some 2), .mv (.c .nils), none⟩])
 c_flow_Reach_12)

def c_flow_Reach : CFunc :=
  ⟨1, true, 5, c_flow_Reach_13, [.t 2]⟩

def c_regletref11_Reach_1 : CCode :=
  (.seq (.region [
 ⟨(some 68), .mv (.t 3), none⟩,
 ⟨(some 2), .mv (.t 68), none⟩])
 .ret)

def c_regletref11_Reach_4 : CCode :=
  (.region [
 ⟨(some 22), .mv (.t 5), none⟩,
 ⟨(some 23), .bin .add (.t 22) (.c (.int .i64 1)), none⟩,
 ⟨(some 5), .mv (.t 23), none⟩])

def c_regletref11_Reach_6 : CCode :=
  (.region [
 ⟨(some 36), .mv (.t 7), none⟩,
 ⟨(some 37), .bin .add (.t 36) (.c (.int .i64 1)), none⟩,
 ⟨(some 7), .mv (.t 37), none⟩])

def c_regletref11_Reach_7 : CCode :=
  (.seq (.block 5 (.seq (.region [
 ⟨(some 38), .mv (.t 6), none⟩,
 ⟨(some 39), .mv (.t 7), none⟩,
 ⟨(some 40), .ixs 1 (.t 38) (.t 39), none⟩,
 ⟨(some 41), .ld false 1 (.t 40), none⟩,
 ⟨(some 42), .bin .geq (.t 41) (.c (.int .i64 0)), none⟩,
 ⟨(some 43), .mv (.t 42), none⟩,
 ⟨(some 44), .mv (.t 6), (some (43, true))⟩,
 ⟨(some 45), .mv (.t 7), (some (43, true))⟩,
 ⟨(some 46), .ixs 1 (.t 44) (.t 45), (some (43, true))⟩,
 ⟨(some 47), .ld false 1 (.t 46), (some (43, true))⟩,
 ⟨(some 48), .mv (.t 3), (some (43, true))⟩,
 ⟨(some 49), .len 1 (.t 48), (some (43, true))⟩,
 ⟨(some 50), .bin .lss (.t 47) (.t 49), (some (43, true))⟩,
 ⟨(some 51), .pick (.t 43) (.t 50) (.c (.bool false)), none⟩,
 ⟨(some 52), .mv (.t 51), none⟩,
 ⟨(some 53), .mv (.t 3), (some (52, true))⟩,
 ⟨(some 54), .mv (.t 6), (some (52, true))⟩,
 ⟨(some 55), .mv (.t 7), (some (52, true))⟩,
 ⟨(some 56), .ixs 1 (.t 54) (.t 55), (some (52, true))⟩,
 ⟨(some 57), .ld false 1 (.t 56), (some (52, true))⟩,
 ⟨(some 58), .ixs 1 (.t 53) (.t 57), (some (52, true))⟩,
 ⟨(some 59), .ld false 1 (.t 58), (some (52, true))⟩,
 ⟨(some 60), .un .not (.t 59), (some (52, true))⟩,
 ⟨(some 61), .pick (.t 52) (.t 60) (.c (.bool false)), none⟩])
 (.cond (.t 61)
 (.seq (.region [
  ⟨(some 62), .mv (.t 3), none⟩,
  ⟨(some 63), .mv (.t 6), none⟩,
  ⟨(some 64), .mv (.t 7), none⟩,
  ⟨(some 65), .ixs 1 (.t 63) (.t 64), none⟩,
  ⟨(some 66), .ld false 1 (.t 65), none⟩,
  ⟨(some 67), .ixs 1 (.t 62) (.t 66), none⟩,
  ⟨none, .st 1 (.t 67) (.c (.bool true)), none⟩])
  (.region [
  ⟨(some 4), .mv (.c (.bool true)), none⟩]))
 .skip)))
 c_regletref11_Reach_6)

def c_regletref11_Reach_8 : CCode :=
  (.seq (.seq (.region [
 ⟨(some 32), .mv (.t 7), none⟩,
 ⟨(some 33), .mv (.t 6), none⟩,
 ⟨(some 34), .len 1 (.t 33), none⟩,
 ⟨(some 35), .bin .lss (.t 32) (.t 34), none⟩])
 (.cond (.t 35)
 .skip
 (.exit 4)))
 c_regletref11_Reach_7)

def c_regletref11_Reach_L5 : CCode :=
  (.loop [1, 3, 4, 5, 6, 7] c_regletref11_Reach_8)

def c_regletref11_Reach_9 : CCode :=
  (.block 4 c_regletref11_Reach_L5)

def c_regletref11_Reach_10 : CCode :=
  (.seq (.region [
 ⟨(some 7), .mv (.c (.int .i64 0)), none⟩])
 c_regletref11_Reach_9)

def c_regletref11_Reach_11 : CCode :=
  (.seq (.region [
 ⟨(some 29), .ld true 5 (.t 1), none⟩,
 ⟨(some 30), .mv (.t 5), none⟩,
 ⟨(some 31), .call none true 105 [(.t 29), (.t 30)], none⟩,
 ⟨(some 6), .mv (.t 31), none⟩])
 c_regletref11_Reach_10)

def c_regletref11_Reach_12 : CCode :=
  (.seq (.seq (.region [
 ⟨(some 24), .mv (.t 3), none⟩,
 ⟨(some 25), .mv (.t 5), none⟩,
 ⟨(some 26), .ixs 1 (.t 24) (.t 25), none⟩,
 ⟨(some 27), .ld false 1 (.t 26), none⟩,
 ⟨(some 28), .un .not (.t 27), none⟩])
 (.cond (.t 28)
 (.exit 3)
 .skip))
 c_regletref11_Reach_11)

def c_regletref11_Reach_13 : CCode :=
  (.block 3 c_regletref11_Reach_12)

def c_regletref11_Reach_14 : CCode :=
  (.seq c_regletref11_Reach_13
 c_regletref11_Reach_4)

def c_regletref11_Reach_15 : CCode :=
  (.seq (.seq (.region [
 ⟨(some 18), .mv (.t 5), none⟩,
 ⟨(some 19), .mv (.t 3), none⟩,
 ⟨(some 20), .len 1 (.t 19), none⟩,
 ⟨(some 21), .bin .lss (.t 18) (.t 20), none⟩])
 (.cond (.t 21)
 .skip
 (.exit 2)))
 c_regletref11_Reach_14)

def c_regletref11_Reach_L3 : CCode :=
  (.loop [1, 3, 4, 5] c_regletref11_Reach_15)

def c_regletref11_Reach_16 : CCode :=
  (.block 2 c_regletref11_Reach_L3)

def c_regletref11_Reach_17 : CCode :=
  (.seq (.region [
 ⟨(some 5), .mv (.c (.int .i64 0)), none⟩])
 c_regletref11_Reach_16)

def c_regletref11_Reach_18 : CCode :=
  (.seq (.region [
 ⟨(some 4), .mv (.c (.bool false)), none⟩])
 c_regletref11_Reach_17)

def c_regletref11_Reach_19 : CCode :=
  (.block 1 c_regletref11_Reach_18)

def c_regletref11_Reach_20 : CCode :=
  (.seq (.seq (.region [
 ⟨(some 17), .mv (.t 4), none⟩])
 (.cond (.t 17)
 .skip
 (.exit 0)))
 c_regletref11_Reach_19)

def c_regletref11_Reach_L2 : CCode :=
  (.loop [1, 3, 4] c_regletref11_Reach_20)

def c_regletref11_Reach_21 : CCode :=
  (.block 0 c_regletref11_Reach_L2)

def c_regletref11_Reach_22 : CCode :=
  (.seq (.region [
 ⟨(some 4), .mv (.c (.bool true)), none⟩])
 c_regletref11_Reach_21)

def c_regletref11_Reach_23 : CCode :=
  (.seq c_regletref11_Reach_22
 c_regletref11_Reach_1)

def c_regletref11_Reach_24 : CCode :=
  (.seq (.seq (.region [
 ⟨(some 12), .mv (.t 3), none⟩,
 ⟨(some 13), .len 1 (.t 12), none⟩,
 ⟨(some 14), .bin .gtr (.t 13) (.c (.int .i64 0)), none⟩])
 (.cond (.t 14)
 (.region [
  ⟨(some 15), .mv (.t 3), none⟩,
  ⟨(some 16), .ixs 1 (.t 15) (.c (.int .i64 0)), none⟩,
  ⟨none, .st 1 (.t 16) (.c (.bool true)), none⟩])
 .skip))
 c_regletref11_Reach_23)

def c_regletref11_Reach_25 : CCode :=
  (.seq (.region [
 ⟨(some 8), .fa 3 (.t 1), none⟩,
 ⟨(some 9), .ld false 1 (.t 8), none⟩,
 ⟨(some 10), .len 1 (.t 9), none⟩,
 ⟨(some 11), .mkS (some 1) 1 1 [(.bool false)] (.t 10) (.t 10), none⟩,
 ⟨(some 3), .mv (.t 11), none⟩])
 c_regletref11_Reach_24)

def c_regletref11_Reach_26 : CCode :=
  (.seq (.region [
 ⟨(some 1), .box (some 0) (.t 0), none⟩,
 ⟨(some 2), .mv (.c .nils), none⟩])
 c_regletref11_Reach_25)

def c_regletref11_Reach : CFunc :=
  ⟨1, true, 2, c_regletref11_Reach_26, [.t 2]⟩

def c_flow_Heads_1 : CCode :=
  (.seq (.region [
 ⟨(some 109), .mv (.t 10), none⟩,
 ⟨(some 2), .mv (.t 109), none⟩])
 .ret)

def c_flow_Heads_3 : CCode :=
  (.region [
 ⟨(some 108), .bin .add (.t 97) (.c (.int .i64 1)), none⟩,
 ⟨(some 97), .mv (.t 108), none⟩])

def c_flow_Heads_4 : CCode :=
  (.seq (.block 7 (.seq (.region [
 ⟨(some 99), .mv (.t 97), none⟩,
 ⟨(some 11), .mv (.t 99), none⟩])
 (.seq (.region [
 ⟨(some 100), .mv (.t 3), none⟩,
 ⟨(some 101), .mv (.t 11), none⟩,
 ⟨(some 102), .ixs 1 (.t 100) (.t 101), none⟩,
 ⟨(some 103), .ld false 1 (.t 102), none⟩])
 (.cond (.t 103)
 (.region [
  ⟨(some 104), .mv (.t 10), none⟩,
  ⟨(some 105), .mv (.t 11), none⟩,
  ⟨(some 106), .buildS (some 5) 1 1 [(.int .i64 0)] [(0, (.t 105))], none⟩,
  ⟨(some 107), .app (some 6) 1 8 (.t 104) (.t 106), none⟩,
  ⟨(some 10), .mv (.t 107), none⟩])
 .skip))))
 c_flow_Heads_3)

def c_flow_Heads_5 : CCode :=
  (.seq (.cond (.t 98)
 .skip
 (.exit 6))
 c_flow_Heads_4)

def c_flow_Heads_6 : CCode :=
  (.seq (.region [
 ⟨(some 98), .bin .lss (.t 97) (.t 96), none⟩])
 c_flow_Heads_5)

def c_flow_Heads_L2 : CCode :=
  (.loop [3, 10, 96, 97] c_flow_Heads_6)

def c_flow_Heads_7 : CCode :=
  (.block 6 c_flow_Heads_L2)

def c_flow_Heads_8 : CCode :=
  (.seq (.region [
 ⟨(some 94), .fa 3 (.t 1), none⟩,
 ⟨(some 95), .ld false 1 (.t 94), none⟩,
 ⟨(some 96), .len 1 (.t 95), none⟩,
 ⟨(some 97), .mv (.c (.int .i64 0)), none⟩])
 c_flow_Heads_7)

def c_flow_Heads_9 : CCode :=
  (.seq c_flow_Heads_8
 c_flow_Heads_1)

def c_flow_Heads_10 : CCode :=
  (.seq (.region [
 ⟨(some 10), .mv (.c .nils), none⟩])
 c_flow_Heads_9)

def c_flow_Heads_12 : CCode :=
  (.region [
 ⟨(some 93), .bin .add (.t 64) (.c (.int .i64 1)), none⟩,
 ⟨(some 64), .mv (.t 93), none⟩])

def c_flow_Heads_14 : CCode :=
  (.region [
 ⟨(some 92), .bin .add (.t 76) (.c (.int .i64 1)), none⟩,
 ⟨(some 76), .mv (.t 92), none⟩])

def c_flow_Heads_15 : CCode :=
  (.seq (.block 5 (.seq (.region [
 ⟨(some 78), .ixs 1 (.t 74) (.t 76), none⟩,
 ⟨(some 79), .ld false 1 (.t 78), none⟩,
 ⟨(some 9), .mv (.t 79), none⟩])
 (.seq (.region [
 ⟨(some 80), .mv (.t 9), none⟩,
 ⟨(some 81), .bin .geq (.t 80) (.c (.int .i64 0)), none⟩,
 ⟨(some 82), .mv (.t 81), none⟩,
 ⟨(some 83), .mv (.t 9), (some (82, true))⟩,
 ⟨(some 84), .fa 3 (.t 1), (some (82, true))⟩,
 ⟨(some 85), .ld false 1 (.t 84), (some (82, true))⟩,
 ⟨(some 86), .len 1 (.t 85), (some (82, true))⟩,
 ⟨(some 87), .bin .lss (.t 83) (.t 86), (some (82, true))⟩,
 ⟨(some 88), .pick (.t 82) (.t 87) (.c (.bool false)), none⟩])
 (.cond (.t 88)
 (.region [
  ⟨(some 89), .mv (.t 3), none⟩,
  ⟨(some 90), .mv (.t 9), none⟩,
  ⟨(some 91), .ixs 1 (.t 89) (.t 90), none⟩,
  ⟨none, .st 1 (.t 91) (.c (.bool true)), none⟩])
 .skip))))
 c_flow_Heads_14)

def c_flow_Heads_16 : CCode :=
  (.seq (.cond (.t 77)
 .skip
 (.exit 4))
 c_flow_Heads_15)

def c_flow_Heads_17 : CCode :=
  (.seq (.region [
 ⟨(some 77), .bin .lss (.t 76) (.t 75), none⟩])
 c_flow_Heads_16)

def c_flow_Heads_L13 : CCode :=
  (.loop [1, 3, 62, 63, 64, 74, 75, 76] c_flow_Heads_17)

def c_flow_Heads_18 : CCode :=
  (.block 4 c_flow_Heads_L13)

def c_flow_Heads_19 : CCode :=
  (.seq (.region [
 ⟨(some 68), .fa 0 (.t 7), none⟩,
 ⟨(some 69), .ld false 1 (.t 68), none⟩,
 ⟨(some 70), .fa 1 (.t 7), none⟩,
 ⟨(some 71), .ld false 1 (.t 70), none⟩,
 ⟨(some 72), .fa 2 (.t 7), none⟩,
 ⟨(some 73), .ld false 1 (.t 72), none⟩,
 ⟨(some 74), .buildS (some 4) 1 3 [(.int .i64 0)] [(0, (.t 69)), (1, (.t 71)), (2, (.t 73))], none⟩,
 ⟨(some 75), .len 1 (.t 74), none⟩,
 ⟨(some 76), .mv (.c (.int .i64 0)), none⟩])
 c_flow_Heads_18)

def c_flow_Heads_20 : CCode :=
  (.seq (.region [
 ⟨(some 66), .ixs 4 (.t 62) (.t 64), none⟩,
 ⟨(some 67), .ld true 4 (.t 66), none⟩,
 ⟨(some 7), .new (some 3) [(.int .i64 0), (.int .i64 0), (.int .i64 0), (.str [])], none⟩,
 ⟨none, .st 4 (.t 7) (.t 67), none⟩])
 c_flow_Heads_19)

def c_flow_Heads_21 : CCode :=
  (.block 3 c_flow_Heads_20)

def c_flow_Heads_22 : CCode :=
  (.seq c_flow_Heads_21
 c_flow_Heads_12)

def c_flow_Heads_23 : CCode :=
  (.seq (.cond (.t 65)
 .skip
 (.exit 2))
 c_flow_Heads_22)

def c_flow_Heads_24 : CCode :=
  (.seq (.region [
 ⟨(some 65), .bin .lss (.t 64) (.t 63), none⟩])
 c_flow_Heads_23)

def c_flow_Heads_L11 : CCode :=
  (.loop [1, 3, 62, 63, 64] c_flow_Heads_24)

def c_flow_Heads_25 : CCode :=
  (.block 2 c_flow_Heads_L11)

def c_flow_Heads_26 : CCode :=
  (.seq (.region [
 ⟨(some 61), .fa 4 (.t 1), none⟩,
 ⟨(some 62), .ld false 1 (.t 61), none⟩,
 ⟨(some 63), .len 1 (.t 62), none⟩,
 ⟨(some 64), .mv (.c (.int .i64 0)), none⟩])
 c_flow_Heads_25)

def c_flow_Heads_27 : CCode :=
  (.seq c_flow_Heads_26
 c_flow_Heads_10)

def c_flow_Heads_29 : CCode :=
  (.region [
 ⟨(some 60), .bin .add (.t 26) (.c (.int .i64 1)), none⟩,
 ⟨(some 26), .mv (.t 60), none⟩])

def c_flow_Heads_30 : CCode :=
  (.seq (.region [
 ⟨(some 50), .ld true 9 (.t 5), none⟩,
 ⟨(some 51), .call none true 22 [(.t 50)], none⟩,
 ⟨(some 52), .mv (.t 51), none⟩,
 ⟨(some 53), .ld true 9 (.t 5), (some (52, false))⟩,
 ⟨(some 54), .call none true 24 [(.t 53)], (some (52, false))⟩,
 ⟨(some 55), .pick (.t 52) (.c (.bool true)) (.t 54), none⟩])
 (.cond (.t 55)
 (.region [
  ⟨(some 56), .mv (.t 3), none⟩,
  ⟨(some 57), .mv (.t 4), none⟩,
  ⟨(some 58), .bin .add (.t 57) (.c (.int .i64 1)), none⟩,
  ⟨(some 59), .ixs 1 (.t 56) (.t 58), none⟩,
  ⟨none, .st 1 (.t 59) (.c (.bool true)), none⟩])
 .skip))

def c_flow_Heads_31 : CCode :=
  (.seq (.seq (.region [
 ⟨(some 31), .ld true 9 (.t 5), none⟩,
 ⟨(some 32), .call none true 22 [(.t 31)], none⟩,
 ⟨(some 33), .mv (.t 32), none⟩,
 ⟨(some 34), .fa 6 (.t 5), (some (33, true))⟩,
 ⟨(some 35), .ld false 1 (.t 34), (some (33, true))⟩,
 ⟨(some 36), .bin .geq (.t 35) (.c (.int .i64 0)), (some (33, true))⟩,
 ⟨(some 37), .pick (.t 33) (.t 36) (.c (.bool false)), none⟩,
 ⟨(some 38), .mv (.t 37), none⟩,
 ⟨(some 39), .fa 6 (.t 5), (some (38, true))⟩,
 ⟨(some 40), .ld false 1 (.t 39), (some (38, true))⟩,
 ⟨(some 41), .fa 3 (.t 1), (some (38, true))⟩,
 ⟨(some 42), .ld false 1 (.t 41), (some (38, true))⟩,
 ⟨(some 43), .len 1 (.t 42), (some (38, true))⟩,
 ⟨(some 44), .bin .lss (.t 40) (.t 43), (some (38, true))⟩,
 ⟨(some 45), .pick (.t 38) (.t 44) (.c (.bool false)), none⟩])
 (.cond (.t 45)
 (.region [
  ⟨(some 46), .mv (.t 3), none⟩,
  ⟨(some 47), .fa 6 (.t 5), none⟩,
  ⟨(some 48), .ld false 1 (.t 47), none⟩,
  ⟨(some 49), .ixs 1 (.t 46) (.t 48), none⟩,
  ⟨none, .st 1 (.t 49) (.c (.bool true)), none⟩])
 .skip))
 c_flow_Heads_30)

def c_flow_Heads_32 : CCode :=
  (.seq (.region [
 ⟨(some 28), .mv (.t 26), none⟩,
 ⟨(some 29), .ixs 9 (.t 24) (.t 26), none⟩,
 ⟨(some 30), .ld true 9 (.t 29), none⟩,
 ⟨(some 5), .new (some 2) [(.int .i64 0), (.int .i64 0), (.int .i64 0), (.int .i64 0), (.int .i64 0), (.int .i64 0), (.int .i64 0), (.str []), .nils], none⟩,
 ⟨(some 4), .mv (.t 28), none⟩,
 ⟨none, .st 9 (.t 5) (.t 30), none⟩])
 c_flow_Heads_31)

def c_flow_Heads_33 : CCode :=
  (.block 1 c_flow_Heads_32)

def c_flow_Heads_34 : CCode :=
  (.seq c_flow_Heads_33
 c_flow_Heads_29)

def c_flow_Heads_35 : CCode :=
  (.seq (.cond (.t 27)
 .skip
 (.exit 0))
 c_flow_Heads_34)

def c_flow_Heads_36 : CCode :=
  (.seq (.region [
 ⟨(some 27), .bin .lss (.t 26) (.t 25), none⟩])
 c_flow_Heads_35)

def c_flow_Heads_L28 : CCode :=
  (.loop [1, 3, 24, 25, 26] c_flow_Heads_36)

def c_flow_Heads_37 : CCode :=
  (.block 0 c_flow_Heads_L28)

def c_flow_Heads_38 : CCode :=
  (.seq (.region [
 ⟨(some 23), .fa 3 (.t 1), none⟩,
 ⟨(some 24), .ld false 1 (.t 23), none⟩,
 ⟨(some 25), .len 1 (.t 24), none⟩,
 ⟨(some 26), .mv (.c (.int .i64 0)), none⟩])
 c_flow_Heads_37)

def c_flow_Heads_39 : CCode :=
  (.seq c_flow_Heads_38
 c_flow_Heads_27)

def c_flow_Heads_40 : CCode :=
  (.seq (.seq (.region [
 ⟨(some 17), .fa 3 (.t 1), none⟩,
 ⟨(some 18), .ld false 1 (.t 17), none⟩,
 ⟨(some 19), .len 1 (.t 18), none⟩,
 ⟨(some 20), .bin .gtr (.t 19) (.c (.int .i64 0)), none⟩])
 (.cond (.t 20)
 (.region [
  ⟨(some 21), .mv (.t 3), none⟩,
  ⟨(some 22), .ixs 1 (.t 21) (.c (.int .i64 0)), none⟩,
  ⟨none, .st 1 (.t 22) (.c (.bool true)), none⟩])
 .skip))
 c_flow_Heads_39)

def c_flow_Heads_41 : CCode :=
  (.seq (.region [
 ⟨(some 12), .fa 3 (.t 1), none⟩,
 ⟨(some 13), .ld false 1 (.t 12), none⟩,
 ⟨(some 14), .len 1 (.t 13), none⟩,
 ⟨(some 15), .bin .add (.t 14) (.c (.int .i64 1)), none⟩,
 ⟨(some 16), .mkS (some 1) 1 1 [(.bool false)] (.t 15) (.t 15), none⟩,
 ⟨(some 3), .mv (.t 16), none⟩])
 c_flow_Heads_40)

def c_flow_Heads_42 : CCode :=
  (.seq (.region [
 ⟨(some 1), .box (some 0) (.t 0), none⟩,
 ⟨(some 2), .mv (.c .nils), none⟩])
 c_flow_Heads_41)

def c_flow_Heads : CFunc :=
  ⟨1, true, 7, c_flow_Heads_42, [.t 2]⟩

def c_regletref11_Heads_1 : CCode :=
  (.seq (.region [
 ⟨(some 105), .mv (.t 3), none⟩,
 ⟨(some 2), .mv (.t 105), none⟩])
 .ret)

def c_regletref11_Heads_3 : CCode :=
  (.region [
 ⟨(some 14), .mv (.t 4), none⟩,
 ⟨(some 15), .bin .add (.t 14) (.c (.int .i64 1)), none⟩,
 ⟨(some 4), .mv (.t 15), none⟩])

def c_regletref11_Heads_4 : CCode :=
  (.seq (.region [
 ⟨(some 100), .mv (.t 5), none⟩])
 (.cond (.t 100)
 (.region [
  ⟨(some 101), .mv (.t 3), none⟩,
  ⟨(some 102), .mv (.t 4), none⟩,
  ⟨(some 103), .buildS (some 1) 1 1 [(.int .i64 0)] [(0, (.t 102))], none⟩,
  ⟨(some 104), .app (some 2) 1 8 (.t 101) (.t 103), none⟩,
  ⟨(some 3), .mv (.t 104), none⟩])
 .skip))

def c_regletref11_Heads_6 : CCode :=
  (.region [
 ⟨(some 70), .mv (.t 8), none⟩,
 ⟨(some 71), .bin .add (.t 70) (.c (.int .i64 1)), none⟩,
 ⟨(some 8), .mv (.t 71), none⟩])

def c_regletref11_Heads_7 : CCode :=
  (.seq (.block 5 (.region [
 ⟨(some 72), .fa 4 (.t 1), none⟩,
 ⟨(some 73), .ld false 1 (.t 72), none⟩,
 ⟨(some 74), .mv (.t 8), none⟩,
 ⟨(some 75), .ixs 4 (.t 73) (.t 74), none⟩,
 ⟨(some 76), .fa 0 (.t 75), none⟩,
 ⟨(some 77), .ld false 1 (.t 76), none⟩,
 ⟨(some 78), .mv (.t 4), none⟩,
 ⟨(some 79), .bin .eql (.t 77) (.t 78), none⟩,
 ⟨(some 80), .mv (.t 79), none⟩,
 ⟨(some 81), .fa 4 (.t 1), (some (80, false))⟩,
 ⟨(some 82), .ld false 1 (.t 81), (some (80, false))⟩,
 ⟨(some 83), .mv (.t 8), (some (80, false))⟩,
 ⟨(some 84), .ixs 4 (.t 82) (.t 83), (some (80, false))⟩,
 ⟨(some 85), .fa 1 (.t 84), (some (80, false))⟩,
 ⟨(some 86), .ld false 1 (.t 85), (some (80, false))⟩,
 ⟨(some 87), .mv (.t 4), (some (80, false))⟩,
 ⟨(some 88), .bin .eql (.t 86) (.t 87), (some (80, false))⟩,
 ⟨(some 89), .pick (.t 80) (.c (.bool true)) (.t 88), none⟩,
 ⟨(some 90), .mv (.t 89), none⟩,
 ⟨(some 91), .fa 4 (.t 1), (some (90, false))⟩,
 ⟨(some 92), .ld false 1 (.t 91), (some (90, false))⟩,
 ⟨(some 93), .mv (.t 8), (some (90, false))⟩,
 ⟨(some 94), .ixs 4 (.t 92) (.t 93), (some (90, false))⟩,
 ⟨(some 95), .fa 2 (.t 94), (some (90, false))⟩,
 ⟨(some 96), .ld false 1 (.t 95), (some (90, false))⟩,
 ⟨(some 97), .mv (.t 4), (some (90, false))⟩,
 ⟨(some 98), .bin .eql (.t 96) (.t 97), (some (90, false))⟩,
 ⟨(some 99), .pick (.t 90) (.c (.bool true)) (.t 98), none⟩,
 ⟨(some 5), .mv (.t 99), none⟩]))
 c_regletref11_Heads_6)

def c_regletref11_Heads_8 : CCode :=
  (.seq (.seq (.region [
 ⟨(some 61), .mv (.t 8), none⟩,
 ⟨(some 62), .fa 4 (.t 1), none⟩,
 ⟨(some 63), .ld false 1 (.t 62), none⟩,
 ⟨(some 64), .len 1 (.t 63), none⟩,
 ⟨(some 65), .bin .lss (.t 61) (.t 64), none⟩,
 ⟨(some 66), .mv (.t 65), none⟩,
 ⟨(some 67), .mv (.t 5), (some (66, true))⟩,
 ⟨(some 68), .un .not (.t 67), (some (66, true))⟩,
 ⟨(some 69), .pick (.t 66) (.t 68) (.c (.bool false)), none⟩])
 (.cond (.t 69)
 .skip
 (.exit 4)))
 c_regletref11_Heads_7)

def c_regletref11_Heads_L5 : CCode :=
  (.loop [1, 3, 4, 5, 8] c_regletref11_Heads_8)

def c_regletref11_Heads_9 : CCode :=
  (.block 4 c_regletref11_Heads_L5)

def c_regletref11_Heads_10 : CCode :=
  (.seq (.region [
 ⟨(some 8), .mv (.c (.int .i64 0)), none⟩])
 c_regletref11_Heads_9)

def c_regletref11_Heads_11 : CCode :=
  (.seq c_regletref11_Heads_10
 c_regletref11_Heads_4)

def c_regletref11_Heads_13 : CCode :=
  (.region [
 ⟨(some 42), .mv (.t 7), none⟩,
 ⟨(some 43), .bin .add (.t 42) (.c (.int .i64 1)), none⟩,
 ⟨(some 7), .mv (.t 43), none⟩])

def c_regletref11_Heads_14 : CCode :=
  (.seq (.block 3 (.region [
 ⟨(some 44), .fa 3 (.t 1), none⟩,
 ⟨(some 45), .ld false 1 (.t 44), none⟩,
 ⟨(some 46), .mv (.t 7), none⟩,
 ⟨(some 47), .ixs 9 (.t 45) (.t 46), none⟩,
 ⟨(some 48), .fa 0 (.t 47), none⟩,
 ⟨(some 49), .ld false 1 (.t 48), none⟩,
 ⟨(some 50), .call none true 23 [(.t 49)], none⟩,
 ⟨(some 51), .mv (.t 50), none⟩,
 ⟨(some 52), .fa 3 (.t 1), (some (51, true))⟩,
 ⟨(some 53), .ld false 1 (.t 52), (some (51, true))⟩,
 ⟨(some 54), .mv (.t 7), (some (51, true))⟩,
 ⟨(some 55), .ixs 9 (.t 53) (.t 54), (some (51, true))⟩,
 ⟨(some 56), .fa 6 (.t 55), (some (51, true))⟩,
 ⟨(some 57), .ld false 1 (.t 56), (some (51, true))⟩,
 ⟨(some 58), .mv (.t 4), (some (51, true))⟩,
 ⟨(some 59), .bin .eql (.t 57) (.t 58), (some (51, true))⟩,
 ⟨(some 60), .pick (.t 51) (.t 59) (.c (.bool false)), none⟩,
 ⟨(some 5), .mv (.t 60), none⟩]))
 c_regletref11_Heads_13)

def c_regletref11_Heads_15 : CCode :=
  (.seq (.seq (.region [
 ⟨(some 33), .mv (.t 7), none⟩,
 ⟨(some 34), .fa 3 (.t 1), none⟩,
 ⟨(some 35), .ld false 1 (.t 34), none⟩,
 ⟨(some 36), .len 1 (.t 35), none⟩,
 ⟨(some 37), .bin .lss (.t 33) (.t 36), none⟩,
 ⟨(some 38), .mv (.t 37), none⟩,
 ⟨(some 39), .mv (.t 5), (some (38, true))⟩,
 ⟨(some 40), .un .not (.t 39), (some (38, true))⟩,
 ⟨(some 41), .pick (.t 38) (.t 40) (.c (.bool false)), none⟩])
 (.cond (.t 41)
 .skip
 (.exit 2)))
 c_regletref11_Heads_14)

def c_regletref11_Heads_L12 : CCode :=
  (.loop [1, 3, 4, 5, 7] c_regletref11_Heads_15)

def c_regletref11_Heads_16 : CCode :=
  (.block 2 c_regletref11_Heads_L12)

def c_regletref11_Heads_17 : CCode :=
  (.seq (.region [
 ⟨(some 7), .mv (.c (.int .i64 0)), none⟩])
 c_regletref11_Heads_16)

def c_regletref11_Heads_18 : CCode :=
  (.seq c_regletref11_Heads_17
 c_regletref11_Heads_11)

def c_regletref11_Heads_19 : CCode :=
  (.seq (.seq (.region [
 ⟨(some 18), .mv (.t 4), none⟩,
 ⟨(some 19), .bin .gtr (.t 18) (.c (.int .i64 0)), none⟩])
 (.cond (.t 19)
 (.seq (.region [
  ⟨(some 20), .fa 3 (.t 1), none⟩,
  ⟨(some 21), .ld false 1 (.t 20), none⟩,
  ⟨(some 22), .mv (.t 4), none⟩,
  ⟨(some 23), .bin .sub (.t 22) (.c (.int .i64 1)), none⟩,
  ⟨(some 24), .ixs 9 (.t 21) (.t 23), none⟩,
  ⟨(some 25), .fa 0 (.t 24), none⟩,
  ⟨(some 26), .ld false 1 (.t 25), none⟩,
  ⟨(some 6), .mv (.t 26), none⟩])
  (.region [
  ⟨(some 27), .mv (.t 6), none⟩,
  ⟨(some 28), .call none true 23 [(.t 27)], none⟩,
  ⟨(some 29), .mv (.t 28), none⟩,
  ⟨(some 30), .mv (.t 6), (some (29, false))⟩,
  ⟨(some 31), .call none true 25 [(.t 30)], (some (29, false))⟩,
  ⟨(some 32), .pick (.t 29) (.c (.bool true)) (.t 31), none⟩,
  ⟨(some 5), .mv (.t 32), none⟩]))
 .skip))
 c_regletref11_Heads_18)

def c_regletref11_Heads_20 : CCode :=
  (.seq (.region [
 ⟨(some 16), .mv (.t 4), none⟩,
 ⟨(some 17), .bin .eql (.t 16) (.c (.int .i64 0)), none⟩,
 ⟨(some 5), .mv (.t 17), none⟩])
 c_regletref11_Heads_19)

def c_regletref11_Heads_21 : CCode :=
  (.block 1 c_regletref11_Heads_20)

def c_regletref11_Heads_22 : CCode :=
  (.seq c_regletref11_Heads_21
 c_regletref11_Heads_3)

def c_regletref11_Heads_23 : CCode :=
  (.seq (.seq (.region [
 ⟨(some 9), .mv (.t 4), none⟩,
 ⟨(some 10), .fa 3 (.t 1), none⟩,
 ⟨(some 11), .ld false 1 (.t 10), none⟩,
 ⟨(some 12), .len 1 (.t 11), none⟩,
 ⟨(some 13), .bin .lss (.t 9) (.t 12), none⟩])
 (.cond (.t 13)
 .skip
 (.exit 0)))
 c_regletref11_Heads_22)

def c_regletref11_Heads_L2 : CCode :=
  (.loop [1, 3, 4] c_regletref11_Heads_23)

def c_regletref11_Heads_24 : CCode :=
  (.block 0 c_regletref11_Heads_L2)

def c_regletref11_Heads_25 : CCode :=
  (.seq (.region [
 ⟨(some 4), .mv (.c (.int .i64 0)), none⟩])
 c_regletref11_Heads_24)

def c_regletref11_Heads_26 : CCode :=
  (.seq c_regletref11_Heads_25
 c_regletref11_Heads_1)

def c_regletref11_Heads_27 : CCode :=
  (.seq (.region [
 ⟨(some 3), .mv (.c .nils), none⟩])
 c_regletref11_Heads_26)

def c_regletref11_Heads_28 : CCode :=
  (.seq (.region [
 ⟨(some 1), .box (some 0) (.t 0), none⟩,
 ⟨(some 2), .mv (.c .nils), none⟩])
 c_regletref11_Heads_27)

def c_regletref11_Heads : CFunc :=
  ⟨1, true, 3, c_regletref11_Heads_28, [.t 2]⟩

def c_flow_Trim : CFunc :=
  ⟨1, true, 12, (.seq (.region [
    ⟨(some 1), .box (some 0) (.t 0), none⟩,
    ⟨(some 2), .new (some 1) [.nils, .nils, (.int .i64 0), .nils, .nils], none⟩])
  (.seq (.region [
    ⟨(some 14), .ld true 5 (.t 1), none⟩,
    ⟨(some 15), .call none true 13 [(.t 14)], none⟩,
    ⟨none, .st 5 (.t 1) (.t 15), none⟩])
  (.seq (.seq (.region [
    ⟨(some 16), .ld true 5 (.t 1), none⟩,
    ⟨(some 17), .call none true 8 [(.t 16)], none⟩,
    ⟨(some 18), .bin .neq (.t 17) (.c (.int .i64 0)), none⟩])
  (.cond (.t 18)
  (.seq (.region [
      ⟨(some 19), .ld true 5 (.t 1), none⟩,
      ⟨none, .st 5 (.t 2) (.t 19), none⟩])
    .ret)
  .skip))
  (.seq (.region [
    ⟨(some 20), .ld true 5 (.t 1), none⟩,
    ⟨(some 21), .call (some 2) false 101 [(.t 20)], none⟩,
    ⟨(some 3), .mv (.t 21), none⟩])
  (.seq (.seq (.region [
    ⟨(some 22), .fa 3 (.t 1), none⟩,
    ⟨(some 23), .ld false 1 (.t 22), none⟩,
    ⟨(some 24), .len 1 (.t 23), none⟩,
    ⟨(some 25), .mv (.c (.int .i64 0)), none⟩])
  (.block 0 (.loop [1, 2, 3, 23, 24, 25] (.seq (.region [
      ⟨(some 26), .bin .lss (.t 25) (.t 24), none⟩])
    (.seq (.cond (.t 26)
    .skip
    (.exit 0))
    (.seq (.block 1 (.seq (.region [
      ⟨(some 27), .mv (.t 25), none⟩,
      ⟨(some 28), .ixs 9 (.t 23) (.t 25), none⟩,
      ⟨(some 29), .ld true 9 (.t 28), none⟩,
      ⟨(some 5), .new (some 3) [(.int .i64 0), (.int .i64 0), (.int .i64 0), (.int .i64 0), (.int .i64 0), (.int .i64 0), (.int .i64 0), (.str []), .nils], none⟩,
      ⟨(some 4), .mv (.t 27), none⟩,
      ⟨none, .st 9 (.t 5) (.t 29), none⟩])
    (.seq (.region [
      ⟨(some 30), .fa 0 (.t 5), none⟩,
      ⟨(some 31), .ld false 1 (.t 30), none⟩,
      ⟨(some 32), .bin .eql (.t 31) (.c (.int .i64 33)), none⟩])
    (.cond (.t 32)
    (.region [
        ⟨(some 33), .mv (.t 3), none⟩,
        ⟨(some 34), .mv (.t 4), none⟩,
        ⟨(some 35), .ixs 1 (.t 33) (.t 34), none⟩,
        ⟨none, .st 1 (.t 35) (.c (.bool false)), none⟩])
    .skip))))
    (.region [
      ⟨(some 36), .bin .add (.t 25) (.c (.int .i64 1)), none⟩,
      ⟨(some 25), .mv (.t 36), none⟩])))))))
  (.seq (.region [
    ⟨(some 37), .fa 3 (.t 1), none⟩,
    ⟨(some 38), .ld false 1 (.t 37), none⟩,
    ⟨(some 39), .len 1 (.t 38), none⟩,
    ⟨(some 40), .bin .add (.t 39) (.c (.int .i64 1)), none⟩,
    ⟨(some 41), .mkS (some 4) 1 8 [(.int .i64 0)] (.t 40) (.t 40), none⟩,
    ⟨(some 6), .mv (.t 41), none⟩])
  (.seq (.region [
    ⟨(some 7), .mv (.c (.int .i64 0)), none⟩])
  (.seq (.seq (.region [
    ⟨(some 42), .fa 3 (.t 1), none⟩,
    ⟨(some 43), .ld false 1 (.t 42), none⟩,
    ⟨(some 44), .len 1 (.t 43), none⟩,
    ⟨(some 45), .mv (.c (.int .i64 0)), none⟩])
  (.block 2 (.loop [1, 2, 3, 6, 7, 44, 45] (.seq (.region [
      ⟨(some 46), .bin .lss (.t 45) (.t 44), none⟩])
    (.seq (.cond (.t 46)
    .skip
    (.exit 2))
    (.seq (.block 3 (.seq (.region [
      ⟨(some 47), .mv (.t 45), none⟩,
      ⟨(some 8), .mv (.t 47), none⟩])
    (.seq (.region [
      ⟨(some 48), .mv (.t 6), none⟩,
      ⟨(some 49), .mv (.t 8), none⟩,
      ⟨(some 50), .mv (.t 7), none⟩,
      ⟨(some 51), .ixs 1 (.t 48) (.t 49), none⟩,
      ⟨none, .st 1 (.t 51) (.t 50), none⟩])
    (.seq (.region [
      ⟨(some 52), .mv (.t 3), none⟩,
      ⟨(some 53), .mv (.t 8), none⟩,
      ⟨(some 54), .ixs 1 (.t 52) (.t 53), none⟩,
      ⟨(some 55), .ld false 1 (.t 54), none⟩])
    (.cond (.t 55)
    (.region [
        ⟨(some 56), .mv (.t 7), none⟩,
        ⟨(some 57), .bin .add (.t 56) (.c (.int .i64 1)), none⟩,
        ⟨(some 7), .mv (.t 57), none⟩])
    .skip)))))
    (.region [
      ⟨(some 58), .bin .add (.t 45) (.c (.int .i64 1)), none⟩,
      ⟨(some 45), .mv (.t 58), none⟩])))))))
  (.seq (.region [
    ⟨(some 59), .mv (.t 6), none⟩,
    ⟨(some 60), .fa 3 (.t 1), none⟩,
    ⟨(some 61), .ld false 1 (.t 60), none⟩,
    ⟨(some 62), .len 1 (.t 61), none⟩,
    ⟨(some 63), .mv (.t 7), none⟩,
    ⟨(some 64), .ixs 1 (.t 59) (.t 62), none⟩,
    ⟨none, .st 1 (.t 64) (.t 63), none⟩])
  (.seq (.region [
    ⟨(some 65), .fa 0 (.t 1), none⟩,
    ⟨(some 66), .ld false 1 (.t 65), none⟩,
    ⟨(some 67), .fa 1 (.t 1), none⟩,
    ⟨(some 68), .ld false 1 (.t 67), none⟩,
    ⟨(some 69), .fa 2 (.t 1), none⟩,
    ⟨(some 70), .ld false 1 (.t 69), none⟩,
    ⟨(some 71), .build [.nils, .nils, (.int .i64 0), .nils, .nils] [(0, 1, (.t 66)), (1, 1, (.t 68)), (2, 1, (.t 70))], none⟩,
    ⟨(some 9), .new (some 5) [.nils, .nils, (.int .i64 0), .nils, .nils], none⟩,
    ⟨none, .st 5 (.t 9) (.t 71), none⟩])
  (.seq (.seq (.region [
    ⟨(some 72), .fa 3 (.t 1), none⟩,
    ⟨(some 73), .ld false 1 (.t 72), none⟩,
    ⟨(some 74), .len 1 (.t 73), none⟩,
    ⟨(some 75), .mv (.c (.int .i64 0)), none⟩])
  (.block 4 (.loop [1, 2, 3, 6, 9, 73, 74, 75] (.seq (.region [
      ⟨(some 76), .bin .lss (.t 75) (.t 74), none⟩])
    (.seq (.cond (.t 76)
    .skip
    (.exit 4))
    (.seq (.block 5 (.seq (.region [
      ⟨(some 77), .mv (.t 75), none⟩,
      ⟨(some 78), .ixs 9 (.t 73) (.t 75), none⟩,
      ⟨(some 79), .ld true 9 (.t 78), none⟩,
      ⟨(some 11), .new (some 6) [(.int .i64 0), (.int .i64 0), (.int .i64 0), (.int .i64 0), (.int .i64 0), (.int .i64 0), (.int .i64 0), (.str []), .nils], none⟩,
      ⟨(some 10), .mv (.t 77), none⟩,
      ⟨none, .st 9 (.t 11) (.t 79), none⟩])
    (.seq (.seq (.region [
      ⟨(some 80), .mv (.t 3), none⟩,
      ⟨(some 81), .mv (.t 10), none⟩,
      ⟨(some 82), .ixs 1 (.t 80) (.t 81), none⟩,
      ⟨(some 83), .ld false 1 (.t 82), none⟩,
      ⟨(some 84), .un .not (.t 83), none⟩])
    (.cond (.t 84)
    (.exit 5)
    .skip))
    (.seq (.seq (.region [
      ⟨(some 85), .ld true 9 (.t 11), none⟩,
      ⟨(some 86), .call none true 22 [(.t 85)], none⟩])
    (.cond (.t 86)
    (.region [
        ⟨(some 87), .mv (.t 6), none⟩,
        ⟨(some 88), .fa 6 (.t 11), none⟩,
        ⟨(some 89), .ld false 1 (.t 88), none⟩,
        ⟨(some 90), .ixs 1 (.t 87) (.t 89), none⟩,
        ⟨(some 91), .ld false 1 (.t 90), none⟩,
        ⟨(some 92), .fa 6 (.t 11), none⟩,
        ⟨none, .st 1 (.t 92) (.t 91), none⟩])
    (.region [
        ⟨(some 93), .fa 6 (.t 11), none⟩,
        ⟨none, .st 1 (.t 93) (.c (.int .i64 0)), none⟩])))
    (.region [
      ⟨(some 94), .fa 3 (.t 9), none⟩,
      ⟨(some 95), .ld false 1 (.t 94), none⟩,
      ⟨(some 96), .ld true 9 (.t 11), none⟩,
      ⟨(some 97), .buildS (some 7) 9 1 [(.int .i64 0), (.int .i64 0), (.int .i64 0), (.int .i64 0), (.int .i64 0), (.int .i64 0), (.int .i64 0), (.str []), .nils] [(0, (.t 96))], none⟩,
      ⟨(some 98), .app (some 8) 9 96 (.t 95) (.t 97), none⟩,
      ⟨(some 99), .fa 3 (.t 9), none⟩,
      ⟨none, .st 1 (.t 99) (.t 98), none⟩])))))
    (.region [
      ⟨(some 100), .bin .add (.t 75) (.c (.int .i64 1)), none⟩,
      ⟨(some 75), .mv (.t 100), none⟩])))))))
  (.seq (.seq (.region [
    ⟨(some 101), .fa 4 (.t 1), none⟩,
    ⟨(some 102), .ld false 1 (.t 101), none⟩,
    ⟨(some 103), .len 1 (.t 102), none⟩,
    ⟨(some 104), .mv (.c (.int .i64 0)), none⟩])
  (.block 6 (.loop [2, 3, 6, 9, 102, 103, 104] (.seq (.region [
      ⟨(some 105), .bin .lss (.t 104) (.t 103), none⟩])
    (.seq (.cond (.t 105)
    .skip
    (.exit 6))
    (.seq (.block 7 (.seq (.region [
      ⟨(some 106), .ixs 4 (.t 102) (.t 104), none⟩,
      ⟨(some 107), .ld true 4 (.t 106), none⟩,
      ⟨(some 13), .new (some 9) [(.int .i64 0), (.int .i64 0), (.int .i64 0), (.str [])], none⟩,
      ⟨none, .st 4 (.t 13) (.t 107), none⟩])
    (.seq (.draw [
      ⟨(some 108), .mv (.t 3), none⟩,
      ⟨(some 109), .fa 2 (.t 13), none⟩,
      ⟨(some 110), .ld false 1 (.t 109), none⟩,
      ⟨(some 111), .ixs 1 (.t 108) (.t 110), none⟩,
      ⟨(some 112), .ld false 1 (.t 111), none⟩,
      ⟨(some 113), .mv (.t 112), none⟩,
      ⟨(some 114), .mv (.t 6), (some (113, true))⟩,
      ⟨(some 115), .fa 0 (.t 13), (some (113, true))⟩,
      ⟨(some 116), .ld false 1 (.t 115), (some (113, true))⟩,
      ⟨(some 117), .ixs 1 (.t 114) (.t 116), (some (113, true))⟩,
      ⟨(some 118), .ld false 1 (.t 117), (some (113, true))⟩,
      ⟨(some 119), .mv (.t 6), (some (113, true))⟩,
      ⟨(some 120), .fa 1 (.t 13), (some (113, true))⟩,
      ⟨(some 121), .ld false 1 (.t 120), (some (113, true))⟩,
      ⟨(some 122), .ixs 1 (.t 119) (.t 121), (some (113, true))⟩,
      ⟨(some 123), .ld false 1 (.t 122), (some (113, true))⟩,
      ⟨(some 124), .bin .lss (.t 118) (.t 123), (some (113, true))⟩,
      ⟨(some 125), .pick (.t 113) (.t 124) (.c (.bool false)), none⟩] [])
    (.cond (.t 125)
    (.draw [
        ⟨(some 126), .fa 4 (.t 9), none⟩,
        ⟨(some 127), .ld false 1 (.t 126), none⟩,
        ⟨(some 128), .mv (.t 6), none⟩,
        ⟨(some 129), .fa 0 (.t 13), none⟩,
        ⟨(some 130), .ld false 1 (.t 129), none⟩,
        ⟨(some 131), .ixs 1 (.t 128) (.t 130), none⟩,
        ⟨(some 132), .ld false 1 (.t 131), none⟩,
        ⟨(some 133), .mv (.t 6), none⟩,
        ⟨(some 134), .fa 1 (.t 13), none⟩,
        ⟨(some 135), .ld false 1 (.t 134), none⟩,
        ⟨(some 136), .ixs 1 (.t 133) (.t 135), none⟩,
        ⟨(some 137), .ld false 1 (.t 136), none⟩,
        ⟨(some 138), .mv (.t 6), none⟩,
        ⟨(some 139), .fa 2 (.t 13), none⟩,
        ⟨(some 140), .ld false 1 (.t 139), none⟩,
        ⟨(some 141), .ixs 1 (.t 138) (.t 140), none⟩,
        ⟨(some 142), .ld false 1 (.t 141), none⟩,
        ⟨(some 143), .fa 3 (.t 13), none⟩,
        ⟨(some 144), .ld false 1 (.t 143), none⟩,
        ⟨(some 145), .build [(.int .i64 0), (.int .i64 0), (.int .i64 0), (.str [])] [(0, 1, (.t 132)), (1, 1, (.t 137)), (2, 1, (.t 142)), (3, 1, (.t 144))], none⟩,
        ⟨(some 146), .buildS (some 10) 4 1 [(.int .i64 0), (.int .i64 0), (.int .i64 0), (.str [])] [(0, (.t 145))], none⟩,
        ⟨(some 147), .app (some 11) 4 40 (.t 127) (.t 146), none⟩,
        ⟨(some 148), .fa 4 (.t 9), none⟩,
        ⟨none, .st 1 (.t 148) (.t 147), none⟩] [(1, 20)])
    .skip))))
    (.region [
      ⟨(some 149), .bin .add (.t 104) (.c (.int .i64 1)), none⟩,
      ⟨(some 104), .mv (.t 149), none⟩])))))))
  (.seq (.region [
    ⟨(some 150), .ld true 5 (.t 9), none⟩,
    ⟨none, .st 5 (.t 2) (.t 150), none⟩])
  .ret))))))))))))), [.cell 2 true 5]⟩

def c_regletref10_Throws_1 : CCode :=
  (.seq (.region [
 ⟨(some 2), .mv (.c (.bool false)), none⟩])
 (.seq (.region [
 ⟨(some 3), .mv (.t 0), none⟩,
 ⟨(some 4), .bin .geq (.t 3) (.c (.int .i64 7)), none⟩,
 ⟨(some 5), .mv (.t 4), none⟩,
 ⟨(some 6), .mv (.t 0), (some (5, true))⟩,
 ⟨(some 7), .bin .leq (.t 6) (.c (.int .i64 12)), (some (5, true))⟩,
 ⟨(some 8), .pick (.t 5) (.t 7) (.c (.bool false)), none⟩,
 ⟨(some 9), .mv (.t 8), none⟩,
 ⟨(some 10), .mv (.t 0), (some (9, false))⟩,
 ⟨(some 11), .buildS (some 0) 1 3 [(.int .i64 0)] [(0, (.c (.int .i64 20))), (1, (.c (.int .i64 21))), (2, (.c (.int .i64 31)))], (some (9, false))⟩,
 ⟨(some 12), .call none true 42 [(.t 10), (.t 11)], (some (9, false))⟩,
 ⟨(some 13), .pick (.t 9) (.c (.bool true)) (.t 12), none⟩,
 ⟨(some 14), .mv (.t 13), none⟩,
 ⟨(some 15), .mv (.t 0), (some (14, false))⟩,
 ⟨(some 16), .call none true 7 [(.t 15)], (some (14, false))⟩,
 ⟨(some 17), .pick (.t 14) (.c (.bool true)) (.t 16), none⟩,
 ⟨(some 2), .mv (.t 17), none⟩])
 .ret))

def c_regletref10_Throws : CFunc :=
  ⟨1, true, 1, c_regletref10_Throws_1, [.t 2]⟩

def c_regletref10_Leads_1 : CCode :=
  (.seq (.region [
 ⟨(some 2), .mv (.c (.bool false)), none⟩])
 (.seq (.region [
 ⟨(some 3), .mv (.t 0), none⟩,
 ⟨(some 4), .buildS (some 0) 1 3 [(.int .i64 0)] [(0, (.c (.int .i64 27))), (1, (.c (.int .i64 28))), (2, (.c (.int .i64 29)))], none⟩,
 ⟨(some 5), .call none true 42 [(.t 3), (.t 4)], none⟩,
 ⟨(some 2), .mv (.t 5), none⟩])
 .ret))

def c_regletref10_Leads : CFunc :=
  ⟨1, true, 1, c_regletref10_Leads_1, [.t 2]⟩

def c_regletref10_Ends_1 : CCode :=
  (.seq (.region [
 ⟨(some 2), .mv (.c (.bool false)), none⟩])
 (.seq (.region [
 ⟨(some 3), .mv (.t 0), none⟩,
 ⟨(some 4), .buildS (some 0) 1 3 [(.int .i64 0)] [(0, (.c (.int .i64 27))), (1, (.c (.int .i64 30))), (2, (.c (.int .i64 31)))], none⟩,
 ⟨(some 5), .call none true 42 [(.t 3), (.t 4)], none⟩,
 ⟨(some 2), .mv (.t 5), none⟩])
 .ret))

def c_regletref10_Ends : CFunc :=
  ⟨1, true, 1, c_regletref10_Ends_1, [.t 2]⟩

def c_ins_Ends_1 : CCode :=
  (.seq (.region [
 ⟨(some 1), .box (some 0) (.t 0), none⟩,
 ⟨(some 2), .mv (.c (.bool false)), none⟩])
 (.seq (.region [
 ⟨(some 3), .fa 0 (.t 1), none⟩,
 ⟨(some 4), .ld false 1 (.t 3), none⟩,
 ⟨(some 5), .bin .eql (.t 4) (.c (.int .i64 27)), none⟩,
 ⟨(some 6), .mv (.t 5), none⟩,
 ⟨(some 7), .fa 0 (.t 1), (some (6, false))⟩,
 ⟨(some 8), .ld false 1 (.t 7), (some (6, false))⟩,
 ⟨(some 9), .bin .eql (.t 8) (.c (.int .i64 30)), (some (6, false))⟩,
 ⟨(some 10), .pick (.t 6) (.c (.bool true)) (.t 9), none⟩,
 ⟨(some 11), .mv (.t 10), none⟩,
 ⟨(some 12), .fa 0 (.t 1), (some (11, false))⟩,
 ⟨(some 13), .ld false 1 (.t 12), (some (11, false))⟩,
 ⟨(some 14), .bin .eql (.t 13) (.c (.int .i64 31)), (some (11, false))⟩,
 ⟨(some 15), .pick (.t 11) (.c (.bool true)) (.t 14), none⟩,
 ⟨(some 2), .mv (.t 15), none⟩])
 .ret))

def c_ins_Ends : CFunc :=
  ⟨1, true, 1, c_ins_Ends_1, [.t 2]⟩

def c_ins_Leads_1 : CCode :=
  (.seq (.region [
 ⟨(some 1), .box (some 0) (.t 0), none⟩,
 ⟨(some 2), .mv (.c (.bool false)), none⟩])
 (.seq (.region [
 ⟨(some 3), .fa 0 (.t 1), none⟩,
 ⟨(some 4), .ld false 1 (.t 3), none⟩,
 ⟨(some 5), .bin .eql (.t 4) (.c (.int .i64 27)), none⟩,
 ⟨(some 6), .mv (.t 5), none⟩,
 ⟨(some 7), .fa 0 (.t 1), (some (6, false))⟩,
 ⟨(some 8), .ld false 1 (.t 7), (some (6, false))⟩,
 ⟨(some 9), .bin .eql (.t 8) (.c (.int .i64 28)), (some (6, false))⟩,
 ⟨(some 10), .pick (.t 6) (.c (.bool true)) (.t 9), none⟩,
 ⟨(some 11), .mv (.t 10), none⟩,
 ⟨(some 12), .fa 0 (.t 1), (some (11, false))⟩,
 ⟨(some 13), .ld false 1 (.t 12), (some (11, false))⟩,
 ⟨(some 14), .bin .eql (.t 13) (.c (.int .i64 29)), (some (11, false))⟩,
 ⟨(some 15), .pick (.t 11) (.c (.bool true)) (.t 14), none⟩,
 ⟨(some 2), .mv (.t 15), none⟩])
 .ret))

def c_ins_Leads : CFunc :=
  ⟨1, true, 1, c_ins_Leads_1, [.t 2]⟩

def c_slices_Contains_int_int_1 : CCode :=
  (.seq (.region [
 ⟨(some 4), .mv (.c (.bool false)), none⟩])
 (.seq (.region [
 ⟨(some 5), .mv (.t 0), none⟩,
 ⟨(some 6), .mv (.t 1), none⟩,
 ⟨(some 7), .call none true 45 [(.t 5), (.t 6)], none⟩,
 ⟨(some 8), .bin .geq (.t 7) (.c (.int .i64 0)), none⟩,
 ⟨(some 4), .mv (.t 8), none⟩])
 .ret))

def c_slices_Contains_int_int : CFunc :=
  ⟨2, true, 0, c_slices_Contains_int_int_1, [.t 4]⟩

def c_regletref11_in_1 : CCode :=
  (.seq (.region [
 ⟨(some 4), .mv (.c (.bool false)), none⟩])
 .ret)

def c_regletref11_in_3 : CCode :=
  (.region [
 ⟨(some 10), .mv (.t 5), none⟩,
 ⟨(some 11), .bin .add (.t 10) (.c (.int .i64 1)), none⟩,
 ⟨(some 5), .mv (.t 11), none⟩])

def c_regletref11_in_4 : CCode :=
  (.seq (.block 1 (.seq (.region [
 ⟨(some 12), .mv (.t 0), none⟩,
 ⟨(some 13), .mv (.t 5), none⟩,
 ⟨(some 14), .ixs 1 (.t 12) (.t 13), none⟩,
 ⟨(some 15), .ld false 1 (.t 14), none⟩,
 ⟨(some 16), .mv (.t 1), none⟩,
 ⟨(some 17), .bin .eql (.t 15) (.t 16), none⟩])
 (.cond (.t 17)
 (.seq (.region [
  ⟨(some 4), .mv (.c (.bool true)), none⟩])
  .ret)
 .skip)))
 c_regletref11_in_3)

def c_regletref11_in_5 : CCode :=
  (.seq (.seq (.region [
 ⟨(some 6), .mv (.t 5), none⟩,
 ⟨(some 7), .mv (.t 0), none⟩,
 ⟨(some 8), .len 1 (.t 7), none⟩,
 ⟨(some 9), .bin .lss (.t 6) (.t 8), none⟩])
 (.cond (.t 9)
 .skip
 (.exit 0)))
 c_regletref11_in_4)

def c_regletref11_in_L2 : CCode :=
  (.loop [0, 1, 5] c_regletref11_in_5)

def c_regletref11_in_6 : CCode :=
  (.block 0 c_regletref11_in_L2)

def c_regletref11_in_7 : CCode :=
  (.seq (.region [
 ⟨(some 5), .mv (.c (.int .i64 0)), none⟩])
 c_regletref11_in_6)

def c_regletref11_in_8 : CCode :=
  (.seq c_regletref11_in_7
 c_regletref11_in_1)

def c_regletref11_in_9 : CCode :=
  (.seq (.region [
 ⟨(some 4), .mv (.c (.bool false)), none⟩])
 c_regletref11_in_8)

def c_regletref11_in : CFunc :=
  ⟨2, true, 0, c_regletref11_in_9, [.t 4]⟩

def c_ins_Throws_1 : CCode :=
  (.seq (.region [
 ⟨(some 1), .box (some 0) (.t 0), none⟩,
 ⟨(some 2), .mv (.c (.bool false)), none⟩])
 (.seq (.region [
 ⟨(some 3), .fa 0 (.t 1), none⟩,
 ⟨(some 4), .ld false 1 (.t 3), none⟩,
 ⟨(some 5), .bin .geq (.t 4) (.c (.int .i64 7)), none⟩,
 ⟨(some 6), .mv (.t 5), none⟩,
 ⟨(some 7), .fa 0 (.t 1), (some (6, true))⟩,
 ⟨(some 8), .ld false 1 (.t 7), (some (6, true))⟩,
 ⟨(some 9), .bin .leq (.t 8) (.c (.int .i64 12)), (some (6, true))⟩,
 ⟨(some 10), .pick (.t 6) (.t 9) (.c (.bool false)), none⟩,
 ⟨(some 11), .mv (.t 10), none⟩,
 ⟨(some 12), .fa 0 (.t 1), (some (11, false))⟩,
 ⟨(some 13), .ld false 1 (.t 12), (some (11, false))⟩,
 ⟨(some 14), .bin .eql (.t 13) (.c (.int .i64 20)), (some (11, false))⟩,
 ⟨(some 15), .pick (.t 11) (.c (.bool true)) (.t 14), none⟩,
 ⟨(some 16), .mv (.t 15), none⟩,
 ⟨(some 17), .fa 0 (.t 1), (some (16, false))⟩,
 ⟨(some 18), .ld false 1 (.t 17), (some (16, false))⟩,
 ⟨(some 19), .bin .eql (.t 18) (.c (.int .i64 21)), (some (16, false))⟩,
 ⟨(some 20), .pick (.t 16) (.c (.bool true)) (.t 19), none⟩,
 ⟨(some 21), .mv (.t 20), none⟩,
 ⟨(some 22), .fa 0 (.t 1), (some (21, false))⟩,
 ⟨(some 23), .ld false 1 (.t 22), (some (21, false))⟩,
 ⟨(some 24), .bin .eql (.t 23) (.c (.int .i64 31)), (some (21, false))⟩,
 ⟨(some 25), .pick (.t 21) (.c (.bool true)) (.t 24), none⟩,
 ⟨(some 26), .mv (.t 25), none⟩,
 ⟨(some 27), .ld true 9 (.t 1), (some (26, false))⟩,
 ⟨(some 28), .call none true 17 [(.t 27)], (some (26, false))⟩,
 ⟨(some 29), .pick (.t 26) (.c (.bool true)) (.t 28), none⟩,
 ⟨(some 2), .mv (.t 29), none⟩])
 .ret))

def c_ins_Throws : CFunc :=
  ⟨1, true, 1, c_ins_Throws_1, [.t 2]⟩

def c_regletref11_All_1 : CCode :=
  (.seq (.region [
 ⟨(some 2), .box (some 0) (.t 0), none⟩,
 ⟨(some 4), .mv (.c .nils), none⟩])
 (.seq (.draw [
 ⟨(some 5), .ld true 5 (.t 2), none⟩,
 ⟨(some 6), .mv (.t 1), none⟩,
 ⟨(some 7), .call (some 1) false 95 [(.t 5), (.t 6)], none⟩,
 ⟨(some 8), .ld true 5 (.t 2), none⟩,
 ⟨(some 9), .mv (.t 1), none⟩,
 ⟨(some 10), .call none true 92 [(.t 8), (.t 9)], none⟩,
 ⟨(some 11), .app (some 2) 1 8 (.t 7) (.t 10), none⟩,
 ⟨(some 4), .mv (.t 11), none⟩] [(2, 3)])
 .ret))

def c_regletref11_All : CFunc :=
  ⟨2, true, 3, c_regletref11_All_1, [.t 4]⟩

def c_ins_Copy : CFunc :=
  ⟨1, true, 8, (.seq (.region [
    ⟨(some 1), .box (some 0) (.t 0), none⟩,
    ⟨(some 2), .new (some 1) [.nils, .nils, (.int .i64 0), .nils, .nils], none⟩])
  (.seq (.draw [
    ⟨(some 5), .fa 0 (.t 1), none⟩,
    ⟨(some 6), .ld false 1 (.t 5), none⟩,
    ⟨(some 7), .call (some 2) false 39 [(.t 6)], none⟩,
    ⟨(some 8), .fa 1 (.t 1), none⟩,
    ⟨(some 9), .ld false 1 (.t 8), none⟩,
    ⟨(some 10), .call (some 3) false 39 [(.t 9)], none⟩,
    ⟨(some 11), .fa 2 (.t 1), none⟩,
    ⟨(some 12), .ld false 1 (.t 11), none⟩,
    ⟨(some 13), .fa 3 (.t 1), none⟩,
    ⟨(some 14), .ld false 1 (.t 13), none⟩,
    ⟨(some 15), .call (some 4) false 40 [(.t 14)], none⟩,
    ⟨(some 16), .fa 4 (.t 1), none⟩,
    ⟨(some 17), .ld false 1 (.t 16), none⟩,
    ⟨(some 18), .call (some 5) false 41 [(.t 17)], none⟩,
    ⟨(some 19), .build [.nils, .nils, (.int .i64 0), .nils, .nils] [(0, 1, (.t 7)), (1, 1, (.t 10)), (2, 1, (.t 12)), (3, 1, (.t 15)), (4, 1, (.t 18))], none⟩,
    ⟨(some 3), .new (some 6) [.nils, .nils, (.int .i64 0), .nils, .nils], none⟩,
    ⟨none, .st 5 (.t 3) (.t 19), none⟩] [(2, 4), (2, 7), (5, 7), (2, 9), (5, 9), (7, 10), (2, 12), (5, 12), (10, 12), (7, 13), (1, 15), (2, 15), (4, 15), (5, 15), (7, 15), (9, 15), (10, 15), (12, 15), (13, 15)])
  (.seq (.seq (.region [
    ⟨(some 20), .fa 3 (.t 3), none⟩,
    ⟨(some 21), .ld false 1 (.t 20), none⟩,
    ⟨(some 22), .len 1 (.t 21), none⟩,
    ⟨(some 23), .mv (.c (.int .i64 0)), none⟩])
  (.block 0 (.loop [2, 3, 22, 23] (.seq (.region [
      ⟨(some 24), .bin .lss (.t 23) (.t 22), none⟩])
    (.seq (.cond (.t 24)
    .skip
    (.exit 0))
    (.seq (.block 1 (.seq (.region [
      ⟨(some 25), .mv (.t 23), none⟩,
      ⟨(some 4), .mv (.t 25), none⟩])
    (.draw [
      ⟨(some 26), .fa 3 (.t 3), none⟩,
      ⟨(some 27), .ld false 1 (.t 26), none⟩,
      ⟨(some 28), .mv (.t 4), none⟩,
      ⟨(some 29), .fa 3 (.t 3), none⟩,
      ⟨(some 30), .ld false 1 (.t 29), none⟩,
      ⟨(some 31), .mv (.t 4), none⟩,
      ⟨(some 32), .ixs 9 (.t 30) (.t 31), none⟩,
      ⟨(some 33), .fa 8 (.t 32), none⟩,
      ⟨(some 34), .ld false 1 (.t 33), none⟩,
      ⟨(some 35), .call (some 7) false 39 [(.t 34)], none⟩,
      ⟨(some 36), .ixs 9 (.t 27) (.t 28), none⟩,
      ⟨(some 37), .fa 8 (.t 36), none⟩,
      ⟨none, .st 1 (.t 37) (.t 35), none⟩] [(1, 9)])))
    (.region [
      ⟨(some 38), .bin .add (.t 23) (.c (.int .i64 1)), none⟩,
      ⟨(some 23), .mv (.t 38), none⟩])))))))
  (.seq (.region [
    ⟨(some 39), .ld true 5 (.t 3), none⟩,
    ⟨none, .st 5 (.t 2) (.t 39), none⟩])
  .ret)))), [.cell 2 true 5]⟩

def c_ins_Check : CFunc :=
  ⟨1, true, 3, (.seq (.region [
    ⟨(some 1), .box (some 0) (.t 0), none⟩,
    ⟨(some 2), .mv (.c (.int .i64 0)), none⟩])
  (.seq (.region [
    ⟨(some 12), .fa 3 (.t 1), none⟩,
    ⟨(some 13), .ld false 1 (.t 12), none⟩,
    ⟨(some 14), .len 1 (.t 13), none⟩,
    ⟨(some 3), .mv (.t 14), none⟩])
  (.seq (.seq (.region [
    ⟨(some 15), .mv (.t 3), none⟩,
    ⟨(some 16), .bin .lss (.t 15) (.c (.int .i64 1)), none⟩,
    ⟨(some 17), .mv (.t 16), none⟩,
    ⟨(some 18), .mv (.t 3), (some (17, false))⟩,
    ⟨(some 19), .bin .gtr (.t 18) (.c (.int .i64 20000)), (some (17, false))⟩,
    ⟨(some 20), .pick (.t 17) (.c (.bool true)) (.t 19), none⟩,
    ⟨(some 21), .mv (.t 20), none⟩,
    ⟨(some 22), .fa 0 (.t 1), (some (21, false))⟩,
    ⟨(some 23), .ld false 1 (.t 22), (some (21, false))⟩,
    ⟨(some 24), .len 1 (.t 23), (some (21, false))⟩,
    ⟨(some 25), .bin .gtr (.t 24) (.c (.int .i64 20000)), (some (21, false))⟩,
    ⟨(some 26), .pick (.t 21) (.c (.bool true)) (.t 25), none⟩,
    ⟨(some 27), .mv (.t 26), none⟩,
    ⟨(some 28), .fa 2 (.t 1), (some (27, false))⟩,
    ⟨(some 29), .ld false 1 (.t 28), (some (27, false))⟩,
    ⟨(some 30), .bin .lss (.t 29) (.c (.int .i64 0)), (some (27, false))⟩,
    ⟨(some 31), .pick (.t 27) (.c (.bool true)) (.t 30), none⟩,
    ⟨(some 32), .mv (.t 31), none⟩,
    ⟨(some 33), .fa 2 (.t 1), (some (32, false))⟩,
    ⟨(some 34), .ld false 1 (.t 33), (some (32, false))⟩,
    ⟨(some 35), .bin .gtr (.t 34) (.c (.int .i64 3)), (some (32, false))⟩,
    ⟨(some 36), .pick (.t 32) (.c (.bool true)) (.t 35), none⟩,
    ⟨(some 37), .mv (.t 36), none⟩,
    ⟨(some 38), .fa 3 (.t 1), (some (37, false))⟩,
    ⟨(some 39), .ld false 1 (.t 38), (some (37, false))⟩,
    ⟨(some 40), .mv (.t 3), (some (37, false))⟩,
    ⟨(some 41), .bin .sub (.t 40) (.c (.int .i64 1)), (some (37, false))⟩,
    ⟨(some 42), .ixs 9 (.t 39) (.t 41), (some (37, false))⟩,
    ⟨(some 43), .ld true 9 (.t 42), (some (37, false))⟩,
    ⟨(some 44), .call none true 24 [(.t 43)], (some (37, false))⟩,
    ⟨(some 45), .un .not (.t 44), (some (37, false))⟩,
    ⟨(some 46), .pick (.t 37) (.c (.bool true)) (.t 45), none⟩])
  (.cond (.t 46)
  (.seq (.region [
      ⟨(some 2), .mv (.c (.int .i64 80)), none⟩])
    .ret)
  .skip))
  (.seq (.seq (.region [
    ⟨(some 47), .fa 0 (.t 1), none⟩,
    ⟨(some 48), .ld false 1 (.t 47), none⟩,
    ⟨(some 49), .len 1 (.t 48), none⟩,
    ⟨(some 50), .mv (.c (.int .i64 0)), none⟩])
  (.block 0 (.loop [1, 3, 48, 49, 50] (.seq (.region [
      ⟨(some 51), .bin .lss (.t 50) (.t 49), none⟩])
    (.seq (.cond (.t 51)
    .skip
    (.exit 0))
    (.seq (.block 1 (.seq (.region [
      ⟨(some 52), .ixs 1 (.t 48) (.t 50), none⟩,
      ⟨(some 53), .ld false 1 (.t 52), none⟩,
      ⟨(some 5), .mv (.t 53), none⟩])
    (.seq (.region [
      ⟨(some 54), .mv (.t 5), none⟩,
      ⟨(some 55), .bin .lss (.t 54) (.c (.int .i64 1)), none⟩,
      ⟨(some 56), .mv (.t 55), none⟩,
      ⟨(some 57), .mv (.t 5), (some (56, false))⟩,
      ⟨(some 58), .bin .gtr (.t 57) (.c (.int .i64 3)), (some (56, false))⟩,
      ⟨(some 59), .pick (.t 56) (.c (.bool true)) (.t 58), none⟩])
    (.cond (.t 59)
    (.seq (.region [
        ⟨(some 2), .mv (.c (.int .i64 80)), none⟩])
      .ret)
    .skip))))
    (.region [
      ⟨(some 60), .bin .add (.t 50) (.c (.int .i64 1)), none⟩,
      ⟨(some 50), .mv (.t 60), none⟩])))))))
  (.seq (.seq (.region [
    ⟨(some 61), .fa 1 (.t 1), none⟩,
    ⟨(some 62), .ld false 1 (.t 61), none⟩,
    ⟨(some 63), .len 1 (.t 62), none⟩,
    ⟨(some 64), .mv (.c (.int .i64 0)), none⟩])
  (.block 2 (.loop [1, 3, 62, 63, 64] (.seq (.region [
      ⟨(some 65), .bin .lss (.t 64) (.t 63), none⟩])
    (.seq (.cond (.t 65)
    .skip
    (.exit 2))
    (.seq (.block 3 (.seq (.region [
      ⟨(some 66), .mv (.t 64), none⟩,
      ⟨(some 67), .ixs 1 (.t 62) (.t 64), none⟩,
      ⟨(some 68), .ld false 1 (.t 67), none⟩,
      ⟨(some 6), .mv (.t 66), none⟩,
      ⟨(some 7), .mv (.t 68), none⟩])
    (.seq (.region [
      ⟨(some 69), .mv (.t 7), none⟩,
      ⟨(some 70), .bin .lss (.t 69) (.c (.int .i64 0)), none⟩,
      ⟨(some 71), .mv (.t 70), none⟩,
      ⟨(some 72), .mv (.t 7), (some (71, false))⟩,
      ⟨(some 73), .fa 0 (.t 1), (some (71, false))⟩,
      ⟨(some 74), .ld false 1 (.t 73), (some (71, false))⟩,
      ⟨(some 75), .len 1 (.t 74), (some (71, false))⟩,
      ⟨(some 76), .bin .geq (.t 72) (.t 75), (some (71, false))⟩,
      ⟨(some 77), .pick (.t 71) (.c (.bool true)) (.t 76), none⟩,
      ⟨(some 78), .mv (.t 77), none⟩,
      ⟨(some 79), .fa 1 (.t 1), (some (78, false))⟩,
      ⟨(some 80), .ld false 1 (.t 79), (some (78, false))⟩,
      ⟨(some 81), .mv (.t 6), (some (78, false))⟩,
      ⟨(some 82), .slc 1 (.t 80) none (some (.t 81)), (some (78, false))⟩,
      ⟨(some 83), .mv (.t 7), (some (78, false))⟩,
      ⟨(some 84), .call none true 46 [(.t 82), (.t 83)], (some (78, false))⟩,
      ⟨(some 85), .pick (.t 78) (.c (.bool true)) (.t 84), none⟩,
      ⟨(some 86), .mv (.t 85), none⟩,
      ⟨(some 87), .mv (.t 6), (some (86, false))⟩,
      ⟨(some 88), .bin .gtr (.t 87) (.c (.int .i64 20)), (some (86, false))⟩,
      ⟨(some 89), .pick (.t 86) (.c (.bool true)) (.t 88), none⟩])
    (.cond (.t 89)
    (.seq (.region [
        ⟨(some 2), .mv (.c (.int .i64 80)), none⟩])
      .ret)
    .skip))))
    (.region [
      ⟨(some 90), .bin .add (.t 64) (.c (.int .i64 1)), none⟩,
      ⟨(some 64), .mv (.t 90), none⟩])))))))
  (.seq (.seq (.region [
    ⟨(some 91), .fa 3 (.t 1), none⟩,
    ⟨(some 92), .ld false 1 (.t 91), none⟩,
    ⟨(some 93), .len 1 (.t 92), none⟩,
    ⟨(some 94), .mv (.c (.int .i64 0)), none⟩])
  (.block 4 (.loop [1, 3, 92, 93, 94] (.seq (.region [
      ⟨(some 95), .bin .lss (.t 94) (.t 93), none⟩])
    (.seq (.cond (.t 95)
    .skip
    (.exit 4))
    (.seq (.block 5 (.seq (.region [
      ⟨(some 96), .mv (.t 94), none⟩,
      ⟨(some 97), .ixs 9 (.t 92) (.t 94), none⟩,
      ⟨(some 98), .ld true 9 (.t 97), none⟩,
      ⟨(some 9), .new (some 1) [(.int .i64 0), (.int .i64 0), (.int .i64 0), (.int .i64 0), (.int .i64 0), (.int .i64 0), (.int .i64 0), (.str []), .nils], none⟩,
      ⟨(some 8), .mv (.t 96), none⟩,
      ⟨none, .st 9 (.t 9) (.t 98), none⟩])
    (.seq (.seq (.region [
      ⟨(some 99), .ld true 5 (.t 1), none⟩,
      ⟨(some 100), .ld true 9 (.t 9), none⟩,
      ⟨(some 101), .call none true 63 [(.t 99), (.t 100)], none⟩,
      ⟨(some 102), .un .not (.t 101), none⟩])
    (.cond (.t 102)
    (.seq (.region [
        ⟨(some 2), .mv (.c (.int .i64 80)), none⟩])
      .ret)
    .skip))
    (.seq (.region [
      ⟨(some 103), .fa 0 (.t 9), none⟩,
      ⟨(some 104), .ld false 1 (.t 103), none⟩,
      ⟨(some 105), .bin .eql (.t 104) (.c (.int .i64 32)), none⟩,
      ⟨(some 106), .mv (.t 105), none⟩,
      ⟨(some 107), .mv (.t 8), (some (106, true))⟩,
      ⟨(some 108), .bin .eql (.t 107) (.c (.int .i64 0)), (some (106, true))⟩,
      ⟨(some 109), .mv (.t 108), (some (106, true))⟩,
      ⟨(some 110), .fa 3 (.t 1), (some (109, false))⟩,
      ⟨(some 111), .ld false 1 (.t 110), (some (109, false))⟩,
      ⟨(some 112), .mv (.t 8), (some (109, false))⟩,
      ⟨(some 113), .bin .sub (.t 112) (.c (.int .i64 1)), (some (109, false))⟩,
      ⟨(some 114), .ixs 9 (.t 111) (.t 113), (some (109, false))⟩,
      ⟨(some 115), .ld true 9 (.t 114), (some (109, false))⟩,
      ⟨(some 116), .call none true 24 [(.t 115)], (some (109, false))⟩,
      ⟨(some 117), .un .not (.t 116), (some (109, false))⟩,
      ⟨(some 118), .pick (.t 109) (.c (.bool true)) (.t 117), (some (106, true))⟩,
      ⟨(some 119), .pick (.t 106) (.t 118) (.c (.bool false)), none⟩,
      ⟨(some 120), .mv (.t 119), none⟩,
      ⟨(some 121), .ld true 9 (.t 9), (some (120, false))⟩,
      ⟨(some 122), .call none true 22 [(.t 121)], (some (120, false))⟩,
      ⟨(some 123), .mv (.t 122), (some (120, false))⟩,
      ⟨(some 124), .fa 3 (.t 1), (some (123, true))⟩,
      ⟨(some 125), .ld false 1 (.t 124), (some (123, true))⟩,
      ⟨(some 126), .fa 6 (.t 9), (some (123, true))⟩,
      ⟨(some 127), .ld false 1 (.t 126), (some (123, true))⟩,
      ⟨(some 128), .ixs 9 (.t 125) (.t 127), (some (123, true))⟩,
      ⟨(some 129), .fa 0 (.t 128), (some (123, true))⟩,
      ⟨(some 130), .ld false 1 (.t 129), (some (123, true))⟩,
      ⟨(some 131), .bin .eql (.t 130) (.c (.int .i64 32)), (some (123, true))⟩,
      ⟨(some 132), .pick (.t 123) (.t 131) (.c (.bool false)), (some (120, false))⟩,
      ⟨(some 133), .pick (.t 120) (.c (.bool true)) (.t 132), none⟩])
    (.cond (.t 133)
    (.seq (.region [
        ⟨(some 2), .mv (.c (.int .i64 80)), none⟩])
      .ret)
    .skip)))))
    (.region [
      ⟨(some 134), .bin .add (.t 94) (.c (.int .i64 1)), none⟩,
      ⟨(some 94), .mv (.t 134), none⟩])))))))
  (.seq (.seq (.region [
    ⟨(some 135), .fa 4 (.t 1), none⟩,
    ⟨(some 136), .ld false 1 (.t 135), none⟩,
    ⟨(some 137), .len 1 (.t 136), none⟩,
    ⟨(some 138), .mv (.c (.int .i64 0)), none⟩])
  (.block 6 (.loop [1, 3, 136, 137, 138] (.seq (.region [
      ⟨(some 139), .bin .lss (.t 138) (.t 137), none⟩])
    (.seq (.cond (.t 139)
    .skip
    (.exit 6))
    (.seq (.block 7 (.seq (.region [
      ⟨(some 140), .ixs 4 (.t 136) (.t 138), none⟩,
      ⟨(some 141), .ld true 4 (.t 140), none⟩,
      ⟨(some 11), .new (some 2) [(.int .i64 0), (.int .i64 0), (.int .i64 0), (.str [])], none⟩,
      ⟨none, .st 4 (.t 11) (.t 141), none⟩])
    (.seq (.region [
      ⟨(some 142), .fa 0 (.t 11), none⟩,
      ⟨(some 143), .ld false 1 (.t 142), none⟩,
      ⟨(some 144), .bin .lss (.t 143) (.c (.int .i64 0)), none⟩,
      ⟨(some 145), .mv (.t 144), none⟩,
      ⟨(some 146), .fa 0 (.t 11), (some (145, false))⟩,
      ⟨(some 147), .ld false 1 (.t 146), (some (145, false))⟩,
      ⟨(some 148), .fa 1 (.t 11), (some (145, false))⟩,
      ⟨(some 149), .ld false 1 (.t 148), (some (145, false))⟩,
      ⟨(some 150), .bin .geq (.t 147) (.t 149), (some (145, false))⟩,
      ⟨(some 151), .pick (.t 145) (.c (.bool true)) (.t 150), none⟩,
      ⟨(some 152), .mv (.t 151), none⟩,
      ⟨(some 153), .fa 1 (.t 11), (some (152, false))⟩,
      ⟨(some 154), .ld false 1 (.t 153), (some (152, false))⟩,
      ⟨(some 155), .mv (.t 3), (some (152, false))⟩,
      ⟨(some 156), .bin .gtr (.t 154) (.t 155), (some (152, false))⟩,
      ⟨(some 157), .pick (.t 152) (.c (.bool true)) (.t 156), none⟩,
      ⟨(some 158), .mv (.t 157), none⟩,
      ⟨(some 159), .fa 2 (.t 11), (some (158, false))⟩,
      ⟨(some 160), .ld false 1 (.t 159), (some (158, false))⟩,
      ⟨(some 161), .bin .lss (.t 160) (.c (.int .i64 0)), (some (158, false))⟩,
      ⟨(some 162), .pick (.t 158) (.c (.bool true)) (.t 161), none⟩,
      ⟨(some 163), .mv (.t 162), none⟩,
      ⟨(some 164), .fa 2 (.t 11), (some (163, false))⟩,
      ⟨(some 165), .ld false 1 (.t 164), (some (163, false))⟩,
      ⟨(some 166), .mv (.t 3), (some (163, false))⟩,
      ⟨(some 167), .bin .geq (.t 165) (.t 166), (some (163, false))⟩,
      ⟨(some 168), .pick (.t 163) (.c (.bool true)) (.t 167), none⟩,
      ⟨(some 169), .mv (.t 168), none⟩,
      ⟨(some 170), .fa 3 (.t 1), (some (169, false))⟩,
      ⟨(some 171), .ld false 1 (.t 170), (some (169, false))⟩,
      ⟨(some 172), .fa 2 (.t 11), (some (169, false))⟩,
      ⟨(some 173), .ld false 1 (.t 172), (some (169, false))⟩,
      ⟨(some 174), .ixs 9 (.t 171) (.t 173), (some (169, false))⟩,
      ⟨(some 175), .fa 0 (.t 174), (some (169, false))⟩,
      ⟨(some 176), .ld false 1 (.t 175), (some (169, false))⟩,
      ⟨(some 177), .bin .neq (.t 176) (.c (.int .i64 32)), (some (169, false))⟩,
      ⟨(some 178), .pick (.t 169) (.c (.bool true)) (.t 177), none⟩])
    (.cond (.t 178)
    (.seq (.region [
        ⟨(some 2), .mv (.c (.int .i64 80)), none⟩])
      .ret)
    .skip))))
    (.region [
      ⟨(some 179), .bin .add (.t 138) (.c (.int .i64 1)), none⟩,
      ⟨(some 138), .mv (.t 179), none⟩])))))))
  (.seq (.region [
    ⟨(some 2), .mv (.c (.int .i64 0)), none⟩])
  .ret)))))))), [.t 2]⟩

def c_regletref10_in_1 : CCode :=
  (.seq (.region [
 ⟨(some 4), .mv (.c (.bool false)), none⟩])
 .ret)

def c_regletref10_in_3 : CCode :=
  (.region [
 ⟨(some 10), .mv (.t 5), none⟩,
 ⟨(some 11), .bin .add (.t 10) (.c (.int .i64 1)), none⟩,
 ⟨(some 5), .mv (.t 11), none⟩])

def c_regletref10_in_4 : CCode :=
  (.seq (.block 1 (.seq (.region [
 ⟨(some 12), .mv (.t 1), none⟩,
 ⟨(some 13), .mv (.t 5), none⟩,
 ⟨(some 14), .ixs 1 (.t 12) (.t 13), none⟩,
 ⟨(some 15), .ld false 1 (.t 14), none⟩,
 ⟨(some 16), .mv (.t 0), none⟩,
 ⟨(some 17), .bin .eql (.t 15) (.t 16), none⟩])
 (.cond (.t 17)
 (.seq (.region [
  ⟨(some 4), .mv (.c (.bool true)), none⟩])
  .ret)
 .skip)))
 c_regletref10_in_3)

def c_regletref10_in_5 : CCode :=
  (.seq (.seq (.region [
 ⟨(some 6), .mv (.t 5), none⟩,
 ⟨(some 7), .mv (.t 1), none⟩,
 ⟨(some 8), .len 1 (.t 7), none⟩,
 ⟨(some 9), .bin .lss (.t 6) (.t 8), none⟩])
 (.cond (.t 9)
 .skip
 (.exit 0)))
 c_regletref10_in_4)

def c_regletref10_in_L2 : CCode :=
  (.loop [0, 1, 5] c_regletref10_in_5)

def c_regletref10_in_6 : CCode :=
  (.block 0 c_regletref10_in_L2)

def c_regletref10_in_7 : CCode :=
  (.seq (.region [
 ⟨(some 5), .mv (.c (.int .i64 0)), none⟩])
 c_regletref10_in_6)

def c_regletref10_in_8 : CCode :=
  (.seq c_regletref10_in_7
 c_regletref10_in_1)

def c_regletref10_in_9 : CCode :=
  (.seq (.region [
 ⟨(some 4), .mv (.c (.bool false)), none⟩])
 c_regletref10_in_8)

def c_regletref10_in : CFunc :=
  ⟨2, true, 0, c_regletref10_in_9, [.t 4]⟩

def c_regletref10_Calls_1 : CCode :=
  (.seq (.region [
 ⟨(some 2), .mv (.c (.bool false)), none⟩])
 (.seq (.region [
 ⟨(some 3), .mv (.t 0), none⟩,
 ⟨(some 4), .bin .geq (.t 3) (.c (.int .i64 23)), none⟩,
 ⟨(some 5), .mv (.t 4), none⟩,
 ⟨(some 6), .mv (.t 0), (some (5, true))⟩,
 ⟨(some 7), .bin .leq (.t 6) (.c (.int .i64 26)), (some (5, true))⟩,
 ⟨(some 8), .pick (.t 5) (.t 7) (.c (.bool false)), none⟩,
 ⟨(some 2), .mv (.t 8), none⟩])
 .ret))

def c_regletref10_Calls : CFunc :=
  ⟨1, true, 0, c_regletref10_Calls_1, [.t 2]⟩

def c_slices_Index_int_int_1 : CCode :=
  (.seq (.region [
 ⟨(some 4), .mv (.c (.int .i64 (-1))), none⟩])
 .ret)

def c_slices_Index_int_int_3 : CCode :=
  (.region [
 ⟨(some 18), .bin .add (.t 8) (.c (.int .i64 1)), none⟩,
 ⟨(some 8), .mv (.t 18), none⟩])

def c_slices_Index_int_int_4 : CCode :=
  (.seq (.block 1 (.seq (.region [
 ⟨(some 10), .mv (.t 8), none⟩,
 ⟨(some 5), .mv (.t 10), none⟩])
 (.seq (.region [
 ⟨(some 11), .mv (.t 1), none⟩,
 ⟨(some 12), .mv (.t 0), none⟩,
 ⟨(some 13), .mv (.t 5), none⟩,
 ⟨(some 14), .ixs 1 (.t 12) (.t 13), none⟩,
 ⟨(some 15), .ld false 1 (.t 14), none⟩,
 ⟨(some 16), .bin .eql (.t 11) (.t 15), none⟩])
 (.cond (.t 16)
 (.seq (.region [
  ⟨(some 17), .mv (.t 5), none⟩,
  ⟨(some 4), .mv (.t 17), none⟩])
  .ret)
 .skip))))
 c_slices_Index_int_int_3)

def c_slices_Index_int_int_5 : CCode :=
  (.seq (.cond (.t 9)
 .skip
 (.exit 0))
 c_slices_Index_int_int_4)

def c_slices_Index_int_int_6 : CCode :=
  (.seq (.region [
 ⟨(some 9), .bin .lss (.t 8) (.t 7), none⟩])
 c_slices_Index_int_int_5)

def c_slices_Index_int_int_L2 : CCode :=
  (.loop [0, 1, 7, 8] c_slices_Index_int_int_6)

def c_slices_Index_int_int_7 : CCode :=
  (.block 0 c_slices_Index_int_int_L2)

def c_slices_Index_int_int_8 : CCode :=
  (.seq (.region [
 ⟨(some 6), .mv (.t 0), none⟩,
 ⟨(some 7), .len 1 (.t 6), none⟩,
 ⟨(some 8), .mv (.c (.int .i64 0)), none⟩])
 c_slices_Index_int_int_7)

def c_slices_Index_int_int_9 : CCode :=
  (.seq c_slices_Index_int_int_8
 c_slices_Index_int_int_1)

def c_slices_Index_int_int_10 : CCode :=
  (.seq (.region [
 ⟨(some 4), .mv (.c (.int .i64 0)), none⟩])
 c_slices_Index_int_int_9)

def c_slices_Index_int_int : CFunc :=
  ⟨2, true, 0, c_slices_Index_int_int_10, [.t 4]⟩

def c_ins_Calls_1 : CCode :=
  (.seq (.region [
 ⟨(some 1), .box (some 0) (.t 0), none⟩,
 ⟨(some 2), .mv (.c (.bool false)), none⟩])
 (.seq (.region [
 ⟨(some 3), .fa 0 (.t 1), none⟩,
 ⟨(some 4), .ld false 1 (.t 3), none⟩,
 ⟨(some 5), .bin .geq (.t 4) (.c (.int .i64 23)), none⟩,
 ⟨(some 6), .mv (.t 5), none⟩,
 ⟨(some 7), .fa 0 (.t 1), (some (6, true))⟩,
 ⟨(some 8), .ld false 1 (.t 7), (some (6, true))⟩,
 ⟨(some 9), .bin .leq (.t 8) (.c (.int .i64 26)), (some (6, true))⟩,
 ⟨(some 10), .pick (.t 6) (.t 9) (.c (.bool false)), none⟩,
 ⟨(some 2), .mv (.t 10), none⟩])
 .ret))

def c_ins_Calls : CFunc :=
  ⟨1, true, 1, c_ins_Calls_1, [.t 2]⟩

def c_slices_Clone_int_int : CFunc :=
  ⟨1, true, 2, (.seq (.region [
    ⟨(some 2), .mv (.c .nils), none⟩])
  (.seq (.seq (.region [
    ⟨(some 3), .mv (.t 0), none⟩,
    ⟨(some 4), .eqn 1 false (.t 3) (.c .nils), none⟩])
  (.cond (.t 4)
  (.seq (.region [
      ⟨(some 2), .mv (.c .nils), none⟩])
    .ret)
  .skip))
  (.seq (.region [
    ⟨(some 5), .buildS (some 0) 1 0 [(.int .i64 0)] [], none⟩,
    ⟨(some 6), .mv (.t 0), none⟩,
    ⟨(some 7), .app (some 1) 1 8 (.t 5) (.t 6), none⟩,
    ⟨(some 2), .mv (.t 7), none⟩])
  .ret))), [.t 2]⟩

def c_slices_Clone_api_Ins_api_Ins : CFunc :=
  ⟨1, true, 2, (.seq (.region [
    ⟨(some 2), .mv (.c .nils), none⟩])
  (.seq (.seq (.region [
    ⟨(some 3), .mv (.t 0), none⟩,
    ⟨(some 4), .eqn 1 false (.t 3) (.c .nils), none⟩])
  (.cond (.t 4)
  (.seq (.region [
      ⟨(some 2), .mv (.c .nils), none⟩])
    .ret)
  .skip))
  (.seq (.region [
    ⟨(some 5), .buildS (some 0) 9 0 [(.int .i64 0), (.int .i64 0), (.int .i64 0), (.int .i64 0), (.int .i64 0), (.int .i64 0), (.int .i64 0), (.str []), .nils] [], none⟩,
    ⟨(some 6), .mv (.t 0), none⟩,
    ⟨(some 7), .app (some 1) 9 96 (.t 5) (.t 6), none⟩,
    ⟨(some 2), .mv (.t 7), none⟩])
  .ret))), [.t 2]⟩

def c_slices_Clone_api_Row_api_Row : CFunc :=
  ⟨1, true, 2, (.seq (.region [
    ⟨(some 2), .mv (.c .nils), none⟩])
  (.seq (.seq (.region [
    ⟨(some 3), .mv (.t 0), none⟩,
    ⟨(some 4), .eqn 1 false (.t 3) (.c .nils), none⟩])
  (.cond (.t 4)
  (.seq (.region [
      ⟨(some 2), .mv (.c .nils), none⟩])
    .ret)
  .skip))
  (.seq (.region [
    ⟨(some 5), .buildS (some 0) 4 0 [(.int .i64 0), (.int .i64 0), (.int .i64 0), (.str [])] [], none⟩,
    ⟨(some 6), .mv (.t 0), none⟩,
    ⟨(some 7), .app (some 1) 4 40 (.t 5) (.t 6), none⟩,
    ⟨(some 2), .mv (.t 7), none⟩])
  .ret))), [.t 2]⟩

def c_ins_right : CFunc :=
  ⟨2, true, 3, (.seq (.region [
    ⟨(some 2), .box (some 0) (.t 0), none⟩,
    ⟨(some 3), .box (some 1) (.t 1), none⟩,
    ⟨(some 4), .mv (.c (.bool false)), none⟩])
  (.seq (.region [
    ⟨(some 12), .ld true 9 (.t 3), none⟩,
    ⟨(some 13), .call none true 47 [(.t 12)], none⟩,
    ⟨(some 11), .mv (.t 13), none⟩,
    ⟨(some 14), .ext 0 (.t 11), none⟩,
    ⟨(some 15), .ext 1 (.t 11), none⟩,
    ⟨(some 5), .new (some 2) [(.int .i64 0), (.int .i64 0), (.int .i64 0), (.int .i64 0)], none⟩,
    ⟨none, .st 4 (.t 5) (.t 14), none⟩,
    ⟨(some 6), .mv (.t 15), none⟩])
  (.seq (.seq (.region [
    ⟨(some 16), .mv (.t 6), none⟩,
    ⟨(some 17), .un .not (.t 16), none⟩])
  (.cond (.t 17)
  (.seq (.region [
      ⟨(some 4), .mv (.c (.bool false)), none⟩])
    .ret)
  .skip))
  (.seq (.seq (.region [
    ⟨(some 18), .fa 1 (.t 3), none⟩,
    ⟨(some 19), .ld false 1 (.t 18), none⟩,
    ⟨(some 20), .fa 2 (.t 3), none⟩,
    ⟨(some 21), .ld false 1 (.t 20), none⟩,
    ⟨(some 22), .fa 3 (.t 3), none⟩,
    ⟨(some 23), .ld false 1 (.t 22), none⟩,
    ⟨(some 24), .fa 4 (.t 3), none⟩,
    ⟨(some 25), .ld false 1 (.t 24), none⟩,
    ⟨(some 26), .build [(.int .i64 0), (.int .i64 0), (.int .i64 0), (.int .i64 0)] [(0, 1, (.t 19)), (1, 1, (.t 21)), (2, 1, (.t 23)), (3, 1, (.t 25))], none⟩,
    ⟨(some 27), .mv (.c (.int .i64 0)), none⟩])
  (.block 0 (.loop [2, 3, 5, 26, 27] (.seq (.region [
      ⟨(some 28), .bin .lss (.t 27) (.c (.int .i64 4)), none⟩])
    (.seq (.cond (.t 28)
    .skip
    (.exit 0))
    (.seq (.block 1 (.seq (.region [
      ⟨(some 29), .mv (.t 27), none⟩,
      ⟨(some 30), .ixv false 4 1 (.t 26) (.t 27), none⟩,
      ⟨(some 7), .mv (.t 29), none⟩,
      ⟨(some 8), .mv (.t 30), none⟩])
    (.seq (.seq (.region [
      ⟨(some 31), .mv (.t 7), none⟩,
      ⟨(some 32), .ixa 4 1 (.t 5) (.t 31), none⟩,
      ⟨(some 33), .ld false 1 (.t 32), none⟩,
      ⟨(some 34), .bin .lss (.t 33) (.c (.int .i64 0)), none⟩])
    (.cond (.t 34)
    (.exit 1)
    .skip))
    (.seq (.draw [
      ⟨(some 35), .mv (.t 8), none⟩,
      ⟨(some 36), .bin .lss (.t 35) (.c (.int .i64 0)), none⟩,
      ⟨(some 37), .mv (.t 36), none⟩,
      ⟨(some 38), .mv (.t 8), (some (37, false))⟩,
      ⟨(some 39), .fa 0 (.t 2), (some (37, false))⟩,
      ⟨(some 40), .ld false 1 (.t 39), (some (37, false))⟩,
      ⟨(some 41), .len 1 (.t 40), (some (37, false))⟩,
      ⟨(some 42), .bin .geq (.t 38) (.t 41), (some (37, false))⟩,
      ⟨(some 43), .pick (.t 37) (.c (.bool true)) (.t 42), none⟩,
      ⟨(some 44), .mv (.t 43), none⟩,
      ⟨(some 45), .mv (.t 7), (some (44, false))⟩,
      ⟨(some 46), .ixa 4 1 (.t 5) (.t 45), (some (44, false))⟩,
      ⟨(some 47), .ld false 1 (.t 46), (some (44, false))⟩,
      ⟨(some 48), .bin .gtr (.t 47) (.c (.int .i64 0)), (some (44, false))⟩,
      ⟨(some 49), .mv (.t 48), (some (44, false))⟩,
      ⟨(some 50), .fa 0 (.t 2), (some (49, true))⟩,
      ⟨(some 51), .ld false 1 (.t 50), (some (49, true))⟩,
      ⟨(some 52), .mv (.t 8), (some (49, true))⟩,
      ⟨(some 53), .ixs 1 (.t 51) (.t 52), (some (49, true))⟩,
      ⟨(some 54), .ld false 1 (.t 53), (some (49, true))⟩,
      ⟨(some 55), .mv (.t 7), (some (49, true))⟩,
      ⟨(some 56), .ixa 4 1 (.t 5) (.t 55), (some (49, true))⟩,
      ⟨(some 57), .ld false 1 (.t 56), (some (49, true))⟩,
      ⟨(some 58), .bin .neq (.t 54) (.t 57), (some (49, true))⟩,
      ⟨(some 59), .pick (.t 49) (.t 58) (.c (.bool false)), (some (44, false))⟩,
      ⟨(some 60), .pick (.t 44) (.c (.bool true)) (.t 59), none⟩] [])
    (.cond (.t 60)
    (.seq (.region [
        ⟨(some 4), .mv (.c (.bool false)), none⟩])
      .ret)
    .skip)))))
    (.region [
      ⟨(some 61), .bin .add (.t 27) (.c (.int .i64 1)), none⟩,
      ⟨(some 27), .mv (.t 61), none⟩])))))))
  (.seq (.seq (.region [
    ⟨(some 62), .fa 8 (.t 3), none⟩,
    ⟨(some 63), .ld false 1 (.t 62), none⟩,
    ⟨(some 64), .len 1 (.t 63), none⟩,
    ⟨(some 65), .mv (.c (.int .i64 0)), none⟩])
  (.block 2 (.loop [2, 3, 63, 64, 65] (.seq (.region [
      ⟨(some 66), .bin .lss (.t 65) (.t 64), none⟩])
    (.seq (.cond (.t 66)
    .skip
    (.exit 2))
    (.seq (.block 3 (.seq (.region [
      ⟨(some 67), .mv (.t 65), none⟩,
      ⟨(some 68), .ixs 1 (.t 63) (.t 65), none⟩,
      ⟨(some 69), .ld false 1 (.t 68), none⟩,
      ⟨(some 9), .mv (.t 67), none⟩,
      ⟨(some 10), .mv (.t 69), none⟩])
    (.seq (.seq (.region [
      ⟨(some 70), .ld true 9 (.t 3), none⟩,
      ⟨(some 71), .call none true 17 [(.t 70)], none⟩,
      ⟨(some 72), .un .not (.t 71), none⟩])
    (.cond (.t 72)
    (.exit 2)
    .skip))
    (.seq (.region [
      ⟨(some 73), .mv (.t 10), none⟩,
      ⟨(some 74), .bin .lss (.t 73) (.c (.int .i64 0)), none⟩,
      ⟨(some 75), .mv (.t 74), none⟩,
      ⟨(some 76), .mv (.t 10), (some (75, false))⟩,
      ⟨(some 77), .fa 0 (.t 2), (some (75, false))⟩,
      ⟨(some 78), .ld false 1 (.t 77), (some (75, false))⟩,
      ⟨(some 79), .len 1 (.t 78), (some (75, false))⟩,
      ⟨(some 80), .bin .geq (.t 76) (.t 79), (some (75, false))⟩,
      ⟨(some 81), .pick (.t 75) (.c (.bool true)) (.t 80), none⟩,
      ⟨(some 82), .mv (.t 81), none⟩,
      ⟨(some 83), .mv (.t 9), (some (82, false))⟩,
      ⟨(some 84), .bin .eql (.t 83) (.c (.int .i64 0)), (some (82, false))⟩,
      ⟨(some 85), .mv (.t 84), (some (82, false))⟩,
      ⟨(some 86), .fa 0 (.t 3), (some (85, true))⟩,
      ⟨(some 87), .ld false 1 (.t 86), (some (85, true))⟩,
      ⟨(some 88), .bin .eql (.t 87) (.c (.int .i64 24)), (some (85, true))⟩,
      ⟨(some 89), .mv (.t 88), (some (85, true))⟩,
      ⟨(some 90), .fa 0 (.t 3), (some (89, false))⟩,
      ⟨(some 91), .ld false 1 (.t 90), (some (89, false))⟩,
      ⟨(some 92), .bin .eql (.t 91) (.c (.int .i64 25)), (some (89, false))⟩,
      ⟨(some 93), .pick (.t 89) (.c (.bool true)) (.t 92), (some (85, true))⟩,
      ⟨(some 94), .pick (.t 85) (.t 93) (.c (.bool false)), (some (82, false))⟩,
      ⟨(some 95), .mv (.t 94), (some (82, false))⟩,
      ⟨(some 96), .fa 0 (.t 2), (some (95, true))⟩,
      ⟨(some 97), .ld false 1 (.t 96), (some (95, true))⟩,
      ⟨(some 98), .mv (.t 10), (some (95, true))⟩,
      ⟨(some 99), .ixs 1 (.t 97) (.t 98), (some (95, true))⟩,
      ⟨(some 100), .ld false 1 (.t 99), (some (95, true))⟩,
      ⟨(some 101), .bin .neq (.t 100) (.c (.int .i64 3)), (some (95, true))⟩,
      ⟨(some 102), .pick (.t 95) (.t 101) (.c (.bool false)), (some (82, false))⟩,
      ⟨(some 103), .pick (.t 82) (.c (.bool true)) (.t 102), none⟩])
    (.cond (.t 103)
    (.seq (.region [
        ⟨(some 4), .mv (.c (.bool false)), none⟩])
      .ret)
    .skip)))))
    (.region [
      ⟨(some 104), .bin .add (.t 65) (.c (.int .i64 1)), none⟩,
      ⟨(some 65), .mv (.t 104), none⟩])))))))
  (.seq (.seq (.region [
    ⟨(some 105), .fa 0 (.t 3), none⟩,
    ⟨(some 106), .ld false 1 (.t 105), none⟩])
  (.block 4 (.seq (.region [
    ⟨(some 108), .bin .eql (.t 106) (.c (.int .i64 1)), none⟩,
    ⟨(some 107), .mv (.t 108), none⟩])
  (.cond (.t 107)
  (.seq (.region [
      ⟨(some 109), .fa 0 (.t 2), none⟩,
      ⟨(some 110), .ld false 1 (.t 109), none⟩,
      ⟨(some 111), .fa 1 (.t 3), none⟩,
      ⟨(some 112), .ld false 1 (.t 111), none⟩,
      ⟨(some 113), .ixs 1 (.t 110) (.t 112), none⟩,
      ⟨(some 114), .ld false 1 (.t 113), none⟩,
      ⟨(some 115), .bin .neq (.t 114) (.c (.int .i64 3)), none⟩,
      ⟨(some 116), .mv (.t 115), none⟩,
      ⟨(some 117), .fa 0 (.t 2), (some (116, true))⟩,
      ⟨(some 118), .ld false 1 (.t 117), (some (116, true))⟩,
      ⟨(some 119), .fa 1 (.t 3), (some (116, true))⟩,
      ⟨(some 120), .ld false 1 (.t 119), (some (116, true))⟩,
      ⟨(some 121), .ixs 1 (.t 118) (.t 120), (some (116, true))⟩,
      ⟨(some 122), .ld false 1 (.t 121), (some (116, true))⟩,
      ⟨(some 123), .bin .eql (.t 122) (.c (.int .i64 2)), (some (116, true))⟩,
      ⟨(some 124), .mv (.t 123), (some (116, true))⟩,
      ⟨(some 125), .fa 5 (.t 3), (some (124, false))⟩,
      ⟨(some 126), .ld false 1 (.t 125), (some (124, false))⟩,
      ⟨(some 127), .fa 5 (.t 3), (some (124, false))⟩,
      ⟨(some 128), .ld false 1 (.t 127), (some (124, false))⟩,
      ⟨(some 129), .cvi .i32 (.t 128), (some (124, false))⟩,
      ⟨(some 130), .cvi .i64 (.t 129), (some (124, false))⟩,
      ⟨(some 131), .bin .eql (.t 126) (.t 130), (some (124, false))⟩,
      ⟨(some 132), .pick (.t 124) (.c (.bool true)) (.t 131), (some (116, true))⟩,
      ⟨(some 133), .pick (.t 116) (.t 132) (.c (.bool false)), none⟩,
      ⟨(some 4), .mv (.t 133), none⟩])
    .ret)
  (.seq (.region [
      ⟨(some 135), .bin .eql (.t 106) (.c (.int .i64 4)), none⟩,
      ⟨(some 134), .mv (.t 135), none⟩])
    (.cond (.t 134)
    (.seq (.draw [
        ⟨(some 136), .fa 0 (.t 2), none⟩,
        ⟨(some 137), .ld false 1 (.t 136), none⟩,
        ⟨(some 138), .fa 1 (.t 3), none⟩,
        ⟨(some 139), .ld false 1 (.t 138), none⟩,
        ⟨(some 140), .ixs 1 (.t 137) (.t 139), none⟩,
        ⟨(some 141), .ld false 1 (.t 140), none⟩,
        ⟨(some 142), .fa 0 (.t 2), none⟩,
        ⟨(some 143), .ld false 1 (.t 142), none⟩,
        ⟨(some 144), .fa 2 (.t 3), none⟩,
        ⟨(some 145), .ld false 1 (.t 144), none⟩,
        ⟨(some 146), .ixs 1 (.t 143) (.t 145), none⟩,
        ⟨(some 147), .ld false 1 (.t 146), none⟩,
        ⟨(some 148), .bin .eql (.t 141) (.t 147), none⟩,
        ⟨(some 4), .mv (.t 148), none⟩] [])
      .ret)
    (.seq (.region [
        ⟨(some 150), .bin .eql (.t 106) (.c (.int .i64 7)), none⟩,
        ⟨(some 149), .mv (.t 150), none⟩])
      (.cond (.t 149)
      (.seq (.region [
          ⟨(some 151), .fa 0 (.t 2), none⟩,
          ⟨(some 152), .ld false 1 (.t 151), none⟩,
          ⟨(some 153), .fa 2 (.t 3), none⟩,
          ⟨(some 154), .ld false 1 (.t 153), none⟩,
          ⟨(some 155), .ixs 1 (.t 152) (.t 154), none⟩,
          ⟨(some 156), .ld false 1 (.t 155), none⟩,
          ⟨(some 157), .bin .neq (.t 156) (.c (.int .i64 3)), none⟩,
          ⟨(some 4), .mv (.t 157), none⟩])
        .ret)
      (.seq (.region [
          ⟨(some 159), .bin .eql (.t 106) (.c (.int .i64 30)), none⟩,
          ⟨(some 158), .mv (.t 159), none⟩])
        (.cond (.t 158)
        (.seq (.draw [
            ⟨(some 160), .fa 2 (.t 3), none⟩,
            ⟨(some 161), .ld false 1 (.t 160), none⟩,
            ⟨(some 162), .bin .eql (.t 161) (.c (.int .i64 (-1))), none⟩,
            ⟨(some 163), .fa 2 (.t 2), none⟩,
            ⟨(some 164), .ld false 1 (.t 163), none⟩,
            ⟨(some 165), .bin .eql (.t 164) (.c (.int .i64 0)), none⟩,
            ⟨(some 166), .eqb false (.t 162) (.t 165), none⟩,
            ⟨(some 167), .mv (.t 166), none⟩,
            ⟨(some 168), .fa 2 (.t 3), (some (167, true))⟩,
            ⟨(some 169), .ld false 1 (.t 168), (some (167, true))⟩,
            ⟨(some 170), .bin .eql (.t 169) (.c (.int .i64 (-1))), (some (167, true))⟩,
            ⟨(some 171), .mv (.t 170), (some (167, true))⟩,
            ⟨(some 172), .fa 0 (.t 2), (some (171, false))⟩,
            ⟨(some 173), .ld false 1 (.t 172), (some (171, false))⟩,
            ⟨(some 174), .fa 2 (.t 3), (some (171, false))⟩,
            ⟨(some 175), .ld false 1 (.t 174), (some (171, false))⟩,
            ⟨(some 176), .ixs 1 (.t 173) (.t 175), (some (171, false))⟩,
            ⟨(some 177), .ld false 1 (.t 176), (some (171, false))⟩,
            ⟨(some 178), .fa 2 (.t 2), (some (171, false))⟩,
            ⟨(some 179), .ld false 1 (.t 178), (some (171, false))⟩,
            ⟨(some 180), .bin .eql (.t 177) (.t 179), (some (171, false))⟩,
            ⟨(some 181), .pick (.t 171) (.c (.bool true)) (.t 180), (some (167, true))⟩,
            ⟨(some 182), .pick (.t 167) (.t 181) (.c (.bool false)), none⟩,
            ⟨(some 4), .mv (.t 182), none⟩] [])
          .ret)
        .skip))))))))))
  (.seq (.region [
    ⟨(some 183), .ld true 9 (.t 3), none⟩,
    ⟨(some 184), .call none true 22 [(.t 183)], none⟩,
    ⟨(some 185), .un .not (.t 184), none⟩,
    ⟨(some 186), .mv (.t 185), none⟩,
    ⟨(some 187), .fa 6 (.t 3), (some (186, false))⟩,
    ⟨(some 188), .ld false 1 (.t 187), (some (186, false))⟩,
    ⟨(some 189), .bin .geq (.t 188) (.c (.int .i64 0)), (some (186, false))⟩,
    ⟨(some 190), .mv (.t 189), (some (186, false))⟩,
    ⟨(some 191), .fa 6 (.t 3), (some (190, true))⟩,
    ⟨(some 192), .ld false 1 (.t 191), (some (190, true))⟩,
    ⟨(some 193), .fa 3 (.t 2), (some (190, true))⟩,
    ⟨(some 194), .ld false 1 (.t 193), (some (190, true))⟩,
    ⟨(some 195), .len 1 (.t 194), (some (190, true))⟩,
    ⟨(some 196), .bin .lss (.t 192) (.t 195), (some (190, true))⟩,
    ⟨(some 197), .pick (.t 190) (.t 196) (.c (.bool false)), (some (186, false))⟩,
    ⟨(some 198), .pick (.t 186) (.c (.bool true)) (.t 197), none⟩,
    ⟨(some 4), .mv (.t 198), none⟩])
  .ret))))))), [.t 4]⟩

def c_ins_kinds : CFunc :=
  ⟨1, true, 2, (.seq (.region [
    ⟨(some 1), .box (some 0) (.t 0), none⟩,
    ⟨(some 2), .new (some 1) [(.int .i64 0), (.int .i64 0), (.int .i64 0), (.int .i64 0)], none⟩,
    ⟨(some 3), .mv (.c (.bool false)), none⟩])
  (.seq (.seq (.region [
    ⟨(some 10), .fa 0 (.t 1), none⟩,
    ⟨(some 11), .ld false 1 (.t 10), none⟩])
  (.block 0 (.seq (.seq (.region [
    ⟨(some 13), .bin .eql (.t 11) (.c (.int .i64 1)), none⟩,
    ⟨(some 12), .mv (.t 13), none⟩])
  (.cond (.t 12)
  .skip
  (.region [
      ⟨(some 14), .bin .eql (.t 11) (.c (.int .i64 18)), none⟩,
      ⟨(some 12), .mv (.t 14), none⟩])))
  (.cond (.t 12)
  (.seq (.region [
      ⟨(some 15), .build [(.int .i64 0), (.int .i64 0), (.int .i64 0), (.int .i64 0)] [(0, 1, (.c (.int .i64 0))), (1, 1, (.c (.int .i64 (-1)))), (2, 1, (.c (.int .i64 (-1)))), (3, 1, (.c (.int .i64 (-1))))], none⟩,
      ⟨none, .st 4 (.t 2) (.t 15), none⟩,
      ⟨(some 3), .mv (.c (.bool true)), none⟩])
    .ret)
  (.seq (.seq (.region [
      ⟨(some 17), .bin .eql (.t 11) (.c (.int .i64 2)), none⟩,
      ⟨(some 16), .mv (.t 17), none⟩])
    (.cond (.t 16)
    .skip
    (.seq (.region [
        ⟨(some 18), .bin .eql (.t 11) (.c (.int .i64 3)), none⟩,
        ⟨(some 16), .mv (.t 18), none⟩])
      (.cond (.t 16)
      .skip
      (.seq (.region [
          ⟨(some 19), .bin .eql (.t 11) (.c (.int .i64 20)), none⟩,
          ⟨(some 16), .mv (.t 19), none⟩])
        (.cond (.t 16)
        .skip
        (.region [
            ⟨(some 20), .bin .eql (.t 11) (.c (.int .i64 32)), none⟩,
            ⟨(some 16), .mv (.t 20), none⟩])))))))
    (.cond (.t 16)
    (.seq (.region [
        ⟨(some 21), .build [(.int .i64 0), (.int .i64 0), (.int .i64 0), (.int .i64 0)] [(0, 1, (.c (.int .i64 3))), (1, 1, (.c (.int .i64 (-1)))), (2, 1, (.c (.int .i64 (-1)))), (3, 1, (.c (.int .i64 (-1))))], none⟩,
        ⟨none, .st 4 (.t 2) (.t 21), none⟩,
        ⟨(some 3), .mv (.c (.bool true)), none⟩])
      .ret)
    (.seq (.region [
        ⟨(some 23), .bin .eql (.t 11) (.c (.int .i64 4)), none⟩,
        ⟨(some 22), .mv (.t 23), none⟩])
      (.cond (.t 22)
      (.seq (.region [
          ⟨(some 24), .build [(.int .i64 0), (.int .i64 0), (.int .i64 0), (.int .i64 0)] [(0, 1, (.c (.int .i64 0))), (1, 1, (.c (.int .i64 0))), (2, 1, (.c (.int .i64 (-1)))), (3, 1, (.c (.int .i64 (-1))))], none⟩,
          ⟨none, .st 4 (.t 2) (.t 24), none⟩,
          ⟨(some 3), .mv (.c (.bool true)), none⟩])
        .ret)
      (.seq (.region [
          ⟨(some 26), .bin .eql (.t 11) (.c (.int .i64 5)), none⟩,
          ⟨(some 25), .mv (.t 26), none⟩])
        (.cond (.t 25)
        (.seq (.region [
            ⟨(some 28), .fa 5 (.t 1), none⟩,
            ⟨(some 29), .ld false 1 (.t 28), none⟩,
            ⟨(some 30), .call none true 50 [(.t 29)], none⟩,
            ⟨(some 27), .mv (.t 30), none⟩,
            ⟨(some 31), .ext 0 (.t 27), none⟩,
            ⟨(some 32), .ext 1 (.t 27), none⟩,
            ⟨(some 33), .ext 2 (.t 27), none⟩,
            ⟨(some 4), .mv (.t 31), none⟩,
            ⟨(some 5), .mv (.t 32), none⟩,
            ⟨(some 6), .mv (.t 33), none⟩])
          (.seq (.region [
            ⟨(some 34), .mv (.t 6), none⟩,
            ⟨(some 35), .mv (.t 4), none⟩,
            ⟨(some 36), .mv (.t 5), none⟩,
            ⟨(some 37), .build [(.int .i64 0), (.int .i64 0), (.int .i64 0), (.int .i64 0)] [(0, 1, (.t 34)), (1, 1, (.t 35)), (2, 1, (.t 36)), (3, 1, (.c (.int .i64 (-1))))], none⟩,
            ⟨(some 38), .fa 5 (.t 1), none⟩,
            ⟨(some 39), .ld false 1 (.t 38), none⟩,
            ⟨(some 40), .fa 5 (.t 1), none⟩,
            ⟨(some 41), .ld false 1 (.t 40), none⟩,
            ⟨(some 42), .bin .eql (.t 39) (.t 41), none⟩,
            ⟨(some 43), .mv (.t 42), none⟩,
            ⟨(some 44), .mv (.t 5), (some (43, true))⟩,
            ⟨(some 45), .bin .neq (.t 44) (.c (.int .i64 0)), (some (43, true))⟩,
            ⟨(some 46), .pick (.t 43) (.t 45) (.c (.bool false)), none⟩,
            ⟨none, .st 4 (.t 2) (.t 37), none⟩,
            ⟨(some 3), .mv (.t 46), none⟩])
          .ret))
        (.seq (.region [
            ⟨(some 48), .bin .eql (.t 11) (.c (.int .i64 6)), none⟩,
            ⟨(some 47), .mv (.t 48), none⟩])
          (.cond (.t 47)
          (.seq (.region [
              ⟨(some 50), .fa 5 (.t 1), none⟩,
              ⟨(some 51), .ld false 1 (.t 50), none⟩,
              ⟨(some 52), .call none true 50 [(.t 51)], none⟩,
              ⟨(some 49), .mv (.t 52), none⟩,
              ⟨(some 53), .ext 0 (.t 49), none⟩,
              ⟨(some 54), .ext 1 (.t 49), none⟩,
              ⟨(some 55), .ext 2 (.t 49), none⟩,
              ⟨(some 7), .mv (.t 53), none⟩,
              ⟨(some 8), .mv (.t 54), none⟩,
              ⟨(some 9), .mv (.t 55), none⟩])
            (.seq (.region [
              ⟨(some 56), .mv (.t 9), none⟩,
              ⟨(some 57), .mv (.t 7), none⟩,
              ⟨(some 58), .build [(.int .i64 0), (.int .i64 0), (.int .i64 0), (.int .i64 0)] [(0, 1, (.t 56)), (1, 1, (.t 57)), (2, 1, (.c (.int .i64 (-1)))), (3, 1, (.c (.int .i64 (-1))))], none⟩,
              ⟨(some 59), .mv (.t 7), none⟩,
              ⟨(some 60), .bin .neq (.t 59) (.c (.int .i64 0)), none⟩,
              ⟨(some 61), .mv (.t 60), none⟩,
              ⟨(some 62), .mv (.t 8), (some (61, true))⟩,
              ⟨(some 63), .bin .eql (.t 62) (.c (.int .i64 0)), (some (61, true))⟩,
              ⟨(some 64), .pick (.t 61) (.t 63) (.c (.bool false)), none⟩,
              ⟨none, .st 4 (.t 2) (.t 58), none⟩,
              ⟨(some 3), .mv (.t 64), none⟩])
            .ret))
          (.seq (.region [
              ⟨(some 66), .bin .eql (.t 11) (.c (.int .i64 7)), none⟩,
              ⟨(some 65), .mv (.t 66), none⟩])
            (.cond (.t 65)
            (.seq (.region [
                ⟨(some 67), .build [(.int .i64 0), (.int .i64 0), (.int .i64 0), (.int .i64 0)] [(0, 1, (.c (.int .i64 (-1)))), (1, 1, (.c (.int .i64 0))), (2, 1, (.c (.int .i64 (-1)))), (3, 1, (.c (.int .i64 (-1))))], none⟩,
                ⟨none, .st 4 (.t 2) (.t 67), none⟩,
                ⟨(some 3), .mv (.c (.bool true)), none⟩])
              .ret)
            (.seq (.seq (.region [
                ⟨(some 69), .bin .eql (.t 11) (.c (.int .i64 8)), none⟩,
                ⟨(some 68), .mv (.t 69), none⟩])
              (.cond (.t 68)
              .skip
              (.region [
                  ⟨(some 70), .bin .eql (.t 11) (.c (.int .i64 31)), none⟩,
                  ⟨(some 68), .mv (.t 70), none⟩])))
              (.cond (.t 68)
              (.seq (.region [
                  ⟨(some 71), .build [(.int .i64 0), (.int .i64 0), (.int .i64 0), (.int .i64 0)] [(0, 1, (.c (.int .i64 (-1)))), (1, 1, (.c (.int .i64 3))), (2, 1, (.c (.int .i64 (-1)))), (3, 1, (.c (.int .i64 (-1))))], none⟩,
                  ⟨none, .st 4 (.t 2) (.t 71), none⟩,
                  ⟨(some 3), .mv (.c (.bool true)), none⟩])
                .ret)
              (.seq (.region [
                  ⟨(some 73), .bin .eql (.t 11) (.c (.int .i64 12)), none⟩,
                  ⟨(some 72), .mv (.t 73), none⟩])
                (.cond (.t 72)
                (.seq (.region [
                    ⟨(some 74), .build [(.int .i64 0), (.int .i64 0), (.int .i64 0), (.int .i64 0)] [(0, 1, (.c (.int .i64 (-1)))), (1, 1, (.c (.int .i64 3))), (2, 1, (.c (.int .i64 (-1)))), (3, 1, (.c (.int .i64 (-1))))], none⟩,
                    ⟨(some 75), .fa 7 (.t 1), none⟩,
                    ⟨(some 76), .ld false 1 (.t 75), none⟩,
                    ⟨(some 77), .call none true 37 [(.t 76)], none⟩,
                    ⟨none, .st 4 (.t 2) (.t 74), none⟩,
                    ⟨(some 3), .mv (.t 77), none⟩])
                  .ret)
                (.seq (.region [
                    ⟨(some 79), .bin .eql (.t 11) (.c (.int .i64 22)), none⟩,
                    ⟨(some 78), .mv (.t 79), none⟩])
                  (.cond (.t 78)
                  (.seq (.region [
                      ⟨(some 80), .build [(.int .i64 0), (.int .i64 0), (.int .i64 0), (.int .i64 0)] [(0, 1, (.c (.int .i64 1))), (1, 1, (.c (.int .i64 3))), (2, 1, (.c (.int .i64 (-1)))), (3, 1, (.c (.int .i64 (-1))))], none⟩,
                      ⟨(some 81), .fa 7 (.t 1), none⟩,
                      ⟨(some 82), .ld false 1 (.t 81), none⟩,
                      ⟨(some 83), .call none true 37 [(.t 82)], none⟩,
                      ⟨none, .st 4 (.t 2) (.t 80), none⟩,
                      ⟨(some 3), .mv (.t 83), none⟩])
                    .ret)
                  (.seq (.region [
                      ⟨(some 85), .bin .eql (.t 11) (.c (.int .i64 9)), none⟩,
                      ⟨(some 84), .mv (.t 85), none⟩])
                    (.cond (.t 84)
                    (.seq (.region [
                        ⟨(some 86), .build [(.int .i64 0), (.int .i64 0), (.int .i64 0), (.int .i64 0)] [(0, 1, (.c (.int .i64 (-1)))), (1, 1, (.c (.int .i64 3))), (2, 1, (.c (.int .i64 1))), (3, 1, (.c (.int .i64 (-1))))], none⟩,
                        ⟨none, .st 4 (.t 2) (.t 86), none⟩,
                        ⟨(some 3), .mv (.c (.bool true)), none⟩])
                      .ret)
                    (.seq (.region [
                        ⟨(some 88), .bin .eql (.t 11) (.c (.int .i64 10)), none⟩,
                        ⟨(some 87), .mv (.t 88), none⟩])
                      (.cond (.t 87)
                      (.seq (.region [
                          ⟨(some 89), .build [(.int .i64 0), (.int .i64 0), (.int .i64 0), (.int .i64 0)] [(0, 1, (.c (.int .i64 (-1)))), (1, 1, (.c (.int .i64 1))), (2, 1, (.c (.int .i64 (-1)))), (3, 1, (.c (.int .i64 (-1))))], none⟩,
                          ⟨none, .st 4 (.t 2) (.t 89), none⟩,
                          ⟨(some 3), .mv (.c (.bool true)), none⟩])
                        .ret)
                      (.seq (.region [
                          ⟨(some 91), .bin .eql (.t 11) (.c (.int .i64 11)), none⟩,
                          ⟨(some 90), .mv (.t 91), none⟩])
                        (.cond (.t 90)
                        (.seq (.region [
                            ⟨(some 92), .build [(.int .i64 0), (.int .i64 0), (.int .i64 0), (.int .i64 0)] [(0, 1, (.c (.int .i64 (-1)))), (1, 1, (.c (.int .i64 3))), (2, 1, (.c (.int .i64 3))), (3, 1, (.c (.int .i64 (-1))))], none⟩,
                            ⟨none, .st 4 (.t 2) (.t 92), none⟩,
                            ⟨(some 3), .mv (.c (.bool true)), none⟩])
                          .ret)
                        (.seq (.region [
                            ⟨(some 94), .bin .eql (.t 11) (.c (.int .i64 13)), none⟩,
                            ⟨(some 93), .mv (.t 94), none⟩])
                          (.cond (.t 93)
                          (.seq (.region [
                              ⟨(some 95), .build [(.int .i64 0), (.int .i64 0), (.int .i64 0), (.int .i64 0)] [(0, 1, (.c (.int .i64 0))), (1, 1, (.c (.int .i64 3))), (2, 1, (.c (.int .i64 1))), (3, 1, (.c (.int .i64 (-1))))], none⟩,
                              ⟨none, .st 4 (.t 2) (.t 95), none⟩,
                              ⟨(some 3), .mv (.c (.bool true)), none⟩])
                            .ret)
                          (.seq (.region [
                              ⟨(some 97), .bin .eql (.t 11) (.c (.int .i64 14)), none⟩,
                              ⟨(some 96), .mv (.t 97), none⟩])
                            (.cond (.t 96)
                            (.seq (.region [
                                ⟨(some 98), .build [(.int .i64 0), (.int .i64 0), (.int .i64 0), (.int .i64 0)] [(0, 1, (.c (.int .i64 (-1)))), (1, 1, (.c (.int .i64 3))), (2, 1, (.c (.int .i64 1))), (3, 1, (.c (.int .i64 0)))], none⟩,
                                ⟨none, .st 4 (.t 2) (.t 98), none⟩,
                                ⟨(some 3), .mv (.c (.bool true)), none⟩])
                              .ret)
                            (.seq (.region [
                                ⟨(some 100), .bin .eql (.t 11) (.c (.int .i64 15)), none⟩,
                                ⟨(some 99), .mv (.t 100), none⟩])
                              (.cond (.t 99)
                              (.seq (.region [
                                  ⟨(some 101), .build [(.int .i64 0), (.int .i64 0), (.int .i64 0), (.int .i64 0)] [(0, 1, (.c (.int .i64 1))), (1, 1, (.c (.int .i64 3))), (2, 1, (.c (.int .i64 (-1)))), (3, 1, (.c (.int .i64 (-1))))], none⟩,
                                  ⟨none, .st 4 (.t 2) (.t 101), none⟩,
                                  ⟨(some 3), .mv (.c (.bool true)), none⟩])
                                .ret)
                              (.seq (.region [
                                  ⟨(some 103), .bin .eql (.t 11) (.c (.int .i64 16)), none⟩,
                                  ⟨(some 102), .mv (.t 103), none⟩])
                                (.cond (.t 102)
                                (.seq (.draw [
                                    ⟨(some 104), .build [(.int .i64 0), (.int .i64 0), (.int .i64 0), (.int .i64 0)] [(0, 1, (.c (.int .i64 0))), (1, 1, (.c (.int .i64 3))), (2, 1, (.c (.int .i64 (-1)))), (3, 1, (.c (.int .i64 (-1))))], none⟩,
                                    ⟨(some 105), .fa 5 (.t 1), none⟩,
                                    ⟨(some 106), .ld false 1 (.t 105), none⟩,
                                    ⟨(some 107), .bin .geq (.t 106) (.c (.int .i64 0)), none⟩,
                                    ⟨none, .st 4 (.t 2) (.t 104), none⟩,
                                    ⟨(some 3), .mv (.t 107), none⟩] [(2, 4)])
                                  .ret)
                                (.seq (.region [
                                    ⟨(some 109), .bin .eql (.t 11) (.c (.int .i64 17)), none⟩,
                                    ⟨(some 108), .mv (.t 109), none⟩])
                                  (.cond (.t 108)
                                  (.seq (.draw [
                                      ⟨(some 110), .build [(.int .i64 0), (.int .i64 0), (.int .i64 0), (.int .i64 0)] [(0, 1, (.c (.int .i64 (-1)))), (1, 1, (.c (.int .i64 3))), (2, 1, (.c (.int .i64 0))), (3, 1, (.c (.int .i64 (-1))))], none⟩,
                                      ⟨(some 111), .fa 5 (.t 1), none⟩,
                                      ⟨(some 112), .ld false 1 (.t 111), none⟩,
                                      ⟨(some 113), .bin .geq (.t 112) (.c (.int .i64 0)), none⟩,
                                      ⟨none, .st 4 (.t 2) (.t 110), none⟩,
                                      ⟨(some 3), .mv (.t 113), none⟩] [(2, 4)])
                                    .ret)
                                  (.seq (.region [
                                      ⟨(some 115), .bin .eql (.t 11) (.c (.int .i64 19)), none⟩,
                                      ⟨(some 114), .mv (.t 115), none⟩])
                                    (.cond (.t 114)
                                    (.seq (.region [
                                        ⟨(some 116), .build [(.int .i64 0), (.int .i64 0), (.int .i64 0), (.int .i64 0)] [(0, 1, (.c (.int .i64 (-1)))), (1, 1, (.c (.int .i64 0))), (2, 1, (.c (.int .i64 (-1)))), (3, 1, (.c (.int .i64 (-1))))], none⟩,
                                        ⟨none, .st 4 (.t 2) (.t 116), none⟩,
                                        ⟨(some 3), .mv (.c (.bool true)), none⟩])
                                      .ret)
                                    (.seq (.region [
                                        ⟨(some 118), .bin .eql (.t 11) (.c (.int .i64 21)), none⟩,
                                        ⟨(some 117), .mv (.t 118), none⟩])
                                      (.cond (.t 117)
                                      (.seq (.region [
                                          ⟨(some 119), .build [(.int .i64 0), (.int .i64 0), (.int .i64 0), (.int .i64 0)] [(0, 1, (.c (.int .i64 3))), (1, 1, (.c (.int .i64 1))), (2, 1, (.c (.int .i64 (-1)))), (3, 1, (.c (.int .i64 (-1))))], none⟩,
                                          ⟨(some 120), .fa 7 (.t 1), none⟩,
                                          ⟨(some 121), .ld false 1 (.t 120), none⟩,
                                          ⟨(some 122), .call none true 37 [(.t 121)], none⟩,
                                          ⟨none, .st 4 (.t 2) (.t 119), none⟩,
                                          ⟨(some 3), .mv (.t 122), none⟩])
                                        .ret)
                                      (.seq (.region [
                                          ⟨(some 124), .bin .eql (.t 11) (.c (.int .i64 28)), none⟩,
                                          ⟨(some 123), .mv (.t 124), none⟩])
                                        (.cond (.t 123)
                                        (.seq (.draw [
                                            ⟨(some 125), .build [(.int .i64 0), (.int .i64 0), (.int .i64 0), (.int .i64 0)] [(0, 1, (.c (.int .i64 (-1)))), (1, 1, (.c (.int .i64 1))), (2, 1, (.c (.int .i64 1))), (3, 1, (.c (.int .i64 (-1))))], none⟩,
                                            ⟨(some 126), .fa 5 (.t 1), none⟩,
                                            ⟨(some 127), .ld false 1 (.t 126), none⟩,
                                            ⟨(some 128), .bin .geq (.t 127) (.c (.int .i64 0)), none⟩,
                                            ⟨(some 129), .mv (.t 128), none⟩,
                                            ⟨(some 130), .fa 5 (.t 1), (some (129, true))⟩,
                                            ⟨(some 131), .ld false 1 (.t 130), (some (129, true))⟩,
                                            ⟨(some 132), .bin .leq (.t 131) (.c (.int .i64 5)), (some (129, true))⟩,
                                            ⟨(some 133), .pick (.t 129) (.t 132) (.c (.bool false)), none⟩,
                                            ⟨none, .st 4 (.t 2) (.t 125), none⟩,
                                            ⟨(some 3), .mv (.t 133), none⟩] [(6, 9)])
                                          .ret)
                                        (.seq (.seq (.region [
                                            ⟨(some 135), .bin .eql (.t 11) (.c (.int .i64 27)), none⟩,
                                            ⟨(some 134), .mv (.t 135), none⟩])
                                          (.cond (.t 134)
                                          .skip
                                          (.region [
                                              ⟨(some 136), .bin .eql (.t 11) (.c (.int .i64 33)), none⟩,
                                              ⟨(some 134), .mv (.t 136), none⟩])))
                                          (.cond (.t 134)
                                          (.seq (.region [
                                              ⟨(some 137), .build [(.int .i64 0), (.int .i64 0), (.int .i64 0), (.int .i64 0)] [(0, 1, (.c (.int .i64 (-1)))), (1, 1, (.c (.int .i64 (-1)))), (2, 1, (.c (.int .i64 (-1)))), (3, 1, (.c (.int .i64 (-1))))], none⟩,
                                              ⟨none, .st 4 (.t 2) (.t 137), none⟩,
                                              ⟨(some 3), .mv (.c (.bool true)), none⟩])
                                            .ret)
                                          .skip))))))))))))))))))))))))))))))))))))))))))))
  (.seq (.region [
    ⟨(some 138), .ld true 9 (.t 1), none⟩,
    ⟨(some 139), .call none true 51 [(.t 138)], none⟩,
    ⟨(some 140), .ext 0 (.t 139), none⟩,
    ⟨(some 141), .ext 1 (.t 139), none⟩,
    ⟨none, .st 4 (.t 2) (.t 140), none⟩,
    ⟨(some 3), .mv (.t 141), none⟩])
  .ret))), [.cell 2 true 4, .t 3]⟩

def c_num_Kinds : CFunc :=
  ⟨1, true, 0, (.seq (.region [
    ⟨(some 2), .mv (.c (.int .i64 0)), none⟩,
    ⟨(some 3), .mv (.c (.int .i64 0)), none⟩,
    ⟨(some 4), .mv (.c (.int .i64 0)), none⟩])
  (.seq (.seq (.region [
    ⟨(some 5), .mv (.t 0), none⟩])
  (.block 0 (.seq (.seq (.region [
    ⟨(some 7), .bin .eql (.t 5) (.c (.int .i64 96)), none⟩,
    ⟨(some 6), .mv (.t 7), none⟩])
  (.cond (.t 6)
  .skip
  (.seq (.region [
      ⟨(some 8), .bin .eql (.t 5) (.c (.int .i64 100)), none⟩,
      ⟨(some 6), .mv (.t 8), none⟩])
    (.cond (.t 6)
    .skip
    (.seq (.region [
        ⟨(some 9), .bin .eql (.t 5) (.c (.int .i64 104)), none⟩,
        ⟨(some 6), .mv (.t 9), none⟩])
      (.cond (.t 6)
      .skip
      (.seq (.region [
          ⟨(some 10), .bin .eql (.t 5) (.c (.int .i64 108)), none⟩,
          ⟨(some 6), .mv (.t 10), none⟩])
        (.cond (.t 6)
        .skip
        (.seq (.region [
            ⟨(some 11), .bin .eql (.t 5) (.c (.int .i64 112)), none⟩,
            ⟨(some 6), .mv (.t 11), none⟩])
          (.cond (.t 6)
          .skip
          (.seq (.region [
              ⟨(some 12), .bin .eql (.t 5) (.c (.int .i64 120)), none⟩,
              ⟨(some 6), .mv (.t 12), none⟩])
            (.cond (.t 6)
            .skip
            (.seq (.region [
                ⟨(some 13), .bin .eql (.t 5) (.c (.int .i64 122)), none⟩,
                ⟨(some 6), .mv (.t 13), none⟩])
              (.cond (.t 6)
              .skip
              (.seq (.region [
                  ⟨(some 14), .bin .eql (.t 5) (.c (.int .i64 124)), none⟩,
                  ⟨(some 6), .mv (.t 14), none⟩])
                (.cond (.t 6)
                .skip
                (.seq (.region [
                    ⟨(some 15), .bin .eql (.t 5) (.c (.int .i64 126)), none⟩,
                    ⟨(some 6), .mv (.t 15), none⟩])
                  (.cond (.t 6)
                  .skip
                  (.seq (.region [
                      ⟨(some 16), .bin .eql (.t 5) (.c (.int .i64 128)), none⟩,
                      ⟨(some 6), .mv (.t 16), none⟩])
                    (.cond (.t 6)
                    .skip
                    (.region [
                        ⟨(some 17), .bin .eql (.t 5) (.c (.int .i64 130)), none⟩,
                        ⟨(some 6), .mv (.t 17), none⟩])))))))))))))))))))))
  (.cond (.t 6)
  (.seq (.region [
      ⟨(some 2), .mv (.c (.int .i64 1)), none⟩,
      ⟨(some 3), .mv (.c (.int .i64 1)), none⟩,
      ⟨(some 4), .mv (.c (.int .i64 1)), none⟩])
    .ret)
  (.seq (.seq (.region [
      ⟨(some 19), .bin .eql (.t 5) (.c (.int .i64 97)), none⟩,
      ⟨(some 18), .mv (.t 19), none⟩])
    (.cond (.t 18)
    .skip
    (.seq (.region [
        ⟨(some 20), .bin .eql (.t 5) (.c (.int .i64 101)), none⟩,
        ⟨(some 18), .mv (.t 20), none⟩])
      (.cond (.t 18)
      .skip
      (.seq (.region [
          ⟨(some 21), .bin .eql (.t 5) (.c (.int .i64 105)), none⟩,
          ⟨(some 18), .mv (.t 21), none⟩])
        (.cond (.t 18)
        .skip
        (.seq (.region [
            ⟨(some 22), .bin .eql (.t 5) (.c (.int .i64 109)), none⟩,
            ⟨(some 18), .mv (.t 22), none⟩])
          (.cond (.t 18)
          .skip
          (.seq (.region [
              ⟨(some 23), .bin .eql (.t 5) (.c (.int .i64 113)), none⟩,
              ⟨(some 18), .mv (.t 23), none⟩])
            (.cond (.t 18)
            .skip
            (.seq (.region [
                ⟨(some 24), .bin .eql (.t 5) (.c (.int .i64 127)), none⟩,
                ⟨(some 18), .mv (.t 24), none⟩])
              (.cond (.t 18)
              .skip
              (.seq (.region [
                  ⟨(some 25), .bin .eql (.t 5) (.c (.int .i64 129)), none⟩,
                  ⟨(some 18), .mv (.t 25), none⟩])
                (.cond (.t 18)
                .skip
                (.region [
                    ⟨(some 26), .bin .eql (.t 5) (.c (.int .i64 131)), none⟩,
                    ⟨(some 18), .mv (.t 26), none⟩])))))))))))))))
    (.cond (.t 18)
    (.seq (.region [
        ⟨(some 2), .mv (.c (.int .i64 2)), none⟩,
        ⟨(some 3), .mv (.c (.int .i64 2)), none⟩,
        ⟨(some 4), .mv (.c (.int .i64 2)), none⟩])
      .ret)
    (.seq (.seq (.region [
        ⟨(some 28), .bin .eql (.t 5) (.c (.int .i64 121)), none⟩,
        ⟨(some 27), .mv (.t 28), none⟩])
      (.cond (.t 27)
      .skip
      (.seq (.region [
          ⟨(some 29), .bin .eql (.t 5) (.c (.int .i64 123)), none⟩,
          ⟨(some 27), .mv (.t 29), none⟩])
        (.cond (.t 27)
        .skip
        (.region [
            ⟨(some 30), .bin .eql (.t 5) (.c (.int .i64 125)), none⟩,
            ⟨(some 27), .mv (.t 30), none⟩])))))
      (.cond (.t 27)
      (.seq (.region [
          ⟨(some 2), .mv (.c (.int .i64 2)), none⟩,
          ⟨(some 3), .mv (.c (.int .i64 1)), none⟩,
          ⟨(some 4), .mv (.c (.int .i64 2)), none⟩])
        .ret)
      (.seq (.region [
          ⟨(some 32), .bin .eql (.t 5) (.c (.int .i64 148)), none⟩,
          ⟨(some 31), .mv (.t 32), none⟩])
        (.cond (.t 31)
        (.seq (.region [
            ⟨(some 2), .mv (.c (.int .i64 2)), none⟩,
            ⟨(some 3), .mv (.c (.int .i64 2)), none⟩,
            ⟨(some 4), .mv (.c (.int .i64 1)), none⟩])
          .ret)
        (.seq (.seq (.region [
            ⟨(some 34), .bin .eql (.t 5) (.c (.int .i64 116)), none⟩,
            ⟨(some 33), .mv (.t 34), none⟩])
          (.cond (.t 33)
          .skip
          (.seq (.region [
              ⟨(some 35), .bin .eql (.t 5) (.c (.int .i64 145)), none⟩,
              ⟨(some 33), .mv (.t 35), none⟩])
            (.cond (.t 33)
            .skip
            (.seq (.region [
                ⟨(some 36), .bin .eql (.t 5) (.c (.int .i64 146)), none⟩,
                ⟨(some 33), .mv (.t 36), none⟩])
              (.cond (.t 33)
              .skip
              (.region [
                  ⟨(some 37), .bin .eql (.t 5) (.c (.int .i64 147)), none⟩,
                  ⟨(some 33), .mv (.t 37), none⟩])))))))
          (.cond (.t 33)
          (.seq (.region [
              ⟨(some 2), .mv (.c (.int .i64 1)), none⟩,
              ⟨(some 3), .mv (.c (.int .i64 0)), none⟩,
              ⟨(some 4), .mv (.c (.int .i64 1)), none⟩])
            .ret)
          (.seq (.region [
              ⟨(some 39), .bin .eql (.t 5) (.c (.int .i64 117)), none⟩,
              ⟨(some 38), .mv (.t 39), none⟩])
            (.cond (.t 38)
            (.seq (.region [
                ⟨(some 2), .mv (.c (.int .i64 2)), none⟩,
                ⟨(some 3), .mv (.c (.int .i64 0)), none⟩,
                ⟨(some 4), .mv (.c (.int .i64 2)), none⟩])
              .ret)
            (.seq (.region [
                ⟨(some 41), .bin .eql (.t 5) (.c (.int .i64 133)), none⟩,
                ⟨(some 40), .mv (.t 41), none⟩])
              (.cond (.t 40)
              (.seq (.region [
                  ⟨(some 2), .mv (.c (.int .i64 1)), none⟩,
                  ⟨(some 3), .mv (.c (.int .i64 0)), none⟩,
                  ⟨(some 4), .mv (.c (.int .i64 2)), none⟩])
                .ret)
              (.seq (.region [
                  ⟨(some 43), .bin .eql (.t 5) (.c (.int .i64 136)), none⟩,
                  ⟨(some 42), .mv (.t 43), none⟩])
                (.cond (.t 42)
                (.seq (.region [
                    ⟨(some 2), .mv (.c (.int .i64 2)), none⟩,
                    ⟨(some 3), .mv (.c (.int .i64 0)), none⟩,
                    ⟨(some 4), .mv (.c (.int .i64 1)), none⟩])
                  .ret)
                .skip))))))))))))))))))
  (.seq (.region [
    ⟨(some 2), .mv (.c (.int .i64 0)), none⟩,
    ⟨(some 3), .mv (.c (.int .i64 0)), none⟩,
    ⟨(some 4), .mv (.c (.int .i64 0)), none⟩])
  .ret))), [.t 2, .t 3, .t 4]⟩

def c_desc_Type : CFunc :=
  ⟨1, true, 0, (.seq (.region [
    ⟨(some 2), .mv (.c (.bool false)), none⟩])
  (.seq (.region [
    ⟨(some 3), .mv (.t 0), none⟩,
    ⟨(some 4), .bin .neq (.t 3) (.c (.str [])), none⟩,
    ⟨(some 5), .mv (.t 4), none⟩,
    ⟨(some 6), .mv (.t 0), (some (5, true))⟩,
    ⟨(some 7), .call none true 44 [(.t 6)], (some (5, true))⟩,
    ⟨(some 8), .mv (.t 0), (some (5, true))⟩,
    ⟨(some 9), .len 0 (.t 8), (some (5, true))⟩,
    ⟨(some 10), .bin .eql (.t 7) (.t 9), (some (5, true))⟩,
    ⟨(some 11), .pick (.t 5) (.t 10) (.c (.bool false)), none⟩,
    ⟨(some 2), .mv (.t 11), none⟩])
  .ret)), [.t 2]⟩

def c_ins_other : CFunc :=
  ⟨1, true, 2, (.seq (.region [
    ⟨(some 1), .box (some 0) (.t 0), none⟩,
    ⟨(some 2), .new (some 1) [(.int .i64 0), (.int .i64 0), (.int .i64 0), (.int .i64 0)], none⟩,
    ⟨(some 3), .mv (.c (.bool false)), none⟩])
  (.seq (.seq (.region [
    ⟨(some 8), .fa 0 (.t 1), none⟩,
    ⟨(some 9), .ld false 1 (.t 8), none⟩])
  (.block 0 (.seq (.region [
    ⟨(some 11), .bin .eql (.t 9) (.c (.int .i64 29)), none⟩,
    ⟨(some 10), .mv (.t 11), none⟩])
  (.cond (.t 10)
  (.seq (.region [
      ⟨(some 4), .mv (.c (.int .i64 (-1))), none⟩])
    (.seq (.seq (.region [
      ⟨(some 12), .fa 3 (.t 1), none⟩,
      ⟨(some 13), .ld false 1 (.t 12), none⟩,
      ⟨(some 14), .bin .neq (.t 13) (.c (.int .i64 (-1))), none⟩])
    (.cond (.t 14)
    (.region [
        ⟨(some 4), .mv (.c (.int .i64 3)), none⟩])
    .skip))
    (.seq (.draw [
      ⟨(some 15), .mv (.t 4), none⟩,
      ⟨(some 16), .build [(.int .i64 0), (.int .i64 0), (.int .i64 0), (.int .i64 0)] [(0, 1, (.c (.int .i64 (-1)))), (1, 1, (.c (.int .i64 3))), (2, 1, (.t 15)), (3, 1, (.c (.int .i64 (-1))))], none⟩,
      ⟨(some 17), .fa 5 (.t 1), none⟩,
      ⟨(some 18), .ld false 1 (.t 17), none⟩,
      ⟨(some 19), .bin .eql (.t 18) (.c (.int .i64 0)), none⟩,
      ⟨(some 20), .mv (.t 19), none⟩,
      ⟨(some 21), .fa 5 (.t 1), (some (20, false))⟩,
      ⟨(some 22), .ld false 1 (.t 21), (some (20, false))⟩,
      ⟨(some 23), .bin .eql (.t 22) (.c (.int .i64 1)), (some (20, false))⟩,
      ⟨(some 24), .pick (.t 20) (.c (.bool true)) (.t 23), none⟩,
      ⟨none, .st 4 (.t 2) (.t 16), none⟩,
      ⟨(some 3), .mv (.t 24), none⟩] [(7, 10)])
    .ret)))
  (.seq (.region [
      ⟨(some 26), .bin .eql (.t 9) (.c (.int .i64 30)), none⟩,
      ⟨(some 25), .mv (.t 26), none⟩])
    (.cond (.t 25)
    (.seq (.region [
        ⟨(some 5), .mv (.c (.int .i64 (-1))), none⟩])
      (.seq (.seq (.region [
        ⟨(some 27), .fa 2 (.t 1), none⟩,
        ⟨(some 28), .ld false 1 (.t 27), none⟩,
        ⟨(some 29), .bin .neq (.t 28) (.c (.int .i64 (-1))), none⟩])
      (.cond (.t 29)
      (.region [
          ⟨(some 5), .mv (.c (.int .i64 0)), none⟩])
      .skip))
      (.seq (.region [
        ⟨(some 30), .mv (.t 5), none⟩,
        ⟨(some 31), .build [(.int .i64 0), (.int .i64 0), (.int .i64 0), (.int .i64 0)] [(0, 1, (.c (.int .i64 (-1)))), (1, 1, (.t 30)), (2, 1, (.c (.int .i64 (-1)))), (3, 1, (.c (.int .i64 (-1))))], none⟩,
        ⟨none, .st 4 (.t 2) (.t 31), none⟩,
        ⟨(some 3), .mv (.c (.bool true)), none⟩])
      .ret)))
    (.seq (.seq (.region [
        ⟨(some 33), .bin .eql (.t 9) (.c (.int .i64 23)), none⟩,
        ⟨(some 32), .mv (.t 33), none⟩])
      (.cond (.t 32)
      .skip
      (.seq (.region [
          ⟨(some 34), .bin .eql (.t 9) (.c (.int .i64 24)), none⟩,
          ⟨(some 32), .mv (.t 34), none⟩])
        (.cond (.t 32)
        .skip
        (.seq (.region [
            ⟨(some 35), .bin .eql (.t 9) (.c (.int .i64 25)), none⟩,
            ⟨(some 32), .mv (.t 35), none⟩])
          (.cond (.t 32)
          .skip
          (.region [
              ⟨(some 36), .bin .eql (.t 9) (.c (.int .i64 26)), none⟩,
              ⟨(some 32), .mv (.t 36), none⟩])))))))
      (.cond (.t 32)
      (.seq (.region [
          ⟨(some 6), .mv (.c (.int .i64 (-1))), none⟩])
        (.seq (.seq (.region [
          ⟨(some 37), .fa 1 (.t 1), none⟩,
          ⟨(some 38), .ld false 1 (.t 37), none⟩,
          ⟨(some 39), .bin .neq (.t 38) (.c (.int .i64 (-1))), none⟩])
        (.cond (.t 39)
        (.region [
            ⟨(some 6), .mv (.c (.int .i64 0)), none⟩])
        .skip))
        (.seq (.region [
          ⟨(some 40), .fa 0 (.t 1), none⟩,
          ⟨(some 41), .ld false 1 (.t 40), none⟩,
          ⟨(some 42), .bin .eql (.t 41) (.c (.int .i64 23)), none⟩,
          ⟨(some 43), .mv (.t 42), none⟩,
          ⟨(some 44), .fa 0 (.t 1), (some (43, false))⟩,
          ⟨(some 45), .ld false 1 (.t 44), (some (43, false))⟩,
          ⟨(some 46), .bin .eql (.t 45) (.c (.int .i64 26)), (some (43, false))⟩,
          ⟨(some 47), .pick (.t 43) (.c (.bool true)) (.t 46), none⟩,
          ⟨(some 48), .mv (.t 47), none⟩,
          ⟨(some 49), .fa 8 (.t 1), (some (48, false))⟩,
          ⟨(some 50), .ld false 1 (.t 49), (some (48, false))⟩,
          ⟨(some 51), .len 1 (.t 50), (some (48, false))⟩,
          ⟨(some 52), .bin .gtr (.t 51) (.c (.int .i64 0)), (some (48, false))⟩,
          ⟨(some 53), .pick (.t 48) (.c (.bool true)) (.t 52), none⟩,
          ⟨(some 7), .mv (.t 53), none⟩])
        (.seq (.draw [
          ⟨(some 54), .mv (.t 6), none⟩,
          ⟨(some 55), .build [(.int .i64 0), (.int .i64 0), (.int .i64 0), (.int .i64 0)] [(0, 1, (.t 54)), (1, 1, (.c (.int .i64 (-1)))), (2, 1, (.c (.int .i64 (-1)))), (3, 1, (.c (.int .i64 (-1))))], none⟩,
          ⟨(some 56), .mv (.t 7), none⟩,
          ⟨(some 57), .mv (.t 56), none⟩,
          ⟨(some 58), .fa 5 (.t 1), (some (57, true))⟩,
          ⟨(some 59), .ld false 1 (.t 58), (some (57, true))⟩,
          ⟨(some 60), .bin .geq (.t 59) (.c (.int .i64 0)), (some (57, true))⟩,
          ⟨(some 61), .mv (.t 60), (some (57, true))⟩,
          ⟨(some 62), .fa 0 (.t 1), (some (61, false))⟩,
          ⟨(some 63), .ld false 1 (.t 62), (some (61, false))⟩,
          ⟨(some 64), .bin .eql (.t 63) (.c (.int .i64 25)), (some (61, false))⟩,
          ⟨(some 65), .pick (.t 61) (.c (.bool true)) (.t 64), (some (57, true))⟩,
          ⟨(some 66), .pick (.t 57) (.t 65) (.c (.bool false)), none⟩,
          ⟨(some 67), .mv (.t 66), none⟩,
          ⟨(some 68), .fa 8 (.t 1), (some (67, true))⟩,
          ⟨(some 69), .ld false 1 (.t 68), (some (67, true))⟩,
          ⟨(some 70), .len 1 (.t 69), (some (67, true))⟩,
          ⟨(some 71), .bin .leq (.t 70) (.c (.int .i64 21)), (some (67, true))⟩,
          ⟨(some 72), .pick (.t 67) (.t 71) (.c (.bool false)), none⟩,
          ⟨none, .st 4 (.t 2) (.t 55), none⟩,
          ⟨(some 3), .mv (.t 72), none⟩] [(15, 19), (16, 19)])
        .ret))))
      .skip))))))))
  (.seq (.region [
    ⟨(some 73), .build [(.int .i64 0), (.int .i64 0), (.int .i64 0), (.int .i64 0)] [], none⟩,
    ⟨none, .st 4 (.t 2) (.t 73), none⟩,
    ⟨(some 3), .mv (.c (.bool false)), none⟩])
  .ret))), [.cell 2 true 4, .t 3]⟩

def c_desc_take : CFunc :=
  ⟨1, true, 0, (.seq (.region [
    ⟨(some 2), .mv (.c (.int .i64 0)), none⟩])
  (.seq (.region [
    ⟨(some 3), .mv (.c (.int .i64 0)), none⟩])
  (.seq (.block 0 (.loop [0, 3] (.seq (.seq (.region [
      ⟨(some 5), .mv (.t 3), none⟩,
      ⟨(some 6), .mv (.t 0), none⟩,
      ⟨(some 7), .len 0 (.t 6), none⟩,
      ⟨(some 8), .bin .lss (.t 5) (.t 7), none⟩,
      ⟨(some 9), .mv (.t 8), none⟩,
      ⟨(some 10), .mv (.t 0), (some (9, true))⟩,
      ⟨(some 11), .mv (.t 3), (some (9, true))⟩,
      ⟨(some 12), .ixstr (.t 10) (.t 11), (some (9, true))⟩,
      ⟨(some 13), .bin .eql (.t 12) (.c (.int .u8 91)), (some (9, true))⟩,
      ⟨(some 14), .pick (.t 9) (.t 13) (.c (.bool false)), none⟩])
    (.cond (.t 14)
    .skip
    (.exit 0)))
    (.block 1 (.region [
      ⟨(some 15), .mv (.t 3), none⟩,
      ⟨(some 16), .bin .add (.t 15) (.c (.int .i64 1)), none⟩,
      ⟨(some 3), .mv (.t 16), none⟩])))))
  (.seq (.seq (.region [
    ⟨(some 17), .mv (.t 3), none⟩,
    ⟨(some 18), .bin .gtr (.t 17) (.c (.int .i64 8)), none⟩,
    ⟨(some 19), .mv (.t 18), none⟩,
    ⟨(some 20), .mv (.t 3), (some (19, false))⟩,
    ⟨(some 21), .mv (.t 0), (some (19, false))⟩,
    ⟨(some 22), .len 0 (.t 21), (some (19, false))⟩,
    ⟨(some 23), .bin .eql (.t 20) (.t 22), (some (19, false))⟩,
    ⟨(some 24), .pick (.t 19) (.c (.bool true)) (.t 23), none⟩])
  (.cond (.t 24)
  (.seq (.region [
      ⟨(some 2), .mv (.c (.int .i64 0)), none⟩])
    .ret)
  .skip))
  (.seq (.seq (.region [
    ⟨(some 25), .mv (.t 0), none⟩,
    ⟨(some 26), .mv (.t 3), none⟩,
    ⟨(some 27), .ixstr (.t 25) (.t 26), none⟩])
  (.block 2 (.seq (.seq (.region [
    ⟨(some 29), .bin .eql (.t 27) (.c (.int .u8 73)), none⟩,
    ⟨(some 28), .mv (.t 29), none⟩])
  (.cond (.t 28)
  .skip
  (.region [
      ⟨(some 30), .bin .eql (.t 27) (.c (.int .u8 74)), none⟩,
      ⟨(some 28), .mv (.t 30), none⟩])))
  (.cond (.t 28)
  (.seq (.region [
      ⟨(some 31), .mv (.t 3), none⟩,
      ⟨(some 32), .bin .add (.t 31) (.c (.int .i64 1)), none⟩,
      ⟨(some 2), .mv (.t 32), none⟩])
    .ret)
  (.seq (.region [
      ⟨(some 34), .bin .eql (.t 27) (.c (.int .u8 76)), none⟩,
      ⟨(some 33), .mv (.t 34), none⟩])
    (.cond (.t 33)
    (.seq (.region [
        ⟨(some 35), .mv (.t 3), none⟩,
        ⟨(some 36), .bin .add (.t 35) (.c (.int .i64 1)), none⟩,
        ⟨(some 4), .mv (.t 36), none⟩])
      (.block 3 (.loop [0, 3, 4] (.seq (.seq (.region [
          ⟨(some 37), .mv (.t 4), none⟩,
          ⟨(some 38), .mv (.t 0), none⟩,
          ⟨(some 39), .len 0 (.t 38), none⟩,
          ⟨(some 40), .bin .lss (.t 37) (.t 39), none⟩])
        (.cond (.t 40)
        .skip
        (.exit 3)))
        (.seq (.block 4 (.seq (.region [
          ⟨(some 43), .mv (.t 0), none⟩,
          ⟨(some 44), .mv (.t 4), none⟩,
          ⟨(some 45), .ixstr (.t 43) (.t 44), none⟩,
          ⟨(some 46), .bin .eql (.t 45) (.c (.int .u8 59)), none⟩])
        (.cond (.t 46)
        (.seq (.seq (.region [
            ⟨(some 47), .mv (.t 0), none⟩,
            ⟨(some 48), .mv (.t 3), none⟩,
            ⟨(some 49), .bin .add (.t 48) (.c (.int .i64 1)), none⟩,
            ⟨(some 50), .mv (.t 4), none⟩,
            ⟨(some 51), .sls (.t 47) (some (.t 49)) (some (.t 50)), none⟩,
            ⟨(some 52), .call none true 60 [(.t 51), (.c (.bool false))], none⟩])
          (.cond (.t 52)
          (.seq (.region [
              ⟨(some 53), .mv (.t 4), none⟩,
              ⟨(some 54), .bin .add (.t 53) (.c (.int .i64 1)), none⟩,
              ⟨(some 2), .mv (.t 54), none⟩])
            .ret)
          .skip))
          (.seq (.region [
            ⟨(some 2), .mv (.c (.int .i64 0)), none⟩])
          .ret))
        .skip)))
        (.region [
          ⟨(some 41), .mv (.t 4), none⟩,
          ⟨(some 42), .bin .add (.t 41) (.c (.int .i64 1)), none⟩,
          ⟨(some 4), .mv (.t 42), none⟩]))))))
    .skip))))))
  (.seq (.region [
    ⟨(some 2), .mv (.c (.int .i64 0)), none⟩])
  .ret)))))), [.t 2]⟩

def c_desc_Name : CFunc :=
  ⟨2, true, 1, (.seq (.region [
    ⟨(some 4), .mv (.c (.bool false)), none⟩])
  (.seq (.seq (.region [
    ⟨(some 8), .mv (.t 0), none⟩,
    ⟨(some 9), .len 0 (.t 8), none⟩,
    ⟨(some 10), .bin .lss (.t 9) (.c (.int .i64 1)), none⟩,
    ⟨(some 11), .mv (.t 10), none⟩,
    ⟨(some 12), .mv (.t 0), (some (11, false))⟩,
    ⟨(some 13), .len 0 (.t 12), (some (11, false))⟩,
    ⟨(some 14), .bin .gtr (.t 13) (.c (.int .i64 60)), (some (11, false))⟩,
    ⟨(some 15), .pick (.t 11) (.c (.bool true)) (.t 14), none⟩])
  (.cond (.t 15)
  (.seq (.region [
      ⟨(some 4), .mv (.c (.bool false)), none⟩])
    .ret)
  .skip))
  (.seq (.seq (.region [
    ⟨(some 16), .mv (.t 0), none⟩,
    ⟨(some 17), .s2b (some 0) (.t 16), none⟩,
    ⟨(some 18), .len 1 (.t 17), none⟩,
    ⟨(some 19), .mv (.c (.int .i64 0)), none⟩])
  (.block 0 (.loop [1, 17, 18, 19] (.seq (.region [
      ⟨(some 20), .bin .lss (.t 19) (.t 18), none⟩])
    (.seq (.cond (.t 20)
    .skip
    (.exit 0))
    (.seq (.block 1 (.seq (.region [
      ⟨(some 21), .ixs 1 (.t 17) (.t 19), none⟩,
      ⟨(some 22), .ld false 1 (.t 21), none⟩,
      ⟨(some 6), .mv (.t 22), none⟩])
    (.seq (.region [
      ⟨(some 23), .mv (.t 6), none⟩,
      ⟨(some 24), .bin .geq (.t 23) (.c (.int .u8 97)), none⟩,
      ⟨(some 25), .mv (.t 24), none⟩,
      ⟨(some 26), .mv (.t 6), (some (25, true))⟩,
      ⟨(some 27), .bin .leq (.t 26) (.c (.int .u8 122)), (some (25, true))⟩,
      ⟨(some 28), .pick (.t 25) (.t 27) (.c (.bool false)), none⟩,
      ⟨(some 29), .mv (.t 28), none⟩,
      ⟨(some 30), .mv (.t 6), (some (29, false))⟩,
      ⟨(some 31), .bin .geq (.t 30) (.c (.int .u8 65)), (some (29, false))⟩,
      ⟨(some 32), .mv (.t 31), (some (29, false))⟩,
      ⟨(some 33), .mv (.t 6), (some (32, true))⟩,
      ⟨(some 34), .bin .leq (.t 33) (.c (.int .u8 90)), (some (32, true))⟩,
      ⟨(some 35), .pick (.t 32) (.t 34) (.c (.bool false)), (some (29, false))⟩,
      ⟨(some 36), .pick (.t 29) (.c (.bool true)) (.t 35), none⟩,
      ⟨(some 37), .mv (.t 36), none⟩,
      ⟨(some 38), .mv (.t 6), (some (37, false))⟩,
      ⟨(some 39), .bin .geq (.t 38) (.c (.int .u8 48)), (some (37, false))⟩,
      ⟨(some 40), .mv (.t 39), (some (37, false))⟩,
      ⟨(some 41), .mv (.t 6), (some (40, true))⟩,
      ⟨(some 42), .bin .leq (.t 41) (.c (.int .u8 57)), (some (40, true))⟩,
      ⟨(some 43), .pick (.t 40) (.t 42) (.c (.bool false)), (some (37, false))⟩,
      ⟨(some 44), .pick (.t 37) (.c (.bool true)) (.t 43), none⟩,
      ⟨(some 45), .mv (.t 44), none⟩,
      ⟨(some 46), .mv (.t 6), (some (45, false))⟩,
      ⟨(some 47), .bin .eql (.t 46) (.c (.int .u8 95)), (some (45, false))⟩,
      ⟨(some 48), .pick (.t 45) (.c (.bool true)) (.t 47), none⟩,
      ⟨(some 49), .mv (.t 48), none⟩,
      ⟨(some 50), .mv (.t 6), (some (49, false))⟩,
      ⟨(some 51), .bin .eql (.t 50) (.c (.int .u8 36)), (some (49, false))⟩,
      ⟨(some 52), .pick (.t 49) (.c (.bool true)) (.t 51), none⟩,
      ⟨(some 53), .mv (.t 52), none⟩,
      ⟨(some 54), .mv (.t 6), (some (53, false))⟩,
      ⟨(some 55), .bin .eql (.t 54) (.c (.int .u8 47)), (some (53, false))⟩,
      ⟨(some 56), .pick (.t 53) (.c (.bool true)) (.t 55), none⟩,
      ⟨(some 7), .mv (.t 56), none⟩])
    (.seq (.region [
      ⟨(some 57), .mv (.t 7), none⟩,
      ⟨(some 58), .un .not (.t 57), none⟩,
      ⟨(some 59), .mv (.t 58), none⟩,
      ⟨(some 60), .mv (.t 1), (some (59, true))⟩,
      ⟨(some 61), .mv (.t 60), (some (59, true))⟩,
      ⟨(some 62), .mv (.t 6), (some (61, true))⟩,
      ⟨(some 63), .bin .eql (.t 62) (.c (.int .u8 60)), (some (61, true))⟩,
      ⟨(some 64), .mv (.t 63), (some (61, true))⟩,
      ⟨(some 65), .mv (.t 6), (some (64, false))⟩,
      ⟨(some 66), .bin .eql (.t 65) (.c (.int .u8 62)), (some (64, false))⟩,
      ⟨(some 67), .pick (.t 64) (.c (.bool true)) (.t 66), (some (61, true))⟩,
      ⟨(some 68), .pick (.t 61) (.t 67) (.c (.bool false)), (some (59, true))⟩,
      ⟨(some 69), .un .not (.t 68), (some (59, true))⟩,
      ⟨(some 70), .pick (.t 59) (.t 69) (.c (.bool false)), none⟩])
    (.cond (.t 70)
    (.seq (.region [
        ⟨(some 4), .mv (.c (.bool false)), none⟩])
      .ret)
    .skip)))))
    (.region [
      ⟨(some 71), .bin .add (.t 19) (.c (.int .i64 1)), none⟩,
      ⟨(some 19), .mv (.t 71), none⟩])))))))
  (.seq (.region [
    ⟨(some 4), .mv (.c (.bool true)), none⟩])
  .ret)))), [.t 4]⟩

def tbl : List (Option Nat) := [none, none, none, some 107, none, none, none, none, none, none, some 97, some 98, some 11, some 81, some 95, some 79, some 92, some 101, some 104, some 102, some 106, none, some 100, none, none, none, none, none, none, none, none, none, none, none, none, some 19, some 23, some 25, none, none, some 24, some 22, some 46, some 96, some 18, some 105, none, some 13, some 8, none, none, none, none, none, none, some 42, none, none, none, none, some 7, none, none, none, some 45, some 17, some 39, some 40, some 41, some 63, none, none, none, none, none, none, some 47, none, some 50, some 37, some 51, none, some 44, none, some 60]

def fnE : Nat → Option CFunc
  | 7 => some c_regletref10_Calls
  | 8 => some c_ins_Check
  | 11 => some c_regletref10_Ints
  | 13 => some c_ins_Copy
  | 17 => some c_ins_Calls
  | 18 => some c_ins_Throws
  | 19 => some c_regletref10_Throws
  | 22 => some c_ins_Leads
  | 23 => some c_regletref10_Leads
  | 24 => some c_ins_Ends
  | 25 => some c_regletref10_Ends
  | 37 => some c_desc_Type
  | 39 => some c_slices_Clone_int_int
  | 40 => some c_slices_Clone_api_Ins_api_Ins
  | 41 => some c_slices_Clone_api_Row_api_Row
  | 42 => some c_regletref10_in
  | 44 => some c_desc_take
  | 45 => some c_slices_Index_int_int
  | 46 => some c_slices_Contains_int_int
  | 47 => some c_ins_kinds
  | 50 => some c_num_Kinds
  | 51 => some c_ins_other
  | 60 => some c_desc_Name
  | 63 => some c_ins_right
  | 79 => some c_flow_Caught
  | 81 => some c_flow_Next
  | 92 => some c_regletref11_Caught
  | 95 => some c_regletref11_Next
  | 96 => some c_regletref11_in
  | 97 => some c_regletlaw11_holds
  | 98 => some c_regletlaw11_light
  | 100 => some c_flow_Trim
  | 101 => some c_flow_Reach
  | 102 => some c_flow_Heads
  | 104 => some c_regletref11_Reach
  | 105 => some c_regletref11_All
  | 106 => some c_regletref11_Heads
  | 107 => some c_regletlaw11_FlowLeads
  | _ => none

abbrev nm : Nat → Option Nat := nmOf tbl

def E : Env := envX fnE [] (fun _ _ => none)

theorem ok3 : FnOk Go.Proofs.Try.prog nm fnE 3 107 := .of Go.Proofs.Try.func3 (by kernel_rfl) (by kernel_rfl) rfl (by kernel_rfl)
theorem ok10 : FnOk Go.Proofs.Try.prog nm fnE 10 97 := .of Go.Proofs.Try.func10 (by kernel_rfl) (by kernel_rfl) rfl (by kernel_rfl)
theorem ok11 : FnOk Go.Proofs.Try.prog nm fnE 11 98 := .of Go.Proofs.Try.func11 (by kernel_rfl) (by kernel_rfl) rfl (by kernel_rfl)
theorem ok12 : FnOk Go.Proofs.Try.prog nm fnE 12 11 := .of Go.Proofs.Try.func12 (by kernel_rfl) (by kernel_rfl) rfl (by kernel_rfl)
theorem ok13 : FnOk Go.Proofs.Try.prog nm fnE 13 81 := .of Go.Proofs.Try.func13 (by kernel_rfl) (by kernel_rfl) rfl (by kernel_rfl)
theorem ok14 : FnOk Go.Proofs.Try.prog nm fnE 14 95 := .of Go.Proofs.Try.func14 (by kernel_rfl) (by kernel_rfl) rfl (by kernel_rfl)
theorem ok15 : FnOk Go.Proofs.Try.prog nm fnE 15 79 := .of Go.Proofs.Try.func15 (by kernel_rfl) (by kernel_rfl) rfl (by kernel_rfl)
theorem ok16 : FnOk Go.Proofs.Try.prog nm fnE 16 92 := .of Go.Proofs.Try.func16 (by kernel_rfl) (by kernel_rfl) rfl (by kernel_rfl)
theorem ok17 : FnOk Go.Proofs.Try.prog nm fnE 17 101 := .of Go.Proofs.Try.func17 (by kernel_rfl) (by kernel_rfl) rfl (by kernel_rfl)
theorem ok18 : FnOk Go.Proofs.Try.prog nm fnE 18 104 := .of Go.Proofs.Try.func18 (by kernel_rfl) (by kernel_rfl) rfl (by kernel_rfl)
theorem ok19 : FnOk Go.Proofs.Try.prog nm fnE 19 102 := .of Go.Proofs.Try.func19 (by kernel_rfl) (by kernel_rfl) rfl (by kernel_rfl)
theorem ok20 : FnOk Go.Proofs.Try.prog nm fnE 20 106 := .of Go.Proofs.Try.func20 (by kernel_rfl) (by kernel_rfl) rfl (by kernel_rfl)
theorem ok22 : FnOk Go.Proofs.Try.prog nm fnE 22 100 := .of Go.Proofs.Try.func22 (by kernel_rfl) (by kernel_rfl) rfl (by kernel_rfl)
theorem ok35 : FnOk Go.Proofs.Try.prog nm fnE 35 19 := .of Go.Proofs.Try.func35 (by kernel_rfl) (by kernel_rfl) rfl (by kernel_rfl)
theorem ok36 : FnOk Go.Proofs.Try.prog nm fnE 36 23 := .of Go.Proofs.Try.func36 (by kernel_rfl) (by kernel_rfl) rfl (by kernel_rfl)
theorem ok37 : FnOk Go.Proofs.Try.prog nm fnE 37 25 := .of Go.Proofs.Try.func37 (by kernel_rfl) (by kernel_rfl) rfl (by kernel_rfl)
theorem ok40 : FnOk Go.Proofs.Try.prog nm fnE 40 24 := .of Go.Proofs.Try.func40 (by kernel_rfl) (by kernel_rfl) rfl (by kernel_rfl)
theorem ok41 : FnOk Go.Proofs.Try.prog nm fnE 41 22 := .of Go.Proofs.Try.func41 (by kernel_rfl) (by kernel_rfl) rfl (by kernel_rfl)
theorem ok42 : FnOk Go.Proofs.Try.prog nm fnE 42 46 := .of Go.Proofs.Try.func42 (by kernel_rfl) (by kernel_rfl) rfl (by kernel_rfl)
theorem ok43 : FnOk Go.Proofs.Try.prog nm fnE 43 96 := .of Go.Proofs.Try.func43 (by kernel_rfl) (by kernel_rfl) rfl (by kernel_rfl)
theorem ok44 : FnOk Go.Proofs.Try.prog nm fnE 44 18 := .of Go.Proofs.Try.func44 (by kernel_rfl) (by kernel_rfl) rfl (by kernel_rfl)
theorem ok45 : FnOk Go.Proofs.Try.prog nm fnE 45 105 := .of Go.Proofs.Try.func45 (by kernel_rfl) (by kernel_rfl) rfl (by kernel_rfl)
theorem ok47 : FnOk Go.Proofs.Try.prog nm fnE 47 13 := .of Go.Proofs.Try.func47 (by kernel_rfl) (by kernel_rfl) rfl (by kernel_rfl)
theorem ok48 : FnOk Go.Proofs.Try.prog nm fnE 48 8 := .of Go.Proofs.Try.func48 (by kernel_rfl) (by kernel_rfl) rfl (by kernel_rfl)
theorem ok55 : FnOk Go.Proofs.Try.prog nm fnE 55 42 := .of Go.Proofs.Try.func55 (by kernel_rfl) (by kernel_rfl) rfl (by kernel_rfl)
theorem ok60 : FnOk Go.Proofs.Try.prog nm fnE 60 7 := .of Go.Proofs.Try.func60 (by kernel_rfl) (by kernel_rfl) rfl (by kernel_rfl)
theorem ok64 : FnOk Go.Proofs.Try.prog nm fnE 64 45 := .of Go.Proofs.Try.func64 (by kernel_rfl) (by kernel_rfl) rfl (by kernel_rfl)
theorem ok65 : FnOk Go.Proofs.Try.prog nm fnE 65 17 := .of Go.Proofs.Try.func65 (by kernel_rfl) (by kernel_rfl) rfl (by kernel_rfl)
theorem ok66 : FnOk Go.Proofs.Try.prog nm fnE 66 39 := .of Go.Proofs.Try.func66 (by kernel_rfl) (by kernel_rfl) rfl (by kernel_rfl)
theorem ok67 : FnOk Go.Proofs.Try.prog nm fnE 67 40 := .of Go.Proofs.Try.func67 (by kernel_rfl) (by kernel_rfl) rfl (by kernel_rfl)
theorem ok68 : FnOk Go.Proofs.Try.prog nm fnE 68 41 := .of Go.Proofs.Try.func68 (by kernel_rfl) (by kernel_rfl) rfl (by kernel_rfl)
theorem ok69 : FnOk Go.Proofs.Try.prog nm fnE 69 63 := .of Go.Proofs.Try.func69 (by kernel_rfl) (by kernel_rfl) rfl (by kernel_rfl)
theorem ok76 : FnOk Go.Proofs.Try.prog nm fnE 76 47 := .of Go.Proofs.Try.func76 (by kernel_rfl) (by kernel_rfl) rfl (by kernel_rfl)
theorem ok78 : FnOk Go.Proofs.Try.prog nm fnE 78 50 := .of Go.Proofs.Try.func78 (by kernel_rfl) (by kernel_rfl) rfl (by kernel_rfl)
theorem ok79 : FnOk Go.Proofs.Try.prog nm fnE 79 37 := .of Go.Proofs.Try.func79 (by kernel_rfl) (by kernel_rfl) rfl (by kernel_rfl)
theorem ok80 : FnOk Go.Proofs.Try.prog nm fnE 80 51 := .of Go.Proofs.Try.func80 (by kernel_rfl) (by kernel_rfl) rfl (by kernel_rfl)
theorem ok82 : FnOk Go.Proofs.Try.prog nm fnE 82 44 := .of Go.Proofs.Try.func82 (by kernel_rfl) (by kernel_rfl) rfl (by kernel_rfl)
theorem ok84 : FnOk Go.Proofs.Try.prog nm fnE 84 60 := .of Go.Proofs.Try.func84 (by kernel_rfl) (by kernel_rfl) rfl (by kernel_rfl)

theorem allOk : AllF Go.Proofs.Try.prog nm fnE 0 tbl :=
  ⟨ok3, ok10, ok11, ok12, ok13, ok14, ok15, ok16, ok17, ok18, ok19, ok20, ok22, ok35, ok36, ok37, ok40, ok41, ok42, ok43, ok44, ok45, ok47, ok48, ok55, ok60, ok64, ok65, ok66, ok67, ok68, ok69, ok76, ok78, ok79, ok80, ok82, ok84, trivial⟩

theorem envOk : EnvOk Go.Proofs.Try.prog nm E := envX_ok (by kernel_rfl) allOk .nothing

end Go.Vm
