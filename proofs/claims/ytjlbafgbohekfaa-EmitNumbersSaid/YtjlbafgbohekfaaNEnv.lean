/- The machine's form of functions, each checked against the translation, and the environment that they make. -/
import Derived.Test.YtjlbafgbohekfaaVc
import Derived.Test.YtjlbafgbohekfaaProg
import Derived.KernelRfl
set_option linter.unusedSimpArgs false
set_option linter.unusedVariables false
set_option linter.unusedSectionVars false
namespace Go.Vm
abbrev zq0 : List AV := [(.int .i64 0), (.int .i64 0), (.int .i64 0), (.int .i64 0), (.int .i64 0), (.int .i64 0), (.int .i64 0), (.str []), .nils]
abbrev zq1 : List AV := [.nils, .nils, .nils, .nils, .nils, (.int .i64 0), (.int .i64 0), (.int .i64 0)]
abbrev zq2 : List AV := [.nils, .nils, (.int .i64 0), .nils, .nils]
abbrev zq3 : List AV := [(.int .i64 0), (.int .i64 0), (.int .i64 0), (.str [])]
abbrev zq4 : List AV := [.nils, .nils, .nils, .nils, .nils, (.int .i64 0), (.int .i64 0), (.int .i64 0), .nilm, .nilm, .nils]
abbrev zq5 : List AV := [.nils, .nils, .nils, (.int .i64 0)]
abbrev zq6 : List AV := [(.int .i64 0), (.int .i64 0), (.int .i64 0), (.int .i64 0)]
def y1e3 : CCode :=
 (.seq (.region ([kO 4 (.mv (.c (.bool true)))]))
 .ret)
def y1st : CCode :=
 (.region ([kO 110 (.bin .add 98 (ci 1)),kO 98 (.mv 110)]))
def y1o7 : CCode :=
 (.seq (.block 5 (.seq (.region (cs 100 [.mv 98,.ixs 9 96 98,.ld true 9 101] ++ cs 17 [.new (some 9) zq0] ++ cs 16 [.mv 100] ++ [kU (.st 9 17 102)]))
 (.seq (.draw (cs 103 [.mv 13,.mv 16,.ixs 9 103 104,.ld true 9 105,.ld true 9 17,.call none true 28 [106, 107],.un .not 108]) [])
 (.cond 109
 (.seq (.region ([kO 4 (.mv (.c (.bool false)))]))
 .ret)
 .skip))))
 y1st)
def y19r : CCode :=
 (.seq (.cond 99
 .skip
 (.exit 4))
 y1o7)
def y1dk : CCode :=
 (.seq (.region ([kO 99 (.bin .lss 98 97)]))
 y19r)
def yoc : CCode :=
 (.loop [13, 96, 97, 98] y1dk)
def y1lx : CCode :=
 (.block 4 yoc)
def y1pd : CCode :=
 (.seq (.region (cs 95 [.fa 3 5,lf 95,.len 1 96,.mv (ci 0)]))
 y1lx)
def y1gd : CCode :=
 (.seq y1pd
 y1e3)
def y11y : CCode :=
 (.seq (.seq (.region (cs 81 [.mv 12,.bin .neq 81 (ci 0),.mv 82] ++ cg 84 83 false [.mv 15,.un .not 84] ++ cs 86 [.pick 83 (.c (.bool true)) 85,.mv 86] ++ cg 88 87 false [.mv 13,.len 1 88,.fa 3 5,lf 90,.len 1 91,.bin .neq 89 92] ++ cs 94 [.pick 87 (.c (.bool true)) 93]))
 (.cond 94
 (.seq (.region ([kO 4 (.mv (.c (.bool false)))]))
 .ret)
 .skip))
 y1gd)
def yy7 : CCode :=
 (.seq (.region (cs 76 [.ld true 8 11,.call none true 232 [76]] ++ cs 75 [.mv 77] ++ cs 78 [.ext 0 75,.ext 1 75,.ext 2 75] ++ cs 13 [.mv 78,.mv 79,.mv 80]))
 y11y)
def ywe : CCode :=
 (.seq (.region (cs 71 [.ld true 5 5,.call none true 231 [71]] ++ cs 70 [.mv 72] ++ cs 73 [.ext 0 70,.ext 1 70] ++ cs 11 [.new (some 8) zq1] ++ [kU (.st 8 11 73),kO 12 (.mv 74)]))
 yy7)
def y15g : CCode :=
 (.seq (.region (cs 64 [.fa 3 5,lf 64,.build zq0 [(0, 1, (ci 30)), (2, 1, (ci (-1)))],.buildS (some 6) 9 1 zq0 [(0, 66)],.app (some 7) 9 96 65 67,.fa 3 5] ++ [kU (.st 1 69 68)]))
 ywe)
def y120 : CCode :=
 (.region ([kO 63 (.bin .add 46 (ci 1)),kO 46 (.mv 63)]))
def y139 : CCode :=
 (.region (cs 56 [.fa 3 5,lf 56,.mv 10,.build zq0 [(0, 1, (ci 3)), (1, 1, (ci 1)), (7, 1, 58)],.buildS (some 4) 9 1 zq0 [(0, 59)],.app (some 5) 9 96 57 60,.fa 3 5] ++ [kU (.st 1 62 61)]))
def y153 : CCode :=
 (.seq (.seq (.region (cs 50 [.mv 6,.mv 10,.len 0 51,.bin .add 50 52] ++ cs 6 [.mv 53]))
 (.seq (.region (cs 54 [.mv 6,.bin .gtr 54 (ci 10000)]))
 (.cond 55
 (.seq (.region ([kO 4 (.mv (.c (.bool true)))]))
 .ret)
 .skip)))
 y139)
def y12c : CCode :=
 (.seq (.region (cs 48 [.ixs 1 44 46,lf 48] ++ cs 10 [.mv 49]))
 y153)
def y128 : CCode :=
 (.block 3 y12c)
def y15i : CCode :=
 (.seq y128
 y120)
def yxy : CCode :=
 (.seq (.cond 47
 .skip
 (.exit 2))
 y15i)
def y147 : CCode :=
 (.seq (.region ([kO 47 (.bin .lss 46 45)]))
 yxy)
def yhr : CCode :=
 (.loop [5, 6, 44, 45, 46] y147)
def y145 : CCode :=
 (.block 2 yhr)
def yw4 : CCode :=
 (.seq (.region (cs 44 [.mv 1,.len 1 44,.mv (ci 0)]))
 y145)
def y14p : CCode :=
 (.seq yw4
 y15g)
def y14z : CCode :=
 (.region ([kO 43 (.bin .add 32 (ci 1)),kO 32 (.mv 43)]))
def yx6 : CCode :=
 (.seq (.block 1 (.seq (.region (cs 34 [.ixs 1 30 32,lf 34] ++ cs 8 [.mv 35]))
 (.region (cs 36 [.fa 3 5,lf 36,.mv 8,.build zq0 [(0, 1, (ci 1)), (5, 1, 38)],.buildS (some 2) 9 1 zq0 [(0, 39)],.app (some 3) 9 96 37 40,.fa 3 5] ++ [kU (.st 1 42 41)]))))
 y14z)
def ywn : CCode :=
 (.seq (.cond 33
 .skip
 (.exit 0))
 yx6)
def yyc : CCode :=
 (.seq (.region ([kO 33 (.bin .lss 32 31)]))
 ywn)
def yho : CCode :=
 (.loop [1, 5, 6, 30, 31, 32] yyc)
def y12u : CCode :=
 (.block 0 yho)
def yyw : CCode :=
 (.seq (.region (cs 30 [.mv 0,.len 1 30,.mv (ci 0)]))
 y12u)
def y13d : CCode :=
 (.seq yyw
 y14p)
def y151 : CCode :=
 (.seq (.region ([kO 6 (.mv (ci 0))]))
 y13d)
def y14m : CCode :=
 (.seq (.region (cs 28 [.buildS (some 0) 1 2 [(.int .i64 0)] [(0, (ci 2)), (1, (ci 3))],.build zq2 [(0, 1, 28)]] ++ cs 5 [.new (some 1) zq2] ++ [kU (.st 5 5 29)]))
 y151)
def yx7 : CCode :=
 (.seq (.seq (.region (cs 20 [.mv 0,.len 1 20,.bin .gtr 21 (ci 100),.mv 22] ++ cg 24 23 false [.mv 1,.len 1 24,.bin .gtr 25 (ci 100)] ++ cs 27 [.pick 23 (.c (.bool true)) 26]))
 (.cond 27
 (.seq (.region ([kO 4 (.mv (.c (.bool true)))]))
 .ret)
 .skip))
 y14m)
def y11z : CCode :=
 (.seq (.seq (.region (cs 18 [.call none true 230 [],.un .not 18]))
 (.cond 19
 (.seq (.region ([kO 4 (.mv (.c (.bool false)))]))
 .ret)
 .skip))
 yx7)
def yv8 : CCode :=
 (.seq (.region ([kO 4 (.mv (.c (.bool false)))]))
 y11z)
def y2ls : CFunc :=
 ⟨2, true, 10, yv8, [.t 4]⟩
def y1m7 : CCode :=
 (.seq (.region ([kO 0 (.mv (.c (.bool false)))]))
 (.seq (.region (cs 8 [.buildS (some 0) 1 2 [(.int .i64 0)] [(0, (ci 1)), (1, (ci 1))],.buildS (some 1) 1 2 [(.int .i64 0)] [(0, (ci 1)), (1, (ci 0))],.build zq0 [(0, 1, (ci 30)), (2, 1, (ci 1))],.buildS (some 2) 9 1 zq0 [(0, 10)],.build zq2 [(0, 1, 8), (1, 1, 9), (2, 1, (ci 1)), (3, 1, 11)],.call none true 231 [12]] ++ cs 7 [.mv 13] ++ cs 14 [.ext 0 7,.ext 1 7] ++ cs 1 [.new (some 3) zq1] ++ [kU (.st 8 1 14),kO 2 (.mv 15)]))
 (.seq (.region (cs 17 [.ld true 8 1,.call none true 233 [17, (ci 0)]] ++ cs 16 [.mv 18] ++ cs 19 [.ext 0 16,.ext 1 16] ++ cs 3 [.new (some 4) zq0] ++ [kU (.st 9 3 19),kO 4 (.mv 20)]))
 (.seq (.region (cs 22 [.build zq2 [],.call none true 231 [22]] ++ cs 21 [.mv 23] ++ cs 24 [.ext 0 21,.ext 1 21] ++ cs 5 [.new (some 5) zq1] ++ [kU (.st 8 5 24),kO 6 (.mv 25)]))
 (.seq (.region (cs 26 [.mv 2,.bin .eql 26 (ci 0),.mv 27] ++ cg 29 28 true [.fa 6 1,lf 29,.bin .eql 30 (ci 2)] ++ cs 32 [.pick 28 31 (.c (.bool false)),.mv 32] ++ cg 34 33 true [.fa 5 1,lf 34,.bin .eql 35 (ci 3)] ++ cs 37 [.pick 33 36 (.c (.bool false)),.mv 37] ++ cg 39 38 true [.fa 0 3,lf 39,.bin .eql 40 (ci 4)] ++ cs 42 [.pick 38 41 (.c (.bool false)),.mv 42] ++ cg 44 43 true [.mv 4,.bin .gtr 44 (ci 0)] ++ cs 46 [.pick 43 45 (.c (.bool false)),.mv 46] ++ cg 48 47 true [.mv 6,.bin .eql 48 (ci 80)] ++ cs 50 [.pick 47 49 (.c (.bool false))] ++ cs 0 [.mv 50]))
 .ret)))))
def y2i9 : CFunc :=
 ⟨0, true, 6, y1m7, [.t 0]⟩
def y25p : CCode :=
 (.seq (.region (cs 244 [.mv 6,.nilchk 244,.fa 0 245,.ld true 8 246] ++ [kU (.st 8 2 247),kO 3 (.mv (ci 0))]))
 .ret)
def y26q : CCode :=
 (.region ([kO 243 (.bin .add 210 (ci 1)),kO 210 (.mv 243)]))
def y26a : CCode :=
 (.seq (.block 11 (.seq (.region (cs 212 [.ixs 4 208 210,.ld true 4 212] ++ cs 22 [.new (some 13) zq3] ++ [kU (.st 4 22 213)]))
 (.draw (cs 214 [.mv 6,.mv 6,.nilchk 215,.fa 0 216,.fa 1 217,lf 218,.mv 13,.fa 0 22,lf 221,.ixs 1 220 222,lf 223,.mv 13,.fa 1 22,lf 226,.ixs 1 225 227,lf 228,.mv 13,.fa 2 22,lf 231,.ixs 1 230 232,lf 233,.fa 3 22,lf 235,.build zq3 [(0, 1, 224), (1, 1, 229), (2, 1, 234), (3, 1, 236)],.buildS (some 14) 4 1 zq3 [(0, 237)],.app (some 15) 4 40 219 238,.nilchk 214,.fa 0 240,.fa 1 241] ++ [kU (.st 1 242 239)]) [(5, 24)])))
 y26q)
def y279 : CCode :=
 (.seq (.cond 211
 .skip
 (.exit 10))
 y26a)
def y24x : CCode :=
 (.seq (.region ([kO 211 (.bin .lss 210 209)]))
 y279)
def ytf : CCode :=
 (.loop [2, 6, 13, 208, 209, 210] y24x)
def y26s : CCode :=
 (.block 10 ytf)
def y24p : CCode :=
 (.seq (.region (cs 207 [.fa 4 1,lf 207,.len 1 208,.mv (ci 0)]))
 y26s)
def y24t : CCode :=
 (.seq y24p
 y25p)
def y1q7 : CCode :=
 (.region ([kO 206 (.bin .add 183 (ci 1)),kO 183 (.mv 206)]))
def y1kb : CCode :=
 (.seq (.block 9 (.seq (.region (cs 185 [.ixs 1 181 183,lf 185] ++ cs 20 [.mv 186]))
 (.draw (cs 187 [.mv 6,.nilchk 187,.fa 0 188,.fa 0 189,lf 190,.mv 20,.mv 13,.mv 6,.nilchk 194,.fa 0 195,.fa 0 196,lf 197,.mv 20,.ixs 1 198 199,lf 200,.ixs 1 193 201,lf 202,.cvi .u32 203,.ixs 1 191 192] ++ [kU (.st 1 205 204)]) [])))
 y1q7)
def y1si : CCode :=
 (.seq (.cond 184
 .skip
 (.exit 8))
 y1kb)
def y1ig : CCode :=
 (.seq (.region ([kO 184 (.bin .lss 183 182)]))
 y1si)
def ymu : CCode :=
 (.loop [1, 2, 6, 13, 181, 182, 183] y1ig)
def y1fd : CCode :=
 (.block 8 ymu)
def y1ch : CCode :=
 (.seq (.region (cs 178 [.mv 6,.nilchk 178,.fa 10 179,lf 180,.len 1 181,.mv (ci 0)]))
 y1fd)
def y1sl : CCode :=
 (.seq y1ch
 y24t)
def y1qz : CCode :=
 (.seq (.draw (cs 167 [.mv 13,.fa 3 1,lf 168,.len 1 169,.mv 6,.nilchk 171,.fa 0 172,.fa 0 173,lf 174,.len 1 175,.ixs 1 167 170] ++ [kU (.st 1 177 176)]) [])
 y1sl)
def y1og : CCode :=
 (.region ([kO 166 (.bin .add 96 (ci 1)),kO 96 (.mv 166)]))
def y18f : CCode :=
 (.region (cs 163 [.mv 6,.ld true 9 15,.call none false 238 [163, 164]]))
def y1js : CCode :=
 (.draw (cs 151 [.mv 6,.mv 6,.nilchk 152,.fa 0 153,.fa 2 154,lf 155,.ld true 2 16,.buildS (some 11) 2 1 [(.int .i64 0), .nils] [(0, 157)],.app (some 12) 2 32 156 158,.nilchk 151,.fa 0 160,.fa 2 161] ++ [kU (.st 1 162 159)]) [(5, 7)])
def y1jt : CCode :=
 (.region ([kO 150 (.bin .add 130 (ci 1)),kO 130 (.mv 150)]))
def y1ay : CCode :=
 (.seq (.block 7 (.seq (.region (cs 132 [.mv 130,.ixs 1 128 130,lf 133] ++ cs 17 [.mv 132,.mv 134]))
 (.seq (.region (cs 135 [.mv 18,.bin .eql 135 (ci 3),.mv 136] ++ cg 138 137 true [.mv 12,.ld true 5 1,.mv 14,.mv 17,.call none true 88 [138, 139, 140, 141]] ++ cs 143 [.pick 137 142 (.c (.bool false))]))
 (.cond 143
 (.region (cs 144 [.fa 1 16,lf 144,.mv 17,.buildS none 1 1 [(.int .i64 0)] [(0, 146)],.app none 1 8 145 147,.fa 1 16] ++ [kU (.st 1 149 148)]))
 .skip))))
 y1jt)
def y1kh : CCode :=
 (.seq (.cond 131
 .skip
 (.exit 6))
 y1ay)
def y1lk : CCode :=
 (.seq (.region ([kO 131 (.bin .lss 130 129)]))
 y1kh)
def yni : CCode :=
 (.loop [1, 2, 6, 12, 13, 14, 15, 16, 94, 95, 96, 128, 129, 130] y1lk)
def y198 : CCode :=
 (.block 6 yni)
def y1ix : CCode :=
 (.seq (.region (cs 127 [.fa 0 1,lf 127,.len 1 128,.mv (ci 0)]))
 y198)
def y1ln : CCode :=
 (.seq y1ix
 y1js)
def y1kz : CCode :=
 (.seq (.region (cs 122 [.mv 13,.mv 14,.ixs 1 122 123,lf 124,.build [(.int .i64 0), .nils] [(0, 1, 125)]] ++ cs 16 [.new (some 10) [(.int .i64 0), .nils]] ++ [kU (.st 2 16 126)]))
 y1ln)
def y1ac : CCode :=
 (.cond 121
 y1kz
 .skip)
def y1mt : CCode :=
 (.seq (.region (cs 110 [.fa 0 15,lf 110,.bin .eql 111 (ci 20),.mv 112] ++ cg 114 113 false [.fa 0 15,lf 114,.bin .eql 115 (ci 21)] ++ cs 117 [.pick 113 (.c (.bool true)) 116,.mv 117] ++ cg 119 118 false [.ld true 9 15,.call none true 17 [119]] ++ cs 121 [.pick 118 (.c (.bool true)) 120]))
 y1ac)
def y1ba : CCode :=
 (.seq y1mt
 y18f)
def y1e6 : CCode :=
 (.seq (.region (cs 101 [.mv 13,.mv 14,.mv 6,.nilchk 103,.fa 0 104,.fa 0 105,lf 106,.len 1 107,.ixs 1 101 102] ++ [kU (.st 1 109 108)]))
 y1ba)
def y1b5 : CCode :=
 (.seq (.region (cs 98 [.mv 96,.ixs 9 94 96,.ld true 9 99] ++ cs 15 [.new (some 9) zq0] ++ cs 14 [.mv 98] ++ [kU (.st 9 15 100)]))
 y1e6)
def y1jd : CCode :=
 (.block 5 y1b5)
def y1cs : CCode :=
 (.seq y1jd
 y1og)
def y1a8 : CCode :=
 (.seq (.cond 97
 .skip
 (.exit 4))
 y1cs)
def y1oe : CCode :=
 (.seq (.region ([kO 97 (.bin .lss 96 95)]))
 y1a8)
def yns : CCode :=
 (.loop [1, 2, 6, 12, 13, 94, 95, 96] y1oe)
def y1rn : CCode :=
 (.block 4 yns)
def y1ol : CCode :=
 (.seq (.region (cs 93 [.fa 3 1,lf 93,.len 1 94,.mv (ci 0)]))
 y1rn)
def y1tc : CCode :=
 (.seq y1ol
 y1qz)
def y1mu : CCode :=
 (.seq (.region (cs 88 [.fa 3 1,lf 88,.len 1 89,.bin .add 90 (ci 1),.mkS (some 8) 1 8 [(.int .i64 0)] 91 91] ++ cs 13 [.mv 92]))
 y1tc)
def y1p2 : CCode :=
 (.seq (.region (cs 86 [.ld true 5 1,.call none true 75 [86]] ++ cs 12 [.mv 87]))
 y1mu)
def y1mi : CCode :=
 (.region ([kO 85 (.bin .add 74 (ci 1)),kO 74 (.mv 85)]))
def y1tf : CCode :=
 (.seq (.block 3 (.seq (.region (cs 76 [.ixs 2 72 74,.ld true 2 76] ++ cs 11 [.new (some 7) [(.int .i64 0), (.int .i64 0)]] ++ [kU (.st 2 11 77)]))
 (.region (cs 78 [.mv 6,.fa 0 11,lf 79,.fa 1 11,lf 81,.build zq0 [(0, 1, (ci 4)), (1, 1, 80), (2, 1, 82)],.call none false 238 [78, 83]]))))
 y1mi)
def y1r1 : CCode :=
 (.seq (.cond 75
 .skip
 (.exit 2))
 y1tf)
def y1it : CCode :=
 (.seq (.region ([kO 75 (.bin .lss 74 73)]))
 y1r1)
def yol : CCode :=
 (.loop [1, 2, 6, 72, 73, 74] y1it)
def y1e9 : CCode :=
 (.block 2 yol)
def y1bt : CCode :=
 (.seq (.region (cs 72 [.mv 7,.len 1 72,.mv (ci 0)]))
 y1e9)
def y1r3 : CCode :=
 (.seq y1bt
 y1p2)
def y1h8 : CCode :=
 (.seq (.region (cs 67 [.mv 7,.mv 5,.call none true 237 [67, 68]] ++ cs 66 [.mv 69] ++ cs 70 [.ext 0 66,.ext 1 66] ++ cs 7 [.mv 70]))
 y1r3)
def y1ou : CCode :=
 (.region ([kO 65 (.bin .add 54 (ci 1)),kO 54 (.mv 65)]))
def y1k8 : CCode :=
 (.seq (.block 1 (.seq (.region (cs 56 [.mv 54,.ixs 1 52 54,lf 57] ++ cs 8 [.mv 56,.mv 58]))
 (.region (cs 59 [.mv 7,.mv 9,.mv 8,.build [(.int .i64 0), (.int .i64 0)] [(0, 1, 60), (1, 1, 61)],.buildS (some 5) 2 1 [(.int .i64 0), (.int .i64 0)] [(0, 62)],.app (some 6) 2 16 59 63] ++ cs 7 [.mv 64]))))
 y1ou)
def y1np : CCode :=
 (.seq (.cond 55
 .skip
 (.exit 0))
 y1k8)
def y1mm : CCode :=
 (.seq (.region ([kO 55 (.bin .lss 54 53)]))
 y1np)
def ynq : CCode :=
 (.loop [1, 2, 5, 6, 7, 52, 53, 54] y1mm)
def y1rv : CCode :=
 (.block 0 ynq)
def y1oa : CCode :=
 (.seq (.region (cs 51 [.fa 1 1,lf 51,.len 1 52,.mv (ci 0)]))
 y1rv)
def y1hu : CCode :=
 (.seq y1oa
 y1h8)
def y1s3 : CCode :=
 (.seq (.region ([kO 7 (.mv (.c .nils))]))
 y1hu)
def y1kj : CCode :=
 (.seq (.region (cs 39 [.mkm (some 2),.mkm (some 3),.fa 1 1,lf 41,.len 1 42,.fa 2 1,lf 44,.mv 5,.bin .add 46 (ci 1),.build zq1 [(6, 1, 43), (7, 1, 45), (5, 1, 47)],.build zq4 [(8, 1, 39), (9, 1, 40), (0, 8, 48)],.box (some 4) 49] ++ cs 6 [.mv 50]))
 y1s3)
def y1ry : CCode :=
 (.seq (.seq (.region (cs 36 [.mv 5,.bin .geq 36 (ci 250)]))
 (.cond 37
 (.seq (.region ([kO 38 (.build zq1 []),kU (.st 8 2 38),kO 3 (.mv (ci 81))]))
 .ret)
 .skip))
 y1kj)
def y1hn : CCode :=
 (.seq (.region (cs 29 [.fa 0 1,lf 29,.len 1 30,.fa 1 1,lf 32,.len 1 33,.minmax true 31 34] ++ cs 5 [.mv 35]))
 y1ry)
def y1m9 : CCode :=
 (.seq (.seq (.region (cs 23 [.ld true 5 1,.call none true 8 [23]] ++ cs 4 [.mv 24]))
 (.seq (.region (cs 25 [.mv 4,.bin .neq 25 (ci 0)]))
 (.cond 26
 (.seq (.region (cs 27 [.build zq1 [],.mv 4] ++ [kU (.st 8 2 27),kO 3 (.mv 28)]))
 .ret)
 .skip)))
 y1hn)
def y1qv : CCode :=
 (.seq (.region (cs 1 [.box (some 0) 0,.new (some 1) zq1,.mv (ci 0)]))
 y1m9)
def c_q5 : CFunc :=
 ⟨1, true, 16, y1qv, [.cell 2 true 8, .t 3]⟩
def y1is : CCode :=
 (.seq (.draw (cs 34 [.mv 5,.mv 6,.mv 7,.buildS (some 6) 1 1 [(.int .i64 0)] [(0, 36)],.app (some 7) 1 8 35 37,.mv 7,.fa 0 1,lf 40,.len 1 41,.bin .eql 39 42] ++ cs 2 [.mv 34,.mv 38,.mv 43]) [(3, 7), (4, 7), (3, 8), (4, 8)])
 .ret)
def y1t6 : CCode :=
 (.seq (.region (cs 23 [.mv 5,.ld true 9 8,.buildS (some 2) 9 1 zq0 [(0, 24)],.app (some 3) 9 96 23 25,.mv 6,.mv 7,.buildS (some 4) 1 1 [(.int .i64 0)] [(0, 28)],.app (some 5) 1 8 27 29] ++ cs 5 [.mv 26,.mv 30]))
 (.region (cs 31 [.mv 7,.mv 9,.bin .add 31 32] ++ cs 7 [.mv 33])))
def y1kg : CCode :=
 (.seq (.seq (.region (cs 21 [.mv 9,.bin .lss 21 (ci 1)]))
 (.cond 22
 (.seq (.region (cs 2 [.mv (.c .nils),.mv (.c .nils),.mv (.c (.bool false))]))
 .ret)
 .skip))
 y1t6)
def y1qq : CCode :=
 (.seq (.region (cs 16 [.ld true 8 1,.mv 7,.call none true 233 [16, 17]] ++ cs 15 [.mv 18] ++ cs 19 [.ext 0 15,.ext 1 15] ++ cs 8 [.new (some 1) zq0] ++ [kU (.st 9 8 19),kO 9 (.mv 20)]))
 y1kg)
def y1i0 : CCode :=
 (.block 1 y1qq)
def y192 : CCode :=
 (.seq (.seq (.region (cs 10 [.mv 7,.fa 0 1,lf 11,.len 1 12,.bin .lss 10 13]))
 (.cond 14
 .skip
 (.exit 0)))
 y1i0)
def yno : CCode :=
 (.loop [1, 5, 6, 7] y192)
def y1hl : CCode :=
 (.block 0 yno)
def y1rk : CCode :=
 (.seq y1hl
 y1is)
def y12k : CCode :=
 (.seq (.region ([kO 7 (.mv (ci 0))]))
 y1rk)
def y0v : CCode :=
 (.seq (.region ([kO 6 (.mv (.c .nils))]))
 y12k)
def yv9 : CCode :=
 (.seq (.region ([kO 5 (.mv (.c .nils))]))
 y0v)
def yvq : CCode :=
 (.seq (.region (cs 1 [.box (some 0) 0,.mv (.c .nils),.mv (.c .nils),.mv (.c (.bool false))]))
 yv9)
def y2pg : CFunc :=
 ⟨1, true, 8, yvq, [.t 2, .t 3, .t 4]⟩
def y1iv : CCode :=
 (.seq (.region (cs 2 [.box (some 0) 0,.box (some 1) 1,.mv (.c (.bool false))]))
 (.seq (.region (cs 5 [.fa 0 2,lf 5,.fa 0 3,lf 7,.bin .eql 6 8,.mv 9] ++ cg 11 10 true [.fa 1 2,lf 11,.fa 1 3,lf 13,.bin .eql 12 14] ++ cs 16 [.pick 10 15 (.c (.bool false)),.mv 16] ++ cg 18 17 true [.fa 2 2,lf 18,.fa 2 3,lf 20,.bin .eql 19 21] ++ cs 23 [.pick 17 22 (.c (.bool false)),.mv 23] ++ cg 25 24 true [.fa 3 2,lf 25,.fa 3 3,lf 27,.bin .eql 26 28] ++ cs 30 [.pick 24 29 (.c (.bool false)),.mv 30] ++ cg 32 31 true [.fa 4 2,lf 32,.fa 4 3,lf 34,.bin .eql 33 35] ++ cs 37 [.pick 31 36 (.c (.bool false)),.mv 37] ++ cg 39 38 true [.fa 5 2,lf 39,.fa 5 3,lf 41,.bin .eql 40 42] ++ cs 44 [.pick 38 43 (.c (.bool false)),.mv 44] ++ cg 46 45 true [.fa 6 2,lf 46,.fa 6 3,lf 48,.bin .eql 47 49] ++ cs 51 [.pick 45 50 (.c (.bool false)),.mv 51] ++ cg 53 52 true [.fa 7 2,lf 53,.fa 7 3,lf 55,.bin .eql 54 56] ++ cs 58 [.pick 52 57 (.c (.bool false)),.mv 58] ++ cg 60 59 true [.fa 8 2,lf 60,.fa 8 3,lf 62,.call none true 11 [61, 63]] ++ cs 65 [.pick 59 64 (.c (.bool false))] ++ cs 4 [.mv 65]))
 .ret))
def y2j8 : CFunc :=
 ⟨2, true, 2, y1iv, [.t 4]⟩
def y19x : CCode :=
 (.seq (.region ([kO 4 (.mv (.c (.bool true)))]))
 .ret)
def y1nq : CCode :=
 (.region (cs 15 [.mv 5,.bin .add 15 (ci 1)] ++ cs 5 [.mv 16]))
def y1d7 : CCode :=
 (.seq (.block 1 (.seq (.draw (cs 17 [.mv 0,.mv 5,.ixs 1 17 18,lf 19,.mv 1,.mv 5,.ixs 1 21 22,lf 23,.bin .neq 20 24]) [])
 (.cond 25
 (.seq (.region ([kO 4 (.mv (.c (.bool false)))]))
 .ret)
 .skip)))
 y1nq)
def y1e5 : CCode :=
 (.seq (.seq (.region (cs 11 [.mv 5,.mv 0,.len 1 12,.bin .lss 11 13]))
 (.cond 14
 .skip
 (.exit 0)))
 y1d7)
def yom : CCode :=
 (.loop [0, 1, 5] y1e5)
def y1lz : CCode :=
 (.block 0 yom)
def y1b7 : CCode :=
 (.seq (.region ([kO 5 (.mv (ci 0))]))
 y1lz)
def y1l2 : CCode :=
 (.seq y1b7
 y19x)
def y1q6 : CCode :=
 (.seq (.seq (.region (cs 6 [.mv 0,.len 1 6,.mv 1,.len 1 8,.bin .neq 7 9]))
 (.cond 10
 (.seq (.region ([kO 4 (.mv (.c (.bool false)))]))
 .ret)
 .skip))
 y1l2)
def ywt : CCode :=
 (.seq (.region ([kO 4 (.mv (.c (.bool false)))]))
 y1q6)
def y2p7 : CFunc :=
 ⟨2, true, 0, ywt, [.t 4]⟩
def y26g : CCode :=
 (.seq (.region (cs 147 [.ld true 9 7,.mv 8] ++ [kU (.st 9 4 147),kO 5 (.mv 148)]))
 .ret)
def y25j : CCode :=
 (.region (cs 144 [.mv 8,.mv 13,.bin .add 144 145] ++ cs 8 [.mv 146]))
def y27l : CCode :=
 (.region ([kO 143 (.bin .add 132 (ci 1)),kO 132 (.mv 143)]))
def y24o : CCode :=
 (.seq (.block 1 (.seq (.region (cs 134 [.ixs 1 130 132,lf 134] ++ cs 15 [.mv 135]))
 (.region (cs 136 [.fa 8 7,lf 136,.mv 15,.cvi .i64 138,.buildS (some 3) 1 1 [(.int .i64 0)] [(0, 139)],.app (some 4) 1 8 137 140,.fa 8 7] ++ [kU (.st 1 142 141)]))))
 y27l)
def y26t : CCode :=
 (.seq (.cond 133
 .skip
 (.exit 0))
 y24o)
def y25x : CCode :=
 (.seq (.region ([kO 133 (.bin .lss 132 131)]))
 y26t)
def yso : CCode :=
 (.loop [4, 7, 8, 13, 130, 131, 132] y25x)
def y25s : CCode :=
 (.block 0 yso)
def y260 : CCode :=
 (.seq (.region (cs 120 [.fa 0 2,lf 120,.mv 1,.mv 8,.bin .add 122 123,.mv 1,.mv 8,.bin .add 125 126,.mv 13,.bin .add 127 128,.slc 1 121 (some 124) (some 129),.len 1 130,.mv (ci 0)]))
 y25s)
def y1t2 : CCode :=
 (.seq y260
 y25j)
def y1sq : CCode :=
 (.seq (.seq (.region (cs 110 [.mv 13,.fa 0 2,lf 111,.len 1 112,.mv 1,.bin .sub 113 114,.mv 8,.bin .sub 115 116,.bin .gtr 110 117]))
 (.cond 118
 (.seq (.region ([kO 119 (.build zq0 []),kU (.st 9 4 119),kO 5 (.mv (ci 0))]))
 .ret)
 .skip))
 y1t2)
def y1nh : CCode :=
 (.seq (.region (cs 106 [.mv 12,.ixs 1 106 (ci 1),lf 107,.cvi .i64 108] ++ cs 13 [.mv 109]))
 y1sq)
def y1di : CCode :=
 (.cond 105
 y1nh
 .skip)
def y1fv : CCode :=
 (.seq (.region (cs 104 [.ld true 9 7,.call none true 17 [104]]))
 y1di)
def y1fs : CCode :=
 (.seq y1fv
 y26g)
def y1g5 : CCode :=
 (.seq (.seq (.region (cs 99 [.ld true 8 2,.mv 12,.call none false 236 [99, 7, 100],.un .not 101]))
 (.cond 102
 (.seq (.region ([kO 103 (.build zq0 []),kU (.st 9 4 103),kO 5 (.mv (ci 0))]))
 .ret)
 .skip))
 y1fs)
def y1gn : CCode :=
 (.seq (.region (cs 91 [.fa 0 2,lf 91,.mv 1,.bin .add 93 (ci 1),.mv 1,.mv 8,.bin .add 95 96,.slc 1 92 (some 94) (some 97)] ++ cs 12 [.mv 98]))
 y1g5)
def y1ik : CCode :=
 (.seq (.seq (.region (cs 82 [.mv 10,.bin .geq 82 (ci 0),.mv 83] ++ cg 85 84 false [.fa 0 7,lf 85,.bin .eql 86 (ci 29)] ++ cs 88 [.pick 84 (.c (.bool true)) 87]))
 (.cond 88
 (.region (cs 89 [.mv 10,.fa 3 7] ++ [kU (.st 1 90 89)]))
 .skip))
 y1gn)
def y1je : CCode :=
 (.seq (.seq (.region (cs 73 [.mv 9,.bin .geq 73 (ci 0),.mv 74] ++ cg 76 75 false [.fa 0 7,lf 76,.bin .eql 77 (ci 30)] ++ cs 79 [.pick 75 (.c (.bool true)) 78]))
 (.cond 79
 (.region (cs 80 [.mv 9,.fa 2 7] ++ [kU (.st 1 81 80)]))
 .skip))
 y1ik)
def y1az : CCode :=
 (.seq (.seq (.region (cs 62 [.mv 6,.bin .shr 62 (.c (.int .u64 16)),.call none true 235 [63]] ++ cs 11 [.mv 64]))
 (.seq (.region (cs 65 [.mv 11,.bin .geq 65 (ci 0),.mv 66] ++ cg 68 67 false [.ld true 9 7,.call none true 17 [68]] ++ cs 70 [.pick 67 (.c (.bool true)) 69]))
 (.cond 70
 (.region (cs 71 [.mv 11,.fa 1 7] ++ [kU (.st 1 72 71)]))
 .skip)))
 y1je)
def y1ar : CCode :=
 (.seq (.region (cs 57 [.mv 6,.bin .shr 57 (.c (.int .u64 8)),.call none true 235 [58],.mv 6,.call none true 235 [60]] ++ cs 9 [.mv 59,.mv 61]))
 y1az)
def y1gr : CCode :=
 (.seq (.seq (.region (cs 39 [.fa 0 7,lf 39,.bin .lss 40 (ci 1),.mv 41] ++ cg 43 42 false [.fa 0 7,lf 43,.bin .gtr 44 (ci 33)] ++ cs 46 [.pick 42 (.c (.bool true)) 45,.mv 46] ++ cg 48 47 false [.mv 8,.fa 0 2,lf 49,.len 1 50,.mv 1,.bin .sub 51 52,.bin .gtr 48 53] ++ cs 55 [.pick 47 (.c (.bool true)) 54]))
 (.cond 55
 (.seq (.region ([kO 56 (.build zq0 []),kU (.st 9 4 56),kO 5 (.mv (ci 0))]))
 .ret)
 .skip))
 y1ar)
def y1k6 : CCode :=
 (.seq (.region (cs 35 [.fa 0 7,lf 35,.call none true 234 [36],.bin .add (ci 1) 37] ++ cs 8 [.mv 38]))
 y1gr)
def y1pq : CCode :=
 (.seq (.region (cs 31 [.mv 6,.bin .shr 31 (.c (.int .u64 24)),.cvi .i64 32,.build zq0 [(0, 1, 33)]] ++ cs 7 [.new (some 2) zq0] ++ [kU (.st 9 7 34)]))
 y1k6)
def y1aq : CCode :=
 (.seq (.region (cs 26 [.fa 0 2,lf 26,.mv 1,.ixs 1 27 28,lf 29] ++ cs 6 [.mv 30]))
 y1pq)
def y1hb : CCode :=
 (.seq (.seq (.region (cs 16 [.mv 1,.bin .lss 16 (ci 0),.mv 17] ++ cg 19 18 false [.mv 1,.fa 0 2,lf 20,.len 1 21,.bin .geq 19 22] ++ cs 24 [.pick 18 (.c (.bool true)) 23]))
 (.cond 24
 (.seq (.region ([kO 25 (.build zq0 []),kU (.st 9 4 25),kO 5 (.mv (ci 0))]))
 .ret)
 .skip))
 y1aq)
def y1bs : CCode :=
 (.seq (.region ([kO 2 (.box (some 0) 0)] ++ cs 4 [.new (some 1) zq0,.mv (ci 0)]))
 y1hb)
def c_q4 : CFunc :=
 ⟨2, true, 5, y1bs, [.cell 4 true 9, .t 5]⟩
def y1t0 : CCode :=
 (.seq (.region ([kO 2 (.mv (ci 0))]))
 .ret)
def y1hc : CCode :=
 (.region ([kO 179 (.bin .add 138 (ci 1)),kO 138 (.mv 179)]))
def y1fy : CCode :=
 (.seq (.block 7 (.seq (.region (cs 140 [.ixs 4 136 138,.ld true 4 140] ++ cs 11 [.new (some 2) zq3] ++ [kU (.st 4 11 141)]))
 (.seq (.region (cs 142 [.fa 0 11,lf 142,.bin .lss 143 (ci 0),.mv 144] ++ cg 146 145 false [.fa 0 11,lf 146,.fa 1 11,lf 148,.bin .geq 147 149] ++ cs 151 [.pick 145 (.c (.bool true)) 150,.mv 151] ++ cg 153 152 false [.fa 1 11,lf 153,.mv 3,.bin .gtr 154 155] ++ cs 157 [.pick 152 (.c (.bool true)) 156,.mv 157] ++ cg 159 158 false [.fa 2 11,lf 159,.bin .lss 160 (ci 0)] ++ cs 162 [.pick 158 (.c (.bool true)) 161,.mv 162] ++ cg 164 163 false [.fa 2 11,lf 164,.mv 3,.bin .geq 165 166] ++ cs 168 [.pick 163 (.c (.bool true)) 167,.mv 168] ++ cg 170 169 false [.fa 3 1,lf 170,.fa 2 11,lf 172,.ixs 9 171 173,.fa 0 174,lf 175,.bin .neq 176 (ci 32)] ++ cs 178 [.pick 169 (.c (.bool true)) 177]))
 (.cond 178
 (.seq (.region ([kO 2 (.mv (ci 80))]))
 .ret)
 .skip))))
 y1hc)
def y1cf : CCode :=
 (.seq (.cond 139
 .skip
 (.exit 6))
 y1fy)
def y1ll : CCode :=
 (.seq (.region ([kO 139 (.bin .lss 138 137)]))
 y1cf)
def yoj : CCode :=
 (.loop [1, 3, 136, 137, 138] y1ll)
def y1py : CCode :=
 (.block 6 yoj)
def y1qh : CCode :=
 (.seq (.region (cs 135 [.fa 4 1,lf 135,.len 1 136,.mv (ci 0)]))
 y1py)
def y19g : CCode :=
 (.seq y1qh
 y1t0)
def y143 : CCode :=
 (.region ([kO 134 (.bin .add 94 (ci 1)),kO 94 (.mv 134)]))
def yw5 : CCode :=
 (.seq (.region (cs 103 [.fa 0 9,lf 103,.bin .eql 104 (ci 32),.mv 105] ++ cg 107 106 true [.mv 8,.bin .eql 107 (ci 0),.mv 108] ++ cg 110 109 false [.fa 3 1,lf 110,.mv 8,.bin .sub 112 (ci 1),.ixs 9 111 113,.ld true 9 114,.call none true 24 [115],.un .not 116] ++ cg 118 106 true [.pick 109 (.c (.bool true)) 117] ++ cs 119 [.pick 106 118 (.c (.bool false)),.mv 119] ++ cg 121 120 false [.ld true 9 9,.call none true 22 [121],.mv 122] ++ cg 124 123 true [.fa 3 1,lf 124,.fa 6 9,lf 126,.ixs 9 125 127,.fa 0 128,lf 129,.bin .eql 130 (ci 32)] ++ cg 132 120 false [.pick 123 131 (.c (.bool false))] ++ cs 133 [.pick 120 (.c (.bool true)) 132]))
 (.cond 133
 (.seq (.region ([kO 2 (.mv (ci 80))]))
 .ret)
 .skip))
def yvb : CCode :=
 (.seq (.seq (.region (cs 99 [.ld true 5 1,.ld true 9 9,.call none true 63 [99, 100],.un .not 101]))
 (.cond 102
 (.seq (.region ([kO 2 (.mv (ci 80))]))
 .ret)
 .skip))
 yw5)
def y14t : CCode :=
 (.seq (.region (cs 96 [.mv 94,.ixs 9 92 94,.ld true 9 97] ++ cs 9 [.new (some 1) zq0] ++ cs 8 [.mv 96] ++ [kU (.st 9 9 98)]))
 yvb)
def y141 : CCode :=
 (.block 5 y14t)
def yvo : CCode :=
 (.seq y141
 y143)
def y157 : CCode :=
 (.seq (.cond 95
 .skip
 (.exit 4))
 yvo)
def yy6 : CCode :=
 (.seq (.region ([kO 95 (.bin .lss 94 93)]))
 y157)
def yjx : CCode :=
 (.loop [1, 3, 92, 93, 94] yy6)
def yz9 : CCode :=
 (.block 4 yjx)
def yw1 : CCode :=
 (.seq (.region (cs 91 [.fa 3 1,lf 91,.len 1 92,.mv (ci 0)]))
 yz9)
def yve : CCode :=
 (.seq yw1
 y19g)
def y06 : CCode :=
 (.region ([kO 90 (.bin .add 64 (ci 1)),kO 64 (.mv 90)]))
def y12v : CCode :=
 (.seq (.block 3 (.seq (.region (cs 66 [.mv 64,.ixs 1 62 64,lf 67] ++ cs 6 [.mv 66,.mv 68]))
 (.seq (.region (cs 69 [.mv 7,.bin .lss 69 (ci 0),.mv 70] ++ cg 72 71 false [.mv 7,.fa 0 1,lf 73,.len 1 74,.bin .geq 72 75] ++ cs 77 [.pick 71 (.c (.bool true)) 76,.mv 77] ++ cg 79 78 false [.fa 1 1,lf 79,.mv 6,.slc 1 80 none (some 81),.mv 7,.call none true 46 [82, 83]] ++ cs 85 [.pick 78 (.c (.bool true)) 84,.mv 85] ++ cg 87 86 false [.mv 6,.bin .gtr 87 (ci 20)] ++ cs 89 [.pick 86 (.c (.bool true)) 88]))
 (.cond 89
 (.seq (.region ([kO 2 (.mv (ci 80))]))
 .ret)
 .skip))))
 y06)
def yvz : CCode :=
 (.seq (.cond 65
 .skip
 (.exit 2))
 y12v)
def y0w : CCode :=
 (.seq (.region ([kO 65 (.bin .lss 64 63)]))
 yvz)
def yhl : CCode :=
 (.loop [1, 3, 62, 63, 64] y0w)
def ywz : CCode :=
 (.block 2 yhl)
def ywm : CCode :=
 (.seq (.region (cs 61 [.fa 1 1,lf 61,.len 1 62,.mv (ci 0)]))
 ywz)
def yvj : CCode :=
 (.seq ywm
 yve)
def yxx : CCode :=
 (.region ([kO 60 (.bin .add 50 (ci 1)),kO 50 (.mv 60)]))
def yvt : CCode :=
 (.seq (.block 1 (.seq (.region (cs 52 [.ixs 1 48 50,lf 52] ++ cs 5 [.mv 53]))
 (.seq (.region (cs 54 [.mv 5,.bin .lss 54 (ci 1),.mv 55] ++ cg 57 56 false [.mv 5,.bin .gtr 57 (ci 3)] ++ cs 59 [.pick 56 (.c (.bool true)) 58]))
 (.cond 59
 (.seq (.region ([kO 2 (.mv (ci 80))]))
 .ret)
 .skip))))
 yxx)
def y12y : CCode :=
 (.seq (.cond 51
 .skip
 (.exit 0))
 yvt)
def y138 : CCode :=
 (.seq (.region ([kO 51 (.bin .lss 50 49)]))
 y12y)
def yjm : CCode :=
 (.loop [1, 3, 48, 49, 50] y138)
def y15j : CCode :=
 (.block 0 yjm)
def yya : CCode :=
 (.seq (.region (cs 47 [.fa 0 1,lf 47,.len 1 48,.mv (ci 0)]))
 y15j)
def ywo : CCode :=
 (.seq yya
 yvj)
def y159 : CCode :=
 (.seq (.seq (.region (cs 15 [.mv 3,.bin .lss 15 (ci 1),.mv 16] ++ cg 18 17 false [.mv 3,.bin .gtr 18 (ci 20000)] ++ cs 20 [.pick 17 (.c (.bool true)) 19,.mv 20] ++ cg 22 21 false [.fa 0 1,lf 22,.len 1 23,.bin .gtr 24 (ci 20000)] ++ cs 26 [.pick 21 (.c (.bool true)) 25,.mv 26] ++ cg 28 27 false [.fa 2 1,lf 28,.bin .lss 29 (ci 0)] ++ cs 31 [.pick 27 (.c (.bool true)) 30,.mv 31] ++ cg 33 32 false [.fa 2 1,lf 33,.bin .gtr 34 (ci 3)] ++ cs 36 [.pick 32 (.c (.bool true)) 35,.mv 36] ++ cg 38 37 false [.fa 3 1,lf 38,.mv 3,.bin .sub 40 (ci 1),.ixs 9 39 41,.ld true 9 42,.call none true 24 [43],.un .not 44] ++ cs 46 [.pick 37 (.c (.bool true)) 45]))
 (.cond 46
 (.seq (.region ([kO 2 (.mv (ci 80))]))
 .ret)
 .skip))
 ywo)
def y133 : CCode :=
 (.seq (.region (cs 12 [.fa 3 1,lf 12,.len 1 13] ++ cs 3 [.mv 14]))
 y159)
def y142 : CCode :=
 (.seq (.region (cs 1 [.box (some 0) 0,.mv (ci 0)]))
 y133)
def y2kc : CFunc :=
 ⟨1, true, 3, y142, [.t 2]⟩
def y1g2 : CCode :=
 (.seq (.region ([kO 166 (.ld false 1 14)] ++ cs 4 [.mv 166,.mv (ci 0)]))
 .ret)
def y1ox : CCode :=
 (.region ([kO 165 (.bin .add 115 (ci 1)),kO 115 (.mv 165)]))
def y1nm : CCode :=
 (.seq (.region (cs 158 [lf 15,.fa 0 22,lf 159,.buildS (some 13) 1 1 [(.int .i64 0)] [(0, 160)],.app (some 14) 1 8 158 161] ++ [kU (.st 1 15 162)]))
 (.region (cs 163 [.mv 20,.callv none true 163 []])))
def y1te : CCode :=
 (.seq (.region (cs 142 [.mv 26,.fa 0 22,lf 143,.bin .eql 142 144]))
 (.cond 145
 (.seq (.region (cs 146 [lf 6,.mv 25,.mv 1] ++ [kU (.mput false [0] 146 147 148)]))
 (.seq (.region (cs 149 [lf 7,.mv 1,.mget false [0] (.int .i64 0) false 149 150,.bin .add 151 (ci 1)] ++ [kU (.mput false [0] 149 150 152)]))
 (.region (cs 153 [lf 7,.fa 0 22,lf 154,.mget false [0] (.int .i64 0) false 153 155,.bin .sub 156 (ci 1)] ++ [kU (.mput false [0] 153 155 157)]))))
 .skip))
def y1lb : CCode :=
 (.mrange ([kO 135 (.ld false 1 6)]) 135 [1, 6, 7, 14, 15, 20, 22, 113, 114, 115] [] 139 [
 kO 140 (.ext 0 139),
 kO 141 (.ext 1 139),
 kO 25 (.mv 140),
 kO 26 (.mv 141)] (.kill [] y1te) [
] .skip)
def y1f7 : CCode :=
 (.seq y1lb
 y1nm)
def y1ae : CCode :=
 (.seq (.region (cs 128 [lf 14,.mv 1,.fa 0 22,lf 130,.build [(.int .i64 0), (.int .i64 0)] [(0, 1, 129), (1, 1, 131)],.buildS (some 11) 2 1 [(.int .i64 0), (.int .i64 0)] [(0, 132)],.app (some 12) 2 16 128 133] ++ [kU (.st 1 14 134)]))
 y1f7)
def y19m : CCode :=
 (.seq (.seq (.region (cs 120 [lf 6,.fa 0 22,lf 121,.mget false [0] (.int .i64 0) true 120 122] ++ cs 119 [.mv 123] ++ cs 124 [.ext 0 119,.ext 1 119] ++ cs 23 [.mv 124,.mv 125]))
 (.seq (.region (cs 126 [.mv 24,.un .not 126]))
 (.cond 127
 (.exit 7)
 .skip)))
 y1ae)
def yz4 : CCode :=
 (.seq (.region (cs 117 [.ixs 2 113 115,.ld true 2 117] ++ cs 22 [.new (some 10) [(.int .i64 0), (.int .i64 0)]] ++ [kU (.st 2 22 118)]))
 y19m)
def y14y : CCode :=
 (.block 7 yz4)
def y13g : CCode :=
 (.seq y14y
 y1ox)
def y14v : CCode :=
 (.seq (.cond 116
 .skip
 (.exit 6))
 y13g)
def yzb : CCode :=
 (.seq (.region ([kO 116 (.bin .lss 115 114)]))
 y14v)
def ynn : CCode :=
 (.loop [1, 6, 7, 14, 15, 20, 113, 114, 115] yzb)
def y13e : CCode :=
 (.block 6 ynn)
def y131 : CCode :=
 (.seq (.region (cs 113 [.mv 0,.len 1 113,.mv (ci 0)]))
 y13e)
def y07 : CCode :=
 (.seq y131
 y1g2)
def yy2 : CCode :=
 (.seq (.region (cs 111 [.mv 20,.callv none true 111 []]))
 y07)
def ywc : CCode :=
 (.seq (.region ([kO 110 (.mkf 247 [15, 6, 14, 7]),kO 20 (.mv 110)]))
 yy2)
def yzq : CCode :=
 (.region ([kO 109 (.bin .add 79 (ci 1)),kO 79 (.mv 109)]))
def y12o : CCode :=
 (.seq (.block 5 (.seq (.region (cs 81 [.ixs 2 77 79,.ld true 2 81] ++ cs 17 [.new (some 7) [(.int .i64 0), (.int .i64 0)]] ++ [kU (.st 2 17 82)]))
 (.seq (.region (cs 84 [lf 6,.fa 0 17,lf 85,.mget false [0] (.int .i64 0) true 84 86] ++ cs 83 [.mv 87] ++ cs 88 [.ext 0 83,.ext 1 83] ++ cs 18 [.mv 88,.mv 89]))
 (.seq (.region (cs 90 [.mv 19,.mv 90] ++ cg 92 91 true [.mv 18,.fa 0 17,lf 93,.bin .neq 92 94] ++ cs 96 [.pick 91 95 (.c (.bool false)),.mv 96] ++ cg 98 97 true [lf 7,.fa 0 17,lf 99,.mget false [0] (.int .i64 0) false 98 100,.bin .eql 101 (ci 0)] ++ cs 103 [.pick 97 102 (.c (.bool false))]))
 (.cond 103
 (.region (cs 104 [lf 15,.fa 0 17,lf 105,.buildS (some 8) 1 1 [(.int .i64 0)] [(0, 106)],.app (some 9) 1 8 104 107] ++ [kU (.st 1 15 108)]))
 .skip)))))
 yzq)
def y132 : CCode :=
 (.seq (.cond 80
 .skip
 (.exit 4))
 y12o)
def yzj : CCode :=
 (.seq (.region ([kO 80 (.bin .lss 79 78)]))
 y132)
def yh8 : CCode :=
 (.loop [0, 1, 6, 7, 14, 15, 77, 78, 79] yzj)
def yvx : CCode :=
 (.block 4 yh8)
def y122 : CCode :=
 (.seq (.region (cs 77 [.mv 0,.len 1 77,.mv (ci 0)]))
 yvx)
def y15k : CCode :=
 (.seq y122
 ywc)
def y121 : CCode :=
 (.seq (.region ([kO 15 (.new (some 6) [.nils])]))
 y15k)
def yzd : CCode :=
 (.seq (.region ([kO 14 (.new (some 5) [.nils])]))
 y121)
def yx5 : CCode :=
 (.seq (.region (cs 68 [.mv 12,.mv 13,.bin .eql 68 69]))
 (.cond 70
 (.region (cs 71 [lf 6,.mv 12] ++ [kU (.mdel false [0] 71 72)]))
 (.region (cs 73 [lf 7,.mv 13,.mget false [0] (.int .i64 0) false 73 74,.bin .add 75 (ci 1)] ++ [kU (.mput false [0] 73 74 76)]))))
def yyq : CCode :=
 (.mrange ([kO 61 (.ld false 1 6)]) 61 [0, 1, 6, 7] [] 65 [
 kO 66 (.ext 0 65),
 kO 67 (.ext 1 65),
 kO 12 (.mv 66),
 kO 13 (.mv 67)] (.kill [] yx5) [
] .skip)
def y0h : CCode :=
 (.seq yyq
 yzd)
def y152 : CCode :=
 (.region ([kO 60 (.bin .add 31 (ci 1)),kO 31 (.mv 60)]))
def yzi : CCode :=
 (.region (cs 55 [lf 6,.fa 0 9,lf 56,.fa 1 9,lf 58] ++ [kU (.mput false [0] 55 57 59)]))
def yvh : CCode :=
 (.seq (.seq (.region (cs 36 [lf 6,.fa 0 9,lf 37,.mget false [0] (.int .i64 0) true 36 38] ++ cs 35 [.mv 39] ++ cs 40 [.ext 0 35,.ext 1 35] ++ cs 10 [.mv 40,.mv 41]))
 (.seq (.region (cs 42 [.mv 11,.mv 42] ++ cg 44 43 false [.fa 0 9,lf 44,.mv 1,.bin .eql 45 46] ++ cs 48 [.pick 43 (.c (.bool true)) 47,.mv 48] ++ cg 50 49 false [.fa 1 9,lf 50,.mv 1,.bin .eql 51 52] ++ cs 54 [.pick 49 (.c (.bool true)) 53]))
 (.cond 54
 (.seq (.region (cs 4 [.mv (.c .nils),.mv (ci 1)]))
 .ret)
 .skip)))
 yzi)
def y11o : CCode :=
 (.seq (.region (cs 33 [.ixs 2 29 31,.ld true 2 33] ++ cs 9 [.new (some 4) [(.int .i64 0), (.int .i64 0)]] ++ [kU (.st 2 9 34)]))
 yvh)
def yv7 : CCode :=
 (.block 1 y11o)
def y14c : CCode :=
 (.seq yv7
 y152)
def yyg : CCode :=
 (.seq (.cond 32
 .skip
 (.exit 0))
 y14c)
def y0c : CCode :=
 (.seq (.region ([kO 32 (.bin .lss 31 30)]))
 yyg)
def yiz : CCode :=
 (.loop [0, 1, 6, 7, 29, 30, 31] y0c)
def y136 : CCode :=
 (.block 0 yiz)
def ywu : CCode :=
 (.seq (.region (cs 29 [.mv 0,.len 1 29,.mv (ci 0)]))
 y136)
def y11s : CCode :=
 (.seq ywu
 y0h)
def yyk : CCode :=
 (.seq (.region ([kO 28 (.mkm (some 2)),kO 7 (.new (some 3) [.nilm]),kU (.st 1 7 28)]))
 y11s)
def y12n : CCode :=
 (.seq (.region ([kO 27 (.mkm (some 0)),kO 6 (.new (some 1) [.nilm]),kU (.st 1 6 27)]))
 yyk)
def yxw : CCode :=
 (.seq (.region (cs 4 [.mv (.c .nils),.mv (ci 0)]))
 y12n)
def y2l8 : CFunc :=
 ⟨2, true, 15, yxw, [.t 4, .t 5]⟩
def y1h6 : CCode :=
 (.cond 88
 (.seq (.region (cs 92 [.mv 0,.mv 0,.fa 5 3,lf 94,.call none false 243 [93, 95],.call none false 242 [92, 96]]))
 (.region (cs 98 [.mv 0,.ld true 9 3,.call none false 246 [98, 99]])))
 .skip)
def y1sg : CCode :=
 (.seq (.seq (.region ([kO 89 (.bin .eql 25 (ci 23)),kO 88 (.mv 89)]))
 (.cond 88
 .skip
 (.seq (.region ([kO 90 (.bin .eql 25 (ci 24)),kO 88 (.mv 90)]))
 (.cond 88
 .skip
 (.region ([kO 91 (.bin .eql 25 (ci 26)),kO 88 (.mv 91)]))))))
 y1h6)
def y1me : CCode :=
 (.cond 77
 (.seq (.region (cs 79 [.mv 0,.mv 0,.fa 7 3,lf 81,.call none false 244 [80, 82],.call none false 242 [79, 83]]))
 (.region (cs 85 [.mv 0,.ld true 9 3,.call none false 246 [85, 86]])))
 y1sg)
def y1m3 : CCode :=
 (.seq (.region ([kO 78 (.bin .eql 25 (ci 25)),kO 77 (.mv 78)]))
 y1me)
def y1k4 : CCode :=
 (.cond 65
 (.seq (.region (cs 68 [.mv 0,.fa 6 3,lf 69,.call none false 245 [68, 70]]))
 (.region (cs 72 [.mv 0,.fa 5 3,lf 73,.cvi .u32 74,.call none false 242 [72, 75]])))
 y1m3)
def y1mf : CCode :=
 (.seq (.seq (.region ([kO 66 (.bin .eql 25 (ci 28)),kO 65 (.mv 66)]))
 (.cond 65
 .skip
 (.region ([kO 67 (.bin .eql 25 (ci 29)),kO 65 (.mv 67)]))))
 y1k4)
def y18h : CCode :=
 (.cond 59
 (.region (cs 61 [.mv 0,.fa 6 3,lf 62,.call none false 245 [61, 63]]))
 y1mf)
def y1bb : CCode :=
 (.seq (.region ([kO 60 (.bin .eql 25 (ci 27)),kO 59 (.mv 60)]))
 y18h)
def y1fp : CCode :=
 (.cond 52
 (.region (cs 54 [.mv 0,.fa 4 3,lf 55,.call none true 240 [56],.call none false 242 [54, 57]]))
 y1bb)
def yz5 : CCode :=
 (.seq (.region ([kO 53 (.bin .eql 25 (ci 14)),kO 52 (.mv 53)]))
 y1fp)
def yyd : CCode :=
 (.cond 41
 (.region (cs 46 [.mv 0,.mv 0,.fa 7 3,lf 48,.call none false 244 [47, 49],.call none false 242 [46, 50]]))
 yz5)
def yy5 : CCode :=
 (.seq (.seq (.region ([kO 42 (.bin .eql 25 (ci 3)),kO 41 (.mv 42)]))
 (.cond 41
 .skip
 (.seq (.region ([kO 43 (.bin .eql 25 (ci 12)),kO 41 (.mv 43)]))
 (.cond 41
 .skip
 (.seq (.region ([kO 44 (.bin .eql 25 (ci 21)),kO 41 (.mv 44)]))
  (.cond 41
  .skip
  (.region ([kO 45 (.bin .eql 25 (ci 22)),kO 41 (.mv 45)]))))))))
 yyd)
def y111 : CCode :=
 (.cond 26
 (.region (cs 35 [.mv 0,.mv 0,.fa 5 3,lf 37,.call none false 243 [36, 38],.call none false 242 [35, 39]]))
 yy5)
def yzv : CCode :=
 (.seq (.seq (.region ([kO 27 (.bin .eql 25 (ci 1)),kO 26 (.mv 27)]))
 (.cond 26
 .skip
 (.seq (.region ([kO 28 (.bin .eql 25 (ci 5)),kO 26 (.mv 28)]))
 (.cond 26
 .skip
 (.seq (.region ([kO 29 (.bin .eql 25 (ci 6)),kO 26 (.mv 29)]))
  (.cond 26
  .skip
  (.seq (.region ([kO 30 (.bin .eql 25 (ci 16)),kO 26 (.mv 30)]))
  (.cond 26
  .skip
  (.seq (.region ([kO 31 (.bin .eql 25 (ci 17)),kO 26 (.mv 31)]))
   (.cond 26
   .skip
   (.seq (.region ([kO 32 (.bin .eql 25 (ci 18)),kO 26 (.mv 32)]))
   (.cond 26
   .skip
   (.seq (.region ([kO 33 (.bin .eql 25 (ci 19)),kO 26 (.mv 33)]))
    (.cond 26
    .skip
    (.region ([kO 34 (.bin .eql 25 (ci 20)),kO 26 (.mv 34)]))))))))))))))))
 y111)
def y13m : CCode :=
 (.block 0 yzv)
def ywk : CCode :=
 (.seq (.region (cs 24 [.fa 0 3,lf 24]))
 y13m)
def yxz : CCode :=
 (.seq (.draw (cs 4 [.mv 0,.fa 0 3,lf 5,.cvi .u32 6,.bin .shl 7 (.c (.int .u64 24)),.ld true 9 3,.call none true 239 [9],.call none true 240 [10],.bin .shl 11 (.c (.int .u64 16)),.bin .or 8 12,.ld true 9 3,.call none true 241 [14, (ci 0)],.call none true 240 [15],.bin .shl 16 (.c (.int .u64 8)),.bin .or 13 17,.ld true 9 3,.call none true 241 [19, (ci 1)],.call none true 240 [20],.bin .or 18 21,.call none false 242 [4, 22]]) [(2, 6), (2, 7), (6, 10), (7, 10), (2, 11), (2, 12), (6, 15), (7, 15), (11, 15), (12, 15), (2, 16), (2, 17)])
 ywk)
def yyt : CCode :=
 (.seq (.region ([kO 3 (.box (some 0) 1)]))
 yxz)
def y2ot : CFunc :=
 ⟨2, false, 1, yyt, []⟩
def y1kd : CCode :=
 (.seq (.region ([kO 179 (.mv 5),kO 2 (.mv 179)]))
 .ret)
def y1hi : CCode :=
 (.region (cs 74 [.mv 7,.bin .sub 74 (ci 1)] ++ cs 7 [.mv 75]))
def y1ql : CCode :=
 (.region (cs 167 [.mv 5,.nilchk 167,.fa 0 168,lf 169,.mv 7,.ixs 1 170 171,lf 172,.mv 12,.call none false 84 [173, 174],.mv 175] ++ cg 177 176 false [.mv 6] ++ cs 178 [.pick 176 (.c (.bool true)) 177] ++ cs 6 [.mv 178]))
def y1mb : CCode :=
 (.region ([kO 166 (.bin .add 159 (ci 1)),kO 159 (.mv 166)]))
def y1p3 : CCode :=
 (.seq (.block 11 (.seq (.region (cs 161 [.ixs 1 157 159,lf 161] ++ cs 15 [.mv 162]))
 (.region (cs 163 [.mv 12,.mv 15,.call none false 86 [163, 164]]))))
 y1mb)
def y1qf : CCode :=
 (.seq (.cond 160
 .skip
 (.exit 10))
 y1p3)
def yuy : CCode :=
 (.seq (.region ([kO 160 (.bin .lss 159 158)]))
 y1qf)
def ync : CCode :=
 (.loop [1, 3, 5, 6, 7, 12, 157, 158, 159] yuy)
def y14j : CCode :=
 (.block 10 ync)
def y11b : CCode :=
 (.seq (.region (cs 152 [.fa 3 1,lf 152,.mv 7,.ixs 9 153 154,.ld true 9 155,.call none true 10 [156],.len 1 157,.mv (ci 0)]))
 y14j)
def y129 : CCode :=
 (.seq y11b
 y1ql)
def y14a : CCode :=
 (.seq (.region (cs 143 [.mv 12,.mv 5,.nilchk 144,.fa 2 145,lf 146,.mv 7,.ixs 1 147 148,lf 149,.call none false 84 [143, 150]]))
 y129)
def y0s : CCode :=
 (.seq (.seq (.region (cs 132 [.fa 3 1,lf 132,.mv 7,.ixs 9 133 134,.ld true 9 135,.call none true 9 [136]] ++ cs 13 [.mv 137]))
 (.seq (.region (cs 138 [.mv 13,.bin .geq 138 (ci 0)]))
 (.cond 139
 (.region (cs 140 [.mv 12,.mv 13,.call none false 85 [140, 141]]))
 .skip)))
 y14a)
def y14f : CCode :=
 (.seq (.region (cs 124 [.mv 5,.nilchk 124,.fa 1 125,lf 126,.mv 7,.ixs 1 127 128,lf 129,.app (some 2) 1 8 (.c .nils) 130] ++ cs 12 [.mv 131]))
 y0s)
def ywg : CCode :=
 (.region ([kO 123 (.bin .add 104 (ci 1)),kO 104 (.mv 123)]))
def yvc : CCode :=
 (.seq (.block 9 (.seq (.region (cs 106 [.ixs 1 102 104,lf 106] ++ cs 11 [.mv 107]))
 (.draw (cs 108 [.mv 5,.nilchk 108,.fa 2 109,lf 110,.mv 7,.ixs 1 111 112,lf 113,.mv 5,.nilchk 115,.fa 0 116,lf 117,.mv 11,.ixs 1 118 119,lf 120,.call none false 84 [114, 121]]) [])))
 ywg)
def y0e : CCode :=
 (.seq (.cond 105
 .skip
 (.exit 8))
 yvc)
def yvu : CCode :=
 (.seq (.region ([kO 105 (.bin .lss 104 103)]))
 y0e)
def yir : CCode :=
 (.loop [1, 3, 5, 6, 7, 102, 103, 104] yvu)
def y11e : CCode :=
 (.block 8 yir)
def yz6 : CCode :=
 (.seq (.region (cs 100 [.ld true 5 1,.mv 7,.call none true 79 [100, 101],.len 1 102,.mv (ci 0)]))
 y11e)
def y11t : CCode :=
 (.seq yz6
 y14f)
def y15c : CCode :=
 (.region ([kO 99 (.bin .add 80 (ci 1)),kO 80 (.mv 99)]))
def yv3 : CCode :=
 (.seq (.block 7 (.seq (.region (cs 82 [.ixs 1 78 80,lf 82] ++ cs 9 [.mv 83]))
 (.draw (cs 84 [.mv 5,.nilchk 84,.fa 1 85,lf 86,.mv 7,.ixs 1 87 88,lf 89,.mv 5,.nilchk 91,.fa 0 92,lf 93,.mv 9,.ixs 1 94 95,lf 96,.call none false 84 [90, 97]]) [])))
 y15c)
def yxs : CCode :=
 (.seq (.cond 81
 .skip
 (.exit 6))
 yv3)
def y115 : CCode :=
 (.seq (.region ([kO 81 (.bin .lss 80 79)]))
 yxs)
def yhq : CCode :=
 (.loop [1, 3, 5, 6, 7, 78, 79, 80] y115)
def yyo : CCode :=
 (.block 6 yhq)
def y14o : CCode :=
 (.seq (.region (cs 76 [.ld true 5 1,.mv 7,.call none true 81 [76, 77],.len 1 78,.mv (ci 0)]))
 yyo)
def y13z : CCode :=
 (.seq y14o
 y11t)
def y14i : CCode :=
 (.block 5 y13z)
def y0x : CCode :=
 (.seq y14i
 y1hi)
def y12g : CCode :=
 (.seq (.seq (.region (cs 72 [.mv 7,.bin .geq 72 (ci 0)]))
 (.cond 73
 .skip
 (.exit 4)))
 y0x)
def ynk : CCode :=
 (.loop [1, 3, 5, 6, 7] y12g)
def yxr : CCode :=
 (.block 4 ynk)
def yuz : CCode :=
 (.seq (.region (cs 70 [.mv 3,.bin .sub 70 (ci 1)] ++ cs 7 [.mv 71]))
 yxr)
def y0l : CCode :=
 (.seq (.region ([kO 6 (.mv (.c (.bool false)))]))
 yuz)
def yv5 : CCode :=
 (.block 3 y0l)
def yw3 : CCode :=
 (.seq (.seq (.region ([kO 69 (.mv 6)]))
 (.cond 69
 .skip
 (.exit 2)))
 yv5)
def yne : CCode :=
 (.loop [1, 3, 5, 6] yw3)
def yz1 : CCode :=
 (.block 2 yne)
def yvs : CCode :=
 (.seq (.region ([kO 6 (.mv (.c (.bool true)))]))
 yz1)
def y127 : CCode :=
 (.seq yvs
 y1kd)
def yze : CCode :=
 (.region ([kO 68 (.bin .add 33 (ci 1)),kO 33 (.mv 68)]))
def y154 : CCode :=
 (.seq (.block 1 (.drawN 9 (cs 35 [.mv 5,.mv 5,.mv 5,.mv 5,.nilchk 38,.fa 0 39,lf 40,.mv 4,.mkS (some 0) 1 8 [(.int .u64 0)] 42 42,.buildS (some 1) 1 1 [.nils] [(0, 43)],.app (some 2) 1 24 41 44,.mv 5,.nilchk 46,.fa 1 47,lf 48,.mv 4,.mkS (some 3) 1 8 [(.int .u64 0)] 50 50,.buildS (some 4) 1 1 [.nils] [(0, 51)],.app (some 5) 1 24 49 52,.mv 5,.nilchk 54,.fa 2 55,lf 56,.mv 4,.mkS (some 6) 1 8 [(.int .u64 0)] 58 58,.buildS (some 7) 1 1 [.nils] [(0, 59)],.app (some 8) 1 24 57 60,.nilchk 35,.fa 0 62] ++ [kU (.st 1 63 45)] ++ cs 64 [.nilchk 36,.fa 1 64] ++ [kU (.st 1 65 53)] ++ cs 66 [.nilchk 37,.fa 2 66] ++ [kU (.st 1 67 61)]) [(6, 8), (6, 9), (8, 14), (9, 14), (10, 14), (6, 16), (8, 16), (9, 16), (10, 16), (14, 16), (6, 17), (8, 17), (9, 17), (10, 17), (14, 17), (8, 22), (9, 22), (10, 22), (16, 22), (17, 22), (18, 22), (6, 24), (8, 24), (9, 24), (10, 24), (14, 24), (16, 24), (17, 24), (18, 24), (22, 24), (6, 25), (8, 25), (9, 25), (10, 25), (14, 25), (16, 25), (17, 25), (18, 25), (22, 25)]))
 yze)
def yx8 : CCode :=
 (.seq (.cond 34
 .skip
 (.exit 0))
 y154)
def yzs : CCode :=
 (.seq (.region ([kO 34 (.bin .lss 33 32)]))
 yx8)
def yjf : CCode :=
 (.loop [1, 3, 4, 5, 32, 33] yzs)
def y00 : CCode :=
 (.block 0 yjf)
def yx3 : CCode :=
 (.seq (.region (cs 32 [.mv 3,.mv (ci 0)]))
 y00)
def y137 : CCode :=
 (.seq yx3
 y127)
def y0i : CCode :=
 (.seq (.region (cs 27 [.fa 0 1,lf 27,.len 1 28,.build zq5 [(3, 1, 29)],.box (some 1) 30] ++ cs 5 [.mv 31]))
 y137)
def yyy : CCode :=
 (.seq (.draw (cs 19 [.fa 3 1,lf 19,.len 1 20,.fa 0 1,lf 22,.len 1 23,.bin .quo 24 (ci 64),.bin .add 25 (ci 1)] ++ cs 3 [.mv 21,.mv 26]) [])
 y0i)
def yz7 : CCode :=
 (.seq (.seq (.region (cs 16 [.ld true 5 1,.call none true 8 [16],.bin .neq 17 (ci 0)]))
 (.cond 18
 (.seq (.region ([kO 2 (.mv (.c .nilp))]))
 .ret)
 .skip))
 yyy)
def yxb : CCode :=
 (.seq (.region (cs 1 [.box (some 0) 0,.mv (.c .nilp)]))
 yz7)
def y2kx : CFunc :=
 ⟨1, true, 3, yxb, [.t 2]⟩
def y1t3 : CCode :=
 (.seq (.region (cs 1 [.box (some 0) 0,.mv (.c (.bool false))]))
 (.seq (.region (cs 3 [.fa 0 1,lf 3,.bin .geq 4 (ci 23),.mv 5] ++ cg 7 6 true [.fa 0 1,lf 7,.bin .leq 8 (ci 26)] ++ cs 10 [.pick 6 9 (.c (.bool false))] ++ cs 2 [.mv 10]))
 .ret))
def y2o4 : CFunc :=
 ⟨1, true, 1, y1t3, [.t 2]⟩
def y18w : CCode :=
 (.seq (.region (cs 31 [.mv 0,.mv 0,.nilchk 32,.fa 2 33,lf 34,.mv 2,.mv 3,.call none true 82 [31, 35, 36, 37],.mv 38] ++ cg 40 39 false [.mv 0,.mv 0,.nilchk 41,.fa 1 42,lf 43,.mv 2,.mv 3,.call none true 82 [40, 44, 45, 46],.mv 47] ++ cg 49 48 true [.fa 3 5,lf 49,.mv 2,.ixs 9 50 51,.ld true 9 52,.call none true 9 [53],.mv 3,.bin .neq 54 55] ++ cg 57 39 false [.pick 48 56 (.c (.bool false))] ++ cs 58 [.pick 39 (.c (.bool true)) 57] ++ cs 8 [.mv 58]))
 .ret)
def y1bc : CCode :=
 (.seq (.seq (.region (cs 9 [.mv 0,.eqn 0 false 9 (.c .nilp),.mv 10] ++ cg 12 11 false [.mv 2,.bin .lss 12 (ci 0)] ++ cs 14 [.pick 11 (.c (.bool true)) 13,.mv 14] ++ cg 16 15 false [.mv 2,.fa 3 5,lf 17,.len 1 18,.bin .geq 16 19] ++ cs 21 [.pick 15 (.c (.bool true)) 20,.mv 21] ++ cg 23 22 false [.mv 2,.mv 0,.nilchk 24,.fa 1 25,lf 26,.len 1 27,.bin .geq 23 28] ++ cs 30 [.pick 22 (.c (.bool true)) 29]))
 (.cond 30
 (.seq (.region ([kO 8 (.mv (.c (.bool false)))]))
 .ret)
 .skip))
 y18w)
def y1c9 : CCode :=
 (.seq (.region ([kO 5 (.box (some 0) 1),kO 8 (.mv (.c (.bool false)))]))
 y1bc)
def y2kp : CFunc :=
 ⟨4, true, 1, y1c9, [.t 8]⟩
def y1ff : CCode :=
 (.seq (.region ([kO 2 (.mv (ci 0))]))
 .ret)
def y1fw : CCode :=
 (.cond 19
 (.seq (.region ([kO 2 (.mv (ci 2))]))
 .ret)
 .skip)
def y1dg : CCode :=
 (.seq (.seq (.region ([kO 20 (.bin .eql 3 (ci 28)),kO 19 (.mv 20)]))
 (.cond 19
 .skip
 (.seq (.region ([kO 21 (.bin .eql 3 (ci 29)),kO 19 (.mv 21)]))
 (.cond 19
 .skip
 (.seq (.region ([kO 22 (.bin .eql 3 (ci 23)),kO 19 (.mv 22)]))
  (.cond 19
  .skip
  (.seq (.region ([kO 23 (.bin .eql 3 (ci 24)),kO 19 (.mv 23)]))
  (.cond 19
  .skip
  (.seq (.region ([kO 24 (.bin .eql 3 (ci 25)),kO 19 (.mv 24)]))
   (.cond 19
   .skip
   (.region ([kO 25 (.bin .eql 3 (ci 26)),kO 19 (.mv 25)]))))))))))))
 y1fw)
def y1j7 : CCode :=
 (.cond 4
 (.seq (.region ([kO 2 (.mv (ci 1))]))
 .ret)
 y1dg)
def y1ab : CCode :=
 (.seq (.seq (.region ([kO 5 (.bin .eql 3 (ci 1)),kO 4 (.mv 5)]))
 (.cond 4
 .skip
 (.seq (.region ([kO 6 (.bin .eql 3 (ci 3)),kO 4 (.mv 6)]))
 (.cond 4
 .skip
 (.seq (.region ([kO 7 (.bin .eql 3 (ci 5)),kO 4 (.mv 7)]))
  (.cond 4
  .skip
  (.seq (.region ([kO 8 (.bin .eql 3 (ci 6)),kO 4 (.mv 8)]))
  (.cond 4
  .skip
  (.seq (.region ([kO 9 (.bin .eql 3 (ci 12)),kO 4 (.mv 9)]))
   (.cond 4
   .skip
   (.seq (.region ([kO 10 (.bin .eql 3 (ci 14)),kO 4 (.mv 10)]))
   (.cond 4
   .skip
   (.seq (.region ([kO 11 (.bin .eql 3 (ci 16)),kO 4 (.mv 11)]))
    (.cond 4
    .skip
    (.seq (.region ([kO 12 (.bin .eql 3 (ci 17)),kO 4 (.mv 12)]))
    (.cond 4
    .skip
    (.seq (.region ([kO 13 (.bin .eql 3 (ci 18)),kO 4 (.mv 13)]))
     (.cond 4
     .skip
     (.seq (.region ([kO 14 (.bin .eql 3 (ci 19)),kO 4 (.mv 14)]))
     (.cond 4
     .skip
     (.seq (.region ([kO 15 (.bin .eql 3 (ci 20)),kO 4 (.mv 15)]))
      (.cond 4
      .skip
      (.seq (.region ([kO 16 (.bin .eql 3 (ci 21)),kO 4 (.mv 16)]))
      (.cond 4
      .skip
      (.seq (.region ([kO 17 (.bin .eql 3 (ci 22)),kO 4 (.mv 17)]))
       (.cond 4
       .skip
       (.region ([kO 18 (.bin .eql 3 (ci 27)),kO 4 (.mv 18)]))))))))))))))))))))))))))))
 y1j7)
def y1dn : CCode :=
 (.block 0 y1ab)
def y1sr : CCode :=
 (.seq (.region ([kO 3 (.mv 0)]))
 y1dn)
def y1gz : CCode :=
 (.seq y1sr
 y1ff)
def y1s0 : CCode :=
 (.seq (.region ([kO 2 (.mv (ci 0))]))
 y1gz)
def y2iq : CFunc :=
 ⟨1, true, 0, y1s0, [.t 2]⟩
def y25d : CCode :=
 (.seq (.region (cs 6 [.mv 0,.bin .and 6 (.c (.int .u32 255)),.cvi .i64 7] ++ cs 2 [.mv 8]))
 .ret)
def y26d : CCode :=
 (.seq (.seq (.region (cs 3 [.mv 0,.bin .and 3 (.c (.int .u32 255)),.bin .eql 4 (.c (.int .u32 255))]))
 (.cond 5
 (.seq (.region ([kO 2 (.mv (ci (-1)))]))
 .ret)
 .skip))
 y25d)
def y25e : CCode :=
 (.seq (.region ([kO 2 (.mv (ci 0))]))
 y26d)
def c_q7 : CFunc :=
 ⟨1, true, 0, y25e, [.t 2]⟩
def y1ad : CCode :=
 (.seq (.region ([kO 6 (.mv (.c (.bool true)))]))
 .ret)
def y1ij : CCode :=
 (.region (cs 43 [.mv 1,.fa 4 3,lf 44,.mv 7,.ixs 1 45 46,lf 47,.nilchk 43,.fa 7 49] ++ [kU (.st 1 50 48)]))
def y1r2 : CCode :=
 (.seq (.seq (.region (cs 38 [.mv 7,.fa 4 3,lf 39,.len 1 40,.bin .geq 38 41]))
 (.cond 42
 (.seq (.region ([kO 6 (.mv (.c (.bool false)))]))
 .ret)
 .skip))
 y1ij)
def y1ap : CCode :=
 (.region (cs 24 [.mv 1,.fa 3 3,lf 25,.mv 7,.ixs 1 26 27,lf 28,.nilchk 24,.fa 5 30] ++ [kU (.st 1 31 29)]))
def y1kv : CCode :=
 (.seq (.seq (.region (cs 19 [.mv 7,.fa 3 3,lf 20,.len 1 21,.bin .geq 19 22]))
 (.cond 23
 (.seq (.region ([kO 6 (.mv (.c (.bool false)))]))
 .ret)
 .skip))
 y1ap)
def y1ld : CCode :=
 (.cond 63
 (.region (cs 66 [.mv 1,.mv 1,.mv 7,.mv 2,.ixs 1 69 (ci 1),lf 70,.cvi .i64 71,.nilchk 66,.fa 6 73] ++ [kU (.st 1 74 68)] ++ cs 75 [.nilchk 67,.fa 5 75] ++ [kU (.st 1 76 72)]))
 y1kv)
def y1ku : CCode :=
 (.seq (.seq (.region ([kO 64 (.bin .eql 18 (ci 28)),kO 63 (.mv 64)]))
 (.cond 63
 .skip
 (.region ([kO 65 (.bin .eql 18 (ci 29)),kO 63 (.mv 65)]))))
 y1ld)
def y1dd : CCode :=
 (.cond 57
 (.region (cs 59 [.mv 1,.mv 7,.nilchk 59,.fa 6 61] ++ [kU (.st 1 62 60)]))
 y1ku)
def y1cx : CCode :=
 (.seq (.region ([kO 58 (.bin .eql 18 (ci 27)),kO 57 (.mv 58)]))
 y1dd)
def yyv : CCode :=
 (.cond 51
 (.region (cs 53 [.mv 1,.mv 7,.nilchk 53,.fa 4 55] ++ [kU (.st 1 56 54)]))
 y1cx)
def y12x : CCode :=
 (.seq (.region ([kO 52 (.bin .eql 18 (ci 14)),kO 51 (.mv 52)]))
 yyv)
def y11f : CCode :=
 (.cond 32
 y1r2
 y12x)
def yz3 : CCode :=
 (.seq (.seq (.region ([kO 33 (.bin .eql 18 (ci 3)),kO 32 (.mv 33)]))
 (.cond 32
 .skip
 (.seq (.region ([kO 34 (.bin .eql 18 (ci 12)),kO 32 (.mv 34)]))
 (.cond 32
 .skip
 (.seq (.region ([kO 35 (.bin .eql 18 (ci 21)),kO 32 (.mv 35)]))
  (.cond 32
  .skip
  (.seq (.region ([kO 36 (.bin .eql 18 (ci 22)),kO 32 (.mv 36)]))
  (.cond 32
  .skip
  (.region ([kO 37 (.bin .eql 18 (ci 25)),kO 32 (.mv 37)]))))))))))
 y11f)
def yvf : CCode :=
 (.block 0 yz3)
def yxf : CCode :=
 (.seq (.region (cs 15 [.mv 1,.nilchk 15,.fa 0 16,lf 17]))
 yvf)
def y11k : CCode :=
 (.seq yxf
 y1ad)
def yyn : CCode :=
 (.seq (.region (cs 11 [.mv 2,.ixs 1 11 (ci 0),lf 12,.cvi .i64 13] ++ cs 7 [.mv 14]))
 y11k)
def y13p : CCode :=
 (.seq (.seq (.region (cs 8 [.mv 2,.len 1 8,.bin .eql 9 (ci 0)]))
 (.cond 10
 (.seq (.region ([kO 6 (.mv (.c (.bool true)))]))
 .ret)
 .skip))
 yyn)
def y14l : CCode :=
 (.seq (.region ([kO 3 (.box (some 0) 0),kO 6 (.mv (.c (.bool false)))]))
 y13p)
def y2jk : CFunc :=
 ⟨3, false, 1, y14l, [.t 6]⟩
def y1gu : CCode :=
 (.seq (.region (cs 1 [.box (some 0) 0,.mv (.c (.bool false))]))
 (.seq (.region (cs 3 [.fa 0 1,lf 3,.bin .eql 4 (ci 27),.mv 5] ++ cg 7 6 false [.fa 0 1,lf 7,.bin .eql 8 (ci 30)] ++ cs 10 [.pick 6 (.c (.bool true)) 9,.mv 10] ++ cg 12 11 false [.fa 0 1,lf 12,.bin .eql 13 (ci 31)] ++ cs 15 [.pick 11 (.c (.bool true)) 14] ++ cs 2 [.mv 15]))
 .ret))
def y2on : CFunc :=
 ⟨1, true, 1, y1gu, [.t 2]⟩
def yzr : CCode :=
 (.seq (.region ([kO 4 (.mv (.c (.bool false)))]))
 (.seq (.region (cs 5 [.mv 0,.mv 1,.call none true 45 [5, 6],.bin .geq 7 (ci 0)] ++ cs 4 [.mv 8]))
 .ret))
def y26w : CFunc :=
 ⟨2, true, 0, yzr, [.t 4]⟩
def y1lr : CCode :=
 (.seq (.region (cs 183 [.ld true 9 3,.call none true 22 [183],.un .not 184,.mv 185] ++ cg 187 186 false [.fa 6 3,lf 187,.bin .geq 188 (ci 0),.mv 189] ++ cg 191 190 true [.fa 6 3,lf 191,.fa 3 2,lf 193,.len 1 194,.bin .lss 192 195] ++ cg 197 186 false [.pick 190 196 (.c (.bool false))] ++ cs 198 [.pick 186 (.c (.bool true)) 197] ++ cs 4 [.mv 198]))
 .ret)
def y1ct : CCode :=
 (.seq (.seq (.region (cs 105 [.fa 0 3,lf 105]))
 (.block 4 (.seq (.region ([kO 108 (.bin .eql 106 (ci 1)),kO 107 (.mv 108)]))
 (.cond 107
 (.seq (.region (cs 109 [.fa 0 2,lf 109,.fa 1 3,lf 111,.ixs 1 110 112,lf 113,.bin .neq 114 (ci 3),.mv 115] ++ cg 117 116 true [.fa 0 2,lf 117,.fa 1 3,lf 119,.ixs 1 118 120,lf 121,.bin .eql 122 (ci 2),.mv 123] ++ cg 125 124 false [.fa 5 3,lf 125,.fa 5 3,lf 127,.cvi .i32 128,.cvi .i64 129,.bin .eql 126 130] ++ cg 132 116 true [.pick 124 (.c (.bool true)) 131] ++ cs 133 [.pick 116 132 (.c (.bool false))] ++ cs 4 [.mv 133]))
 .ret)
 (.seq (.region ([kO 135 (.bin .eql 106 (ci 4)),kO 134 (.mv 135)]))
 (.cond 134
 (.seq (.draw (cs 136 [.fa 0 2,lf 136,.fa 1 3,lf 138,.ixs 1 137 139,lf 140,.fa 0 2,lf 142,.fa 2 3,lf 144,.ixs 1 143 145,lf 146,.bin .eql 141 147] ++ cs 4 [.mv 148]) [])
  .ret)
 (.seq (.region ([kO 150 (.bin .eql 106 (ci 7)),kO 149 (.mv 150)]))
  (.cond 149
  (.seq (.region (cs 151 [.fa 0 2,lf 151,.fa 2 3,lf 153,.ixs 1 152 154,lf 155,.bin .neq 156 (ci 3)] ++ cs 4 [.mv 157]))
  .ret)
  (.seq (.region ([kO 159 (.bin .eql 106 (ci 30)),kO 158 (.mv 159)]))
  (.cond 158
  (.seq (.draw (cs 160 [.fa 2 3,lf 160,.bin .eql 161 (ci (-1)),.fa 2 2,lf 163,.bin .eql 164 (ci 0),.eqb false 162 165,.mv 166] ++ cg 168 167 true [.fa 2 3,lf 168,.bin .eql 169 (ci (-1)),.mv 170] ++ cg 172 171 false [.fa 0 2,lf 172,.fa 2 3,lf 174,.ixs 1 173 175,lf 176,.fa 2 2,lf 178,.bin .eql 177 179] ++ cg 181 167 true [.pick 171 (.c (.bool true)) 180] ++ cs 182 [.pick 167 181 (.c (.bool false))] ++ cs 4 [.mv 182]) [])
   .ret)
  .skip))))))))))
 y1lr)
def y1nr : CCode :=
 (.region ([kO 104 (.bin .add 65 (ci 1)),kO 65 (.mv 104)]))
def y1sw : CCode :=
 (.seq (.region (cs 73 [.mv 10,.bin .lss 73 (ci 0),.mv 74] ++ cg 76 75 false [.mv 10,.fa 0 2,lf 77,.len 1 78,.bin .geq 76 79] ++ cs 81 [.pick 75 (.c (.bool true)) 80,.mv 81] ++ cg 83 82 false [.mv 9,.bin .eql 83 (ci 0),.mv 84] ++ cg 86 85 true [.fa 0 3,lf 86,.bin .eql 87 (ci 24),.mv 88] ++ cg 90 89 false [.fa 0 3,lf 90,.bin .eql 91 (ci 25)] ++ cg 93 85 true [.pick 89 (.c (.bool true)) 92] ++ cg 94 82 false [.pick 85 93 (.c (.bool false)),.mv 94] ++ cg 96 95 true [.fa 0 2,lf 96,.mv 10,.ixs 1 97 98,lf 99,.bin .neq 100 (ci 3)] ++ cg 102 82 false [.pick 95 101 (.c (.bool false))] ++ cs 103 [.pick 82 (.c (.bool true)) 102]))
 (.cond 103
 (.seq (.region ([kO 4 (.mv (.c (.bool false)))]))
 .ret)
 .skip))
def y1ma : CCode :=
 (.seq (.seq (.region (cs 70 [.ld true 9 3,.call none true 17 [70],.un .not 71]))
 (.cond 72
 (.exit 2)
 .skip))
 y1sw)
def y1ls : CCode :=
 (.seq (.region (cs 67 [.mv 65,.ixs 1 63 65,lf 68] ++ cs 9 [.mv 67,.mv 69]))
 y1ma)
def y17z : CCode :=
 (.block 3 y1ls)
def y1qe : CCode :=
 (.seq y17z
 y1nr)
def y13w : CCode :=
 (.seq (.cond 66
 .skip
 (.exit 2))
 y1qe)
def yxg : CCode :=
 (.seq (.region ([kO 66 (.bin .lss 65 64)]))
 y13w)
def yo4 : CCode :=
 (.loop [2, 3, 63, 64, 65] yxg)
def y14e : CCode :=
 (.block 2 yo4)
def y14n : CCode :=
 (.seq (.region (cs 62 [.fa 8 3,lf 62,.len 1 63,.mv (ci 0)]))
 y14e)
def yws : CCode :=
 (.seq y14n
 y1ct)
def yxj : CCode :=
 (.region ([kO 61 (.bin .add 27 (ci 1)),kO 27 (.mv 61)]))
def yzw : CCode :=
 (.seq (.draw (cs 35 [.mv 8,.bin .lss 35 (ci 0),.mv 36] ++ cg 38 37 false [.mv 8,.fa 0 2,lf 39,.len 1 40,.bin .geq 38 41] ++ cs 43 [.pick 37 (.c (.bool true)) 42,.mv 43] ++ cg 45 44 false [.mv 7,.ixa 4 1 5 45,lf 46,.bin .gtr 47 (ci 0),.mv 48] ++ cg 50 49 true [.fa 0 2,lf 50,.mv 8,.ixs 1 51 52,lf 53,.mv 7,.ixa 4 1 5 55,lf 56,.bin .neq 54 57] ++ cg 59 44 false [.pick 49 58 (.c (.bool false))] ++ cs 60 [.pick 44 (.c (.bool true)) 59]) [])
 (.cond 60
 (.seq (.region ([kO 4 (.mv (.c (.bool false)))]))
 .ret)
 .skip))
def yxu : CCode :=
 (.seq (.seq (.region (cs 31 [.mv 7,.ixa 4 1 5 31,lf 32,.bin .lss 33 (ci 0)]))
 (.cond 34
 (.exit 1)
 .skip))
 yzw)
def yx0 : CCode :=
 (.seq (.region (cs 29 [.mv 27,.ixv false 4 1 26 27] ++ cs 7 [.mv 29,.mv 30]))
 yxu)
def yz0 : CCode :=
 (.block 1 yx0)
def yy1 : CCode :=
 (.seq yz0
 yxj)
def yzp : CCode :=
 (.seq (.cond 28
 .skip
 (.exit 0))
 yy1)
def yxo : CCode :=
 (.seq (.region ([kO 28 (.bin .lss 27 (ci 4))]))
 yzp)
def yjr : CCode :=
 (.loop [2, 3, 5, 26, 27] yxo)
def yxi : CCode :=
 (.block 0 yjr)
def y140 : CCode :=
 (.seq (.region (cs 18 [.fa 1 3,lf 18,.fa 2 3,lf 20,.fa 3 3,lf 22,.fa 4 3,lf 24,.build zq6 [(0, 1, 19), (1, 1, 21), (2, 1, 23), (3, 1, 25)],.mv (ci 0)]))
 yxi)
def yzl : CCode :=
 (.seq y140
 yws)
def y11r : CCode :=
 (.seq (.seq (.region (cs 16 [.mv 6,.un .not 16]))
 (.cond 17
 (.seq (.region ([kO 4 (.mv (.c (.bool false)))]))
 .ret)
 .skip))
 yzl)
def y12t : CCode :=
 (.seq (.region (cs 12 [.ld true 9 3,.call none true 47 [12]] ++ cs 11 [.mv 13] ++ cs 14 [.ext 0 11,.ext 1 11] ++ cs 5 [.new (some 2) zq6] ++ [kU (.st 4 5 14),kO 6 (.mv 15)]))
 y11r)
def yvn : CCode :=
 (.seq (.region (cs 2 [.box (some 0) 0,.box (some 1) 1,.mv (.c (.bool false))]))
 y12t)
def y2mg : CFunc :=
 ⟨2, true, 3, yvn, [.t 4]⟩
def y1i2 : CCode :=
 (.seq (.region (cs 1 [.box (some 0) 0,.mv (.c (.bool false))]))
 (.seq (.region (cs 3 [.fa 0 1,lf 3,.bin .eql 4 (ci 27),.mv 5] ++ cg 7 6 false [.fa 0 1,lf 7,.bin .eql 8 (ci 28)] ++ cs 10 [.pick 6 (.c (.bool true)) 9,.mv 10] ++ cg 12 11 false [.fa 0 1,lf 12,.bin .eql 13 (ci 29)] ++ cs 15 [.pick 11 (.c (.bool true)) 14] ++ cs 2 [.mv 15]))
 .ret))
def y2kb : CFunc :=
 ⟨1, true, 1, y1i2, [.t 2]⟩
def y1s2 : CCode :=
 (.block 1 (.seq (.region (cs 11 [lf 0,.ixs 1 11 (ci 0),lf 12] ++ cs 4 [.mv 13]))
 (.seq (.region (cs 14 [lf 0,.slc 1 14 (some (ci 1)) none] ++ [kU (.st 1 0 15)]))
 (.seq (.region (cs 16 [lf 1,.mv 4,.mget false [0] (.int .i64 0) false 16 17] ++ cs 5 [.mv 18]))
 (.seq (.region (cs 19 [lf 2,.mv 4,.mv 5,.build [(.int .i64 0), (.int .i64 0)] [(0, 1, 20), (1, 1, 21)],.buildS (some 0) 2 1 [(.int .i64 0), (.int .i64 0)] [(0, 22)],.app (some 1) 2 16 19 23] ++ [kU (.st 1 2 24)]))
 (.seq (.region (cs 25 [lf 1,.mv 4] ++ [kU (.mdel false [0] 25 26)]))
 (.seq (.region (cs 27 [lf 3,.mv 5,.mget false [0] (.int .i64 0) false 27 28,.bin .sub 29 (ci 1)] ++ [kU (.mput false [0] 27 28 30)]))
 (.seq (.region (cs 31 [lf 3,.mv 5,.mget false [0] (.int .i64 0) false 31 32,.bin .eql 33 (ci 0)]))
 (.cond 34
 (.seq (.region (cs 36 [lf 1,.mv 5,.mget false [0] (.int .i64 0) true 36 37] ++ cs 35 [.mv 38] ++ cs 39 [.ext 0 35,.ext 1 35] ++ cs 6 [.mv 39,.mv 40]))
 (.seq (.region ([kO 41 (.mv 7)]))
 (.cond 41
 (.region (cs 42 [lf 0,.mv 5,.buildS (some 2) 1 1 [(.int .i64 0)] [(0, 43)],.app (some 3) 1 8 42 44] ++ [kU (.st 1 0 45)]))
 .skip)))
 .skip)))))))))
def y1sk : CCode :=
 (.seq (.seq (.region (cs 8 [lf 0,.len 1 8,.bin .gtr 9 (ci 0)]))
 (.cond 10
 .skip
 (.exit 0)))
 y1s2)
def yon : CCode :=
 (.loop [0, 1, 2, 3] y1sk)
def y1q3 : CCode :=
 (.block 0 yon)
def y2ph : CFunc :=
 ⟨4, false, 4, y1q3, []⟩
def y196 : CCode :=
 (.region (cs 4 [.mv 0,.mv 0,.nilchk 5,.fa 0 6,.fa 0 7,lf 8,.mv 1,.buildS (some 0) 1 1 [(.int .u32 0)] [(0, 10)],.app (some 1) 1 4 9 11,.nilchk 4,.fa 0 13,.fa 0 14] ++ [kU (.st 1 15 12)]))
def y2kq : CFunc :=
 ⟨2, false, 2, y196, []⟩
def y1h2 : CCode :=
 (.seq (.region (cs 5 [.mv 0,.cvi .u32 5] ++ cs 2 [.mv 6]))
 .ret)
def y1a2 : CCode :=
 (.seq (.seq (.region (cs 3 [.mv 0,.bin .lss 3 (ci 0)]))
 (.cond 4
 (.seq (.region ([kO 2 (.mv (.c (.int .u32 255)))]))
 .ret)
 .skip))
 y1h2)
def y1ec : CCode :=
 (.seq (.region ([kO 2 (.mv (.c (.int .u32 0)))]))
 y1a2)
def y2pm : CFunc :=
 ⟨1, true, 0, y1ec, [.t 2]⟩
def y1gl : CCode :=
 (.seq (.region (cs 1 [.box (some 0) 0,.mv (ci 0)]))
 (.seq (.region (cs 3 [.ld true 9 1,.call none true 9 [3]] ++ cs 2 [.mv 4]))
 .ret))
def y2pk : CFunc :=
 ⟨1, true, 1, y1gl, [.t 2]⟩
def y1j8 : CCode :=
 (.seq (.region ([kO 4 (.mv (ci (-1)))]))
 .ret)
def y1pr : CCode :=
 (.seq (.seq (.region (cs 6 [.ld true 9 2,.call none true 10 [6]] ++ cs 5 [.mv 7]))
 (.seq (.region (cs 8 [.ld true 9 2,.call none true 17 [8],.un .not 9,.mv 10] ++ cg 12 11 true [.mv 1,.mv 5,.len 1 13,.bin .lss 12 14] ++ cs 16 [.pick 11 15 (.c (.bool false))]))
 (.cond 16
 (.seq (.region (cs 17 [.mv 5,.mv 1,.ixs 1 17 18,lf 19] ++ cs 4 [.mv 20]))
 .ret)
 .skip)))
 y1j8)
def y1j1 : CCode :=
 (.seq (.region ([kO 2 (.box (some 0) 0),kO 4 (.mv (ci 0))]))
 y1pr)
def y2i6 : CFunc :=
 ⟨2, true, 1, y1j1, [.t 4]⟩
def y251 : CCode :=
 (.seq (.region (cs 42 [.mv 5,.cvi .u32 42] ++ cs 4 [.mv 43]))
 .ret)
def y26y : CCode :=
 (.seq (.seq (.region (cs 16 [.mv 6,.un .not 16]))
 (.cond 17
 (.seq (.region (cs 18 [.mv 0,.nilchk 18,.fa 0 19,.fa 3 20,lf 21,.len 1 22] ++ cs 5 [.mv 23]))
 (.seq (.region (cs 24 [.mv 0,.nilchk 24,.fa 8 25,lf 26,.mv 1,.mv 5] ++ [kU (.mput false [0] 27 28 29)]))
 (.region (cs 30 [.mv 0,.mv 0,.nilchk 31,.fa 0 32,.fa 3 33,lf 34,.mv 1,.buildS (some 0) 1 1 [(.int .i64 0)] [(0, 36)],.app (some 1) 1 8 35 37,.nilchk 30,.fa 0 39,.fa 3 40] ++ [kU (.st 1 41 38)]))))
 .skip))
 y251)
def y27c : CCode :=
 (.seq (.region (cs 8 [.mv 0,.nilchk 8,.fa 8 9,lf 10,.mv 1,.mget false [0] (.int .i64 0) true 11 12] ++ cs 7 [.mv 13] ++ cs 14 [.ext 0 7,.ext 1 7] ++ cs 5 [.mv 14,.mv 15]))
 y26y)
def y273 : CCode :=
 (.seq (.region ([kO 4 (.mv (.c (.int .u32 0)))]))
 y27c)
def c_q9 : CFunc :=
 ⟨2, false, 2, y273, [.t 4]⟩
def y1k1 : CCode :=
 (.seq (.region (cs 42 [.mv 5,.cvi .u32 42] ++ cs 4 [.mv 43]))
 .ret)
def y1o3 : CCode :=
 (.seq (.seq (.region (cs 16 [.mv 6,.un .not 16]))
 (.cond 17
 (.seq (.region (cs 18 [.mv 0,.nilchk 18,.fa 0 19,.fa 4 20,lf 21,.len 1 22] ++ cs 5 [.mv 23]))
 (.seq (.region (cs 24 [.mv 0,.nilchk 24,.fa 9 25,lf 26,.mv 1,.mv 5] ++ [kU (.mput false [2] 27 28 29)]))
 (.region (cs 30 [.mv 0,.mv 0,.nilchk 31,.fa 0 32,.fa 4 33,lf 34,.mv 1,.buildS (some 0) 1 1 [(.str [])] [(0, 36)],.app (some 1) 1 16 35 37,.nilchk 30,.fa 0 39,.fa 4 40] ++ [kU (.st 1 41 38)]))))
 .skip))
 y1k1)
def y1f0 : CCode :=
 (.seq (.region (cs 8 [.mv 0,.nilchk 8,.fa 9 9,lf 10,.mv 1,.mget false [2] (.int .i64 0) true 11 12] ++ cs 7 [.mv 13] ++ cs 14 [.ext 0 7,.ext 1 7] ++ cs 5 [.mv 14,.mv 15]))
 y1o3)
def y1l5 : CCode :=
 (.seq (.region ([kO 4 (.mv (.c (.int .u32 0)))]))
 y1f0)
def y2k3 : CFunc :=
 ⟨2, false, 2, y1l5, [.t 4]⟩
def y18c : CCode :=
 (.seq (.draw (cs 4 [.mv 0,.mv 0,.nilchk 5,.fa 10 6,lf 7,.mv 0,.nilchk 9,.fa 0 10,.fa 0 11,lf 12,.len 1 13,.buildS (some 0) 1 1 [(.int .i64 0)] [(0, 14)],.app (some 1) 1 8 8 15,.nilchk 4,.fa 10 17] ++ [kU (.st 1 18 16)]) [(4, 11)])
 (.region (cs 19 [.mv 0,.mv 1,.cvi .u32 20,.call none false 242 [19, 21]])))
def y2p5 : CFunc :=
 ⟨2, false, 2, y18c, []⟩
def y24v : CCode :=
 (.region ([kO 23 (.bin .add 15 (ci 1)),kO 15 (.mv 23)]))
def y274 : CCode :=
 (.seq (.block 1 (.seq (.region (cs 17 [.ixs 1 13 15,lf 17] ++ cs 5 [.mv 18]))
 (.region (cs 19 [.mv 0,.mv 5,.call none true 240 [20],.call none false 242 [19, 21]]))))
 y24v)
def y27n : CCode :=
 (.seq (.cond 16
 .skip
 (.exit 0))
 y274)
def y26l : CCode :=
 (.seq (.region ([kO 16 (.bin .lss 15 14)]))
 y27n)
def ysz : CCode :=
 (.loop [0, 13, 14, 15] y26l)
def y26u : CCode :=
 (.block 0 ysz)
def y258 : CCode :=
 (.seq (.region (cs 12 [.fa 8 3,lf 12,.len 1 13,.mv (ci 0)]))
 y26u)
def y263 : CCode :=
 (.seq (.region (cs 6 [.mv 0,.fa 8 3,lf 7,.len 1 8,.cvi .u32 9,.call none false 242 [6, 10]]))
 y258)
def y25q : CCode :=
 (.seq (.region ([kO 3 (.box (some 0) 1)]))
 y263)
def c_q8 : CFunc :=
 ⟨2, false, 1, y25q, []⟩
def y1g6 : CCode :=
 (.seq (.region ([kO 43 (.mv 6),kO 4 (.mv 43)]))
 .ret)
def y1oo : CCode :=
 (.seq (.seq (.region (cs 29 [.ld true 9 5,.call none true 22 [29],.mv 30] ++ cg 32 31 true [.mv 6,.fa 6 5,lf 33,.call none true 46 [32, 34],.un .not 35] ++ cs 37 [.pick 31 36 (.c (.bool false))]))
 (.cond 37
 (.region (cs 38 [.mv 6,.fa 6 5,lf 39,.buildS (some 4) 1 1 [(.int .i64 0)] [(0, 40)],.app (some 5) 1 8 38 41] ++ cs 6 [.mv 42]))
 .skip))
 y1g6)
def y19k : CCode :=
 (.seq (.seq (.region (cs 21 [.ld true 9 5,.call none true 24 [21],.un .not 22]))
 (.cond 23
 (.region (cs 24 [.mv 6,.mv 1,.bin .add 25 (ci 1),.buildS (some 2) 1 1 [(.int .i64 0)] [(0, 26)],.app (some 3) 1 8 24 27] ++ cs 6 [.mv 28]))
 .skip))
 y1oo)
def y1i7 : CCode :=
 (.seq (.region ([kO 6 (.mv (.c .nils))]))
 y19k)
def y19u : CCode :=
 (.seq (.region (cs 16 [.fa 3 2,lf 16,.mv 1,.ixs 9 17 18,.ld true 9 19] ++ cs 5 [.new (some 1) zq0] ++ [kU (.st 9 5 20)]))
 y1i7)
def y1lv : CCode :=
 (.seq (.seq (.region (cs 7 [.mv 1,.bin .lss 7 (ci 0),.mv 8] ++ cg 10 9 false [.mv 1,.fa 3 2,lf 11,.len 1 12,.bin .geq 10 13] ++ cs 15 [.pick 9 (.c (.bool true)) 14]))
 (.cond 15
 (.seq (.region ([kO 4 (.mv (.c .nils))]))
 .ret)
 .skip))
 y19u)
def y1ps : CCode :=
 (.seq (.region ([kO 2 (.box (some 0) 0),kO 4 (.mv (.c .nils))]))
 y1lv)
def y2mj : CFunc :=
 ⟨2, true, 6, y1ps, [.t 4]⟩
def y1sf : CCode :=
 (.seq (.region ([kO 33 (.mv 5),kO 4 (.mv 33)]))
 .ret)
def y1c4 : CCode :=
 (.region ([kO 32 (.bin .add 10 (ci 1)),kO 10 (.mv 32)]))
def y1rz : CCode :=
 (.seq (.block 1 (.seq (.region (cs 12 [.mv 10,.ixs 1 8 10,lf 13] ++ cs 6 [.mv 12,.mv 14]))
 (.seq (.region (cs 15 [.mv 5,.mv 15] ++ cg 17 16 false [.mv 7,.mv 0,.mv 6,.ixs 1 18 19,lf 20,.bin .andNot 17 21,.bin .neq 22 (.c (.int .u64 0))] ++ cs 24 [.pick 16 (.c (.bool true)) 23] ++ cs 5 [.mv 24]))
 (.region (cs 25 [.mv 0,.mv 6,.ixs 1 25 26,lf 27,.mv 7,.bin .or 28 29,.ixs 1 25 26] ++ [kU (.st 1 31 30)])))))
 y1c4)
def y1hx : CCode :=
 (.seq (.cond 11
 .skip
 (.exit 0))
 y1rz)
def y1nl : CCode :=
 (.seq (.region ([kO 11 (.bin .lss 10 9)]))
 y1hx)
def yn2 : CCode :=
 (.loop [0, 5, 8, 9, 10] y1nl)
def y18d : CCode :=
 (.block 0 yn2)
def y1d9 : CCode :=
 (.seq (.region (cs 8 [.mv 1,.len 1 8,.mv (ci 0)]))
 y18d)
def y1qw : CCode :=
 (.seq y1d9
 y1sf)
def yyh : CCode :=
 (.seq (.region ([kO 5 (.mv (.c (.bool false)))]))
 y1qw)
def yyz : CCode :=
 (.seq (.region ([kO 4 (.mv (.c (.bool false)))]))
 yyh)
def y2i0 : CFunc :=
 ⟨2, false, 0, yyz, [.t 4]⟩
def y1bi : CCode :=
 (.seq (.region ([kO 57 (.mv 5),kO 4 (.mv 57)]))
 .ret)
def y1nt : CCode :=
 (.region ([kO 56 (.bin .add 29 (ci 1)),kO 29 (.mv 56)]))
def y1av : CCode :=
 (.seq (.region (cs 53 [.fa 3 7,lf 53,.bin .eql 54 (.c (.str []))]))
 (.cond 55
 (.exit 0)
 .skip))
def y1ep : CCode :=
 (.seq (.seq (.region (cs 43 [.mv 5,.fa 2 7,lf 44,.call none true 46 [43, 45],.un .not 46]))
 (.cond 47
 (.region (cs 48 [.mv 5,.fa 2 7,lf 49,.buildS (some 2) 1 1 [(.int .i64 0)] [(0, 50)],.app (some 3) 1 8 48 51] ++ cs 5 [.mv 52]))
 .skip))
 y1av)
def y1hj : CCode :=
 (.seq (.seq (.region (cs 33 [.mv 1,.fa 0 7,lf 34,.bin .lss 33 35,.mv 36] ++ cg 38 37 false [.mv 1,.fa 1 7,lf 39,.bin .geq 38 40] ++ cs 42 [.pick 37 (.c (.bool true)) 41]))
 (.cond 42
 (.exit 1)
 .skip))
 y1ep)
def y1ew : CCode :=
 (.seq (.region (cs 31 [.ixs 4 27 29,.ld true 4 31] ++ cs 7 [.new (some 1) zq3] ++ [kU (.st 4 7 32)]))
 y1hj)
def y1hm : CCode :=
 (.block 1 y1ew)
def y1et : CCode :=
 (.seq y1hm
 y1nt)
def ywl : CCode :=
 (.seq (.cond 30
 .skip
 (.exit 0))
 y1et)
def ywj : CCode :=
 (.seq (.region ([kO 30 (.bin .lss 29 28)]))
 ywl)
def yos : CCode :=
 (.loop [1, 5, 27, 28, 29] ywj)
def y14h : CCode :=
 (.block 0 yos)
def y12p : CCode :=
 (.seq (.region (cs 26 [.fa 4 2,lf 26,.len 1 27,.mv (ci 0)]))
 y14h)
def y15h : CCode :=
 (.seq y12p
 y1bi)
def yxp : CCode :=
 (.seq (.region ([kO 5 (.mv (.c .nils))]))
 y15h)
def yv1 : CCode :=
 (.seq (.seq (.region (cs 8 [.mv 1,.bin .lss 8 (ci 0),.mv 9] ++ cg 11 10 false [.mv 1,.fa 3 2,lf 12,.len 1 13,.bin .geq 11 14] ++ cs 16 [.pick 10 (.c (.bool true)) 15,.mv 16] ++ cg 18 17 false [.fa 3 2,lf 18,.mv 1,.ixs 9 19 20,.ld true 9 21,.call none true 18 [22],.un .not 23] ++ cs 25 [.pick 17 (.c (.bool true)) 24]))
 (.cond 25
 (.seq (.region ([kO 4 (.mv (.c .nils))]))
 .ret)
 .skip))
 yxp)
def y12s : CCode :=
 (.seq (.region ([kO 2 (.box (some 0) 0),kO 4 (.mv (.c .nils))]))
 yv1)
def y2nu : CFunc :=
 ⟨2, true, 4, y12s, [.t 4]⟩
def y1su : CCode :=
 (.seq (.region ([kO 2 (.mv (ci (-1)))]))
 .ret)
def y1cm : CCode :=
 (.seq (.seq (.region (cs 22 [.ld true 9 1,.call none true 17 [22]]))
 (.cond 23
 (.seq (.region (cs 24 [.fa 1 1,lf 24] ++ cs 2 [.mv 25]))
 .ret)
 .skip))
 y1su)
def y1lp : CCode :=
 (.cond 5
 (.seq (.region (cs 20 [.fa 1 1,lf 20] ++ cs 2 [.mv 21]))
 .ret)
 .skip)
def y1bu : CCode :=
 (.seq (.seq (.region ([kO 6 (.bin .eql 4 (ci 1)),kO 5 (.mv 6)]))
 (.cond 5
 .skip
 (.seq (.region ([kO 7 (.bin .eql 4 (ci 2)),kO 5 (.mv 7)]))
 (.cond 5
 .skip
 (.seq (.region ([kO 8 (.bin .eql 4 (ci 3)),kO 5 (.mv 8)]))
  (.cond 5
  .skip
  (.seq (.region ([kO 9 (.bin .eql 4 (ci 4)),kO 5 (.mv 9)]))
  (.cond 5
  .skip
  (.seq (.region ([kO 10 (.bin .eql 4 (ci 5)),kO 5 (.mv 10)]))
   (.cond 5
   .skip
   (.seq (.region ([kO 11 (.bin .eql 4 (ci 6)),kO 5 (.mv 11)]))
   (.cond 5
   .skip
   (.seq (.region ([kO 12 (.bin .eql 4 (ci 13)),kO 5 (.mv 12)]))
    (.cond 5
    .skip
    (.seq (.region ([kO 13 (.bin .eql 4 (ci 15)),kO 5 (.mv 13)]))
    (.cond 5
    .skip
    (.seq (.region ([kO 14 (.bin .eql 4 (ci 16)),kO 5 (.mv 14)]))
     (.cond 5
     .skip
     (.seq (.region ([kO 15 (.bin .eql 4 (ci 18)),kO 5 (.mv 15)]))
     (.cond 5
     .skip
     (.seq (.region ([kO 16 (.bin .eql 4 (ci 20)),kO 5 (.mv 16)]))
      (.cond 5
      .skip
      (.seq (.region ([kO 17 (.bin .eql 4 (ci 21)),kO 5 (.mv 17)]))
      (.cond 5
      .skip
      (.seq (.region ([kO 18 (.bin .eql 4 (ci 22)),kO 5 (.mv 18)]))
       (.cond 5
       .skip
       (.region ([kO 19 (.bin .eql 4 (ci 32)),kO 5 (.mv 19)]))))))))))))))))))))))))))))
 y1lp)
def y1b2 : CCode :=
 (.block 0 y1bu)
def y1c0 : CCode :=
 (.seq (.region (cs 3 [.fa 0 1,lf 3]))
 y1b2)
def y1o2 : CCode :=
 (.seq y1c0
 y1cm)
def y1q9 : CCode :=
 (.seq (.region (cs 1 [.box (some 0) 0,.mv (ci 0)]))
 y1o2)
def y2me : CFunc :=
 ⟨1, true, 1, y1q9, [.t 2]⟩
def y1a0 : CCode :=
 (.draw (cs 4 [.mv 0,.mv 1,.bin .quo 5 (ci 64),.ixs 1 4 6,lf 7,.mv 1,.bin .rem 9 (ci 64),.bin .shl (.c (.int .u64 1)) 10,.bin .andNot 8 11,.ixs 1 4 6] ++ [kU (.st 1 13 12)]) [])
def y2ly : CFunc :=
 ⟨2, false, 0, y1a0, []⟩
def y18s : CCode :=
 (.seq (.region ([kO 2 (.mv (.c .nils))]))
 .ret)
def y1k7 : CCode :=
 (.seq (.region (cs 58 [.fa 2 1,lf 58,.fa 3 1,lf 60,.buildS (some 6) 1 2 [(.int .i64 0)] [(0, 59), (1, 61)]] ++ cs 2 [.mv 62]))
 .ret)
def y1b1 : CCode :=
 (.seq (.seq (.region (cs 52 [.fa 3 1,lf 52,.bin .lss 53 (ci 0)]))
 (.cond 54
 (.seq (.region (cs 55 [.fa 2 1,lf 55,.buildS (some 5) 1 1 [(.int .i64 0)] [(0, 56)]] ++ cs 2 [.mv 57]))
 .ret)
 .skip))
 y1k7)
def y1m4 : CCode :=
 (.cond 50
 y1b1
 (.seq (.region ([kO 64 (.bin .eql 4 (ci 30)),kO 63 (.mv 64)]))
 (.cond 63
 (.seq (.region (cs 65 [.fa 2 1,lf 65,.bin .geq 66 (ci 0)]))
  (.cond 67
  (.seq (.region (cs 68 [.fa 2 1,lf 68,.buildS (some 7) 1 1 [(.int .i64 0)] [(0, 69)]] ++ cs 2 [.mv 70]))
  .ret)
  .skip))
 .skip)))
def y1rw : CCode :=
 (.seq (.region ([kO 51 (.bin .eql 4 (ci 29)),kO 50 (.mv 51)]))
 y1m4)
def y1aa : CCode :=
 (.cond 42
 (.seq (.region (cs 47 [.fa 8 1,lf 47,.call (some 4) false 39 [48]] ++ cs 2 [.mv 49]))
 .ret)
 y1rw)
def y1fz : CCode :=
 (.seq (.seq (.region ([kO 43 (.bin .eql 4 (ci 23)),kO 42 (.mv 43)]))
 (.cond 42
 .skip
 (.seq (.region ([kO 44 (.bin .eql 4 (ci 24)),kO 42 (.mv 44)]))
 (.cond 42
 .skip
 (.seq (.region ([kO 45 (.bin .eql 4 (ci 25)),kO 42 (.mv 45)]))
  (.cond 42
  .skip
  (.region ([kO 46 (.bin .eql 4 (ci 26)),kO 42 (.mv 46)]))))))))
 y1aa)
def y1pa : CCode :=
 (.cond 33
 (.seq (.region (cs 35 [.fa 2 1,lf 35,.fa 3 1,lf 37,.fa 4 1,lf 39,.buildS (some 3) 1 3 [(.int .i64 0)] [(0, 36), (1, 38), (2, 40)]] ++ cs 2 [.mv 41]))
 .ret)
 y1fz)
def y1nf : CCode :=
 (.seq (.region ([kO 34 (.bin .eql 4 (ci 14)),kO 33 (.mv 34)]))
 y1pa)
def y13s : CCode :=
 (.cond 21
 (.seq (.region (cs 28 [.fa 2 1,lf 28,.fa 3 1,lf 30,.buildS (some 2) 1 2 [(.int .i64 0)] [(0, 29), (1, 31)]] ++ cs 2 [.mv 32]))
 .ret)
 y1nf)
def y12h : CCode :=
 (.seq (.seq (.region ([kO 22 (.bin .eql 4 (ci 5)),kO 21 (.mv 22)]))
 (.cond 21
 .skip
 (.seq (.region ([kO 23 (.bin .eql 4 (ci 9)),kO 21 (.mv 23)]))
 (.cond 21
 .skip
 (.seq (.region ([kO 24 (.bin .eql 4 (ci 11)),kO 21 (.mv 24)]))
  (.cond 21
  .skip
  (.seq (.region ([kO 25 (.bin .eql 4 (ci 13)),kO 21 (.mv 25)]))
  (.cond 21
  .skip
  (.seq (.region ([kO 26 (.bin .eql 4 (ci 17)),kO 21 (.mv 26)]))
   (.cond 21
   .skip
   (.region ([kO 27 (.bin .eql 4 (ci 28)),kO 21 (.mv 27)]))))))))))))
 y13s)
def y14d : CCode :=
 (.cond 5
 (.seq (.region (cs 18 [.fa 2 1,lf 18,.buildS (some 1) 1 1 [(.int .i64 0)] [(0, 19)]] ++ cs 2 [.mv 20]))
 .ret)
 y12h)
def y11w : CCode :=
 (.seq (.seq (.region ([kO 6 (.bin .eql 4 (ci 4)),kO 5 (.mv 6)]))
 (.cond 5
 .skip
 (.seq (.region ([kO 7 (.bin .eql 4 (ci 6)),kO 5 (.mv 7)]))
 (.cond 5
 .skip
 (.seq (.region ([kO 8 (.bin .eql 4 (ci 7)),kO 5 (.mv 8)]))
  (.cond 5
  .skip
  (.seq (.region ([kO 9 (.bin .eql 4 (ci 8)),kO 5 (.mv 9)]))
  (.cond 5
  .skip
  (.seq (.region ([kO 10 (.bin .eql 4 (ci 10)),kO 5 (.mv 10)]))
   (.cond 5
   .skip
   (.seq (.region ([kO 11 (.bin .eql 4 (ci 12)),kO 5 (.mv 11)]))
   (.cond 5
   .skip
   (.seq (.region ([kO 12 (.bin .eql 4 (ci 15)),kO 5 (.mv 12)]))
    (.cond 5
    .skip
    (.seq (.region ([kO 13 (.bin .eql 4 (ci 16)),kO 5 (.mv 13)]))
    (.cond 5
    .skip
    (.seq (.region ([kO 14 (.bin .eql 4 (ci 19)),kO 5 (.mv 14)]))
     (.cond 5
     .skip
     (.seq (.region ([kO 15 (.bin .eql 4 (ci 21)),kO 5 (.mv 15)]))
     (.cond 5
     .skip
     (.seq (.region ([kO 16 (.bin .eql 4 (ci 22)),kO 5 (.mv 16)]))
      (.cond 5
      .skip
      (.region ([kO 17 (.bin .eql 4 (ci 31)),kO 5 (.mv 17)]))))))))))))))))))))))))
 y14d)
def y124 : CCode :=
 (.block 0 y11w)
def y116 : CCode :=
 (.seq (.region (cs 3 [.fa 0 1,lf 3]))
 y124)
def yv2 : CCode :=
 (.seq y116
 y18s)
def ywb : CCode :=
 (.seq (.region (cs 1 [.box (some 0) 0,.mv (.c .nils)]))
 yv2)
def y2is : CFunc :=
 ⟨1, true, 8, ywb, [.t 2]⟩
def y1tl : CCode :=
 (.draw (cs 4 [.mv 0,.mv 1,.bin .quo 5 (ci 64),.ixs 1 4 6,lf 7,.mv 1,.bin .rem 9 (ci 64),.bin .shl (.c (.int .u64 1)) 10,.bin .or 8 11,.ixs 1 4 6] ++ [kU (.st 1 13 12)]) [])
def y2jh : CFunc :=
 ⟨2, false, 0, y1tl, []⟩
def y1ej : CCode :=
 (.seq (.region ([kO 8 (.mv (.c (.bool false)))]))
 (.seq (.region (cs 9 [.mv 0,.eqn 0 true 9 (.c .nilp),.mv 10] ++ cg 12 11 true [.mv 2,.bin .geq 12 (ci 0)] ++ cs 14 [.pick 11 13 (.c (.bool false)),.mv 14] ++ cg 16 15 true [.mv 2,.mv 1,.len 1 17,.bin .lss 16 18] ++ cs 20 [.pick 15 19 (.c (.bool false)),.mv 20] ++ cg 22 21 true [.mv 3,.bin .geq 22 (ci 0)] ++ cs 24 [.pick 21 23 (.c (.bool false)),.mv 24] ++ cg 26 25 true [.mv 3,.mv 0,.nilchk 27,.fa 3 28,lf 29,.bin .lss 26 30] ++ cs 32 [.pick 25 31 (.c (.bool false)),.mv 32] ++ cg 34 33 true [.mv 1,.mv 2,.ixs 1 34 35,lf 36,.mv 3,.call none true 83 [37, 38]] ++ cs 40 [.pick 33 39 (.c (.bool false))] ++ cs 8 [.mv 40]))
 .ret))
def y2kw : CFunc :=
 ⟨4, true, 0, y1ej, [.t 8]⟩
def yxh : CCode :=
 (.seq (.region ([kO 4 (.mv (ci (-1)))]))
 .ret)
def y0t : CCode :=
 (.region ([kO 18 (.bin .add 8 (ci 1)),kO 8 (.mv 18)]))
def yxc : CCode :=
 (.seq (.block 1 (.seq (.region ([kO 10 (.mv 8),kO 5 (.mv 10)]))
 (.seq (.region (cs 11 [.mv 1,.mv 0,.mv 5,.ixs 1 12 13,lf 14,.bin .eql 11 15]))
 (.cond 16
 (.seq (.region ([kO 17 (.mv 5),kO 4 (.mv 17)]))
 .ret)
 .skip))))
 y0t)
def ywi : CCode :=
 (.seq (.cond 9
 .skip
 (.exit 0))
 yxc)
def yzn : CCode :=
 (.seq (.region ([kO 9 (.bin .lss 8 7)]))
 ywi)
def yj8 : CCode :=
 (.loop [0, 1, 7, 8] yzn)
def y12b : CCode :=
 (.block 0 yj8)
def yxe : CCode :=
 (.seq (.region (cs 6 [.mv 0,.len 1 6,.mv (ci 0)]))
 y12b)
def y11v : CCode :=
 (.seq yxe
 yxh)
def ys0 : CCode :=
 (.seq (.region ([kO 4 (.mv (ci 0))]))
 y11v)
def y276 : CFunc :=
 ⟨2, true, 0, ys0, [.t 4]⟩
def y1d5 : CCode :=
 (.seq (.region (cs 138 [.ld true 9 1,.call none true 51 [138],.ext 0 139,.ext 1 139] ++ [kU (.st 4 2 140),kO 3 (.mv 141)]))
 .ret)
def y1rj : CCode :=
 (.cond 134
 (.seq (.region ([kO 137 (.build zq6 [(0, 1, (ci (-1))), (1, 1, (ci (-1))), (2, 1, (ci (-1))), (3, 1, (ci (-1)))]),kU (.st 4 2 137),kO 3 (.mv (.c (.bool true)))]))
 .ret)
 .skip)
def y1ii : CCode :=
 (.seq (.seq (.region ([kO 135 (.bin .eql 11 (ci 27)),kO 134 (.mv 135)]))
 (.cond 134
 .skip
 (.region ([kO 136 (.bin .eql 11 (ci 33)),kO 134 (.mv 136)]))))
 y1rj)
def y1fo : CCode :=
 (.cond 123
 (.seq (.draw (cs 125 [.build zq6 [(0, 1, (ci (-1))), (1, 1, (ci 1)), (2, 1, (ci 1)), (3, 1, (ci (-1)))],.fa 5 1,lf 126,.bin .geq 127 (ci 0),.mv 128] ++ cg 130 129 true [.fa 5 1,lf 130,.bin .leq 131 (ci 5)] ++ cs 133 [.pick 129 132 (.c (.bool false))] ++ [kU (.st 4 2 125),kO 3 (.mv 133)]) [(6, 9)])
 .ret)
 y1ii)
def y1d4 : CCode :=
 (.seq (.region ([kO 124 (.bin .eql 11 (ci 28)),kO 123 (.mv 124)]))
 y1fo)
def y1qo : CCode :=
 (.cond 117
 (.seq (.region (cs 119 [.build zq6 [(0, 1, (ci 3)), (1, 1, (ci 1)), (2, 1, (ci (-1))), (3, 1, (ci (-1)))],.fa 7 1,lf 120,.call none true 37 [121]] ++ [kU (.st 4 2 119),kO 3 (.mv 122)]))
 .ret)
 y1d4)
def y1k5 : CCode :=
 (.seq (.region ([kO 118 (.bin .eql 11 (ci 21)),kO 117 (.mv 118)]))
 y1qo)
def y189 : CCode :=
 (.cond 114
 (.seq (.region ([kO 116 (.build zq6 [(0, 1, (ci (-1))), (1, 1, (ci 0)), (2, 1, (ci (-1))), (3, 1, (ci (-1)))]),kU (.st 4 2 116),kO 3 (.mv (.c (.bool true)))]))
 .ret)
 y1k5)
def y1li : CCode :=
 (.seq (.region ([kO 115 (.bin .eql 11 (ci 19)),kO 114 (.mv 115)]))
 y189)
def y02 : CCode :=
 (.cond 108
 (.seq (.draw (cs 110 [.build zq6 [(0, 1, (ci (-1))), (1, 1, (ci 3)), (2, 1, (ci 0)), (3, 1, (ci (-1)))],.fa 5 1,lf 111,.bin .geq 112 (ci 0)] ++ [kU (.st 4 2 110),kO 3 (.mv 113)]) [(2, 4)])
 .ret)
 y1li)
def y0z : CCode :=
 (.seq (.region ([kO 109 (.bin .eql 11 (ci 17)),kO 108 (.mv 109)]))
 y02)
def y13y : CCode :=
 (.cond 102
 (.seq (.draw (cs 104 [.build zq6 [(0, 1, (ci 0)), (1, 1, (ci 3)), (2, 1, (ci (-1))), (3, 1, (ci (-1)))],.fa 5 1,lf 105,.bin .geq 106 (ci 0)] ++ [kU (.st 4 2 104),kO 3 (.mv 107)]) [(2, 4)])
 .ret)
 y0z)
def y110 : CCode :=
 (.seq (.region ([kO 103 (.bin .eql 11 (ci 16)),kO 102 (.mv 103)]))
 y13y)
def ywy : CCode :=
 (.cond 99
 (.seq (.region ([kO 101 (.build zq6 [(0, 1, (ci 1)), (1, 1, (ci 3)), (2, 1, (ci (-1))), (3, 1, (ci (-1)))]),kU (.st 4 2 101),kO 3 (.mv (.c (.bool true)))]))
 .ret)
 y110)
def yyl : CCode :=
 (.seq (.region ([kO 100 (.bin .eql 11 (ci 15)),kO 99 (.mv 100)]))
 ywy)
def yy3 : CCode :=
 (.cond 96
 (.seq (.region ([kO 98 (.build zq6 [(0, 1, (ci (-1))), (1, 1, (ci 3)), (2, 1, (ci 1)), (3, 1, (ci 0))]),kU (.st 4 2 98),kO 3 (.mv (.c (.bool true)))]))
 .ret)
 yyl)
def y11g : CCode :=
 (.seq (.region ([kO 97 (.bin .eql 11 (ci 14)),kO 96 (.mv 97)]))
 yy3)
def y155 : CCode :=
 (.cond 93
 (.seq (.region ([kO 95 (.build zq6 [(0, 1, (ci 0)), (1, 1, (ci 3)), (2, 1, (ci 1)), (3, 1, (ci (-1)))]),kU (.st 4 2 95),kO 3 (.mv (.c (.bool true)))]))
 .ret)
 y11g)
def yvm : CCode :=
 (.seq (.region ([kO 94 (.bin .eql 11 (ci 13)),kO 93 (.mv 94)]))
 y155)
def y15a : CCode :=
 (.cond 90
 (.seq (.region ([kO 92 (.build zq6 [(0, 1, (ci (-1))), (1, 1, (ci 3)), (2, 1, (ci 3)), (3, 1, (ci (-1)))]),kU (.st 4 2 92),kO 3 (.mv (.c (.bool true)))]))
 .ret)
 yvm)
def y13t : CCode :=
 (.seq (.region ([kO 91 (.bin .eql 11 (ci 11)),kO 90 (.mv 91)]))
 y15a)
def y11q : CCode :=
 (.cond 87
 (.seq (.region ([kO 89 (.build zq6 [(0, 1, (ci (-1))), (1, 1, (ci 1)), (2, 1, (ci (-1))), (3, 1, (ci (-1)))]),kU (.st 4 2 89),kO 3 (.mv (.c (.bool true)))]))
 .ret)
 y13t)
def y11i : CCode :=
 (.seq (.region ([kO 88 (.bin .eql 11 (ci 10)),kO 87 (.mv 88)]))
 y11q)
def y0b : CCode :=
 (.cond 84
 (.seq (.region ([kO 86 (.build zq6 [(0, 1, (ci (-1))), (1, 1, (ci 3)), (2, 1, (ci 1)), (3, 1, (ci (-1)))]),kU (.st 4 2 86),kO 3 (.mv (.c (.bool true)))]))
 .ret)
 y11i)
def y150 : CCode :=
 (.seq (.region ([kO 85 (.bin .eql 11 (ci 9)),kO 84 (.mv 85)]))
 y0b)
def y15d : CCode :=
 (.cond 78
 (.seq (.region (cs 80 [.build zq6 [(0, 1, (ci 1)), (1, 1, (ci 3)), (2, 1, (ci (-1))), (3, 1, (ci (-1)))],.fa 7 1,lf 81,.call none true 37 [82]] ++ [kU (.st 4 2 80),kO 3 (.mv 83)]))
 .ret)
 y150)
def y144 : CCode :=
 (.seq (.region ([kO 79 (.bin .eql 11 (ci 22)),kO 78 (.mv 79)]))
 y15d)
def y123 : CCode :=
 (.cond 72
 (.seq (.region (cs 74 [.build zq6 [(0, 1, (ci (-1))), (1, 1, (ci 3)), (2, 1, (ci (-1))), (3, 1, (ci (-1)))],.fa 7 1,lf 75,.call none true 37 [76]] ++ [kU (.st 4 2 74),kO 3 (.mv 77)]))
 .ret)
 y144)
def yww : CCode :=
 (.seq (.region ([kO 73 (.bin .eql 11 (ci 12)),kO 72 (.mv 73)]))
 y123)
def y117 : CCode :=
 (.cond 68
 (.seq (.region ([kO 71 (.build zq6 [(0, 1, (ci (-1))), (1, 1, (ci 3)), (2, 1, (ci (-1))), (3, 1, (ci (-1)))]),kU (.st 4 2 71),kO 3 (.mv (.c (.bool true)))]))
 .ret)
 yww)
def y0r : CCode :=
 (.seq (.seq (.region ([kO 69 (.bin .eql 11 (ci 8)),kO 68 (.mv 69)]))
 (.cond 68
 .skip
 (.region ([kO 70 (.bin .eql 11 (ci 31)),kO 68 (.mv 70)]))))
 y117)
def y11d : CCode :=
 (.cond 65
 (.seq (.region ([kO 67 (.build zq6 [(0, 1, (ci (-1))), (1, 1, (ci 0)), (2, 1, (ci (-1))), (3, 1, (ci (-1)))]),kU (.st 4 2 67),kO 3 (.mv (.c (.bool true)))]))
 .ret)
 y0r)
def yzz : CCode :=
 (.seq (.region ([kO 66 (.bin .eql 11 (ci 7)),kO 65 (.mv 66)]))
 y11d)
def yzx : CCode :=
 (.cond 47
 (.seq (.region (cs 50 [.fa 5 1,lf 50,.call none true 50 [51]] ++ cs 49 [.mv 52] ++ cs 53 [.ext 0 49,.ext 1 49,.ext 2 49] ++ cs 7 [.mv 53,.mv 54,.mv 55]))
 (.seq (.region (cs 56 [.mv 9,.mv 7,.build zq6 [(0, 1, 56), (1, 1, 57), (2, 1, (ci (-1))), (3, 1, (ci (-1)))],.mv 7,.bin .neq 59 (ci 0),.mv 60] ++ cg 62 61 true [.mv 8,.bin .eql 62 (ci 0)] ++ cs 64 [.pick 61 63 (.c (.bool false))] ++ [kU (.st 4 2 58),kO 3 (.mv 64)]))
 .ret))
 yzz)
def yvg : CCode :=
 (.seq (.region ([kO 48 (.bin .eql 11 (ci 6)),kO 47 (.mv 48)]))
 yzx)
def yz2 : CCode :=
 (.cond 25
 (.seq (.region (cs 28 [.fa 5 1,lf 28,.call none true 50 [29]] ++ cs 27 [.mv 30] ++ cs 31 [.ext 0 27,.ext 1 27,.ext 2 27] ++ cs 4 [.mv 31,.mv 32,.mv 33]))
 (.seq (.region (cs 34 [.mv 6,.mv 4,.mv 5,.build zq6 [(0, 1, 34), (1, 1, 35), (2, 1, 36), (3, 1, (ci (-1)))],.fa 5 1,lf 38,.fa 5 1,lf 40,.bin .eql 39 41,.mv 42] ++ cg 44 43 true [.mv 5,.bin .neq 44 (ci 0)] ++ cs 46 [.pick 43 45 (.c (.bool false))] ++ [kU (.st 4 2 37),kO 3 (.mv 46)]))
 .ret))
 yvg)
def ywp : CCode :=
 (.seq (.region ([kO 26 (.bin .eql 11 (ci 5)),kO 25 (.mv 26)]))
 yz2)
def yvp : CCode :=
 (.cond 22
 (.seq (.region ([kO 24 (.build zq6 [(0, 1, (ci 0)), (1, 1, (ci 0)), (2, 1, (ci (-1))), (3, 1, (ci (-1)))]),kU (.st 4 2 24),kO 3 (.mv (.c (.bool true)))]))
 .ret)
 ywp)
def y08 : CCode :=
 (.seq (.region ([kO 23 (.bin .eql 11 (ci 4)),kO 22 (.mv 23)]))
 yvp)
def yzu : CCode :=
 (.cond 16
 (.seq (.region ([kO 21 (.build zq6 [(0, 1, (ci 3)), (1, 1, (ci (-1))), (2, 1, (ci (-1))), (3, 1, (ci (-1)))]),kU (.st 4 2 21),kO 3 (.mv (.c (.bool true)))]))
 .ret)
 y08)
def y12e : CCode :=
 (.seq (.seq (.region ([kO 17 (.bin .eql 11 (ci 2)),kO 16 (.mv 17)]))
 (.cond 16
 .skip
 (.seq (.region ([kO 18 (.bin .eql 11 (ci 3)),kO 16 (.mv 18)]))
 (.cond 16
 .skip
 (.seq (.region ([kO 19 (.bin .eql 11 (ci 20)),kO 16 (.mv 19)]))
  (.cond 16
  .skip
  (.region ([kO 20 (.bin .eql 11 (ci 32)),kO 16 (.mv 20)]))))))))
 yzu)
def y119 : CCode :=
 (.cond 12
 (.seq (.region ([kO 15 (.build zq6 [(0, 1, (ci 0)), (1, 1, (ci (-1))), (2, 1, (ci (-1))), (3, 1, (ci (-1)))]),kU (.st 4 2 15),kO 3 (.mv (.c (.bool true)))]))
 .ret)
 y12e)
def y0f : CCode :=
 (.seq (.seq (.region ([kO 13 (.bin .eql 11 (ci 1)),kO 12 (.mv 13)]))
 (.cond 12
 .skip
 (.region ([kO 14 (.bin .eql 11 (ci 18)),kO 12 (.mv 14)]))))
 y119)
def yy0 : CCode :=
 (.block 0 y0f)
def yy4 : CCode :=
 (.seq (.region (cs 10 [.fa 0 1,lf 10]))
 yy0)
def y113 : CCode :=
 (.seq yy4
 y1d5)
def yvy : CCode :=
 (.seq (.region (cs 1 [.box (some 0) 0,.new (some 1) zq6,.mv (.c (.bool false))]))
 y113)
def y2pf : CFunc :=
 ⟨1, true, 2, yvy, [.cell 2 true 4, .t 3]⟩
def y1p4 : CCode :=
 (.seq (.region (cs 1 [.box (some 0) 0,.mv (.c (.bool false))]))
 (.seq (.region (cs 3 [.fa 0 1,lf 3,.bin .geq 4 (ci 7),.mv 5] ++ cg 7 6 true [.fa 0 1,lf 7,.bin .leq 8 (ci 12)] ++ cs 10 [.pick 6 9 (.c (.bool false)),.mv 10] ++ cg 12 11 false [.fa 0 1,lf 12,.bin .eql 13 (ci 20)] ++ cs 15 [.pick 11 (.c (.bool true)) 14,.mv 15] ++ cg 17 16 false [.fa 0 1,lf 17,.bin .eql 18 (ci 21)] ++ cs 20 [.pick 16 (.c (.bool true)) 19,.mv 20] ++ cg 22 21 false [.fa 0 1,lf 22,.bin .eql 23 (ci 31)] ++ cs 25 [.pick 21 (.c (.bool true)) 24,.mv 25] ++ cg 27 26 false [.ld true 9 1,.call none true 17 [27]] ++ cs 29 [.pick 26 (.c (.bool true)) 28] ++ cs 2 [.mv 29]))
 .ret))
def y2p9 : CFunc :=
 ⟨1, true, 1, y1p4, [.t 2]⟩
def y0p : CCode :=
 (.seq (.region (cs 5 [.buildS (some 0) 1 0 [(.int .i64 0)] [],.mv 0,.app (some 1) 1 8 5 6] ++ cs 2 [.mv 7]))
 .ret)
def y0a : CCode :=
 (.seq (.seq (.region (cs 3 [.mv 0,.eqn 1 false 3 (.c .nils)]))
 (.cond 4
 (.seq (.region ([kO 2 (.mv (.c .nils))]))
 .ret)
 .skip))
 y0p)
def y13h : CCode :=
 (.seq (.region ([kO 2 (.mv (.c .nils))]))
 y0a)
def y254 : CFunc :=
 ⟨1, true, 2, y13h, [.t 2]⟩
def y1ai : CCode :=
 (.seq (.region ([kO 4 (.mv (.c (.bool false)))]))
 (.seq (.region (cs 5 [.mv 0,.mv 1,.bin .quo 6 (ci 64),.ixs 1 5 7,lf 8,.mv 1,.bin .rem 10 (ci 64),.bin .shr 9 11,.bin .and 12 (.c (.int .u64 1)),.bin .eql 13 (.c (.int .u64 1))] ++ cs 4 [.mv 14]))
 .ret))
def y2jq : CFunc :=
 ⟨2, true, 0, y1ai, [.t 4]⟩
def y1n2 : CCode :=
 (.seq (.region (cs 2 [.mv (ci 0),.mv (ci 0),.mv (ci 0)]))
 .ret)
def y1hg : CCode :=
 (.cond 33
 (.seq (.region (cs 2 [.mv (ci 1),.mv (ci 0),.mv (ci 1)]))
 .ret)
 (.seq (.region ([kO 39 (.bin .eql 5 (ci 117)),kO 38 (.mv 39)]))
 (.cond 38
 (.seq (.region (cs 2 [.mv (ci 2),.mv (ci 0),.mv (ci 2)]))
  .ret)
 (.seq (.region ([kO 41 (.bin .eql 5 (ci 133)),kO 40 (.mv 41)]))
  (.cond 40
  (.seq (.region (cs 2 [.mv (ci 1),.mv (ci 0),.mv (ci 2)]))
  .ret)
  (.seq (.region ([kO 43 (.bin .eql 5 (ci 136)),kO 42 (.mv 43)]))
  (.cond 42
  (.seq (.region (cs 2 [.mv (ci 2),.mv (ci 0),.mv (ci 1)]))
   .ret)
  .skip)))))))
def y1gv : CCode :=
 (.seq (.seq (.region ([kO 34 (.bin .eql 5 (ci 116)),kO 33 (.mv 34)]))
 (.cond 33
 .skip
 (.seq (.region ([kO 35 (.bin .eql 5 (ci 145)),kO 33 (.mv 35)]))
 (.cond 33
 .skip
 (.seq (.region ([kO 36 (.bin .eql 5 (ci 146)),kO 33 (.mv 36)]))
  (.cond 33
  .skip
  (.region ([kO 37 (.bin .eql 5 (ci 147)),kO 33 (.mv 37)]))))))))
 y1hg)
def y1sy : CCode :=
 (.cond 31
 (.seq (.region (cs 2 [.mv (ci 2),.mv (ci 2),.mv (ci 1)]))
 .ret)
 y1gv)
def y1a1 : CCode :=
 (.seq (.region ([kO 32 (.bin .eql 5 (ci 148)),kO 31 (.mv 32)]))
 y1sy)
def y1ev : CCode :=
 (.cond 27
 (.seq (.region (cs 2 [.mv (ci 2),.mv (ci 1),.mv (ci 2)]))
 .ret)
 y1a1)
def y1jz : CCode :=
 (.seq (.seq (.region ([kO 28 (.bin .eql 5 (ci 121)),kO 27 (.mv 28)]))
 (.cond 27
 .skip
 (.seq (.region ([kO 29 (.bin .eql 5 (ci 123)),kO 27 (.mv 29)]))
 (.cond 27
 .skip
 (.region ([kO 30 (.bin .eql 5 (ci 125)),kO 27 (.mv 30)]))))))
 y1ev)
def y1da : CCode :=
 (.cond 18
 (.seq (.region (cs 2 [.mv (ci 2),.mv (ci 2),.mv (ci 2)]))
 .ret)
 y1jz)
def y1mg : CCode :=
 (.seq (.seq (.region ([kO 19 (.bin .eql 5 (ci 97)),kO 18 (.mv 19)]))
 (.cond 18
 .skip
 (.seq (.region ([kO 20 (.bin .eql 5 (ci 101)),kO 18 (.mv 20)]))
 (.cond 18
 .skip
 (.seq (.region ([kO 21 (.bin .eql 5 (ci 105)),kO 18 (.mv 21)]))
  (.cond 18
  .skip
  (.seq (.region ([kO 22 (.bin .eql 5 (ci 109)),kO 18 (.mv 22)]))
  (.cond 18
  .skip
  (.seq (.region ([kO 23 (.bin .eql 5 (ci 113)),kO 18 (.mv 23)]))
   (.cond 18
   .skip
   (.seq (.region ([kO 24 (.bin .eql 5 (ci 127)),kO 18 (.mv 24)]))
   (.cond 18
   .skip
   (.seq (.region ([kO 25 (.bin .eql 5 (ci 129)),kO 18 (.mv 25)]))
    (.cond 18
    .skip
    (.region ([kO 26 (.bin .eql 5 (ci 131)),kO 18 (.mv 26)]))))))))))))))))
 y1da)
def y14w : CCode :=
 (.cond 6
 (.seq (.region (cs 2 [.mv (ci 1),.mv (ci 1),.mv (ci 1)]))
 .ret)
 y1mg)
def y12m : CCode :=
 (.seq (.seq (.region ([kO 7 (.bin .eql 5 (ci 96)),kO 6 (.mv 7)]))
 (.cond 6
 .skip
 (.seq (.region ([kO 8 (.bin .eql 5 (ci 100)),kO 6 (.mv 8)]))
 (.cond 6
 .skip
 (.seq (.region ([kO 9 (.bin .eql 5 (ci 104)),kO 6 (.mv 9)]))
  (.cond 6
  .skip
  (.seq (.region ([kO 10 (.bin .eql 5 (ci 108)),kO 6 (.mv 10)]))
  (.cond 6
  .skip
  (.seq (.region ([kO 11 (.bin .eql 5 (ci 112)),kO 6 (.mv 11)]))
   (.cond 6
   .skip
   (.seq (.region ([kO 12 (.bin .eql 5 (ci 120)),kO 6 (.mv 12)]))
   (.cond 6
   .skip
   (.seq (.region ([kO 13 (.bin .eql 5 (ci 122)),kO 6 (.mv 13)]))
    (.cond 6
    .skip
    (.seq (.region ([kO 14 (.bin .eql 5 (ci 124)),kO 6 (.mv 14)]))
    (.cond 6
    .skip
    (.seq (.region ([kO 15 (.bin .eql 5 (ci 126)),kO 6 (.mv 15)]))
     (.cond 6
     .skip
     (.seq (.region ([kO 16 (.bin .eql 5 (ci 128)),kO 6 (.mv 16)]))
     (.cond 6
     .skip
     (.region ([kO 17 (.bin .eql 5 (ci 130)),kO 6 (.mv 17)]))))))))))))))))))))))
 y14w)
def y13b : CCode :=
 (.block 0 y12m)
def yzc : CCode :=
 (.seq (.region ([kO 5 (.mv 0)]))
 y13b)
def y14g : CCode :=
 (.seq yzc
 y1n2)
def y11a : CCode :=
 (.seq (.region (cs 2 [.mv (ci 0),.mv (ci 0),.mv (ci 0)]))
 y14g)
def y2lc : CFunc :=
 ⟨1, true, 0, y11a, [.t 2, .t 3, .t 4]⟩
def y25y : CCode :=
 (.seq (.region ([kO 2 (.mv (.c (.bool false)))]))
 (.seq (.region (cs 3 [.mv 0,.bin .neq 3 (.c (.str [])),.mv 4] ++ cg 6 5 true [.mv 0,.call none true 44 [6],.mv 0,.len 0 8,.bin .eql 7 9] ++ cs 11 [.pick 5 10 (.c (.bool false))] ++ cs 2 [.mv 11]))
 .ret))
def c_q2 : CFunc :=
 ⟨1, true, 0, y25y, [.t 2]⟩
def y1f6 : CCode :=
 (.seq (.region ([kO 73 (.build zq6 []),kU (.st 4 2 73),kO 3 (.mv (.c (.bool false)))]))
 .ret)
def y1f4 : CCode :=
 (.seq (.draw (cs 15 [.mv 4,.build zq6 [(0, 1, (ci (-1))), (1, 1, (ci 3)), (2, 1, 15), (3, 1, (ci (-1)))],.fa 5 1,lf 17,.bin .eql 18 (ci 0),.mv 19] ++ cg 21 20 false [.fa 5 1,lf 21,.bin .eql 22 (ci 1)] ++ cs 24 [.pick 20 (.c (.bool true)) 23] ++ [kU (.st 4 2 16),kO 3 (.mv 24)]) [(7, 10)])
 .ret)
def y1h9 : CCode :=
 (.seq (.seq (.region (cs 12 [.fa 3 1,lf 12,.bin .neq 13 (ci (-1))]))
 (.cond 14
 (.region ([kO 4 (.mv (ci 3))]))
 .skip))
 y1f4)
def y1jo : CCode :=
 (.seq (.region ([kO 4 (.mv (ci (-1)))]))
 y1h9)
def y1kp : CCode :=
 (.seq (.region (cs 30 [.mv 5,.build zq6 [(0, 1, (ci (-1))), (1, 1, 30), (2, 1, (ci (-1))), (3, 1, (ci (-1)))]] ++ [kU (.st 4 2 31),kO 3 (.mv (.c (.bool true)))]))
 .ret)
def y1hq : CCode :=
 (.seq (.seq (.region (cs 27 [.fa 2 1,lf 27,.bin .neq 28 (ci (-1))]))
 (.cond 29
 (.region ([kO 5 (.mv (ci 0))]))
 .skip))
 y1kp)
def y1ny : CCode :=
 (.seq (.region ([kO 5 (.mv (ci (-1)))]))
 y1hq)
def y1mk : CCode :=
 (.seq (.region (cs 40 [.fa 0 1,lf 40,.bin .eql 41 (ci 23),.mv 42] ++ cg 44 43 false [.fa 0 1,lf 44,.bin .eql 45 (ci 26)] ++ cs 47 [.pick 43 (.c (.bool true)) 46,.mv 47] ++ cg 49 48 false [.fa 8 1,lf 49,.len 1 50,.bin .gtr 51 (ci 0)] ++ cs 53 [.pick 48 (.c (.bool true)) 52] ++ cs 7 [.mv 53]))
 (.seq (.draw (cs 54 [.mv 6,.build zq6 [(0, 1, 54), (1, 1, (ci (-1))), (2, 1, (ci (-1))), (3, 1, (ci (-1)))],.mv 7,.mv 56] ++ cg 58 57 true [.fa 5 1,lf 58,.bin .geq 59 (ci 0),.mv 60] ++ cg 62 61 false [.fa 0 1,lf 62,.bin .eql 63 (ci 25)] ++ cg 65 57 true [.pick 61 (.c (.bool true)) 64] ++ cs 66 [.pick 57 65 (.c (.bool false)),.mv 66] ++ cg 68 67 true [.fa 8 1,lf 68,.len 1 69,.bin .leq 70 (ci 21)] ++ cs 72 [.pick 67 71 (.c (.bool false))] ++ [kU (.st 4 2 55),kO 3 (.mv 72)]) [(15, 19), (16, 19)])
 .ret))
def y1lu : CCode :=
 (.seq (.seq (.region (cs 37 [.fa 1 1,lf 37,.bin .neq 38 (ci (-1))]))
 (.cond 39
 (.region ([kO 6 (.mv (ci 0))]))
 .skip))
 y1mk)
def ywa : CCode :=
 (.seq (.region ([kO 6 (.mv (ci (-1)))]))
 y1lu)
def y126 : CCode :=
 (.cond 32
 ywa
 .skip)
def y13q : CCode :=
 (.seq (.seq (.region ([kO 33 (.bin .eql 9 (ci 23)),kO 32 (.mv 33)]))
 (.cond 32
 .skip
 (.seq (.region ([kO 34 (.bin .eql 9 (ci 24)),kO 32 (.mv 34)]))
 (.cond 32
 .skip
 (.seq (.region ([kO 35 (.bin .eql 9 (ci 25)),kO 32 (.mv 35)]))
  (.cond 32
  .skip
  (.region ([kO 36 (.bin .eql 9 (ci 26)),kO 32 (.mv 36)]))))))))
 y126)
def yys : CCode :=
 (.cond 25
 y1ny
 y13q)
def yzg : CCode :=
 (.seq (.region ([kO 26 (.bin .eql 9 (ci 30)),kO 25 (.mv 26)]))
 yys)
def y13c : CCode :=
 (.cond 10
 y1jo
 yzg)
def y0g : CCode :=
 (.seq (.region ([kO 11 (.bin .eql 9 (ci 29)),kO 10 (.mv 11)]))
 y13c)
def yvd : CCode :=
 (.block 0 y0g)
def y118 : CCode :=
 (.seq (.region (cs 8 [.fa 0 1,lf 8]))
 yvd)
def y15b : CCode :=
 (.seq y118
 y1f6)
def y11n : CCode :=
 (.seq (.region (cs 1 [.box (some 0) 0,.new (some 1) zq6,.mv (.c (.bool false))]))
 y15b)
def y2pd : CFunc :=
 ⟨1, true, 2, y11n, [.cell 2 true 4, .t 3]⟩
def y27k : CCode :=
 (.seq (.region ([kO 2 (.mv (ci 0))]))
 .ret)
def y25f : CCode :=
 (.region (cs 41 [.mv 4,.bin .add 41 (ci 1)] ++ cs 4 [.mv 42]))
def y250 : CCode :=
 (.seq (.region ([kO 2 (.mv (ci 0))]))
 .ret)
def y256 : CCode :=
 (.seq (.seq (.region (cs 47 [.mv 0,.mv 3,.bin .add 48 (ci 1),.mv 4,.sls 47 (some 49) (some 50),.call none true 60 [51, (.c (.bool false))]]))
 (.cond 52
 (.seq (.region (cs 53 [.mv 4,.bin .add 53 (ci 1)] ++ cs 2 [.mv 54]))
 .ret)
 .skip))
 y250)
def y25u : CCode :=
 (.cond 46
 y256
 .skip)
def y27o : CCode :=
 (.seq (.region (cs 43 [.mv 0,.mv 4,.ixstr 43 44,.bin .eql 45 (.c (.int .u8 59))]))
 y25u)
def y255 : CCode :=
 (.block 4 y27o)
def y25i : CCode :=
 (.seq y255
 y25f)
def y1jr : CCode :=
 (.seq (.seq (.region (cs 37 [.mv 4,.mv 0,.len 0 38,.bin .lss 37 39]))
 (.cond 40
 .skip
 (.exit 3)))
 y25i)
def yur : CCode :=
 (.loop [0, 3, 4] y1jr)
def y1rf : CCode :=
 (.block 3 yur)
def y188 : CCode :=
 (.seq (.region (cs 35 [.mv 3,.bin .add 35 (ci 1)] ++ cs 4 [.mv 36]))
 y1rf)
def y181 : CCode :=
 (.cond 33
 y188
 .skip)
def y1sx : CCode :=
 (.seq (.region ([kO 34 (.bin .eql 27 (.c (.int .u8 76))),kO 33 (.mv 34)]))
 y181)
def y17u : CCode :=
 (.cond 28
 (.seq (.region (cs 31 [.mv 3,.bin .add 31 (ci 1)] ++ cs 2 [.mv 32]))
 .ret)
 y1sx)
def y1im : CCode :=
 (.seq (.seq (.region ([kO 29 (.bin .eql 27 (.c (.int .u8 73))),kO 28 (.mv 29)]))
 (.cond 28
 .skip
 (.region ([kO 30 (.bin .eql 27 (.c (.int .u8 74))),kO 28 (.mv 30)]))))
 y17u)
def y1sm : CCode :=
 (.block 2 y1im)
def y1m5 : CCode :=
 (.seq (.region (cs 25 [.mv 0,.mv 3,.ixstr 25 26]))
 y1sm)
def y1n1 : CCode :=
 (.seq y1m5
 y27k)
def y1ax : CCode :=
 (.seq (.seq (.region (cs 17 [.mv 3,.bin .gtr 17 (ci 8),.mv 18] ++ cg 20 19 false [.mv 3,.mv 0,.len 0 21,.bin .eql 20 22] ++ cs 24 [.pick 19 (.c (.bool true)) 23]))
 (.cond 24
 (.seq (.region ([kO 2 (.mv (ci 0))]))
 .ret)
 .skip))
 y1n1)
def y1ja : CCode :=
 (.block 1 (.region (cs 15 [.mv 3,.bin .add 15 (ci 1)] ++ cs 3 [.mv 16])))
def y1ov : CCode :=
 (.seq (.seq (.region (cs 5 [.mv 3,.mv 0,.len 0 6,.bin .lss 5 7,.mv 8] ++ cg 10 9 true [.mv 0,.mv 3,.ixstr 10 11,.bin .eql 12 (.c (.int .u8 91))] ++ cs 14 [.pick 9 13 (.c (.bool false))]))
 (.cond 14
 .skip
 (.exit 0)))
 y1ja)
def yo5 : CCode :=
 (.loop [0, 3] y1ov)
def y19z : CCode :=
 (.block 0 yo5)
def y1rx : CCode :=
 (.seq y19z
 y1ax)
def y1nw : CCode :=
 (.seq (.region ([kO 3 (.mv (ci 0))]))
 y1rx)
def y1sn : CCode :=
 (.seq (.region ([kO 2 (.mv (ci 0))]))
 y1nw)
def c_q3 : CFunc :=
 ⟨1, true, 0, y1sn, [.t 2]⟩
def y264 : CCode :=
 (.seq (.region ([kO 4 (.mv (.c (.bool true)))]))
 .ret)
def y275 : CCode :=
 (.region ([kO 71 (.bin .add 19 (ci 1)),kO 19 (.mv 71)]))
def y270 : CCode :=
 (.seq (.block 1 (.seq (.region (cs 21 [.ixs 1 17 19,lf 21] ++ cs 6 [.mv 22]))
 (.seq (.region (cs 23 [.mv 6,.bin .geq 23 (.c (.int .u8 97)),.mv 24] ++ cg 26 25 true [.mv 6,.bin .leq 26 (.c (.int .u8 122))] ++ cs 28 [.pick 25 27 (.c (.bool false)),.mv 28] ++ cg 30 29 false [.mv 6,.bin .geq 30 (.c (.int .u8 65)),.mv 31] ++ cg 33 32 true [.mv 6,.bin .leq 33 (.c (.int .u8 90))] ++ cg 35 29 false [.pick 32 34 (.c (.bool false))] ++ cs 36 [.pick 29 (.c (.bool true)) 35,.mv 36] ++ cg 38 37 false [.mv 6,.bin .geq 38 (.c (.int .u8 48)),.mv 39] ++ cg 41 40 true [.mv 6,.bin .leq 41 (.c (.int .u8 57))] ++ cg 43 37 false [.pick 40 42 (.c (.bool false))] ++ cs 44 [.pick 37 (.c (.bool true)) 43,.mv 44] ++ cg 46 45 false [.mv 6,.bin .eql 46 (.c (.int .u8 95))] ++ cs 48 [.pick 45 (.c (.bool true)) 47,.mv 48] ++ cg 50 49 false [.mv 6,.bin .eql 50 (.c (.int .u8 36))] ++ cs 52 [.pick 49 (.c (.bool true)) 51,.mv 52] ++ cg 54 53 false [.mv 6,.bin .eql 54 (.c (.int .u8 47))] ++ cs 56 [.pick 53 (.c (.bool true)) 55] ++ cs 7 [.mv 56]))
 (.seq (.region (cs 57 [.mv 7,.un .not 57,.mv 58] ++ cg 60 59 true [.mv 1,.mv 60] ++ cg 62 61 true [.mv 6,.bin .eql 62 (.c (.int .u8 60)),.mv 63] ++ cg 65 64 false [.mv 6,.bin .eql 65 (.c (.int .u8 62))] ++ cg 67 61 true [.pick 64 (.c (.bool true)) 66] ++ cg 68 59 true [.pick 61 67 (.c (.bool false)),.un .not 68] ++ cs 70 [.pick 59 69 (.c (.bool false))]))
 (.cond 70
 (.seq (.region ([kO 4 (.mv (.c (.bool false)))]))
 .ret)
 .skip)))))
 y275)
def y27j : CCode :=
 (.seq (.cond 20
 .skip
 (.exit 0))
 y270)
def y266 : CCode :=
 (.seq (.region ([kO 20 (.bin .lss 19 18)]))
 y27j)
def yu9 : CCode :=
 (.loop [1, 17, 18, 19] y266)
def y25r : CCode :=
 (.block 0 yu9)
def y24w : CCode :=
 (.seq (.region (cs 16 [.mv 0,.s2b (some 0) 16,.len 1 17,.mv (ci 0)]))
 y25r)
def y269 : CCode :=
 (.seq y24w
 y264)
def y1dl : CCode :=
 (.seq (.seq (.region (cs 8 [.mv 0,.len 0 8,.bin .lss 9 (ci 1),.mv 10] ++ cg 12 11 false [.mv 0,.len 0 12,.bin .gtr 13 (ci 60)] ++ cs 15 [.pick 11 (.c (.bool true)) 14]))
 (.cond 15
 (.seq (.region ([kO 4 (.mv (.c (.bool false)))]))
 .ret)
 .skip))
 y269)
def y18a : CCode :=
 (.seq (.region ([kO 4 (.mv (.c (.bool false)))]))
 y1dl)
def c_q1 : CFunc :=
 ⟨2, true, 1, y18a, [.t 4]⟩
def tbl : List (Option Nat) := [none, none, none, some 229, none, none, none, none, some 230, some 231, some 232, some 28, none, none, none, none, none, none, some 11, some 233, some 8, some 237, some 238, some 75, some 17, some 88, none, none, none, none, none, none, none, none, none, none, some 234, some 235, some 236, some 24, some 46, some 63, some 22, some 247, some 242, some 240, some 239, some 241, some 243, some 244, some 245, some 246, some 81, some 84, some 79, some 9, some 85, some 10, some 86, some 82, none, none, none, none, none, none, none, none, none, none, some 45, some 47, some 18, some 39, some 83, none, some 50, some 37, some 51, none, some 44, none, some 60]
def fnE : Nat → Option CFunc
 | 8 => some y2kc
 | 9 => some y2me
 | 10 => some y2is
 | 11 => some y2p7
 | 17 => some y2o4
 | 18 => some y2p9
 | 22 => some y2kb
 | 24 => some y2on
 | 28 => some y2j8
 | 37 => some c_q2
 | 39 => some y254
 | 44 => some c_q3
 | 45 => some y276
 | 46 => some y26w
 | 47 => some y2pf
 | 50 => some y2lc
 | 51 => some y2pd
 | 60 => some c_q1
 | 63 => some y2mg
 | 75 => some y2kx
 | 79 => some y2nu
 | 81 => some y2mj
 | 82 => some y2kw
 | 83 => some y2jq
 | 84 => some y2i0
 | 85 => some y2ly
 | 86 => some y2jh
 | 88 => some y2kp
 | 229 => some y2ls
 | 230 => some y2i9
 | 231 => some c_q5
 | 232 => some y2pg
 | 233 => some c_q4
 | 234 => some y2iq
 | 235 => some c_q7
 | 236 => some y2jk
 | 237 => some y2l8
 | 238 => some y2ot
 | 239 => some y2pk
 | 240 => some y2pm
 | 241 => some y2i6
 | 242 => some y2kq
 | 243 => some c_q9
 | 244 => some y2k3
 | 245 => some y2p5
 | 246 => some c_q8
 | 247 => some y2ph
 | _ => none
abbrev nm : Nat → Option Nat := nmOf tbl
def E : Env := envX fnE [84, 85, 86, 236, 238, 242, 243, 244, 245, 246, 247] (fun _ _ => none)
def KK0 {β : Type} (f : Heap → β) (s : St) : β := f s.h
def KK1 {β : Type} (f : AV → Heap → β) (a0 : Nat) (s : St) : β := f (tget s.t a0) s.h
def KK2 {β : Type} (f : AV → AV → Heap → β) (a0 a1 : Nat) (s : St) : β := f (tget s.t a0) (tget s.t a1) s.h
def KK3 {β : Type} (f : AV → AV → AV → Heap → β) (a0 a1 a2 : Nat) (s : St) : β := f (tget s.t a0) (tget s.t a1) (tget s.t a2) s.h
def KK4 {β : Type} (f : AV → AV → AV → AV → Heap → β) (a0 a1 a2 a3 : Nat) (s : St) : β := f (tget s.t a0) (tget s.t a1) (tget s.t a2) (tget s.t a3) s.h
def KK5 {β : Type} (f : AV → AV → AV → AV → AV → Heap → β) (a0 a1 a2 a3 a4 : Nat) (s : St) : β := f (tget s.t a0) (tget s.t a1) (tget s.t a2) (tget s.t a3) (tget s.t a4) s.h
def KK6 {β : Type} (f : AV → AV → AV → AV → AV → AV → Heap → β) (a0 a1 a2 a3 a4 a5 : Nat) (s : St) : β := f (tget s.t a0) (tget s.t a1) (tget s.t a2) (tget s.t a3) (tget s.t a4) (tget s.t a5) s.h
def KK7 {β : Type} (f : AV → AV → AV → AV → AV → AV → AV → Heap → β) (a0 a1 a2 a3 a4 a5 a6 : Nat) (s : St) : β := f (tget s.t a0) (tget s.t a1) (tget s.t a2) (tget s.t a3) (tget s.t a4) (tget s.t a5) (tget s.t a6) s.h
def KK8 {β : Type} (f : AV → AV → AV → AV → AV → AV → AV → AV → Heap → β) (a0 a1 a2 a3 a4 a5 a6 a7 : Nat) (s : St) : β := f (tget s.t a0) (tget s.t a1) (tget s.t a2) (tget s.t a3) (tget s.t a4) (tget s.t a5) (tget s.t a6) (tget s.t a7) s.h
def KK9 {β : Type} (f : AV → AV → AV → AV → AV → AV → AV → AV → AV → Heap → β) (a0 a1 a2 a3 a4 a5 a6 a7 a8 : Nat) (s : St) : β := f (tget s.t a0) (tget s.t a1) (tget s.t a2) (tget s.t a3) (tget s.t a4) (tget s.t a5) (tget s.t a6) (tget s.t a7) (tget s.t a8) s.h
def KK10 {β : Type} (f : AV → AV → AV → AV → AV → AV → AV → AV → AV → AV → Heap → β) (a0 a1 a2 a3 a4 a5 a6 a7 a8 a9 : Nat) (s : St) : β := f (tget s.t a0) (tget s.t a1) (tget s.t a2) (tget s.t a3) (tget s.t a4) (tget s.t a5) (tget s.t a6) (tget s.t a7) (tget s.t a8) (tget s.t a9) s.h
def KK11 {β : Type} (f : AV → AV → AV → AV → AV → AV → AV → AV → AV → AV → AV → Heap → β) (a0 a1 a2 a3 a4 a5 a6 a7 a8 a9 a10 : Nat) (s : St) : β := f (tget s.t a0) (tget s.t a1) (tget s.t a2) (tget s.t a3) (tget s.t a4) (tget s.t a5) (tget s.t a6) (tget s.t a7) (tget s.t a8) (tget s.t a9) (tget s.t a10) s.h
def KK14 {β : Type} (f : AV → AV → AV → AV → AV → AV → AV → AV → AV → AV → AV → AV → AV → AV → Heap → β) (a0 a1 a2 a3 a4 a5 a6 a7 a8 a9 a10 a11 a12 a13 : Nat) (s : St) : β := f (tget s.t a0) (tget s.t a1) (tget s.t a2) (tget s.t a3) (tget s.t a4) (tget s.t a5) (tget s.t a6) (tget s.t a7) (tget s.t a8) (tget s.t a9) (tget s.t a10) (tget s.t a11) (tget s.t a12) (tget s.t a13) s.h
def KK15 {β : Type} (f : AV → AV → AV → AV → AV → AV → AV → AV → AV → AV → AV → AV → AV → AV → AV → Heap → β) (a0 a1 a2 a3 a4 a5 a6 a7 a8 a9 a10 a11 a12 a13 a14 : Nat) (s : St) : β := f (tget s.t a0) (tget s.t a1) (tget s.t a2) (tget s.t a3) (tget s.t a4) (tget s.t a5) (tget s.t a6) (tget s.t a7) (tget s.t a8) (tget s.t a9) (tget s.t a10) (tget s.t a11) (tget s.t a12) (tget s.t a13) (tget s.t a14) s.h
abbrev T1 (c : CCode) (n : St → OX) (e : Nat → St → OX) (r : List CRes) (k : St → OX) : Prop := ∀ s, W E 0 c s n e (finP r) = k s
abbrev T0 (c : CCode) (r : List CRes) (k : St → OX) : Prop := T1 c (finP r) xN r k
theorem sq {a b : CCode} {n k k' : St → OX} {e : Nat → St → OX} {r : List CRes} (h : T1 b n e r k) (h' : T1 a k e r k') : T1 (.seq a b) n e r k' := fun s => (y32 h).trans (h' s)
theorem ok3 : FnOk Go.Proofs.Try.prog nm fnE 3 229 := .of Go.Proofs.Try.func3 (by kernel_rfl) (by kernel_rfl) rfl (by kernel_rfl)
theorem ok8 : FnOk Go.Proofs.Try.prog nm fnE 8 230 := .of Go.Proofs.Try.func8 (by kernel_rfl) (by kernel_rfl) rfl (by kernel_rfl)
theorem ok9 : FnOk Go.Proofs.Try.prog nm fnE 9 231 := .of Go.Proofs.Try.func9 (by kernel_rfl) (by kernel_rfl) rfl (by kernel_rfl)
theorem ok10 : FnOk Go.Proofs.Try.prog nm fnE 10 232 := .of Go.Proofs.Try.func10 (by kernel_rfl) (by kernel_rfl) rfl (by kernel_rfl)
theorem ok11 : FnOk Go.Proofs.Try.prog nm fnE 11 28 := .of Go.Proofs.Try.func11 (by kernel_rfl) (by kernel_rfl) rfl (by kernel_rfl)
theorem ok18 : FnOk Go.Proofs.Try.prog nm fnE 18 11 := .of Go.Proofs.Try.func18 (by kernel_rfl) (by kernel_rfl) rfl (by kernel_rfl)
theorem ok19 : FnOk Go.Proofs.Try.prog nm fnE 19 233 := .of Go.Proofs.Try.func19 (by kernel_rfl) (by kernel_rfl) rfl (by kernel_rfl)
theorem ok20 : FnOk Go.Proofs.Try.prog nm fnE 20 8 := .of Go.Proofs.Try.func20 (by kernel_rfl) (by kernel_rfl) rfl (by kernel_rfl)
theorem ok21 : FnOk Go.Proofs.Try.prog nm fnE 21 237 := .of Go.Proofs.Try.func21 (by kernel_rfl) (by kernel_rfl) rfl (by kernel_rfl)
theorem ok22 : FnOk Go.Proofs.Try.prog nm fnE 22 238 := .of Go.Proofs.Try.func22 (by kernel_rfl) (by kernel_rfl) rfl (by kernel_rfl)
theorem ok23 : FnOk Go.Proofs.Try.prog nm fnE 23 75 := .of Go.Proofs.Try.func23 (by kernel_rfl) (by kernel_rfl) rfl (by kernel_rfl)
theorem ok24 : FnOk Go.Proofs.Try.prog nm fnE 24 17 := .of Go.Proofs.Try.func24 (by kernel_rfl) (by kernel_rfl) rfl (by kernel_rfl)
theorem ok25 : FnOk Go.Proofs.Try.prog nm fnE 25 88 := .of Go.Proofs.Try.func25 (by kernel_rfl) (by kernel_rfl) rfl (by kernel_rfl)
theorem ok36 : FnOk Go.Proofs.Try.prog nm fnE 36 234 := .of Go.Proofs.Try.func36 (by kernel_rfl) (by kernel_rfl) rfl (by kernel_rfl)
theorem ok37 : FnOk Go.Proofs.Try.prog nm fnE 37 235 := .of Go.Proofs.Try.func37 (by kernel_rfl) (by kernel_rfl) rfl (by kernel_rfl)
theorem ok38 : FnOk Go.Proofs.Try.prog nm fnE 38 236 := .of Go.Proofs.Try.func38 (by kernel_rfl) (by kernel_rfl) rfl (by kernel_rfl)
theorem ok39 : FnOk Go.Proofs.Try.prog nm fnE 39 24 := .of Go.Proofs.Try.func39 (by kernel_rfl) (by kernel_rfl) rfl (by kernel_rfl)
theorem ok40 : FnOk Go.Proofs.Try.prog nm fnE 40 46 := .of Go.Proofs.Try.func40 (by kernel_rfl) (by kernel_rfl) rfl (by kernel_rfl)
theorem ok41 : FnOk Go.Proofs.Try.prog nm fnE 41 63 := .of Go.Proofs.Try.func41 (by kernel_rfl) (by kernel_rfl) rfl (by kernel_rfl)
theorem ok42 : FnOk Go.Proofs.Try.prog nm fnE 42 22 := .of Go.Proofs.Try.func42 (by kernel_rfl) (by kernel_rfl) rfl (by kernel_rfl)
theorem ok43 : FnOk Go.Proofs.Try.prog nm fnE 43 247 := .of Go.Proofs.Try.func43 (by kernel_rfl) (by kernel_rfl) rfl (by kernel_rfl)
theorem ok44 : FnOk Go.Proofs.Try.prog nm fnE 44 242 := .of Go.Proofs.Try.func44 (by kernel_rfl) (by kernel_rfl) rfl (by kernel_rfl)
theorem ok45 : FnOk Go.Proofs.Try.prog nm fnE 45 240 := .of Go.Proofs.Try.func45 (by kernel_rfl) (by kernel_rfl) rfl (by kernel_rfl)
theorem ok46 : FnOk Go.Proofs.Try.prog nm fnE 46 239 := .of Go.Proofs.Try.func46 (by kernel_rfl) (by kernel_rfl) rfl (by kernel_rfl)
theorem ok47 : FnOk Go.Proofs.Try.prog nm fnE 47 241 := .of Go.Proofs.Try.func47 (by kernel_rfl) (by kernel_rfl) rfl (by kernel_rfl)
theorem ok48 : FnOk Go.Proofs.Try.prog nm fnE 48 243 := .of Go.Proofs.Try.func48 (by kernel_rfl) (by kernel_rfl) rfl (by kernel_rfl)
theorem ok49 : FnOk Go.Proofs.Try.prog nm fnE 49 244 := .of Go.Proofs.Try.func49 (by kernel_rfl) (by kernel_rfl) rfl (by kernel_rfl)
theorem ok50 : FnOk Go.Proofs.Try.prog nm fnE 50 245 := .of Go.Proofs.Try.func50 (by kernel_rfl) (by kernel_rfl) rfl (by kernel_rfl)
theorem ok51 : FnOk Go.Proofs.Try.prog nm fnE 51 246 := .of Go.Proofs.Try.func51 (by kernel_rfl) (by kernel_rfl) rfl (by kernel_rfl)
theorem ok52 : FnOk Go.Proofs.Try.prog nm fnE 52 81 := .of Go.Proofs.Try.func52 (by kernel_rfl) (by kernel_rfl) rfl (by kernel_rfl)
theorem ok53 : FnOk Go.Proofs.Try.prog nm fnE 53 84 := .of Go.Proofs.Try.func53 (by kernel_rfl) (by kernel_rfl) rfl (by kernel_rfl)
theorem ok54 : FnOk Go.Proofs.Try.prog nm fnE 54 79 := .of Go.Proofs.Try.func54 (by kernel_rfl) (by kernel_rfl) rfl (by kernel_rfl)
theorem ok55 : FnOk Go.Proofs.Try.prog nm fnE 55 9 := .of Go.Proofs.Try.func55 (by kernel_rfl) (by kernel_rfl) rfl (by kernel_rfl)
theorem ok56 : FnOk Go.Proofs.Try.prog nm fnE 56 85 := .of Go.Proofs.Try.func56 (by kernel_rfl) (by kernel_rfl) rfl (by kernel_rfl)
theorem ok57 : FnOk Go.Proofs.Try.prog nm fnE 57 10 := .of Go.Proofs.Try.func57 (by kernel_rfl) (by kernel_rfl) rfl (by kernel_rfl)
theorem ok58 : FnOk Go.Proofs.Try.prog nm fnE 58 86 := .of Go.Proofs.Try.func58 (by kernel_rfl) (by kernel_rfl) rfl (by kernel_rfl)
theorem ok59 : FnOk Go.Proofs.Try.prog nm fnE 59 82 := .of Go.Proofs.Try.func59 (by kernel_rfl) (by kernel_rfl) rfl (by kernel_rfl)
theorem ok70 : FnOk Go.Proofs.Try.prog nm fnE 70 45 := .of Go.Proofs.Try.func70 (by kernel_rfl) (by kernel_rfl) rfl (by kernel_rfl)
theorem ok71 : FnOk Go.Proofs.Try.prog nm fnE 71 47 := .of Go.Proofs.Try.func71 (by kernel_rfl) (by kernel_rfl) rfl (by kernel_rfl)
theorem ok72 : FnOk Go.Proofs.Try.prog nm fnE 72 18 := .of Go.Proofs.Try.func72 (by kernel_rfl) (by kernel_rfl) rfl (by kernel_rfl)
theorem ok73 : FnOk Go.Proofs.Try.prog nm fnE 73 39 := .of Go.Proofs.Try.func73 (by kernel_rfl) (by kernel_rfl) rfl (by kernel_rfl)
theorem ok74 : FnOk Go.Proofs.Try.prog nm fnE 74 83 := .of Go.Proofs.Try.func74 (by kernel_rfl) (by kernel_rfl) rfl (by kernel_rfl)
theorem ok76 : FnOk Go.Proofs.Try.prog nm fnE 76 50 := .of Go.Proofs.Try.func76 (by kernel_rfl) (by kernel_rfl) rfl (by kernel_rfl)
theorem ok77 : FnOk Go.Proofs.Try.prog nm fnE 77 37 := .of Go.Proofs.Try.func77 (by kernel_rfl) (by kernel_rfl) rfl (by kernel_rfl)
theorem ok78 : FnOk Go.Proofs.Try.prog nm fnE 78 51 := .of Go.Proofs.Try.func78 (by kernel_rfl) (by kernel_rfl) rfl (by kernel_rfl)
theorem ok80 : FnOk Go.Proofs.Try.prog nm fnE 80 44 := .of Go.Proofs.Try.func80 (by kernel_rfl) (by kernel_rfl) rfl (by kernel_rfl)
theorem ok82 : FnOk Go.Proofs.Try.prog nm fnE 82 60 := .of Go.Proofs.Try.func82 (by kernel_rfl) (by kernel_rfl) rfl (by kernel_rfl)
theorem y2ru : AllF Go.Proofs.Try.prog nm fnE 0 tbl :=
 ⟨ok3, ok8, ok9, ok10, ok11, ok18, ok19, ok20, ok21, ok22, ok23, ok24, ok25, ok36, ok37, ok38, ok39, ok40, ok41, ok42, ok43, ok44, ok45, ok46, ok47, ok48, ok49, ok50, ok51, ok52, ok53, ok54, ok55, ok56, ok57, ok58, ok59, ok70, ok71, ok72, ok73, ok74, ok76, ok77, ok78, ok80, ok82, trivial⟩
theorem y2tx : EnvOk Go.Proofs.Try.prog nm E := y28d (by kernel_rfl) y2ru .nothing
end Go.Vm
