/- Functions of the machine as plain functions that go on with what follows. -/
import Derived.Test.YtjlbafgbohekfaaNEnv
set_option linter.unusedSimpArgs false
set_option linter.unusedVariables false
set_option linter.unusedSectionVars false
namespace Go.Vm
noncomputable section
def y2j6 (h : Heap) : OX :=
(yo h (.bool true))
def ya3 := KK0 y2j6
theorem y1yc : T0 y1e3 [.t 4] ya3 := fun _ => by kernel_rfl
def ypk (a d c b : AV) (h : Heap) : OX :=
 W E 0 yoc ⟨[(13, a), (96, d), (97, c), (98, b)], h⟩ ya3 (y6 4 ya3 xN) (finP [.t 4])
def yc6 := KK4 ypk 13 96 97 98
theorem yrn : T1 yoc ya3 (y6 4 ya3 xN) [.t 4] yc6 := fun s => yu.trans (by kernel_rfl)
def y2dy (d c b e : AV) (h : Heap) : OX :=
ob (yb .add e (.int .i64 1)) fun a =>
(ypk d c b a h)
def y2nl := KK4 y2dy 13 96 97 98
theorem y23s : T1 y1st yc6 (y6 4 ya3 xN) [.t 4] y2nl := fun _ => by kernel_rfl
def y2h7 (d c k a : AV) (h : Heap) : OX :=
ob (y10 9 c a) fun i =>
ob (evLd true 9 i h) fun l =>
oh (newC 0 (some 9) zq0 h) fun b h1 =>
oh (evSt 9 b l h1) fun _ h2 =>
ob (y10 9 d a) fun g =>
ob (evLd true 9 g h2) fun m =>
ob (evLd true 9 b h2) fun e =>
oh (yc E (yd E) 0 none true 28 [m, e] h2) fun j h3 =>
ob (evUn .not j) fun n =>
cnd n
 ((yo h3 (.bool false)))
 ((y2dy d c k a h3))
def y2lj := KK4 y2h7 13 96 97 98
theorem y1zp : T1 y1o7 yc6 (y6 4 ya3 xN) [.t 4] y2lj := sq y23s fun _ => by kernel_rfl
def y1yk (c b a d e : AV) (h : Heap) : OX :=
cnd e
 ((y2h7 c b a d h))
 ((y2j6 h))
def y2o2 := KK5 y1yk 13 96 97 98 99
theorem y1vx : T1 y19r yc6 (y6 4 ya3 xN) [.t 4] y2o2 := sq y1zp fun _ => by kernel_rfl
def y1zt (d c a b : AV) (h : Heap) : OX :=
ob (yb .lss b a) fun e =>
(y1yk d c a b e h)
def y2ks := KK4 y1zt 13 96 97 98
theorem y1zk : T1 y1dk yc6 (y6 4 ya3 xN) [.t 4] y2ks := sq y1vx fun _ => by kernel_rfl
theorem yqm (a d c b : AV) (h : Heap) : ypk a d c b h = (y1zt a d c b h) :=
 y27.trans ((y1q _ _ _ (n' := yc6) (fun s => yrn s)).trans ((y1zk _).trans (by kernel_rfl)))
theorem y20j : T1 y1lx ya3 xN [.t 4] yc6 := fun s => y11.trans (yrn s)
def y2bc (c e : AV) (h : Heap) : OX :=
ob (evFa 3 c) fun d =>
ob (evLd false 1 d h) fun a =>
ob (y17 1 a h) fun b =>
(ypk e a b (.int .i64 0) h)
def y26z := KK2 y2bc 5 13
theorem y1yw : T1 y1pd ya3 xN [.t 4] y26z := sq y20j fun _ => by kernel_rfl
theorem y22n : T0 y1gd [.t 4] y26z := sq y1yc y1yw
def y1aw (c r d j : AV) (h : Heap) : OX :=
ob (yb .neq r (.int .i64 0)) fun b =>
gb b false (some j) fun k =>
gb b false (evUn .not k) fun l =>
ob (yh b (.bool true) l) fun a =>
gb a false (some d) fun p =>
gb a false (y17 1 p h) fun m =>
gb a false (evFa 3 c) fun i =>
gb a false (evLd false 1 i h) fun e =>
gb a false (y17 1 e h) fun o =>
gb a false (yb .neq m o) fun g =>
ob (yh a (.bool true) g) fun n =>
cnd n
 ((yo h (.bool false)))
 ((y2bc c d h))
def y2bx := KK4 y1aw 5 12 13 15
theorem y1gw : T0 y11y [.t 4] y2bx := sq y22n fun _ => by kernel_rfl
def y1ht (e b i : AV) (h : Heap) : OX :=
ob (evLd true 8 b h) fun c =>
oh (yc E (yd E) 0 none true 232 [c] h) fun a h4 =>
ob (y29 0 a) fun d =>
ob (y29 1 a) fun j =>
ob (y29 2 a) fun g =>
(y1aw e i d g h4)
def y2dh := KK3 y1ht 5 11 12
theorem y1jl : T0 yy7 [.t 4] y2dh := sq y1gw fun _ => by kernel_rfl
def y114 (c : AV) (h : Heap) : OX :=
ob (evLd true 5 c h) fun d =>
oh (yc E (yd E) 0 none true 231 [d] h) fun b h5 =>
ob (y29 0 b) fun g =>
ob (y29 1 b) fun e =>
oh (newC 0 (some 8) zq1 h5) fun a h6 =>
oh (evSt 8 a g h6) fun _ h7 =>
(y1ht c a e h7)
def y2h8 := KK1 y114 5
theorem y1mo : T0 ywe [.t 4] y2h8 := sq y1jl fun _ => by kernel_rfl
def y0m (a : AV) (h : Heap) : OX :=
ob (evFa 3 a) fun d =>
ob (evLd false 1 d h) fun i =>
ob (yq zq0 [(0, 1, (.int .i64 30)), (2, 1, (.int .i64 (-1)))]) fun b =>
oh (yl 0 (some 6) 9 1 zq0 [(0, b)] h) fun e h8 =>
oh (y1v 0 (some 7) 9 96 i e h8) fun g h9 =>
ob (evFa 3 a) fun c =>
oh (evSt 1 c g h9) fun _ h10 =>
(y114 a h10)
def y4d := KK1 y0m 5
theorem y1c5 : T0 y15g [.t 4] y4d := sq y1mo fun _ => by kernel_rfl
def y9r (d e c a b : AV) (h : Heap) : OX :=
 W E 0 yhr ⟨[(5, d), (6, e), (44, c), (45, a), (46, b)], h⟩ y4d (y6 2 y4d xN) (finP [.t 4])
def y7w := KK5 y9r 5 6 44 45 46
theorem ylp : T1 yhr y4d (y6 2 y4d xN) [.t 4] y7w := fun s => yu.trans (by kernel_rfl)
def y1kk (e g d b c : AV) (h : Heap) : OX :=
ob (yb .add c (.int .i64 1)) fun a =>
(y9r e g d b a h)
def yap := KK5 y1kk 5 6 44 45 46
theorem y1fn : T1 y120 y7w (y6 2 y4d xN) [.t 4] yap := fun _ => by kernel_rfl
def y1ke (a n g k j l : AV) (h : Heap) : OX :=
ob (evFa 3 a) fun e =>
ob (evLd false 1 e h) fun b =>
ob (yq zq0 [(0, 1, (.int .i64 3)), (1, 1, (.int .i64 1)), (7, 1, g)]) fun m =>
oh (yl 0 (some 4) 9 1 zq0 [(0, m)] h) fun d h11 =>
oh (y1v 0 (some 5) 9 96 b d h11) fun i h12 =>
ob (evFa 3 a) fun c =>
oh (evSt 1 c i h12) fun _ h13 =>
(y1kk a n k j l h13)
def y2g1 := KK6 y1ke 5 6 10 44 45 46
theorem y1cy : T1 y139 yap (y6 3 yap (y6 2 y4d xN)) [.t 4] y2g1 := fun _ => by kernel_rfl
def y1oc (i k b g e j : AV) (h : Heap) : OX :=
ob (y17 0 b h) fun d =>
ob (yb .add k d) fun a =>
ob (yb .gtr a (.int .i64 10000)) fun c =>
cnd c
 ((yo h (.bool true)))
 ((y1ke i a b g e j h))
def y2gr := KK6 y1oc 5 6 10 44 45 46
theorem y1o4 : T1 y153 yap (y6 3 yap (y6 2 y4d xN)) [.t 4] y2gr := sq y1cy fun _ => by kernel_rfl
def y1lf (e i b d a : AV) (h : Heap) : OX :=
ob (y10 1 b a) fun g =>
ob (evLd false 1 g h) fun c =>
(y1oc e i c b d a h)
def yuw := KK5 y1lf 5 6 44 45 46
theorem y1gp : T1 y12c yap (y6 3 yap (y6 2 y4d xN)) [.t 4] yuw := sq y1o4 fun _ => by kernel_rfl
theorem y1bk : T1 y128 yap (y6 2 y4d xN) [.t 4] yuw := fun s => y11.trans (y1gp s)
theorem y1rs : T1 y15i y7w (y6 2 y4d xN) [.t 4] yuw := sq y1fn y1bk
def yzo (a e d b c g : AV) (h : Heap) : OX :=
cnd g
 ((y1lf a e d b c h))
 ((y0m a h))
def y2ed := KK6 yzo 5 6 44 45 46 47
theorem y1rm : T1 yxy y7w (y6 2 y4d xN) [.t 4] y2ed := sq y1rs fun _ => by kernel_rfl
def y14s (d e c a b : AV) (h : Heap) : OX :=
ob (yb .lss b a) fun g =>
(yzo d e c a b g h)
def y2at := KK5 y14s 5 6 44 45 46
theorem y1dm : T1 y147 y7w (y6 2 y4d xN) [.t 4] y2at := sq y1rm fun _ => by kernel_rfl
theorem ymp (d e c a b : AV) (h : Heap) : y9r d e c a b h = (y14s d e c a b h) :=
 y27.trans ((y1q _ _ _ (n' := y7w) (fun s => ylp s)).trans ((y1dm _).trans (by kernel_rfl)))
theorem y1pc : T1 y145 y4d xN [.t 4] y7w := fun s => y11.trans (ylp s)
def yzm (a d b : AV) (h : Heap) : OX :=
ob (y17 1 a h) fun c =>
(y9r d b a c (.int .i64 0) h)
def y5e := KK3 yzm 1 5 6
theorem y1n8 : T1 yw4 y4d xN [.t 4] y5e := sq y1pc fun _ => by kernel_rfl
theorem y185 : T0 y14p [.t 4] y5e := sq y1c5 y1n8
def yf7 (a e g c b d : AV) (h : Heap) : OX :=
 W E 0 yho ⟨[(1, a), (5, e), (6, g), (30, c), (31, b), (32, d)], h⟩ y5e (y6 0 y5e xN) (finP [.t 4])
def y88 := KK6 yf7 1 5 6 30 31 32
theorem yml : T1 yho y5e (y6 0 y5e xN) [.t 4] y88 := fun s => yu.trans (by kernel_rfl)
def y1bp (b g i d c e : AV) (h : Heap) : OX :=
ob (yb .add e (.int .i64 1)) fun a =>
(yf7 b g i d c a h)
def y2fw := KK6 y1bp 1 5 6 30 31 32
theorem y1k2 : T1 y14z y88 (y6 0 y5e xN) [.t 4] y2fw := fun _ => by kernel_rfl
def y1sh (e a n b k c : AV) (h : Heap) : OX :=
ob (y10 1 b c) fun j =>
ob (evLd false 1 j h) fun p =>
ob (evFa 3 a) fun m =>
ob (evLd false 1 m h) fun o =>
ob (yq zq0 [(0, 1, (.int .i64 1)), (5, 1, p)]) fun l =>
oh (yl 0 (some 2) 9 1 zq0 [(0, l)] h) fun i h14 =>
oh (y1v 0 (some 3) 9 96 o i h14) fun g h15 =>
ob (evFa 3 a) fun d =>
oh (evSt 1 d g h15) fun _ h16 =>
(y1bp e a n b k c h16)
def y2an := KK6 y1sh 1 5 6 30 31 32
theorem y1no : T1 yx6 y88 (y6 0 y5e xN) [.t 4] y2an := sq y1k2 fun _ => by kernel_rfl
def y0d (a b c g e i d : AV) (h : Heap) : OX :=
cnd d
 ((y1sh a b c g e i h))
 ((yzm a b c h))
def y2by := KK7 y0d 1 5 6 30 31 32 33
theorem y1cp : T1 ywn y88 (y6 0 y5e xN) [.t 4] y2by := sq y1no fun _ => by kernel_rfl
def y14u (d g i e a b : AV) (h : Heap) : OX :=
ob (yb .lss b a) fun c =>
(y0d d g i e a b c h)
def y2aj := KK6 y14u 1 5 6 30 31 32
theorem y1c3 : T1 yyc y88 (y6 0 y5e xN) [.t 4] y2aj := sq y1cp fun _ => by kernel_rfl
theorem ykh (a e g c b d : AV) (h : Heap) : yf7 a e g c b d h = (y14u a e g c b d h) :=
 y27.trans ((y1q _ _ _ (n' := y88) (fun s => yml s)).trans ((y1c3 _).trans (by kernel_rfl)))
theorem y1go : T1 y12u y5e xN [.t 4] y88 := fun s => y11.trans (yml s)
def y1m1 (a b d e : AV) (h : Heap) : OX :=
ob (y17 1 a h) fun c =>
(yf7 b d e a c (.int .i64 0) h)
def y1p1 := KK4 y1m1 0 1 5 6
theorem y1gy : T1 yyw y5e xN [.t 4] y1p1 := sq y1go fun _ => by kernel_rfl
theorem y1f8 : T0 y13d [.t 4] y1p1 := sq y185 y1gy
def y1o8 (a b c : AV) (h : Heap) : OX :=
(y1m1 a b c (.int .i64 0) h)
def y298 := KK3 y1o8 0 1 5
theorem y1oj : T0 y151 [.t 4] y298 := sq y1f8 fun _ => by kernel_rfl
def y1jf (b d : AV) (h : Heap) : OX :=
oh (yl 0 (some 0) 1 2 [(.int .i64 0)] [(0, (.int .i64 2)), (1, (.int .i64 3))] h) fun e h17 =>
ob (yq zq2 [(0, 1, e)]) fun c =>
oh (newC 0 (some 1) zq2 h17) fun a h18 =>
oh (evSt 5 a c h18) fun _ h19 =>
(y1o8 b d a h19)
def y2e8 := KK2 y1jf 0 1
theorem y1tg : T0 y14m [.t 4] y2e8 := sq y1oj fun _ => by kernel_rfl
def y1e8 (b c : AV) (h : Heap) : OX :=
ob (y17 1 b h) fun i =>
ob (yb .gtr i (.int .i64 100)) fun a =>
gb a false (some c) fun e =>
gb a false (y17 1 e h) fun d =>
gb a false (yb .gtr d (.int .i64 100)) fun g =>
ob (yh a (.bool true) g) fun j =>
cnd j
 ((yo h (.bool true)))
 ((y1jf b c h))
def y2df := KK2 y1e8 0 1
theorem y1gx : T0 yx7 [.t 4] y2df := sq y1tg fun _ => by kernel_rfl
def y1s8 (a d : AV) (h : Heap) : OX :=
oh (yc E (yd E) 0 none true 230 [] h) fun b h20 =>
ob (evUn .not b) fun c =>
cnd c
 ((yo h20 (.bool false)))
 ((y1e8 a d h20))
def y2av := KK2 y1s8 0 1
theorem y1j9 : T0 y11z [.t 4] y2av := sq y1gx fun _ => by kernel_rfl
def ywx (a b : AV) (h : Heap) : OX :=
(y1s8 a b h)
def y27p := KK2 ywx 0 1
theorem y1n6 : T0 yv8 [.t 4] y27p := sq y1j9 fun _ => by kernel_rfl
@[simp] theorem y2qp : E.pure 229 = true := rfl
theorem y2tq (a b : AV) : (yd E).p 229 [a, b] = ywx a b [⟨0, .dead⟩, ⟨0, .dead⟩, ⟨0, .dead⟩, ⟨0, .dead⟩, ⟨0, .dead⟩, ⟨0, .dead⟩, ⟨0, .dead⟩, ⟨0, .dead⟩, ⟨0, .dead⟩, ⟨0, .dead⟩] :=
 (y1r (cf := y2ls) (by kernel_rfl) rfl).trans ((y1n6 _).trans (by kernel_rfl))
def y2cx (h : Heap) : OX :=
oh (yl 0 (some 0) 1 2 [(.int .i64 0)] [(0, (.int .i64 1)), (1, (.int .i64 1))] h) fun L h1 =>
oh (yl 0 (some 1) 1 2 [(.int .i64 0)] [(0, (.int .i64 1)), (1, (.int .i64 0))] h1) fun K h2 =>
ob (yq zq0 [(0, 1, (.int .i64 30)), (2, 1, (.int .i64 1))]) fun M =>
oh (yl 0 (some 2) 9 1 zq0 [(0, M)] h2) fun J h3 =>
ob (yq zq2 [(0, 1, L), (1, 1, K), (2, 1, (.int .i64 1)), (3, 1, J)]) fun D =>
oh (yc E (yd E) 0 none true 231 [D] h3) fun l h4 =>
ob (y29 0 l) fun n =>
ob (y29 1 l) fun F =>
oh (newC 0 (some 3) zq1 h4) fun a h5 =>
oh (evSt 8 a n h5) fun _ h6 =>
ob (evLd true 8 a h6) fun x =>
oh (yc E (yd E) 0 none true 233 [x, (.int .i64 0)] h6) fun k h7 =>
ob (y29 0 k) fun N =>
ob (y29 1 k) fun I =>
oh (newC 0 (some 4) zq0 h7) fun j h8 =>
oh (evSt 9 j N h8) fun _ h9 =>
ob (yq zq2 []) fun r =>
oh (yc E (yd E) 0 none true 231 [r] h9) fun i h10 =>
ob (y29 0 i) fun z =>
ob (y29 1 i) fun m =>
oh (newC 0 (some 5) zq1 h10) fun t h11 =>
oh (evSt 8 t z h11) fun _ h12 =>
ob (yb .eql F (.int .i64 0)) fun c =>
gb c true (evFa 6 a) fun y =>
gb c true (evLd false 1 y h12) fun p =>
gb c true (yb .eql p (.int .i64 2)) fun o =>
ob (yh c o (.bool false)) fun d =>
gb d true (evFa 5 a) fun A =>
gb d true (evLd false 1 A h12) fun Q =>
gb d true (yb .eql Q (.int .i64 3)) fun u =>
ob (yh d u (.bool false)) fun b =>
gb b true (evFa 0 j) fun H =>
gb b true (evLd false 1 H h12) fun v =>
gb b true (yb .eql v (.int .i64 4)) fun G =>
ob (yh b G (.bool false)) fun e =>
gb e true (some I) fun O =>
gb e true (yb .gtr O (.int .i64 0)) fun B =>
ob (yh e B (.bool false)) fun g =>
gb g true (some m) fun C =>
gb g true (yb .eql C (.int .i64 80)) fun w =>
ob (yh g w (.bool false)) fun P =>
(yo h12 P)
def y2kk := KK0 y2cx
theorem y1we : T0 y1m7 [.t 0] y2kk := fun _ => by kernel_rfl
@[simp] theorem y2q9 : E.pure 230 = true := rfl
theorem y2rp : (yd E).p 230 [] = y2cx [⟨0, .dead⟩, ⟨0, .dead⟩, ⟨0, .dead⟩, ⟨0, .dead⟩, ⟨0, .dead⟩, ⟨0, .dead⟩] :=
 (y1r (cf := y2i9) (by kernel_rfl) rfl).trans ((y1we _).trans (by kernel_rfl))
def q5_1 (a d : AV) (h : Heap) : OX :=
ob (yp d) fun c =>
ob (evFa 0 c) fun b =>
ob (evLd true 8 b h) fun e =>
oh (evSt 8 a e h) fun _ h1 =>
(ob (evLd true 8 a h1) fun r0 =>
 yo h1 (.tup [r0, (.int .i64 0)]))
def yii := KK2 q5_1 2 6
theorem y2al : T0 y25p [.cell 2 true 8, .t 3] yii := fun _ => by kernel_rfl
def y1dz (g e d c b a : AV) (h : Heap) : OX :=
 W E 0 ytf ⟨[(2, g), (6, e), (13, d), (208, c), (209, b), (210, a)], h⟩ yii (y6 10 yii xN) (finP [.cell 2 true 8, .t 3])
def yi6 := KK6 y1dz 2 6 13 208 209 210
theorem y11j : T1 ytf yii (y6 10 yii xN) [.cell 2 true 8, .t 3] yi6 := fun s => yu.trans (by kernel_rfl)
def q5_3 (i g e c b a : AV) (h : Heap) : OX :=
ob (yb .add a (.int .i64 1)) fun d =>
(y1dz i g e c b d h)
def y2sn := KK6 q5_3 2 6 13 208 209 210
theorem y2cr : T1 y26q yi6 (y6 10 yii xN) [.cell 2 true 8, .t 3] y2sn := fun _ => by kernel_rfl
def q5_4 (C c b j K d : AV) (h : Heap) : OX :=
ob (y10 4 j d) fun J =>
ob (evLd true 4 J h) fun x =>
oh (newC 0 (some 13) zq3 h) fun a h2 =>
oh (evSt 4 a x h2) fun _ h3 =>
ob (yp c) fun A =>
ob (evFa 0 A) fun L =>
ob (evFa 1 L) fun m =>
ob (evLd false 1 m h3) fun l =>
ob (evFa 0 a) fun t =>
ob (evLd false 1 t h3) fun D =>
ob (y10 1 b D) fun p =>
ob (evLd false 1 p h3) fun B =>
ob (evFa 1 a) fun n =>
ob (evLd false 1 n h3) fun I =>
ob (y10 1 b I) fun e =>
ob (evLd false 1 e h3) fun u =>
ob (evFa 2 a) fun r =>
ob (evLd false 1 r h3) fun F =>
ob (y10 1 b F) fun g =>
ob (evLd false 1 g h3) fun v =>
ob (evFa 3 a) fun i =>
ob (evLd false 1 i h3) fun H =>
ob (yq zq3 [(0, 1, B), (1, 1, u), (2, 1, v), (3, 1, H)]) fun y =>
oh (yl 0 (some 14) 4 1 zq3 [(0, y)] h3) fun k h4 =>
oh (y1v 0 (some 15) 4 40 l k h4) fun z h5 =>
ob (yp c) fun w =>
ob (evFa 0 w) fun G =>
ob (evFa 1 G) fun o =>
oh (evSt 1 o z h5) fun _ h6 =>
okK (y1o [([], []), ([], []), ([], []), ([], []), ([], []), (ids1 m, []), ([], []), ([], []), (ids1 t, []), ([], []), (ids1 p, []), ([], []), ([], []), (ids1 n, []), ([], []), (ids1 e, []), ([], []), ([], []), (ids1 r, []), ([], []), (ids1 g, []), ([], []), (ids1 i, []), ([], []), ([], [0 + 14]), (ids1 k, ids1 l ++ [0 + 15]), ([], []), ([], []), ([], []), ([], ids1 o)] [(5, 24)]) <|
(q5_3 C c b j K d h6)
def y2ts := KK6 q5_4 2 6 13 208 209 210
theorem y2ba : T1 y26a yi6 (y6 10 yii xN) [.cell 2 true 8, .t 3] y2ts := sq y2cr fun _ => by kernel_rfl
def q5_5 (b a i e d c g : AV) (h : Heap) : OX :=
cnd g
 ((q5_4 b a i e d c h))
 ((q5_1 b a h))
def y2s2 := KK7 q5_5 2 6 13 208 209 210 211
theorem y2ci : T1 y279 yi6 (y6 10 yii xN) [.cell 2 true 8, .t 3] y2s2 := sq y2ba fun _ => by kernel_rfl
def q5_6 (i g e c b a : AV) (h : Heap) : OX :=
ob (yb .lss a b) fun d =>
(q5_5 i g e c b a d h)
def y2sc := KK6 q5_6 2 6 13 208 209 210
theorem y28h : T1 y24x yi6 (y6 10 yii xN) [.cell 2 true 8, .t 3] y2sc := sq y2ci fun _ => by kernel_rfl
theorem y149 (g e d c b a : AV) (h : Heap) : y1dz g e d c b a h = (q5_6 g e d c b a h) :=
 y27.trans ((y1q _ _ _ (n' := yi6) (fun s => y11j s)).trans ((y28h _).trans (by kernel_rfl)))
theorem y2fi : T1 y26s yii xN [.cell 2 true 8, .t 3] yi6 := fun s => y11.trans (y11j s)
def q5_8 (c i g e : AV) (h : Heap) : OX :=
ob (evFa 4 c) fun d =>
ob (evLd false 1 d h) fun a =>
ob (y17 1 a h) fun b =>
(y1dz i g e a b (.int .i64 0) h)
def ygb := KK4 q5_8 1 2 6 13
theorem y2cm : T1 y24p yii xN [.cell 2 true 8, .t 3] ygb := sq y2fi fun _ => by kernel_rfl
theorem y29e : T0 y24t [.cell 2 true 8, .t 3] ygb := sq y2al y2cm
def yqn (b i g e d a c : AV) (h : Heap) : OX :=
 W E 0 ymu ⟨[(1, b), (2, i), (6, g), (13, e), (181, d), (182, a), (183, c)], h⟩ ygb (y6 8 ygb xN) (finP [.cell 2 true 8, .t 3])
def yc0 := KK7 yqn 1 2 6 13 181 182 183
theorem yqb : T1 ymu ygb (y6 8 ygb xN) [.cell 2 true 8, .t 3] yc0 := fun s => yu.trans (by kernel_rfl)
def y28x (c j i g e b d : AV) (h : Heap) : OX :=
ob (yb .add d (.int .i64 1)) fun a =>
(yqn c j i g e b a h)
def y2nr := KK7 y28x 1 2 6 13 181 182 183
theorem y1z3 : T1 y1q7 yc0 (y6 8 ygb xN) [.cell 2 true 8, .t 3] y2nr := fun _ => by kernel_rfl
def y2cu (k w a c e i b : AV) (h : Heap) : OX :=
ob (y10 1 e b) fun y =>
ob (evLd false 1 y h) fun d =>
ob (yp a) fun u =>
ob (evFa 0 u) fun z =>
ob (evFa 0 z) fun m =>
ob (evLd false 1 m h) fun p =>
ob (yp a) fun j =>
ob (evFa 0 j) fun A =>
ob (evFa 0 A) fun x =>
ob (evLd false 1 x h) fun r =>
ob (y10 1 r d) fun n =>
ob (evLd false 1 n h) fun t =>
ob (y10 1 c t) fun g =>
ob (evLd false 1 g h) fun o =>
ob (y80 .u32 o) fun l =>
ob (y10 1 p d) fun v =>
oh (evSt 1 v l h) fun _ h7 =>
(y28x k w a c e i b h7)
def y2jp := KK7 y2cu 1 2 6 13 181 182 183
theorem y204 : T1 y1kb yc0 (y6 8 ygb xN) [.cell 2 true 8, .t 3] y2jp := sq y1z3 fun _ => by kernel_rfl
def y1w8 (a d c b j g i e : AV) (h : Heap) : OX :=
cnd e
 ((y2cu a d c b j g i h))
 ((q5_8 a d c b h))
def y2kz := KK8 y1w8 1 2 6 13 181 182 183 184
theorem y1wc : T1 y1si yc0 (y6 8 ygb xN) [.cell 2 true 8, .t 3] y2kz := sq y204 fun _ => by kernel_rfl
def y21q (d j i g e a b : AV) (h : Heap) : OX :=
ob (yb .lss b a) fun c =>
(y1w8 d j i g e a b c h)
def y2l6 := KK7 y21q 1 2 6 13 181 182 183
theorem y23t : T1 y1ig yc0 (y6 8 ygb xN) [.cell 2 true 8, .t 3] y2l6 := sq y1wc fun _ => by kernel_rfl
theorem yoz (b i g e d a c : AV) (h : Heap) : yqn b i g e d a c h = (y21q b i g e d a c h) :=
 y27.trans ((y1q _ _ _ (n' := yc0) (fun s => yqb s)).trans ((y23t _).trans (by kernel_rfl)))
theorem y23e : T1 y1fd ygb xN [.cell 2 true 8, .t 3] yc0 := fun s => y11.trans (yqb s)
def y2dd (g j b i : AV) (h : Heap) : OX :=
ob (yp b) fun e =>
ob (evFa 10 e) fun c =>
ob (evLd false 1 c h) fun a =>
ob (y17 1 a h) fun d =>
(yqn g j b i a d (.int .i64 0) h)
def y261 := KK4 y2dd 1 2 6 13
theorem y1zx : T1 y1ch ygb xN [.cell 2 true 8, .t 3] y261 := sq y23e fun _ => by kernel_rfl
theorem y20q : T0 y1sl [.cell 2 true 8, .t 3] y261 := sq y29e y1zx
def y18l (a o c b : AV) (h : Heap) : OX :=
ob (evFa 3 a) fun i =>
ob (evLd false 1 i h) fun l =>
ob (y17 1 l h) fun m =>
ob (yp c) fun e =>
ob (evFa 0 e) fun d =>
ob (evFa 0 d) fun j =>
ob (evLd false 1 j h) fun k =>
ob (y17 1 k h) fun g =>
ob (y10 1 b m) fun n =>
oh (evSt 1 n g h) fun _ h8 =>
(y2dd a o c b h8)
def y2v := KK4 y18l 1 2 6 13
theorem y21v : T0 y1qz [.cell 2 true 8, .t 3] y2v := sq y20q fun _ => by kernel_rfl
def ydc (b a i j g c e d : AV) (h : Heap) : OX :=
 W E 0 yns ⟨[(1, b), (2, a), (6, i), (12, j), (13, g), (94, c), (95, e), (96, d)], h⟩ y2v (y6 4 y2v xN) (finP [.cell 2 true 8, .t 3])
def yc1 := KK8 ydc 1 2 6 12 13 94 95 96
theorem yr4 : T1 yns y2v (y6 4 y2v xN) [.cell 2 true 8, .t 3] yc1 := fun s => yu.trans (by kernel_rfl)
def y2bb (c b j k i d g e : AV) (h : Heap) : OX :=
ob (yb .add e (.int .i64 1)) fun a =>
(ydc c b j k i d g a h)
def y3q := KK8 y2bb 1 2 6 12 13 94 95 96
theorem y1wx : T1 y1og yc1 (y6 4 y2v xN) [.cell 2 true 8, .t 3] y3q := fun _ => by kernel_rfl
def y1co (e c a l k d g j i : AV) (h : Heap) : OX :=
ob (evLd true 9 d h) fun b =>
oh (yc E (yd E) 0 none false 238 [a, b] h) fun m h9 =>
(y2bb e c a l k g j i h9)
def ymf := KK9 y1co 1 2 6 12 13 15 94 95 96
theorem y20y : T1 y18f y3q (y6 5 y3q (y6 4 y2v xN)) [.cell 2 true 8, .t 3] ymf := fun _ => by kernel_rfl
def y1uw (j m a n l o g x u r : AV) (h : Heap) : OX :=
ob (yp a) fun w =>
ob (evFa 0 w) fun t =>
ob (evFa 2 t) fun e =>
ob (evLd false 1 e h) fun d =>
ob (evLd true 2 g h) fun k =>
oh (yl 0 (some 11) 2 1 [(.int .i64 0), .nils] [(0, k)] h) fun c h10 =>
oh (y1v 0 (some 12) 2 32 d c h10) fun i h11 =>
ob (yp a) fun v =>
ob (evFa 0 v) fun p =>
ob (evFa 2 p) fun b =>
oh (evSt 1 b i h11) fun _ h12 =>
okK (y1o [([], []), ([], []), ([], []), ([], []), ([], []), (ids1 e, []), (ids1 g, []), ([], [0 + 11]), (ids1 c, ids1 d ++ [0 + 12]), ([], []), ([], []), ([], []), ([], ids1 b)] [(5, 7)]) <|
(y1co j m a n l o x u r h12)
def y9v := KK10 y1uw 1 2 6 12 13 15 16 94 95 96
theorem y1ua : T1 y1js ymf (y6 5 y3q (y6 4 y2v xN)) [.cell 2 true 8, .t 3] y9v := fun _ => by kernel_rfl
def yqf (g a o p n i e j k m l b c d : AV) (h : Heap) : OX :=
 W E 0 yni ⟨[(1, g), (2, a), (6, o), (12, p), (13, n), (14, i), (15, e), (16, j), (94, k), (95, m), (96, l), (128, b), (129, c), (130, d)], h⟩ y9v (y6 6 y9v (y6 5 y3q (y6 4 y2v xN))) (finP [.cell 2 true 8, .t 3])
def ycc := KK14 yqf 1 2 6 12 13 14 15 16 94 95 96 128 129 130
theorem yrj : T1 yni y9v (y6 6 y9v (y6 5 y3q (y6 4 y2v xN))) [.cell 2 true 8, .t 3] ycc := fun s => yu.trans (by kernel_rfl)
def yue (i b p r o j g k l n m c d e : AV) (h : Heap) : OX :=
ob (yb .add e (.int .i64 1)) fun a =>
(yqf i b p r o j g k l n m c d a h)
def y2jo := KK14 yue 1 2 6 12 13 14 15 16 94 95 96 128 129 130
theorem y20e : T1 y1jt ycc (y6 6 y9v (y6 5 y3q (y6 4 y2v xN))) [.cell 2 true 8, .t 3] y2jo := fun _ => by kernel_rfl
def y16i (d m l g k e n c r p o i j b : AV) (h : Heap) : OX :=
ob (y10 1 i b) fun t =>
ob (evLd false 1 t h) fun z =>
ob (yb .eql z (.int .i64 3)) fun a =>
gb a true (some g) fun v =>
gb a true (evLd true 5 d h) fun D =>
gb a true (some e) fun y =>
gb a true (some b) fun F =>
gh a true (yc E (yd E) 0 none true 88 [v, D, y, F] h) h fun u h13 =>
ob (yh a u (.bool false)) fun C =>
cnd C
 (ob (evFa 1 c) fun B =>
ob (evLd false 1 B h13) fun w =>
oh (yl 0 none 1 1 [(.int .i64 0)] [(0, b)] h13) fun G h14 =>
oh (y1v 0 none 1 8 w G h14) fun x h15 =>
ob (evFa 1 c) fun A =>
oh (evSt 1 A x h15) fun _ h16 =>
(yue d m l g k e n c r p o i j b h16))
 ((yue d m l g k e n c r p o i j b h13))
def y2kl := KK14 y16i 1 2 6 12 13 14 15 16 94 95 96 128 129 130
theorem y1wb : T1 y1ay ycc (y6 6 y9v (y6 5 y3q (y6 4 y2v xN))) [.cell 2 true 8, .t 3] y2kl := sq y20e fun _ => by kernel_rfl
def yt1 (c a k l j r b d e i g n o p m : AV) (h : Heap) : OX :=
cnd m
 ((y16i c a k l j r b d e i g n o p h))
 ((y1uw c a k l j b d e i g h))
def y2ix := KK15 yt1 1 2 6 12 13 14 15 16 94 95 96 128 129 130 131
theorem y1zh : T1 y1kh ycc (y6 6 y9v (y6 5 y3q (y6 4 y2v xN))) [.cell 2 true 8, .t 3] y2ix := sq y1wb fun _ => by kernel_rfl
def ytq (i d p r o j g k l n m e a b : AV) (h : Heap) : OX :=
ob (yb .lss b a) fun c =>
(yt1 i d p r o j g k l n m e a b c h)
def y2l5 := KK14 ytq 1 2 6 12 13 14 15 16 94 95 96 128 129 130
theorem y1vd : T1 y1lk ycc (y6 6 y9v (y6 5 y3q (y6 4 y2v xN))) [.cell 2 true 8, .t 3] y2l5 := sq y1zh fun _ => by kernel_rfl
theorem yq7 (g a o p n i e j k m l b c d : AV) (h : Heap) : yqf g a o p n i e j k m l b c d h = (ytq g a o p n i e j k m l b c d h) :=
 y27.trans ((y1q _ _ _ (n' := ycc) (fun s => yrj s)).trans ((y1vd _).trans (by kernel_rfl)))
theorem y22x : T1 y198 y9v (y6 5 y3q (y6 4 y2v xN)) [.cell 2 true 8, .t 3] ycc := fun s => y11.trans (yrj s)
def y29a (b d o p n i g j k m l : AV) (h : Heap) : OX :=
ob (evFa 0 b) fun c =>
ob (evLd false 1 c h) fun a =>
ob (y17 1 a h) fun e =>
(yqf b d o p n i g j k m l a e (.int .i64 0) h)
def y25t := KK11 y29a 1 2 6 12 13 14 15 16 94 95 96
theorem y21p : T1 y1ix y9v (y6 5 y3q (y6 4 y2v xN)) [.cell 2 true 8, .t 3] y25t := sq y22x fun _ => by kernel_rfl
theorem y1u0 : T1 y1ln ymf (y6 5 y3q (y6 4 y2v xN)) [.cell 2 true 8, .t 3] y25t := sq y1ua y21p
def y2ee (g d n p c a e i m k : AV) (h : Heap) : OX :=
ob (y10 1 c a) fun o =>
ob (evLd false 1 o h) fun j =>
ob (yq [(.int .i64 0), .nils] [(0, 1, j)]) fun l =>
oh (newC 0 (some 10) [(.int .i64 0), .nils] h) fun b h17 =>
oh (evSt 2 b l h17) fun _ h18 =>
(y29a g d n p c a e b i m k h18)
def y2np := KK10 y2ee 1 2 6 12 13 14 15 94 95 96
theorem y22c : T1 y1kz ymf (y6 5 y3q (y6 4 y2v xN)) [.cell 2 true 8, .t 3] y2np := sq y1u0 fun _ => by kernel_rfl
def y16y (c a j k i m b d g e l : AV) (h : Heap) : OX :=
cnd l
 ((y2ee c a j k i m b d g e h))
 ((y1co c a j k i b d g e h))
def y2oc := KK11 y16y 1 2 6 12 13 14 15 94 95 96 121
theorem y20t : T1 y1ac ymf (y6 5 y3q (y6 4 y2v xN)) [.cell 2 true 8, .t 3] y2oc := fun s => (y1s (y22c s) rfl).trans (by kernel_rfl)
def y17l (e n m o l g b x v u : AV) (h : Heap) : OX :=
ob (evFa 0 b) fun t =>
ob (evLd false 1 t h) fun r =>
ob (yb .eql r (.int .i64 20)) fun a =>
gb a false (evFa 0 b) fun w =>
gb a false (evLd false 1 w h) fun i =>
gb a false (yb .eql i (.int .i64 21)) fun j =>
ob (yh a (.bool true) j) fun c =>
gb c false (evLd true 9 b h) fun d =>
gh c false (yc E (yd E) 0 none true 17 [d] h) h fun p h19 =>
ob (yh c (.bool true) p) fun k =>
(y16y e n m o l g b x v u k h19)
def y24s := KK10 y17l 1 2 6 12 13 14 15 94 95 96
theorem y24l : T1 y1mt ymf (y6 5 y3q (y6 4 y2v xN)) [.cell 2 true 8, .t 3] y24s := sq y20t fun _ => by kernel_rfl
theorem y21e : T1 y1ba y3q (y6 5 y3q (y6 4 y2v xN)) [.cell 2 true 8, .t 3] y24s := sq y20y y24l
def y27z (l g c r b a j m p o : AV) (h : Heap) : OX :=
ob (yp c) fun n =>
ob (evFa 0 n) fun i =>
ob (evFa 0 i) fun d =>
ob (evLd false 1 d h) fun e =>
ob (y17 1 e h) fun k =>
ob (y10 1 b a) fun t =>
oh (evSt 1 t k h) fun _ h20 =>
(y17l l g c r b a j m p o h20)
def y2l2 := KK10 y27z 1 2 6 12 13 14 15 94 95 96
theorem y200 : T1 y1e6 y3q (y6 5 y3q (y6 4 y2v xN)) [.cell 2 true 8, .t 3] y2l2 := sq y21e fun _ => by kernel_rfl
def y29w (e d k m j c i a : AV) (h : Heap) : OX :=
ob (y10 9 c a) fun l =>
ob (evLd true 9 l h) fun g =>
oh (newC 0 (some 9) zq0 h) fun b h21 =>
oh (evSt 9 b g h21) fun _ h22 =>
(y27z e d k m j a b c i a h22)
def y1eb := KK8 y29w 1 2 6 12 13 94 95 96
theorem y1tu : T1 y1b5 y3q (y6 5 y3q (y6 4 y2v xN)) [.cell 2 true 8, .t 3] y1eb := sq y200 fun _ => by kernel_rfl
theorem y1xb : T1 y1jd y3q (y6 4 y2v xN) [.cell 2 true 8, .t 3] y1eb := fun s => y11.trans (y1tu s)
theorem y209 : T1 y1cs yc1 (y6 4 y2v xN) [.cell 2 true 8, .t 3] y1eb := sq y1wx y1xb
def y22f (b a d k c e j i g : AV) (h : Heap) : OX :=
cnd g
 ((y29w b a d k c e j i h))
 ((y18l b a d c h))
def y2mu := KK9 y22f 1 2 6 12 13 94 95 96 97
theorem y1x6 : T1 y1a8 yc1 (y6 4 y2v xN) [.cell 2 true 8, .t 3] y2mu := sq y209 fun _ => by kernel_rfl
def y23w (d c j k i e b a : AV) (h : Heap) : OX :=
ob (yb .lss a b) fun g =>
(y22f d c j k i e b a g h)
def y2jy := KK8 y23w 1 2 6 12 13 94 95 96
theorem y1xt : T1 y1oe yc1 (y6 4 y2v xN) [.cell 2 true 8, .t 3] y2jy := sq y1x6 fun _ => by kernel_rfl
theorem ypu (b a i j g c e d : AV) (h : Heap) : ydc b a i j g c e d h = (y23w b a i j g c e d h) :=
 y27.trans ((y1q _ _ _ (n' := yc1) (fun s => yr4 s)).trans ((y1xt _).trans (by kernel_rfl)))
theorem y1w2 : T1 y1rn y2v xN [.cell 2 true 8, .t 3] yc1 := fun s => y11.trans (yr4 s)
def y28z (a d i j g : AV) (h : Heap) : OX :=
ob (evFa 3 a) fun c =>
ob (evLd false 1 c h) fun b =>
ob (y17 1 b h) fun e =>
(ydc a d i j g b e (.int .i64 0) h)
def y268 := KK5 y28z 1 2 6 12 13
theorem y1v7 : T1 y1ol y2v xN [.cell 2 true 8, .t 3] y268 := sq y1w2 fun _ => by kernel_rfl
theorem y1xg : T0 y1tc [.cell 2 true 8, .t 3] y268 := sq y21v y1v7
def y2gm (b c i k : AV) (h : Heap) : OX :=
ob (evFa 3 b) fun j =>
ob (evLd false 1 j h) fun e =>
ob (y17 1 e h) fun d =>
ob (yb .add d (.int .i64 1)) fun a =>
oh (mkSC 0 (some 8) 1 8 [(.int .i64 0)] a a h) fun g h23 =>
(y28z b c i k g h23)
def y2ig := KK4 y2gm 1 2 6 12
theorem y1uc : T0 y1mu [.cell 2 true 8, .t 3] y2ig := sq y1xg fun _ => by kernel_rfl
def y1x1 (a e d : AV) (h : Heap) : OX :=
ob (evLd true 5 a h) fun b =>
oh (yc E (yd E) 0 none true 75 [b] h) fun c h24 =>
(y2gm a e d c h24)
def yaz := KK3 y1x1 1 2 6
theorem y1x5 : T0 y1p2 [.cell 2 true 8, .t 3] yaz := sq y1uc fun _ => by kernel_rfl
def ypm (c g d a e b : AV) (h : Heap) : OX :=
 W E 0 yol ⟨[(1, c), (2, g), (6, d), (72, a), (73, e), (74, b)], h⟩ yaz (y6 2 yaz xN) (finP [.cell 2 true 8, .t 3])
def yca := KK6 ypm 1 2 6 72 73 74
theorem yqo : T1 yol yaz (y6 2 yaz xN) [.cell 2 true 8, .t 3] yca := fun s => yu.trans (by kernel_rfl)
def y2eh (d i e a g c : AV) (h : Heap) : OX :=
ob (yb .add c (.int .i64 1)) fun b =>
(ypm d i e a g b h)
def y2nb := KK6 y2eh 1 2 6 72 73 74
theorem y22z : T1 y1mi yca (y6 2 yaz xN) [.cell 2 true 8, .t 3] y2nb := fun _ => by kernel_rfl
def y2gq (k p d b o c : AV) (h : Heap) : OX :=
ob (y10 2 b c) fun g =>
ob (evLd true 2 g h) fun e =>
oh (newC 0 (some 7) [(.int .i64 0), (.int .i64 0)] h) fun a h25 =>
oh (evSt 2 a e h25) fun _ h26 =>
ob (evFa 0 a) fun i =>
ob (evLd false 1 i h26) fun n =>
ob (evFa 1 a) fun l =>
ob (evLd false 1 l h26) fun m =>
ob (yq zq0 [(0, 1, (.int .i64 4)), (1, 1, n), (2, 1, m)]) fun j =>
oh (yc E (yd E) 0 none false 238 [d, j] h26) fun r h27 =>
(y2eh k p d b o c h27)
def y2ow := KK6 y2gq 1 2 6 72 73 74
theorem y23c : T1 y1tf yca (y6 2 yaz xN) [.cell 2 true 8, .t 3] y2ow := sq y22z fun _ => by kernel_rfl
def y207 (a c b d i g e : AV) (h : Heap) : OX :=
cnd e
 ((y2gq a c b d i g h))
 ((y1x1 a c b h))
def y2kh := KK7 y207 1 2 6 72 73 74 75
theorem y23h : T1 y1r1 yca (y6 2 yaz xN) [.cell 2 true 8, .t 3] y2kh := sq y23c fun _ => by kernel_rfl
def y212 (e i g c b a : AV) (h : Heap) : OX :=
ob (yb .lss a b) fun d =>
(y207 e i g c b a d h)
def y2mt := KK6 y212 1 2 6 72 73 74
theorem y20f : T1 y1it yca (y6 2 yaz xN) [.cell 2 true 8, .t 3] y2mt := sq y23h fun _ => by kernel_rfl
theorem yru (c g d a e b : AV) (h : Heap) : ypm c g d a e b h = (y212 c g d a e b h) :=
 y27.trans ((y1q _ _ _ (n' := yca) (fun s => yqo s)).trans ((y20f _).trans (by kernel_rfl)))
theorem y23o : T1 y1e9 yaz xN [.cell 2 true 8, .t 3] yca := fun s => y11.trans (yqo s)
def y28g (b e c a : AV) (h : Heap) : OX :=
ob (y17 1 a h) fun d =>
(ypm b e c a d (.int .i64 0) h)
def y26o := KK4 y28g 1 2 6 7
theorem y223 : T1 y1bt yaz xN [.cell 2 true 8, .t 3] y26o := sq y23o fun _ => by kernel_rfl
theorem y1vt : T0 y1r3 [.cell 2 true 8, .t 3] y26o := sq y1x5 y223
def y202 (b i d e c : AV) (h : Heap) : OX :=
oh (yc E (yd E) 0 none true 237 [c, d] h) fun a h28 =>
ob (y29 0 a) fun g =>
ob (y29 1 a) fun j =>
(y28g b i e g h28)
def ya1 := KK5 y202 1 2 5 6 7
theorem y1x0 : T0 y1h8 [.cell 2 true 8, .t 3] ya1 := sq y1vt fun _ => by kernel_rfl
def yrw (a j e g d c b i : AV) (h : Heap) : OX :=
 W E 0 ynq ⟨[(1, a), (2, j), (5, e), (6, g), (7, d), (52, c), (53, b), (54, i)], h⟩ ya1 (y6 0 ya1 xN) (finP [.cell 2 true 8, .t 3])
def yby := KK8 yrw 1 2 5 6 7 52 53 54
theorem ysc : T1 ynq ya1 (y6 0 ya1 xN) [.cell 2 true 8, .t 3] yby := fun s => yu.trans (by kernel_rfl)
def y2bo (a k e g d c b i : AV) (h : Heap) : OX :=
ob (yb .add i (.int .i64 1)) fun j =>
(yrw a k e g d c b j h)
def y2m4 := KK8 y2bo 1 2 5 6 7 52 53 54
theorem y1vc : T1 y1ou yby (y6 0 ya1 xN) [.cell 2 true 8, .t 3] y2m4 := fun _ => by kernel_rfl
def y2da (i o l n k b j a : AV) (h : Heap) : OX :=
ob (y10 1 b a) fun c =>
ob (evLd false 1 c h) fun e =>
ob (yq [(.int .i64 0), (.int .i64 0)] [(0, 1, e), (1, 1, a)]) fun m =>
oh (yl 0 (some 5) 2 1 [(.int .i64 0), (.int .i64 0)] [(0, m)] h) fun g h29 =>
oh (y1v 0 (some 6) 2 16 k g h29) fun d h30 =>
(y2bo i o l n d b j a h30)
def y2o7 := KK8 y2da 1 2 5 6 7 52 53 54
theorem y1ww : T1 y1k8 yby (y6 0 ya1 xN) [.cell 2 true 8, .t 3] y2o7 := sq y1vc fun _ => by kernel_rfl
def y1wg (a e c d b j i k g : AV) (h : Heap) : OX :=
cnd g
 ((y2da a e c d b j i k h))
 ((y202 a e c d b h))
def y2lb := KK9 y1wg 1 2 5 6 7 52 53 54 55
theorem y1yx : T1 y1np yby (y6 0 ya1 xN) [.cell 2 true 8, .t 3] y2lb := sq y1ww fun _ => by kernel_rfl
def y232 (d k i j g e a b : AV) (h : Heap) : OX :=
ob (yb .lss b a) fun c =>
(y1wg d k i j g e a b c h)
def y2od := KK8 y232 1 2 5 6 7 52 53 54
theorem y1w4 : T1 y1mm yby (y6 0 ya1 xN) [.cell 2 true 8, .t 3] y2od := sq y1yx fun _ => by kernel_rfl
theorem yr6 (a j e g d c b i : AV) (h : Heap) : yrw a j e g d c b i h = (y232 a j e g d c b i h) :=
 y27.trans ((y1q _ _ _ (n' := yby) (fun s => ysc s)).trans ((y1w4 _).trans (by kernel_rfl)))
theorem y1ux : T1 y1rv ya1 xN [.cell 2 true 8, .t 3] yby := fun s => y11.trans (ysc s)
def y2gi (a j g i e : AV) (h : Heap) : OX :=
ob (evFa 1 a) fun d =>
ob (evLd false 1 d h) fun b =>
ob (y17 1 b h) fun c =>
(yrw a j g i e b c (.int .i64 0) h)
def y24r := KK5 y2gi 1 2 5 6 7
theorem y1vw : T1 y1oa ya1 xN [.cell 2 true 8, .t 3] y24r := sq y1ux fun _ => by kernel_rfl
theorem y1us : T0 y1hu [.cell 2 true 8, .t 3] y24r := sq y1x0 y1vw
def y2gl (c b d a : AV) (h : Heap) : OX :=
(y2gi c b d a AV.nils h)
def y2j0 := KK4 y2gl 1 2 5 6
theorem y1ym : T0 y1s3 [.cell 2 true 8, .t 3] y2j0 := sq y1us fun _ => by kernel_rfl
def y2eg (a o b : AV) (h : Heap) : OX :=
oh (mkmC 0 (some 2) h) fun k h31 =>
oh (mkmC 0 (some 3) h31) fun n h32 =>
ob (evFa 1 a) fun g =>
ob (evLd false 1 g h32) fun c =>
ob (y17 1 c h32) fun e =>
ob (evFa 2 a) fun l =>
ob (evLd false 1 l h32) fun j =>
ob (yb .add b (.int .i64 1)) fun p =>
ob (yq zq1 [(6, 1, e), (7, 1, j), (5, 1, p)]) fun m =>
ob (yq zq4 [(8, 1, k), (9, 1, n), (0, 8, m)]) fun d =>
oh (newC 0 (some 4) (cellsOf d) h32) fun i h33 =>
(y2gl a o b i h33)
def y2mc := KK3 y2eg 1 2 5
theorem y21i : T0 y1kj [.cell 2 true 8, .t 3] y2mc := sq y1ym fun _ => by kernel_rfl
def y2e5 (d a b : AV) (h : Heap) : OX :=
ob (yb .geq b (.int .i64 250)) fun e =>
cnd e
 (ob (yq zq1 []) fun c =>
oh (evSt 8 a c h) fun _ h34 =>
(ob (evLd true 8 a h34) fun r0 =>
 yo h34 (.tup [r0, (.int .i64 81)])))
 ((y2eg d a b h))
def y2oa := KK3 y2e5 1 2 5
theorem y1u5 : T0 y1ry [.cell 2 true 8, .t 3] y2oa := sq y21i fun _ => by kernel_rfl
def y2d5 (a k : AV) (h : Heap) : OX :=
ob (evFa 0 a) fun c =>
ob (evLd false 1 c h) fun g =>
ob (y17 1 g h) fun e =>
ob (evFa 1 a) fun i =>
ob (evLd false 1 i h) fun j =>
ob (y17 1 j h) fun d =>
ob (ye7 true e d) fun b =>
(y2e5 a k b h)
def y2p6 := KK2 y2d5 1 2
theorem y1vf : T0 y1hn [.cell 2 true 8, .t 3] y2p6 := sq y1u5 fun _ => by kernel_rfl
def y210 (b a : AV) (h : Heap) : OX :=
ob (evLd true 5 b h) fun d =>
oh (yc E (yd E) 0 none true 8 [d] h) fun c h35 =>
ob (yb .neq c (.int .i64 0)) fun e =>
cnd e
 (ob (yq zq1 []) fun g =>
oh (evSt 8 a g h35) fun _ h36 =>
(ob (evLd true 8 a h36) fun r0 =>
 yo h36 (.tup [r0, c])))
 ((y2d5 b a h35))
def y2hx := KK2 y210 1 2
theorem y246 : T0 y1m9 [.cell 2 true 8, .t 3] y2hx := sq y1vf fun _ => by kernel_rfl
def y211 (a : AV) (h : Heap) : OX :=
oh (newC 0 (some 0) (cellsOf a) h) fun c h37 =>
oh (newC 0 (some 1) zq1 h37) fun b h38 =>
(y210 c b h38)
def y2ku := KK1 y211 0
theorem y24m : T0 y1qv [.cell 2 true 8, .t 3] y2ku := sq y246 fun _ => by kernel_rfl
@[simp] theorem y2pv : E.pure 231 = true := rfl
theorem x_q5 (a : AV) : (yd E).p 231 [a] = y211 a [⟨0, .dead⟩, ⟨0, .dead⟩, ⟨0, .dead⟩, ⟨0, .dead⟩, ⟨0, .dead⟩, ⟨0, .dead⟩, ⟨0, .dead⟩, ⟨0, .dead⟩, ⟨0, .dead⟩, ⟨0, .dead⟩, ⟨0, .dead⟩, ⟨0, .dead⟩, ⟨0, .dead⟩, ⟨0, .dead⟩, ⟨0, .dead⟩, ⟨0, .dead⟩] :=
 (y1r (cf := c_q5) (by kernel_rfl) rfl).trans ((y24m _).trans (by kernel_rfl))
def y20l (k l d c : AV) (h : Heap) : OX :=
oh (yl 0 (some 6) 1 1 [(.int .i64 0)] [(0, c)] h) fun e h1 =>
oh (y1v 0 (some 7) 1 8 d e h1) fun j h2 =>
ob (evFa 0 k) fun b =>
ob (evLd false 1 b h2) fun a =>
ob (y17 1 a h2) fun g =>
ob (yb .eql c g) fun i =>
okK (y1o [([], []), ([], []), ([], []), ([], [0 + 6]), (ids1 e, ids1 d ++ [0 + 7]), ([], []), ([], []), (ids1 b, []), (ids1 a, []), ([], []), ([], []), ([], []), ([], [])] [(3, 7), (4, 7), (3, 8), (4, 8)]) <|
(yo h2 (.tup [l, j, i]))
def y9y := KK4 y20l 1 5 6 7
theorem y21a : T0 y1is [.t 2, .t 3, .t 4] y9y := fun _ => by kernel_rfl
def yia (c d a b : AV) (h : Heap) : OX :=
 W E 0 yno ⟨[(1, c), (5, d), (6, a), (7, b)], h⟩ y9y (y6 0 y9y xN) (finP [.t 2, .t 3, .t 4])
def y5m := KK4 yia 1 5 6 7
theorem ypy : T1 yno y9y (y6 0 y9y xN) [.t 2, .t 3, .t 4] y5m := fun s => yu.trans (by kernel_rfl)
def y2be (i m n a g e : AV) (h : Heap) : OX :=
ob (evLd true 9 g h) fun j =>
oh (yl 0 (some 2) 9 1 zq0 [(0, j)] h) fun c h3 =>
oh (y1v 0 (some 3) 9 96 m c h3) fun k h4 =>
oh (yl 0 (some 4) 1 1 [(.int .i64 0)] [(0, a)] h4) fun d h5 =>
oh (y1v 0 (some 5) 1 8 n d h5) fun l h6 =>
ob (yb .add a e) fun b =>
(yia i k l b h6)
def y2pb := KK6 y2be 1 5 6 7 8 9
theorem y226 : T1 y1t6 y5m (y6 1 y5m (y6 0 y9y xN)) [.t 2, .t 3, .t 4] y2pb := fun _ => by kernel_rfl
def y29r (c g i d b a : AV) (h : Heap) : OX :=
ob (yb .lss a (.int .i64 1)) fun e =>
cnd e
 ((yo h (.tup [AV.nils, AV.nils, (.bool false)])))
 ((y2be c g i d b a h))
def y2jw := KK6 y29r 1 5 6 7 8 9
theorem y1zn : T1 y1kg y5m (y6 1 y5m (y6 0 y9y xN)) [.t 2, .t 3, .t 4] y2jw := sq y226 fun _ => by kernel_rfl
def y2ai (a i j d : AV) (h : Heap) : OX :=
ob (evLd true 8 a h) fun e =>
oh (yc E (yd E) 0 none true 233 [e, d] h) fun c h7 =>
ob (y29 0 c) fun g =>
ob (y29 1 c) fun k =>
oh (newC 0 (some 1) zq0 h7) fun b h8 =>
oh (evSt 9 b g h8) fun _ h9 =>
(y29r a i j d b k h9)
def y26v := KK4 y2ai 1 5 6 7
theorem y214 : T1 y1qq y5m (y6 1 y5m (y6 0 y9y xN)) [.t 2, .t 3, .t 4] y26v := sq y1zn fun _ => by kernel_rfl
theorem y203 : T1 y1i0 y5m (y6 0 y9y xN) [.t 2, .t 3, .t 4] y26v := fun s => y11.trans (y214 s)
def y228 (a c d b : AV) (h : Heap) : OX :=
ob (evFa 0 a) fun e =>
ob (evLd false 1 e h) fun j =>
ob (y17 1 j h) fun i =>
ob (yb .lss b i) fun g =>
cnd g
 ((y2ai a c d b h))
 ((y20l a c d b h))
def y2lv := KK4 y228 1 5 6 7
theorem y23g : T1 y192 y5m (y6 0 y9y xN) [.t 2, .t 3, .t 4] y2lv := sq y203 fun _ => by kernel_rfl
theorem ys9 (c d a b : AV) (h : Heap) : yia c d a b h = (y228 c d a b h) :=
 y27.trans ((y1q _ _ _ (n' := y5m) (fun s => ypy s)).trans ((y23g _).trans (by kernel_rfl)))
theorem y22m : T1 y1hl y9y xN [.t 2, .t 3, .t 4] y5m := fun s => y11.trans (ypy s)
theorem y1vv : T0 y1rk [.t 2, .t 3, .t 4] y5m := sq y21a y22m
def y25n (b c a : AV) (h : Heap) : OX :=
(yia b c a (.int .i64 0) h)
def y2ck := KK3 y25n 1 5 6
theorem y1n4 : T0 y12k [.t 2, .t 3, .t 4] y2ck := sq y1vv fun _ => by kernel_rfl
def y1h7 (a b : AV) (h : Heap) : OX :=
(y25n a b AV.nils h)
def y2du := KK2 y1h7 1 5
theorem y1nn : T0 y0v [.t 2, .t 3, .t 4] y2du := sq y1n4 fun _ => by kernel_rfl
def y1lm (a : AV) (h : Heap) : OX :=
(y1h7 a AV.nils h)
def y2gk := KK1 y1lm 1
theorem y1o6 : T0 yv9 [.t 2, .t 3, .t 4] y2gk := sq y1nn fun _ => by kernel_rfl
def y11m (a : AV) (h : Heap) : OX :=
oh (newC 0 (some 0) (cellsOf a) h) fun b h10 =>
(y1lm b h10)
def y27y := KK1 y11m 0
theorem y18i : T0 yvq [.t 2, .t 3, .t 4] y27y := sq y1o6 fun _ => by kernel_rfl
@[simp] theorem y2qj : E.pure 232 = true := rfl
theorem y2sy (a : AV) : (yd E).p 232 [a] = y11m a [⟨0, .dead⟩, ⟨0, .dead⟩, ⟨0, .dead⟩, ⟨0, .dead⟩, ⟨0, .dead⟩, ⟨0, .dead⟩, ⟨0, .dead⟩, ⟨0, .dead⟩] :=
 (y1r (cf := y2pg) (by kernel_rfl) rfl).trans ((y18i _).trans (by kernel_rfl))
def yi3 (n p : AV) (h : Heap) : OX :=
oh (newC 0 (some 0) (cellsOf n) h) fun b h1 =>
oh (newC 0 (some 1) (cellsOf p) h1) fun a h2 =>
ob (evFa 0 b) fun y =>
ob (evLd false 1 y h2) fun K =>
ob (evFa 0 a) fun w =>
ob (evLd false 1 w h2) fun a3 =>
ob (yb .eql K a3) fun j =>
gb j true (evFa 1 b) fun a1 =>
gb j true (evLd false 1 a1 h2) fun M =>
gb j true (evFa 1 a) fun J =>
gb j true (evLd false 1 J h2) fun r =>
gb j true (yb .eql M r) fun Q =>
ob (yh j Q (.bool false)) fun l =>
gb l true (evFa 2 b) fun H =>
gb l true (evLd false 1 H h2) fun a6 =>
gb l true (evFa 2 a) fun Y =>
gb l true (evLd false 1 Y h2) fun S =>
gb l true (yb .eql a6 S) fun x =>
ob (yh l x (.bool false)) fun e =>
gb e true (evFa 3 b) fun m =>
gb e true (evLd false 1 m h2) fun G =>
gb e true (evFa 3 a) fun N =>
gb e true (evLd false 1 N h2) fun t =>
gb e true (yb .eql G t) fun F =>
ob (yh e F (.bool false)) fun d =>
gb d true (evFa 4 b) fun U =>
gb d true (evLd false 1 U h2) fun A =>
gb d true (evFa 4 a) fun I =>
gb d true (evLd false 1 I h2) fun b0 =>
gb d true (yb .eql A b0) fun z =>
ob (yh d z (.bool false)) fun i =>
gb i true (evFa 5 b) fun V =>
gb i true (evLd false 1 V h2) fun B =>
gb i true (evFa 5 a) fun R =>
gb i true (evLd false 1 R h2) fun P =>
gb i true (yb .eql B P) fun Z =>
ob (yh i Z (.bool false)) fun k =>
gb k true (evFa 6 b) fun a7 =>
gb k true (evLd false 1 a7 h2) fun b1 =>
gb k true (evFa 6 a) fun L =>
gb k true (evLd false 1 L h2) fun D =>
gb k true (yb .eql b1 D) fun a9 =>
ob (yh k a9 (.bool false)) fun c =>
gb c true (evFa 7 b) fun a4 =>
gb c true (evLd false 1 a4 h2) fun a8 =>
gb c true (evFa 7 a) fun a0 =>
gb c true (evLd false 1 a0 h2) fun a5 =>
gb c true (yb .eql a8 a5) fun O =>
ob (yh c O (.bool false)) fun g =>
gb g true (evFa 8 b) fun u =>
gb g true (evLd false 1 u h2) fun v =>
gb g true (evFa 8 a) fun X =>
gb g true (evLd false 1 X h2) fun o =>
gh g true (yc E (yd E) 0 none true 11 [v, o] h2) h2 fun a2 h3 =>
ob (yh g a2 (.bool false)) fun C =>
(yo h3 C)
def y2ht := KK2 yi3 0 1
theorem y1ye : T0 y1iv [.t 4] y2ht := fun _ => by kernel_rfl
@[simp] theorem y2sx : E.pure 28 = true := rfl
theorem y2tz (a b : AV) : (yd E).p 28 [a, b] = yi3 a b [⟨0, .dead⟩, ⟨0, .dead⟩] :=
 (y1r (cf := y2j8) (by kernel_rfl) rfl).trans ((y1ye _).trans (by kernel_rfl))
def yts (h : Heap) : OX :=
(yo h (.bool true))
def ybl := KK0 yts
theorem y22t : T0 y19x [.t 4] ybl := fun _ => by kernel_rfl
def yma (a b c : AV) (h : Heap) : OX :=
 W E 0 yom ⟨[(0, a), (1, b), (5, c)], h⟩ ybl (y6 0 ybl xN) (finP [.t 4])
def yex := KK3 yma 0 1 5
theorem yrd : T1 yom ybl (y6 0 ybl xN) [.t 4] yex := fun s => yu.trans (by kernel_rfl)
def yu7 (a c d : AV) (h : Heap) : OX :=
ob (yb .add d (.int .i64 1)) fun b =>
(yma a c b h)
def y2iv := KK3 yu7 0 1 5
theorem y1yd : T1 y1nq yex (y6 0 ybl xN) [.t 4] y2iv := fun _ => by kernel_rfl
def yt8 (b c a : AV) (h : Heap) : OX :=
ob (y10 1 b a) fun i =>
ob (evLd false 1 i h) fun j =>
ob (y10 1 c a) fun e =>
ob (evLd false 1 e h) fun g =>
ob (yb .neq j g) fun d =>
cnd d
 ((yo h (.bool false)))
 ((yu7 b c a h))
def y2i7 := KK3 yt8 0 1 5
theorem y237 : T1 y1d7 yex (y6 0 ybl xN) [.t 4] y2i7 := sq y1yd fun _ => by kernel_rfl
def ysy (a d b : AV) (h : Heap) : OX :=
ob (y17 1 a h) fun e =>
ob (yb .lss b e) fun c =>
cnd c
 ((yt8 a d b h))
 ((yts h))
def y2m8 := KK3 ysy 0 1 5
theorem y1v2 : T1 y1e5 yex (y6 0 ybl xN) [.t 4] y2m8 := sq y237 fun _ => by kernel_rfl
theorem yqj (a b c : AV) (h : Heap) : yma a b c h = (ysy a b c h) :=
 y27.trans ((y1q _ _ _ (n' := yex) (fun s => yrd s)).trans ((y1v2 _).trans (by kernel_rfl)))
theorem y1zl : T1 y1lz ybl xN [.t 4] yex := fun s => y11.trans (yrd s)
def ysq (a b : AV) (h : Heap) : OX :=
(yma a b (.int .i64 0) h)
def y24y := KK2 ysq 0 1
theorem y1vq : T1 y1b7 ybl xN [.t 4] y24y := sq y1zl fun _ => by kernel_rfl
theorem y1u8 : T0 y1l2 [.t 4] y24y := sq y22t y1vq
def ytg (a b : AV) (h : Heap) : OX :=
ob (y17 1 a h) fun e =>
ob (y17 1 b h) fun c =>
ob (yb .neq e c) fun d =>
cnd d
 ((yo h (.bool false)))
 ((ysq a b h))
def y2ol := KK2 ytg 0 1
theorem y1ze : T0 y1q6 [.t 4] y2ol := sq y1u8 fun _ => by kernel_rfl
def yjt (a b : AV) (h : Heap) : OX :=
(ytg a b h)
def y2bm := KK2 yjt 0 1
theorem y1fj : T0 ywt [.t 4] y2bm := sq y1ze fun _ => by kernel_rfl
@[simp] theorem y2ti : E.pure 11 = true := rfl
theorem y2sl (a b : AV) : (yd E).p 11 [a, b] = yjt a b [] :=
 (y1r (cf := y2p7) (by kernel_rfl) rfl).trans ((y1fj _).trans (by kernel_rfl))
def q4_1 (a b d : AV) (h : Heap) : OX :=
ob (evLd true 9 b h) fun c =>
oh (evSt 9 a c h) fun _ h1 =>
(ob (evLd true 9 a h1) fun r0 =>
 yo h1 (.tup [r0, d]))
def yty := KK3 q4_1 4 7 8
theorem y2as : T0 y26g [.cell 4 true 9, .t 5] yty := fun _ => by kernel_rfl
def q4_2 (c d b e : AV) (h : Heap) : OX :=
ob (yb .add b e) fun a =>
(q4_1 c d a h)
def yie := KK4 q4_2 4 7 8 13
theorem y2d1 : T1 y25j yty xN [.cell 4 true 9, .t 5] yie := fun _ => by kernel_rfl
def y19f (d e c i b a g : AV) (h : Heap) : OX :=
 W E 0 yso ⟨[(4, d), (7, e), (8, c), (13, i), (130, b), (131, a), (132, g)], h⟩ yie (y6 0 yie xN) (finP [.cell 4 true 9, .t 5])
def yj0 := KK7 y19f 4 7 8 13 130 131 132
theorem ywr : T1 yso yie (y6 0 yie xN) [.cell 4 true 9, .t 5] yj0 := fun s => yu.trans (by kernel_rfl)
def q4_4 (e g d j c a i : AV) (h : Heap) : OX :=
ob (yb .add i (.int .i64 1)) fun b =>
(y19f e g d j c a b h)
def y2u4 := KK7 q4_4 4 7 8 13 130 131 132
theorem y2ei : T1 y27l yj0 (y6 0 yie xN) [.cell 4 true 9, .t 5] y2u4 := fun _ => by kernel_rfl
def q4_5 (m a k r b e c : AV) (h : Heap) : OX :=
ob (y10 1 b c) fun i =>
ob (evLd false 1 i h) fun l =>
ob (evFa 8 a) fun p =>
ob (evLd false 1 p h) fun g =>
ob (y80 .i64 l) fun j =>
oh (yl 0 (some 3) 1 1 [(.int .i64 0)] [(0, j)] h) fun d h2 =>
oh (y1v 0 (some 4) 1 8 g d h2) fun n h3 =>
ob (evFa 8 a) fun o =>
oh (evSt 1 o n h3) fun _ h4 =>
(q4_4 m a k r b e c h4)
def y2r3 := KK7 q4_5 4 7 8 13 130 131 132
theorem y2gt : T1 y24o yj0 (y6 0 yie xN) [.cell 4 true 9, .t 5] y2r3 := sq y2ei fun _ => by kernel_rfl
def q4_6 (b c a d g e j i : AV) (h : Heap) : OX :=
cnd i
 ((q4_5 b c a d g e j h))
 ((q4_2 b c a d h))
def y2tf := KK8 q4_6 4 7 8 13 130 131 132 133
theorem y2e1 : T1 y26t yj0 (y6 0 yie xN) [.cell 4 true 9, .t 5] y2tf := sq y2gt fun _ => by kernel_rfl
def q4_7 (g i e j c a b : AV) (h : Heap) : OX :=
ob (yb .lss b a) fun d =>
(q4_6 g i e j c a b d h)
def y2sp := KK7 q4_7 4 7 8 13 130 131 132
theorem y2bi : T1 y25x yj0 (y6 0 yie xN) [.cell 4 true 9, .t 5] y2sp := sq y2e1 fun _ => by kernel_rfl
theorem y12f (d e c i b a g : AV) (h : Heap) : y19f d e c i b a g h = (q4_7 d e c i b a g h) :=
 y27.trans ((y1q _ _ _ (n' := yj0) (fun s => ywr s)).trans ((y2bi _).trans (by kernel_rfl)))
theorem y2dg : T1 y25s yie xN [.cell 4 true 9, .t 5] yj0 := fun s => y11.trans (ywr s)
def q4_9 (c o l m a d : AV) (h : Heap) : OX :=
ob (evFa 0 o) fun e =>
ob (evLd false 1 e h) fun k =>
ob (yb .add c a) fun n =>
ob (yb .add c a) fun g =>
ob (yb .add g d) fun j =>
ob (y75 1 k (some n) (some j)) fun b =>
ob (y17 1 b h) fun i =>
(y19f l m a d b i (.int .i64 0) h)
def y2iu := KK6 q4_9 1 2 4 7 8 13
theorem y29i : T1 y260 yie xN [.cell 4 true 9, .t 5] y2iu := sq y2dg fun _ => by kernel_rfl
theorem y22i : T1 y1t2 yty xN [.cell 4 true 9, .t 5] y2iu := sq y2d1 y29i
def y1u9 (c e a k b d : AV) (h : Heap) : OX :=
ob (evFa 0 e) fun i =>
ob (evLd false 1 i h) fun m =>
ob (y17 1 m h) fun n =>
ob (yb .sub n c) fun o =>
ob (yb .sub o b) fun g =>
ob (yb .gtr d g) fun l =>
cnd l
 (ob (yq zq0 []) fun j =>
oh (evSt 9 a j h) fun _ h5 =>
(ob (evLd true 9 a h5) fun r0 =>
 yo h5 (.tup [r0, (.int .i64 0)])))
 ((q4_9 c e a k b d h))
def y2kg := KK6 y1u9 1 2 4 7 8 13
theorem y24d : T1 y1sq yty xN [.cell 4 true 9, .t 5] y2kg := sq y22i fun _ => by kernel_rfl
def y21c (d j e g c a : AV) (h : Heap) : OX :=
ob (y10 1 a (.int .i64 1)) fun i =>
ob (evLd false 1 i h) fun b =>
ob (y80 .i64 b) fun k =>
(y1u9 d j e g c k h)
def y2k6 := KK6 y21c 1 2 4 7 8 12
theorem y235 : T1 y1nh yty xN [.cell 4 true 9, .t 5] y2k6 := sq y24d fun _ => by kernel_rfl
def y1t5 (g i b c a d e : AV) (h : Heap) : OX :=
cnd e
 ((y21c g i b c a d h))
 ((q4_1 b c a h))
def y2lp := KK7 y1t5 1 2 4 7 8 12 105
theorem y1zb : T1 y1di yty xN [.cell 4 true 9, .t 5] y2lp := fun s => (y1s (y235 s) rfl).trans (by kernel_rfl)
def y23z (e j g a d b : AV) (h : Heap) : OX :=
ob (evLd true 9 a h) fun i =>
oh (yc E (yd E) 0 none true 17 [i] h) fun c h6 =>
(y1t5 e j g a d b c h6)
def y25g := KK6 y23z 1 2 4 7 8 12
theorem y1wu : T1 y1fv yty xN [.cell 4 true 9, .t 5] y25g := sq y1zb fun _ => by kernel_rfl
theorem y1za : T0 y1fs [.cell 4 true 9, .t 5] y25g := sq y2as y1wu
def y2dc (j d a c i b : AV) (h : Heap) : OX :=
ob (evLd true 8 d h) fun l =>
oh (yc E (yd E) 0 none false 236 [l, c, b] h) fun g h7 =>
ob (evUn .not g) fun k =>
cnd k
 (ob (yq zq0 []) fun e =>
oh (evSt 9 a e h7) fun _ h8 =>
(ob (evLd true 9 a h8) fun r0 =>
 yo h8 (.tup [r0, (.int .i64 0)])))
 ((y23z j d a c i b h7))
def y2pq := KK6 y2dc 1 2 4 7 8 12
theorem y1vz : T0 y1g5 [.cell 4 true 9, .t 5] y2pq := sq y1za fun _ => by kernel_rfl
def y15s (a c e j b : AV) (h : Heap) : OX :=
ob (evFa 0 c) fun d =>
ob (evLd false 1 d h) fun k =>
ob (yb .add a (.int .i64 1)) fun g =>
ob (yb .add a b) fun i =>
ob (y75 1 k (some g) (some i)) fun l =>
(y2dc a c e j b l h)
def y2mm := KK5 y15s 1 2 4 7 8
theorem y1ts : T0 y1gn [.cell 4 true 9, .t 5] y2mm := sq y1vz fun _ => by kernel_rfl
def y174 (d i e b c g : AV) (h : Heap) : OX :=
ob (yb .geq g (.int .i64 0)) fun a =>
gb a false (evFa 0 b) fun l =>
gb a false (evLd false 1 l h) fun k =>
gb a false (yb .eql k (.int .i64 29)) fun m =>
ob (yh a (.bool true) m) fun n =>
cnd n
 (ob (evFa 3 b) fun j =>
oh (evSt 1 j g h) fun _ h9 =>
(y15s d i e b c h9))
 ((y15s d i e b c h))
def y2il := KK6 y174 1 2 4 7 8 10
theorem y24h : T0 y1ik [.cell 4 true 9, .t 5] y2il := sq y1ts fun _ => by kernel_rfl
def y15o (e j g b d c i : AV) (h : Heap) : OX :=
ob (yb .geq c (.int .i64 0)) fun a =>
gb a false (evFa 0 b) fun l =>
gb a false (evLd false 1 l h) fun k =>
gb a false (yb .eql k (.int .i64 30)) fun n =>
ob (yh a (.bool true) n) fun o =>
cnd o
 (ob (evFa 2 b) fun m =>
oh (evSt 1 m c h) fun _ h10 =>
(y174 e j g b d i h10))
 ((y174 e j g b d i h))
def y2mv := KK7 y15o 1 2 4 7 8 9 10
theorem y1tr : T0 y1je [.cell 4 true 9, .t 5] y2mv := sq y24h fun _ => by kernel_rfl
def y20i (e k i o a g d j : AV) (h : Heap) : OX :=
ob (yb .shr o (.int .u64 16)) fun n =>
oh (yc E (yd E) 0 none true 235 [n] h) fun c h11 =>
ob (yb .geq c (.int .i64 0)) fun b =>
gb b false (evLd true 9 a h11) fun p =>
gh b false (yc E (yd E) 0 none true 17 [p] h11) h11 fun l h12 =>
ob (yh b (.bool true) l) fun r =>
cnd r
 (ob (evFa 1 a) fun m =>
oh (evSt 1 m c h12) fun _ h13 =>
(y15o e k i a g d j h13))
 ((y15o e k i a g d j h12))
def y2nw := KK8 y20i 1 2 4 6 7 8 9 10
theorem y22o : T0 y1az [.cell 4 true 9, .t 5] y2nw := sq y1tr fun _ => by kernel_rfl
def y2c4 (c k e a i d : AV) (h : Heap) : OX :=
ob (yb .shr a (.int .u64 8)) fun b =>
oh (yc E (yd E) 0 none true 235 [b] h) fun j h14 =>
oh (yc E (yd E) 0 none true 235 [a] h14) fun g h15 =>
(y20i c k e a i d j g h15)
def y2kr := KK6 y2c4 1 2 4 6 7 8
theorem y1xu : T0 y1ar [.cell 4 true 9, .t 5] y2kr := sq y22o fun _ => by kernel_rfl
def ypq (e g d o c i : AV) (h : Heap) : OX :=
ob (evFa 0 c) fun p =>
ob (evLd false 1 p h) fun k =>
ob (yb .lss k (.int .i64 1)) fun b =>
gb b false (evFa 0 c) fun r =>
gb b false (evLd false 1 r h) fun x =>
gb b false (yb .gtr x (.int .i64 33)) fun m =>
ob (yh b (.bool true) m) fun a =>
gb a false (some i) fun n =>
gb a false (evFa 0 g) fun l =>
gb a false (evLd false 1 l h) fun z =>
gb a false (y17 1 z h) fun j =>
gb a false (some e) fun w =>
gb a false (yb .sub j w) fun u =>
gb a false (yb .gtr n u) fun y =>
ob (yh a (.bool true) y) fun t =>
cnd t
 (ob (yq zq0 []) fun v =>
oh (evSt 9 d v h) fun _ h16 =>
(ob (evLd true 9 d h16) fun r0 =>
 yo h16 (.tup [r0, (.int .i64 0)])))
 ((y2c4 e g d o c i h))
def y2k2 := KK6 ypq 1 2 4 6 7 8
theorem y20m : T0 y1gr [.cell 4 true 9, .t 5] y2k2 := sq y1xu fun _ => by kernel_rfl
def y27q (d k e i a : AV) (h : Heap) : OX :=
ob (evFa 0 a) fun b =>
ob (evLd false 1 b h) fun g =>
oh (yc E (yd E) 0 none true 234 [g] h) fun j h17 =>
ob (yb .add (.int .i64 1) j) fun c =>
(ypq d k e i a c h17)
def y2lx := KK5 y27q 1 2 4 6 7
theorem y1wp : T0 y1k6 [.cell 4 true 9, .t 5] y2lx := sq y20m fun _ => by kernel_rfl
def y27w (d j e b : AV) (h : Heap) : OX :=
ob (yb .shr b (.int .u64 24)) fun i =>
ob (y80 .i64 i) fun c =>
ob (yq zq0 [(0, 1, c)]) fun g =>
oh (newC 0 (some 2) zq0 h) fun a h18 =>
oh (evSt 9 a g h18) fun _ h19 =>
(y27q d j e b a h19)
def y2n6 := KK4 y27w 1 2 4 6
theorem y1u2 : T0 y1pq [.cell 4 true 9, .t 5] y2n6 := sq y1wp fun _ => by kernel_rfl
def y2dv (b a d : AV) (h : Heap) : OX :=
ob (evFa 0 a) fun e =>
ob (evLd false 1 e h) fun i =>
ob (y10 1 i b) fun c =>
ob (evLd false 1 c h) fun g =>
(y27w b a d g h)
def y2oz := KK3 y2dv 1 2 4
theorem y218 : T0 y1aq [.cell 4 true 9, .t 5] y2oz := sq y1u2 fun _ => by kernel_rfl
def yua (b d c : AV) (h : Heap) : OX :=
ob (yb .lss b (.int .i64 0)) fun a =>
gb a false (some b) fun k =>
gb a false (evFa 0 d) fun m =>
gb a false (evLd false 1 m h) fun j =>
gb a false (y17 1 j h) fun l =>
gb a false (yb .geq k l) fun g =>
ob (yh a (.bool true) g) fun i =>
cnd i
 (ob (yq zq0 []) fun e =>
oh (evSt 9 c e h) fun _ h20 =>
(ob (evLd true 9 c h20) fun r0 =>
 yo h20 (.tup [r0, (.int .i64 0)])))
 ((y2dv b d c h))
def y2na := KK3 yua 1 2 4
theorem y1z9 : T0 y1hb [.cell 4 true 9, .t 5] y2na := sq y218 fun _ => by kernel_rfl
def y240 (a d : AV) (h : Heap) : OX :=
oh (newC 0 (some 0) (cellsOf a) h) fun c h21 =>
oh (newC 0 (some 1) zq0 h21) fun b h22 =>
(yua d c b h22)
def y2lr := KK2 y240 0 1
theorem y1wd : T0 y1bs [.cell 4 true 9, .t 5] y2lr := sq y1z9 fun _ => by kernel_rfl
@[simp] theorem y2qg : E.pure 233 = true := rfl
theorem x_q4 (a b : AV) : (yd E).p 233 [a, b] = y240 a b [⟨0, .dead⟩, ⟨0, .dead⟩, ⟨0, .dead⟩, ⟨0, .dead⟩, ⟨0, .dead⟩] :=
 (y1r (cf := c_q4) (by kernel_rfl) rfl).trans ((y1wd _).trans (by kernel_rfl))
def y2cy (h : Heap) : OX :=
(yo h (.int .i64 0))
def yaf := KK0 y2cy
theorem y24k : T0 y1t0 [.t 2] yaf := fun _ => by kernel_rfl
def ym7 (c b d a e : AV) (h : Heap) : OX :=
 W E 0 yoj ⟨[(1, c), (3, b), (136, d), (137, a), (138, e)], h⟩ yaf (y6 6 yaf xN) (finP [.t 2])
def yc3 := KK5 ym7 1 3 136 137 138
theorem ypf : T1 yoj yaf (y6 6 yaf xN) [.t 2] yc3 := fun s => yu.trans (by kernel_rfl)
def y2gv (c b e a g : AV) (h : Heap) : OX :=
ob (yb .add g (.int .i64 1)) fun d =>
(ym7 c b e a d h)
def y2hz := KK5 y2gv 1 3 136 137 138
theorem y1wq : T1 y1hc yc3 (y6 6 yaf xN) [.t 2] y2hz := fun _ => by kernel_rfl
def yn9 (j i l J k : AV) (h : Heap) : OX :=
ob (y10 4 l k) fun B =>
ob (evLd true 4 B h) fun P =>
oh (newC 0 (some 2) zq3 h) fun b h1 =>
oh (evSt 4 b P h1) fun _ h2 =>
ob (evFa 0 b) fun r =>
ob (evLd false 1 r h2) fun L =>
ob (yb .lss L (.int .i64 0)) fun c =>
gb c false (evFa 0 b) fun y =>
gb c false (evLd false 1 y h2) fun S =>
gb c false (evFa 1 b) fun A =>
gb c false (evLd false 1 A h2) fun F =>
gb c false (yb .geq S F) fun n =>
ob (yh c (.bool true) n) fun e =>
gb e false (evFa 1 b) fun M =>
gb e false (evLd false 1 M h2) fun G =>
gb e false (some i) fun O =>
gb e false (yb .gtr G O) fun C =>
ob (yh e (.bool true) C) fun g =>
gb g false (evFa 2 b) fun m =>
gb g false (evLd false 1 m h2) fun H =>
gb g false (yb .lss H (.int .i64 0)) fun D =>
ob (yh g (.bool true) D) fun d =>
gb d false (evFa 2 b) fun w =>
gb d false (evLd false 1 w h2) fun z =>
gb d false (some i) fun I =>
gb d false (yb .geq z I) fun o =>
ob (yh d (.bool true) o) fun a =>
gb a false (evFa 3 j) fun Q =>
gb a false (evLd false 1 Q h2) fun R =>
gb a false (evFa 2 b) fun N =>
gb a false (evLd false 1 N h2) fun v =>
gb a false (y10 9 R v) fun p =>
gb a false (evFa 0 p) fun x =>
gb a false (evLd false 1 x h2) fun K =>
gb a false (yb .neq K (.int .i64 32)) fun t =>
ob (yh a (.bool true) t) fun u =>
cnd u
 ((yo h2 (.int .i64 80)))
 ((y2gv j i l J k h2))
def y2ir := KK5 yn9 1 3 136 137 138
theorem y1zy : T1 y1fy yc3 (y6 6 yaf xN) [.t 2] y2ir := sq y1wq fun _ => by kernel_rfl
def y1wj (d b e a g c : AV) (h : Heap) : OX :=
cnd c
 ((yn9 d b e a g h))
 ((y2cy h))
def y2ik := KK6 y1wj 1 3 136 137 138 139
theorem y21d : T1 y1cf yc3 (y6 6 yaf xN) [.t 2] y2ik := sq y1zy fun _ => by kernel_rfl
def y23f (e c g a b : AV) (h : Heap) : OX :=
ob (yb .lss b a) fun d =>
(y1wj e c g a b d h)
def y2lo := KK5 y23f 1 3 136 137 138
theorem y1uo : T1 y1ll yc3 (y6 6 yaf xN) [.t 2] y2lo := sq y21d fun _ => by kernel_rfl
theorem yp6 (c b d a e : AV) (h : Heap) : ym7 c b d a e h = (y23f c b d a e h) :=
 y27.trans ((y1q _ _ _ (n' := yc3) (fun s => ypf s)).trans ((y1uo _).trans (by kernel_rfl)))
theorem y1yv : T1 y1py yaf xN [.t 2] yc3 := fun s => y11.trans (ypf s)
def y1i1 (a d : AV) (h : Heap) : OX :=
ob (evFa 4 a) fun e =>
ob (evLd false 1 e h) fun b =>
ob (y17 1 b h) fun c =>
(ym7 a d b c (.int .i64 0) h)
def y5q := KK2 y1i1 1 3
theorem y20p : T1 y1qh yaf xN [.t 2] y5q := sq y1yv fun _ => by kernel_rfl
theorem y219 : T0 y19g [.t 2] y5q := sq y24k y20p
def yet (c b e a d : AV) (h : Heap) : OX :=
 W E 0 yjx ⟨[(1, c), (3, b), (92, e), (93, a), (94, d)], h⟩ y5q (y6 4 y5q xN) (finP [.t 2])
def y7n := KK5 yet 1 3 92 93 94
theorem yl7 : T1 yjx y5q (y6 4 y5q xN) [.t 2] y7n := fun s => yu.trans (by kernel_rfl)
def yvv (d c g a e : AV) (h : Heap) : OX :=
ob (yb .add e (.int .i64 1)) fun b =>
(yet d c g a b h)
def yai := KK5 yvv 1 3 92 93 94
theorem y1fc : T1 y143 y7n (y6 4 y5q xN) [.t 2] yai := fun _ => by kernel_rfl
def ybr (e v i g z u L : AV) (h : Heap) : OX :=
ob (evFa 0 g) fun I =>
ob (evLd false 1 I h) fun K =>
ob (yb .eql K (.int .i64 32)) fun d =>
gb d true (some i) fun n =>
gb d true (yb .eql n (.int .i64 0)) fun x =>
gb d true (some x) fun b =>
gb b false (evFa 3 e) fun F =>
gb b false (evLd false 1 F h) fun C =>
gb b false (some i) fun A =>
gb b false (yb .sub A (.int .i64 1)) fun O =>
gb b false (y10 9 C O) fun J =>
gb b false (evLd true 9 J h) fun o =>
gh b false (yc E (yd E) 0 none true 24 [o] h) h fun p h3 =>
gb b false (evUn .not p) fun t =>
gb d true (yh b (.bool true) t) fun M =>
ob (yh d M (.bool false)) fun c =>
gb c false (evLd true 9 g h3) fun w =>
gh c false (yc E (yd E) 0 none true 22 [w] h3) h3 fun r h4 =>
gb c false (some r) fun a =>
gb a true (evFa 3 e) fun H =>
gb a true (evLd false 1 H h4) fun G =>
gb a true (evFa 6 g) fun N =>
gb a true (evLd false 1 N h4) fun j =>
gb a true (y10 9 G j) fun D =>
gb a true (evFa 0 D) fun k =>
gb a true (evLd false 1 k h4) fun l =>
gb a true (yb .eql l (.int .i64 32)) fun B =>
gb c false (yh a B (.bool false)) fun y =>
ob (yh c (.bool true) y) fun m =>
cnd m
 ((yo h4 (.int .i64 80)))
 ((yvv e v z u L h4))
def y28e := KK7 ybr 1 3 8 9 92 93 94
theorem y1pm : T1 yw5 yai (y6 5 yai (y6 4 y5q xN)) [.t 2] y28e := fun _ => by kernel_rfl
def ywv (b d g a k c i : AV) (h : Heap) : OX :=
ob (evLd true 5 b h) fun m =>
ob (evLd true 9 a h) fun j =>
oh (yc E (yd E) 0 none true 63 [m, j] h) fun e h5 =>
ob (evUn .not e) fun l =>
cnd l
 ((yo h5 (.int .i64 80)))
 ((ybr b d g a k c i h5))
def y2ea := KK7 ywv 1 3 8 9 92 93 94
theorem y1pf : T1 yvb yai (y6 5 yai (y6 4 y5q xN)) [.t 2] y2ea := sq y1pm fun _ => by kernel_rfl
def ys6 (g e c d a : AV) (h : Heap) : OX :=
ob (y10 9 c a) fun i =>
ob (evLd true 9 i h) fun j =>
oh (newC 0 (some 1) zq0 h) fun b h6 =>
oh (evSt 9 b j h6) fun _ h7 =>
(ywv g e a b c d a h7)
def yta := KK5 ys6 1 3 92 93 94
theorem y1dx : T1 y14t yai (y6 5 yai (y6 4 y5q xN)) [.t 2] yta := sq y1pf fun _ => by kernel_rfl
theorem y1bx : T1 y141 yai (y6 4 y5q xN) [.t 2] yta := fun s => y11.trans (y1dx s)
theorem y1pj : T1 yvo y7n (y6 4 y5q xN) [.t 2] yta := sq y1fc y1bx
def ywd (b a e c d g : AV) (h : Heap) : OX :=
cnd g
 ((ys6 b a e c d h))
 ((y1i1 b a h))
def y2e2 := KK6 ywd 1 3 92 93 94 95
theorem y1ge : T1 y157 y7n (y6 4 y5q xN) [.t 2] y2e2 := sq y1pj fun _ => by kernel_rfl
def y11x (d c e a b : AV) (h : Heap) : OX :=
ob (yb .lss b a) fun g =>
(ywd d c e a b g h)
def y2c1 := KK5 y11x 1 3 92 93 94
theorem y19v : T1 yy6 y7n (y6 4 y5q xN) [.t 2] y2c1 := sq y1ge fun _ => by kernel_rfl
theorem yl2 (c b e a d : AV) (h : Heap) : yet c b e a d h = (y11x c b e a d h) :=
 y27.trans ((y1q _ _ _ (n' := y7n) (fun s => yl7 s)).trans ((y19v _).trans (by kernel_rfl)))
theorem y1pv : T1 yz9 y5q xN [.t 2] y7n := fun s => y11.trans (yl7 s)
def yq6 (a e : AV) (h : Heap) : OX :=
ob (evFa 3 a) fun c =>
ob (evLd false 1 c h) fun b =>
ob (y17 1 b h) fun d =>
(yet a e b d (.int .i64 0) h)
def y5j := KK2 yq6 1 3
theorem y19t : T1 yw1 y5q xN [.t 2] y5j := sq y1pv fun _ => by kernel_rfl
theorem y1nd : T0 yve [.t 2] y5j := sq y219 y19t
def yf1 (d a e c b : AV) (h : Heap) : OX :=
 W E 0 yhl ⟨[(1, d), (3, a), (62, e), (63, c), (64, b)], h⟩ y5j (y6 2 y5j xN) (finP [.t 2])
def y8f := KK5 yf1 1 3 62 63 64
theorem ykj : T1 yhl y5j (y6 2 y5j xN) [.t 2] y8f := fun s => yu.trans (by kernel_rfl)
def y1ca (e a g d c : AV) (h : Heap) : OX :=
ob (yb .add c (.int .i64 1)) fun b =>
(yf1 e a g d b h)
def y2gh := KK5 y1ca 1 3 62 63 64
theorem y1qk : T1 y06 y8f (y6 2 y5j xN) [.t 2] y2gh := fun _ => by kernel_rfl
def yig (d n i k c : AV) (h : Heap) : OX :=
ob (y10 1 i c) fun A =>
ob (evLd false 1 A h) fun g =>
ob (yb .lss g (.int .i64 0)) fun b =>
gb b false (some g) fun j =>
gb b false (evFa 0 d) fun x =>
gb b false (evLd false 1 x h) fun z =>
gb b false (y17 1 z h) fun y =>
gb b false (yb .geq j y) fun p =>
ob (yh b (.bool true) p) fun a =>
gb a false (evFa 1 d) fun w =>
gb a false (evLd false 1 w h) fun B =>
gb a false (some c) fun u =>
gb a false (y75 1 B none (some u)) fun v =>
gb a false (some g) fun o =>
gh a false (yc E (yd E) 0 none true 46 [v, o] h) h fun r h8 =>
ob (yh a (.bool true) r) fun e =>
gb e false (some c) fun t =>
gb e false (yb .gtr t (.int .i64 20)) fun m =>
ob (yh e (.bool true) m) fun l =>
cnd l
 ((yo h8 (.int .i64 80)))
 ((y1ca d n i k c h8))
def y2a7 := KK5 yig 1 3 62 63 64
theorem y1so : T1 y12v y8f (y6 2 y5j xN) [.t 2] y2a7 := sq y1qk fun _ => by kernel_rfl
def y148 (b a e d c g : AV) (h : Heap) : OX :=
cnd g
 ((yig b a e d c h))
 ((yq6 b a h))
def y28v := KK6 y148 1 3 62 63 64 65
theorem y1la : T1 yvz y8f (y6 2 y5j xN) [.t 2] y28v := sq y1so fun _ => by kernel_rfl
def y13i (d c e b a : AV) (h : Heap) : OX :=
ob (yb .lss a b) fun g =>
(y148 d c e b a g h)
def y2a3 := KK5 y13i 1 3 62 63 64
theorem y1lw : T1 y0w y8f (y6 2 y5j xN) [.t 2] y2a3 := sq y1la fun _ => by kernel_rfl
theorem ykc (d a e c b : AV) (h : Heap) : yf1 d a e c b h = (y13i d a e c b h) :=
 y27.trans ((y1q _ _ _ (n' := y8f) (fun s => ykj s)).trans ((y1lw _).trans (by kernel_rfl)))
theorem y1qy : T1 ywz y5j xN [.t 2] y8f := fun s => y11.trans (ykj s)
def yp5 (a c : AV) (h : Heap) : OX :=
ob (evFa 1 a) fun e =>
ob (evLd false 1 e h) fun b =>
ob (y17 1 b h) fun d =>
(yf1 a c b d (.int .i64 0) h)
def y5h := KK2 yp5 1 3
theorem y1p0 : T1 ywm y5j xN [.t 2] y5h := sq y1qy fun _ => by kernel_rfl
theorem y1q4 : T0 yvj [.t 2] y5h := sq y1nd y1p0
def yer (c b d a e : AV) (h : Heap) : OX :=
 W E 0 yjm ⟨[(1, c), (3, b), (48, d), (49, a), (50, e)], h⟩ y5h (y6 0 y5h xN) (finP [.t 2])
def y8d := KK5 yer 1 3 48 49 50
theorem ylw : T1 yjm y5h (y6 0 y5h xN) [.t 2] y8d := fun s => yu.trans (by kernel_rfl)
def y1ob (c b e a g : AV) (h : Heap) : OX :=
ob (yb .add g (.int .i64 1)) fun d =>
(yer c b e a d h)
def y2a6 := KK5 y1ob 1 3 48 49 50
theorem y1gm : T1 yxx y8d (y6 0 y5h xN) [.t 2] y2a6 := fun _ => by kernel_rfl
def yrz (k i c g d : AV) (h : Heap) : OX :=
ob (y10 1 c d) fun l =>
ob (evLd false 1 l h) fun b =>
ob (yb .lss b (.int .i64 1)) fun a =>
gb a false (some b) fun e =>
gb a false (yb .gtr e (.int .i64 3)) fun j =>
ob (yh a (.bool true) j) fun m =>
cnd m
 ((yo h (.int .i64 80)))
 ((y1ob k i c g d h))
def y29v := KK5 yrz 1 3 48 49 50
theorem y18b : T1 yvt y8d (y6 0 y5h xN) [.t 2] y29v := sq y1gm fun _ => by kernel_rfl
def yyr (b a e c g d : AV) (h : Heap) : OX :=
cnd d
 ((yrz b a e c g h))
 ((yp5 b a h))
def y2bz := KK6 yyr 1 3 48 49 50 51
theorem y1i8 : T1 y12y y8d (y6 0 y5h xN) [.t 2] y2bz := sq y18b fun _ => by kernel_rfl
def y13k (d c g a b : AV) (h : Heap) : OX :=
ob (yb .lss b a) fun e =>
(yyr d c g a b e h)
def y2ah := KK5 y13k 1 3 48 49 50
theorem y1m8 : T1 y138 y8d (y6 0 y5h xN) [.t 2] y2ah := sq y1i8 fun _ => by kernel_rfl
theorem ylz (c b d a e : AV) (h : Heap) : yer c b d a e h = (y13k c b d a e h) :=
 y27.trans ((y1q _ _ _ (n' := y8d) (fun s => ylw s)).trans ((y1m8 _).trans (by kernel_rfl)))
theorem y1j3 : T1 y15j y5h xN [.t 2] y8d := fun s => y11.trans (ylw s)
def ykk (a d : AV) (h : Heap) : OX :=
ob (evFa 0 a) fun e =>
ob (evLd false 1 e h) fun b =>
ob (y17 1 b h) fun c =>
(yer a d b c (.int .i64 0) h)
def y1r4 := KK2 ykk 1 3
theorem y1hy : T1 yya y5h xN [.t 2] y1r4 := sq y1j3 fun _ => by kernel_rfl
theorem y1eq : T0 ywo [.t 2] y1r4 := sq y1q4 y1hy
def ydg (b e : AV) (h : Heap) : OX :=
ob (yb .lss e (.int .i64 1)) fun i =>
gb i false (some e) fun v =>
gb i false (yb .gtr v (.int .i64 20000)) fun C =>
ob (yh i (.bool true) C) fun c =>
gb c false (evFa 0 b) fun m =>
gb c false (evLd false 1 m h) fun r =>
gb c false (y17 1 r h) fun u =>
gb c false (yb .gtr u (.int .i64 20000)) fun j =>
ob (yh c (.bool true) j) fun g =>
gb g false (evFa 2 b) fun k =>
gb g false (evLd false 1 k h) fun t =>
gb g false (yb .lss t (.int .i64 0)) fun l =>
ob (yh g (.bool true) l) fun d =>
gb d false (evFa 2 b) fun n =>
gb d false (evLd false 1 n h) fun w =>
gb d false (yb .gtr w (.int .i64 3)) fun G =>
ob (yh d (.bool true) G) fun a =>
gb a false (evFa 3 b) fun p =>
gb a false (evLd false 1 p h) fun A =>
gb a false (some e) fun o =>
gb a false (yb .sub o (.int .i64 1)) fun z =>
gb a false (y10 9 A z) fun y =>
gb a false (evLd true 9 y h) fun B =>
gh a false (yc E (yd E) 0 none true 24 [B] h) h fun D h9 =>
gb a false (evUn .not D) fun x =>
ob (yh a (.bool true) x) fun F =>
cnd F
 ((yo h9 (.int .i64 80)))
 ((ykk b e h9))
def y28b := KK2 ydg 1 3
theorem y19c : T0 y159 [.t 2] y28b := sq y1eq fun _ => by kernel_rfl
def ycv (a : AV) (h : Heap) : OX :=
ob (evFa 3 a) fun c =>
ob (evLd false 1 c h) fun b =>
ob (y17 1 b h) fun d =>
(ydg a d h)
def y286 := KK1 ycv 1
theorem y1g3 : T0 y133 [.t 2] y286 := sq y19c fun _ => by kernel_rfl
def ybo (a : AV) (h : Heap) : OX :=
oh (newC 0 (some 0) (cellsOf a) h) fun b h10 =>
(ycv b h10)
def y2b3 := KK1 ybo 0
theorem y1qa : T0 y142 [.t 2] y2b3 := sq y1g3 fun _ => by kernel_rfl
@[simp] theorem y2ut : E.pure 8 = true := rfl
theorem y2rx (a : AV) : (yd E).p 8 [a] = ybo a [⟨0, .dead⟩, ⟨0, .dead⟩, ⟨0, .dead⟩] :=
 (y1r (cf := y2kc) (by kernel_rfl) rfl).trans ((y1qa _).trans (by kernel_rfl))
def y1am (b : AV) (h : Heap) : OX :=
ob (evLd false 1 b h) fun a =>
(yo h (.tup [a, (.int .i64 0)]))
def y4u := KK1 y1am 14
theorem y1vs : T0 y1g2 [.t 4, .t 5] y4u := fun _ => by kernel_rfl
def ypg (c i g d a j e b k : AV) (h : Heap) : OX :=
 W E 0 ynn ⟨[(1, c), (6, i), (7, g), (14, d), (15, a), (20, j), (113, e), (114, b), (115, k)], h⟩ y4u (y6 6 y4u xN) (finP [.t 4, .t 5])
def ycj := KK9 ypg 1 6 7 14 15 20 113 114 115
theorem yra : T1 ynn y4u (y6 6 y4u xN) [.t 4, .t 5] ycj := fun s => yu.trans (by kernel_rfl)
def y1es (c j i d a k g b l : AV) (h : Heap) : OX :=
ob (yb .add l (.int .i64 1)) fun e =>
(ypg c j i d a k g b e h)
def y7a := KK9 y1es 1 6 7 14 15 20 113 114 115
theorem y1zs : T1 y1ox ycj (y6 6 y4u xN) [.t 4, .t 5] y7a := fun _ => by kernel_rfl
def y1of (i p l j a b n k e r : AV) (h : Heap) : OX :=
ob (evLd false 1 a h) fun m =>
ob (evFa 0 n) fun d =>
ob (evLd false 1 d h) fun c =>
oh (yl 0 (some 13) 1 1 [(.int .i64 0)] [(0, c)] h) fun o h1 =>
oh (y1v 0 (some 14) 1 8 m o h1) fun g h2 =>
oh (evSt 1 a g h2) fun _ h3 =>
oh (yyi E (yd E) 0 none true b [] h3) fun t h4 =>
(y1es i p l j a b k e r h4)
def y1k0 := KK10 y1of 1 6 7 14 15 20 22 113 114 115
theorem y1w9 : T1 y1nm y7a (y6 7 y7a (y6 6 y4u xN)) [.t 4, .t 5] y1k0 := fun _ => by kernel_rfl
def y1xc (a u d e j o : AV) (h : Heap) : Option Heap :=
ob (evFa 0 e) fun i =>
ob (evLd false 1 i h) fun t =>
ob (yb .eql o t) fun v =>
cnd v
 (ob (evLd false 1 u h) fun m =>
oh (y3x false [0] m j a h) fun _ h5 =>
ob (evLd false 1 d h5) fun g =>
ob (y2z false [0] (.int .i64 0) false g a h5) fun n =>
ob (yb .add n (.int .i64 1)) fun k =>
oh (y3x false [0] g a k h5) fun _ h6 =>
ob (evLd false 1 d h6) fun b =>
ob (evFa 0 e) fun p =>
ob (evLd false 1 p h6) fun c =>
ob (y2z false [0] (.int .i64 0) false b c h6) fun l =>
ob (yb .sub l (.int .i64 1)) fun r =>
oh (y3x false [0] b c r h6) fun _ h7 =>
(some (killAll 0 [] h7)))
 ((some (killAll 0 [] h)))
def y2p0 := KK6 y1xc 1 6 7 22 25 26
theorem y24f (s : St) : W E 0 y1te s (fun s3 => some (killAll 0 [] s3.h)) xN (fun _ => none) = y2p0 s :=
 by kernel_rfl
def y1tq (b a c k g n d m i o : AV) (h : Heap) : OX :=
ob (evLd false 1 a h) fun l =>
orm l (fun q h8 =>
ob (y29 0 (AV.tup [q.1, q.2])) fun e =>
ob (y29 1 (AV.tup [q.1, q.2])) fun j =>
(y1xc b a c d e j h8)) h fun h9 =>
(y1of b a c k g n d m i o h9)
def y25o := KK10 y1tq 1 6 7 14 15 20 22 113 114 115
theorem y241 : T1 y1lb y1k0 (y6 7 y7a (y6 6 y4u xN)) [.t 4, .t 5] y25o := fun s => (ysd (nk := y1k0) (fun s2 => y24f s2) (fun s => rfl)).trans (by kernel_rfl)
theorem y1wf : T1 y1f7 y7a (y6 7 y7a (y6 6 y4u xN)) [.t 4, .t 5] y25o := sq y1w9 y241
def y28j (b p n a j r c m k t : AV) (h : Heap) : OX :=
ob (evLd false 1 a h) fun g =>
ob (evFa 0 c) fun i =>
ob (evLd false 1 i h) fun d =>
ob (yq [(.int .i64 0), (.int .i64 0)] [(0, 1, b), (1, 1, d)]) fun o =>
oh (yl 0 (some 11) 2 1 [(.int .i64 0), (.int .i64 0)] [(0, o)] h) fun l h10 =>
oh (y1v 0 (some 12) 2 16 g l h10) fun e h11 =>
oh (evSt 1 a e h11) fun _ h12 =>
(y1tq b p n a j r c m k t h12)
def y2l7 := KK10 y28j 1 6 7 14 15 20 22 113 114 115
theorem y1uf : T1 y1ae y7a (y6 7 y7a (y6 6 y4u xN)) [.t 4, .t 5] y2l7 := sq y1wf fun _ => by kernel_rfl
def y2cv (d a j e b l k g c m : AV) (h : Heap) : OX :=
ob (evLd false 1 a h) fun n =>
ob (evFa 0 k) fun r =>
ob (evLd false 1 r h) fun o =>
ob (y2z false [0] (.int .i64 0) true n o h) fun i =>
ob (y29 0 i) fun u =>
ob (y29 1 i) fun t =>
ob (evUn .not t) fun p =>
cnd p
 ((y1es d a j e b l g c m h))
 ((y28j d a j e b l k g c m h))
def y2js := KK10 y2cv 1 6 7 14 15 20 22 113 114 115
theorem y1x9 : T1 y19m y7a (y6 7 y7a (y6 6 y4u xN)) [.t 4, .t 5] y2js := sq y1uf fun _ => by kernel_rfl
def yye (i m k j e n a g c : AV) (h : Heap) : OX :=
ob (y10 2 a c) fun d =>
ob (evLd true 2 d h) fun l =>
oh (newC 0 (some 10) [(.int .i64 0), (.int .i64 0)] h) fun b h13 =>
oh (evSt 2 b l h13) fun _ h14 =>
(y2cv i m k j e n b a g c h14)
def yuq := KK9 yye 1 6 7 14 15 20 113 114 115
theorem y1br : T1 yz4 y7a (y6 7 y7a (y6 6 y4u xN)) [.t 4, .t 5] yuq := sq y1x9 fun _ => by kernel_rfl
theorem y1jg : T1 y14y y7a (y6 6 y4u xN) [.t 4, .t 5] yuq := fun s => y11.trans (y1br s)
theorem y1t9 : T1 y13g ycj (y6 6 y4u xN) [.t 4, .t 5] yuq := sq y1zs y1jg
def y14x (e j i a c k g d l b : AV) (h : Heap) : OX :=
cnd b
 ((yye e j i a c k g d l h))
 ((y1am a h))
def y2d9 := KK10 y14x 1 6 7 14 15 20 113 114 115 116
theorem y1i6 : T1 y14v ycj (y6 6 y4u xN) [.t 4, .t 5] y2d9 := sq y1t9 fun _ => by kernel_rfl
def y13u (e k j g d l i a b : AV) (h : Heap) : OX :=
ob (yb .lss b a) fun c =>
(y14x e k j g d l i a b c h)
def y2ac := KK9 y13u 1 6 7 14 15 20 113 114 115
theorem y1fx : T1 yzb ycj (y6 6 y4u xN) [.t 4, .t 5] y2ac := sq y1i6 fun _ => by kernel_rfl
theorem ypp (c i g d a j e b k : AV) (h : Heap) : ypg c i g d a j e b k h = (y13u c i g d a j e b k h) :=
 y27.trans ((y1q _ _ _ (n' := ycj) (fun s => yra s)).trans ((y1fx _).trans (by kernel_rfl)))
theorem y1de : T1 y13e y4u xN [.t 4, .t 5] ycj := fun s => y11.trans (yra s)
def y1qj (a d i g e b j : AV) (h : Heap) : OX :=
ob (y17 1 a h) fun c =>
(ypg d i g e b j a c (.int .i64 0) h)
def y17w := KK7 y1qj 0 1 6 7 14 15 20
theorem y1k9 : T1 y131 y4u xN [.t 4, .t 5] y17w := sq y1de fun _ => by kernel_rfl
theorem y1ta : T0 y07 [.t 4, .t 5] y17w := sq y1vs y1k9
def y1iq (b d i g e c a : AV) (h : Heap) : OX :=
oh (yyi E (yd E) 0 none true a [] h) fun j h15 =>
(y1qj b d i g e c a h15)
def y2g5 := KK7 y1iq 0 1 6 7 14 15 20
theorem y1iy : T0 yy2 [.t 4, .t 5] y2g5 := sq y1ta fun _ => by kernel_rfl
def yxn (e i d c b a : AV) (h : Heap) : OX :=
ob (some (.fn 247 [a, d, b, c])) fun g =>
(y1iq e i d c b a g h)
def y5y := KK6 yxn 0 1 6 7 14 15
theorem y1jc : T0 ywc [.t 4, .t 5] y5y := sq y1iy fun _ => by kernel_rfl
def yhh (b d j g e c a i k : AV) (h : Heap) : OX :=
 W E 0 yh8 ⟨[(0, b), (1, d), (6, j), (7, g), (14, e), (15, c), (77, a), (78, i), (79, k)], h⟩ y5y (y6 4 y5y xN) (finP [.t 4, .t 5])
def y8e := KK9 yhh 0 1 6 7 14 15 77 78 79
theorem ymk : T1 yh8 y5y (y6 4 y5y xN) [.t 4, .t 5] y8e := fun s => yu.trans (by kernel_rfl)
def ydy (b d j g e c a i k : AV) (h : Heap) : OX :=
ob (yb .add k (.int .i64 1)) fun l =>
(yhh b d j g e c a i l h)
def y2h5 := KK9 ydy 0 1 6 7 14 15 77 78 79
theorem y1mp : T1 yzq y8e (y6 4 y5y xN) [.t 4, .t 5] y2h5 := fun _ => by kernel_rfl
def yvr (k l g e m d j n i : AV) (h : Heap) : OX :=
ob (y10 2 j i) fun B =>
ob (evLd true 2 B h) fun C =>
oh (newC 0 (some 7) [(.int .i64 0), (.int .i64 0)] h) fun c h16 =>
oh (evSt 2 c C h16) fun _ h17 =>
ob (evLd false 1 g h17) fun z =>
ob (evFa 0 c) fun A =>
ob (evLd false 1 A h17) fun J =>
ob (y2z false [0] (.int .i64 0) true z J h17) fun o =>
ob (y29 0 o) fun r =>
ob (y29 1 o) fun b =>
gb b true (some r) fun w =>
gb b true (evFa 0 c) fun t =>
gb b true (evLd false 1 t h17) fun L =>
gb b true (yb .neq w L) fun F =>
ob (yh b F (.bool false)) fun a =>
gb a true (evLd false 1 e h17) fun M =>
gb a true (evFa 0 c) fun y =>
gb a true (evLd false 1 y h17) fun D =>
gb a true (y2z false [0] (.int .i64 0) false M D h17) fun u =>
gb a true (yb .eql u (.int .i64 0)) fun x =>
ob (yh a x (.bool false)) fun H =>
cnd H
 (ob (evLd false 1 d h17) fun K =>
ob (evFa 0 c) fun I =>
ob (evLd false 1 I h17) fun G =>
oh (yl 0 (some 8) 1 1 [(.int .i64 0)] [(0, G)] h17) fun p h18 =>
oh (y1v 0 (some 9) 1 8 K p h18) fun v h19 =>
oh (evSt 1 d v h19) fun _ h20 =>
(ydy k l g e m d j n i h20))
 ((ydy k l g e m d j n i h17))
def y281 := KK9 yvr 0 1 6 7 14 15 77 78 79
theorem y1ic : T1 y12o y8e (y6 4 y5y xN) [.t 4, .t 5] y281 := sq y1mp fun _ => by kernel_rfl
def y14r (a c g e d b i j l k : AV) (h : Heap) : OX :=
cnd k
 ((yvr a c g e d b i j l h))
 ((yxn a c g e d b h))
def y2fr := KK10 y14r 0 1 6 7 14 15 77 78 79 80
theorem y1id : T1 y132 y8e (y6 4 y5y xN) [.t 4, .t 5] y2fr := sq y1ic fun _ => by kernel_rfl
def y11c (d g l j i e c a b : AV) (h : Heap) : OX :=
ob (yb .lss b a) fun k =>
(y14r d g l j i e c a b k h)
def y28p := KK9 y11c 0 1 6 7 14 15 77 78 79
theorem y1p8 : T1 yzj y8e (y6 4 y5y xN) [.t 4, .t 5] y28p := sq y1id fun _ => by kernel_rfl
theorem ykm (b d j g e c a i k : AV) (h : Heap) : yhh b d j g e c a i k h = (y11c b d j g e c a i k h) :=
 y27.trans ((y1q _ _ _ (n' := y8e) (fun s => ymk s)).trans ((y1p8 _).trans (by kernel_rfl)))
theorem y19h : T1 yvx y5y xN [.t 4, .t 5] y8e := fun s => y11.trans (ymk s)
def yvk (a c i e d b : AV) (h : Heap) : OX :=
ob (y17 1 a h) fun g =>
(yhh a c i e d b a g (.int .i64 0) h)
def y1o9 := KK6 yvk 0 1 6 7 14 15
theorem y1hh : T1 y122 y5y xN [.t 4, .t 5] y1o9 := sq y19h fun _ => by kernel_rfl
theorem y1ib : T0 y15k [.t 4, .t 5] y1o9 := sq y1jc y1hh
def y27h (a c g e d : AV) (h : Heap) : OX :=
oh (newC 0 (some 6) [.nils] h) fun b h21 =>
(yvk a c g e d b h21)
def y2b0 := KK5 y27h 0 1 6 7 14
theorem y1ro : T0 y121 [.t 4, .t 5] y2b0 := sq y1ib fun _ => by kernel_rfl
def ypr (a b e d : AV) (h : Heap) : OX :=
oh (newC 0 (some 5) [.nils] h) fun c h22 =>
(y27h a b e d c h22)
def yto := KK4 ypr 0 1 6 7
theorem y1by : T0 yzd [.t 4, .t 5] yto := sq y1ro fun _ => by kernel_rfl
def y13n (j i c a : AV) (h : Heap) : Option Heap :=
ob (yb .eql c a) fun k =>
cnd k
 (ob (evLd false 1 j h) fun d =>
oh (y7c false [0] d c h) fun _ h23 =>
(some (killAll 0 [] h23)))
 (ob (evLd false 1 i h) fun b =>
ob (y2z false [0] (.int .i64 0) false b a h) fun g =>
ob (yb .add g (.int .i64 1)) fun e =>
oh (y3x false [0] b a e h) fun _ h24 =>
(some (killAll 0 [] h24)))
def y2az := KK4 y13n 6 7 12 13
theorem y1d0 (s : St) : W E 0 yx5 s (fun s3 => some (killAll 0 [] s3.h)) xN (fun _ => none) = y2az s :=
 by kernel_rfl
def yrb (d e a b : AV) (h : Heap) : OX :=
ob (evLd false 1 a h) fun g =>
orm g (fun q h25 =>
ob (y29 0 (AV.tup [q.1, q.2])) fun c =>
ob (y29 1 (AV.tup [q.1, q.2])) fun i =>
(y13n a b c i h25)) h fun h26 =>
(ypr d e a b h26)
def y41 := KK4 yrb 0 1 6 7
theorem y1iu : T1 yyq yto xN [.t 4, .t 5] y41 := fun s => (ysd (nk := yto) (fun s2 => y1d0 s2) (fun s => rfl)).trans (by kernel_rfl)
theorem y1lg : T0 y0h [.t 4, .t 5] y41 := sq y1by y1iu
def yj7 (a c i e b g d : AV) (h : Heap) : OX :=
 W E 0 yiz ⟨[(0, a), (1, c), (6, i), (7, e), (29, b), (30, g), (31, d)], h⟩ y41 (y6 0 y41 xN) (finP [.t 4, .t 5])
def y8h := KK7 yj7 0 1 6 7 29 30 31
theorem ylj : T1 yiz y41 (y6 0 y41 xN) [.t 4, .t 5] y8h := fun s => yu.trans (by kernel_rfl)
def ysh (a c j g b i e : AV) (h : Heap) : OX :=
ob (yb .add e (.int .i64 1)) fun d =>
(yj7 a c j g b i d h)
def yah := KK7 ysh 0 1 6 7 29 30 31
theorem y1ju : T1 y152 y8h (y6 0 y41 xN) [.t 4, .t 5] yah := fun _ => by kernel_rfl
def y13l (e j b m a g n l : AV) (h : Heap) : OX :=
ob (evLd false 1 b h) fun d =>
ob (evFa 0 a) fun k =>
ob (evLd false 1 k h) fun c =>
ob (evFa 1 a) fun i =>
ob (evLd false 1 i h) fun o =>
oh (y3x false [0] d c o h) fun _ h27 =>
(ysh e j b m g n l h27)
def y2fp := KK8 y13l 0 1 6 7 9 29 30 31
theorem y1td : T1 yzi yah (y6 1 yah (y6 0 y41 xN)) [.t 4, .t 5] y2fp := fun _ => by kernel_rfl
def y1kf (i d e k c p l j : AV) (h : Heap) : OX :=
ob (evLd false 1 e h) fun n =>
ob (evFa 0 c) fun t =>
ob (evLd false 1 t h) fun o =>
ob (y2z false [0] (.int .i64 0) true n o h) fun g =>
ob (y29 0 g) fun B =>
ob (y29 1 g) fun b =>
gb b false (evFa 0 c) fun w =>
gb b false (evLd false 1 w h) fun r =>
gb b false (some d) fun x =>
gb b false (yb .eql r x) fun A =>
ob (yh b (.bool true) A) fun a =>
gb a false (evFa 1 c) fun z =>
gb a false (evLd false 1 z h) fun m =>
gb a false (some d) fun v =>
gb a false (yb .eql m v) fun u =>
ob (yh a (.bool true) u) fun y =>
cnd y
 ((yo h (.tup [AV.nils, (.int .i64 1)])))
 ((y13l i d e k c p l j h))
def y2au := KK8 y1kf 0 1 6 7 9 29 30 31
theorem y18p : T1 yvh yah (y6 1 yah (y6 0 y41 xN)) [.t 4, .t 5] y2au := sq y1td fun _ => by kernel_rfl
def yyu (e g l j a k c : AV) (h : Heap) : OX :=
ob (y10 2 a c) fun d =>
ob (evLd true 2 d h) fun i =>
oh (newC 0 (some 4) [(.int .i64 0), (.int .i64 0)] h) fun b h28 =>
oh (evSt 2 b i h28) fun _ h29 =>
(y1kf e g l j b a k c h29)
def ytr := KK7 yyu 0 1 6 7 29 30 31
theorem y1md : T1 y11o yah (y6 1 yah (y6 0 y41 xN)) [.t 4, .t 5] ytr := sq y18p fun _ => by kernel_rfl
theorem y1th : T1 yv7 yah (y6 0 y41 xN) [.t 4, .t 5] ytr := fun s => y11.trans (y1md s)
theorem y1bl : T1 y14c y8h (y6 0 y41 xN) [.t 4, .t 5] ytr := sq y1ju y1th
def y12d (a b d c e i g j : AV) (h : Heap) : OX :=
cnd j
 ((yyu a b d c e i g h))
 ((yrb a b d c h))
def y2d3 := KK8 y12d 0 1 6 7 29 30 31 32
theorem y1ji : T1 yyg y8h (y6 0 y41 xN) [.t 4, .t 5] y2d3 := sq y1bl fun _ => by kernel_rfl
def y09 (c e j g d b a : AV) (h : Heap) : OX :=
ob (yb .lss a b) fun i =>
(y12d c e j g d b a i h)
def y2fu := KK7 y09 0 1 6 7 29 30 31
theorem y1j2 : T1 y0c y8h (y6 0 y41 xN) [.t 4, .t 5] y2fu := sq y1ji fun _ => by kernel_rfl
theorem yky (a c i e b g d : AV) (h : Heap) : yj7 a c i e b g d h = (y09 a c i e b g d h) :=
 y27.trans ((y1q _ _ _ (n' := y8h) (fun s => ylj s)).trans ((y1j2 _).trans (by kernel_rfl)))
theorem y19e : T1 y136 y41 xN [.t 4, .t 5] y8h := fun s => y11.trans (ylj s)
def yy9 (a b e c : AV) (h : Heap) : OX :=
ob (y17 1 a h) fun d =>
(yj7 a b e c a d (.int .i64 0) h)
def y1qt := KK4 yy9 0 1 6 7
theorem y1r8 : T1 ywu y41 xN [.t 4, .t 5] y1qt := sq y19e fun _ => by kernel_rfl
theorem y17q : T0 y11s [.t 4, .t 5] y1qt := sq y1lg y1r8
def y26i (b c e : AV) (h : Heap) : OX :=
oh (mkmC 0 (some 2) h) fun d h30 =>
oh (newC 0 (some 3) [.nilm] h30) fun a h31 =>
oh (evSt 1 a d h31) fun _ h32 =>
(yy9 b c e a h32)
def y2a1 := KK3 y26i 0 1 6
theorem y1a7 : T0 yyk [.t 4, .t 5] y2a1 := sq y17q fun _ => by kernel_rfl
def y25a (b d : AV) (h : Heap) : OX :=
oh (mkmC 0 (some 0) h) fun c h33 =>
oh (newC 0 (some 1) [.nilm] h33) fun a h34 =>
oh (evSt 1 a c h34) fun _ h35 =>
(y26i b d a h35)
def y2bj := KK2 y25a 0 1
theorem y1ea : T0 y12n [.t 4, .t 5] y2bj := sq y1a7 fun _ => by kernel_rfl
def y1nc (a b : AV) (h : Heap) : OX :=
(y25a a b h)
def y2gg := KK2 y1nc 0 1
theorem y1at : T0 yxw [.t 4, .t 5] y2gg := sq y1ea fun _ => by kernel_rfl
@[simp] theorem y2q3 : E.pure 237 = true := rfl
theorem y2tu (a b : AV) : (yd E).p 237 [a, b] = y1nc a b [⟨0, .dead⟩, ⟨0, .dead⟩, ⟨0, .dead⟩, ⟨0, .dead⟩, ⟨0, .dead⟩, ⟨0, .dead⟩, ⟨0, .dead⟩, ⟨0, .dead⟩, ⟨0, .dead⟩, ⟨0, .dead⟩, ⟨0, .dead⟩, ⟨0, .dead⟩, ⟨0, .dead⟩, ⟨0, .dead⟩, ⟨0, .dead⟩] :=
 (y1r (cf := y2l8) (by kernel_rfl) rfl).trans ((y1at _).trans (by kernel_rfl))
def y166 (fb : Nat) (a b i : AV) (h : Heap) : Option (AV × Heap) :=
cnd i
 (ob (evFa 5 b) fun d =>
ob (evLd false 1 d h) fun g =>
oh (yc E (yd E) fb none false 243 [a, g] h) fun e h1 =>
oh (yc E (yd E) fb none false 242 [a, e] h1) fun j h2 =>
ob (evLd true 9 b h2) fun c =>
oh (yc E (yd E) fb none false 246 [a, c] h2) fun k h3 =>
(some ((.tup []), h3)))
 ((some ((.tup []), h)))
def y27a (fb : Nat) := KK3 (y166 fb) 0 3 88
theorem y1vh (fb : Nat) (s : St) : W E fb y1h6 s (finI []) (y6 0 (finI []) xN) (finI []) = y27a fb s :=
 by kernel_rfl
def y1v3 (fb : Nat) (b c a : AV) (h : Heap) : Option (AV × Heap) :=
ob (yb .eql a (.int .i64 23)) fun e =>
cnd e
 ((y166 fb b c e h))
 (ob (yb .eql a (.int .i64 24)) fun d =>
cnd d
 ((y166 fb b c d h))
 (ob (yb .eql a (.int .i64 26)) fun g =>
(y166 fb b c g h)))
def y2n5 (fb : Nat) := KK3 (y1v3 fb) 0 3 25
theorem y220 (fb : Nat) (s : St) : W E fb y1sg s (finI []) (y6 0 (finI []) xN) (finI []) = y2n5 fb s :=
 (y32 (k := (y27a fb)) (fun s => y1vh fb s)).trans (by kernel_rfl)
def y1fg (fb : Nat) (a b d c : AV) (h : Heap) : Option (AV × Heap) :=
cnd c
 (ob (evFa 7 b) fun i =>
ob (evLd false 1 i h) fun j =>
oh (yc E (yd E) fb none false 244 [a, j] h) fun e h4 =>
oh (yc E (yd E) fb none false 242 [a, e] h4) fun k h5 =>
ob (evLd true 9 b h5) fun g =>
oh (yc E (yd E) fb none false 246 [a, g] h5) fun l h6 =>
(some ((.tup []), h6)))
 ((y1v3 fb a b d h))
def y27e (fb : Nat) := KK4 (y1fg fb) 0 3 25 77
theorem y1u7 (fb : Nat) (s : St) : W E fb y1me s (finI []) (y6 0 (finI []) xN) (finI []) = y27e fb s :=
 (y1s rfl (y220 fb s)).trans (by kernel_rfl)
def y184 (fb : Nat) (b c a : AV) (h : Heap) : Option (AV × Heap) :=
ob (yb .eql a (.int .i64 25)) fun d =>
(y1fg fb b c a d h)
def y2hv (fb : Nat) := KK3 (y184 fb) 0 3 25
theorem y1xe (fb : Nat) (s : St) : W E fb y1m3 s (finI []) (y6 0 (finI []) xN) (finI []) = y2hv fb s :=
 (y32 (k := (y27e fb)) (fun s => y1u7 fb s)).trans (by kernel_rfl)
def yuu (fb : Nat) (a b d k : AV) (h : Heap) : Option (AV × Heap) :=
cnd k
 (ob (evFa 6 b) fun c =>
ob (evLd false 1 c h) fun j =>
oh (yc E (yd E) fb none false 245 [a, j] h) fun l h7 =>
ob (evFa 5 b) fun e =>
ob (evLd false 1 e h7) fun i =>
ob (y80 .u32 i) fun g =>
oh (yc E (yd E) fb none false 242 [a, g] h7) fun m h8 =>
(some ((.tup []), h8)))
 ((y184 fb a b d h))
def y26b (fb : Nat) := KK4 (yuu fb) 0 3 25 65
theorem y245 (fb : Nat) (s : St) : W E fb y1k4 s (finI []) (y6 0 (finI []) xN) (finI []) = y26b fb s :=
 (y1s rfl (y1xe fb s)).trans (by kernel_rfl)
def y173 (fb : Nat) (c d a : AV) (h : Heap) : Option (AV × Heap) :=
ob (yb .eql a (.int .i64 28)) fun b =>
cnd b
 ((yuu fb c d a b h))
 (ob (yb .eql a (.int .i64 29)) fun e =>
(yuu fb c d a e h))
def y2o9 (fb : Nat) := KK3 (y173 fb) 0 3 25
theorem y1x3 (fb : Nat) (s : St) : W E fb y1mf s (finI []) (y6 0 (finI []) xN) (finI []) = y2o9 fb s :=
 (y32 (k := (y26b fb)) (fun s => y245 fb s)).trans (by kernel_rfl)
def ytm (fb : Nat) (a b c e : AV) (h : Heap) : Option (AV × Heap) :=
cnd e
 (ob (evFa 6 b) fun g =>
ob (evLd false 1 g h) fun d =>
oh (yc E (yd E) fb none false 245 [a, d] h) fun i h9 =>
(some ((.tup []), h9)))
 ((y173 fb a b c h))
def y26h (fb : Nat) := KK4 (ytm fb) 0 3 25 59
theorem y1vm (fb : Nat) (s : St) : W E fb y18h s (finI []) (y6 0 (finI []) xN) (finI []) = y26h fb s :=
 (y1s rfl (y1x3 fb s)).trans (by kernel_rfl)
def yth (fb : Nat) (b d a : AV) (h : Heap) : Option (AV × Heap) :=
ob (yb .eql a (.int .i64 27)) fun c =>
(ytm fb b d a c h)
def y2k1 (fb : Nat) := KK3 (yth fb) 0 3 25
theorem y22a (fb : Nat) (s : St) : W E fb y1bb s (finI []) (y6 0 (finI []) xN) (finI []) = y2k1 fb s :=
 (y32 (k := (y26h fb)) (fun s => y1vm fb s)).trans (by kernel_rfl)
def yow (fb : Nat) (a b e i : AV) (h : Heap) : Option (AV × Heap) :=
cnd i
 (ob (evFa 4 b) fun d =>
ob (evLd false 1 d h) fun g =>
oh (yc E (yd E) fb none true 240 [g] h) fun c h10 =>
oh (yc E (yd E) fb none false 242 [a, c] h10) fun j h11 =>
(some ((.tup []), h11)))
 ((yth fb a b e h))
def y262 (fb : Nat) := KK4 (yow fb) 0 3 25 52
theorem y1z5 (fb : Nat) (s : St) : W E fb y1fp s (finI []) (y6 0 (finI []) xN) (finI []) = y262 fb s :=
 (y1s rfl (y22a fb s)).trans (by kernel_rfl)
def yfg (fb : Nat) (b c a : AV) (h : Heap) : Option (AV × Heap) :=
ob (yb .eql a (.int .i64 14)) fun d =>
(yow fb b c a d h)
def y2gb (fb : Nat) := KK3 (yfg fb) 0 3 25
theorem y1f2 (fb : Nat) (s : St) : W E fb yz5 s (finI []) (y6 0 (finI []) xN) (finI []) = y2gb fb s :=
 (y32 (k := (y262 fb)) (fun s => y1z5 fb s)).trans (by kernel_rfl)
def y8i (fb : Nat) (a b d e : AV) (h : Heap) : Option (AV × Heap) :=
cnd e
 (ob (evFa 7 b) fun g =>
ob (evLd false 1 g h) fun c =>
oh (yc E (yd E) fb none false 244 [a, c] h) fun i h12 =>
oh (yc E (yd E) fb none false 242 [a, i] h12) fun j h13 =>
(some ((.tup []), h13)))
 ((yfg fb a b d h))
def y1ds (fb : Nat) := KK4 (y8i fb) 0 3 25 41
theorem y1jb (fb : Nat) (s : St) : W E fb yyd s (finI []) (y6 0 (finI []) xN) (finI []) = y1ds fb s :=
 (y1s rfl (y1f2 fb s)).trans (by kernel_rfl)
def ye2 (fb : Nat) (b c a : AV) (h : Heap) : Option (AV × Heap) :=
ob (yb .eql a (.int .i64 3)) fun d =>
cnd d
 ((y8i fb b c a d h))
 (ob (yb .eql a (.int .i64 12)) fun e =>
cnd e
 ((y8i fb b c a e h))
 (ob (yb .eql a (.int .i64 21)) fun g =>
cnd g
 ((y8i fb b c a g h))
 (ob (yb .eql a (.int .i64 22)) fun i =>
(y8i fb b c a i h))))
def y2h9 (fb : Nat) := KK3 (ye2 fb) 0 3 25
theorem y1dv (fb : Nat) (s : St) : W E fb yy5 s (finI []) (y6 0 (finI []) xN) (finI []) = y2h9 fb s :=
 (y32 (k := (y1ds fb)) (fun s => y1jb fb s)).trans (by kernel_rfl)
def y5c (fb : Nat) (a b c e : AV) (h : Heap) : Option (AV × Heap) :=
cnd e
 (ob (evFa 5 b) fun i =>
ob (evLd false 1 i h) fun d =>
oh (yc E (yd E) fb none false 243 [a, d] h) fun g h14 =>
oh (yc E (yd E) fb none false 242 [a, g] h14) fun j h15 =>
(some ((.tup []), h15)))
 ((ye2 fb a b c h))
def y1bm (fb : Nat) := KK4 (y5c fb) 0 3 25 26
theorem y1d3 (fb : Nat) (s : St) : W E fb y111 s (finI []) (y6 0 (finI []) xN) (finI []) = y1bm fb s :=
 (y1s rfl (y1dv fb s)).trans (by kernel_rfl)
def y4p (fb : Nat) (b c a : AV) (h : Heap) : Option (AV × Heap) :=
ob (yb .eql a (.int .i64 1)) fun l =>
cnd l
 ((y5c fb b c a l h))
 (ob (yb .eql a (.int .i64 5)) fun e =>
cnd e
 ((y5c fb b c a e h))
 (ob (yb .eql a (.int .i64 6)) fun d =>
cnd d
 ((y5c fb b c a d h))
 (ob (yb .eql a (.int .i64 16)) fun i =>
cnd i
 ((y5c fb b c a i h))
 (ob (yb .eql a (.int .i64 17)) fun g =>
cnd g
 ((y5c fb b c a g h))
 (ob (yb .eql a (.int .i64 18)) fun j =>
cnd j
 ((y5c fb b c a j h))
 (ob (yb .eql a (.int .i64 19)) fun k =>
cnd k
 ((y5c fb b c a k h))
 (ob (yb .eql a (.int .i64 20)) fun m =>
(y5c fb b c a m h))))))))
def ytv (fb : Nat) := KK3 (y4p fb) 0 3 25
theorem y1jv (fb : Nat) (s : St) : W E fb yzv s (finI []) (y6 0 (finI []) xN) (finI []) = ytv fb s :=
 (y32 (k := (y1bm fb)) (fun s => y1d3 fb s)).trans (by kernel_rfl)
theorem y1kc (fb : Nat) (s : St) : W E fb y13m s (finI []) xN (finI []) = ytv fb s :=
 y11.trans (y1jv fb s)
def y19s (fb : Nat) (b a : AV) (h : Heap) : Option (AV × Heap) :=
ob (evFa 0 a) fun d =>
ob (evLd false 1 d h) fun c =>
(y4p fb b a c h)
def y1ho (fb : Nat) := KK2 (y19s fb) 0 3
theorem y18z (fb : Nat) (s : St) : W E fb ywk s (finI []) xN (finI []) = y1ho fb s :=
 (y32 (k := (ytv fb)) (fun s => y1kc fb s)).trans (by kernel_rfl)
def y1mj (fb : Nat) (b a : AV) (h : Heap) : Option (AV × Heap) :=
ob (evFa 0 a) fun d =>
ob (evLd false 1 d h) fun r =>
ob (y80 .u32 r) fun l =>
ob (yb .shl l (.int .u64 24)) fun w =>
ob (evLd true 9 a h) fun i =>
ofp (y90 E (yd E) fb none true 239 [i] h) fun f6 =>
oh (yc E (yd E) fb none true 239 [i] h) fun j h16 =>
ofp (y90 E (yd E) fb none true 240 [j] h16) fun f7 =>
oh (yc E (yd E) fb none true 240 [j] h16) fun v h17 =>
ob (yb .shl v (.int .u64 16)) fun t =>
ob (yb .or w t) fun p =>
ob (evLd true 9 a h17) fun c =>
ofp (y90 E (yd E) fb none true 241 [c, (.int .i64 0)] h17) fun f11 =>
oh (yc E (yd E) fb none true 241 [c, (.int .i64 0)] h17) fun e h18 =>
ofp (y90 E (yd E) fb none true 240 [e] h18) fun f12 =>
oh (yc E (yd E) fb none true 240 [e] h18) fun x h19 =>
ob (yb .shl x (.int .u64 8)) fun n =>
ob (yb .or p n) fun o =>
ob (evLd true 9 a h19) fun k =>
ofp (y90 E (yd E) fb none true 241 [k, (.int .i64 1)] h19) fun f16 =>
oh (yc E (yd E) fb none true 241 [k, (.int .i64 1)] h19) fun g h20 =>
ofp (y90 E (yd E) fb none true 240 [g] h20) fun f17 =>
oh (yc E (yd E) fb none true 240 [g] h20) fun u h21 =>
ob (yb .or o u) fun m =>
oh (yc E (yd E) fb none false 242 [b, m] h21) fun y h22 =>
okK (y1o [([], []), ([], []), (ids1 d, []), ([], []), ([], []), (ids1 a, []), f6, f7, ([], []), ([], []), (ids1 a, []), f11, f12, ([], []), ([], []), (ids1 a, []), f16, f17, ([], []), ([], [])] [(2, 6), (2, 7), (6, 10), (7, 10), (2, 11), (2, 12), (6, 15), (7, 15), (11, 15), (12, 15), (2, 16), (2, 17)]) <|
(y19s fb b a h22)
def y1fi (fb : Nat) := KK2 (y1mj fb) 0 3
theorem y1s4 (fb : Nat) (s : St) : W E fb yxz s (finI []) xN (finI []) = y1fi fb s :=
 (y32 (k := (y1ho fb)) (fun s => y18z fb s)).trans (by kernel_rfl)
def y1pn (fb : Nat) (a b : AV) (h : Heap) : Option (AV × Heap) :=
oh (newC fb (some 0) (cellsOf b) h) fun c h23 =>
(y1mj fb a c h23)
def y2h1 (fb : Nat) := KK2 (y1pn fb) 0 1
theorem y1ph (fb : Nat) (s : St) : W E fb yyt s (finI []) xN (finI []) = y2h1 fb s :=
 (y32 (k := (y1fi fb)) (fun s => y1s4 fb s)).trans (by kernel_rfl)
@[simp] theorem y2qb : E.pure 238 = false := rfl
theorem y2tt (fb : Nat) (a b : AV) (h : Heap) : (yd E).i 238 [a, b] fb h = y1pn fb a b (if fb = h.length then h ++ yj 1 else h) :=
 (y6b (cf := y2ot) (by kernel_rfl) rfl).trans ((y1ph fb _).trans (by kernel_rfl))
def y18v (a : AV) (h : Heap) : OX :=
(yo h a)
def y1p := KK1 y18v 5
theorem y22g : T0 y1kd [.t 2] y1p := fun _ => by kernel_rfl
def yd2 (c a d b : AV) (h : Heap) : OX :=
 W E 0 yne ⟨[(1, c), (3, a), (5, d), (6, b)], h⟩ y1p (y6 2 y1p xN) (finP [.t 2])
def yi := KK4 yd2 1 3 5 6
theorem ys3 : T1 yne y1p (y6 2 y1p xN) [.t 2] yi := fun s => yu.trans (by kernel_rfl)
def yjk (b a d e c : AV) (h : Heap) : OX :=
 W E 0 ynk ⟨[(1, b), (3, a), (5, d), (6, e), (7, c)], h⟩ yi (y6 4 yi (y6 3 yi (y6 2 y1p xN))) (finP [.t 2])
def yf4 := KK5 yjk 1 3 5 6 7
theorem yr7 : T1 ynk yi (y6 4 yi (y6 3 yi (y6 2 y1p xN))) [.t 2] yf4 := fun s => yu.trans (by kernel_rfl)
def y20s (c a e g d : AV) (h : Heap) : OX :=
ob (yb .sub d (.int .i64 1)) fun b =>
(yjk c a e g b h)
def y24 := KK5 y20s 1 3 5 6 7
theorem y1xl : T1 y1hi yf4 (y6 4 yi (y6 3 yi (y6 2 y1p xN))) [.t 2] y24 := fun _ => by kernel_rfl
def y15z (l i c o b p : AV) (h : Heap) : OX :=
ob (yp c) fun j =>
ob (evFa 0 j) fun k =>
ob (evLd false 1 k h) fun m =>
ob (y10 1 m b) fun g =>
ob (evLd false 1 g h) fun e =>
oh (yc E (yd E) 0 none false 84 [e, p] h) fun a h1 =>
gb a false (some o) fun n =>
ob (yh a (.bool true) n) fun d =>
(y20s l i c d b h1)
def y9w := KK6 y15z 1 3 5 6 7 12
theorem y21l : T1 y1ql y24 (y6 5 y24 (y6 4 yi (y6 3 yi (y6 2 y1p xN)))) [.t 2] y9w := fun _ => by kernel_rfl
def yqw (c b i j d k e g a : AV) (h : Heap) : OX :=
 W E 0 ync ⟨[(1, c), (3, b), (5, i), (6, j), (7, d), (12, k), (157, e), (158, g), (159, a)], h⟩ y9w (y6 10 y9w (y6 5 y24 (y6 4 yi (y6 3 yi (y6 2 y1p xN))))) (finP [.t 2])
def yck := KK9 yqw 1 3 5 6 7 12 157 158 159
theorem yrf : T1 ync y9w (y6 10 y9w (y6 5 y24 (y6 4 yi (y6 3 yi (y6 2 y1p xN))))) [.t 2] yck := fun s => yu.trans (by kernel_rfl)
def y292 (d c j k e l g i a : AV) (h : Heap) : OX :=
ob (yb .add a (.int .i64 1)) fun b =>
(yqw d c j k e l g i b h)
def y2ko := KK9 y292 1 3 5 6 7 12 157 158 159
theorem y1wv : T1 y1mb yck (y6 10 y9w (y6 5 y24 (y6 4 yi (y6 3 yi (y6 2 y1p xN))))) [.t 2] y2ko := fun _ => by kernel_rfl
def y28q (g d k m i c b j a : AV) (h : Heap) : OX :=
ob (y10 1 b a) fun l =>
ob (evLd false 1 l h) fun e =>
oh (yc E (yd E) 0 none false 86 [c, e] h) fun n h2 =>
(y292 g d k m i c b j a h2)
def y2ma := KK9 y28q 1 3 5 6 7 12 157 158 159
theorem y1tt : T1 y1p3 yck (y6 10 y9w (y6 5 y24 (y6 4 yi (y6 3 yi (y6 2 y1p xN))))) [.t 2] y2ma := sq y1wv fun _ => by kernel_rfl
def y1yr (b a d e c g k l j i : AV) (h : Heap) : OX :=
cnd i
 ((y28q b a d e c g k l j h))
 ((y15z b a d e c g h))
def y2in := KK10 y1yr 1 3 5 6 7 12 157 158 159 160
theorem y1v8 : T1 y1qf yck (y6 10 y9w (y6 5 y24 (y6 4 yi (y6 3 yi (y6 2 y1p xN))))) [.t 2] y2in := sq y1tt fun _ => by kernel_rfl
def y05 (e d j k g l i b a : AV) (h : Heap) : OX :=
ob (yb .lss a b) fun c =>
(y1yr e d j k g l i b a c h)
def y28f := KK9 y05 1 3 5 6 7 12 157 158 159
theorem y1n9 : T1 yuy yck (y6 10 y9w (y6 5 y24 (y6 4 yi (y6 3 yi (y6 2 y1p xN))))) [.t 2] y28f := sq y1v8 fun _ => by kernel_rfl
theorem ypd (c b i j d k e g a : AV) (h : Heap) : yqw c b i j d k e g a h = (y05 c b i j d k e g a h) :=
 y27.trans ((y1q _ _ _ (n' := yck) (fun s => yrf s)).trans ((y1n9 _).trans (by kernel_rfl)))
theorem y1rh : T1 y14j y9w (y6 5 y24 (y6 4 yi (y6 3 yi (y6 2 y1p xN)))) [.t 2] yck := fun s => y11.trans (yrf s)
def y1c1 (a g l m b n : AV) (h : Heap) : OX :=
ob (evFa 3 a) fun e =>
ob (evLd false 1 e h) fun d =>
ob (y10 9 d b) fun j =>
ob (evLd true 9 j h) fun i =>
oh (yc E (yd E) 0 none true 10 [i] h) fun c h3 =>
ob (y17 1 c h3) fun k =>
(yqw a g l m b n c k (.int .i64 0) h3)
def y1cz := KK6 y1c1 1 3 5 6 7 12
theorem y1o5 : T1 y11b y9w (y6 5 y24 (y6 4 yi (y6 3 yi (y6 2 y1p xN)))) [.t 2] y1cz := sq y1rh fun _ => by kernel_rfl
theorem y1ha : T1 y129 y24 (y6 5 y24 (y6 4 yi (y6 3 yi (y6 2 y1p xN)))) [.t 2] y1cz := sq y21l y1o5
def yli (i e b l a c : AV) (h : Heap) : OX :=
ob (yp b) fun m =>
ob (evFa 2 m) fun g =>
ob (evLd false 1 g h) fun j =>
ob (y10 1 j a) fun k =>
ob (evLd false 1 k h) fun d =>
oh (yc E (yd E) 0 none false 84 [c, d] h) fun n h4 =>
(y1c1 i e b l a c h4)
def y29d := KK6 yli 1 3 5 6 7 12
theorem y1rp : T1 y14a y24 (y6 5 y24 (y6 4 yi (y6 3 yi (y6 2 y1p xN)))) [.t 2] y29d := sq y1ha fun _ => by kernel_rfl
def ymh (a e g i b c : AV) (h : Heap) : OX :=
ob (evFa 3 a) fun n =>
ob (evLd false 1 n h) fun j =>
ob (y10 9 j b) fun l =>
ob (evLd true 9 l h) fun m =>
oh (yc E (yd E) 0 none true 9 [m] h) fun d h5 =>
ob (yb .geq d (.int .i64 0)) fun k =>
cnd k
 (oh (yc E (yd E) 0 none false 85 [c, d] h5) fun o h6 =>
(yli a e g i b c h6))
 ((yli a e g i b c h5))
def y2h2 := KK6 ymh 1 3 5 6 7 12
theorem y18t : T1 y0s y24 (y6 5 y24 (y6 4 yi (y6 3 yi (y6 2 y1p xN)))) [.t 2] y2h2 := sq y1rp fun _ => by kernel_rfl
def y1io (j e b m a : AV) (h : Heap) : OX :=
ob (yp b) fun k =>
ob (evFa 1 k) fun l =>
ob (evLd false 1 l h) fun c =>
ob (y10 1 c a) fun g =>
ob (evLd false 1 g h) fun i =>
oh (y1v 0 (some 2) 1 8 AV.nils i h) fun d h7 =>
(ymh j e b m a d h7)
def y6g := KK5 y1io 1 3 5 6 7
theorem y1dy : T1 y14f y24 (y6 5 y24 (y6 4 yi (y6 3 yi (y6 2 y1p xN)))) [.t 2] y6g := sq y18t fun _ => by kernel_rfl
def ych (c b i j e g a d : AV) (h : Heap) : OX :=
 W E 0 yir ⟨[(1, c), (3, b), (5, i), (6, j), (7, e), (102, g), (103, a), (104, d)], h⟩ y6g (y6 8 y6g (y6 5 y24 (y6 4 yi (y6 3 yi (y6 2 y1p xN))))) (finP [.t 2])
def y7m := KK8 ych 1 3 5 6 7 102 103 104
theorem ykw : T1 yir y6g (y6 8 y6g (y6 5 y24 (y6 4 yi (y6 3 yi (y6 2 y1p xN))))) [.t 2] y7m := fun s => yu.trans (by kernel_rfl)
def y1qr (c b j k g i a d : AV) (h : Heap) : OX :=
ob (yb .add d (.int .i64 1)) fun e =>
(ych c b j k g i a e h)
def y28m := KK8 y1qr 1 3 5 6 7 102 103 104
theorem y1sc : T1 ywg y7m (y6 8 y6g (y6 5 y24 (y6 4 yi (y6 3 yi (y6 2 y1p xN))))) [.t 2] y28m := fun _ => by kernel_rfl
def y1jm (e l a n b c u d : AV) (h : Heap) : OX :=
ob (y10 1 c d) fun t =>
ob (evLd false 1 t h) fun g =>
ob (yp a) fun i =>
ob (evFa 2 i) fun r =>
ob (evLd false 1 r h) fun p =>
ob (y10 1 p b) fun x =>
ob (evLd false 1 x h) fun v =>
ob (yp a) fun j =>
ob (evFa 0 j) fun k =>
ob (evLd false 1 k h) fun w =>
ob (y10 1 w g) fun o =>
ob (evLd false 1 o h) fun m =>
oh (yc E (yd E) 0 none false 84 [v, m] h) fun y h8 =>
(y1qr e l a n b c u d h8)
def y2g4 := KK8 y1jm 1 3 5 6 7 102 103 104
theorem y1oy : T1 yvc y7m (y6 8 y6g (y6 5 y24 (y6 4 yi (y6 3 yi (y6 2 y1p xN))))) [.t 2] y2g4 := sq y1sc fun _ => by kernel_rfl
def yv6 (b a d e c k g j i : AV) (h : Heap) : OX :=
cnd i
 ((y1jm b a d e c k g j h))
 ((y1io b a d e c h))
def y2f7 := KK9 yv6 1 3 5 6 7 102 103 104 105
theorem y1lq : T1 y0e y7m (y6 8 y6g (y6 5 y24 (y6 4 yi (y6 3 yi (y6 2 y1p xN))))) [.t 2] y2f7 := sq y1oy fun _ => by kernel_rfl
def y134 (e c j k g i a b : AV) (h : Heap) : OX :=
ob (yb .lss b a) fun d =>
(yv6 e c j k g i a b d h)
def y299 := KK8 y134 1 3 5 6 7 102 103 104
theorem y1mx : T1 yvu y7m (y6 8 y6g (y6 5 y24 (y6 4 yi (y6 3 yi (y6 2 y1p xN))))) [.t 2] y299 := sq y1lq fun _ => by kernel_rfl
theorem yln (c b i j e g a d : AV) (h : Heap) : ych c b i j e g a d h = (y134 c b i j e g a d h) :=
 y27.trans ((y1q _ _ _ (n' := y7m) (fun s => ykw s)).trans ((y1mx _).trans (by kernel_rfl)))
theorem y193 : T1 y11e y6g (y6 5 y24 (y6 4 yi (y6 3 yi (y6 2 y1p xN)))) [.t 2] y7m := fun s => y11.trans (ykw s)
def y1kl (a e i j b : AV) (h : Heap) : OX :=
ob (evLd true 5 a h) fun g =>
oh (yc E (yd E) 0 none true 79 [g, b] h) fun c h9 =>
ob (y17 1 c h9) fun d =>
(ych a e i j b c d (.int .i64 0) h9)
def y5f := KK5 y1kl 1 3 5 6 7
theorem y18g : T1 yz6 y6g (y6 5 y24 (y6 4 yi (y6 3 yi (y6 2 y1p xN)))) [.t 2] y5f := sq y193 fun _ => by kernel_rfl
theorem y1ns : T1 y11t y24 (y6 5 y24 (y6 4 yi (y6 3 yi (y6 2 y1p xN)))) [.t 2] y5f := sq y1dy y18g
def yc4 (b a e i c d j g : AV) (h : Heap) : OX :=
 W E 0 yhq ⟨[(1, b), (3, a), (5, e), (6, i), (7, c), (78, d), (79, j), (80, g)], h⟩ y5f (y6 6 y5f (y6 5 y24 (y6 4 yi (y6 3 yi (y6 2 y1p xN))))) (finP [.t 2])
def y85 := KK8 yc4 1 3 5 6 7 78 79 80
theorem ylr : T1 yhq y5f (y6 6 y5f (y6 5 y24 (y6 4 yi (y6 3 yi (y6 2 y1p xN))))) [.t 2] y85 := fun s => yu.trans (by kernel_rfl)
def y1c7 (c b g j d e k i : AV) (h : Heap) : OX :=
ob (yb .add i (.int .i64 1)) fun a =>
(yc4 c b g j d e k a h)
def y29o := KK8 y1c7 1 3 5 6 7 78 79 80
theorem y186 : T1 y15c y85 (y6 6 y5f (y6 5 y24 (y6 4 yi (y6 3 yi (y6 2 y1p xN))))) [.t 2] y29o := fun _ => by kernel_rfl
def y1po (e j a n b c v d : AV) (h : Heap) : OX :=
ob (y10 1 c d) fun r =>
ob (evLd false 1 r h) fun l =>
ob (yp a) fun o =>
ob (evFa 1 o) fun w =>
ob (evLd false 1 w h) fun p =>
ob (y10 1 p b) fun g =>
ob (evLd false 1 g h) fun k =>
ob (yp a) fun m =>
ob (evFa 0 m) fun i =>
ob (evLd false 1 i h) fun x =>
ob (y10 1 x l) fun u =>
ob (evLd false 1 u h) fun t =>
oh (yc E (yd E) 0 none false 84 [k, t] h) fun y h10 =>
(y1c7 e j a n b c v d h10)
def y29k := KK8 y1po 1 3 5 6 7 78 79 80
theorem y1qc : T1 yv3 y85 (y6 6 y5f (y6 5 y24 (y6 4 yi (y6 3 yi (y6 2 y1p xN))))) [.t 2] y29k := sq y186 fun _ => by kernel_rfl
def yv4 (b a d e c i k j g : AV) (h : Heap) : OX :=
cnd g
 ((y1po b a d e c i k j h))
 ((y1kl b a d e c h))
def y2cb := KK9 yv4 1 3 5 6 7 78 79 80 81
theorem y1q2 : T1 yxs y85 (y6 6 y5f (y6 5 y24 (y6 4 yi (y6 3 yi (y6 2 y1p xN))))) [.t 2] y2cb := sq y1qc fun _ => by kernel_rfl
def yw8 (d c j k g i b a : AV) (h : Heap) : OX :=
ob (yb .lss a b) fun e =>
(yv4 d c j k g i b a e h)
def y28r := KK8 yw8 1 3 5 6 7 78 79 80
theorem y1pe : T1 y115 y85 (y6 6 y5f (y6 5 y24 (y6 4 yi (y6 3 yi (y6 2 y1p xN))))) [.t 2] y28r := sq y1q2 fun _ => by kernel_rfl
theorem ym8 (b a e i c d j g : AV) (h : Heap) : yc4 b a e i c d j g h = (yw8 b a e i c d j g h) :=
 y27.trans ((y1q _ _ _ (n' := y85) (fun s => ylr s)).trans ((y1pe _).trans (by kernel_rfl)))
theorem y1a6 : T1 yyo y5f (y6 5 y24 (y6 4 yi (y6 3 yi (y6 2 y1p xN)))) [.t 2] y85 := fun s => y11.trans (ylr s)
def y1gb (a d g i b : AV) (h : Heap) : OX :=
ob (evLd true 5 a h) fun e =>
oh (yc E (yd E) 0 none true 81 [e, b] h) fun c h11 =>
ob (y17 1 c h11) fun j =>
(yc4 a d g i b c j (.int .i64 0) h11)
def yok := KK5 y1gb 1 3 5 6 7
theorem y1bz : T1 y14o y5f (y6 5 y24 (y6 4 yi (y6 3 yi (y6 2 y1p xN)))) [.t 2] yok := sq y1a6 fun _ => by kernel_rfl
theorem y1al : T1 y13z y24 (y6 5 y24 (y6 4 yi (y6 3 yi (y6 2 y1p xN)))) [.t 2] yok := sq y1ns y1bz
theorem y1n5 : T1 y14i y24 (y6 4 yi (y6 3 yi (y6 2 y1p xN))) [.t 2] yok := fun s => y11.trans (y1al s)
theorem y1eu : T1 y0x yf4 (y6 4 yi (y6 3 yi (y6 2 y1p xN))) [.t 2] yok := sq y1xl y1n5
def y12z (b a d e c : AV) (h : Heap) : OX :=
ob (yb .geq c (.int .i64 0)) fun g =>
cnd g
 ((y1gb b a d e c h))
 ((yd2 b a d e h))
def y29l := KK5 y12z 1 3 5 6 7
theorem y19n : T1 y12g yf4 (y6 4 yi (y6 3 yi (y6 2 y1p xN))) [.t 2] y29l := sq y1eu fun _ => by kernel_rfl
theorem yqk (b a d e c : AV) (h : Heap) : yjk b a d e c h = (y12z b a d e c h) :=
 y27.trans ((y1q _ _ _ (n' := yf4) (fun s => yr7 s)).trans ((y19n _).trans (by kernel_rfl)))
theorem y182 : T1 yxr yi (y6 3 yi (y6 2 y1p xN)) [.t 2] yf4 := fun s => y11.trans (yr7 s)
def y1pw (c a d e : AV) (h : Heap) : OX :=
ob (yb .sub a (.int .i64 1)) fun b =>
(yjk c a d e b h)
def y2ey := KK4 y1pw 1 3 5 6
theorem y1or : T1 yuz yi (y6 3 yi (y6 2 y1p xN)) [.t 2] y2ey := sq y182 fun _ => by kernel_rfl
def y1hd (b a c : AV) (h : Heap) : OX :=
(y1pw b a c (.bool false) h)
def y187 := KK3 y1hd 1 3 5
theorem y1ng : T1 y0l yi (y6 3 yi (y6 2 y1p xN)) [.t 2] y187 := sq y1or fun _ => by kernel_rfl
theorem y1jx : T1 yv5 yi (y6 2 y1p xN) [.t 2] y187 := fun s => y11.trans (y1ng s)
def yx9 (d b a c : AV) (h : Heap) : OX :=
cnd c
 ((y1hd d b a h))
 ((y18v a h))
def y2ex := KK4 yx9 1 3 5 6
theorem y1g9 : T1 yw3 yi (y6 2 y1p xN) [.t 2] y2ex := sq y1jx fun _ => by kernel_rfl
theorem ypi (c a d b : AV) (h : Heap) : yd2 c a d b h = (yx9 c a d b h) :=
 y27.trans ((y1q _ _ _ (n' := yi) (fun s => ys3 s)).trans ((y1g9 _).trans (by kernel_rfl)))
theorem y1jq : T1 yz1 y1p xN [.t 2] yi := fun s => y11.trans (ys3 s)
def y0q (b a c : AV) (h : Heap) : OX :=
(yd2 b a c (.bool true) h)
def y5o := KK3 y0q 1 3 5
theorem y194 : T1 yvs y1p xN [.t 2] y5o := sq y1jq fun _ => by kernel_rfl
theorem y1jj : T0 y127 [.t 2] y5o := sq y22g y194
def yhe (b a c e d g : AV) (h : Heap) : OX :=
 W E 0 yjf ⟨[(1, b), (3, a), (4, c), (5, e), (32, d), (33, g)], h⟩ y5o (y6 0 y5o xN) (finP [.t 2])
def y7u := KK6 yhe 1 3 4 5 32 33
theorem ylk : T1 yjf y5o (y6 0 y5o xN) [.t 2] y7u := fun s => yu.trans (by kernel_rfl)
def ykx (b a c e d g : AV) (h : Heap) : OX :=
ob (yb .add g (.int .i64 1)) fun i =>
(yhe b a c e d i h)
def y2cp := KK6 ykx 1 3 4 5 32 33
theorem y1ko : T1 yze y7u (y6 0 y5o xN) [.t 2] y2cp := fun _ => by kernel_rfl
def ylu (t y b a A x : AV) (h : Heap) : OX :=
ob (yp a) fun B =>
ob (evFa 0 B) fun e =>
ob (evLd false 1 e (h ++ yj 9)) fun l =>
oh (mkSC h.length (some 0) 1 8 [(.int .u64 0)] b b (h ++ yj 9)) fun D h12 =>
oh (yl h.length (some 1) 1 1 [.nils] [(0, D)] h12) fun p h13 =>
oh (y1v h.length (some 2) 1 24 l p h13) fun z h14 =>
ob (yp a) fun I =>
ob (evFa 1 I) fun j =>
ob (evLd false 1 j h14) fun i =>
oh (mkSC h.length (some 3) 1 8 [(.int .u64 0)] b b h14) fun v h15 =>
oh (yl h.length (some 4) 1 1 [.nils] [(0, v)] h15) fun n h16 =>
oh (y1v h.length (some 5) 1 24 i n h16) fun H h17 =>
ob (yp a) fun F =>
ob (evFa 2 F) fun m =>
ob (evLd false 1 m h17) fun k =>
oh (mkSC h.length (some 6) 1 8 [(.int .u64 0)] b b h17) fun w h18 =>
oh (yl h.length (some 7) 1 1 [.nils] [(0, w)] h18) fun d h19 =>
oh (y1v h.length (some 8) 1 24 k d h19) fun u h20 =>
ob (yp a) fun C =>
ob (evFa 0 C) fun c =>
oh (evSt 1 c z h20) fun _ h21 =>
ob (yp a) fun G =>
ob (evFa 1 G) fun g =>
oh (evSt 1 g H h21) fun _ h22 =>
ob (yp a) fun r =>
ob (evFa 2 r) fun o =>
oh (evSt 1 o u h22) fun _ h23 =>
okK (y1o [([], []), ([], []), ([], []), ([], []), ([], []), ([], []), (ids1 e, []), ([], []), ([], [h.length + 0]), ([], [h.length + 1]), (ids1 p, ids1 l ++ [h.length + 2]), ([], []), ([], []), ([], []), (ids1 j, []), ([], []), ([], [h.length + 3]), ([], [h.length + 4]), (ids1 n, ids1 i ++ [h.length + 5]), ([], []), ([], []), ([], []), (ids1 m, []), ([], []), ([], [h.length + 6]), ([], [h.length + 7]), (ids1 d, ids1 k ++ [h.length + 8]), ([], []), ([], []), ([], ids1 c), ([], []), ([], []), ([], ids1 g), ([], []), ([], []), ([], ids1 o)] [(6, 8), (6, 9), (8, 14), (9, 14), (10, 14), (6, 16), (8, 16), (9, 16), (10, 16), (14, 16), (6, 17), (8, 17), (9, 17), (10, 17), (14, 17), (8, 22), (9, 22), (10, 22), (16, 22), (17, 22), (18, 22), (6, 24), (8, 24), (9, 24), (10, 24), (14, 24), (16, 24), (17, 24), (18, 24), (22, 24), (6, 25), (8, 25), (9, 25), (10, 25), (14, 25), (16, 25), (17, 25), (18, 25), (22, 25)]) <|
(ykx t y b a A x h23)
def y2e9 := KK6 ylu 1 3 4 5 32 33
theorem y1f5 : T1 y154 y7u (y6 0 y5o xN) [.t 2] y2e9 := sq y1ko fun _ => by kernel_rfl
def yp2 (b a d c g i e : AV) (h : Heap) : OX :=
cnd e
 ((ylu b a d c g i h))
 ((y0q b a c h))
def y2ag := KK7 yp2 1 3 4 5 32 33 34
theorem y1rb : T1 yx8 y7u (y6 0 y5o xN) [.t 2] y2ag := sq y1f5 fun _ => by kernel_rfl
def yrc (d c e i a b : AV) (h : Heap) : OX :=
ob (yb .lss b a) fun g =>
(yp2 d c e i a b g h)
def y290 := KK6 yrc 1 3 4 5 32 33
theorem y1ex : T1 yzs y7u (y6 0 y5o xN) [.t 2] y290 := sq y1rb fun _ => by kernel_rfl
theorem yec (b a c e d g : AV) (h : Heap) : yhe b a c e d g h = (yrc b a c e d g h) :=
 y27.trans ((y1q _ _ _ (n' := y7u) (fun s => ylk s)).trans ((y1ex _).trans (by kernel_rfl)))
theorem y1nb : T1 y00 y5o xN [.t 2] y7u := fun s => y11.trans (ylk s)
def y1my (c a b d : AV) (h : Heap) : OX :=
(yhe c a b d a (.int .i64 0) h)
def y1ga := KK4 y1my 1 3 4 5
theorem y1hz : T1 yx3 y5o xN [.t 2] y1ga := sq y1nb fun _ => by kernel_rfl
theorem y1eh : T0 y137 [.t 2] y1ga := sq y1jj y1hz
def y18e (a b e : AV) (h : Heap) : OX :=
ob (evFa 0 a) fun j =>
ob (evLd false 1 j h) fun d =>
ob (y17 1 d h) fun c =>
ob (yq zq5 [(3, 1, c)]) fun i =>
oh (newC 0 (some 1) (cellsOf i) h) fun g h24 =>
(y1my a b e g h24)
def y2dz := KK3 y18e 1 3 4
theorem y1ce : T0 y0i [.t 2] y2dz := sq y1eh fun _ => by kernel_rfl
def y1ee (a : AV) (h : Heap) : OX :=
ob (evFa 3 a) fun i =>
ob (evLd false 1 i h) fun k =>
ob (y17 1 k h) fun g =>
ob (evFa 0 a) fun j =>
ob (evLd false 1 j h) fun c =>
ob (y17 1 c h) fun d =>
ob (yb .quo d (.int .i64 64)) fun b =>
ob (yb .add b (.int .i64 1)) fun e =>
(y18e a g e h)
def y2dw := KK1 y1ee 1
theorem y1l9 : T0 yyy [.t 2] y2dw := sq y1ce fun _ => by kernel_rfl
def y18o (a : AV) (h : Heap) : OX :=
ob (evLd true 5 a h) fun c =>
oh (yc E (yd E) 0 none true 8 [c] h) fun b h25 =>
ob (yb .neq b (.int .i64 0)) fun d =>
cnd d
 ((yo h25 AV.nilp))
 ((y1ee a h25))
def y29q := KK1 y18o 1
theorem y1e0 : T0 yz7 [.t 2] y29q := sq y1l9 fun _ => by kernel_rfl
def y1n7 (a : AV) (h : Heap) : OX :=
oh (newC 0 (some 0) (cellsOf a) h) fun b h26 =>
(y18o b h26)
def y2gs := KK1 y1n7 0
theorem y1oq : T0 yxb [.t 2] y2gs := sq y1e0 fun _ => by kernel_rfl
@[simp] theorem y2sw : E.pure 75 = true := rfl
theorem y2tm (a : AV) : (yd E).p 75 [a] = y1n7 a [⟨0, .dead⟩, ⟨0, .dead⟩, ⟨0, .dead⟩] :=
 (y1r (cf := y2kx) (by kernel_rfl) rfl).trans ((y1oq _).trans (by kernel_rfl))
def y2g3 (c : AV) (h : Heap) : OX :=
oh (newC 0 (some 0) (cellsOf c) h) fun b h1 =>
ob (evFa 0 b) fun d =>
ob (evLd false 1 d h1) fun i =>
ob (yb .geq i (.int .i64 23)) fun a =>
gb a true (evFa 0 b) fun k =>
gb a true (evLd false 1 k h1) fun g =>
gb a true (yb .leq g (.int .i64 26)) fun e =>
ob (yh a e (.bool false)) fun j =>
(yo h1 j)
def y2it := KK1 y2g3 0
theorem y1v5 : T0 y1t3 [.t 2] y2it := fun _ => by kernel_rfl
@[simp] theorem yt6 : E.pure 17 = true := rfl
theorem y2u1 (a : AV) : (yd E).p 17 [a] = y2g3 a [⟨0, .dead⟩] :=
 (y1r (cf := y2o4) (by kernel_rfl) rfl).trans ((y1v5 _).trans (by kernel_rfl))
def ytc (c e d i : AV) (h : Heap) : OX :=
ob (yp c) fun j =>
ob (evFa 2 j) fun n =>
ob (evLd false 1 n h) fun D =>
oh (yc E (yd E) 0 none true 82 [c, D, e, d] h) fun a h1 =>
gb a false (some c) fun k =>
gb a false (some c) fun t =>
gb a false (yp t) fun r =>
gb a false (evFa 1 r) fun u =>
gb a false (evLd false 1 u h1) fun z =>
gb a false (some e) fun o =>
gb a false (some d) fun A =>
gh a false (yc E (yd E) 0 none true 82 [k, z, o, A] h1) h1 fun F h2 =>
gb a false (some F) fun b =>
gb b true (evFa 3 i) fun l =>
gb b true (evLd false 1 l h2) fun C =>
gb b true (some e) fun g =>
gb b true (y10 9 C g) fun y =>
gb b true (evLd true 9 y h2) fun w =>
gh b true (yc E (yd E) 0 none true 9 [w] h2) h2 fun B h3 =>
gb b true (some d) fun v =>
gb b true (yb .neq B v) fun x =>
gb a false (yh b x (.bool false)) fun p =>
ob (yh a (.bool true) p) fun m =>
(yo h3 m)
def y2nm := KK4 ytc 0 2 3 5
theorem y1xh : T0 y18w [.t 8] y2nm := fun _ => by kernel_rfl
def yum (d c m g : AV) (h : Heap) : OX :=
ob (yg0 0 false d AV.nilp) fun e =>
gb e false (some c) fun v =>
gb e false (yb .lss v (.int .i64 0)) fun u =>
ob (yh e (.bool true) u) fun b =>
gb b false (some c) fun z =>
gb b false (evFa 3 g) fun n =>
gb b false (evLd false 1 n h) fun t =>
gb b false (y17 1 t h) fun y =>
gb b false (yb .geq z y) fun x =>
ob (yh b (.bool true) x) fun a =>
gb a false (some c) fun l =>
gb a false (some d) fun p =>
gb a false (yp p) fun i =>
gb a false (evFa 1 i) fun r =>
gb a false (evLd false 1 r h) fun w =>
gb a false (y17 1 w h) fun j =>
gb a false (yb .geq l j) fun o =>
ob (yh a (.bool true) o) fun k =>
cnd k
 ((yo h (.bool false)))
 ((ytc d c m g h))
def y2nv := KK4 yum 0 2 3 5
theorem y24e : T0 y1bc [.t 8] y2nv := sq y1xh fun _ => by kernel_rfl
def yud (a c e b : AV) (h : Heap) : OX :=
oh (newC 0 (some 0) (cellsOf c) h) fun d h4 =>
(yum a e b d h4)
def y2pr := KK4 yud 0 1 2 3
theorem y1xy : T0 y1c9 [.t 8] y2pr := sq y24e fun _ => by kernel_rfl
@[simp] theorem y2t7 : E.pure 88 = true := rfl
theorem y2r6 (a c b d : AV) : (yd E).p 88 [a, c, b, d] = yud a c b d [⟨0, .dead⟩] :=
 (y1r (cf := y2kp) (by kernel_rfl) rfl).trans ((y1xy _).trans (by kernel_rfl))
def y1en (h : Heap) : OX :=
(yo h (.int .i64 0))
def y9z := KK0 y1en
theorem y1y3 : T0 y1ff [.t 2] y9z := fun _ => by kernel_rfl
def ykb (a : AV) (h : Heap) : OX :=
cnd a
 ((yo h (.int .i64 2)))
 ((y1en h))
def y2j5 := KK1 ykb 19
theorem y1y5 : T1 y1fw y9z (y6 0 y9z xN) [.t 2] y2j5 := fun _ => by kernel_rfl
def y1fk (a : AV) (h : Heap) : OX :=
ob (yb .eql a (.int .i64 28)) fun g =>
cnd g
 ((ykb g h))
 (ob (yb .eql a (.int .i64 29)) fun d =>
cnd d
 ((ykb d h))
 (ob (yb .eql a (.int .i64 23)) fun e =>
cnd e
 ((ykb e h))
 (ob (yb .eql a (.int .i64 24)) fun b =>
cnd b
 ((ykb b h))
 (ob (yb .eql a (.int .i64 25)) fun c =>
cnd c
 ((ykb c h))
 (ob (yb .eql a (.int .i64 26)) fun i =>
(ykb i h))))))
def y2kj := KK1 y1fk 3
theorem y1uy : T1 y1dg y9z (y6 0 y9z xN) [.t 2] y2kj := sq y1y5 fun _ => by kernel_rfl
def y9p (a b : AV) (h : Heap) : OX :=
cnd b
 ((yo h (.int .i64 1)))
 ((y1fk a h))
def y2jg := KK2 y9p 3 4
theorem y1y0 : T1 y1j7 y9z (y6 0 y9z xN) [.t 2] y2jg := fun s => (y1s rfl (y1uy s)).trans (by kernel_rfl)
def y197 (a : AV) (h : Heap) : OX :=
ob (yb .eql a (.int .i64 1)) fun m =>
cnd m
 ((y9p a m h))
 (ob (yb .eql a (.int .i64 3)) fun o =>
cnd o
 ((y9p a o h))
 (ob (yb .eql a (.int .i64 5)) fun l =>
cnd l
 ((y9p a l h))
 (ob (yb .eql a (.int .i64 6)) fun g =>
cnd g
 ((y9p a g h))
 (ob (yb .eql a (.int .i64 12)) fun e =>
cnd e
 ((y9p a e h))
 (ob (yb .eql a (.int .i64 14)) fun k =>
cnd k
 ((y9p a k h))
 (ob (yb .eql a (.int .i64 16)) fun b =>
cnd b
 ((y9p a b h))
 (ob (yb .eql a (.int .i64 17)) fun p =>
cnd p
 ((y9p a p h))
 (ob (yb .eql a (.int .i64 18)) fun n =>
cnd n
 ((y9p a n h))
 (ob (yb .eql a (.int .i64 19)) fun i =>
cnd i
 ((y9p a i h))
 (ob (yb .eql a (.int .i64 20)) fun d =>
cnd d
 ((y9p a d h))
 (ob (yb .eql a (.int .i64 21)) fun j =>
cnd j
 ((y9p a j h))
 (ob (yb .eql a (.int .i64 22)) fun c =>
cnd c
 ((y9p a c h))
 (ob (yb .eql a (.int .i64 27)) fun r =>
(y9p a r h))))))))))))))
def y25k := KK1 y197 3
theorem y1yl : T1 y1ab y9z (y6 0 y9z xN) [.t 2] y25k := sq y1y0 fun _ => by kernel_rfl
theorem y247 : T1 y1dn y9z xN [.t 2] y25k := fun s => y11.trans (y1yl s)
def y1i5 (a : AV) (h : Heap) : OX :=
(y197 a h)
def y259 := KK1 y1i5 0
theorem y1vy : T1 y1sr y9z xN [.t 2] y259 := sq y247 fun _ => by kernel_rfl
theorem y1wl : T0 y1gz [.t 2] y259 := sq y1y3 y1vy
def y1tb (a : AV) (h : Heap) : OX :=
(y1i5 a h)
def y2i8 := KK1 y1tb 0
theorem y1vp : T0 y1s0 [.t 2] y2i8 := sq y1wl fun _ => by kernel_rfl
@[simp] theorem y2qf : E.pure 234 = true := rfl
theorem y2tl (a : AV) : (yd E).p 234 [a] = y1tb a [] :=
 (y1r (cf := y2iq) (by kernel_rfl) rfl).trans ((y1vp _).trans (by kernel_rfl))
def q7_1 (a : AV) (h : Heap) : OX :=
ob (yb .and a (.int .u32 255)) fun b =>
ob (y80 .i64 b) fun c =>
(yo h c)
def y2u9 := KK1 q7_1 0
theorem y2eo : T0 y25d [.t 2] y2u9 := fun _ => by kernel_rfl
def q7_2 (a : AV) (h : Heap) : OX :=
ob (yb .and a (.int .u32 255)) fun b =>
ob (yb .eql b (.int .u32 255)) fun c =>
cnd c
 ((yo h (.int .i64 (-1))))
 ((q7_1 a h))
def y2qz := KK1 q7_2 0
theorem y2bp : T0 y26d [.t 2] y2qz := sq y2eo fun _ => by kernel_rfl
def q7_3 (a : AV) (h : Heap) : OX :=
(q7_2 a h)
def y2sd := KK1 q7_3 0
theorem y2f4 : T0 y25e [.t 2] y2sd := sq y2bp fun _ => by kernel_rfl
@[simp] theorem y2px : E.pure 235 = true := rfl
theorem x_q7 (a : AV) : (yd E).p 235 [a] = q7_3 a [] :=
 (y1r (cf := c_q7) (by kernel_rfl) rfl).trans ((y2f4 _).trans (by kernel_rfl))
def yji (fb : Nat) (h : Heap) : Option (AV × Heap) :=
(some ((.bool true), h))
def y31 (fb : Nat) := KK0 (yji fb)
theorem y20w (fb : Nat) (s : St) : W E fb y1ad s (finI [.t 6]) xN (finI [.t 6]) = y31 fb s :=
 by kernel_rfl
def y2aw (fb : Nat) (c b d : AV) (h : Heap) : Option (AV × Heap) :=
ob (evFa 4 b) fun g =>
ob (evLd false 1 g h) fun e =>
ob (y10 1 e d) fun k =>
ob (evLd false 1 k h) fun i =>
ob (yp c) fun a =>
ob (evFa 7 a) fun j =>
oh (evSt 1 j i h) fun _ h1 =>
(yji fb h1)
def y26k (fb : Nat) := KK3 (y2aw fb) 1 3 7
theorem y1w1 (fb : Nat) (s : St) : W E fb y1ij s (y31 fb) (y6 0 (y31 fb) xN) (finI [.t 6]) = y26k fb s :=
 by kernel_rfl
def y1c8 (fb : Nat) (d a b : AV) (h : Heap) : Option (AV × Heap) :=
ob (evFa 4 a) fun g =>
ob (evLd false 1 g h) fun i =>
ob (y17 1 i h) fun e =>
ob (yb .geq b e) fun c =>
cnd c
 ((some ((.bool false), h)))
 ((y2aw fb d a b h))
def y2ia (fb : Nat) := KK3 (y1c8 fb) 1 3 7
theorem y1x7 (fb : Nat) (s : St) : W E fb y1r2 s (y31 fb) (y6 0 (y31 fb) xN) (finI [.t 6]) = y2ia fb s :=
 (y32 (k := (y26k fb)) (fun s => y1w1 fb s)).trans (by kernel_rfl)
def y2g9 (fb : Nat) (d b j : AV) (h : Heap) : Option (AV × Heap) :=
ob (evFa 3 b) fun a =>
ob (evLd false 1 a h) fun g =>
ob (y10 1 g j) fun e =>
ob (evLd false 1 e h) fun c =>
ob (yp d) fun k =>
ob (evFa 5 k) fun i =>
oh (evSt 1 i c h) fun _ h2 =>
(yji fb h2)
def y24u (fb : Nat) := KK3 (y2g9 fb) 1 3 7
theorem y22u (fb : Nat) (s : St) : W E fb y1ap s (y31 fb) (y6 0 (y31 fb) xN) (finI [.t 6]) = y24u fb s :=
 by kernel_rfl
def y19l (fb : Nat) (d a b : AV) (h : Heap) : Option (AV × Heap) :=
ob (evFa 3 a) fun i =>
ob (evLd false 1 i h) fun e =>
ob (y17 1 e h) fun g =>
ob (yb .geq b g) fun c =>
cnd c
 ((some ((.bool false), h)))
 ((y2g9 fb d a b h))
def y2nh (fb : Nat) := KK3 (y19l fb) 1 3 7
theorem y229 (fb : Nat) (s : St) : W E fb y1kv s (y31 fb) (y6 0 (y31 fb) xN) (finI [.t 6]) = y2nh fb s :=
 (y32 (k := (y24u fb)) (fun s => y22u fb s)).trans (by kernel_rfl)
def y1df (fb : Nat) (a n d b j : AV) (h : Heap) : Option (AV × Heap) :=
cnd j
 (ob (y10 1 n (.int .i64 1)) fun l =>
ob (evLd false 1 l h) fun c =>
ob (y80 .i64 c) fun e =>
ob (yp a) fun m =>
ob (evFa 6 m) fun k =>
oh (evSt 1 k b h) fun _ h3 =>
ob (yp a) fun i =>
ob (evFa 5 i) fun g =>
oh (evSt 1 g e h3) fun _ h4 =>
(yji fb h4))
 ((y19l fb a d b h))
def y24q (fb : Nat) := KK5 (y1df fb) 1 2 3 7 63
theorem y23r (fb : Nat) (s : St) : W E fb y1ld s (y31 fb) (y6 0 (y31 fb) xN) (finI [.t 6]) = y24q fb s :=
 (y1s rfl (y229 fb s)).trans (by kernel_rfl)
def y1uk (fb : Nat) (c g a e d : AV) (h : Heap) : Option (AV × Heap) :=
ob (yb .eql d (.int .i64 28)) fun b =>
cnd b
 ((y1df fb c g a e b h))
 (ob (yb .eql d (.int .i64 29)) fun i =>
(y1df fb c g a e i h))
def y2j1 (fb : Nat) := KK5 (y1uk fb) 1 2 3 7 18
theorem y23b (fb : Nat) (s : St) : W E fb y1ku s (y31 fb) (y6 0 (y31 fb) xN) (finI [.t 6]) = y2j1 fb s :=
 (y32 (k := (y24q fb)) (fun s => y23r fb s)).trans (by kernel_rfl)
def y1fu (fb : Nat) (a j d b e c : AV) (h : Heap) : Option (AV × Heap) :=
cnd c
 (ob (yp a) fun g =>
ob (evFa 6 g) fun i =>
oh (evSt 1 i b h) fun _ h5 =>
(yji fb h5))
 ((y1uk fb a j d b e h))
def y26r (fb : Nat) := KK6 (y1fu fb) 1 2 3 7 18 57
theorem y1ws (fb : Nat) (s : St) : W E fb y1dd s (y31 fb) (y6 0 (y31 fb) xN) (finI [.t 6]) = y26r fb s :=
 (y1s rfl (y23b fb s)).trans (by kernel_rfl)
def y195 (fb : Nat) (d g b e a : AV) (h : Heap) : Option (AV × Heap) :=
ob (yb .eql a (.int .i64 27)) fun c =>
(y1fu fb d g b e a c h)
def y2my (fb : Nat) := KK5 (y195 fb) 1 2 3 7 18
theorem y1yu (fb : Nat) (s : St) : W E fb y1cx s (y31 fb) (y6 0 (y31 fb) xN) (finI [.t 6]) = y2my fb s :=
 (y32 (k := (y26r fb)) (fun s => y1ws fb s)).trans (by kernel_rfl)
def ykt (fb : Nat) (a j d b g i : AV) (h : Heap) : Option (AV × Heap) :=
cnd i
 (ob (yp a) fun c =>
ob (evFa 4 c) fun e =>
oh (evSt 1 e b h) fun _ h6 =>
(yji fb h6))
 ((y195 fb a j d b g h))
def y19o (fb : Nat) := KK6 (ykt fb) 1 2 3 7 18 51
theorem y1mw (fb : Nat) (s : St) : W E fb yyv s (y31 fb) (y6 0 (y31 fb) xN) (finI [.t 6]) = y19o fb s :=
 (y1s rfl (y1yu fb s)).trans (by kernel_rfl)
def ym0 (fb : Nat) (c g b e a : AV) (h : Heap) : Option (AV × Heap) :=
ob (yb .eql a (.int .i64 14)) fun d =>
(ykt fb c g b e a d h)
def y291 (fb : Nat) := KK5 (ym0 fb) 1 2 3 7 18
theorem y1p9 (fb : Nat) (s : St) : W E fb y12x s (y31 fb) (y6 0 (y31 fb) xN) (finI [.t 6]) = y291 fb s :=
 (y32 (k := (y19o fb)) (fun s => y1mw fb s)).trans (by kernel_rfl)
def yal (fb : Nat) (b g a c d e : AV) (h : Heap) : Option (AV × Heap) :=
cnd e
 ((y1c8 fb b a c h))
 ((ym0 fb b g a c d h))
def y1e2 (fb : Nat) := KK6 (yal fb) 1 2 3 7 18 32
theorem y18k (fb : Nat) (s : St) : W E fb y11f s (y31 fb) (y6 0 (y31 fb) xN) (finI [.t 6]) = y1e2 fb s :=
 (y1s (y1x7 fb s) (y1p9 fb s)).trans (by kernel_rfl)
def yfs (fb : Nat) (c e b d a : AV) (h : Heap) : Option (AV × Heap) :=
ob (yb .eql a (.int .i64 3)) fun k =>
cnd k
 ((yal fb c e b d a k h))
 (ob (yb .eql a (.int .i64 12)) fun i =>
cnd i
 ((yal fb c e b d a i h))
 (ob (yb .eql a (.int .i64 21)) fun g =>
cnd g
 ((yal fb c e b d a g h))
 (ob (yb .eql a (.int .i64 22)) fun j =>
cnd j
 ((yal fb c e b d a j h))
 (ob (yb .eql a (.int .i64 25)) fun l =>
(yal fb c e b d a l h)))))
def yu2 (fb : Nat) := KK5 (yfs fb) 1 2 3 7 18
theorem y18u (fb : Nat) (s : St) : W E fb yz3 s (y31 fb) (y6 0 (y31 fb) xN) (finI [.t 6]) = yu2 fb s :=
 (y32 (k := (y1e2 fb)) (fun s => y18k fb s)).trans (by kernel_rfl)
theorem y1ly (fb : Nat) (s : St) : W E fb yvf s (y31 fb) xN (finI [.t 6]) = yu2 fb s :=
 y11.trans (y18u fb s)
def y1du (fb : Nat) (a i b e : AV) (h : Heap) : Option (AV × Heap) :=
ob (yp a) fun g =>
ob (evFa 0 g) fun c =>
ob (evLd false 1 c h) fun d =>
(yfs fb a i b e d h)
def yt7 (fb : Nat) := KK4 (y1du fb) 1 2 3 7
theorem y1re (fb : Nat) (s : St) : W E fb yxf s (y31 fb) xN (finI [.t 6]) = yt7 fb s :=
 (y32 (k := (yu2 fb)) (fun s => y1ly fb s)).trans (by kernel_rfl)
theorem y1em (fb : Nat) (s : St) : W E fb y11k s (finI [.t 6]) xN (finI [.t 6]) = yt7 fb s :=
 (y32 (k := (y31 fb)) (fun s => y20w fb s)).trans (y1re fb s)
def y1j6 (fb : Nat) (c a b : AV) (h : Heap) : Option (AV × Heap) :=
ob (y10 1 a (.int .i64 0)) fun g =>
ob (evLd false 1 g h) fun e =>
ob (y80 .i64 e) fun d =>
(y1du fb c a b d h)
def y19j (fb : Nat) := KK3 (y1j6 fb) 1 2 3
theorem y17y (fb : Nat) (s : St) : W E fb yyn s (finI [.t 6]) xN (finI [.t 6]) = y19j fb s :=
 (y32 (k := (yt7 fb)) (fun s => y1em fb s)).trans (by kernel_rfl)
def yq9 (fb : Nat) (d a b : AV) (h : Heap) : Option (AV × Heap) :=
ob (y17 1 a h) fun c =>
ob (yb .eql c (.int .i64 0)) fun e =>
cnd e
 ((some ((.bool true), h)))
 ((y1j6 fb d a b h))
def y1ck (fb : Nat) := KK3 (yq9 fb) 1 2 3
theorem y1a3 (fb : Nat) (s : St) : W E fb y13p s (finI [.t 6]) xN (finI [.t 6]) = y1ck fb s :=
 (y32 (k := (y19j fb)) (fun s => y17y fb s)).trans (by kernel_rfl)
def y1b3 (fb : Nat) (a c b : AV) (h : Heap) : Option (AV × Heap) :=
oh (newC fb (some 0) (cellsOf a) h) fun d h7 =>
(yq9 fb c b d h7)
def y2d2 (fb : Nat) := KK3 (y1b3 fb) 0 1 2
theorem y1nz (fb : Nat) (s : St) : W E fb y14l s (finI [.t 6]) xN (finI [.t 6]) = y2d2 fb s :=
 (y32 (k := (y1ck fb)) (fun s => y1a3 fb s)).trans (by kernel_rfl)
@[simp] theorem y2q6 : E.pure 236 = false := rfl
theorem y2ro (fb : Nat) (a c b : AV) (h : Heap) : (yd E).i 236 [a, c, b] fb h = y1b3 fb a c b (if fb = h.length then h ++ yj 1 else h) :=
 (y6b (cf := y2jk) (by kernel_rfl) rfl).trans ((y1nz fb _).trans (by kernel_rfl))
def y295 (d : AV) (h : Heap) : OX :=
oh (newC 0 (some 0) (cellsOf d) h) fun c h1 =>
ob (evFa 0 c) fun e =>
ob (evLd false 1 e h1) fun k =>
ob (yb .eql k (.int .i64 27)) fun b =>
gb b false (evFa 0 c) fun m =>
gb b false (evLd false 1 m h1) fun j =>
gb b false (yb .eql j (.int .i64 30)) fun i =>
ob (yh b (.bool true) i) fun a =>
gb a false (evFa 0 c) fun o =>
gb a false (evLd false 1 o h1) fun n =>
gb a false (yb .eql n (.int .i64 31)) fun l =>
ob (yh a (.bool true) l) fun g =>
(yo h1 g)
def y2jm := KK1 y295 0
theorem y24g : T0 y1gu [.t 2] y2jm := fun _ => by kernel_rfl
@[simp] theorem y2s3 : E.pure 24 = true := rfl
theorem y2sv (a : AV) : (yd E).p 24 [a] = y295 a [⟨0, .dead⟩] :=
 (y1r (cf := y2on) (by kernel_rfl) rfl).trans ((y24g _).trans (by kernel_rfl))
def y0n (a d : AV) (h : Heap) : OX :=
oh (yc E (yd E) 0 none true 45 [a, d] h) fun c h1 =>
ob (yb .geq c (.int .i64 0)) fun b =>
(yo h1 b)
def y27x := KK2 y0n 0 1
theorem y1m0 : T0 yzr [.t 4] y27x := fun _ => by kernel_rfl
@[simp] theorem y2qv : E.pure 46 = true := rfl
theorem y2ms (a b : AV) : (yd E).p 46 [a, b] = y0n a b [] :=
 (y1r (cf := y26w) (by kernel_rfl) rfl).trans ((y1m0 _).trans (by kernel_rfl))
end
end Go.Vm
